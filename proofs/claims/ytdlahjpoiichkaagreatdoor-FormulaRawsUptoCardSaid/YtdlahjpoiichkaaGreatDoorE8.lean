/- An abstract interpreter over a loaded program and its soundness against the model, part 8: for every context that fits the program. -/
import Derived.Test.YtdlahjpoiichkaaGreatDoorE7
set_option linter.unusedVariables false
set_option linter.unusedSimpArgs false
set_option linter.unusedSectionVars false
namespace Go.AE
open Go
def wfX (C:Ctx) (mu:Bool):XC → Prop
 | .draw ops l => drawOps C mu ops = l
 | .seq a b => wfX C mu a ∧ wfX C mu b
 | .cond _ a b => wfX C mu a ∧ wfX C mu b
 | .block _ b => wfX C mu b
 | .loop b => wfX C mu b
 | _ => True
theorem wf_compC {C:Ctx} {mu:Bool} (c:RC):wfX C mu (compC C mu c):=by
 induction c with
 | draw ops => simp only [compC,wfX,drawOps]
 | seq a b ha hb => exact ⟨ha,hb⟩
 | cond c a b ha hb => exact ⟨ha,hb⟩
 | block id b h => exact h
 | loop b h => exact h
 | _ => trivial
def drawB:XC → Bool
 | .draw ops _ => drawable ops
 | .seq a b => drawB a && drawB b
 | .cond _ a b => drawB a && drawB b
 | .block _ b => drawB b
 | .loop b => drawB b
 | _ => true
def quietS:Op → Bool
 | .move _ | .assign _ | .pick .. | .alloc _ | .box .. | .build .. | .buildSlice .. | .nilCheck _ | .unOp .. | .makeInterface .. | .makeFunc .. | .makeMap .. | .makeSlice .. | .fieldAddr .. | .field .. | .indexAddr .. | .index ..
 | .typeAssert .. | .extract .. | .binOp .. => true
 | _ => false
theorem quietS_reads {C:Ctx} {fr:Fr} {o:Oper} (h:quietS o.op = true):readsA C fr o = some []:=by
 obtain ⟨d,op,t,p,a,g⟩:=o
 simp only [readsA]
 cases op <;> first | rfl | cases h
def tameS:Op → Bool
 | .load .. | .lookup .. | .convert .. | .slice .. => true
 | .call { callee:=.builtin .len,.. } => true
 | op => quietS op
def befM (ops:Array Oper) (i:Nat):List Bool:=ops.toList.zipIdx.map fun y => ((Region.before ops).toList.getD i 0).testBit y.2
def coarseOp:Op → Bool | .load .. => false | .lookup .. => false | .store .. => false | .insert .. => false | _ => true
theorem coarse_reads {C:Ctx} {fr:Fr} {o:Oper} (h:coarseOp o.op = true):readsA C fr o = none ∨ readsA C fr o = some []:=by
 obtain ⟨d,op,t,p,a,g⟩:=o
 cases op <;> first | (cases h; done) | (simp only [readsA]; split; exact .inr rfl; exact .inl rfl)
def sameO:Op → Op → Bool | .insert t _ _ _,.insert u _ _ _ => t == u | _,_ => false
abbrev CrI:=List (Option (Option (List Bool))) × List Bool
def drawCr (ops:Array Oper):List (Option CrI):=ops.toList.zipIdx.map fun x => if tameS x.1.op then none else some (ops.toList.zipIdx.map fun y => if quietS y.1.op || ordered (Region.before ops).toList x.2 y.2 || sameO x.1.op y.1.op then none else some (if coarseOp y.1.op then some (befM ops y.2) else none),befM ops x.2)
def ptrR (d:Option (List Nat)):AV → Option (List Nat) | .ptr l _ => some [l] | _ => d
def mapR:AV → Option (List Nat) | .map l => some [l] | _ => none
def genR (fr:Fr):Op → Option (List Nat)
 | .insert _ (.tmp m) _ _ => mapR (fr.tmps m)
 | op => if quietS op then some [] else none
def readsX (fr:Fr):XOp → Option (List Nat)
 | .load _ _ a => ptrR (some []) (a.val fr)
 | .store _ a _ => ptrR none (a.val fr)
 | .app .. => none
 | .call .. => none
 | .gen o => genR fr o.op
 | _ => some []
theorem readsX_ok {C:Ctx} {mu:Bool} {fr:Fr} {o:Oper} {rs:List Nat} (h:readsX fr (compOp C mu o) = some rs):readsA C fr o = some rs:=by
 have gen:readsX fr (.gen o) = some rs → readsA C fr o = some rs:=fun h => by
  simp only [readsX] at h
  unfold genR at h
  split at h
  ·rename_i t m k x hop
   simp only [readsA,hop,oval]
   exact h
  ·split at h
   ·rename_i hq; rw [quietS_reads hq]; exact h
   ·cases h
 obtain ⟨d,op,t,p,a,g⟩:=o
 cases op <;> simp only [compOp] at h <;> first | exact gen h | exact h | skip
 case alloc e => split at h <;> first | exact h | exact gen h
 case build t parts => split at h <;> first | exact h | exact gen h
 case buildSlice t n parts => split at h <;> first | exact h | exact gen h
 case load t a =>
  split at h
  ·simp only [readsX,compO_val,ptrR] at h
   simp only [readsA]
   cases ha:oval C fr a <;> rw [ha] at h <;> exact h
  ·exact gen h
 case store t a x =>
  split at h
  ·simp only [readsX,compO_val,ptrR] at h
   simp only [readsA]
   cases ha:oval C fr a <;> rw [ha] at h <;> exact h
  ·exact gen h
 case binOp b t x y yt => split at h <;> first | exact h | exact gen h
 case fieldAddr t x f =>
  split at h
  ·split at h <;> first | exact h | exact gen h
  ·exact gen h
 case field t x f => split at h <;> first | exact h | exact gen h
 case indexAddr t x i => split at h <;> first | exact h | exact gen h
 case index t x i => split at h <;> first | exact h | exact gen h
 case makeFunc fn a b => cases fn <;> first | exact h | exact gen h
 case call c =>
  obtain ⟨callee,args,ts⟩:=c
  unfold compCall at h
  split at h
  ·cases h
  ·rename_i x t tr hc ha hts
   simp only at hc ha hts
   subst hc
   have e:ts[0]? = some t:=by rw [← Array.getElem?_toList,hts]; rfl
   split at h
   ·rename_i he
    have hq:quietOp C (.call ⟨.builtin .len,args,ts⟩) = true:=by simp only [quietOp,e,he]
    simp only [readsA,hq,if_true]
    exact h
   ·rename_i he
    have hq:quietOp C (.call ⟨.builtin .len,args,ts⟩) = true:=by simp only [quietOp,e,he]
    simp only [readsA,hq,if_true]
    exact h
   ·exact gen h
  ·split at h
   ·cases h
   ·cases h
   ·exact gen h
  ·exact gen h
abbrev YI:=Option (List Nat) × List Nat × Nat × Nat
abbrev XRes:=Option (Fr × St × List YI)
def allLive (n0 n:Nat) (h:Nat → AO):List Nat → Prop
 | [] => True
 | l :: ls => (l < n ∧ (h l).isDead = false) ∧ allLive n0 n h ls
theorem allLive_spec {n0 n:Nat} {h:Nat → AO}:∀ {ls:List Nat},allLive n0 n h ls → ∀ l ∈ ls,l < n ∧ (h l).isDead = false
 | [],_,l,hl => nomatch hl
 | x :: ls,⟨h1,h2⟩,l,hl => by
  rcases List.mem_cons.1 hl with rfl | hl
  ·exact h1
  ·exact allLive_spec h2 l hl
def consR (x:YI):XRes → XRes
 | some (fr,st,l) => some (fr,st,x :: l)
 | none => none
open Classical in
noncomputable def nextG (k:Fr → St → XRes) (rd:Option (List Nat)) (n0:Nat) (h:Nat → AO) (n:Nat) (lg:List Nat):Option Out → XRes
 | some (.norm,fr,⟨h',n',ls⟩) => if allLive n0 n h ls then consR (rd,ls,n,n') (k fr ⟨h',n',ls ++ lg⟩) else none
 | _ => none
noncomputable def runXG (call:CallF) (C:Ctx) (mu:Bool) (ro:Bool) (n0:Nat):List XR → Fr → St → XRes
 | [],fr,st => some (fr,st,[])
 | o :: rest,fr,st => (guardA fr o.g).bind fun w =>
   if w then nextG (runXG call C mu ro n0 rest) (readsX fr o.o) n0 st.heap st.next st.log (runOpX call C mu ro o.d o.o fr ⟨st.heap,st.next,[]⟩)
   else consR (some [],[],0,0) (runXG call C mu ro n0 rest (fr.put o.d undefA) st)
def notIn (l:Nat):List Nat → Prop
 | [] => True
 | r :: rs => ¬ (l = r) ∧ notIn l rs
def missL (rs:List Nat):List Nat → Prop
 | [] => True
 | l :: ls => notIn l rs ∧ missL rs ls
def notMade (l:Nat):List Bool → List (Nat × Nat) → Prop
 | true :: m,w :: ws => (l < w.1 ∨ w.2 ≤ l) ∧ notMade l m ws
 | false :: m,_ :: ws => notMade l m ws
 | _,_ => True
def freshL (n0:Nat) (b:List Bool) (ws:List (Nat × Nat)):List Nat → Prop
 | [] => True
 | l :: ls => (n0 ≤ l ∧ notMade l b ws) ∧ freshL n0 b ws ls
def missO (n0:Nat) (b:Option (List Bool)) (ws:List (Nat × Nat)) (ls:List Nat):Option (List Nat) → Prop
 | some rs => missL rs ls
 | none => (match b with | some b => freshL n0 b ws ls | none => False)
def allMiss (n0:Nat) (ws:List (Nat × Nat)) (ls:List Nat):List (Option (Option (List Bool))) → List (Option (List Nat)) → Prop
 | none :: m,_ :: r => allMiss n0 ws ls m r
 | some b :: m,x :: r => missO n0 b ws ls x ∧ allMiss n0 ws ls m r
 | [],[] => True
 | _,_ => False
theorem freshL_spec {n0:Nat} {b:List Bool} {ws:List (Nat × Nat)}:∀ {ls:List Nat},freshL n0 b ws ls → ∀ l ∈ ls,n0 ≤ l ∧ notMade l b ws
 | [],_,l,hl => nomatch hl
 | x :: ls,h,l,hl => by
  rcases List.mem_cons.1 hl with rfl | hl
  ·exact h.1
  ·exact freshL_spec h.2 l hl
theorem notMade_spec {l:Nat}:∀ {b:List Bool} {ws:List (Nat × Nat)},notMade l b ws → ∀ (k:Nat) (w:Nat × Nat),b[k]? = some true → ws[k]? = some w → l < w.1 ∨ w.2 ≤ l
 | [],_,_,k,w,h,_ => by simp at h
 | true :: m,[],_,k,w,_,h => by simp at h
 | false :: m,[],_,k,w,_,h => by simp at h
 | true :: m,w0 :: ws,h,k,w,h1,h2 => by
  cases k with
  | zero => simp at h2; subst h2; exact h.1
  | succ k => exact notMade_spec h.2 k w (by simpa using h1) (by simpa using h2)
 | false :: m,w0 :: ws,h,k,w,h1,h2 => by
  cases k with
  | zero => simp at h1
  | succ k => exact notMade_spec (b:=m) (ws:=ws) h k w (by simpa using h1) (by simpa using h2)
theorem mayMeet_not {n0 b l:Nat} (hl:n0 ≤ l):∀ {info:List Info} {k0:Nat},(∀ (k:Nat) (z:Info),info[k]? = some z → b.testBit (k0 + k) = true → l < z.lo ∨ z.hi ≤ l) → mayMeet n0 b l k0 info = false
 | [],k0,_ => by rw [mayMeet,decide_eq_false_iff_not]; omega
 | x :: r,k0,h => by
  rw [mayMeet,Bool.or_eq_false_iff]
  refine ⟨?_,mayMeet_not hl fun k z hz hb => h (k + 1) z (by simpa using hz) (by rw [show k0 + (k + 1) = k0 + 1 + k by omega]; exact hb)⟩
  cases hb:b.testBit k0 with
  | false => rw [Bool.and_false]
  | true =>
   have:=h 0 x rfl (by rw [Nat.add_zero]; exact hb)
   rw [Bool.and_true,Bool.and_eq_false_iff,decide_eq_false_iff_not,decide_eq_false_iff_not]
   omega
def madeBy (l:Nat):List Bool → List (Nat × Nat) → Prop
 | true :: m,w :: ws => (w.1 ≤ l ∧ l < w.2) ∨ madeBy l m ws
 | false :: m,_ :: ws => madeBy l m ws
 | _,_ => False
def allMade (n0:Nat) (b:List Bool) (ws:List (Nat × Nat)):List Nat → Prop
 | [] => True
 | l :: ls => (l < n0 ∨ madeBy l b ws) ∧ allMade n0 b ws ls
def critOk (n0:Nat) (rds:List (Option (List Nat))) (ws:List (Nat × Nat)):List (Option CrI) → List YI → Prop
 | none :: cs,x :: xs => x.2.1 = [] ∧ critOk n0 rds ws cs xs
 | some c :: cs,x :: xs => (x.2.1 = [] ∨ (allMiss n0 ws x.2.1 c.1 rds ∧ allMade n0 c.2 ws x.2.1)) ∧ critOk n0 rds ws cs xs
 | [],[] => True
 | _,_ => False
open Classical in
noncomputable def drawK (n0:Nat) (cr:List (Option CrI)):XRes → Option Out
 | some (fr,st,xs) => if critOk n0 (xs.map (·.1)) (xs.map (·.2.2)) cr xs then some (.norm,fr,st) else none
 | none => none
theorem madeBy_spec {l:Nat}:∀ {b:List Bool} {ws:List (Nat × Nat)},madeBy l b ws → ∃ (k:Nat) (w:Nat × Nat),b[k]? = some true ∧ ws[k]? = some w ∧ w.1 ≤ l ∧ l < w.2
 | true :: m,w :: ws,h => by
  rcases h with h | h
  ·exact ⟨0,w,rfl,rfl,h.1,h.2⟩
  ·obtain ⟨k,w',h1,h2,h3⟩:=madeBy_spec h
   exact ⟨k + 1,w',by simpa using h1,by simpa using h2,h3⟩
 | false :: m,_ :: ws,h => by
  obtain ⟨k,w',h1,h2,h3⟩:=madeBy_spec (b:=m) (ws:=ws) h
  exact ⟨k + 1,w',by simpa using h1,by simpa using h2,h3⟩
 | [],_,h => h.elim
 | true :: _,[],h => h.elim
 | false :: _,[],h => h.elim
theorem allMade_spec {n0:Nat} {b:List Bool} {ws:List (Nat × Nat)}:∀ {ls:List Nat},allMade n0 b ws ls → ∀ l ∈ ls,l < n0 ∨ madeBy l b ws
 | [],_,l,hl => nomatch hl
 | x :: ls,h,l,hl => by
  rcases List.mem_cons.1 hl with rfl | hl
  ·exact h.1
  ·exact allMade_spec h.2 l hl
theorem mayMeet_made {n0 b l:Nat}:∀ {info:List Info} {k0:Nat},(∃ (k:Nat) (z:Info),info[k]? = some z ∧ b.testBit (k0 + k) = true ∧ z.lo ≤ l ∧ l < z.hi) → mayMeet n0 b l k0 info = true
 | [],k0,⟨k,z,h,_⟩ => by simp at h
 | x :: r,k0,⟨k,z,h,h2,h3,h4⟩ => by
  rw [mayMeet,Bool.or_eq_true]
  cases k with
  | zero =>
   simp at h; subst h
   left
   rw [Nat.add_zero] at h2
   rw [h2,decide_eq_true h3,decide_eq_true h4]; rfl
  | succ k => exact .inr (mayMeet_made ⟨k,z,by simpa using h,by rw [show k0 + 1 + k = k0 + (k + 1) by omega]; exact h2,h3,h4⟩)
theorem notIn_spec {l:Nat}:∀ {rs:List Nat},notIn l rs → l ∉ rs
 | [],_ => by simp
 | r :: rs,h => by simp [h.1,notIn_spec h.2]
theorem missL_spec {rs:List Nat}:∀ {ls:List Nat},missL rs ls → ∀ l ∈ ls,l ∉ rs
 | [],_,l,hl => nomatch hl
 | x :: ls,h,l,hl => by
  rcases List.mem_cons.1 hl with rfl | hl
  ·exact notIn_spec h.1
  ·exact missL_spec h.2 l hl
theorem allMiss_spec {n0:Nat} {ws:List (Nat × Nat)} {ls:List Nat}:∀ {m:List (Option (Option (List Bool)))} {r:List (Option (List Nat))},allMiss n0 ws ls m r → ∀ (k:Nat) x,r[k]? = some x → m[k]? = some none ∨ ∃ b,m[k]? = some (some b) ∧ missO n0 b ws ls x
 | [],[],_,k,x,hx => by simp at hx
 | [],_ :: _,h,_,_,_ => h.elim
 | some _ :: _,[],h,_,_,_ => h.elim
 | none :: m,[],h,_,_,_ => h.elim
 | none :: m,y :: r,h,k,x,hx => by
  cases k with
  | zero => exact .inl rfl
  | succ k => simpa using allMiss_spec (m:=m) h k x (by simpa using hx)
 | some b :: m,y :: r,h,k,x,hx => by
  cases k with
  | zero => simp at hx; subst hx; exact .inr ⟨b,rfl,h.1⟩
  | succ k => simpa using allMiss_spec h.2 k x (by simpa using hx)
theorem critOk_spec {n0:Nat} {rds:List (Option (List Nat))} {ws:List (Nat × Nat)}:∀ {cs:List (Option CrI)} {xs:List YI},critOk n0 rds ws cs xs → ∀ (k:Nat) x,xs[k]? = some x → x.2.1 = [] ∨ ∃ c,cs[k]? = some (some c) ∧ allMiss n0 ws x.2.1 c.1 rds ∧ allMade n0 c.2 ws x.2.1
 | [],[],_,k,x,hx => by simp at hx
 | [],_ :: _,h,_,_,_ => h.elim
 | some _ :: _,[],h,_,_,_ => h.elim
 | none :: _,[],h,_,_,_ => h.elim
 | none :: cs,y :: xs,h,k,x,hx => by
  cases k with
  | zero => simp at hx; subst hx; exact .inl h.1
  | succ k => simpa using critOk_spec h.2 k x (by simpa using hx)
 | some c :: cs,y :: xs,h,k,x,hx => by
  cases k with
  | zero =>
   simp at hx; subst hx
   rcases h.1 with h1 | h1
   ·exact .inl h1
   ·exact .inr ⟨c,rfl,h1⟩
  | succ k => simpa using critOk_spec h.2 k x (by simpa using hx)
def InfoOk (n0:Nat):List Oper → List Info → List YI → Prop
 | [],[],[] => True
 | o :: l,x :: info,y :: ys => ((x.log = y.2.1 ∧ (x.lo,x.hi) = y.2.2) ∧ (∀ rs,y.1 = some rs → x.rd = some rs) ∧ (quietS o.op = true → x.rd = some []) ∧ (coarseOp o.op = true → x.rd = none ∨ x.rd = some []) ∧ ((insT o.op).isSome = true → x.rd.isSome = true)) ∧ InfoOk n0 l info ys
 | _,_,_ => False
theorem InfoOk.at {n0:Nat} {l:List Oper} {info:List Info} {ys:List YI} (h:InfoOk n0 l info ys) (k:Nat) (x:Info) (hx:info[k]? = some x) :
  ∃ o y,l[k]? = some o ∧ ys[k]? = some y ∧ (x.log = y.2.1 ∧ (x.lo,x.hi) = y.2.2) ∧ (∀ rs,y.1 = some rs → x.rd = some rs) ∧ (quietS o.op = true → x.rd = some []) ∧ (coarseOp o.op = true → x.rd = none ∨ x.rd = some []) ∧ ((insT o.op).isSome = true → x.rd.isSome = true):=by
 induction info generalizing l ys k with
 | nil => simp at hx
 | cons z info ih =>
  cases l with
  | nil => cases h
  | cons o l =>
   cases ys with
   | nil => cases h
   | cons y ys =>
    cases k with
    | zero => simp at hx; subst hx; exact ⟨o,y,rfl,rfl,h.1⟩
    | succ k => simpa using ih h.2 k (by simpa using hx)
theorem InfoOk.at' {n0:Nat} {l:List Oper} {info:List Info} {ys:List YI} (h:InfoOk n0 l info ys) (k:Nat) (y:YI) (hy:ys[k]? = some y):∃ x,info[k]? = some x:=by
 induction ys generalizing l info k with
 | nil => simp at hy
 | cons z ys ih =>
  cases l with
  | nil => cases info <;> cases h
  | cons o l =>
   cases info with
   | nil => cases h
   | cons w info =>
    cases k with
    | zero => exact ⟨w,rfl⟩
    | succ k => simpa using ih h.2 k (by simpa using hy)
theorem ins_reads {call:CallF} {C:Ctx} {mu ro:Bool} {fr fr':Fr} {st st':St} {o:Oper} (hq:(insT o.op).isSome = true) (hr:runOp call C mu ro o fr st = some (.norm,fr',st')):(readsA C fr o).isSome = true:=by
 cases hop:o.op <;> rw [hop] at hq <;> first | (cases hq; done) | skip
 obtain ⟨l,ob,h1,_⟩:=ins_run hop hr
 simp [readsA,hop,h1]
theorem runXG_draw {call:CallF} {C:Ctx} {mu ro:Bool} {ops:Array Oper} {n0:Nat}:∀ {l:List Oper} {i:Nat} {fr:Fr} {st:St} {fr':Fr} {st':St} {ys:List YI},runXG call C mu ro n0 ((l.map (resolve ops)).map (compR C mu)) fr st = some (fr',st',ys) →
  ∃ info,runDraw (fun _ => call) C mu ro ops i l fr st = some (fr',st',info) ∧ InfoOk n0 l info ys
 | [],i,fr,st,fr',st',ys,h => by
  simp only [List.map_nil,runXG,Option.some.injEq,Prod.mk.injEq] at h
  obtain ⟨rfl,rfl,rfl⟩:=h
  exact ⟨[],rfl,trivial⟩
 | o :: l,i,fr,st,fr',st',ys,h => by
  simp only [List.map_cons,runXG] at h
  have hh:(compR C mu (resolve ops o)).g = (resolve ops o).g ∧ (compR C mu (resolve ops o)).d = o.dst:=⟨rfl,rfl⟩
  rw [hh.1,hh.2] at h
  simp only [runDraw,guardA_eq (ops:=ops) (o:=o)]
  have cons:∀ {y:YI} {r:XRes},consR y r = some (fr',st',ys) → ∃ zs,ys = y :: zs ∧ r = some (fr',st',zs):=fun {y r} h => by
   cases r with
   | none => cases h
   | some q =>
    obtain ⟨a,b,c⟩:=q
    simp only [consR,Option.some.injEq,Prod.mk.injEq] at h
    obtain ⟨rfl,rfl,rfl⟩:=h
    exact ⟨c,rfl,rfl⟩
  cases hg:guardA fr (resolve ops o).g with
  | none => rw [hg] at h; cases h
  | some w =>
   rw [hg] at h
   cases w with
   | false =>
    simp only [Option.bind_some,Bool.false_eq_true,if_false] at h
    obtain ⟨zs,rfl,h'⟩:=cons h
    obtain ⟨info,h1,h2⟩:=runXG_draw (i:=i + 1) h'
    exact ⟨⟨[],some [],0,0⟩ :: info,by simp only [h1],⟨⟨rfl,rfl⟩,fun rs e => e,fun _ => rfl,fun _ => .inr rfl,fun _ => rfl⟩,h2⟩
   | true =>
    simp only [Option.bind_some,if_true] at h
    have e:runOpX call C mu ro o.dst (compR C mu (resolve ops o)).o fr ⟨st.heap,st.next,[]⟩ = runOp call C mu ro o fr ⟨st.heap,st.next,[]⟩:=by
     have:=runOpX_eq (C:=C) (mu:=mu) (ro:=ro) (fr:=fr) (st:=⟨st.heap,st.next,[]⟩) (call:=call) (resolve ops o).oper
     rw [← runOp_oper (ops:=ops) (o:=o)] at this
     exact this
    rw [e] at h
    cases hr:runOp call C mu ro o fr ⟨st.heap,st.next,[]⟩ with
    | none => rw [hr] at h; cases h
    | some out =>
     obtain ⟨ex,fr1,hp,n,ls⟩:=out
     rw [hr] at h
     cases ex with
     | norm =>
      simp only [nextG] at h
      split at h
      ·rename_i hc
       obtain ⟨zs,rfl,h'⟩:=cons h
       obtain ⟨info,h1,h2⟩:=runXG_draw (i:=i + 1) h'
       have hl:=allLive_spec hc
       refine ⟨⟨ls,readsA C fr o,st.next,n⟩ :: info,?_,⟨⟨rfl,rfl⟩,fun rs e => ?_,fun hq => quietS_reads hq,fun hq => coarse_reads hq,fun hq => ins_reads hq hr⟩,h2⟩
       ·simp only
        rw [if_pos (List.all_eq_true.2 fun p hp => by simp [(hl p hp).1,(hl p hp).2]),h1]
       ·have:=readsX_ok (C:=C) (mu:=mu) (o:=(resolve ops o).oper) e
        exact this
      ·cases h
     | _ => cases h
theorem orderOk1_gen {n0:Nat} {bs:List Nat} {ins:List (Option TypeId)} {info:List Info} {i:Nat} {ls:List Nat}:∀ {l:List Info} {k:Nat},(∀ j y,l[j]? = some y → meets n0 info (bs.getD (k + j) 0) ls y = false ∨ ordered bs i (k + j) = true ∨ (y.rd.isSome && sameIns ins i (k + j)) = true) → orderOk1 n0 bs ins info i ls k l = true
 | [],k,_ => rfl
 | y :: l,k,h => by
  rw [orderOk1,Bool.and_eq_true]
  refine ⟨?_,orderOk1_gen fun j z hz => by have:=h (j + 1) z (by simpa using hz); rw [show k + 1 + j = k + (j + 1) by omega]; exact this⟩
  rcases h 0 y rfl with h | h | h
  ·rw [Nat.add_zero] at h; rw [h]; rfl
  ·rw [Nat.add_zero] at h; rw [h,Bool.true_or,Bool.or_true]
  ·rw [Nat.add_zero] at h; rw [h,Bool.or_true,Bool.or_true]
theorem orderOk_cr {n0:Nat} {ops:Array Oper} {info:List Info} {ys:List YI} (h:InfoOk n0 ops.toList info ys) (hc:critOk n0 (ys.map (·.1)) (ys.map (·.2.2)) (drawCr ops) ys):∀ {l:List Info} {i:Nat},(∀ j,l[j]? = info[i + j]?) → orderOk n0 (Region.before ops).toList (insL ops) info i l = true
 | [],i,_ => rfl
 | x :: l,i,hl => by
  rw [orderOk,Bool.and_eq_true]
  refine ⟨?_,orderOk_cr h hc fun j => by have:=hl (j + 1); rw [show i + 1 + j = i + (j + 1) by omega,← this]; rfl⟩
  have hx:info[i]? = some x:=by have:=hl 0; rw [Nat.add_zero] at this; rw [← this]; rfl
  obtain ⟨o,y,ho,hy,⟨h1,_⟩,_⟩:=h.at i x hx
  rw [h1]
  rcases critOk_spec hc i y hy with h2 | ⟨c,h2,h3,h3'⟩
  ·rw [h2]; rfl
  ·rw [Bool.or_eq_true]
   right
   rw [Bool.and_eq_true]
   have e2:ops.toList.zipIdx[i]? = some (o,i):=by simp [List.getElem?_zipIdx] at ho ⊢; exact ho
   have hcr:c = (ops.toList.zipIdx.map fun y => if quietS y.1.op || ordered (Region.before ops).toList i y.2 || sameO o.op y.1.op then none else some (if coarseOp y.1.op then some (befM ops y.2) else none),befM ops i):=by
    have e:(drawCr ops)[i]? = (ops.toList.zipIdx[i]?).map fun x => if tameS x.1.op then none else some (ops.toList.zipIdx.map fun y => if quietS y.1.op || ordered (Region.before ops).toList x.2 y.2 || sameO x.1.op y.1.op then none else some (if coarseOp y.1.op then some (befM ops y.2) else none),befM ops x.2):=by simp [drawCr]
    rw [h2,e2,Option.map_some] at e
    injection e with e
    split at e
    ·cases e
    ·injection e
   refine ⟨List.all_eq_true.2 fun q hq => ?_,orderOk1_gen fun k z hz => ?_⟩
   ·rcases allMade_spec h3' q hq with h4 | h4
    ·exact mayMeet_low h4
    ·obtain ⟨k,w,k1,k2,k3,k4⟩:=madeBy_spec h4
     rw [hcr] at k1
     simp only [befM] at k1
     rw [List.getElem?_map] at k1
     rw [List.getElem?_map] at k2
     cases hyk:ys[k]? with
     | none => rw [hyk] at k2; cases k2
     | some yk =>
      rw [hyk,Option.map_some,Option.some.injEq] at k2
      cases hp:ops.toList.zipIdx[k]? with
      | none => rw [hp] at k1; cases k1
      | some p =>
       rw [hp,Option.map_some,Option.some.injEq] at k1
       have hpk:p.2 = k:=by
        rw [List.getElem?_zipIdx] at hp
        cases hq2:ops.toList[k]? with
        | none => rw [hq2] at hp; cases hp
        | some o' => rw [hq2,Option.map_some,Option.some.injEq] at hp; rw [← hp]; simp
       rw [hpk] at k1
       obtain ⟨z,hz⟩:=h.at' k yk hyk
       obtain ⟨_,y',_,hy',⟨_,hlohi⟩,_⟩:=h.at k z hz
       rw [hyk] at hy'
       cases hy'
       refine mayMeet_made ⟨k,z,hz,by rw [Nat.zero_add]; exact k1,?_,?_⟩
       ·rw [show z.lo = (z.lo,z.hi).1 from rfl,hlohi,k2]; exact k3
       ·rw [show z.hi = (z.lo,z.hi).2 from rfl,hlohi,k2]; exact k4
   obtain ⟨p,yk,hp,hyk,_,g1,g2,g3,g4⟩:=h.at k z hz
   have e3:ops.toList.zipIdx[k]? = some (p,k):=by simp [List.getElem?_zipIdx] at hp ⊢; exact hp
   have hck:c.1[k]? = some (if quietS p.op || ordered (Region.before ops).toList i k || sameO o.op p.op then none else some (if coarseOp p.op then some (befM ops k) else none)):=by rw [hcr,List.getElem?_map,e3]; rfl
   rw [Nat.zero_add]
   rcases allMiss_spec h3 k yk.1 (by rw [List.getElem?_map,hyk]; rfl) with h4 | ⟨bm,h4,h5⟩
   ·rw [hck] at h4
    split at h4
    ·rename_i h6
     rw [Bool.or_eq_true,Bool.or_eq_true] at h6
     rcases h6 with (h4 | h4) | h4
     ·left; simp only [meets,g2 h4,List.any_nil]
     ·exact .inr (.inl h4)
     ·refine .inr (.inr ?_)
      have hpk:insT p.op = insT o.op ∧ (insT p.op).isSome = true:=by
       unfold sameO at h4
       split at h4
       ·rename_i t _ _ _ u _ _ _ e1 e2
        rw [beq_iff_eq] at h4
        subst h4
        rw [e1,e2]
        exact ⟨rfl,rfl⟩
       ·cases h4
      have key:∀ i o,ops.toList[i]? = some o → (insL ops).getD i none = insT o.op:=fun i o ho => by
       rw [List.getD_eq_getElem?_getD,insL,List.getElem?_map,ho]; rfl
      rw [g4 hpk.2,Bool.true_and]
      unfold sameIns
      rw [key i o ho,key k p hp,hpk.1]
      cases hq:insT o.op with
      | none => rw [hpk.1,hq] at hpk; cases hpk.2
      | some t => simp
    ·cases h4
   ·left
    rw [hck] at h4
    split at h4
    ·cases h4
    ·simp only [Option.some.injEq] at h4
     subst h4
     cases hr:yk.1 with
     | none =>
      rw [hr] at h5
      cases hco:coarseOp p.op with
      | false => rw [hco] at h5; exact h5.elim
      | true =>
       rw [hco] at h5
       have h6:=freshL_spec h5
       rcases g3 hco with hzr | hzr
       ·simp only [meets,hzr]
        rw [List.any_eq_false]
        intro l hl2
        rw [Bool.not_eq_true]
        obtain ⟨h7,h8⟩:=h6 l hl2
        refine mayMeet_not h7 fun k' z' hz' hb => ?_
        obtain ⟨p',y',hp',hy',⟨_,hlohi⟩,_⟩:=h.at k' z' hz'
        have h9:=notMade_spec h8 k' y'.2.2 (by
         simp only [befM]
         rw [List.getElem?_map,show ops.toList.zipIdx[k']? = some (p',k') by simp [List.getElem?_zipIdx] at hp' ⊢; exact hp',Option.map_some]
         rw [Nat.zero_add] at hb
         rw [hb]) (by rw [List.getElem?_map,hy']; rfl)
        rw [← hlohi] at h9
        exact h9
       ·simp only [meets,hzr,List.any_nil]
     | some rs =>
      rw [hr] at h5
      have h6:=missL_spec h5
      simp only [meets,g1 rs hr]
      rw [List.any_eq_false]
      intro r hr2
      rw [Bool.not_eq_true,List.any_eq_false]
      intro l hl2 e
      rw [beq_iff_eq] at e
      exact h6 l hl2 (e ▸ hr2)
noncomputable def condK (a b:Fr → St → Option Out) (fr:Fr) (st:St):AV → Option Out
 | .bool x => if x then a fr st else b fr st
 | _ => none
noncomputable def execY (call:CallF) (C:Ctx) (mu:Bool) (self:FuncId) (ro:Option Nat):XC → Fr → St → Option Out
 | .skip,fr,st => some (.norm,fr,st)
 | .ops l,fr,st => runX call C mu ro.isSome l fr st
 | .draw ops l,fr,st => drawK st.next (drawCr ops) (runXG call C mu ro.isSome st.next l fr st)
 | .seq a b,fr,st => (execY call C mu self ro a fr st).bind (seqK (execY call C mu self ro b))
 | .cond c a b,fr,st => condK (execY call C mu self ro a) (execY call C mu self ro b) fr st (c.val fr)
 | .block id b,fr,st => (execY call C mu self ro b fr st).bind (blockK id)
 | .loop b,fr,st => iterW (execY call C mu self ro b) fr st
 | .rangeFunc f ps a b,fr,st => execX call C mu none self ro (.rangeFunc f ps a b) fr st
 | .exit id,fr,st => some (.exit id,fr,st)
 | .goto l,fr,st => some (.goto l,fr,st)
 | .ret,fr,st => some (.ret,fr,st)
 | .bad,_,_ => none
theorem iter_mono {f g:Fr → St → Option Out} (h:∀ fr st o,f fr st = some o → g fr st = some o):∀ {n:Nat} {fr:Fr} {st:St} {o:Out},iter f n fr st = some o → iter g n fr st = some o
 | 0,_,_,_,e => by cases e
 | n + 1,fr,st,o,e => by
  simp only [iter] at e ⊢
  cases hf:f fr st with
  | none => rw [hf] at e; cases e
  | some o1 =>
   obtain ⟨e1,fr1,st1⟩:=o1
   rw [hf] at e
   rw [h _ _ _ hf]
   cases e1 with
   | norm => exact iter_mono h e
   | _ => exact e
theorem iterW_mono {f g:Fr → St → Option Out} (h:∀ fr st o,f fr st = some o → g fr st = some o) {fr:Fr} {st:St} {o:Out} (e:iterW f fr st = some o):iterW g fr st = some o:=by
 rw [iterW_iff] at e ⊢
 obtain ⟨n,hn⟩:=e
 exact ⟨n,iter_mono h hn⟩
theorem drawY_sound {call:CallF} {C:Ctx} {mu:Bool} {self:FuncId} {ro:Option Nat} {ops:Array Oper} {l:List XR} {fr:Fr} {st:St} {o:Out} (hd:drawable ops = true) (hl:drawOps C mu ops = l)
  (h:drawK st.next (drawCr ops) (runXG call C mu ro.isSome st.next l fr st) = some o):execX call C mu none self ro (.draw ops l) fr st = some o:=by
 cases hr:runXG call C mu ro.isSome st.next l fr st with
 | none => rw [hr] at h; cases h
 | some p =>
  obtain ⟨fr1,st1,ys⟩:=p
  rw [hr] at h
  simp only [drawK] at h
  split at h
  ·rename_i hc
   cases h
   rw [← hl] at hr
   obtain ⟨info,h1,h2⟩:=runXG_draw (i:=0) hr
   rw [execX]
   unfold region
   simp only [if_true,h1,orderOk_cr h2 hc (l:=info) (i:=0) fun j => by rw [Nat.zero_add],hd,and_self]
  ·cases h
theorem execY_sound {call:CallF} {C:Ctx} {mu:Bool} {self:FuncId} {ro:Option Nat}:∀ (x:XC),wfX C mu x → drawB x = true → ∀ {fr:Fr} {st:St} {o:Out},execY call C mu self ro x fr st = some o → execX call C mu none self ro x fr st = some o:=by
 intro x
 induction x with
 | draw ops l => intro hw hd fr st o h; exact drawY_sound hd hw h
 | seq a b iha ihb =>
  intro hw hd fr st o h
  rw [drawB,Bool.and_eq_true] at hd
  simp only [execY] at h
  cases ha:execY call C mu self ro a fr st with
  | none => rw [ha] at h; cases h
  | some o1 =>
   rw [ha,Option.bind_some] at h
   rw [execX_seq,iha hw.1 hd.1 ha,Option.bind_some]
   obtain ⟨e1,fr1,st1⟩:=o1
   cases e1 with
   | norm => exact ihb hw.2 hd.2 h
   | _ => exact h
 | cond c a b iha ihb =>
  intro hw hd fr st o h
  rw [drawB,Bool.and_eq_true] at hd
  simp only [execY] at h
  simp only [execX]
  cases hc:c.val fr with
  | bool x =>
   rw [hc] at h
   simp only [condK] at h
   simp only
   cases x with
   | true => exact iha hw.1 hd.1 h
   | false => exact ihb hw.2 hd.2 h
  | _ => rw [hc] at h; cases h
 | block id b ih =>
  intro hw hd fr st o h
  simp only [execY] at h
  cases ha:execY call C mu self ro b fr st with
  | none => rw [ha] at h; cases h
  | some o1 => rw [ha] at h; rw [execX_block,ih hw hd ha]; exact h
 | loop b ih => intro hw hd fr st o h; exact iterW_mono (fun fr st o e => ih hw hd e) h
 | rangeFunc f ps a b => intro _ _ fr st o h; exact h
 | _ => intro _ _ fr st o h; exact h
section
variable {call:CallF} {C:Ctx} {mu b0:Bool} {self:FuncId} {ro:Option Nat} {fr:Fr} {st:St} {a b:XC}
theorem execY_skip:execY call C mu self ro .skip fr st = some (.norm,fr,st):=(rfl)
theorem execY_ops {l:List XR}:execY call C mu self ro (.ops l) fr st = runX call C mu ro.isSome l fr st:=(rfl)
theorem execY_ret:execY call C mu self ro .ret fr st = some (.ret,fr,st):=(rfl)
theorem execY_exit {id:Nat}:execY call C mu self ro (.exit id) fr st = some (.exit id,fr,st):=(rfl)
theorem execY_seq:execY call C mu self ro (.seq a b) fr st = (execY call C mu self ro a fr st).bind (seqK (execY call C mu self ro b)):=(rfl)
theorem execY_block {id:Nat}:execY call C mu self ro (.block id b) fr st = (execY call C mu self ro b fr st).bind (blockK id):=(rfl)
theorem execY_ct {c:XO} (h:c.val fr = .bool true):execY call C mu self ro (.cond c a b) fr st = execY call C mu self ro a fr st:=by simp only [execY,h,condK,if_true]
theorem execY_cf {c:XO} (h:c.val fr = .bool false):execY call C mu self ro (.cond c a b) fr st = execY call C mu self ro b fr st:=by simp only [execY,h,condK,Bool.false_eq_true,if_false]
theorem execY_draw {ops:Array Oper} {l:List XR}:execY call C mu self ro (.draw ops l) fr st = drawK st.next (drawCr ops) (runXG call C mu ro.isSome st.next l fr st):=(rfl)
theorem drawK_some {n0:Nat} {cr:List (Option CrI)} {xs:List YI} (h:critOk n0 (xs.map (·.1)) (xs.map (·.2.2)) cr xs):drawK n0 cr (some (fr,st,xs)) = some (.norm,fr,st):=by
 simp only [drawK]; rw [if_pos h]
theorem runXG_nil {n0:Nat}:runXG call C mu b0 n0 [] fr st = some (fr,st,[]):=(rfl)
theorem consR_some {x:YI} {l:List YI}:consR x (some (fr,st,l)) = some (fr,st,x :: l):=(rfl)
theorem nextG_some {k:Fr → St → XRes} {rd:Option (List Nat)} {n0 n n':Nat} {h h':Nat → AO} {lg ls:List Nat} (hl:allLive n0 n h ls):nextG k rd n0 h n lg (some (.norm,fr,⟨h',n',ls⟩)) = consR (rd,ls,n,n') (k fr ⟨h',n',ls ++ lg⟩):=by
 simp only [nextG]; rw [if_pos hl]
theorem runXG_n {n0:Nat} {d:Option Tmp} {o:XOp} {l:List XR} {h:Nat → AO} {n:Nat} {lg:List Nat}:runXG call C mu b0 n0 (⟨d,o,none⟩ :: l) fr ⟨h,n,lg⟩ = nextG (runXG call C mu b0 n0 l) (readsX fr o) n0 h n lg (runX call C mu b0 [⟨d,o,none⟩] fr ⟨h,n,[]⟩):=by
 rw [runX_single]; rfl
theorem runXG_tt {n0:Nat} {d:Option Tmp} {o:XOp} {t:Nat} {l:List XR} (h:fr.tmps t = .bool true):runXG call C mu b0 n0 (⟨d,o,some (some t,true)⟩ :: l) fr st = runXG call C mu b0 n0 (⟨d,o,none⟩ :: l) fr st:=by
 simp only [runXG,guardA,h,beq_self_eq_true]
theorem runXG_ff {n0:Nat} {d:Option Tmp} {o:XOp} {t:Nat} {l:List XR} (h:fr.tmps t = .bool false):runXG call C mu b0 n0 (⟨d,o,some (some t,false)⟩ :: l) fr st = runXG call C mu b0 n0 (⟨d,o,none⟩ :: l) fr st:=by
 simp only [runXG,guardA,h,beq_self_eq_true]
theorem runXG_tf {n0:Nat} {d:Option Tmp} {o:XOp} {t:Nat} {l:List XR} (h:fr.tmps t = .bool false):runXG call C mu b0 n0 (⟨d,o,some (some t,true)⟩ :: l) fr st = consR (some [],[],0,0) (runXG call C mu b0 n0 l (fr.put d undefA) st):=by
 simp only [runXG,guardA,h]; rfl
theorem runXG_ft {n0:Nat} {d:Option Tmp} {o:XOp} {t:Nat} {l:List XR} (h:fr.tmps t = .bool true):runXG call C mu b0 n0 (⟨d,o,some (some t,false)⟩ :: l) fr st = consR (some [],[],0,0) (runXG call C mu b0 n0 l (fr.put d undefA) st):=by
 simp only [runXG,guardA,h]; rfl
theorem runXG_gu {n0:Nat} {d:Option Tmp} {o:XOp} {t:Nat} {w:Bool} {l:List XR} (h:fr.tmps t = undefA):runXG call C mu b0 n0 (⟨d,o,some (some t,w)⟩ :: l) fr st = consR (some [],[],0,0) (runXG call C mu b0 n0 l (fr.put d undefA) st):=by
 simp only [runXG,guardA,h]; rfl
theorem live_nil {n0 n:Nat} {h:Nat → AO}:allLive n0 n h [] = True:=(rfl)
theorem live_cons {n0 n l:Nat} {h:Nat → AO} {ls:List Nat}:allLive n0 n h (l :: ls) = ((l < n ∧ (h l).isDead = false) ∧ allLive n0 n h ls):=(rfl)
theorem dead_mem {e:TypeId} {cells:List AV} {full:Bool} {fz:Nat}:(AO.mem e cells full fz).isDead = false:=(rfl)
theorem dead_tok:(AO.tok).isDead = false:=(rfl)
theorem ptrR_ptr {d:Option (List Nat)} {l off:Nat}:ptrR d (.ptr l off) = some [l]:=(rfl)
theorem ptrR_cptr {d:Option (List Nat)} {cs:List AV}:ptrR d (.cptr cs) = d:=(rfl)
theorem rdX_load {b:Bool} {n:Nat} {a:XO}:readsX fr (.load b n a) = ptrR (some []) (a.val fr):=(rfl)
theorem rdX_store {n:Nat} {a x:XO}:readsX fr (.store n a x) = ptrR none (a.val fr):=(rfl)
theorem mk_consR {x:YI} {xs:List YI}:(x :: xs).map (·.1) = x.1 :: xs.map (·.1):=(rfl)
theorem mk_nilR:([]:List YI).map (·.1) = []:=(rfl)
theorem mk_consW {x:YI} {xs:List YI}:(x :: xs).map (·.2.2) = x.2.2 :: xs.map (·.2.2):=(rfl)
theorem mk_nilW:([]:List YI).map (·.2.2) = []:=(rfl)
theorem crit_nil {n0:Nat} {rds:List (Option (List Nat))} {ws:List (Nat × Nat)}:critOk n0 rds ws [] [] = True:=(rfl)
theorem crit_n {n0:Nat} {rds:List (Option (List Nat))} {ws:List (Nat × Nat)} {cs:List (Option CrI)} {a:Option (List Nat)} {b:List Nat} {w:Nat × Nat} {xs:List YI}:critOk n0 rds ws (none :: cs) ((a,b,w) :: xs) = (b = [] ∧ critOk n0 rds ws cs xs):=(rfl)
theorem crit_e {n0:Nat} {rds:List (Option (List Nat))} {ws:List (Nat × Nat)} {c:CrI} {cs:List (Option CrI)} {a:Option (List Nat)} {w:Nat × Nat} {xs:List YI}:critOk n0 rds ws (some c :: cs) ((a,[],w) :: xs) = critOk n0 rds ws cs xs:=by simp [critOk]
theorem crit_s {n0:Nat} {rds:List (Option (List Nat))} {ws:List (Nat × Nat)} {c:List (Option (Option (List Bool)))} {b:List Bool} {cs:List (Option CrI)} {a:Option (List Nat)} {w:Nat × Nat} {l:Nat} {ls:List Nat} {xs:List YI}:critOk n0 rds ws (some (c,b) :: cs) ((a,l :: ls,w) :: xs) = ((allMiss n0 ws (l :: ls) c rds ∧ allMade n0 b ws (l :: ls)) ∧ critOk n0 rds ws cs xs):=by simp [critOk]
theorem fr_nil {n0:Nat} {b:List Bool} {ws:List (Nat × Nat)}:freshL n0 b ws [] = True:=(rfl)
theorem fr_cons {n0 l:Nat} {b:List Bool} {ws:List (Nat × Nat)} {ls:List Nat}:freshL n0 b ws (l :: ls) = ((n0 ≤ l ∧ notMade l b ws) ∧ freshL n0 b ws ls):=(rfl)
theorem nm_f {l:Nat} {m:List Bool} {w:Nat × Nat} {ws:List (Nat × Nat)}:notMade l (false :: m) (w :: ws) = notMade l m ws:=(rfl)
theorem nm_lt {l lo hi:Nat} {m:List Bool} {ws:List (Nat × Nat)} (h:l < lo):notMade l (true :: m) ((lo,hi) :: ws) = notMade l m ws:=by simp [notMade,h]
theorem nm_ge {l lo hi:Nat} {m:List Bool} {ws:List (Nat × Nat)} (h:hi ≤ l):notMade l (true :: m) ((lo,hi) :: ws) = notMade l m ws:=by simp [notMade,h]
theorem nm_nil {l:Nat} {ws:List (Nat × Nat)}:notMade l [] ws = True:=(rfl)
theorem mkd_nil {n0:Nat} {b:List Bool} {ws:List (Nat × Nat)}:allMade n0 b ws [] = True:=(rfl)
theorem mkd_old {n0 l:Nat} {b:List Bool} {ws:List (Nat × Nat)} {ls:List Nat} (h:l < n0):allMade n0 b ws (l :: ls) = allMade n0 b ws ls:=by simp [allMade,h]
theorem mkd_new {n0 l:Nat} {b:List Bool} {ws:List (Nat × Nat)} {ls:List Nat} (h:madeBy l b ws):allMade n0 b ws (l :: ls) = allMade n0 b ws ls:=by simp [allMade,h]
theorem mb_hit {l lo hi:Nat} {m:List Bool} {ws:List (Nat × Nat)} (h1:lo ≤ l) (h2:l < hi):madeBy l (true :: m) ((lo,hi) :: ws) = True:=eq_true (.inl ⟨h1,h2⟩)
theorem mb_sub {l:Nat} {m:List Bool} {w:Nat × Nat} {ws:List (Nat × Nat)} (h:madeBy l m ws):madeBy l (true :: m) (w :: ws) = True:=eq_true (.inr h)
theorem mb_f {l:Nat} {m:List Bool} {w:Nat × Nat} {ws:List (Nat × Nat)}:madeBy l (false :: m) (w :: ws) = madeBy l m ws:=(rfl)
theorem am_nil {n0:Nat} {ws:List (Nat × Nat)} {ls:List Nat}:allMiss n0 ws ls [] [] = True:=(rfl)
theorem am_f {n0:Nat} {ws:List (Nat × Nat)} {ls:List Nat} {m:List (Option (Option (List Bool)))} {x:Option (List Nat)} {r:List (Option (List Nat))}:allMiss n0 ws ls (none :: m) (x :: r) = allMiss n0 ws ls m r:=(rfl)
theorem am_t {n0:Nat} {ws:List (Nat × Nat)} {ls:List Nat} {b:Option (List Bool)} {m:List (Option (Option (List Bool)))} {x:Option (List Nat)} {r:List (Option (List Nat))}:allMiss n0 ws ls (some b :: m) (x :: r) = (missO n0 b ws ls x ∧ allMiss n0 ws ls m r):=(rfl)
theorem mo_none {n0:Nat} {b:List Bool} {ws:List (Nat × Nat)} {ls:List Nat}:missO n0 (some b) ws ls none = freshL n0 b ws ls:=(rfl)
theorem mo_some {n0:Nat} {b:Option (List Bool)} {ws:List (Nat × Nat)} {ls rs:List Nat}:missO n0 b ws ls (some rs) = missL rs ls:=(rfl)
theorem ml_nil {rs:List Nat}:missL rs [] = True:=(rfl)
theorem ml_cons {rs ls:List Nat} {l:Nat}:missL rs (l :: ls) = (notIn l rs ∧ missL rs ls):=(rfl)
theorem ni_nil {l:Nat}:notIn l [] = True:=(rfl)
theorem ni_cons {l r:Nat} {rs:List Nat}:notIn l (r :: rs) = (¬ (l = r) ∧ notIn l rs):=(rfl)
theorem execY_loop:execY call C mu self ro (.loop b) fr st = (execY call C mu self ro b fr st).bind (seqK (execY call C mu self ro (.loop b))):=by
 have:execY call C mu self ro (.loop b) = iterW (execY call C mu self ro b):=rfl
 rw [this,iterW_eq]
 cases execY call C mu self ro b fr st with
 | none => rfl
 | some o => obtain ⟨e,f,s⟩:=o; cases e <;> rfl
end
def Post (N:Nat) (D:List ADef) (pv:Option AV) (m:Option Out) (Q:EX → (Nat → AV) → St → Prop):Prop:=∃ e T st,m = some (e,⟨T,N,D,pv⟩,st) ∧ Q e T st
section
variable {N:Nat} {D:List ADef} {pv:Option AV} {m:Option Out} {Q Q1:EX → (Nat → AV) → St → Prop}
theorem post_some {e:EX} {T:Nat → AV} {st:St}:Post N D pv (some (e,⟨T,N,D,pv⟩,st)) Q = Q e T st :=
 propext ⟨fun ⟨e',T',st',h1,h2⟩ => by cases h1; exact h2,fun h => ⟨e,T,st,rfl,h⟩⟩
theorem Post.mono (h:Post N D pv m Q1) (k:∀ e T st,Q1 e T st → Q e T st):Post N D pv m Q:=by
 obtain ⟨e,T,st,h1,h2⟩:=h
 exact ⟨e,T,st,h1,k _ _ _ h2⟩
theorem post_bind {K:Out → Option Out} (h:Post N D pv m Q1) (k:∀ e T st,Q1 e T st → Post N D pv (K (e,⟨T,N,D,pv⟩,st)) Q):Post N D pv (m.bind K) Q:=by
 obtain ⟨e,T,st,h1,h2⟩:=h
 rw [h1]
 exact k _ _ _ h2
variable {call:CallF} {C:Ctx} {mu:Bool} {self:FuncId} {ro:Option Nat} {b:XC}
theorem post_loop {I:Nat → (Nat → AV) → St → Prop} (h:∀ n T st,I n T st → Post N D pv (execY call C mu self ro b ⟨T,N,D,pv⟩ st) fun e T' st' => (e = .norm ∧ ∃ m,m < n ∧ I m T' st') ∨ (e ≠ .norm ∧ Q e T' st')) :
  ∀ n T st,I n T st → Post N D pv (execY call C mu self ro (.loop b) ⟨T,N,D,pv⟩ st) Q:=by
 intro n
 induction n using Nat.strongRecOn with
 | ind n ih =>
  intro T st hI
  rw [execY_loop]
  refine post_bind (h n T st hI) fun e T' st' hQ => ?_
  rcases hQ with ⟨rfl,m,hm,hI'⟩ | ⟨he,hQ⟩
  ·exact ih m hm T' st' hI'
  ·cases e with
   | norm => exact absurd rfl he
   | _ => exact ⟨_,T',st',rfl,hQ⟩
theorem post_for {I:Nat → (Nat → AV) → St → Prop} (L:Nat) (hr:∀ i T st,i < L → I i T st → Post N D pv (execY call C mu self ro b ⟨T,N,D,pv⟩ st) fun e T' st' => (e = .norm ∧ I (i + 1) T' st') ∨ (e ≠ .norm ∧ Q e T' st'))
  (hs:∀ T st,I L T st → Post N D pv (execY call C mu self ro b ⟨T,N,D,pv⟩ st) fun e T' st' => e ≠ .norm ∧ Q e T' st') {i:Nat} (hi:i ≤ L) {T:Nat → AV} {st:St} (hI:I i T st) :
  Post N D pv (execY call C mu self ro (.loop b) ⟨T,N,D,pv⟩ st) Q:=by
 refine post_loop (I:=fun n T st => n ≤ L ∧ I (L - n) T st) (fun n T st ⟨hn,hI⟩ => ?_) (L - i) T st ⟨Nat.sub_le _ _,by rw [show L - (L - i) = i by omega]; exact hI⟩
 rcases Nat.eq_zero_or_pos n with h0 | h0
 ·subst h0
  exact (hs T st hI).mono fun e T' st' h => .inr h
 ·refine (hr (L - n) T st (by omega) hI).mono fun e T' st' h => ?_
  rcases h with ⟨he,h⟩ | h
  ·exact .inl ⟨he,n - 1,by omega,by omega,by rw [show L - (n - 1) = L - n + 1 by omega]; exact h⟩
  ·exact .inr h
end
def LogOk (n:Nat) (lg:List Nat):Prop:=∀ l ∈ lg,n ≤ l
theorem logOk_nil {n:Nat}:LogOk n [] = True:=eq_true fun l h => nomatch h
theorem logOk_cons {n l:Nat} {lg:List Nat}:LogOk n (l :: lg) = (n ≤ l ∧ LogOk n lg):=by
 simp [LogOk]
structure FnOk (C:Ctx) (f:FuncId) (fi:FI) (x:XC) (mu:Bool):Prop where
 fn:C.fn f = some fi
 code:codeOf C f fi = x
 mu:C.mu f = mu
 draws:drawB x = true
theorem FnOk.wf {C:Ctx} {f:FuncId} {fi:FI} {x:XC} {mu:Bool} (h:FnOk C f fi x mu):wfX C mu x:=by
 rw [← h.code,← h.mu]
 exact wf_compC _
def cellR (st:St):Option TI → AV → Option AV
 | some ti,.ptr p off => ldO ti.isAgg ti.size off (st.heap p)
 | some ti,.cptr cells => ti.part cells
 | _,_ => none
theorem resA_cellR {C:Ctx} {st:St} {t:Nat → AV} {a:Tmp} {ty:TypeId} {r:List ResultVar}:resultsA C st t (.cell a ty :: r) = (cellR st (C.ty ty) (t a)).bind fun v => (resultsA C st t r).map (v :: ·):=by
 have e:ld C st ty (t a) = cellR st (C.ty ty) (t a):=by
  unfold ld cellR
  cases C.ty ty with
  | none => rfl
  | some ti =>
   cases t a with
   | ptr l off => simp only [ldO]; cases st.heap l <;> rfl
   | _ => rfl
 simp only [resultsA,e]
 cases cellR st (C.ty ty) (t a) <;> cases resultsA C st t r <;> rfl
theorem cellR_ptr {st:St} {u:TypeDesc} {sz by_:Nat} {ag:Bool} {z:List AV} {pl:List (Nat × Nat)} {p off:Nat}:cellR st (some ⟨u,sz,by_,ag,z,pl⟩) (.ptr p off) = ldO ag sz off (st.heap p):=(rfl)
theorem callY0 {C:Ctx} {f:FuncId} {fi:FI} {x:XC} {mu:Bool} {N:Nat} {args:List AV} {st:St} {v:AV} (ok:FnOk C f fi x mu) (hX:C.X f args st = none) (hN:max fi.ntmps args.length = N)
  (h:Post N [] none (execY (callW C) C mu f none x ⟨argTmps args,N,[],none⟩ ⟨st.heap,st.next,[]⟩) fun e T st1 => endOf e = some none ∧ ∃ v0 st3,(resultsA C st1 T fi.results).map packA = some v0 ∧
   (if C.frz f then (freezeR C st1 v0).map (fun x => (untok x.1,x.2)) else some (v0,st1)) = some (v,st3) ∧ LogOk st.next st3.log ∧ belowA st.next v = true):callW C (.fn f) args .normal st = some (.ret v,st,none):=by
 obtain ⟨e,T,st1,h1,he,v0,st3,hr,hv,hl,hb⟩:=h
 have h2:=execY_sound x ok.wf ok.draws h1
 refine call_by ok.fn hX ok.code ok.mu ?_
 rw [hN,h2,bindS]
 cases hvs:resultsA C st1 T fi.results with
 | none => rw [hvs] at hr; cases hr
 | some vs =>
  rw [hvs,Option.map_some] at hr
  cases hr
  rw [finish_by he hvs hv,leave_log hl (belowL_one hb)]
theorem callY {C:Ctx} {f:FuncId} {fi:FI} {x:XC} {mu:Bool} {N:Nat} {args:List AV} {st:St} {v:AV} (ok:FnOk C f fi x mu) (hX:C.X f args st = none) (hN:max fi.ntmps args.length = N) (hc:CleanV v)
  (h:Post N [] none (execY (callW C) C mu f none x ⟨argTmps args,N,[],none⟩ ⟨st.heap,st.next,[]⟩) fun e T st1 => endOf e = some none ∧ (resultsA C st1 T fi.results).map packA = some v ∧ LogOk st.next st1.log) :
  callW C (.fn f) args .normal st = some (.ret v,st,none):=by
 refine callY0 ok hX hN (h.mono fun e T st1 ⟨a,b,c⟩ => ⟨a,v,st1,b,?_,c,hc.below _⟩)
 rw [freezeR_clean hc]
 split
 ·rw [Option.map_some,hc.untok]
 ·rfl
theorem packA_1 {v:AV}:packA [v] = v:=(rfl)
theorem packA_0:packA [] = .tuple []:=(rfl)
theorem packA_2 {v w:AV} {l:List AV}:packA (v :: w :: l) = .tuple (v :: w :: l):=(rfl)
theorem bind_assoc' {α β γ:Type} (x:Option α) (f:α → Option β) (g:β → Option γ):(x.bind f).bind g = x.bind fun a => (f a).bind g:=by cases x <;> rfl
end Go.AE

namespace Go.AE
open Go
def genK (k:Fr → St → Option Out) (d:Option Tmp) (fr:Fr):Option OPR → Option Out
 | some (.val v st) => k (fr.put d v) st
 | some (.pan v st) => some (.pan v,fr,st)
 | some (.dfr x st) => k (Fr.put { fr with defs:=x :: fr.defs } d undefA) st
 | some .rcv => (match fr.pv with | some v => k (Fr.put { fr with pv:=none } d v) st0 | none => none)
 | none => none
 where st0:St:=⟨fun _ => .dead,0,[]⟩
def genKs (k:Fr → St → Option Out) (d:Option Tmp) (fr:Fr) (st0:St):Option OPR → Option Out
 | some (.val v st) => k (fr.put d v) st
 | some (.pan v st) => some (.pan v,fr,st)
 | some (.dfr x st) => k (Fr.put { fr with defs:=x :: fr.defs } d undefA) st
 | some .rcv => (match fr.pv with | some v => k (Fr.put { fr with pv:=none } d v) st0 | none => none)
 | none => none
def noCall:Op → Bool
 | .call { callee:=.value _,.. } => false
 | _ => true
section
variable {call:CallF} {C:Ctx} {mu ro:Bool} {fr:Fr} {st:St} {d:Option Tmp} {l:List XR}
theorem runX_gen {o:Oper} (hn:noCall o.op = true):runX call C mu ro (⟨d,.gen o,none⟩ :: l) fr st = genKs (runX call C mu ro l) d fr st (opA C mu ro fr st o):=by
 have hc:callX call C d fr st (.gen o) = none:=by
  simp only [callX,callA]
  cases ho:o.op with
  | call c =>
   obtain ⟨callee,args,ts⟩:=c
   rw [ho] at hn
   cases callee with
   | value f => cases hn
   | _ => rfl
  | _ => rfl
 simp only [runX,guardA,Option.bind_some,if_true,runOpX,opX,hc]
 cases h:opA C mu ro fr st o with
 | none => rfl
 | some r =>
  cases r with
  | rcv => simp only [genKs]; cases fr.pv <;> rfl
  | _ => rfl
theorem genKs_val {k:Fr → St → Option Out} {v:AV} {st0:St}:genKs k d fr st0 (some (.val v st)) = k (fr.put d v) st:=(rfl)
theorem genKs_pan {k:Fr → St → Option Out} {v:AV} {st0:St}:genKs k d fr st0 (some (.pan v st)) = some (.pan v,fr,st):=(rfl)
theorem genKs_dfr {k:Fr → St → Option Out} {x:ADef} {st0:St} {t:Nat → AV} {m:Nat} {ds:List ADef} {pv:Option AV}:genKs k d ⟨t,m,ds,pv⟩ st0 (some (.dfr x st)) = k (Fr.put ⟨t,m,x :: ds,pv⟩ d undefA) st:=(rfl)
theorem genKs_rcv {k:Fr → St → Option Out} {st0:St} {t:Nat → AV} {m:Nat} {ds:List ADef} {v:AV}:genKs k d ⟨t,m,ds,some v⟩ st0 (some .rcv) = k (Fr.put ⟨t,m,ds,none⟩ d v) st0:=(rfl)
theorem ov_some {v:AV}:ov st (some v) = some (.val v st):=(rfl)
theorem ovs_some {v:AV} {st':St}:ovs (some (v,st')) = some (.val v st'):=(rfl)
theorem oval_t {t:Nat → AV} {m:Nat} {ds:List ADef} {pv:Option AV} {k:Nat}:oval C ⟨t,m,ds,pv⟩ (.tmp k) = t k:=(rfl)
theorem oval_c {v:Value}:oval C fr (.const v) = ofV v:=(rfl)
theorem oval_f {f:FuncId}:oval C fr (.func f) = .func (.func f) [] []:=(rfl)
variable {ds:Option Tmp} {ty:TypeId} {pos:String} {af:Array Edge} {g:Option (Nat × Bool)}
theorem gA_bin {op:BinOp} {t yt:TypeId} {x y:Operand}:opA C mu ro fr st ⟨ds,.binOp op t x y yt,ty,pos,af,g⟩ = ov st (binA C op t x y (oval C fr x) (oval C fr y)):=(rfl)
theorem gA_conv {s t:TypeId} {x:Operand}:opA C mu ro fr st ⟨ds,.convert s t x,ty,pos,af,g⟩ = ov st (convA C st s t (oval C fr x)):=(rfl)
theorem gA_lookup {t:TypeId} {x i:Operand} {ok:Bool}:opA C mu ro fr st ⟨ds,.lookup t x i ok,ty,pos,af,g⟩ = ov st (lookupA C st t (oval C fr x) (oval C fr i) ok):=(rfl)
theorem gA_assert {a t:TypeId} {x:Operand} {ok:Bool}:opA C mu ro fr st ⟨ds,.typeAssert x a t ok,ty,pos,af,g⟩ = ov st (assertA C (oval C fr x) t ok):=(rfl)
theorem gA_nilCheck {x:Operand}:opA C mu ro fr st ⟨ds,.nilCheck x,ty,pos,af,g⟩ = (match oval C fr x with
  | .ptr l a => some (.val (.ptr l a) st)
  | .cptr cs => some (.val (.cptr cs) st)
  | .func (.func f) a b => some (.val (.func (.func f) a b) st)
  | _ => none):=(rfl)
def sliceK3 (C:Ctx) (st:St) (t:TypeId) (x:AV) (lo hi mx:Option (Option Nat)):Option OPR :=
 match lo,hi,mx with
 | some lo,some hi,some mx => ov st (sliceA C st t x lo hi mx)
 | _,_,_ => none
theorem gA_slice {t:TypeId} {x:Operand} {lo hi mx:Option Operand}:opA C mu ro fr st ⟨ds,.slice t x lo hi mx,ty,pos,af,g⟩ = sliceK3 C st t (oval C fr x) (boundA C fr lo) (boundA C fr hi) (boundA C fr mx):=by
 simp only [opA,sliceK3]
 cases boundA C fr lo <;> cases boundA C fr hi <;> cases boundA C fr mx <;> rfl
theorem sliceK3_some {t:TypeId} {x:AV} {lo hi mx:Option Nat}:sliceK3 C st t x (some lo) (some hi) (some mx) = ov st (sliceA C st t x lo hi mx):=(rfl)
theorem boundA_none:boundA C fr none = some none:=(rfl)
theorem boundA_some {x:Operand}:boundA C fr (some x) = (natOf (oval C fr x)).map some:=(rfl)
theorem gA_panic {x:Operand}:opA C mu ro fr st ⟨ds,.panic x,ty,pos,af,g⟩ = (match oval C fr x with | .iface t v => some (.pan (.iface t v) st) | _ => none):=(rfl)
def panK (st:St):AV → Option OPR | .iface t v => some (.pan (.iface t v) st) | _ => none
theorem gA_panK {x:Operand}:opA C mu ro fr st ⟨ds,.panic x,ty,pos,af,g⟩ = panK st (oval C fr x):=by
 simp only [opA,panK]
 cases oval C fr x <;> rfl
theorem panK_iface {t:TypeId} {v:AV}:panK st (.iface t v) = some (.pan (.iface t v) st):=(rfl)
def ifaceK (st:St) (v:AV) (t:TypeId):Option TI → Option OPR
 | some ⟨.interface _,_,_,_,_,_⟩ => none
 | some _ => some (.val (.iface t v) st)
 | none => none
theorem gA_iface {t:TypeId} {x:Operand}:opA C mu ro fr st ⟨ds,.makeInterface t x,ty,pos,af,g⟩ = ifaceK st (oval C fr x) t (C.ty t):=by
 simp only [opA]
 cases C.ty t with
 | none => rfl
 | some ti => obtain ⟨u,a,b,c,d,e⟩:=ti; cases u <;> rfl
def noIface:TypeDesc → Bool | .interface _ => false | _ => true
theorem ifaceK_some {v:AV} {t:TypeId} {ti:TI} (h:noIface ti.und = true):ifaceK st v t (some ti) = some (.val (.iface t v) st):=by
 obtain ⟨u,a,b,c,d,e⟩:=ti
 cases u <;> first | rfl | cases h
theorem assertA_hit {t:TypeId} {ti:TI} {v:AV} (h:C.ty t = some ti) (hn:noIface ti.und = true):assertA C (.iface t v) t true = some (.tuple [v,.bool true]):=by
 simp only [assertA,h]
 obtain ⟨u,a,b,c,d,e⟩:=ti
 cases u <;> first | (simp only [if_true]; done) | cases hn
def deferK (args:List AV) (st:St):AV → Option OPR
 | .func (.func g) first captured => some (.dfr ⟨some g,0,first ++ args ++ captured⟩ st)
 | _ => none
theorem gA_defer {f:Operand} {args:Array Operand} {ts:Array TypeId}:opA C mu false fr st ⟨ds,.defer ⟨.value f,args,ts⟩,ty,pos,af,g⟩ = deferK (args.toList.map (oval C fr)) st (oval C fr f):=by
 simp only [opA,deferK,Bool.false_eq_true,if_false]
 cases oval C fr f with
 | func g a b => cases g <;> rfl
 | _ => rfl
theorem deferK_fn {args a b:List AV} {f:FuncId}:deferK args st (.func (.func f) a b) = some (.dfr ⟨some f,0,a ++ args ++ b⟩ st):=(rfl)
def rcvK (st:St):Option AV → Option OPR | some _ => some .rcv | none => some (.val .nilif st)
theorem gA_recover {ts:Array TypeId}:opA C mu false fr st ⟨ds,.call ⟨.builtin .recover,#[],ts⟩,ty,pos,af,g⟩ = rcvK st fr.pv:=by
 simp only [opA,builtinA,List.map_nil,Bool.false_eq_true,if_false]
 unfold rcvK
 cases fr.pv <;> rfl
theorem rcvK_some {v:AV}:rcvK st (some v) = some .rcv:=(rfl)
theorem rcvK_none:rcvK st none = some (.val .nilif st):=(rfl)
theorem gA_max {x y:Operand} {ts:Array TypeId}:opA C mu ro fr st ⟨ds,.call ⟨.builtin .max,#[x,y],ts⟩,ty,pos,af,g⟩ = ov st (maxA true (oval C fr x) [oval C fr y]):=(rfl)
theorem gA_min {x y:Operand} {ts:Array TypeId}:opA C mu ro fr st ⟨ds,.call ⟨.builtin .min,#[x,y],ts⟩,ty,pos,af,g⟩ = ov st (maxA false (oval C fr x) [oval C fr y]):=(rfl)
theorem maxA_int {b:Bool} {k j:IntKind} {x y:Int}:maxA b (.int k x) [.int j y] = some (.int k (if b then (if y > x then y else x) else (if y < x then y else x))):=(rfl)
theorem gA_makeMap {t:TypeId}:opA C mu ro fr st ⟨ds,.makeMap t none,ty,pos,af,g⟩ = some (.val (.map st.next) (st.push (.amap [] 0))):=(rfl)
def stOv:Option St → Option OPR | some st => some (.val undefA st) | none => none
theorem gA_insert {t:TypeId} {m k x:Operand}:opA C mu ro fr st ⟨ds,.insert t m k x,ty,pos,af,g⟩ = stOv (mapUpd C st t (oval C fr m) (oval C fr k) (oval C fr x) true):=by
 simp only [opA]; cases mapUpd C st t (oval C fr m) (oval C fr k) (oval C fr x) true <;> rfl
theorem gA_mapUpdate {t:TypeId} {m k x:Operand}:opA C mu ro fr st ⟨ds,.mapUpdate t m k x,ty,pos,af,g⟩ = stOv (mapUpd C st t (oval C fr m) (oval C fr k) (oval C fr x) false):=by
 simp only [opA]; cases mapUpd C st t (oval C fr m) (oval C fr k) (oval C fr x) false <;> rfl
theorem stOv_some:stOv (some st) = some (.val undefA st):=(rfl)
section
variable {fr:Fr}
theorem rdX_mv {x:XO}:readsX fr (.mv x) = some []:=(rfl)
theorem rdX_pick {x y z:XO}:readsX fr (.pick x y z) = some []:=(rfl)
theorem rdX_alloc {e:TypeId} {z:List AV}:readsX fr (.alloc e z) = some []:=(rfl)
theorem rdX_box {e:TypeId} {x:XO}:readsX fr (.box e x) = some []:=(rfl)
theorem rdX_build {z:List AV} {pl:List (Nat × Nat)} {ps:List (Nat × XO)}:readsX fr (.build z pl ps) = some []:=(rfl)
theorem rdX_buildS {mu:Bool} {e:TypeId} {a b:Nat} {ps:List (Nat × XO)}:readsX fr (.buildS mu e a b ps) = some []:=(rfl)
theorem rdX_binI {op:BinOp} {t:TypeId} {xo yo:Operand} {x y:XO}:readsX fr (.binI op t xo yo x y) = some []:=(rfl)
theorem rdX_binS {op:BinOp} {t:TypeId} {xo yo:Operand} {x y:XO}:readsX fr (.binS op t xo yo x y) = some []:=(rfl)
theorem rdX_un {op:UnOp} {x:XO}:readsX fr (.un op x) = some []:=(rfl)
theorem rdX_fa {o:Nat} {x:XO}:readsX fr (.fieldAddr o x) = some []:=(rfl)
theorem rdX_fi {o n:Nat} {b:Bool} {x:XO}:readsX fr (.field o b n x) = some []:=(rfl)
theorem rdX_idxS {n:Nat} {x i:XO}:readsX fr (.idxS n x i) = some []:=(rfl)
theorem rdX_idxStr {x i:XO}:readsX fr (.idxStr x i) = some []:=(rfl)
theorem rdX_ext {x:XO} {i:Nat}:readsX fr (.extract x i) = some []:=(rfl)
theorem rdX_lenS {x:XO}:readsX fr (.lenS x) = some []:=(rfl)
theorem rdX_lenStr {x:XO}:readsX fr (.lenStr x) = some []:=(rfl)
theorem rdX_mkFunc {f:FuncId} {a b:List XO}:readsX fr (.mkFunc f a b) = some []:=(rfl)
theorem rdX_app {mu:Bool} {e:TypeId} {ei:TI} {s x:XO}:readsX fr (.app mu e ei s x) = none:=(rfl)
theorem rdX_call {f:XO} {a:List XO}:readsX fr (.call f a) = none:=(rfl)
theorem rdX_gen {o:Oper}:readsX fr (.gen o) = genR fr o.op:=(rfl)
theorem qs_bin {a1:BinOp} {a2 a5:TypeId} {a3 a4:Operand}:genR fr (.binOp a1 a2 a3 a4 a5) = some []:=(rfl)
theorem qs_conv {a1 a2:TypeId} {a3:Operand}:genR fr (.convert a1 a2 a3) = none:=(rfl)
theorem qs_lookup {a1:TypeId} {a2 a3:Operand} {a4:Bool}:genR fr (.lookup a1 a2 a3 a4) = none:=(rfl)
theorem qs_assert {a1:Operand} {a2 a3:TypeId} {a4:Bool}:genR fr (.typeAssert a1 a2 a3 a4) = some []:=(rfl)
theorem qs_slice {a1:TypeId} {a2:Operand} {a3 a4 a5:Option Operand}:genR fr (.slice a1 a2 a3 a4 a5) = none:=(rfl)
theorem qs_panic {a1:Operand}:genR fr (.panic a1) = none:=(rfl)
theorem qs_iface {a1:TypeId} {a2:Operand}:genR fr (.makeInterface a1 a2) = some []:=(rfl)
theorem qs_defer {a1:Call}:genR fr (.defer a1) = none:=(rfl)
theorem qs_makeMap {a1:TypeId} {a2:Option Operand}:genR fr (.makeMap a1 a2) = some []:=(rfl)
theorem qs_insert {a1:TypeId} {m:Tmp} {a3 a4:Operand}:genR fr (.insert a1 (.tmp m) a3 a4) = mapR (fr.tmps m):=(rfl)
theorem qs_mapUpdate {a1:TypeId} {a2 a3 a4:Operand}:genR fr (.mapUpdate a1 a2 a3 a4) = none:=(rfl)
theorem qs_nil {a1:Operand}:genR fr (.nilCheck a1) = some []:=(rfl)
theorem qs_ia {a1:TypeId} {a2 a3:Operand}:genR fr (.indexAddr a1 a2 a3) = some []:=(rfl)
theorem qs_ix {a1:TypeId} {a2 a3:Operand}:genR fr (.index a1 a2 a3) = some []:=(rfl)
theorem qs_ms {a1:TypeId} {a2 a3:Operand}:genR fr (.makeSlice a1 a2 a3) = some []:=(rfl)
theorem qs_range {a1:TypeId} {a2:Operand}:genR fr (.range a1 a2) = none:=(rfl)
theorem qs_next {a1:Operand} {a2:Bool}:genR fr (.next a1 a2) = none:=(rfl)
theorem qs_entry {a1:Operand}:genR fr (.entry a1) = none:=(rfl)
theorem qs_build {a1:TypeId} {a2:Array (Nat × Operand)}:genR fr (.build a1 a2) = some []:=(rfl)
theorem qs_b {b:Builtin} {xs:Array Operand} {ts:Array TypeId}:genR fr (.call ⟨.builtin b,xs,ts⟩) = none:=(rfl)
theorem mapR_map {l:Nat}:mapR (.map l) = some [l]:=(rfl)
end
theorem nc_bin {a1:BinOp} {a2 a5:TypeId} {a3 a4:Operand}:noCall (.binOp a1 a2 a3 a4 a5) = true:=(rfl)
theorem nc_conv {a1 a2:TypeId} {a3:Operand}:noCall (.convert a1 a2 a3) = true:=(rfl)
theorem nc_lookup {a1:TypeId} {a2 a3:Operand} {a4:Bool}:noCall (.lookup a1 a2 a3 a4) = true:=(rfl)
theorem nc_assert {a1:Operand} {a2 a3:TypeId} {a4:Bool}:noCall (.typeAssert a1 a2 a3 a4) = true:=(rfl)
theorem nc_slice {a1:TypeId} {a2:Operand} {a3 a4 a5:Option Operand}:noCall (.slice a1 a2 a3 a4 a5) = true:=(rfl)
theorem nc_panic {a1:Operand}:noCall (.panic a1) = true:=(rfl)
theorem nc_iface {a1:TypeId} {a2:Operand}:noCall (.makeInterface a1 a2) = true:=(rfl)
theorem nc_defer {a1:Call}:noCall (.defer a1) = true:=(rfl)
theorem nc_makeMap {a1:TypeId} {a2:Option Operand}:noCall (.makeMap a1 a2) = true:=(rfl)
theorem nc_insert {a1:TypeId} {a2 a3 a4:Operand}:noCall (.insert a1 a2 a3 a4) = true:=(rfl)
theorem nc_mapUpdate {a1:TypeId} {a2 a3 a4:Operand}:noCall (.mapUpdate a1 a2 a3 a4) = true:=(rfl)
theorem nc_nil {a1:Operand}:noCall (.nilCheck a1) = true:=(rfl)
theorem nc_ia {a1:TypeId} {a2 a3:Operand}:noCall (.indexAddr a1 a2 a3) = true:=(rfl)
theorem nc_ix {a1:TypeId} {a2 a3:Operand}:noCall (.index a1 a2 a3) = true:=(rfl)
theorem nc_ms {a1:TypeId} {a2 a3:Operand}:noCall (.makeSlice a1 a2 a3) = true:=(rfl)
theorem nc_range {a1:TypeId} {a2:Operand}:noCall (.range a1 a2) = true:=(rfl)
theorem nc_next {a1:Operand} {a2:Bool}:noCall (.next a1 a2) = true:=(rfl)
theorem nc_entry {a1:Operand}:noCall (.entry a1) = true:=(rfl)
theorem nc_build {a1:TypeId} {a2:Array (Nat × Operand)}:noCall (.build a1 a2) = true:=(rfl)
theorem noCall_b {b:Builtin} {xs:Array Operand} {ts:Array TypeId}:noCall (.call ⟨.builtin b,xs,ts⟩) = true:=(rfl)
theorem elemsOf_slice {ei:TI} {k:SK} {es:List AV}:elemsOf st ei (.slice k es) = some es:=(rfl)
def lenStrK:AV → Option AV | .str s => some (.int .i64 (s.length:Int)) | _ => none
theorem lenStrK_str {s:List Nat}:lenStrK (.str s) = some (.int .i64 (s.length:Int)):=(rfl)
theorem runX_lenStr {x:XO}:runX call C mu ro (⟨d,.lenStr x,none⟩ :: l) fr st = (lenStrK (x.val fr)).bind fun v => runX call C mu ro l (fr.put d v) st :=
 ov_run (by simp only [opX,lenStrK]; cases x.val fr <;> rfl) rfl
def idxStrK:Option Nat → AV → Option AV | some i,.str s => (s[i]?).map fun b => .int .u8 ((b:Nat):Int) | _,_ => none
theorem idxStrK_some {i:Nat} {s:List Nat}:idxStrK (some i) (.str s) = (s[i]?).map fun b => .int .u8 ((b:Nat):Int):=(rfl)
theorem runX_idxStr {x i:XO}:runX call C mu ro (⟨d,.idxStr x i,none⟩ :: l) fr st = (idxStrK (natOf (i.val fr)) (x.val fr)).bind fun v => runX call C mu ro l (fr.put d v) st :=
 ov_run (by simp only [opX,idxStrK]; cases natOf (i.val fr) <;> cases x.val fr <;> rfl) rfl
theorem sliceA_str {t:TypeId} {n m:Nat} {ag:Bool} {z:List AV} {pl:List (Nat × Nat)} {s:List Nat} {lo hi:Option Nat} (h:C.ty t = some ⟨.string,n,m,ag,z,pl⟩):sliceA C st t (.str s) lo hi none = sliceStr s lo hi:=by
 simp only [sliceA,h]
theorem sliceStr_lo {s:List Nat} {i:Nat} (h:(i ≤ s.length) = True):sliceStr s (some i) none = some (.str (s.drop i)):=by
 have h:=of_eq_true h
 simp only [sliceStr,Option.getD_some,Option.getD_none]
 rw [if_pos ⟨h,Nat.le_refl _⟩,List.take_of_length_le (by simp)]
theorem sliceStr_hi {s:List Nat} {i:Nat} (h:(i ≤ s.length) = True):sliceStr s none (some i) = some (.str (s.take i)):=by
 have h:=of_eq_true h
 simp only [sliceStr,Option.getD_some,Option.getD_none]
 rw [if_pos ⟨Nat.zero_le _,h⟩]; rfl
theorem sliceStr_both {s:List Nat} {i j:Nat} (h:(i ≤ j ∧ j ≤ s.length) = True):sliceStr s (some i) (some j) = some (.str ((s.drop i).take (j - i))):=by
 have h:=of_eq_true h
 simp only [sliceStr,Option.getD_some]
 rw [if_pos h]
def iaK (C:Ctx) (st:St) (t:TypeId) (x:AV):Option Nat → Option OPR | some i => ov st (indexAddrA C t x i) | none => none
theorem gA_ia {t:TypeId} {x i:Operand}:opA C mu ro fr st ⟨ds,.indexAddr t x i,ty,pos,af,g⟩ = iaK C st t (oval C fr x) (natOf (oval C fr i)):=by
 simp only [opA,iaK]
 cases natOf (oval C fr i) <;> rfl
theorem iaK_some {t:TypeId} {x:AV} {i:Nat}:iaK C st t x (some i) = ov st (indexAddrA C t x i):=(rfl)
def iaArr (size n i:Nat):AV → Option AV
 | .ptr l off => if i < n then some (.ptr l (off + i * size)) else none
 | .cptr cells => if i < n then some (.cptr (cells.drop (i * size))) else none
 | _ => none
theorem indexAddrA_arr {t e:TypeId} {n n1 m1:Nat} {ag:Bool} {z:List AV} {pl:List (Nat × Nat)} {ei:TI} {x:AV} {i:Nat} (h:C.ty t = some ⟨.array n e,n1,m1,ag,z,pl⟩) (he:C.ty e = some ei):indexAddrA C t x i = iaArr ei.size n i x:=by
 simp only [indexAddrA,h,sizeIs,he,Option.map_some]
 cases x <;> rfl
theorem iaArr_ptr {size n i p off:Nat} (h:(i < n) = True):iaArr size n i (.ptr p off) = some (.ptr p (off + i * size)):=by
 simp only [iaArr]; rw [if_pos (of_eq_true h)]
theorem iaArr_cptr {size n i:Nat} {cs:List AV} (h:(i < n) = True):iaArr size n i (.cptr cs) = some (.cptr (cs.drop (i * size))):=by
 simp only [iaArr]; rw [if_pos (of_eq_true h)]
theorem partX_at {size i:Nat} {cs:List AV}:partX false size (cs.drop i) = cs[i]?:=by
 simp [partX]
theorem splice_set {i:Nat} {v:AV} {cs:List AV} (h:(i < cs.length) = True):splice i [v] cs = cs.set i v:=by
 have h:=of_eq_true h
 simp only [splice,List.length_cons,List.length_nil]
 rw [List.set_eq_take_append_cons_drop,if_pos h]
 simp
theorem convA_int {s t:TypeId} {j k:IntKind} {n1 m1 n2 m2:Nat} {ag ag2:Bool} {z z2:List AV} {pl pl2:List (Nat × Nat)} {i:IntKind} {n:Int} (h:C.ty s = some ⟨.int j,n1,m1,ag,z,pl⟩) (h2:C.ty t = some ⟨.int k,n2,m2,ag2,z2,pl2⟩):convA C st s t (.int i n) = some (.int k (k.wrap n)):=by
 simp only [convA,h,h2]
end
end Go.AE

namespace Go.AE
open Go
theorem o1 {p q:Prop} (a:p) (b:q):p ∧ q:=⟨a,b⟩
theorem one_ne0:((1:Nat) = 0) = False:=eq_false (by decide)
theorem RS0:type_of% ((o1 (o1 (o1 (o1 (o1 @execY_seq @execY_ops) (o1 @execY_ret (o1 @execY_skip @execY_exit))) (o1 (o1 @execY_block @execY_ct) (o1 @execY_cf (o1 @execY_draw @seqK_norm)))) (o1 (o1 (o1 @seqK_ret @seqK_exit) (o1 @seqK_pan (o1 @blockK_norm @blockK_ret))) (o1 (o1 @blockK_hit @blockK_miss) (o1 @bind_assoc' (o1 @post_some @runX_mv))))) (o1 (o1 (o1 (o1 @runX_box @runX_fieldAddr) (o1 @runX_load (o1 @runX_binI @runX_binS))) (o1 (o1 @runX_un @runX_pt) (o1 @runX_pf (o1 @runX_lenS @runX_idxS)))) (o1 (o1 (o1 @runX_extract @runX_alloc) (o1 @runX_store (o1 @runX_call @runX_mkFunc))) (o1 (o1 @runX_build @runX_buildS) (o1 @runX_app (o1 @elemsOf_slice @runX_gen))))))):=(o1 (o1 (o1 (o1 (o1 @execY_seq @execY_ops) (o1 @execY_ret (o1 @execY_skip @execY_exit))) (o1 (o1 @execY_block @execY_ct) (o1 @execY_cf (o1 @execY_draw @seqK_norm)))) (o1 (o1 (o1 @seqK_ret @seqK_exit) (o1 @seqK_pan (o1 @blockK_norm @blockK_ret))) (o1 (o1 @blockK_hit @blockK_miss) (o1 @bind_assoc' (o1 @post_some @runX_mv))))) (o1 (o1 (o1 (o1 @runX_box @runX_fieldAddr) (o1 @runX_load (o1 @runX_binI @runX_binS))) (o1 (o1 @runX_un @runX_pt) (o1 @runX_pf (o1 @runX_lenS @runX_idxS)))) (o1 (o1 (o1 @runX_extract @runX_alloc) (o1 @runX_store (o1 @runX_call @runX_mkFunc))) (o1 (o1 @runX_build @runX_buildS) (o1 @runX_app (o1 @elemsOf_slice @runX_gen))))))
theorem RS1:type_of% ((o1 (o1 (o1 (o1 (o1 @noCall_b @nc_bin) (o1 @nc_conv (o1 @nc_lookup @nc_assert))) (o1 (o1 @nc_slice @nc_panic) (o1 @nc_iface (o1 @nc_defer @nc_makeMap)))) (o1 (o1 (o1 @nc_insert @nc_mapUpdate) (o1 @nc_nil (o1 @nc_ia @nc_ix))) (o1 (o1 @nc_ms @nc_range) (o1 @nc_next (o1 @nc_entry @nc_build))))) (o1 (o1 (o1 (o1 @genKs_val @genKs_pan) (o1 @genKs_dfr (o1 @genKs_rcv @ov_some))) (o1 (o1 @ovs_some @oval_t) (o1 @oval_c (o1 @oval_f @gA_bin)))) (o1 (o1 (o1 @gA_conv @gA_lookup) (o1 @gA_assert (o1 @gA_slice @sliceK3_some))) (o1 (o1 @boundA_none @boundA_some) (o1 @gA_panK (o1 @panK_iface @gA_iface))))))):=(o1 (o1 (o1 (o1 (o1 @noCall_b @nc_bin) (o1 @nc_conv (o1 @nc_lookup @nc_assert))) (o1 (o1 @nc_slice @nc_panic) (o1 @nc_iface (o1 @nc_defer @nc_makeMap)))) (o1 (o1 (o1 @nc_insert @nc_mapUpdate) (o1 @nc_nil (o1 @nc_ia @nc_ix))) (o1 (o1 @nc_ms @nc_range) (o1 @nc_next (o1 @nc_entry @nc_build))))) (o1 (o1 (o1 (o1 @genKs_val @genKs_pan) (o1 @genKs_dfr (o1 @genKs_rcv @ov_some))) (o1 (o1 @ovs_some @oval_t) (o1 @oval_c (o1 @oval_f @gA_bin)))) (o1 (o1 (o1 @gA_conv @gA_lookup) (o1 @gA_assert (o1 @gA_slice @sliceK3_some))) (o1 (o1 @boundA_none @boundA_some) (o1 @gA_panK (o1 @panK_iface @gA_iface))))))
theorem RS2:type_of% ((o1 (o1 (o1 (o1 (o1 @gA_defer @deferK_fn) (o1 @gA_recover (o1 @rcvK_some @rcvK_none))) (o1 (o1 @gA_max @gA_min) (o1 @maxA_int (o1 @gA_makeMap @gA_insert)))) (o1 (o1 (o1 @gA_mapUpdate @stOv_some) (o1 @runX_tt (o1 @runX_tf @runX_ff))) (o1 (o1 @runX_ft @runX_nil) (o1 @put_mk (o1 @put_none @val_t))))) (o1 (o1 (o1 (o1 @val_c @push_mk) (o1 @set_mk (o1 @upd_hit @upd_miss))) (o1 (o1 @argTmps_at @getD_0) (o1 @getD_1 (o1 @getD_2 @getD_3)))) (o1 (o1 (o1 @cells_agg @cells_int) (o1 @cells_bool (o1 @cells_str @cells_slice))) (o1 (o1 @any_agg @any_int) (o1 @any_bool (o1 @any_str @any_slice))))))):=(o1 (o1 (o1 (o1 (o1 @gA_defer @deferK_fn) (o1 @gA_recover (o1 @rcvK_some @rcvK_none))) (o1 (o1 @gA_max @gA_min) (o1 @maxA_int (o1 @gA_makeMap @gA_insert)))) (o1 (o1 (o1 @gA_mapUpdate @stOv_some) (o1 @runX_tt (o1 @runX_tf @runX_ff))) (o1 (o1 @runX_ft @runX_nil) (o1 @put_mk (o1 @put_none @val_t))))) (o1 (o1 (o1 (o1 @val_c @push_mk) (o1 @set_mk (o1 @upd_hit @upd_miss))) (o1 (o1 @argTmps_at @getD_0) (o1 @getD_1 (o1 @getD_2 @getD_3)))) (o1 (o1 (o1 @cells_agg @cells_int) (o1 @cells_bool (o1 @cells_str @cells_slice))) (o1 (o1 @any_agg @any_int) (o1 @any_bool (o1 @any_str @any_slice))))))
theorem RS3:type_of% ((o1 (o1 (o1 (o1 (o1 @any_ptr @Nat.add_assoc) (o1 @Nat.add_eq_left (o1 @Nat.left_eq_add @Nat.le_add_right))) (o1 (o1 @Nat.le_refl @Nat.lt_irrefl) (o1 @bindS (o1 @addrX_ptr @addrX_cptr)))) (o1 (o1 (o1 @ldX_ptr @ldX_cptr) (o1 @ldO_mem (o1 @partX_cell @partX_agg))) (o1 (o1 @binIX_int @binSX_str) (o1 @i_add (o1 @i_sub @i_mul))))) (o1 (o1 (o1 (o1 @i_eql @i_neq) (o1 @i_lss (o1 @i_leq @i_gtr))) (o1 (o1 @i_geq @s_eql) (o1 @s_neq (o1 @lenX_slice @un_not)))) (o1 (o1 (o1 @idxK_some @idxX_slice) (o1 @idxO_some (o1 @natOf_0 @natOf_1))) (o1 (o1 @natOf_2 @natOf_3) (o1 @natOf_cast (o1 @drop0 @drop1))))))):=(o1 (o1 (o1 (o1 (o1 @any_ptr @Nat.add_assoc) (o1 @Nat.add_eq_left (o1 @Nat.left_eq_add @Nat.le_add_right))) (o1 (o1 @Nat.le_refl @Nat.lt_irrefl) (o1 @bindS (o1 @addrX_ptr @addrX_cptr)))) (o1 (o1 (o1 @ldX_ptr @ldX_cptr) (o1 @ldO_mem (o1 @partX_cell @partX_agg))) (o1 (o1 @binIX_int @binSX_str) (o1 @i_add (o1 @i_sub @i_mul))))) (o1 (o1 (o1 (o1 @i_eql @i_neq) (o1 @i_lss (o1 @i_leq @i_gtr))) (o1 (o1 @i_geq @s_eql) (o1 @s_neq (o1 @lenX_slice @un_not)))) (o1 (o1 (o1 @idxK_some @idxX_slice) (o1 @idxO_some (o1 @natOf_0 @natOf_1))) (o1 (o1 @natOf_2 @natOf_3) (o1 @natOf_cast (o1 @drop0 @drop1))))))
theorem RS4:type_of% ((o1 (o1 (o1 (o1 (o1 @drop2 @drop3) (o1 @drop4 (o1 @zadd @notT))) (o1 (o1 @notF @callK_ret) (o1 @callK_pan (o1 @callD_fn @callD_yield)))) (o1 (o1 (o1 @mapv_nil @mapv_cons) (o1 @app_nil (o1 @nil_app @cons_app))) (o1 (o1 @stK_some @stoV_ptr) (o1 @sto_cons (o1 @stO_mem @exV_tuple))))) (o1 (o1 (o1 (o1 @partsX_cons @partsX_nil) (o1 @elemsA_nil (o1 @elemsA_cons @fillA_nil))) (o1 (o1 @fillA_cons @fillK_some) (o1 @le0 (o1 @le1 @le2)))) (o1 (o1 (o1 @le3 @splice0) (o1 @splice1 (o1 @splice2 @splice3))) (o1 (o1 @spliceA @len_nil) (o1 @len_cons (o1 @all_nil @all_cons))))))):=(o1 (o1 (o1 (o1 (o1 @drop2 @drop3) (o1 @drop4 (o1 @zadd @notT))) (o1 (o1 @notF @callK_ret) (o1 @callK_pan (o1 @callD_fn @callD_yield)))) (o1 (o1 (o1 @mapv_nil @mapv_cons) (o1 @app_nil (o1 @nil_app @cons_app))) (o1 (o1 @stK_some @stoV_ptr) (o1 @sto_cons (o1 @stO_mem @exV_tuple))))) (o1 (o1 (o1 (o1 @partsX_cons @partsX_nil) (o1 @elemsA_nil (o1 @elemsA_cons @fillA_nil))) (o1 (o1 @fillA_cons @fillK_some) (o1 @le0 (o1 @le1 @le2)))) (o1 (o1 (o1 @le3 @splice0) (o1 @splice1 (o1 @splice2 @splice3))) (o1 (o1 @spliceA @len_nil) (o1 @len_cons (o1 @all_nil @all_cons))))))
theorem RS5:type_of% ((o1 (o1 (o1 (o1 (o1 @ic_int @ic_bool) (o1 @ic_str (o1 @ic_slice @andT))) (o1 (o1 @not_false_eq_true @not_true_eq_false) (o1 @endOf_ret (o1 @endOf_norm @resA_nil)))) (o1 (o1 (o1 @resA_tmp @resA_cellR) (o1 @cellR_ptr (o1 @packA_0 @packA_1))) (o1 (o1 @packA_2 @logOk_nil) (o1 @logOk_cons (o1 @true_and @and_true))))) (o1 (o1 (o1 (o1 @and_self @false_and) (o1 @or_false (o1 @false_or @Int.ofNat_lt))) (o1 (o1 @Int.ofNat_le @decide_true) (o1 @decide_false (o1 @Bool.not_true @Bool.not_false)))) (o1 (o1 (o1 @Bool.true_and @Bool.false_and) (o1 @Bool.and_true (o1 @Bool.and_false @runXG_nil))) (o1 (o1 @lenStrK_str @runX_lenStr) (o1 @idxStrK_some (o1 @runX_idxStr @sliceStr_lo))))))):=(o1 (o1 (o1 (o1 (o1 @ic_int @ic_bool) (o1 @ic_str (o1 @ic_slice @andT))) (o1 (o1 @not_false_eq_true @not_true_eq_false) (o1 @endOf_ret (o1 @endOf_norm @resA_nil)))) (o1 (o1 (o1 @resA_tmp @resA_cellR) (o1 @cellR_ptr (o1 @packA_0 @packA_1))) (o1 (o1 @packA_2 @logOk_nil) (o1 @logOk_cons (o1 @true_and @and_true))))) (o1 (o1 (o1 (o1 @and_self @false_and) (o1 @or_false (o1 @false_or @Int.ofNat_lt))) (o1 (o1 @Int.ofNat_le @decide_true) (o1 @decide_false (o1 @Bool.not_true @Bool.not_false)))) (o1 (o1 (o1 @Bool.true_and @Bool.false_and) (o1 @Bool.and_true (o1 @Bool.and_false @runXG_nil))) (o1 (o1 @lenStrK_str @runX_lenStr) (o1 @idxStrK_some (o1 @runX_idxStr @sliceStr_lo))))))
theorem RS6:type_of% ((o1 (o1 (o1 (o1 (o1 @sliceStr_hi @gA_ia) (o1 @iaK_some (o1 @iaArr_ptr @iaArr_cptr))) (o1 (o1 @partX_at @drawK_some) (o1 @runXG_n (o1 @runXG_tt @runXG_ff)))) (o1 (o1 (o1 @runXG_tf @runXG_ft) (o1 @runXG_gu (o1 @consR_some @nextG_some))) (o1 (o1 @live_nil @live_cons) (o1 @dead_mem (o1 @dead_tok @ptrR_ptr))))) (o1 (o1 (o1 (o1 @ptrR_cptr @rdX_load) (o1 @rdX_store (o1 @mk_consR @mk_nilR))) (o1 (o1 @crit_nil @crit_n) (o1 @crit_e (o1 @crit_s @mk_consW)))) (o1 (o1 (o1 @mk_nilW @mkd_nil) (o1 @mkd_old (o1 @mkd_new @mb_hit))) (o1 (o1 @mb_sub @mb_f) (o1 @am_nil (o1 @am_f @am_t))))))):=(o1 (o1 (o1 (o1 (o1 @sliceStr_hi @gA_ia) (o1 @iaK_some (o1 @iaArr_ptr @iaArr_cptr))) (o1 (o1 @partX_at @drawK_some) (o1 @runXG_n (o1 @runXG_tt @runXG_ff)))) (o1 (o1 (o1 @runXG_tf @runXG_ft) (o1 @runXG_gu (o1 @consR_some @nextG_some))) (o1 (o1 @live_nil @live_cons) (o1 @dead_mem (o1 @dead_tok @ptrR_ptr))))) (o1 (o1 (o1 (o1 @ptrR_cptr @rdX_load) (o1 @rdX_store (o1 @mk_consR @mk_nilR))) (o1 (o1 @crit_nil @crit_n) (o1 @crit_e (o1 @crit_s @mk_consW)))) (o1 (o1 (o1 @mk_nilW @mkd_nil) (o1 @mkd_old (o1 @mkd_new @mb_hit))) (o1 (o1 @mb_sub @mb_f) (o1 @am_nil (o1 @am_f @am_t))))))
theorem RS7:type_of% ((o1 (o1 (o1 (o1 (o1 @mo_some @mo_none) (o1 @fr_nil (o1 @fr_cons @nm_f))) (o1 (o1 @nm_lt @nm_ge) (o1 @nm_nil (o1 @ml_nil @ml_cons)))) (o1 (o1 (o1 @ni_nil @ni_cons) (o1 @rdX_mv (o1 @rdX_pick @rdX_alloc))) (o1 (o1 @rdX_box @rdX_build) (o1 @rdX_buildS (o1 @rdX_binI @rdX_binS))))) (o1 (o1 (o1 (o1 @rdX_un @rdX_fa) (o1 @rdX_fi (o1 @rdX_idxS @rdX_idxStr))) (o1 (o1 @rdX_ext @rdX_lenS) (o1 @rdX_lenStr (o1 @rdX_mkFunc @rdX_app)))) (o1 (o1 (o1 @rdX_call @rdX_gen) (o1 @qs_bin (o1 @qs_conv @qs_lookup))) (o1 (o1 @qs_assert @qs_slice) (o1 @qs_panic (o1 @qs_iface @qs_defer))))))):=(o1 (o1 (o1 (o1 (o1 @mo_some @mo_none) (o1 @fr_nil (o1 @fr_cons @nm_f))) (o1 (o1 @nm_lt @nm_ge) (o1 @nm_nil (o1 @ml_nil @ml_cons)))) (o1 (o1 (o1 @ni_nil @ni_cons) (o1 @rdX_mv (o1 @rdX_pick @rdX_alloc))) (o1 (o1 @rdX_box @rdX_build) (o1 @rdX_buildS (o1 @rdX_binI @rdX_binS))))) (o1 (o1 (o1 (o1 @rdX_un @rdX_fa) (o1 @rdX_fi (o1 @rdX_idxS @rdX_idxStr))) (o1 (o1 @rdX_ext @rdX_lenS) (o1 @rdX_lenStr (o1 @rdX_mkFunc @rdX_app)))) (o1 (o1 (o1 @rdX_call @rdX_gen) (o1 @qs_bin (o1 @qs_conv @qs_lookup))) (o1 (o1 @qs_assert @qs_slice) (o1 @qs_panic (o1 @qs_iface @qs_defer))))))
theorem RS8:type_of% ((o1 (o1 (o1 @qs_makeMap (o1 (o1 @qs_insert @mapR_map) @qs_mapUpdate)) (o1 (o1 @qs_nil @qs_ia) (o1 @qs_ix @qs_ms))) (o1 (o1 @qs_range (o1 @qs_next @qs_entry)) (o1 (o1 @qs_build @qs_b) (o1 @iteT @iteF))))):=(o1 (o1 (o1 @qs_makeMap (o1 (o1 @qs_insert @mapR_map) @qs_mapUpdate)) (o1 (o1 @qs_nil @qs_ia) (o1 @qs_ix @qs_ms))) (o1 (o1 @qs_range (o1 @qs_next @qs_entry)) (o1 (o1 @qs_build @qs_b) (o1 @iteT @iteF))))
theorem RS:type_of% ((o1 (o1 (o1 @RS0 @RS1) (o1 @RS2 (o1 @RS3 @RS4))) (o1 (o1 @RS5 @RS6) (o1 @RS7 (o1 @RS8 @one_ne0))))):=(o1 (o1 (o1 @RS0 @RS1) (o1 @RS2 (o1 @RS3 @RS4))) (o1 (o1 @RS5 @RS6) (o1 @RS7 (o1 @RS8 @one_ne0))))
end Go.AE

namespace Go.AE
open Go
section
variable {call:CallF} {C:Ctx} {mu ro:Bool} {fr:Fr} {st:St} {d:Option Tmp} {l:List XR}
theorem runX_gu {o:XOp} {t:Nat} {w:Bool} (h:fr.tmps t = undefA):runX call C mu ro (⟨d,o,some (some t,w)⟩ :: l) fr st = runX call C mu ro l (fr.put d undefA) st:=by
 simp only [runX,guardA,h]; rfl
end
theorem cellR_ti {st:St} {ti:TI} {p off:Nat}:cellR st (some ti) (.ptr p off) = ldO ti.isAgg ti.size off (st.heap p):=(rfl)
theorem cast_0:((0:Nat):Int) = 0:=(rfl)
theorem cast_1:((1:Nat):Int) = 1:=(rfl)
theorem cast_2:((2:Nat):Int) = 2:=(rfl)
theorem AS_sub_add {a b:Nat}:a + b - a = b:=by omega
theorem RT:type_of% ((o1 (o1 (o1 (o1 @runX_gu @Bool.true_or) (o1 @Bool.false_or @Bool.or_true)) (o1 (o1 @Bool.or_false @Bool.or_self) (o1 @Bool.and_self (o1 @Nat.zero_le @Nat.add_lt_add_iff_left)))) (o1 (o1 (o1 @Nat.add_le_add_iff_left @Nat.lt_add_right_iff_pos) (o1 @blockK_pan @cast_0)) (o1 (o1 @cast_1 @cast_2) (o1 @sliceStr_both (o1 @Nat.sub_zero @AS_sub_add)))))):=(o1 (o1 (o1 (o1 @runX_gu @Bool.true_or) (o1 @Bool.false_or @Bool.or_true)) (o1 (o1 @Bool.or_false @Bool.or_self) (o1 @Bool.and_self (o1 @Nat.zero_le @Nat.add_lt_add_iff_left)))) (o1 (o1 (o1 @Nat.add_le_add_iff_left @Nat.lt_add_right_iff_pos) (o1 @blockK_pan @cast_0)) (o1 (o1 @cast_1 @cast_2) (o1 @sliceStr_both (o1 @Nat.sub_zero @AS_sub_add)))))
end Go.AE

namespace Go.AE
open Go
section
variable {C:Ctx} {f:FuncId} {fi:FI} {x:XC} {mu:Bool} {N:Nat} {args:List AV} {st:St} {r:CR × St × Option AV}
theorem callYr (ok:FnOk C f fi x mu) (hX:C.X f args st = none) (hN:max fi.ntmps args.length = N)
  (h:∃ o,execY (callW C) C mu f none x ⟨argTmps args,N,[],none⟩ ⟨st.heap,st.next,[]⟩ = some o ∧ finishFn (callW C) C f fi .normal st o.1 o.2.1 o.2.2 = some r):callW C (.fn f) args .normal st = some r:=by
 obtain ⟨o,h1,h2⟩:=h
 refine call_by ok.fn hX ok.code ok.mu ?_
 rw [hN,execY_sound x ok.wf ok.draws h1,bindS]
 exact h2
theorem callYd {pv:Option AV} (ok:FnOk C f fi x mu) (hN:max fi.ntmps args.length = N)
  (h:∃ o,execY (callW C) C mu f none x ⟨argTmps args,N,[],pv⟩ ⟨st.heap,st.next,[]⟩ = some o ∧ finishFn (callW C) C f fi (.deferred pv) st o.1 o.2.1 o.2.2 = some r):callW C (.fn f) args (.deferred pv) st = some r:=by
 obtain ⟨o,h1,h2⟩:=h
 refine callW_deferred ok.fn ?_
 unfold enterFn
 rw [exec_codeOf,ok.code,ok.mu,hN]
 simp only [Knd.pv]
 rw [execY_sound x ok.wf ok.draws h1]
 exact h2
theorem Post.raw {D:List ADef} {pv:Option AV} {m:Option Out} {Q:EX → (Nat → AV) → St → Prop} {R:Out → Prop} (h:Post N D pv m Q) (k:∀ e T st,Q e T st → R (e,⟨T,N,D,pv⟩,st)):∃ o,m = some o ∧ R o:=by
 obtain ⟨e,T,st,h1,h2⟩:=h
 exact ⟨_,h1,k _ _ _ h2⟩
theorem finish_ret {kd:Knd} {call:CallF} {e:EX} {T:Nat → AV} {pv:Option AV} {st1 st3:St} {v0 v:AV} (he:endOf e = some none) (hr:(resultsA C st1 T fi.results).map packA = some v0)
  (hv:(if C.frz f then (freezeR C st1 v0).map (fun x => (untok x.1,x.2)) else some (v0,st1)) = some (v,st3)):finishFn call C f fi kd st e ⟨T,N,[],pv⟩ st1 = some (.ret v,leaveSt st (v :: pv.toList) st3,pv):=by
 cases hvs:resultsA C st1 T fi.results with
 | none => rw [hvs] at hr; cases hr
 | some vs =>
  rw [hvs,Option.map_some] at hr
  cases hr
  simp only [finishFn,he,runDefs,hvs,hv]
theorem finish_pan {kd:Knd} {call:CallF} {T:Nat → AV} {v:AV} {pv:Option AV} {st1:St}:finishFn call C f fi kd st (.pan v) ⟨T,N,[],pv⟩ st1 = some (.pan v,leaveSt st (v :: pv.toList) st1,pv):=by
 simp only [finishFn,endOf,runDefs]
theorem frz_noRow {st1:St} {v:AV} (h:freezeR C st1 v = some (v,st1)) (hu:C.frz f = false → untok v = v):(if C.frz f then (freezeR C st1 v).map (fun x => (untok x.1,x.2)) else some (v,st1)) = some (untok v,st1):=by
 cases hf:C.frz f with
 | true => rw [if_pos rfl,h]; rfl
 | false => rw [if_neg (by decide),hu hf]
theorem leave_cases {st0 st1:St} {vs:List AV}:(leaveSt st0 vs st1 = st0 ∧ ∀ l ∈ st1.log,st0.next ≤ l) ∨ leaveSt st0 vs st1 = ⟨st1.heap,st1.next,st1.log.filter (· < st0.next) ++ st0.log⟩:=by
 unfold leaveSt
 split
 ·rename_i h
  rw [Bool.and_eq_true] at h
  exact .inl ⟨rfl,fun l hl => of_decide_eq_true (List.all_eq_true.1 h.1 l hl)⟩
 ·exact .inr rfl
end
def rangeK (call:CallF) (C:Ctx) (self:FuncId) (ps:List Tmp) (a b:Code) (fr:Fr) (st:St):AV → Option Out
 | .func (.func g) xs ys => if (C.fn g).isNone then none else rangeLoop call self g xs ys ps a b st.next { fr with defs:=⟨none,st.next,[]⟩ :: fr.defs } (st.push .dfr)
 | _ => none
theorem execY_rangeF {call:CallF} {C:Ctx} {mu:Bool} {self:FuncId} {f:XO} {ps:List Tmp} {a b:Code} {fr:Fr} {st:St}:execY call C mu self none (.rangeFunc f ps a b) fr st = rangeK call C self ps a b fr st (f.val fr):=by
 rw [execY,execX]
 unfold rangeK
 generalize f.val fr = v
 cases v with
 | func fn xs ys => cases fn <;> rfl
 | _ => rfl
theorem rangeK_fn {call:CallF} {C:Ctx} {self:FuncId} {ps:List Tmp} {a b:Code} {t:Nat → AV} {m:Nat} {ds:List ADef} {pv:Option AV} {h:Nat → AO} {nx:Nat} {lg:List Nat} {g:FuncId} {xs ys:List AV} (hg:(C.fn g).isNone = false) :
  rangeK call C self ps a b ⟨t,m,ds,pv⟩ ⟨h,nx,lg⟩ (.func (.func g) xs ys) = rangeLoop call self g xs ys ps a b nx ⟨t,m,⟨none,nx,[]⟩ :: ds,pv⟩ ⟨upd h nx .dfr,nx + 1,lg⟩:=by
 rw [rangeK,hg]; rfl
theorem exec_comp (call:CallF) (C:Ctx) (n:Option Nat) (self:FuncId) (ro:Option Nat) (c:Code):exec call C n self ro c = execX call C (C.mu self) n self ro (compC C (C.mu self) (resolveC c)):=by rw [exec_eq,execR_eq]
theorem yield_norm {C:Ctx} {l:Nat} {self:FuncId} {tmps:Nat → AV} {m:Nat} {params:List Tmp} {assign body:Code} {d:Nat} {pe:Option Code} {args:List AV} {st:St} {mu:Bool} {xa xb:XC} {R:St → Prop}
  (ho:st.heap l = .loop self tmps m params assign body .ready pe d) (hl:args.length = params.length) (hfn:(C.fn self).isNone = false) (hmu:C.mu self = mu) (ha:compC C mu (resolveC assign) = xa) (hb:compC C mu (resolveC body) = xb) (da:drawB xa = true) (db:drawB xb = true)
  (h1:Post m [] none (execY (callW C) C mu self (some l) xa ⟨setParams (params.zip args) m tmps,m,[],none⟩ st) fun e T st1 => e = .norm ∧ st1.heap l = .loop self tmps m params assign body .ready pe d ∧
   Post m [] none (execY (callW C) C mu self (some l) xb ⟨T,m,[],none⟩ (st1.set l (.loop self tmps m params assign body .busy pe d))) fun e' _ st3 => e' = .norm ∧ st3.heap l = .loop self tmps m params assign body .busy pe d ∧ R (st3.set l (.loop self tmps m params assign body .ready none d))) :
  ∃ st',callW C (.yield l) args .normal st = some (.ret (.bool true),st',none) ∧ R st':=by
 obtain ⟨e,T,st1,e1,rfl,e2,e',T',st3,e3,rfl,e4,e5⟩:=h1
 refine ⟨_,callW_yield ho ?_,e5⟩
 unfold roundA
 have hwa:wfX C mu xa:=by rw [← ha]; exact wf_compC _
 have hwb:wfX C mu xb:=by rw [← hb]; exact wf_compC _
 rw [if_pos ⟨hl,hfn⟩,exec_comp,hmu,ha,execY_sound xa hwa da e1]
 simp only [e2]
 rw [exec_comp,hmu,hb,execY_sound xb hwb db e3]
 simp only [e4,exJump,Option.isNone_none,if_true]
end Go.AE

namespace Go.AE
open Go
def AccT (h:Nat → AO) (nx lo sz:Nat) (k:SK) (es:List AV):Prop:=(es = [] ∧ k = .nil) ∨ ∃ q,k = .tok q sz ∧ h q = .tok ∧ lo ≤ q ∧ q < nx ∧ es ≠ []
theorem AccT.mono {h h':Nat → AO} {nx nx' lo sz:Nat} {k:SK} {es:List AV} (a:AccT h nx lo sz k es) (hh:∀ q,q < nx → h q = .tok → h' q = .tok) (hn:nx ≤ nx'):AccT h' nx' lo sz k es:=by
 rcases a with a | ⟨q,a1,a2,a3,a4,a5⟩
 ·exact .inl a
 ·exact .inr ⟨q,a1,hh q a4 a2,a3,by omega,a5⟩
theorem app_tok {h:Nat → AO} {nx lo:Nat} {lg:List Nat} {k:SK} {es:List AV} {e:TypeId} {ei:TI} {y:AV} {ys:List AV} (a:AccT h nx lo ei.size k es) (hlo:lo ≤ nx) (h1:sized ei.size (y :: ys) = true) (h2:0 < ei.size) (h3:(flat (y :: ys)).all AV.isCell = true)
  (h4:sizedH ei.size es = true) (h5:roomy (es.length + (y :: ys).length) ei.bytes = true) :
  ∃ h' lg',appendA false ⟨h,nx,lg⟩ e ei (.slice k es) (y :: ys) = some (.slice (.tok nx ei.size) (es ++ y :: ys),⟨h',nx + 1,lg'⟩) ∧ AccT h' (nx + 1) lo ei.size (.tok nx ei.size) (es ++ y :: ys) ∧
   (∀ q,q ≠ nx → h q ≠ .tok → h' q = h q) ∧ (∀ l ∈ lg',l ∈ lg ∨ (lo ≤ l ∧ l < nx)) ∧ ∀ l ∈ lg,l ∈ lg':=by
 unfold appendA
 simp only
 rw [if_pos ⟨h1,h2,h3⟩,if_pos ⟨h4,h5⟩]
 rcases a with ⟨rfl,rfl⟩ | ⟨q,rfl,a2,a3,a4,a5⟩
 ·refine ⟨upd h nx .tok,lg,rfl,.inr ⟨nx,rfl,upd_same ..,hlo,by omega,by simp⟩,fun q hq _ => upd_ne _ _ hq,fun l hl => .inl hl,fun l hl => hl⟩
 ·simp only [appendSl,a2,and_self,if_true]
  refine ⟨upd (upd h q .dead) nx .tok,q :: lg,rfl,.inr ⟨nx,rfl,upd_same ..,hlo,by omega,by simp⟩,fun p hp hp2 => ?_,fun l hl => ?_,fun l hl => List.mem_cons_of_mem _ hl⟩
  ·rw [upd_ne _ _ hp,upd_ne]
   intro e; subst e; exact hp2 a2
  ·rcases List.mem_cons.1 hl with rfl | hl
   ·exact .inr ⟨a3,a4⟩
   ·exact .inl hl
theorem AccT.forget {h:Nat → AO} {nx lo sz:Nat} {k:SK} {es:List AV} (a:AccT h nx lo sz k es):k.forget = if es.isEmpty then .nil else .open_:=by
 rcases a with ⟨rfl,rfl⟩ | ⟨q,rfl,_,_,_,a5⟩
 ·rfl
 ·cases es with
  | nil => exact absurd rfl a5
  | cons x xs => rfl
section
variable {C:Ctx}
theorem binA_nn {t:TypeId} {ti:TI} {k:Nat} {v:Value} {ms:Array (String × TypeId)} (h:C.ty t = some ti) (hu:ti.und = .interface ms):binA C .neq t (.tmp k) (.const v) .nilif .nilif = some (.bool false):=by
 obtain ⟨u,a,b,c,d,e⟩:=ti
 simp only at hu
 subst hu
 simp only [binA,isConstO,Bool.or_true,if_true,h]
theorem binA_in {t:TypeId} {ti:TI} {xo yo:Operand} {u:TypeId} {v:AV} {ms:Array (String × TypeId)} (h:C.ty t = some ti) (hu:ti.und = .interface ms):binA C .neq t xo yo (.iface u v) .nilif = some (.bool true):=by
 obtain ⟨u',a,b,c,d,e⟩:=ti
 simp only at hu
 subst hu
 simp only [binA,eqV,h,boolA]
 rfl
end
end Go.AE

namespace Go.AE
open Go
theorem RZ:type_of% ((o1 (o1 (o1 @List.take_succ_cons.{0} (o1 @List.take_zero.{0} @List.drop_succ_cons.{0})) (o1 (o1 @List.drop_zero.{0} @List.length_cons.{0}) (o1 @List.length_nil.{0} @Option.isSome_none.{0}))) (o1 (o1 @Option.isSome_some.{0} (o1 @ne_eq.{1} @Option.map_some.{0})) (o1 (o1 @gt_iff_lt.{0} @ge_iff_le.{0}) (o1 @beq_self_eq_true.{0} @bne_self_eq_false.{0}))))):=(o1 (o1 (o1 @List.take_succ_cons.{0} (o1 @List.take_zero.{0} @List.drop_succ_cons.{0})) (o1 (o1 @List.drop_zero.{0} @List.length_cons.{0}) (o1 @List.length_nil.{0} @Option.isSome_none.{0}))) (o1 (o1 @Option.isSome_some.{0} (o1 @ne_eq.{1} @Option.map_some.{0})) (o1 (o1 @gt_iff_lt.{0} @ge_iff_le.{0}) (o1 @beq_self_eq_true.{0} @bne_self_eq_false.{0}))))
theorem tsc0 {α:Type} {i:Nat} {a:α} {l:List α}:List.take (i + 1) (a :: l) = a :: List.take i l:=rfl
theorem tz0 {α:Type} {l:List α}:List.take 0 l = []:=rfl
theorem nq0 {α:Type} {a b:α}:(a ≠ b) = ¬ (a = b):=rfl
theorem ge0 {α:Type} [LE α] {a b:α}:(a ≥ b) = (b ≤ a):=rfl
theorem gt0 {α:Type} [LT α] {a b:α}:(a > b) = (b < a):=rfl
theorem is0 {α:Type}:(none:Option α).isSome = false:=rfl
theorem is1 {α:Type} {a:α}:(some a).isSome = true:=rfl
theorem bs0 {α:Type} [BEq α] [ReflBEq α] {a:α}:(a == a) = true:=beq_self_eq_true a
theorem bn0 {α:Type} [BEq α] [LawfulBEq α] {a:α}:(a != a) = false:=bne_self_eq_false a
end Go.AE

namespace Go.AE
open Go
def updB {α:Type} (f:Nat → α) (n:Nat) (v:α):Nat → α:=fun m => bif Nat.beq m n then v else f m
theorem updB_eq {α:Type} (f:Nat → α) (n:Nat) (v:α):updB f n v = upd f n v:=by
 funext m
 unfold updB upd
 by_cases h:m = n
 ·rw [if_pos h,h,Nat.beq_refl,cond_true]
 ·rw [if_neg h,show Nat.beq m n = false from by cases e:Nat.beq m n with | false => rfl | true => exact absurd (Nat.eq_of_beq_eq_true e) h]; rfl
def AV.fc:AV → AV
 | .any => .any
 | .bool b => .bool b
 | .int k n => .int k n
 | .str s => .str s
 | .nilp => .nilp
 | .ptr l off => .ptr l off
 | .cptr cells => .cptr cells
 | .slice k es => .slice k es
 | .row l off len lim => .row l off len lim
 | .nilmap => .nilmap
 | .map l => .map l
 | .func fn first captured => .func fn first captured
 | .nilfn => .nilfn
 | .iface t v => .iface t v
 | .nilif => .nilif
 | .agg cells => .agg cells
 | .tuple vs => .tuple vs
theorem AV.fc_eq (v:AV):v.fc = v:=by cases v <;> rfl
inductive NTr where
 | lf (n:Nat)
 | nd (l r:NTr)
inductive VTr where
 | lf (v:AV)
 | nd (l r:VTr)
def NTr.map (f:Nat → AV):NTr → VTr
 | .lf n => .lf (f n)
 | .nd l r => .nd (l.map f) (r.map f)
def VTr.get:VTr → Nat → Nat → AV
 | .lf v,_,_ => v.fc
 | .nd l r,w,i => bif Nat.blt i w then l.get (Nat.div w 2) i else r.get (Nat.div w 2) (Nat.sub i w)
def idx8:NTr:=(.nd (.nd (.nd (.nd (.nd (.nd (.nd (.nd (.lf 0) (.lf 1)) (.nd (.lf 2) (.lf 3))) (.nd (.nd (.lf 4) (.lf 5)) (.nd (.lf 6) (.lf 7)))) (.nd (.nd (.nd (.lf 8) (.lf 9)) (.nd (.lf 10) (.lf 11))) (.nd (.nd (.lf 12) (.lf 13)) (.nd (.lf 14) (.lf 15))))) (.nd (.nd (.nd (.nd (.lf 16) (.lf 17)) (.nd (.lf 18) (.lf 19))) (.nd (.nd (.lf 20) (.lf 21)) (.nd (.lf 22) (.lf 23)))) (.nd (.nd (.nd (.lf 24) (.lf 25)) (.nd (.lf 26) (.lf 27))) (.nd (.nd (.lf 28) (.lf 29)) (.nd (.lf 30) (.lf 31)))))) (.nd (.nd (.nd (.nd (.nd (.lf 32) (.lf 33)) (.nd (.lf 34) (.lf 35))) (.nd (.nd (.lf 36) (.lf 37)) (.nd (.lf 38) (.lf 39)))) (.nd (.nd (.nd (.lf 40) (.lf 41)) (.nd (.lf 42) (.lf 43))) (.nd (.nd (.lf 44) (.lf 45)) (.nd (.lf 46) (.lf 47))))) (.nd (.nd (.nd (.nd (.lf 48) (.lf 49)) (.nd (.lf 50) (.lf 51))) (.nd (.nd (.lf 52) (.lf 53)) (.nd (.lf 54) (.lf 55)))) (.nd (.nd (.nd (.lf 56) (.lf 57)) (.nd (.lf 58) (.lf 59))) (.nd (.nd (.lf 60) (.lf 61)) (.nd (.lf 62) (.lf 63))))))) (.nd (.nd (.nd (.nd (.nd (.nd (.lf 64) (.lf 65)) (.nd (.lf 66) (.lf 67))) (.nd (.nd (.lf 68) (.lf 69)) (.nd (.lf 70) (.lf 71)))) (.nd (.nd (.nd (.lf 72) (.lf 73)) (.nd (.lf 74) (.lf 75))) (.nd (.nd (.lf 76) (.lf 77)) (.nd (.lf 78) (.lf 79))))) (.nd (.nd (.nd (.nd (.lf 80) (.lf 81)) (.nd (.lf 82) (.lf 83))) (.nd (.nd (.lf 84) (.lf 85)) (.nd (.lf 86) (.lf 87)))) (.nd (.nd (.nd (.lf 88) (.lf 89)) (.nd (.lf 90) (.lf 91))) (.nd (.nd (.lf 92) (.lf 93)) (.nd (.lf 94) (.lf 95)))))) (.nd (.nd (.nd (.nd (.nd (.lf 96) (.lf 97)) (.nd (.lf 98) (.lf 99))) (.nd (.nd (.lf 100) (.lf 101)) (.nd (.lf 102) (.lf 103)))) (.nd (.nd (.nd (.lf 104) (.lf 105)) (.nd (.lf 106) (.lf 107))) (.nd (.nd (.lf 108) (.lf 109)) (.nd (.lf 110) (.lf 111))))) (.nd (.nd (.nd (.nd (.lf 112) (.lf 113)) (.nd (.lf 114) (.lf 115))) (.nd (.nd (.lf 116) (.lf 117)) (.nd (.lf 118) (.lf 119)))) (.nd (.nd (.nd (.lf 120) (.lf 121)) (.nd (.lf 122) (.lf 123))) (.nd (.nd (.lf 124) (.lf 125)) (.nd (.lf 126) (.lf 127)))))))) (.nd (.nd (.nd (.nd (.nd (.nd (.nd (.lf 128) (.lf 129)) (.nd (.lf 130) (.lf 131))) (.nd (.nd (.lf 132) (.lf 133)) (.nd (.lf 134) (.lf 135)))) (.nd (.nd (.nd (.lf 136) (.lf 137)) (.nd (.lf 138) (.lf 139))) (.nd (.nd (.lf 140) (.lf 141)) (.nd (.lf 142) (.lf 143))))) (.nd (.nd (.nd (.nd (.lf 144) (.lf 145)) (.nd (.lf 146) (.lf 147))) (.nd (.nd (.lf 148) (.lf 149)) (.nd (.lf 150) (.lf 151)))) (.nd (.nd (.nd (.lf 152) (.lf 153)) (.nd (.lf 154) (.lf 155))) (.nd (.nd (.lf 156) (.lf 157)) (.nd (.lf 158) (.lf 159)))))) (.nd (.nd (.nd (.nd (.nd (.lf 160) (.lf 161)) (.nd (.lf 162) (.lf 163))) (.nd (.nd (.lf 164) (.lf 165)) (.nd (.lf 166) (.lf 167)))) (.nd (.nd (.nd (.lf 168) (.lf 169)) (.nd (.lf 170) (.lf 171))) (.nd (.nd (.lf 172) (.lf 173)) (.nd (.lf 174) (.lf 175))))) (.nd (.nd (.nd (.nd (.lf 176) (.lf 177)) (.nd (.lf 178) (.lf 179))) (.nd (.nd (.lf 180) (.lf 181)) (.nd (.lf 182) (.lf 183)))) (.nd (.nd (.nd (.lf 184) (.lf 185)) (.nd (.lf 186) (.lf 187))) (.nd (.nd (.lf 188) (.lf 189)) (.nd (.lf 190) (.lf 191))))))) (.nd (.nd (.nd (.nd (.nd (.nd (.lf 192) (.lf 193)) (.nd (.lf 194) (.lf 195))) (.nd (.nd (.lf 196) (.lf 197)) (.nd (.lf 198) (.lf 199)))) (.nd (.nd (.nd (.lf 200) (.lf 201)) (.nd (.lf 202) (.lf 203))) (.nd (.nd (.lf 204) (.lf 205)) (.nd (.lf 206) (.lf 207))))) (.nd (.nd (.nd (.nd (.lf 208) (.lf 209)) (.nd (.lf 210) (.lf 211))) (.nd (.nd (.lf 212) (.lf 213)) (.nd (.lf 214) (.lf 215)))) (.nd (.nd (.nd (.lf 216) (.lf 217)) (.nd (.lf 218) (.lf 219))) (.nd (.nd (.lf 220) (.lf 221)) (.nd (.lf 222) (.lf 223)))))) (.nd (.nd (.nd (.nd (.nd (.lf 224) (.lf 225)) (.nd (.lf 226) (.lf 227))) (.nd (.nd (.lf 228) (.lf 229)) (.nd (.lf 230) (.lf 231)))) (.nd (.nd (.nd (.lf 232) (.lf 233)) (.nd (.lf 234) (.lf 235))) (.nd (.nd (.lf 236) (.lf 237)) (.nd (.lf 238) (.lf 239))))) (.nd (.nd (.nd (.nd (.lf 240) (.lf 241)) (.nd (.lf 242) (.lf 243))) (.nd (.nd (.lf 244) (.lf 245)) (.nd (.lf 246) (.lf 247)))) (.nd (.nd (.nd (.lf 248) (.lf 249)) (.nd (.lf 250) (.lf 251))) (.nd (.nd (.lf 252) (.lf 253)) (.nd (.lf 254) (.lf 255)))))))))
def flatT (f:Nat → AV):Nat → AV:=fun i => bif Nat.blt i 256 then (idx8.map f).get 128 i else f i
def NTr.okT:NTr → Nat → Nat → Bool
 | .lf n,s,o => s == 1 && n == o
 | .nd l r,s,o => s == 2 * (s / 2) && (decide (1 ≤ s / 2) && (l.okT (s / 2) o && r.okT (s / 2) (o + s / 2)))
theorem VTr.get_ok {f:Nat → AV}:∀ {t:NTr} {s o i:Nat},t.okT s o = true → i < s → (t.map f).get (s / 2) i = f (o + i)
 | .lf n,s,o,i,h,hi => by
  simp only [NTr.okT,Bool.and_eq_true,beq_iff_eq] at h
  obtain ⟨rfl,rfl⟩:=h
  rw [show i = 0 by omega]
  exact AV.fc_eq _
 | .nd l r,s,o,i,h,hi => by
  simp only [NTr.okT,Bool.and_eq_true,beq_iff_eq,decide_eq_true_iff] at h
  obtain ⟨h1,h2,h3,h4⟩:=h
  show (bif Nat.blt i (s / 2) then (l.map f).get (Nat.div (s / 2) 2) i else (r.map f).get (Nat.div (s / 2) 2) (Nat.sub i (s / 2))) = _
  by_cases hc:i < s / 2
  ·have e:Nat.blt i (s / 2) = true:=Nat.ble_eq_true_of_le hc
   rw [e,cond_true]
   exact VTr.get_ok h3 hc
  ·have e:Nat.blt i (s / 2) = false:=by
    cases e:Nat.blt i (s / 2) with
    | false => rfl
    | true => exact absurd (Nat.le_of_ble_eq_true e) hc
   rw [e,cond_false]
   have:=VTr.get_ok (f:=f) (i:=i - s / 2) h4 (by omega)
   rw [show f (o + i) = f (o + s / 2 + (i - s / 2)) by rw [show o + s / 2 + (i - s / 2) = o + i by omega]]
   exact this
theorem flatT_eq (f:Nat → AV):flatT f = f:=by
 funext i
 unfold flatT
 cases e:Nat.blt i 256 with
 | false => rfl
 | true =>
  rw [cond_true]
  have h:=VTr.get_ok (f:=f) (t:=idx8) (s:=256) (o:=0) (i:=i) (by decide +kernel) (Nat.le_of_ble_eq_true e)
  rw [Nat.zero_add] at h
  exact h
end Go.AE

namespace Go.AE
open Go
structure Sem where
 run:CallF → (Nat → AV) → Nat → List ADef → Option AV → St → Option Out
structure SemV where
 run:CallF → (Nat → AV) → Nat → List ADef → Option AV → St → AV → Option Out
def putK:Option Tmp → Sem → SemV
 | none,k => ⟨fun call T m ds pv st _ => k.run call T m ds pv st⟩
 | some d,k => ⟨fun call T m ds pv st v => bif Nat.blt d m then k.run call (updB T d v) m ds pv st else none⟩
def Sem.at (k:Sem) (call:CallF) (fr:Fr) (st:St):Option Out:=k.run call fr.tmps fr.n fr.defs fr.pv st
def XO.v (T:Nat → AV):XO → AV | .t n => T n | .c v => v
def semOV (k:SemV) (call:CallF) (T:Nat → AV) (m:Nat) (ds:List ADef) (pv:Option AV) (st:St):Option AV → Option Out
 | some v => k.run call T m ds pv st v
 | none => none
def semOVS (k:SemV) (call:CallF) (T:Nat → AV) (m:Nat) (ds:List ADef) (pv:Option AV):Option (AV × St) → Option Out
 | some (v,st) => k.run call T m ds pv st v
 | none => none
def semCK (k:SemV) (call:CallF) (T:Nat → AV) (m:Nat) (ds:List ADef) (pv:Option AV):Option (CR × St × Option AV) → Option Out
 | some (.ret v,st,_) => k.run call T m ds pv st v
 | some (.pan v,st,_) => some (.pan v,⟨T,m,ds,pv⟩,st)
 | none => none
def semCall (k:SemV) (call:CallF) (T:Nat → AV) (m:Nat) (ds:List ADef) (pv:Option AV) (st:St) (args:List AV):AV → Option Out
 | .func (.func g) first captured => semCK k call T m ds pv (call (.fn g) (first ++ args ++ captured) .normal st)
 | .func (.yield l) [] [] => semCK k call T m ds pv (call (.yield l) args .normal st)
 | _ => none
def semOut (k:Sem) (call:CallF):Option Out → Option Out
 | some (.norm,⟨T,m,ds,pv⟩,st) => k.run call T m ds pv st
 | r => r
def pickV (a b:AV):AV → Option AV
 | .bool true => some a
 | .bool false => some b
 | _ => none
def storeV (st:St) (size:Nat) (x:AV):AV → Option (AV × St)
 | .ptr l off => if x.cells.length = size then (sto st l off x.cells).map fun st => (undefA,st) else none
 | _ => none
def buildSV (mu:Bool) (e:TypeId) (size len:Nat) (st:St) (ps:List (Nat × AV)):Option (AV × St) :=
 if ps.length = len ∧ len * size ≤ 1048576 then (match elemsA size 0 ps with
  | some es => if mu then (if 0 < size then some (.row st.next 0 len none,st.push (.mem e (flat es) true 0)) else none) else some (.slice .exact es,st)
  | none => none) else none
def fieldV (off:Nat) (agg:Bool) (size:Nat):AV → Option AV
 | .agg cs => partX agg size (cs.drop off)
 | _ => none
def extractV (i:Nat):AV → Option AV
 | .tuple vs => vs[i]?
 | _ => none
def lenStrV:AV → Option AV
 | .str s => some (goI s.length)
 | _ => none
def idxV (size:Nat) (x:AV):Option Nat → Option AV
 | some i => idxX size x i
 | none => none
def strAt (s:List Nat):Option Nat → Option AV
 | some i => (s[i]?).map fun b => .int .u8 (.ofNat b)
 | none => none
def idxStrV (i:Option Nat):AV → Option AV
 | .str s => strAt s i
 | _ => none
def allocK (k:SemV) (call:CallF) (T:Nat → AV) (m:Nat) (ds:List ADef) (pv:Option AV) (o:AO):St → Option Out
 | ⟨h,nx,lg⟩ => k.run call T m ds pv ⟨updB h nx o,nx + 1,lg⟩ (.ptr nx 0)
def boxK (k:SemV) (call:CallF) (T:Nat → AV) (m:Nat) (ds:List ADef) (pv:Option AV) (st:St) (e:TypeId) (v:AV):Bool → Option Out
 | true => none
 | false => allocK k call T m ds pv (.mem e v.cells true 0) st
def semOp (C:Ctx) (mu ro:Bool) (d:Option Tmp) (k:Sem):XOp → Sem
 | .mv x => ⟨fun call T m ds pv st => (putK d k).run call T m ds pv st (x.v T)⟩
 | .pick c a b => ⟨fun call T m ds pv st => semOV (putK d k) call T m ds pv st (pickV (a.v T) (b.v T) (c.v T))⟩
 | .alloc e zero => ⟨fun call T m ds pv st => allocK (putK d k) call T m ds pv (.mem e zero true 0) st⟩
 | .box e x => ⟨fun call T m ds pv st => boxK (putK d k) call T m ds pv st e (x.v T) (x.v T).isAny⟩
 | .build zero places parts => ⟨fun call T m ds pv st => semOV (putK d k) call T m ds pv st ((fillA (places[·]?) zero (parts.map fun p => (p.1,p.2.v T))).map .agg)⟩
 | .buildS mu e size len parts => ⟨fun call T m ds pv st => semOVS (putK d k) call T m ds pv (buildSV mu e size len st (parts.map fun p => (p.1,p.2.v T)))⟩
 | .load agg size a => ⟨fun call T m ds pv st => semOV (putK d k) call T m ds pv st (ldX st agg size (a.v T))⟩
 | .store size a x => ⟨fun call T m ds pv st => semOVS (putK d k) call T m ds pv (storeV st size (x.v T) (a.v T))⟩
 | .binI op t xo yo x y => ⟨fun call T m ds pv st => semOV (putK d k) call T m ds pv st (binIX C op t xo yo (x.v T) (y.v T))⟩
 | .binS op t xo yo x y => ⟨fun call T m ds pv st => semOV (putK d k) call T m ds pv st (binSX C op t xo yo (x.v T) (y.v T))⟩
 | .un op x => ⟨fun call T m ds pv st => semOV (putK d k) call T m ds pv st (unA op (x.v T))⟩
 | .fieldAddr off x => ⟨fun call T m ds pv st => semOV (putK d k) call T m ds pv st (addrX off (x.v T))⟩
 | .field off agg size x => ⟨fun call T m ds pv st => semOV (putK d k) call T m ds pv st (fieldV off agg size (x.v T))⟩
 | .idxS size x i => ⟨fun call T m ds pv st => semOV (putK d k) call T m ds pv st (idxV size (x.v T) (natOf (i.v T)))⟩
 | .idxStr x i => ⟨fun call T m ds pv st => semOV (putK d k) call T m ds pv st (idxStrV (natOf (i.v T)) (x.v T))⟩
 | .extract x i => ⟨fun call T m ds pv st => semOV (putK d k) call T m ds pv st (extractV i (x.v T))⟩
 | .lenS x => ⟨fun call T m ds pv st => semOV (putK d k) call T m ds pv st (lenX (x.v T))⟩
 | .lenStr x => ⟨fun call T m ds pv st => semOV (putK d k) call T m ds pv st (lenStrV (x.v T))⟩
 | .app mu e ei s x => ⟨fun call T m ds pv st => semOVS (putK d k) call T m ds pv ((elemsOf st ei (x.v T)).bind (appendA mu st e ei (s.v T)))⟩
 | .mkFunc f first captured => ⟨fun call T m ds pv st => (putK d k).run call T m ds pv st (.func (.func f) (first.map (XO.v T)) (captured.map (XO.v T)))⟩
 | .call f args => ⟨fun call T m ds pv st => semCall (putK d k) call T m ds pv st (args.map (XO.v T)) (f.v T)⟩
 | .gen o => ⟨fun call T m ds pv st => semOut k call (runOp call C mu ro o ⟨T,m,ds,pv⟩ st)⟩
def semG (d:Option Tmp) (k1 k0:Sem) (call:CallF) (T:Nat → AV) (m:Nat) (ds:List ADef) (pv:Option AV) (st:St):Option Bool → Option Out
 | some true => k1.run call T m ds pv st
 | some false => (putK d k0).run call T m ds pv st undefA
 | none => none
def semOps (C:Ctx) (mu ro:Bool) (ops:Array Oper):List Oper → Sem
 | [] => ⟨fun call T m ds pv st => some (.norm,⟨T,m,ds,pv⟩,st)⟩
 | o :: r => match o.guard with
  | none => semOp C mu ro o.dst (semOps C mu ro ops r) (compOp C mu o)
  | some _ => ⟨fun call T m ds pv st => semG o.dst (semOp C mu ro o.dst (semOps C mu ro ops r) (compOp C mu o)) (semOps C mu ro ops r) call T m ds pv st (wantedA ops ⟨T,m,ds,pv⟩ o)⟩
def semEnd:Sem:=⟨fun call T m ds pv st => some (.norm,⟨T,m,ds,pv⟩,st)⟩
structure SemD where
 run:CallF → (Nat → AV) → Nat → List ADef → Option AV → St → Option (Fr × St × List Info)
def semD2 (x:Info):Option (Fr × St × List Info) → Option (Fr × St × List Info)
 | some (fr,st,info) => some (fr,st,x :: info)
 | none => none
def semD1 (C:Ctx) (k:SemD) (o:Oper) (call:CallF) (T0:Nat → AV) (m0:Nat) (ds0:List ADef) (pv0:Option AV) (h0:Nat → AO) (nx0:Nat) (lg0:List Nat):Option Out → Option (Fr × St × List Info)
 | some (.norm,⟨T,m,ds,pv⟩,⟨h,nx,lg⟩) => bif lg.all (fun l => decide (l < nx0) && !(h0 l).isDead) then semD2 ⟨lg,readsA C ⟨T0,m0,ds0,pv0⟩ o,nx0,nx⟩ (k.run call T m ds pv ⟨h,nx,lg ++ lg0⟩) else none
 | _ => none
def semDG (C:Ctx) (s:Sem) (k:SemD) (o:Oper) (call:CallF) (T:Nat → AV) (m:Nat) (ds:List ADef) (pv:Option AV) (h:Nat → AO) (nx:Nat) (lg:List Nat):Option Bool → Option (Fr × St × List Info)
 | some true => semD1 C k o call T m ds pv h nx lg (s.run call T m ds pv ⟨h,nx,[]⟩)
 | some false => (match o.dst with
  | none => semD2 ⟨[],some [],0,0⟩ (k.run call T m ds pv ⟨h,nx,lg⟩)
  | some d => bif Nat.blt d m then semD2 ⟨[],some [],0,0⟩ (k.run call (updB T d undefA) m ds pv ⟨h,nx,lg⟩) else none)
 | none => none
def semDops (C:Ctx) (mu ro:Bool) (ops:Array Oper):List Oper → SemD
 | [] => ⟨fun call T m ds pv st => some (⟨T,m,ds,pv⟩,st,[])⟩
 | o :: r => match o.guard with
  | none => ⟨fun call T m ds pv st => match st with | ⟨h,nx,lg⟩ => semD1 C (semDops C mu ro ops r) o call T m ds pv h nx lg ((semOp C mu ro o.dst semEnd (compOp C mu o)).run call T m ds pv ⟨h,nx,[]⟩)⟩
  | some _ => ⟨fun call T m ds pv st => match st with | ⟨h,nx,lg⟩ => semDG C (semOp C mu ro o.dst semEnd (compOp C mu o)) (semDops C mu ro ops r) o call T m ds pv h nx lg (wantedA ops ⟨T,m,ds,pv⟩ o)⟩
def semDE (ops:Array Oper) (n0:Nat):Option (Fr × St × List Info) → Option Out
 | some (fr,st,info) => bif orderOk n0 (Region.before ops).toList (insL ops) info 0 info then some (.norm,fr,st) else none
 | none => none
def semReg (C:Ctx) (mu ro:Bool) (ops:Array Oper) (draw:Bool):Sem :=
 match draw,drawable ops with
 | false,_ => semOps C mu ro ops ops.toList
 | true,true => ⟨fun call T m ds pv st => semDE ops st.next ((semDops C mu ro ops ops.toList).run call T m ds pv st)⟩
 | true,false => ⟨fun _ _ _ _ _ _ => none⟩
def semIf (a b:Sem) (call:CallF) (T:Nat → AV) (m:Nat) (ds:List ADef) (pv:Option AV) (st:St):AV → Option Out
 | .bool true => a.run call T m ds pv st
 | .bool false => b.run call T m ds pv st
 | _ => none
def semBlk (id:Nat):Option Out → Option Out
 | some (.exit i,fr,st) => bif Nat.beq i id then some (.norm,fr,st) else some (.exit i,fr,st)
 | r => r
def semIter (b:Sem) (call:CallF):Nat → (Nat → AV) → Nat → List ADef → Option AV → St → Option Out
 | 0,_,_,_,_,_ => none
 | n + 1,T,m,ds,pv,st => match b.run call T m ds pv st with
  | some (.norm,⟨T,m,ds,pv⟩,st) => semIter b call n (flatT T) m ds pv st
  | r => r
def semRange (call:CallF) (C:Ctx) (self:FuncId) (ro:Option Nat) (params:Array Tmp) (assign body:Code) (T:Nat → AV) (m:Nat) (ds:List ADef) (pv:Option AV) (st:St):AV → Option Out
 | .func (.func g) first captured => if (C.fn g).isNone then none else (match ro with
   | none => rangeLoop call self g first captured params.toList assign body st.next ⟨T,m,⟨none,st.next,[]⟩ :: ds,pv⟩ (st.push .dfr)
   | some l0 => (match st.heap l0 with
    | .loop _ _ _ _ _ _ _ _ d => rangeLoop call self g first captured params.toList assign body d ⟨T,m,ds,pv⟩ st
    | _ => none))
 | _ => none
def semCode (C:Ctx) (n:Nat) (self:FuncId) (ro:Option Nat):Code → Sem
 | .skip => semEnd
 | .label _ => semEnd
 | .region _ ops draw => semReg C (C.mu self) ro.isSome ops draw
 | .seq a b => ⟨fun call T m ds pv st => semOut (semCode C n self ro b) call ((semCode C n self ro a).run call T m ds pv st)⟩
 | .cond c a b => ⟨fun call T m ds pv st => semIf (semCode C n self ro a) (semCode C n self ro b) call T m ds pv st ((compO C c).v T)⟩
 | .block id b => ⟨fun call T m ds pv st => semBlk id ((semCode C n self ro b).run call T m ds pv st)⟩
 | .loop b => ⟨fun call T m ds pv st => semIter (semCode C n self ro b) call n T m ds pv st⟩
 | .exit id => ⟨fun call T m ds pv st => some (.exit id,⟨T,m,ds,pv⟩,st)⟩
 | .goto l => ⟨fun call T m ds pv st => some (.goto l,⟨T,m,ds,pv⟩,st)⟩
 | .ret => ⟨fun call T m ds pv st => some (.ret,⟨T,m,ds,pv⟩,st)⟩
 | .rangeFunc f params assign body => ⟨fun call T m ds pv st => semRange call C self ro params assign body T m ds pv st ((compO C f).v T)⟩
 | .scope _ => ⟨fun _ _ _ _ _ _ => none⟩
 | .refuse _ => ⟨fun _ _ _ _ _ _ => none⟩
structure SF where
 fi:FI
 sem:Sem
def semFn (C:Ctx) (L:Nat) (f:FuncId):Option SF:=match C.fn f with
 | some fi => some ⟨fi,semCode C L f none fi.body⟩
 | none => none
def semLeave (call:CallF) (C:Ctx) (f:FuncId) (fi:FI) (kd:Knd) (st:St):Option Out → Option (CR × St × Option AV)
 | none => none
 | some (e,fr,st1) => finishFn call C f fi kd st e fr st1
def semEnter (C:Ctx) (f:FuncId) (args:List AV) (kd:Knd) (st:St) (call:CallF):Option SF → Option (CR × St × Option AV)
 | none => none
 | some ⟨⟨nt,rs,bd⟩,s⟩ => semLeave call C f ⟨nt,rs,bd⟩ kd st (s.run call (argTmps args) (max nt args.length) [] kd.pv ⟨st.heap,st.next,[]⟩)
def semX (C:Ctx) (L:Nat) (f:FuncId) (args:List AV) (kd:Knd) (st:St) (call:CallF):Option (AV × St) → Option (CR × St × Option AV)
 | some (v,st) => some (.ret v,st,none)
 | none => semEnter C f args kd st call (semFn C L f)
def semRound (C:Ctx) (L l:Nat) (self:FuncId) (tmps:Nat → AV) (m:Nat) (params:List Tmp) (assign body:Code) (args:List AV) (st:St) (call:CallF):Option (CR × St × Option AV) :=
 if args.length = params.length ∧ (C.fn self).isNone = false then
  match (semCode C L self (some l) assign).run call (setParams (params.zip args) m tmps) m [] none st with
  | some (.norm,fr,st1) => (match st1.heap l with
   | .loop s t m' p a b .ready pe d =>
    (match (semCode C L self (some l) body).at call fr (st1.set l (.loop s t m' p a b .busy pe d)) with
    | some (.pan v,fr3,st3) => (match fr3.defs with | [] => some (.pan v,st3,none) | _ => none)
    | some (e,_,st3) => (match st3.heap l,exJump e with
     | .loop s t m' p a b _ _ d,some jump => some (.ret (.bool jump.isNone),st3.set l (.loop s t m' p a b (if jump.isNone then .ready else .done) jump d),none)
     | _,_ => none)
    | none => none)
   | _ => none)
  | _ => none
 else none
def callS (C:Ctx) (L:Nat):Nat → CallF
 | 0,_,_,_,_ => none
 | n + 1,.fn f,args,kd,st => semX C L f args kd st (callS C L n) (match kd with | .normal => C.X f args st | _ => none)
 | n + 1,.yield l,args,kd,st =>
  (match kd,st.heap l with
  | .normal,.loop self tmps m params assign body _ _ _ => semRound C L l self tmps m params assign body args st (callS C L n)
  | _,_ => none)
end Go.AE

namespace Go.AE
open Go
section
variable {C:Ctx} {mu ro:Bool} {call:CallF} {k:Sem} {d:Option Tmp} {T:Nat → AV} {m:Nat} {ds:List ADef} {pv:Option AV} {st:St} {o:Out}
theorem XO.v_eq (x:XO):x.v T = x.val ⟨T,m,ds,pv⟩:=by cases x <;> rfl
theorem putK_ok {v:AV} (h:(putK d k).run call T m ds pv st v = some o):k.at call (Fr.put ⟨T,m,ds,pv⟩ d v) st = some o:=by
 cases d with
 | none => exact h
 | some d =>
  simp only [putK] at h
  cases e:Nat.blt d m with
  | false => rw [e] at h; cases h
  | true =>
   rw [e,cond_true,updB_eq] at h
   have hd:d < m:=Nat.le_of_ble_eq_true e
   unfold Fr.put
   simp only [hd,if_true]
   exact h
theorem semOut_norm {fr:Fr}:semOut k call (some (.norm,fr,st)) = k.at call fr st:=by cases fr; rfl
theorem semOV_ok {x:XOp} {r:Option AV} (h:semOV (putK d k) call T m ds pv st r = some o) (hx:opX C mu ro ⟨T,m,ds,pv⟩ st x = ov st r):semOut k call (runOpX call C mu ro d x ⟨T,m,ds,pv⟩ st) = some o:=by
 cases r with
 | none => cases h
 | some v =>
  simp only [runOpX,hx,ov,Option.map_some]
  rw [semOut_norm]
  exact putK_ok h
theorem semOVS_ok {x:XOp} {r:Option (AV × St)} (h:semOVS (putK d k) call T m ds pv r = some o) (hx:opX C mu ro ⟨T,m,ds,pv⟩ st x = ovs r):semOut k call (runOpX call C mu ro d x ⟨T,m,ds,pv⟩ st) = some o:=by
 cases r with
 | none => cases h
 | some v =>
  obtain ⟨v,st'⟩:=v
  simp only [runOpX,hx,ovs,Option.map_some]
  rw [semOut_norm]
  exact putK_ok h
theorem allocK_ok {ob:AO} (h:allocK (putK d k) call T m ds pv ob st = some o):k.at call (Fr.put ⟨T,m,ds,pv⟩ d (.ptr st.next 0)) (st.push ob) = some o:=by
 obtain ⟨hh,nx,lg⟩:=st
 simp only [allocK,updB_eq] at h
 exact putK_ok h
def ckOut (fr:Fr) (d:Option Tmp):Option (CR × St × Option AV) → Option Out
 | some (.ret v,st,_) => some (.norm,fr.put d v,st)
 | some (.pan v,st,_) => some (.pan v,fr,st)
 | none => none
theorem semCK_ok {r:Option (CR × St × Option AV)} (h:semCK (putK d k) call T m ds pv r = some o):semOut k call (ckOut ⟨T,m,ds,pv⟩ d r) = some o:=by
 cases r with
 | none => cases h
 | some r =>
  obtain ⟨c,st',p⟩:=r
  cases c with
  | ret v => simp only [ckOut]; rw [semOut_norm]; exact putK_ok h
  | pan v => exact h
theorem partsV (ps:List (Nat × XO)):(ps.map fun p => (p.1,p.2.v T)) = partsX ⟨T,m,ds,pv⟩ ps:=by
 simp only [partsX]
 exact List.map_congr_left fun p _ => by rw [XO.v_eq]
theorem valsV (xs:List XO):xs.map (XO.v T) = xs.map (XO.val ⟨T,m,ds,pv⟩):=List.map_congr_left fun x _ => XO.v_eq x
theorem semOp_ok {x:XOp} (hd:∀ o',x = .gen o' → d = o'.dst) (h:(semOp C mu ro d k x).run call T m ds pv st = some o):semOut k call (runOpX call C mu ro d x ⟨T,m,ds,pv⟩ st) = some o:=by
 cases x with
 | mv x =>
  refine semOV_ok (r:=some (x.v T)) h ?_
  simp only [opX,ov,Option.map_some,← XO.v_eq]
 | pick c a b =>
  refine semOV_ok h ?_
  simp only [opX,← XO.v_eq]
  cases c.v T <;> try rfl
  rename_i b
  cases b <;> rfl
 | alloc e zero =>
  simp only [semOp] at h
  have:=allocK_ok h
  simp only [runOpX,opX]
  rw [semOut_norm]
  exact this
 | box e x =>
  simp only [semOp] at h
  simp only [runOpX,opX,← XO.v_eq]
  cases e2:(x.v T).isAny with
  | true => rw [e2] at h; cases h
  | false =>
   rw [e2] at h
   simp only [Bool.false_eq_true,if_false]
   rw [semOut_norm]
   exact allocK_ok h
 | build zero places parts => exact semOV_ok h (by simp only [opX,← partsV])
 | buildS mu' e size len parts =>
  refine semOVS_ok h ?_
  simp only [opX,buildSV,← partsV]
  split
  ·cases elemsA size 0 (parts.map fun p => (p.1,p.2.v T)) with
   | none => rfl
   | some es =>
    simp only
    split
    ·split <;> rfl
    ·rfl
  ·rfl
 | load agg size a => exact semOV_ok h (by simp only [opX,← XO.v_eq])
 | store size a x =>
  refine semOVS_ok h ?_
  simp only [opX,← XO.v_eq]
  cases a.v T <;> try rfl
  rename_i l off
  simp only [storeV]
  split
  ·cases sto st l off (x.v T).cells <;> rfl
  ·rfl
 | binI op t xo yo x y => exact semOV_ok h (by simp only [opX,← XO.v_eq])
 | binS op t xo yo x y => exact semOV_ok h (by simp only [opX,← XO.v_eq])
 | un op x => exact semOV_ok h (by simp only [opX,← XO.v_eq])
 | fieldAddr off x => exact semOV_ok h (by simp only [opX,← XO.v_eq])
 | field off agg size x =>
  refine semOV_ok h ?_
  simp only [opX,← XO.v_eq]
  cases x.v T <;> rfl
 | idxS size x i =>
  refine semOV_ok h ?_
  simp only [opX,← XO.v_eq]
  cases natOf (i.v T) <;> rfl
 | idxStr x i =>
  refine semOV_ok h ?_
  simp only [opX,← XO.v_eq]
  cases natOf (i.v T) <;> cases x.v T <;> rfl
 | extract x i =>
  refine semOV_ok h ?_
  simp only [opX,← XO.v_eq]
  cases x.v T <;> rfl
 | lenS x => exact semOV_ok h (by simp only [opX,← XO.v_eq])
 | lenStr x =>
  refine semOV_ok h ?_
  simp only [opX,← XO.v_eq]
  cases x.v T <;> rfl
 | app mu' e ei s x => exact semOVS_ok h (by simp only [opX,← XO.v_eq])
 | mkFunc f first captured =>
  refine semOV_ok (r:=some _) h ?_
  simp only [opX,ov,Option.map_some,← valsV]
 | call f args =>
  simp only [semOp] at h
  simp only [runOpX,opX,callX,calleeX,← XO.v_eq,← valsV]
  cases hf:f.v T <;> rw [hf] at h <;> try (cases h; done)
  rename_i fn first captured
  cases fn with
  | func g =>
   simp only [semCall] at h
   have:=semCK_ok h
   revert this
   simp only
   generalize call (.fn g) (first ++ List.map (XO.v T) args ++ captured) .normal st = r
   intro this
   rcases r with _ | ⟨_ | _,_,_⟩ <;> exact this
  | yield l =>
   cases first with
   | cons _ _ => cases h
   | nil =>
    cases captured with
    | cons _ _ => cases h
    | nil =>
     simp only [semCall] at h
     have:=semCK_ok h
     revert this
     simp only
     generalize call (.yield l) (List.map (XO.v T) args) .normal st = r
     intro this
     rcases r with _ | ⟨_ | _,_,_⟩ <;> exact this
  | _ => cases h
 | gen o' =>
  obtain rfl:=hd o' rfl
  simp only [semOp] at h
  exact h
theorem semOper_ok {op:Oper} (h:(semOp C mu ro op.dst k (compOp C mu op)).run call T m ds pv st = some o):semOut k call (runOp call C mu ro op ⟨T,m,ds,pv⟩ st) = some o:=by
 have h1:=semOp_ok (fun o' e => by rw [compOp_gen e]) h
 obtain ⟨e1,e2⟩:=compOp_eq (C:=C) (mu:=mu) (ro:=ro) (fr:=⟨T,m,ds,pv⟩) (st:=st) (call:=call) op
 have e3:runOpX call C mu ro op.dst (compOp C mu op) ⟨T,m,ds,pv⟩ st = runOp call C mu ro op ⟨T,m,ds,pv⟩ st:=by
  simp only [runOpX,runOp,e1,e2]
  rfl
 rw [e3] at h1
 exact h1
theorem wanted_none {ops:Array Oper} {fr:Fr} {op:Oper} (h:op.guard = none):wantedA ops fr op = some true:=by simp only [wantedA,h]
theorem semOps_ok {ops:Array Oper}:∀ {l:List Oper} {T:Nat → AV} {m:Nat} {ds:List ADef} {pv:Option AV} {st:St},(semOps C mu ro ops l).run call T m ds pv st = some o → runOps call C mu ro ops l ⟨T,m,ds,pv⟩ st = some o
 | [],T,m,ds,pv,st,h => h
 | op :: r,T,m,ds,pv,st,h => by
  have step:semOut (semOps C mu ro ops r) call (runOp call C mu ro op ⟨T,m,ds,pv⟩ st) = some o → (match runOp call C mu ro op ⟨T,m,ds,pv⟩ st with
   | some (.norm,fr,st) => runOps call C mu ro ops r fr st
   | r => r) = some o:=by
   generalize runOp call C mu ro op ⟨T,m,ds,pv⟩ st = x
   intro hx
   rcases x with _ | ⟨e,⟨T',m',ds',pv'⟩,st'⟩
   ·cases hx
   ·cases e with
    | norm => exact semOps_ok hx
    | _ => exact hx
  simp only [runOps]
  simp only [semOps] at h
  split at h
  ·rename_i hg
   rw [wanted_none hg]
   exact step (semOper_ok h)
  ·rename_i hg
   simp only at h
   cases hw:wantedA ops ⟨T,m,ds,pv⟩ op with
   | none => rw [hw] at h; cases h
   | some b =>
    rw [hw] at h
    cases b with
    | false =>
     simp only [semG] at h
     have h2:=putK_ok h
     simp only [Sem.at] at h2
     exact semOps_ok h2
    | true => exact step (semOper_ok h)
theorem semDops_ok {ops:Array Oper}:∀ {l:List Oper} {i:Nat} {T:Nat → AV} {m:Nat} {ds:List ADef} {pv:Option AV} {st:St} {r:Fr × St × List Info},(semDops C mu ro ops l).run call T m ds pv st = some r → runDraw (fun _ => call) C mu ro ops i l ⟨T,m,ds,pv⟩ st = some r
 | [],i,T,m,ds,pv,st,r,h => h
 | op :: l,i,T,m,ds,pv,⟨hp,nx,lg⟩,r,h => by
  have step:semD1 C (semDops C mu ro ops l) op call T m ds pv hp nx lg ((semOp C mu ro op.dst semEnd (compOp C mu op)).run call T m ds pv ⟨hp,nx,[]⟩) = some r →
    (match runOp call C mu ro op ⟨T,m,ds,pv⟩ ⟨hp,nx,[]⟩ with
    | some (.norm,fr',st') => if st'.log.all (fun l => decide (l < nx) && !(hp l).isDead) then
     (match runDraw (fun _ => call) C mu ro ops (i + 1) l fr' ⟨st'.heap,st'.next,st'.log ++ lg⟩ with
     | some (fr2,st2,info) => some (fr2,st2,⟨st'.log,readsA C ⟨T,m,ds,pv⟩ op,nx,st'.next⟩ :: info)
     | none => none) else none
    | _ => none) = some r:=fun h => by
   cases hx:(semOp C mu ro op.dst semEnd (compOp C mu op)).run call T m ds pv ⟨hp,nx,[]⟩ with
   | none => rw [hx] at h; cases h
   | some out =>
    rw [hx] at h
    obtain ⟨e,⟨T',m',ds',pv'⟩,⟨hp',nx',lg'⟩⟩:=out
    have h1:=semOper_ok hx
    have h2:runOp call C mu ro op ⟨T,m,ds,pv⟩ ⟨hp,nx,[]⟩ = some (e,⟨T',m',ds',pv'⟩,⟨hp',nx',lg'⟩):=by
     revert h1
     generalize runOp call C mu ro op ⟨T,m,ds,pv⟩ ⟨hp,nx,[]⟩ = x
     intro hx
     rcases x with _ | ⟨e2,⟨_,_,_,_⟩,_⟩
     ·cases hx
     ·cases e2 <;> exact hx
    rw [h2]
    cases e with
    | norm =>
     simp only [semD1] at h
     simp only
     cases hb:lg'.all (fun l => decide (l < nx) && !(hp l).isDead) with
     | false => rw [hb] at h; cases h
     | true =>
      rw [hb,cond_true] at h
      rw [if_pos rfl]
      cases hr:(semDops C mu ro ops l).run call T' m' ds' pv' ⟨hp',nx',lg' ++ lg⟩ with
      | none => rw [hr] at h; cases h
      | some r2 =>
       rw [hr] at h
       rw [semDops_ok (i:=i + 1) hr]
       exact h
    | _ => cases h
  simp only [runDraw]
  simp only [semDops] at h
  split at h
  ·rename_i hg
   rw [wanted_none hg]
   exact step h
  ·rename_i hg
   simp only at h
   cases hw:wantedA ops ⟨T,m,ds,pv⟩ op with
   | none => rw [hw] at h; cases h
   | some b =>
    rw [hw] at h
    cases b with
    | true => exact step h
    | false =>
     simp only [semDG] at h
     simp only
     cases hd:op.dst with
     | none =>
      rw [hd] at h
      simp only at h
      cases hr:(semDops C mu ro ops l).run call T m ds pv ⟨hp,nx,lg⟩ with
      | none => rw [hr] at h; cases h
      | some r2 =>
       rw [hr] at h
       have:=semDops_ok (i:=i + 1) hr
       simp only [Fr.put]
       rw [this]
       exact h
     | some d =>
      rw [hd] at h
      simp only at h
      cases e:Nat.blt d m with
      | false => rw [e] at h; cases h
      | true =>
       have hdm:d < m:=Nat.le_of_ble_eq_true e
       rw [e,cond_true,updB_eq] at h
       cases hr:(semDops C mu ro ops l).run call (upd T d undefA) m ds pv ⟨hp,nx,lg⟩ with
       | none => rw [hr] at h; cases h
       | some r2 =>
        rw [hr] at h
        have:=semDops_ok (i:=i + 1) hr
        simp only [Fr.put,hdm,if_true]
        rw [this]
        exact h
theorem semReg_ok {ops:Array Oper} {draw:Bool} (h:(semReg C mu ro ops draw).run call T m ds pv st = some o):region call C mu ro ops draw ⟨T,m,ds,pv⟩ st = some o:=by
 unfold region
 unfold semReg at h
 cases draw with
 | false => exact semOps_ok h
 | true =>
  rw [if_pos rfl]
  cases hd:drawable ops with
  | false => rw [hd] at h; cases h
  | true =>
   rw [hd] at h
   simp only at h
   cases hr:(semDops C mu ro ops ops.toList).run call T m ds pv st with
   | none => rw [hr] at h; cases h
   | some r =>
    obtain ⟨fr,st',info⟩:=r
    rw [hr] at h
    rw [semDops_ok (i:=0) hr]
    simp only [semDE] at h
    simp only
    cases hb:orderOk st.next (Region.before ops).toList (insL ops) info 0 info with
    | false => rw [hb] at h; cases h
    | true =>
     rw [hb] at h
     rw [if_pos ⟨rfl,trivial⟩]
     exact h
end
end Go.AE

namespace Go.AE
open Go
section
variable {C:Ctx} {call:CallF} {L:Nat} {self:FuncId} {ro:Option Nat}
theorem semIter_ok {b:Sem} {f:Fr → St → Option Out} (hb:∀ {T m ds pv st o},b.run call T m ds pv st = some o → f ⟨T,m,ds,pv⟩ st = some o):∀ {n:Nat} {T:Nat → AV} {m:Nat} {ds:List ADef} {pv:Option AV} {st:St} {o:Out},semIter b call n T m ds pv st = some o → iter f n ⟨T,m,ds,pv⟩ st = some o
 | 0,_,_,_,_,_,_,h => by cases h
 | n + 1,T,m,ds,pv,st,o,h => by
  simp only [semIter] at h
  simp only [iter]
  cases hx:b.run call T m ds pv st with
  | none => rw [hx] at h; cases h
  | some x =>
   rw [hb hx]
   rw [hx] at h
   obtain ⟨e,⟨T',m',ds',pv'⟩,st'⟩:=x
   cases e with
   | norm =>
    simp only [flatT_eq] at h
    exact semIter_ok hb h
   | _ => exact h
theorem semCode_ok:∀ (c:Code) {T:Nat → AV} {m:Nat} {ds:List ADef} {pv:Option AV} {st:St} {o:Out},(semCode C L self ro c).run call T m ds pv st = some o → exec call C none self ro c ⟨T,m,ds,pv⟩ st = some o
 | .skip,T,m,ds,pv,st,o,h => by simp only [exec]; exact h
 | .label _,T,m,ds,pv,st,o,h => by simp only [exec]; exact h
 | .region _ ops draw,T,m,ds,pv,st,o,h => by
  simp only [exec]
  simp only [semCode] at h
  exact semReg_ok h
 | .seq a b,T,m,ds,pv,st,o,h => by
  simp only [exec]
  simp only [semCode] at h
  cases hx:(semCode C L self ro a).run call T m ds pv st with
  | none => rw [hx] at h; cases h
  | some x =>
   rw [semCode_ok a hx]
   rw [hx] at h
   obtain ⟨e,⟨T',m',ds',pv'⟩,st'⟩:=x
   cases e with
   | norm => exact semCode_ok b h
   | _ => exact h
 | .cond c a b,T,m,ds,pv,st,o,h => by
  simp only [exec]
  simp only [semCode] at h
  rw [XO.v_eq (m:=m) (ds:=ds) (pv:=pv),compO_val] at h
  cases hv:oval C ⟨T,m,ds,pv⟩ c with
  | bool x =>
   rw [hv] at h
   cases x with
   | true => simp only [if_true]; exact semCode_ok a h
   | false => simp only [Bool.false_eq_true,if_false]; exact semCode_ok b h
  | _ => rw [hv] at h; cases h
 | .block id b,T,m,ds,pv,st,o,h => by
  simp only [exec]
  simp only [semCode] at h
  cases hx:(semCode C L self ro b).run call T m ds pv st with
  | none => rw [hx] at h; cases h
  | some x =>
   rw [semCode_ok b hx]
   rw [hx] at h
   obtain ⟨e,fr,st'⟩:=x
   cases e with
   | exit i =>
    simp only [semBlk] at h
    simp only
    cases hb:Nat.beq i id with
    | true =>
     rw [hb,cond_true] at h
     rw [if_pos (Nat.eq_of_beq_eq_true hb)]
     exact h
    | false =>
     rw [hb,cond_false] at h
     rw [if_neg (fun e => by rw [e,Nat.beq_refl] at hb; cases hb)]
     exact h
   | _ => exact h
 | .loop b,T,m,ds,pv,st,o,h => by
  simp only [exec,iterO]
  simp only [semCode] at h
  exact iterW_iff.2 ⟨L,semIter_ok (fun hx => semCode_ok b hx) h⟩
 | .exit id,T,m,ds,pv,st,o,h => by simp only [exec]; exact h
 | .goto l,T,m,ds,pv,st,o,h => by simp only [exec]; exact h
 | .ret,T,m,ds,pv,st,o,h => by simp only [exec]; exact h
 | .rangeFunc f params assign body,T,m,ds,pv,st,o,h => by
  simp only [exec]
  simp only [semCode] at h
  rw [XO.v_eq (m:=m) (ds:=ds) (pv:=pv),compO_val] at h
  cases hv:oval C ⟨T,m,ds,pv⟩ f with
  | func fn first captured =>
   rw [hv] at h
   cases fn with
   | func g => exact h
   | _ => cases h
  | _ => rw [hv] at h; cases h
 | .scope _,_,_,_,_,_,_,h => by cases h
 | .refuse _,_,_,_,_,_,_,h => by cases h
theorem semCode_at {c:Code} {fr:Fr} {st:St} {o:Out} (h:(semCode C L self ro c).at call fr st = some o):exec call C none self ro c fr st = some o:=by
 obtain ⟨T,m,ds,pv⟩:=fr
 exact semCode_ok c h
theorem semRound_ok {l:Nat} {tmps:Nat → AV} {m:Nat} {params:List Tmp} {assign body:Code} {args:List AV} {st:St} {r:CR × St × Option AV} (h:semRound C L l self tmps m params assign body args st call = some r):roundA call C none l self tmps m params assign body args st = some r:=by
 unfold semRound at h
 unfold roundA
 split at h
 ·rename_i hc
  rw [if_pos hc]
  cases hx:(semCode C L self (some l) assign).run call (setParams (params.zip args) m tmps) m [] none st with
  | none => rw [hx] at h; cases h
  | some x =>
   rw [semCode_ok assign hx]
   rw [hx] at h
   obtain ⟨e,fr,st1⟩:=x
   cases e with
   | norm =>
    simp only at h ⊢
    cases ho:st1.heap l with
    | loop s t m' p a b state pe d =>
     rw [ho] at h
     cases state with
     | ready =>
      simp only at h ⊢
      cases hy:(semCode C L self (some l) body).at call fr (st1.set l (.loop s t m' p a b .busy pe d)) with
      | none => rw [hy] at h; cases h
      | some y =>
       rw [semCode_at hy]
       rw [hy] at h
       exact h
     | _ => cases h
    | _ => rw [ho] at h; cases h
   | _ => cases h
 ·cases h
end
theorem callS_W {C:Ctx} {L:Nat}:∀ n,CLe (callS C L n) (callW C)
 | 0 => fun t a k s r h => by cases h
 | n + 1 => fun t a kd st r h => by
  have ih:=(callS_W (C:=C) (L:=L) n).chain
  cases t with
  | fn f =>
   have hE:∀ {fi:FI},C.fn f = some fi → semEnter C f a kd st (callS C L n) (semFn C L f) = some r → enterFn (callW C) C none f fi a kd st = some r:=fun {fi} hf h => by
    simp only [semFn,hf] at h
    obtain ⟨nt,rs,bd⟩:=fi
    simp only [semEnter] at h
    cases hx:(semCode C L f none bd).run (callS C L n) (argTmps a) (max nt a.length) [] kd.pv ⟨st.heap,st.next,[]⟩ with
    | none => rw [hx] at h; cases h
    | some x =>
     rw [hx] at h
     have h1:enterFn (callS C L n) C none f ⟨nt,rs,bd⟩ a kd st = some r:=by
      unfold enterFn
      simp only
      rw [semCode_ok bd hx]
      exact h
     exact (enterFn_cont ih h1).const
   have hF:semEnter C f a kd st (callS C L n) (semFn C L f) = some r → ∃ fi,C.fn f = some fi:=fun h => by
    cases hf:C.fn f with
    | none => simp only [semFn,hf] at h; cases h
    | some fi => exact ⟨fi,rfl⟩
   simp only [callS] at h
   cases kd with
   | normal =>
    simp only at h
    cases hX:C.X f a st with
    | some x =>
     obtain ⟨v,st'⟩:=x
     rw [hX] at h
     cases h
     exact callW_X hX
    | none =>
     rw [hX] at h
     simp only [semX] at h
     obtain ⟨fi,hf⟩:=hF h
     exact callW_fn hf hX (hE hf h)
   | deferred pv =>
    simp only [semX] at h
    obtain ⟨fi,hf⟩:=hF h
    exact callW_deferred hf (hE hf h)
  | yield l =>
   simp only [callS] at h
   cases kd with
   | deferred pv => cases h
   | normal =>
    skip
    cases ho:st.heap l with
    | loop self tmps m params assign body state pe d =>
     rw [ho] at h
     exact callW_yield ho ((roundA_cont ih (semRound_ok h)).const)
    | _ => rw [ho] at h; cases h
end Go.AE
