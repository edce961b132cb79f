/- Text, and the body of the law: at every three formulas. -/
import Derived.Test.YtdlahjpoiichkaaGreatDoorS6
set_option linter.unusedVariables false
set_option linter.unusedSimpArgs false
set_option linter.unusedSectionVars false
namespace Go.Proofs.L06
open Go Go.AE
open Nat (reduceLT reduceLeDiff reduceEqDiff reduceMul reduceAdd reduceSub)
set_option maxHeartbeats 8000000
def bytesA (b:List Nat):List AV:=b.map fun c => .int .u8 (.ofNat c)
theorem bytesA_len (b:List Nat):(bytesA b).length = b.length:=by simp [bytesA]
def Tera:Nat:=1000000000000
def BufV (p:Nat) (st:St) (b:List Nat) (bf:AV):Prop :=
 (b = [] ∧ bf = .slice .nil []) ∨ (b ≠ [] ∧ ∃ r,bf = .row r 0 b.length none ∧ st.heap r = .mem 5 (bytesA b) false 0 ∧ r < st.next ∧ p < r)
structure Buf (p:Nat) (st:St) (b:List Nat):Prop where
 lt:p < st.next
 obj:∃ ad bf,st.heap p = .mem 98 [ad,bf] true 0 ∧ (ad = .nilp ∨ ad = .ptr p 0) ∧ BufV p st b bf
structure WB (p:Nat) (a b:St):Prop where
 heap:∀ q t cs z,q < a.next → q ≠ p → a.heap q = .mem t cs true z → b.heap q = .mem t cs true z
 next:a.next ≤ b.next
 dead:∀ q,q < a.next → (a.heap q).isDead = true → (b.heap q).isDead = true
 log:∀ l ∈ b.log,l ∈ a.log ∨ (p ≤ l ∧ (l < a.next → (a.heap l).isDead = false))
 keep:∀ l ∈ a.log,l ∈ b.log
theorem WB.refl {p:Nat} (a:St):WB p a a:=⟨fun _ _ _ _ _ _ h => h,Nat.le_refl _,fun _ _ h => h,fun _ h => .inl h,fun _ h => h⟩
theorem not_dead {a b:AO} (h:a.isDead = true → b.isDead = true) (hb:b.isDead = false):a.isDead = false:=by
 cases e:a.isDead with
 | false => rfl
 | true => rw [h e] at hb; cases hb
theorem WB.trans {p:Nat} {a b c:St} (h:WB p a b) (k:WB p b c):WB p a c :=
 ⟨fun q t cs z h1 h2 h3 => k.heap q t cs z (Nat.lt_of_lt_of_le h1 h.next) h2 (h.heap q t cs z h1 h2 h3),Nat.le_trans h.next k.next,fun q h1 h2 => k.dead q (Nat.lt_of_lt_of_le h1 h.next) (h.dead q h1 h2),fun l hl => by
  rcases k.log l hl with e | ⟨e1,e2⟩
  ·exact h.log l e
  ·exact .inr ⟨e1,fun h1 => not_dead (h.dead l h1) (e2 (Nat.lt_of_lt_of_le h1 h.next))⟩,fun l hl => k.keep l (h.keep l hl)⟩
theorem WB.new {p:Nat} {a:St} {h:Nat → AO} {nx:Nat} {lg lg2:List Nat} {o:AO} (hw:WB p a ⟨h,nx,lg⟩) (hp:p < a.next) (hl:∀ l ∈ lg2,l = nx ∨ l ∈ lg) (hk:∀ l ∈ lg,l ∈ lg2):WB p a ⟨upd h nx o,nx + 1,lg2⟩:=by
 have hn:=hw.next
 simp only at hn
 refine ⟨fun q t cs z h1 h2 h3 => ?_,by simp only; omega,fun q h1 h2 => ?_,fun l hm => ?_,fun l hm => hk l (hw.keep l hm)⟩
 ·simp only
  rw [upd_ne _ _ (by omega)]; exact hw.heap q t cs z h1 h2 h3
 ·simp only
  rw [upd_ne _ _ (by omega)]; exact hw.dead q h1 h2
 ·rcases hl l hm with rfl | hm
  ·exact .inr ⟨by omega,fun h => by omega⟩
  ·exact hw.log l hm
theorem Buf.new {p:Nat} {h:Nat → AO} {nx:Nat} {lg lg2:List Nat} {o:AO} {b:List Nat} (hb:Buf p ⟨h,nx,lg⟩ b):Buf p ⟨upd h nx o,nx + 1,lg2⟩ b:=by
 obtain ⟨h1,ad,bf,h2,h3,h4⟩:=hb
 simp only at h1 h2
 refine ⟨by simp only; omega,ad,bf,by simp only; rw [upd_ne _ _ (by omega)]; exact h2,h3,?_⟩
 rcases h4 with h4 | ⟨h4,r,h5,h6,h7,h8⟩
 ·exact .inl h4
 ·simp only at h6 h7
  exact .inr ⟨h4,r,h5,by simp only; rw [upd_ne _ _ (by omega)]; exact h6,by simp only; omega,h8⟩
theorem Buf.log {p:Nat} {h:Nat → AO} {nx:Nat} {lg lg2:List Nat} {b:List Nat} (hb:Buf p ⟨h,nx,lg⟩ b):Buf p ⟨h,nx,lg2⟩ b:=⟨hb.lt,hb.obj⟩
theorem WB.hitp {p:Nat} {a:St} {h:Nat → AO} {nx:Nat} {lg lg2:List Nat} {o:AO} (hw:WB p a ⟨h,nx,lg⟩) (h0:(a.heap p).isDead = false) (hl:∀ l ∈ lg2,l = p ∨ l ∈ lg) (hk:∀ l ∈ lg,l ∈ lg2):WB p a ⟨upd h p o,nx,lg2⟩ :=
 ⟨fun q t cs z h1 h2 h3 => by simp only; rw [upd_ne _ _ h2]; exact hw.heap q t cs z h1 h2 h3,hw.next,fun q h1 h2 => by
  simp only
  rw [upd_ne _ _ (fun e => by subst e; rw [h0] at h2; cases h2)]; exact hw.dead q h1 h2,fun l hm => by
  rcases hl l hm with rfl | hm
  ·exact .inr ⟨Nat.le_refl _,fun _ => h0⟩
  ·exact hw.log l hm,fun l hm => hk l (hw.keep l hm)⟩
theorem Buf.live {p:Nat} {a:St} {b:List Nat} (h:Buf p a b):(a.heap p).isDead = false:=by
 obtain ⟨_,_,_,h2,_⟩:=h
 rw [h2]; rfl
theorem puts_ge:∀ (l:Toks) (b:List Nat),b.length ≤ (puts b l).length
 | [],b => Nat.le_refl _
 | s :: l,b => by
  rw [puts,List.foldl_cons]
  have:=puts_ge l (putT b s)
  rw [puts] at this
  refine Nat.le_trans ?_ this
  unfold putT
  split <;> simp <;> omega
theorem puts_app (b:List Nat) (l l':Toks):puts b (l ++ l') = puts (puts b l) l':=by rw [puts,puts,puts,List.foldl_append]
def Puts (Q:Ctx) (f:FuncId) (args:List AV) (p:Nat) (l:Toks):Prop :=
 ∀ st b,Buf p st b → (puts b l).length ≤ Tera → ∃ st',callW Q (.fn f) args .normal st = some (.ret (.tuple []),st',none) ∧ WB p st st' ∧ Buf p st' (puts b l) ∧ (p ∈ st'.log ∨ puts b l = b) ∧ ∀ l ∈ st'.log,l ∈ st.log ∨ l < st.next
section
variable {Q:Ctx} {f:FuncId} {fi:FI} {x:XC} {N p:Nat} {args:List AV} {st:St} {mu:Bool} {b b':List Nat} {v:AV}
theorem wb_end (ok:FnOk Q f fi x mu) (hX:Q.X f args st = none) (hN:max fi.ntmps args.length = N) (hB:Buf p st b) (hv:∀ st1,freezeR Q st1 v = some (v,st1)) (hu:untok v = v)
  (h:Post N [] none (execY (callW Q) Q mu f none x ⟨argTmps args,N,[],none⟩ ⟨st.heap,st.next,[]⟩) fun e T st1 => endOf e = some none ∧ (resultsA Q st1 T fi.results).map packA = some v ∧ WB p ⟨st.heap,st.next,[]⟩ st1 ∧ Buf p st1 b' ∧ (p ∈ st1.log ∨ b' = b)) :
  ∃ st',callW Q (.fn f) args .normal st = some (.ret v,st',none) ∧ WB p st st' ∧ Buf p st' b' ∧ (p ∈ st'.log ∨ b' = b) ∧ ∀ l ∈ st'.log,l ∈ st.log ∨ l < st.next:=by
 obtain ⟨e,T,st1,h1,he,hr,hw,hb,hm⟩:=h
 refine ⟨_,callYr ok hX hN ⟨_,h1,finish_ret (v0:=v) (v:=v) (st3:=st1) he hr (by
  have:=frz_noRow (C:=Q) (f:=f) (hv st1) fun _ => hu
  rw [hu] at this
  exact this)⟩,?_⟩
 show WB p st (leaveSt st [v] st1) ∧ Buf p (leaveSt st [v] st1) b' ∧ (p ∈ (leaveSt st [v] st1).log ∨ b' = b) ∧ ∀ l ∈ (leaveSt st [v] st1).log,l ∈ st.log ∨ l < st.next
 have hp:=hB.lt
 rcases leave_cases (st0:=st) (st1:=st1) (vs:=[v]) with ⟨c1,c2⟩ | c1
 ·rw [c1]
  have:b' = b:=by
   rcases hm with h | h
   ·have:=c2 p h; omega
   ·exact h
  rw [this]
  exact ⟨WB.refl _,hB,.inr rfl,fun l h => .inl h⟩
 ·rw [c1]
  refine ⟨⟨hw.heap,hw.next,hw.dead,fun l hl => ?_,fun l hl => by simp [hl]⟩,⟨hb.lt,hb.obj⟩,?_,fun l hl => ?_⟩
  ·simp only [List.mem_append,List.mem_filter] at hl
   rcases hl with ⟨hl,_⟩ | hl
   ·rcases hw.log l hl with e | e
    ·cases e
    ·exact .inr e
   ·exact .inl hl
  ·rcases hm with h | h
   ·exact .inl (by simp [h,hp])
   ·exact .inr h
  ·simp only [List.mem_append,List.mem_filter,decide_eq_true_iff] at hl
   exact hl.symm.imp id fun h => h.2
end
theorem und307:T307.und = .unsafePointer:=by kernel_rfl
theorem lies96:liesAt Tryz.prog Tryz.prog.depth 98 (2 / Tryz.prog.cellsOf 98) 0 96 1 = true:=by kernel_rfl
theorem lenX_row {l off len:Nat} {lim:Option Nat}:lenX (.row l off len lim) = some (.int .i64 (len:Int)):=(rfl)
theorem cells_row {A o k:Nat} {m:Option Nat}:(AV.row A o k m).cells = [.row A o k m]:=(rfl)
theorem any_row {A o k:Nat} {m:Option Nat}:(AV.row A o k m).isAny = false:=(rfl)
theorem ic_row {A o k:Nat} {m:Option Nat}:(AV.row A o k m).isCell = true:=(rfl)
theorem cells_ptr {a b:Nat}:(AV.ptr a b).cells = [.ptr a b]:=(rfl)
theorem ic_ptr {a b:Nat}:(AV.ptr a b).isCell = true:=(rfl)
theorem bytesA_app (b s:List Nat):bytesA (b ++ s) = bytesA b ++ bytesA s:=by simp [bytesA]
theorem flat_bytes:∀ s:List Nat,Go.AE.flat (bytesA s) = bytesA s
 | [] => rfl
 | c :: s => by
  have:=flat_bytes s
  simp only [bytesA,List.map_cons] at this ⊢
  unfold Go.AE.flat at this ⊢
  rw [List.flatMap_cons,this]; rfl
theorem sized_bytes (s:List Nat):Go.AE.sized 1 (bytesA s) = true:=by
 unfold Go.AE.sized
 rw [List.all_eq_true]
 intro x hx
 unfold bytesA at hx
 rw [List.mem_map] at hx
 obtain ⟨c,_,rfl⟩:=hx
 rfl
theorem ic_bytes (s:List Nat):(bytesA s).all AV.isCell = true:=by
 rw [List.all_eq_true]
 intro x hx
 unfold bytesA at hx
 rw [List.mem_map] at hx
 obtain ⟨c,_,rfl⟩:=hx
 rfl
theorem roomy1 {n:Nat} (h:n ≤ Tera):roomy n T5.bytes = true:=by
 show (decide (n * 1 ≤ 1099511627776) && decide (1 ≤ 1048576) && decide (n ≤ 1099511627776)) = true
 unfold Tera at h
 rw [decide_eq_true (by omega),decide_eq_true (by omega)]; rfl
theorem app_first {s:List Nat} (h0:s ≠ []) (hl:s.length ≤ Tera) {h:Nat → AO} {nx:Nat} {lg:List Nat}:appendA true ⟨h,nx,lg⟩ 5 T5 (.slice .nil []) (bytesA s) = some (.row nx 0 s.length none,⟨upd h nx (.mem 5 (bytesA s) false 0),nx + 1,lg⟩):=by
 obtain ⟨c,l,rfl⟩:∃ c l,s = c :: l:=by cases s with | nil => exact absurd rfl h0 | cons c l => exact ⟨c,l,rfl⟩
 have e1:=sized_bytes (c :: l)
 have e2:=ic_bytes (c :: l)
 have e3:=flat_bytes (c :: l)
 have e4:=bytesA_len (c :: l)
 have e5:bytesA (c :: l) = .int .u8 (.ofNat c) :: bytesA l:=rfl
 rw [e5] at e1 e2 e3 e4 ⊢
 simp only [appendA]
 rw [if_pos ⟨e1,by decide,by rw [e3]; exact e2⟩,if_pos ⟨rfl,by rw [e4,List.length_nil,Nat.zero_add]; exact roomy1 hl⟩]
 simp only [appendSl,fresh,if_true,List.nil_append,e3,e4,St.push]
theorem app_next {b s:List Nat} (h0:s ≠ []) (hl:b.length + s.length ≤ Tera) {h:Nat → AO} {nx r:Nat} {lg:List Nat} (hp:h r = .mem 5 (bytesA b) false 0) :
  appendA true ⟨h,nx,lg⟩ 5 T5 (.row r 0 b.length none) (bytesA s) = some (.row nx 0 (b.length + s.length) none,⟨upd (upd h r .dead) nx (.mem 5 (bytesA (b ++ s)) false 0),nx + 1,r :: lg⟩):=by
 obtain ⟨c,l,rfl⟩:∃ c l,s = c :: l:=by cases s with | nil => exact absurd rfl h0 | cons c l => exact ⟨c,l,rfl⟩
 have e1:=sized_bytes (c :: l)
 have e2:=ic_bytes (c :: l)
 have e3:=flat_bytes (c :: l)
 have e4:=bytesA_len (c :: l)
 have e6:=bytesA_app b (c :: l)
 have e5:bytesA (c :: l) = .int .u8 (.ofNat c) :: bytesA l:=rfl
 rw [e5] at e1 e2 e3 e4 e6 ⊢
 have e7:=bytesA_len b
 have e8:¬ (0 + (b.length + (AV.int .u8 (.ofNat c) :: bytesA l).length) * T5.size ≤ (bytesA b).length):=by
  rw [e4,e7,List.length_cons]; show ¬ (0 + (b.length + (l.length + 1)) * 1 ≤ b.length); omega
 have e9:0 + b.length * T5.size = (bytesA b).length:=by rw [e7]; show 0 + b.length * 1 = b.length; omega
 simp only [appendA]
 rw [if_pos ⟨e1,by decide,by rw [e3]; exact e2⟩,if_pos (by rw [e4]; exact roomy1 hl)]
 simp only [appendRow,hp]
 rw [if_neg (by decide),if_pos (by rfl),if_neg e8,if_neg (by decide),if_pos e9]
 simp only [e3,e4,e6,List.drop_zero,Nat.sub_zero,St.push,St.set]
section
variable {Q:Ctx} (hK:K Q)
include hK
theorem size96:sizeIs Q 96 = some 2:=by simp only [sizeIs,tw96 hK,T96,Option.map_some]
theorem conv_a {st:St} {p:Nat} {x y:AV} (h:st.heap p = .mem 98 [x,y] true 0):convA Q st 93 307 (.ptr p 0) = some (.ptr p 0):=by
 have e:=tw307 hK
 have e2:=und307
 generalize T307 = t at *
 obtain ⟨u,a,b,c,d,g⟩:=t
 simp only at e2
 subst e2
 simp only [convA,tw93 hK,T93,e,size96 hK,h,List.length_cons,List.length_nil]
 rfl
theorem conv_b {st:St} {p:Nat} {x y:AV} (h:st.heap p = .mem 98 [x,y] true 0):convA Q st 307 93 (.ptr p 0) = some (.ptr p 0):=by
 have e:=tw307 hK
 have e2:=und307
 generalize T307 = t at *
 obtain ⟨u,a,b,c,d,g⟩:=t
 simp only at e2
 subst e2
 have hP:Q.P = Tryz.prog:=by obtain ⟨X,rfl⟩:=hK.ex; rfl
 have hl:([x,y]:List AV).length = 2:=rfl
 simp only [convA,tw93 hK,T93,e,size96 hK,h,hP,hl,lies96,Option.isSome_some,true_and,and_true]
 rfl
theorem binA_pp {xo yo:Operand} {p:Nat}:binA Q .neq 93 xo yo (.ptr p 0) (.ptr p 0) = some (.bool false):=by
 simp only [binA,eqV,tw93 hK,T93,size96 hK,if_true,boolA]
 rfl
theorem binA_pn {xo yo:Operand} {p:Nat}:binA Q .eql 93 xo yo (.ptr p 0) .nilp = some (.bool false):=by
 simp only [binA,eqV,tw93 hK,T93,boolA]
 rfl
theorem binA_np {xo yo:Operand}:binA Q .eql 93 xo yo .nilp .nilp = some (.bool true):=by
 simp only [binA,eqV,tw93 hK,T93,boolA]
 rfl
theorem len47 {p:Nat} {b:List Nat} {st:St} (hb:Buf p st b):callW Q (.fn 47) [.ptr p 0] .normal st = some (.ret (.int .i64 (b.length:Int)),st,none):=by
 refine callY (N:=8) (ok47 hK) (hK.nx _ _ _ rfl) rfl rfl ?_
 obtain ⟨h1,ad,bf,h2,h3,h4⟩:=hb
 rcases h4 with ⟨rfl,rfl⟩ | ⟨_,r,rfl,_⟩
 ·simp only [RS,RT,RZ,Zu,reduceLT,reduceLeDiff,reduceEqDiff,reduceMul,reduceAdd,reduceSub,reduceCtorEq,Zw,List.map_nil,List.nil_append,Zv,x47,F47,h2,h1,lenX_row]
 ·simp only [RS,RT,RZ,Zu,reduceLT,reduceLeDiff,reduceEqDiff,reduceMul,reduceAdd,reduceSub,reduceCtorEq,Zw,List.map_nil,List.nil_append,Zv,x47,F47,h2,h1,lenX_row]
theorem copy240 {p:Nat} {b:List Nat} {st:St} (hb:Buf p st b):∃ st',callW Q (.fn 240) [.ptr p 0] .normal st = some (.ret (.tuple []),st',none) ∧ WB p st st' ∧ Buf p st' b ∧ (p ∈ st'.log ∨ b = b) ∧ ∀ l ∈ st'.log,l ∈ st.log ∨ l < st.next:=by
 have hB:=hb
 obtain ⟨h1,ad,bf,h2,h3,h4⟩:=hb
 refine wb_end (N:=20) (ok240 hK) (hK.nx _ _ _ rfl) rfl hB (fun _ => rfl) rfl ?_
 rcases h3 with rfl | rfl
 ·simp only [RS,RT,RZ,Zu,reduceLT,reduceLeDiff,reduceEqDiff,reduceMul,reduceAdd,reduceSub,reduceCtorEq,Zw,List.map_nil,List.nil_append,Zv,x240,h2,h1,binA_np hK,ofV,ofCell,cells_ptr,ic_ptr,conv_a hK (st:=⟨st.heap,st.next,[]⟩) h2,conv_b hK (st:=⟨st.heap,st.next,[]⟩) h2,F240,x304_c hK]
  refine ⟨(WB.refl _).hitp hB.live (fun l hl => by simpa using hl) (fun l hl => nomatch hl),⟨h1,.ptr p 0,bf,by simp only; rw [upd_same],.inr rfl,?_⟩,.inr trivial⟩
  rcases h4 with h4 | ⟨h4,r,h5,h6,h7,h8⟩
  ·exact .inl h4
  ·exact .inr ⟨h4,r,h5,by simp only; rw [upd_ne _ _ (by omega)]; exact h6,h7,h8⟩
 ·simp only [RS,RT,RZ,Zu,reduceLT,reduceLeDiff,reduceEqDiff,reduceMul,reduceAdd,reduceSub,reduceCtorEq,Zw,List.map_nil,List.nil_append,Zv,x240,h2,h1,binA_pn hK,binA_pp hK,ofV,ofCell,F240]
  exact ⟨WB.refl _,⟨h1,_,_,h2,.inr rfl,h4⟩,.inr trivial⟩
theorem str174 {p:Nat} {b s:List Nat} {st:St} (hb:Buf p st b) (hl:b.length + s.length ≤ Tera) :
  ∃ st',callW Q (.fn 174) [.ptr p 0,.str s] .normal st = some (.ret (.tuple [.int .i64 (s.length:Int),.nilif]),st',none) ∧ WB p st st' ∧ Buf p st' (b ++ s) ∧ (p ∈ st'.log ∨ b ++ s = b) ∧ ∀ l ∈ st'.log,l ∈ st.log ∨ l < st.next:=by
 refine wb_end (N:=19) (ok174 hK) (hK.nx _ _ _ rfl) rfl hb (fun _ => rfl) rfl ?_
 obtain ⟨⟨h1,n1,l1⟩,c1,c2,c3,_⟩:=copy240 hK (st:=⟨st.heap,st.next,[]⟩) ⟨hb.lt,hb.obj⟩
 obtain ⟨g1,ad,bf,g2,g3,g4⟩:=c3
 simp only at g1 g2
 have eA:∀ hh nn ll,elemsOf ⟨hh,nn,ll⟩ T5 (.str s) = some (bytesA s):=fun _ _ _ => rfl
 have e1:(p = n1) = False:=eq_false (by omega)
 have c2n:=c2.next
 rcases g4 with ⟨rfl,rfl⟩ | ⟨g4,r,rfl,g5,g6,g7⟩
 ·by_cases hs:s = []
  ·subst hs
   have ea:appendA true ⟨h1,n1,l1⟩ 5 T5 (.slice .nil []) (bytesA []) = some (.slice .nil [],⟨h1,n1,l1⟩):=rfl
   simp only [RS,RT,RZ,Zu,reduceLT,reduceLeDiff,reduceEqDiff,reduceMul,reduceAdd,reduceSub,reduceCtorEq,Zw,List.map_nil,List.nil_append,Zv,x174,F174,c1,g1,g2,eA,ea,cells_row,any_row,ic_row]
   exact ⟨c2.hitp hb.live (fun l hl => by simpa using hl) (fun l hl => by simp [hl]),⟨g1,ad,_,by simp only; rw [upd_same],by assumption,.inl ⟨rfl,rfl⟩⟩,by simp⟩
  ·have ea:=app_first hs (by simpa using hl) (h:=h1) (nx:=n1) (lg:=l1)
   simp only [RS,RT,RZ,Zu,reduceLT,reduceLeDiff,reduceEqDiff,reduceMul,reduceAdd,reduceSub,reduceCtorEq,Zw,List.map_nil,List.nil_append,Zv,x174,F174,c1,g1,g2,e1,eA,ea,cells_row,any_row,ic_row]
   exact ⟨(c2.new hb.lt (lg2:=l1) (fun l hl => .inr hl) (fun l hl => hl)).hitp hb.live (fun l hl => by simpa using hl) (fun l hl => by simp [hl]),
    ⟨by simp only; omega,ad,_,by simp only; rw [upd_same],by assumption,.inr ⟨hs,n1,rfl,by simp only; rw [upd_ne _ _ (by omega),upd_same],by simp only; omega,by omega⟩⟩,by simp⟩
 ·by_cases hs:s = []
  ·subst hs
   have ea:appendA true ⟨h1,n1,l1⟩ 5 T5 (.row r 0 b.length none) (bytesA []) = some (.row r 0 b.length none,⟨h1,n1,l1⟩):=rfl
   simp only [RS,RT,RZ,Zu,reduceLT,reduceLeDiff,reduceEqDiff,reduceMul,reduceAdd,reduceSub,reduceCtorEq,Zw,List.map_nil,List.nil_append,Zv,x174,F174,c1,g1,g2,eA,ea,cells_row,any_row,ic_row,List.append_nil]
   exact ⟨c2.hitp hb.live (fun l hl => by simpa using hl) (fun l hl => by simp [hl]),⟨g1,ad,_,by simp only; rw [upd_same],by assumption,.inr ⟨g4,r,rfl,by simp only; rw [upd_ne _ _ (by omega)]; exact g5,g6,g7⟩⟩,by simp⟩
  ·have ea:=app_next hs hl (h:=h1) (nx:=n1) (lg:=l1) g5
   have e2:(p = r) = False:=eq_false (by omega)
   simp only [RS,RT,RZ,Zu,reduceLT,reduceLeDiff,reduceEqDiff,reduceMul,reduceAdd,reduceSub,reduceCtorEq,Zw,List.map_nil,List.nil_append,Zv,x174,F174,c1,g1,g2,e1,e2,eA,ea,cells_row,any_row,ic_row]
   have hd:WB p ⟨st.heap,st.next,[]⟩ ⟨upd h1 r .dead,n1,r :: l1⟩ :=
    ⟨fun q t cs z k1 k2 k3 => by
     have:=c2.heap q t cs z k1 k2 k3
     simp only at this ⊢
     rw [upd_ne _ _ (fun e => by have g:=g5; simp only at g; first | (rw [← e,this] at g; cases g) | (rw [e,this] at g; cases g))]; exact this,c2.next,fun q k1 k2 => by
     have:=c2.dead q k1 k2
     simp only at this ⊢
     by_cases e:q = r
     ·subst e; rw [upd_same]; rfl
     ·rw [upd_ne _ _ e]; exact this,fun l hl => by
     rcases List.mem_cons.1 hl with rfl | hl
     ·exact .inr ⟨by omega,fun k1 => not_dead (c2.dead l k1) (by simp only at g5 ⊢; rw [g5]; rfl)⟩
     ·exact c2.log l hl,fun l hl => nomatch hl⟩
   refine ⟨(hd.new hb.lt (lg2:=r :: l1) (fun l hl => .inr hl) (fun l hl => hl)).hitp hb.live (fun l hl => by simpa using hl) (fun l hl => List.mem_cons_of_mem _ hl),
    ⟨by simp only; omega,ad,_,by simp only; rw [upd_same],by assumption,.inr ⟨by simp [hs],n1,?_,by simp only; rw [upd_ne _ _ (by omega),upd_same],by simp only; omega,by omega⟩⟩,by simp⟩
   rw [List.length_append]
theorem put_step {p:Nat} {b s:List Nat} {st:St} (hb:Buf p st b) (hl:(putT b s).length ≤ Tera) (hs:s ≠ []) :
  ∃ st',(if 0 < b.length then ∃ s1,callW Q (.fn 174) [.ptr p 0,.str [32]] .normal st = some (.ret (.tuple [.int .i64 1,.nilif]),s1,none) ∧ callW Q (.fn 174) [.ptr p 0,.str s] .normal s1 = some (.ret (.tuple [.int .i64 (s.length:Int),.nilif]),st',none)
   else callW Q (.fn 174) [.ptr p 0,.str s] .normal st = some (.ret (.tuple [.int .i64 (s.length:Int),.nilif]),st',none)) ∧ WB p st st' ∧ Buf p st' (putT b s) ∧ p ∈ st'.log:=by
 unfold putT at hl ⊢
 by_cases h:0 < b.length
 ·simp only [if_pos h] at hl ⊢
  simp only [List.length_append,List.length_cons,List.length_nil] at hl
  obtain ⟨s1,c1,c2,c3,c4,_⟩:=str174 hK (s:=[32]) hb (by simp; omega)
  obtain ⟨s2,d1,d2,d3,d4,_⟩:=str174 hK (s:=s) c3 (by simp; omega)
  refine ⟨s2,⟨s1,c1,d1⟩,c2.trans d2,d3,?_⟩
  rcases d4 with d4 | d4
  ·exact d4
  ·have:=congrArg List.length d4
   simp at this
   exact absurd this hs
 ·simp only [if_neg h] at hl ⊢
  rw [List.length_append] at hl
  obtain ⟨s2,d1,d2,d3,d4,_⟩:=str174 hK (s:=s) hb hl
  refine ⟨s2,d1,d2,d3,?_⟩
  rcases d4 with d4 | d4
  ·exact d4
  ·exact absurd d4 (by simpa using hs)
theorem put101 {p:Nat} {l:Toks} (hs:∀ s ∈ l,s ≠ []) (hn:l.length < 1000):Puts Q 101 [.ptr p 0,.slice .exact (strsA l)] p l:=by
 intro st b hb hl
 refine wb_end (N:=27) (ok101 hK) (hK.nx _ _ _ rfl) rfl hb (fun _ => rfl) rfl ?_
 simp only [RS,RT,RZ,Zu,reduceLT,reduceLeDiff,reduceEqDiff,reduceMul,reduceAdd,reduceSub,reduceCtorEq,Zw,List.map_nil,List.nil_append,Zv,x101,F101,strsA_len]
 refine post_bind (post_for (I:=fun i T st1 => T 0 = .ptr p 0 ∧ T 6 = .slice .exact (strsA l) ∧ T 7 = .int .i64 (l.length:Int) ∧ T 8 = .int .i64 (i:Int) ∧ WB p ⟨st.heap,st.next,[]⟩ st1 ∧ Buf p st1 (puts b (l.take i)) ∧ (0 < i → p ∈ st1.log))
  (Q:=fun e T st1 => e = .exit 0 ∧ WB p ⟨st.heap,st.next,[]⟩ st1 ∧ Buf p st1 (puts b l) ∧ (p ∈ st1.log ∨ puts b l = b)) l.length ?_ ?_ (Nat.zero_le _) ?_) ?_
 ·rintro i T ⟨h,nx,lg⟩ hi ⟨t0,t6,t7,t8,hw,hbf,hm⟩
  obtain ⟨x,hx⟩:∃ x,l[i]? = some x:=⟨_,List.getElem?_eq_getElem hi⟩
  have hxm:=List.mem_of_getElem? hx
  have hi2:=wrapUp (show i < 9223372036854775807 by omega)
  have hnx:=hw.next
  have hpl:=hb.lt
  simp only at hnx
  have e:puts b (l.take (i + 1)) = putT (puts b (l.take i)) x:=by rw [List.take_add_one,hx,puts_app]; rfl
  have hle:(putT (puts b (l.take i)) x).length ≤ Tera:=by
   rw [← e]
   refine Nat.le_trans ?_ hl
   conv => rhs; rw [← List.take_append_drop (i + 1) l]
   rw [puts_app]
   exact puts_ge _ _
  obtain ⟨⟨h2,n2,l2⟩,c1,c2,c3,c4⟩:=put_step hK hbf hle (hs x hxm)
  have c0:=len47 hK hbf
  have hget:=strsA_get hx
  rw [← e] at c3
  by_cases hz:0 < (puts b (l.take i)).length
  ·rw [if_pos hz] at c1
   obtain ⟨⟨h3,n3,l3⟩,d1,d2⟩:=c1
   have hz':=decT (show (0:Int) < ((puts b (l.take i)).length:Int) by omega)
   simp only [RS,RT,RZ,Zu,reduceLT,reduceLeDiff,reduceEqDiff,reduceMul,reduceAdd,reduceSub,reduceCtorEq,Zw,List.map_nil,List.nil_append,Zv,l101_0,t0,t6,t7,t8,hi,hget,hi2,c0,d1,d2,hz,hz']
   exact ⟨hw.trans c2,c3,fun _ => c4⟩
  ·rw [if_neg hz] at c1
   have hz':=decF (show ¬ (0:Int) < ((puts b (l.take i)).length:Int) by omega)
   simp only [RS,RT,RZ,Zu,reduceLT,reduceLeDiff,reduceEqDiff,reduceMul,reduceAdd,reduceSub,reduceCtorEq,Zw,List.map_nil,List.nil_append,Zv,l101_0,t0,t6,t7,t8,hi,hget,hi2,c0,c1,hz,hz']
   exact ⟨hw.trans c2,c3,fun _ => c4⟩
 ·rintro T ⟨h,nx,lg⟩ ⟨t0,t6,t7,t8,hw,hbf,hm⟩
  rw [List.take_length] at hbf
  simp only [RS,RT,RZ,Zu,reduceLT,reduceLeDiff,reduceEqDiff,reduceMul,reduceAdd,reduceSub,reduceCtorEq,Zw,List.map_nil,List.nil_append,Zv,l101_0,t0,t6,t7,t8]
  refine ⟨hw,hbf,?_⟩
  cases l with
  | nil => exact .inr rfl
  | cons x l => exact .inl (hm (by simp))
 ·simp only [RS,RT,RZ,Zu,reduceLT,reduceLeDiff,reduceEqDiff,reduceMul,reduceAdd,reduceSub,reduceCtorEq,Zw,List.map_nil,List.nil_append,Zv,]
  exact ⟨WB.refl _,hb.log,fun h => h.elim⟩
 ·rintro e T ⟨h,nx,lg⟩ ⟨rfl,hw,hbf,hm⟩
  simp only [RS,RT,RZ,Zu,reduceLT,reduceLeDiff,reduceEqDiff,reduceMul,reduceAdd,reduceSub,reduceCtorEq,Zw,List.map_nil,List.nil_append,Zv,]
  exact ⟨hw,hbf,hm⟩
end
end Go.Proofs.L06

namespace Go.Proofs.L06
open Go Go.AE
open Nat (reduceLT reduceLeDiff reduceEqDiff reduceMul reduceAdd reduceSub)
set_option maxHeartbeats 8000000
structure Step (p:Nat) (a:St) (b:List Nat) (s:St) (b':List Nat):Prop where
 w:WB p a s
 bf:Buf p s b'
 m:p ∈ s.log ∨ b' = b
theorem Step.refl {p:Nat} {a:St} {b:List Nat} (h:Buf p a b):Step p a b a b:=⟨WB.refl _,h,.inr rfl⟩
theorem Step.new {p:Nat} {a:St} {b b':List Nat} {h:Nat → AO} {nx:Nat} {lg lg2:List Nat} {o:AO} (hs:Step p a b ⟨h,nx,lg⟩ b') (hp:p < a.next) (hl:∀ l ∈ lg2,l = nx ∨ l ∈ lg) (hk:∀ l ∈ lg,l ∈ lg2):Step p a b ⟨upd h nx o,nx + 1,lg2⟩ b' :=
 ⟨hs.w.new hp hl hk,hs.bf.new,hs.m.imp (hk p) id⟩
theorem Step.box {p:Nat} {a:St} {b b':List Nat} {h:Nat → AO} {nx:Nat} {lg:List Nat} {o:AO} (hs:Step p a b ⟨h,nx,lg⟩ b') (hp:p < a.next):Step p a b ⟨upd h nx o,nx + 1,lg⟩ b':=hs.new hp (fun l hl => .inr hl) fun l hl => hl
theorem Step.mk1 {p:Nat} {a:St} {b b':List Nat} {h:Nat → AO} {nx:Nat} {lg:List Nat} {o:AO} (hs:Step p a b ⟨h,nx,lg⟩ b') (hp:p < a.next):Step p a b ⟨upd h nx o,nx + 1,nx :: lg⟩ b':=hs.new hp (fun l hl => by simpa using hl) fun l hl => by simp [hl]
theorem Step.relog {p:Nat} {a:St} {b b':List Nat} {h:Nat → AO} {nx:Nat} {lg lg2:List Nat} (hs:Step p a b ⟨h,nx,lg⟩ b') (hl:∀ l ∈ lg2,l ∈ lg ∨ (p ≤ l ∧ a.next ≤ l)) (hk:∀ l ∈ lg,l ∈ lg2):Step p a b ⟨h,nx,lg2⟩ b' :=
 ⟨⟨hs.w.heap,hs.w.next,hs.w.dead,fun l hm => by
  rcases hl l hm with h | ⟨h1,h2⟩
  ·exact hs.w.log l h
  ·exact .inr ⟨h1,fun h3 => by omega⟩,fun l hm => hk l (hs.w.keep l hm)⟩,hs.bf.log,hs.m.imp (hk p) id⟩
theorem Puts.go {Q:Ctx} {f:FuncId} {args:List AV} {p:Nat} {l:Toks} (h:Puts Q f args p l) {a s:St} {b0 b:List Nat} (hs:Step p a b0 s b) (hl:(puts b l).length ≤ Tera) :
  ∃ h1 n1 l1,callW Q (.fn f) args .normal s = some (.ret (.tuple []),⟨h1,n1,l1⟩,none) ∧ Step p a b0 ⟨h1,n1,l1⟩ (puts b l) ∧ (∀ q t cs z,q < s.next → q ≠ p → s.heap q = .mem t cs true z → h1 q = .mem t cs true z) ∧ s.next ≤ n1:=by
 obtain ⟨⟨h1,n1,l1⟩,c1,c2,c3,c4,_⟩:=h s b hs.bf hl
 refine ⟨h1,n1,l1,c1,⟨hs.w.trans c2,c3,?_⟩,c2.heap,c2.next⟩
 rcases c4 with c4 | c4
 ·exact .inl c4
 ·rw [c4]
  exact hs.m.imp (c2.keep p) id
theorem Puts.goL {Q:Ctx} {f:FuncId} {args:List AV} {p:Nat} {l:Toks} (h:Puts Q f args p l) {a:St} {h0:Nat → AO} {n0:Nat} {b0 b:List Nat} (hs:Step p a b0 ⟨h0,n0,[]⟩ b) (hl:(puts b l).length ≤ Tera) :
  ∃ h1 n1 l1,callW Q (.fn f) args .normal ⟨h0,n0,[]⟩ = some (.ret (.tuple []),⟨h1,n1,l1⟩,none) ∧ Step p a b0 ⟨h1,n1,l1⟩ (puts b l) ∧ (∀ q t cs z,q < n0 → q ≠ p → h0 q = .mem t cs true z → h1 q = .mem t cs true z) ∧ n0 ≤ n1 ∧
   ∀ l ∈ l1,l < n0 ∧ (h0 l).isDead = false:=by
 obtain ⟨⟨h1,n1,l1⟩,c1,c2,c3,c4,c5⟩:=h _ b hs.bf hl
 refine ⟨h1,n1,l1,c1,⟨hs.w.trans c2,c3,?_⟩,c2.heap,c2.next,fun q hq => ?_⟩
 ·rcases c4 with c4 | c4
  ·exact .inl c4
  ·rw [c4]
   exact hs.m.imp (c2.keep p) id
 ·have h1:q < n0:=by
   rcases c5 q hq with h | h
   ·cases h
   ·exact h
  refine ⟨h1,?_⟩
  rcases c2.log q hq with h | h
  ·cases h
  ·exact h.2 h1
theorem puts_pre {b:List Nat} {l l':Toks} (h:(puts b (l ++ l')).length ≤ Tera):(puts b l).length ≤ Tera:=by
 rw [puts_app] at h
 exact Nat.le_trans (puts_ge _ _) h
theorem Tm.args_app:∀ l l':List Tm,Tm.args (l ++ l') = Tm.args l ++ Tm.args l'
 | [],l' => rfl
 | x :: l,l' => by rw [List.cons_append,Tm.args,Tm.args,Tm.args_app l l',List.append_assoc]
section
variable {Q:Ctx} (hK:K Q)
include hK
theorem put1 {p:Nat} {s:List Nat} (hs:s ≠ []):Puts Q 101 [.ptr p 0,.slice .exact [.str s]] p [s]:=put101 hK (l:=[s]) (fun x hx => by rw [List.mem_singleton.1 hx]; exact hs) (by simp)
theorem put2 {p:Nat} {s s':List Nat} (hs:s ≠ []) (hs':s' ≠ []):Puts Q 101 [.ptr p 0,.slice .exact [.str s,.str s']] p [s,s']:=put101 hK (l:=[s,s']) (fun x hx => by
 rcases List.mem_cons.1 hx with rfl | hx
 ·exact hs
 ·rw [List.mem_singleton.1 hx]; exact hs') (by simp)
theorem args102 {p:Nat} {k:SK} {xs:List Tm} (hl:xs.length < Big) (hx:∀ x ∈ xs,Puts Q 175 [.ptr p 0,x.av] p x.toks):Puts Q 102 [.ptr p 0,.slice k (Tm.avs xs)] p (Tm.args xs):=by
 intro st b hb hle
 refine wb_end (N:=29) (ok102 hK) (hK.nx _ _ _ rfl) rfl hb (fun _ => rfl) rfl ?_
 have hpl:=hb.lt
 simp only [RS,RT,RZ,Zu,reduceLT,reduceLeDiff,reduceEqDiff,reduceMul,reduceAdd,reduceSub,reduceCtorEq,Zw,List.map_nil,List.nil_append,Zv,x102,F102,Tm.len]
 refine post_bind (post_for (I:=fun i T st1 => T 0 = .ptr p 0 ∧ T 6 = .slice k (Tm.avs xs) ∧ T 7 = .int .i64 (xs.length:Int) ∧ T 8 = .int .i64 (i:Int) ∧ Step p ⟨st.heap,st.next,[]⟩ b st1 (puts b (Tm.args (xs.take i))))
  (Q:=fun e T st1 => e = .exit 0 ∧ Step p ⟨st.heap,st.next,[]⟩ b st1 (puts b (Tm.args xs))) xs.length ?_ ?_ (Nat.zero_le _) ?_) ?_
 ·rintro i T ⟨h,nx,lg⟩ hi ⟨t0,t6,t7,t8,hs⟩
  obtain ⟨x,hxx⟩:∃ x,xs[i]? = some x:=⟨_,List.getElem?_eq_getElem hi⟩
  have hxm:=List.mem_of_getElem? hxx
  have hget:=Tm.get hxx
  have hi2:=wrapUp (show i < 9223372036854775807 by unfold Big at hl; omega)
  have hnx:=hs.w.next
  simp only at hnx
  have e:puts b (Tm.args (xs.take (i + 1))) = puts (puts b (Tm.args (xs.take i))) (Tm.args [x]):=by rw [List.take_add_one,hxx,Tm.args_app,puts_app]; rfl
  have hle1:(puts (puts b (Tm.args (xs.take i))) (Tm.args [x])).length ≤ Tera:=by
   rw [← e]
   refine puts_pre (l':=Tm.args (xs.drop (i + 1))) ?_
   rw [← Tm.args_app,List.take_append_drop]
   exact hle
  have hp:=hx x hxm
  have e1:(p = nx) = False:=eq_false (by omega)
  have l1:nx < nx + 1:=by omega
  have hs1:=hs.mk1 (o:=.mem 39 x.av.cells true 0) hpl
  rw [e]
  rw [Tm.args,Tm.args,List.append_nil] at hle1 ⊢
  obtain ⟨kd,n,nm,k',ys⟩:=x
  rw [Tm.av] at hget hp
  simp only [Tm.av,AV.cells] at hs1
  cases hn:(Tm.mk kd n nm k' ys).isNil with
  | true =>
   have hn':ys = []:=List.isEmpty_iff.1 (by simpa only [Tm.isNil] using hn)
   subst hn'
   simp only [hn,if_true] at hle1 ⊢
   obtain ⟨h1,n1,lg1,c1,c2,c3,c4⟩:=hp.go hs1 hle1
   simp only [Tm.avs] at c1 hget
   simp only [RS,RT,RZ,Zu,reduceLT,reduceLeDiff,reduceEqDiff,reduceMul,reduceAdd,reduceSub,reduceCtorEq,Zw,List.map_nil,List.nil_append,Zv,l102_0,t0,t6,t7,t8,hi,hget,hi2,c1,l1,List.length_nil,Int.reduceBEq]
   exact c2
  | false =>
   have hn':((ys.length:Int) == 0) = false:=by
    rw [beq_eq_false_iff_ne]
    intro h0
    have:ys = []:=List.eq_nil_of_length_eq_zero (by omega)
    subst this
    cases hn
   simp only [hn,Bool.false_eq_true,if_false] at hle1 ⊢
   rw [show ([40] :: ((Tm.mk kd n nm k' ys).toks ++ [[41]])) = ([[40]] ++ (Tm.mk kd n nm k' ys).toks) ++ [[41]] from rfl] at hle1 ⊢
   have hle2:=puts_pre hle1
   have hle3:=puts_pre hle2
   obtain ⟨h1,n1,lg1,c1,c2,c3,c4⟩:=(put1 hK (p:=p) (s:=[40]) (by decide)).go hs1 hle3
   simp only at c3 c4
   have g1:=c3 nx _ _ _ (by omega) (by omega) (upd_same ..)
   have m1:nx < n1:=by omega
   rw [puts_app] at hle2
   obtain ⟨h2,n2,lg2,d1,d2,d3,d4⟩:=hp.go c2 hle2
   simp only at d3 d4
   rw [← puts_app] at d2
   have g2:=d3 nx _ _ _ m1 (by omega) g1
   have m2:nx < n2:=by omega
   rw [puts_app] at hle1
   obtain ⟨h3,n3,lg3,f1,f2,f3,f4⟩:=(put1 hK (p:=p) (s:=[41]) (by decide)).go d2 hle1
   rw [← puts_app] at f2
   simp only [RS,RT,RZ,Zu,reduceLT,reduceLeDiff,reduceEqDiff,reduceMul,reduceAdd,reduceSub,reduceCtorEq,Zw,List.map_nil,List.nil_append,Zv,l102_0,t0,t6,t7,t8,hi,hget,hi2,c1,d1,f1,g1,g2,m1,m2,l1,Tm.len,hn']
   exact f2
 ·rintro T ⟨h,nx,lg⟩ ⟨t0,t6,t7,t8,hs⟩
  rw [List.take_length] at hs
  simp only [RS,RT,RZ,Zu,reduceLT,reduceLeDiff,reduceEqDiff,reduceMul,reduceAdd,reduceSub,reduceCtorEq,Zw,List.map_nil,List.nil_append,Zv,l102_0,t0,t6,t7,t8]
  exact hs
 ·simp only [RS,RT,RZ,Zu,reduceLT,reduceLeDiff,reduceEqDiff,reduceMul,reduceAdd,reduceSub,reduceCtorEq,Zw,List.map_nil,List.nil_append,Zv,]
  exact Step.refl hb.log
 ·rintro e T ⟨h,nx,lg⟩ ⟨rfl,hs⟩
  simp only [RS,RT,RZ,Zu,reduceLT,reduceLeDiff,reduceEqDiff,reduceMul,reduceAdd,reduceSub,reduceCtorEq,Zw,List.map_nil,List.nil_append,Zv,]
  exact ⟨hs.w,hs.bf,hs.m⟩
theorem typ103 {p:Nat} (t:Ty):t.Ok → t.nmd → Puts Q 103 [.ptr p 0,t.av] p t.toks:=by
 induction t using Ty.ind with
 | _ nm k xs ih =>
 intro hok hnm st b hb hle
 refine wb_end (N:=34) (ok103 hK) (hK.nx _ _ _ rfl) rfl hb (fun _ => rfl) rfl ?_
 have hpl:=hb.lt
 obtain ⟨_,_,hl,hoks⟩:=hok
 simp only [Ty.nmd] at hnm
 have hs0:=(Step.refl (b:=b) (a:=⟨st.heap,st.next,[]⟩) hb.log).box (o:=.mem 25 [.str nm,.slice k (Ty.avs xs)] true 0) hpl
 have l0:st.next < st.next + 1:=by omega
 rw [Ty.toks] at hle ⊢
 rcases hnm.1 with ⟨e,nok⟩ | ⟨e,nok⟩
 ·rw [if_neg (by omega)] at hle ⊢
  have hne:nm ≠ []:=by obtain ⟨⟨c,r,h,_⟩,_⟩:=nok; rw [h]; simp
  obtain ⟨h1,n1,lg1,c1,c2,c3,c4⟩:=(put1 hK (p:=p) (s:=nm) hne).go hs0 hle
  have e2:((xs.length:Int) != 2) = true:=by rw [bne_iff_ne]; omega
  simp only [RS,RT,RZ,Zu,reduceLT,reduceLeDiff,reduceEqDiff,reduceMul,reduceAdd,reduceSub,reduceCtorEq,Zw,List.map_nil,List.nil_append,Zv,x103,F103,Ty.av,Ty.len,e2,c1,l0]
  exact ⟨c2.w,c2.bf,c2.m⟩
 ·rw [if_pos e] at hle ⊢
  obtain ⟨x,y,rfl⟩:∃ x y,xs = [x,y]:=by
   match xs,e with
   | [x,y],_ => exact ⟨x,y,rfl⟩
  simp only [Ty.nmds] at hnm
  have hx:=ih x (by simp) (Ty.oks hoks x (by simp)) hnm.2.1
  have hy:=ih y (by simp) (Ty.oks hoks y (by simp)) hnm.2.2.1
  simp only [Ty.hd,Ty.hd2] at hle ⊢
  rw [show ([40] :: (x.toks ++ [45,62] :: (y.toks ++ [[41]]))) = ((([[40]] ++ x.toks) ++ [[45,62]]) ++ y.toks) ++ [[41]] by simp] at hle ⊢
  have q1:=puts_pre hle
  have q2:=puts_pre q1
  have q3:=puts_pre q2
  have q4:=puts_pre q3
  obtain ⟨h1,n1,lg1,c1,c2,c3,c4⟩:=(put1 hK (p:=p) (s:=[40]) (by decide)).go hs0 q4
  simp only at c3 c4
  have g1:=c3 st.next _ _ _ (by omega) (by omega) (upd_same ..)
  have m1:st.next < n1:=by omega
  rw [puts_app] at q3
  obtain ⟨h2,n2,lg2,d1,d2,d3,d4⟩:=hx.go c2 q3
  simp only at d3 d4
  have g2:=d3 st.next _ _ _ m1 (by omega) g1
  have m2:st.next < n2:=by omega
  rw [← puts_app] at d2
  rw [puts_app] at q2
  obtain ⟨h3,n3,lg3,f1,f2,f3,f4⟩:=(put1 hK (p:=p) (s:=[45,62]) (by decide)).go d2 q2
  simp only at f3 f4
  have g3:=f3 st.next _ _ _ m2 (by omega) g2
  have m3:st.next < n3:=by omega
  rw [← puts_app] at f2
  rw [puts_app] at q1
  obtain ⟨h4,n4,lg4,i1,i2,i3,i4⟩:=hy.go f2 q1
  simp only at i3 i4
  have g4:=i3 st.next _ _ _ m3 (by omega) g3
  have m4:st.next < n4:=by omega
  rw [← puts_app] at i2
  rw [puts_app] at hle
  obtain ⟨h5,n5,lg5,j1,j2,j3,j4⟩:=(put1 hK (p:=p) (s:=[41]) (by decide)).go i2 hle
  rw [← puts_app] at j2
  have hg0:(Ty.avs [x,y])[0]? = some x.av:=rfl
  have hg1:(Ty.avs [x,y])[1]? = some y.av:=rfl
  have hln:(Ty.avs [x,y]).length = 2:=rfl
  obtain ⟨nm1,k1,xs1⟩:=x
  obtain ⟨nm2,k2,xs2⟩:=y
  rw [Ty.av]
  generalize Ty.avs [Ty.mk nm1 k1 xs1,Ty.mk nm2 k2 xs2] = es at *
  simp only [Ty.av] at hg0 hg1 d1 i1
  simp only [RS,RT,RZ,Zu,reduceLT,reduceLeDiff,reduceEqDiff,reduceMul,reduceAdd,reduceSub,reduceCtorEq,Zw,List.map_nil,List.nil_append,Zv,x103,F103,Ty.av,hln,hg0,hg1,Int.reduceBNe,Int.reduceBEq,bne_self_eq_false,c1,d1,f1,i1,j1,g1,g2,g3,g4,m1,m2,m3,m4,l0]
  exact ⟨j2.w,j2.bf,j2.m⟩
end
end Go.Proofs.L06

namespace Go.Proofs.L06
open Go Go.AE
open Nat (reduceLT reduceLeDiff reduceEqDiff reduceMul reduceAdd reduceSub)
set_option maxHeartbeats 8000000
theorem mkd_c {n0 l:Nat} {b:List Bool} {ws:List (Nat × Nat)} {ls:List Nat}:allMade n0 b ws (l :: ls) = ((l < n0 ∨ madeBy l b ws) ∧ allMade n0 b ws ls):=(rfl)
theorem mb_t {l:Nat} {m:List Bool} {w:Nat × Nat} {ws:List (Nat × Nat)}:madeBy l (true :: m) (w :: ws) = ((w.1 ≤ l ∧ l < w.2) ∨ madeBy l m ws):=(rfl)
theorem mb_f {l:Nat} {m:List Bool} {w:Nat × Nat} {ws:List (Nat × Nat)}:madeBy l (false :: m) (w :: ws) = madeBy l m ws:=(rfl)
theorem dead_amap {es:List (AV × AV × Nat)} {c:Nat}:(AO.amap es c).isDead = false:=(rfl)
theorem dead_lmap {es:List (AV × AV)}:(AO.lmap es).isDead = false:=(rfl)
abbrev ML:=List (Int × List Nat)
def mapL (L:ML):List (AV × AV):=L.map fun x => (.int .i64 x.1,.str x.2)
def fndL (a:Int):ML → Nat → Option (Option (Nat × AV))
 | [],_ => some none
 | (e,v) :: r,i => (match some (a == e),fndL a r (i + 1) with
  | some true,some none => some (some (i,.str v))
  | some false,some x => some x
  | _,_ => none)
theorem clean_mapL (L:ML):cleanE (mapL L) = true:=by
 unfold cleanE mapL
 rw [List.all_eq_true]
 intro x hx
 rw [List.mem_map] at hx
 obtain ⟨y,_,rfl⟩:=hx
 rfl
section
variable {Q:Ctx} (hK:K Q)
include hK
theorem cell3 {a b:Int}:keyEq Q 3 (.int .i64 a) (.int .i64 b) = some (a == b):=by
 simp only [keyEq,cellEq,tw3 hK,T3,if_true]
theorem findL (a:Int):∀ (L:ML) (i:Nat),findA Q 3 (.int .i64 a) (zer (mapL L)) i = fndL a L i
 | [],i => rfl
 | (e,v) :: r,i => by
  have ih:=findL a r (i + 1)
  rw [show zer (mapL ((e,v) :: r)) = (.int .i64 e,.str v,0) :: zer (mapL r) from rfl,findA,cell3 hK,ih,fndL]
  generalize (a == e) = c
  generalize fndL a r (i + 1) = d
  rcases d with _ | _ | _ <;> cases c <;> rfl
theorem map_ins0 {h:Nat → AO} {nx m:Nat} {lg:List Nat} {a:Int} {s:List Nat} (hm:h m = .amap [] 0):mapUpd Q ⟨h,nx,lg⟩ 151 (.map m) (.int .i64 a) (.str s) true = some ⟨upd h m (.lmap (mapL [(a,s)])),nx,m :: lg⟩:=by
 simp only [mapUpd,tw151 hK,T151,cell3 hK,Option.isSome_some,if_true,hm,findA]
 rfl
theorem map_ins {L:ML} {h:Nat → AO} {nx m:Nat} {lg:List Nat} {a:Int} {s:List Nat} (hm:h m = .lmap (mapL L)) (hf:fndL a L 0 = some none):mapUpd Q ⟨h,nx,lg⟩ 151 (.map m) (.int .i64 a) (.str s) true = some ⟨upd h m (.lmap (mapL (L ++ [(a,s)]))),nx,m :: lg⟩:=by
 have e:mapL L ++ [(.int .i64 a,.str s)] = mapL (L ++ [(a,s)]):=by simp [mapL]
 simp only [mapUpd,tw151 hK,T151,cell3 hK,Option.isSome_some,if_true,hm,findL hK,hf,e,clean_mapL,Bool.not_true,Bool.and_false,Bool.false_eq_true,if_false]
 rfl
theorem map_get {L:ML} {h:Nat → AO} {nx m i:Nat} {lg:List Nat} {a:Int} {s:List Nat} (hm:h m = .lmap (mapL L)) (hf:fndL a L 0 = some (some (i,.str s))):lookupA Q ⟨h,nx,lg⟩ 151 (.map m) (.int .i64 a) false = some (.str s):=by
 simp only [lookupA,tw151 hK,T151,tw9 hK,T9,cell3 hK,Option.isSome_some,if_true,hm,findL hK,hf,Bool.false_eq_true,if_false]
end
theorem str_add {x y:List Nat} (h:x.length + y.length ≤ 4294967296):strOp .add x y = some (.str (x ++ y)):=by rw [strOp,if_pos h]
theorem live_all {n0 n:Nat} {h:Nat → AO}:∀ {ls:List Nat},(∀ l ∈ ls,l < n ∧ (h l).isDead = false) → allLive n0 n h ls
 | [],_ => trivial
 | l :: ls,hl => ⟨hl l (by simp),live_all fun x hx => hl x (by simp [hx])⟩
theorem made_all {n0:Nat} {b:List Bool} {ws:List (Nat × Nat)}:∀ {ls:List Nat},(∀ l ∈ ls,l < n0 ∨ madeBy l b ws) → allMade n0 b ws ls
 | [],_ => trivial
 | l :: ls,hl => ⟨hl l (by simp),made_all fun x hx => hl x (by simp [hx])⟩
theorem crit_l {n0:Nat} {rds:List (Option (List Nat))} {ws:List (Nat × Nat)} {c:List (Option (Option (List Bool)))} {m:List Bool} {cs:List (Option CrI)} {a:Option (List Nat)} {b:List Nat} {w:Nat × Nat} {xs:List YI} (h:allMiss n0 ws b c rds) (h2:allMade n0 m ws b):critOk n0 rds ws (some (c,m) :: cs) ((a,b,w) :: xs) = critOk n0 rds ws cs xs:=by
 simp only [critOk,h,h2,and_self,or_true,true_and]
theorem made_map {n:Nat} {ls:List Nat} (h:∀ l ∈ ls,l < n + 2) (m:List Bool) (ws:List (Nat × Nat)) (w:Nat × Nat):allMade (n + 1) (true :: true :: m) (w :: (n + 1,n + 2) :: ws) ls :=
 made_all fun l hl => by
  have:=h l hl
  by_cases e:l < n + 1
  ·exact .inl e
  ·exact .inr (.inr (.inl ⟨by simp only; omega,by simp only; omega⟩))
theorem relog1 {p n:Nat} {h:Nat → AO} {lg:List Nat} (hp:p < n):∀ l ∈ lg ++ [n + 1,n + 1,n + 1],l ∈ lg ∨ (p ≤ l ∧ (⟨h,n,[]⟩:St).next ≤ l):=fun l hl => by
 rcases List.mem_append.1 hl with h | h
 ·exact .inl h
 ·simp at h; simp only; exact .inr ⟨by omega,by omega⟩
theorem ofI {n:Int}:ofV (.int .i64 n) = .int .i64 n:=(rfl)
theorem ofB:ofV (.string ⟨#[66]⟩) = .str [66]:=(rfl)
theorem ofP:ofV (.string ⟨#[80]⟩) = .str [80]:=(rfl)
theorem ofVv:ofV (.string ⟨#[86]⟩) = .str [86]:=(rfl)
theorem name_nil {nm:List Nat} (h:NameOk nm):nm ≠ []:=by obtain ⟨⟨c,r,h,_⟩,_⟩:=h; rw [h]; simp
section
variable {Q:Ctx} (hK:K Q) (hI:∀ n:Int,0 ≤ n → n ≤ 100000 → Ret Q 241 [.int .i64 n] (.str (dig n.toNat)))
include hK hI
theorem term175 {p:Nat} (t:Tm):t.Ok → t.shp = true → Puts Q 175 [.ptr p 0,t.av] p t.toks:=by
 induction t using Tm.ind with
 | _ kd n nm k xs ih =>
 intro hok hsh st b hb hle
 refine wb_end (N:=40) (ok175 hK) (hK.nx _ _ _ rfl) rfl hb (fun _ => rfl) rfl ?_
 have hpl:=hb.lt
 obtain ⟨_,_,hnm,_,hl,hoks⟩:=hok
 simp only [Tm.shp,Bool.and_eq_true] at hsh
 have hs0:=(Step.refl (b:=b) (a:=⟨st.heap,st.next,[]⟩) hb.log).box (o:=.mem 39 [.int .i64 kd,.int .i64 n,.str nm,.slice k (Tm.avs xs)] true 0) hpl
 have l0:st.next < st.next + 1:=by omega
 have hargs:=args102 hK (p:=p) (k:=k) hl (fun x hx => ih x hx (Tm.oks hoks x hx) (List.all_eq_true.1 (by rw [← Tm.shps_all]; exact hsh.2) x hx))
 rw [Tm.toks] at hle ⊢
 rcases node_cases hsh.1 with ⟨rfl,rfl,nok⟩ | ⟨e,hn,rfl⟩ | ⟨rfl,rfl,rfl,e⟩
 ·rw [if_neg (by decide)] at hle ⊢
  rw [show htok 1 0 nm = nm from rfl] at hle ⊢
  rw [show (nm :: Tm.args xs) = [nm] ++ Tm.args xs from rfl] at hle ⊢
  have q1:=puts_pre hle
  obtain ⟨h1,n1,lg1,c1,c2,c3,c4⟩:=(put1 hK (p:=p) (s:=nm) (name_nil nok)).go hs0 q1
  simp only at c3 c4
  have g1:=c3 st.next _ _ _ (by omega) (by omega) (upd_same ..)
  have m1:st.next < n1:=by omega
  rw [puts_app] at hle
  obtain ⟨h2,n2,lg2,d1,d2,d3,d4⟩:=hargs.go c2 hle
  rw [← puts_app] at d2
  simp only [RS,RT,RZ,Zu,reduceLT,reduceLeDiff,reduceEqDiff,reduceMul,reduceAdd,reduceSub,reduceCtorEq,Zw,List.map_nil,List.nil_append,Zv,x175,kd175_0,F175,Tm.av,Int.reduceBEq,c1,d1,g1,m1,l0]
  exact ⟨d2.w,d2.bf,d2.m⟩
 ·have k5:kd ≠ 5:=by omega
  rw [if_neg k5] at hle ⊢
  have b5:(kd == 5) = false:=by rw [beq_eq_false_iff_ne]; omega
  have b1:(kd == 1) = false:=by rw [beq_eq_false_iff_ne]; omega
  have hi:=hI n hn.1 hn.2
  rcases e with rfl | rfl | rfl
  ·have i0:=fun {h:Nat → AO} {nx m:Nat} {lg:List Nat} (hm:h m = .amap [] 0) => map_ins0 hK (nx:=nx) (lg:=lg) (a:=2) (s:=[66]) hm
   have i1:=fun {h:Nat → AO} {nx m:Nat} {lg:List Nat} (hm:h m = .lmap (mapL [(2,[66])])) => map_ins hK (nx:=nx) (lg:=lg) (a:=3) (s:=[80]) hm rfl
   have i2:=fun {h:Nat → AO} {nx m:Nat} {lg:List Nat} (hm:h m = .lmap (mapL ([(2,[66])] ++ [(3,[80])]))) => map_ins hK (nx:=nx) (lg:=lg) (a:=4) (s:=[86]) hm rfl
   have i3:=fun {h:Nat → AO} {nx m:Nat} {lg:List Nat} (hm:h m = .lmap (mapL (([(2,[66])] ++ [(3,[80])]) ++ [(4,[86])]))) => map_get hK (nx:=nx) (lg:=lg) (a:=2) (i:=0) (s:=[66]) hm rfl
   rw [show (htok 2 n [] :: Tm.args xs) = [66 :: dig n.toNat] ++ Tm.args xs from rfl] at hle ⊢
   have q1:=puts_pre hle
   obtain ⟨h1,n1,lg1,c1,c2,c3,c4,c5⟩:=(put1 hK (p:=p) (s:=66 :: dig n.toNat) (by simp)).goL (hs0.box (o:=.lmap (mapL [(2,[66]),(3,[80]),(4,[86])])) hpl) q1
   have g1:=c3 st.next _ _ _ (by omega) (by omega) (by rw [upd_ne _ _ (by omega),upd_same])
   have m1:st.next < n1:=by omega
   rw [puts_app] at hle
   obtain ⟨h2,n2,lg2,d1,d2,d3,d4⟩:=hargs.go (Step.relog c2 (lg2:=lg1 ++ [st.next + 1,st.next + 1,st.next + 1]) (relog1 hpl) (fun l hl => by simp [hl])) hle
   rw [← puts_app] at d2
   have sa:=str_add (x:=[66]) (y:=dig n.toNat) (by have:=dig_len 5 n.toNat (by have:n.toNat ≤ 100000:=by omega
                                                                               omega); simp; omega)
   have cl:=fun n0 => live_all (n0:=n0) c5
   have cm:=made_map (n:=st.next) (ls:=lg1) fun l hl => (c5 l hl).1
   simp only [RS,RT,RZ,Zu,reduceLT,reduceLeDiff,reduceEqDiff,reduceMul,reduceAdd,reduceSub,reduceCtorEq,Zw,List.map_nil,List.nil_append,Zv,x175,kd175_0,F175,Tm.av,Int.reduceBEq,hi,l0,ofI,ofB,ofP,ofVv,i0,i1,i2,i3,upd_same,dead_amap,dead_lmap,mkd_c,mb_t,mb_f,true_or,or_true,sa,c1,cl,cm,crit_l,g1,m1,d1]
   exact ⟨d2.w,d2.bf,d2.m⟩
  ·have i0:=fun {h:Nat → AO} {nx m:Nat} {lg:List Nat} (hm:h m = .amap [] 0) => map_ins0 hK (nx:=nx) (lg:=lg) (a:=2) (s:=[66]) hm
   have i1:=fun {h:Nat → AO} {nx m:Nat} {lg:List Nat} (hm:h m = .lmap (mapL [(2,[66])])) => map_ins hK (nx:=nx) (lg:=lg) (a:=3) (s:=[80]) hm rfl
   have i2:=fun {h:Nat → AO} {nx m:Nat} {lg:List Nat} (hm:h m = .lmap (mapL ([(2,[66])] ++ [(3,[80])]))) => map_ins hK (nx:=nx) (lg:=lg) (a:=4) (s:=[86]) hm rfl
   have i3:=fun {h:Nat → AO} {nx m:Nat} {lg:List Nat} (hm:h m = .lmap (mapL (([(2,[66])] ++ [(3,[80])]) ++ [(4,[86])]))) => map_get hK (nx:=nx) (lg:=lg) (a:=3) (i:=1) (s:=[80]) hm rfl
   rw [show (htok 3 n [] :: Tm.args xs) = [80 :: dig n.toNat] ++ Tm.args xs from rfl] at hle ⊢
   have q1:=puts_pre hle
   obtain ⟨h1,n1,lg1,c1,c2,c3,c4,c5⟩:=(put1 hK (p:=p) (s:=80 :: dig n.toNat) (by simp)).goL (hs0.box (o:=.lmap (mapL [(2,[66]),(3,[80]),(4,[86])])) hpl) q1
   have g1:=c3 st.next _ _ _ (by omega) (by omega) (by rw [upd_ne _ _ (by omega),upd_same])
   have m1:st.next < n1:=by omega
   rw [puts_app] at hle
   obtain ⟨h2,n2,lg2,d1,d2,d3,d4⟩:=hargs.go (Step.relog c2 (lg2:=lg1 ++ [st.next + 1,st.next + 1,st.next + 1]) (relog1 hpl) (fun l hl => by simp [hl])) hle
   rw [← puts_app] at d2
   have sa:=str_add (x:=[80]) (y:=dig n.toNat) (by have:=dig_len 5 n.toNat (by have:n.toNat ≤ 100000:=by omega
                                                                               omega); simp; omega)
   have cl:=fun n0 => live_all (n0:=n0) c5
   have cm:=made_map (n:=st.next) (ls:=lg1) fun l hl => (c5 l hl).1
   simp only [RS,RT,RZ,Zu,reduceLT,reduceLeDiff,reduceEqDiff,reduceMul,reduceAdd,reduceSub,reduceCtorEq,Zw,List.map_nil,List.nil_append,Zv,x175,kd175_0,F175,Tm.av,Int.reduceBEq,hi,l0,ofI,ofB,ofP,ofVv,i0,i1,i2,i3,upd_same,dead_amap,dead_lmap,mkd_c,mb_t,mb_f,true_or,or_true,sa,c1,cl,cm,crit_l,g1,m1,d1]
   exact ⟨d2.w,d2.bf,d2.m⟩
  ·have i0:=fun {h:Nat → AO} {nx m:Nat} {lg:List Nat} (hm:h m = .amap [] 0) => map_ins0 hK (nx:=nx) (lg:=lg) (a:=2) (s:=[66]) hm
   have i1:=fun {h:Nat → AO} {nx m:Nat} {lg:List Nat} (hm:h m = .lmap (mapL [(2,[66])])) => map_ins hK (nx:=nx) (lg:=lg) (a:=3) (s:=[80]) hm rfl
   have i2:=fun {h:Nat → AO} {nx m:Nat} {lg:List Nat} (hm:h m = .lmap (mapL ([(2,[66])] ++ [(3,[80])]))) => map_ins hK (nx:=nx) (lg:=lg) (a:=4) (s:=[86]) hm rfl
   have i3:=fun {h:Nat → AO} {nx m:Nat} {lg:List Nat} (hm:h m = .lmap (mapL (([(2,[66])] ++ [(3,[80])]) ++ [(4,[86])]))) => map_get hK (nx:=nx) (lg:=lg) (a:=4) (i:=2) (s:=[86]) hm rfl
   rw [show (htok 4 n [] :: Tm.args xs) = [86 :: dig n.toNat] ++ Tm.args xs from rfl] at hle ⊢
   have q1:=puts_pre hle
   obtain ⟨h1,n1,lg1,c1,c2,c3,c4,c5⟩:=(put1 hK (p:=p) (s:=86 :: dig n.toNat) (by simp)).goL (hs0.box (o:=.lmap (mapL [(2,[66]),(3,[80]),(4,[86])])) hpl) q1
   have g1:=c3 st.next _ _ _ (by omega) (by omega) (by rw [upd_ne _ _ (by omega),upd_same])
   have m1:st.next < n1:=by omega
   rw [puts_app] at hle
   obtain ⟨h2,n2,lg2,d1,d2,d3,d4⟩:=hargs.go (Step.relog c2 (lg2:=lg1 ++ [st.next + 1,st.next + 1,st.next + 1]) (relog1 hpl) (fun l hl => by simp [hl])) hle
   rw [← puts_app] at d2
   have sa:=str_add (x:=[86]) (y:=dig n.toNat) (by have:=dig_len 5 n.toNat (by have:n.toNat ≤ 100000:=by omega
                                                                               omega); simp; omega)
   have cl:=fun n0 => live_all (n0:=n0) c5
   have cm:=made_map (n:=st.next) (ls:=lg1) fun l hl => (c5 l hl).1
   simp only [RS,RT,RZ,Zu,reduceLT,reduceLeDiff,reduceEqDiff,reduceMul,reduceAdd,reduceSub,reduceCtorEq,Zw,List.map_nil,List.nil_append,Zv,x175,kd175_0,F175,Tm.av,Int.reduceBEq,hi,l0,ofI,ofB,ofP,ofVv,i0,i1,i2,i3,upd_same,dead_amap,dead_lmap,mkd_c,mb_t,mb_f,true_or,or_true,sa,c1,cl,cm,crit_l,g1,m1,d1]
   exact ⟨d2.w,d2.bf,d2.m⟩
 ·rw [if_pos rfl] at hle ⊢
  obtain ⟨x,rfl⟩:∃ x,xs = [x]:=by
   match xs,e with
   | [x],_ => exact ⟨x,rfl⟩
  simp only [Tm.shps,Bool.and_true] at hsh
  have hx:=ih x (by simp) (Tm.oks hoks x (by simp)) hsh.2
  rw [Tm.hd] at hle ⊢
  rw [show ([92] :: [46] :: x.toks) = [[92],[46]] ++ x.toks from rfl] at hle ⊢
  have q1:=puts_pre hle
  obtain ⟨h1,n1,lg1,c1,c2,c3,c4⟩:=(put2 hK (p:=p) (s:=[92]) (s':=[46]) (by decide) (by decide)).go hs0 q1
  simp only at c3 c4
  have g1:=c3 st.next _ _ _ (by omega) (by omega) (upd_same ..)
  have m1:st.next < n1:=by omega
  rw [puts_app] at hle
  obtain ⟨h2,n2,lg2,d1,d2,d3,d4⟩:=hx.go c2 hle
  rw [← puts_app] at d2
  have hg0:(Tm.avs [x])[0]? = some x.av:=rfl
  obtain ⟨kd',n',nm',k',xs'⟩:=x
  rw [Tm.av]
  generalize Tm.avs [Tm.mk kd' n' nm' k' xs'] = es at *
  simp only [Tm.av] at hg0 d1
  simp only [RS,RT,RZ,Zu,reduceLT,reduceLeDiff,reduceEqDiff,reduceMul,reduceAdd,reduceSub,reduceCtorEq,Zw,List.map_nil,List.nil_append,Zv,x175,kd175_0,F175,Int.reduceBEq,hg0,c1,d1,g1,m1,l0]
  exact ⟨d2.w,d2.bf,d2.m⟩
end
end Go.Proofs.L06

namespace Go.Proofs.L06
open Go Go.AE
open Nat (reduceLT reduceLeDiff reduceEqDiff reduceMul reduceAdd reduceSub)
set_option maxHeartbeats 8000000
theorem of1:ofV (.string ⟨#[97,108,108]⟩) = .str [97,108,108]:=(rfl)
theorem of2:ofV (.string ⟨#[101,120]⟩) = .str [101,120]:=(rfl)
theorem of4:ofV (.string ⟨#[42]⟩) = .str [42]:=(rfl)
theorem of5:ofV (.string ⟨#[38]⟩) = .str [38]:=(rfl)
theorem of6:ofV (.string ⟨#[43]⟩) = .str [43]:=(rfl)
theorem of7:ofV (.string ⟨#[45,111]⟩) = .str [45,111]:=(rfl)
theorem of8:ofV (.string ⟨#[61,62]⟩) = .str [61,62]:=(rfl)
theorem relogN {p n k:Nat} {s:Nat} {lg:List Nat} (hp:p ≤ n) (hs:s ≤ n):∀ l ∈ List.replicate k n ++ lg,l ∈ lg ∨ (p ≤ l ∧ s ≤ l):=fun l hl => by
 rcases List.mem_append.1 hl with h | h
 ·have:=List.eq_of_mem_replicate h; exact .inr ⟨by omega,by omega⟩
 ·exact .inl h
section
variable {Q:Ctx} (hK:K Q) (hI:∀ n:Int,0 ≤ n → n ≤ 100000 → Ret Q 241 [.int .i64 n] (.str (dig n.toNat)))
include hK hI
theorem form46 {p:Nat} (f:Fo):f.Ok → f.Tx → Puts Q 46 [.ptr p 0,f.av] p f.toks:=by
 induction f using Fo.ind with
 | _ kd nm ka xs ty kl ls ih =>
 intro hok htx st b hb hle
 refine wb_end (N:=102) (ok46 hK) (hK.nx _ _ _ rfl) rfl hb (fun _ => rfl) rfl ?_
 have hpl:=hb.lt
 obtain ⟨_,hnm,_,hl,hoks,hty,_,hl2,hoks2⟩:=hok
 simp only [Fo.Tx] at htx
 have hs0:=(Step.refl (b:=b) (a:=⟨st.heap,st.next,[]⟩) hb.log).box (o:=.mem 28 [.int .i64 kd,.str nm,.slice ka (Tm.avs xs),.str ty.nm,.slice ty.k (Ty.avs ty.xs),.slice kl (Fo.avs ls)] true 0) hpl
 have l0:st.next < st.next + 1:=by omega
 have pc:=parts_cases htx.1
 rw [toks_eq] at hle ⊢
 rcases pc with ⟨rfl | rfl | rfl,hp⟩ | ⟨e,hp⟩ | ⟨rfl | rfl | rfl | rfl,hp⟩
 ·have hargs:=args102 hK (p:=p) (k:=ka) hl (fun x hx => term175 hK hI x (Tm.oks hoks x hx) (List.all_eq_true.1 (by rw [← Tm.shps_all]; exact (htx.2.1 rfl).2) x hx))
  rw [show (ftok 1 nm :: frest 1 xs ty ls) = ([nm]) ++ Tm.args xs from rfl] at hle ⊢
  have q1:=puts_pre hle
  obtain ⟨h1,n1,lg1,c1,c1s,c1k,c1n⟩:=(put1 hK (p:=p) (s:=nm) (name_nil (htx.2.1 rfl).1)).go hs0 q1
  simp only at c1k c1n
  have g1:=c1k st.next _ _ _ (by omega) (by omega) (upd_same ..)
  have m1:st.next < n1:=by omega
  rw [puts_app] at hle
  obtain ⟨h2,n2,lg2,c2,c2s,c2k,c2n⟩:=(hargs).go c1s hle
  rw [← puts_app] at c2s
  simp only at c2k c2n
  have g2:=c2k st.next _ _ _ (by omega) (by omega) g1
  have m2:st.next < n2:=by omega
  rw [Fo.av]
  simp only [RS,RT,RZ,Zu,reduceLT,reduceLeDiff,reduceEqDiff,reduceMul,reduceAdd,reduceSub,reduceCtorEq,Zw,List.map_nil,List.nil_append,Zv,x46,F46,Int.reduceBEq,c1,c2,g1,g2,m1,m2,l0]
  exact ⟨c2s.w,c2s.bf,c2s.m⟩
 ·rw [show (ftok 2 nm :: frest 2 xs ty ls) = [[111,110,101]] from rfl] at hle ⊢
  obtain ⟨h1,n1,lg1,c1,c1s,c1k,c1n⟩:=(put1 hK (p:=p) (s:=[111,110,101]) (by decide)).go hs0 hle
  simp only at c1k c1n
  have g1:=c1k st.next _ _ _ (by omega) (by omega) (upd_same ..)
  have m1:st.next < n1:=by omega
  rw [Fo.av]
  simp only [RS,RT,RZ,Zu,reduceLT,reduceLeDiff,reduceEqDiff,reduceMul,reduceAdd,reduceSub,reduceCtorEq,Zw,List.map_nil,List.nil_append,Zv,x46,F46,Int.reduceBEq,c1,g1,m1,l0]
  exact ⟨c1s.w,c1s.bf,c1s.m⟩
 ·rw [show (ftok 3 nm :: frest 3 xs ty ls) = [[116,111,112]] from rfl] at hle ⊢
  obtain ⟨h1,n1,lg1,c1,c1s,c1k,c1n⟩:=(put1 hK (p:=p) (s:=[116,111,112]) (by decide)).go hs0 hle
  simp only at c1k c1n
  have g1:=c1k st.next _ _ _ (by omega) (by omega) (upd_same ..)
  have m1:st.next < n1:=by omega
  rw [Fo.av]
  simp only [RS,RT,RZ,Zu,reduceLT,reduceLeDiff,reduceEqDiff,reduceMul,reduceAdd,reduceSub,reduceCtorEq,Zw,List.map_nil,List.nil_append,Zv,x46,F46,Int.reduceBEq,c1,g1,m1,l0]
  exact ⟨c1s.w,c1s.bf,c1s.m⟩
 ·obtain ⟨x,y,rfl⟩:∃ x y,ls = [x,y]:=by
   match ls,hp with
   | [x,y],_ => exact ⟨x,y,rfl⟩
  simp only [Fo.Txs] at htx
  have hx:=ih x (by simp) (Fo.oks hoks2 x (by simp)) htx.2.2.2.2.1
  have hy:=ih y (by simp) (Fo.oks hoks2 y (by simp)) htx.2.2.2.2.2.1
  have i0:=fun {h:Nat → AO} {nx m:Nat} {lg:List Nat} (hm:h m = .amap [] 0) => map_ins0 hK (nx:=nx) (lg:=lg) (a:=4) (s:=[42]) hm
  have i1:=fun {h:Nat → AO} {nx m:Nat} {lg:List Nat} (hm:h m = .lmap (mapL [(4,[42])])) => map_ins hK (nx:=nx) (lg:=lg) (a:=5) (s:=[38]) hm rfl
  simp only [List.cons_append,List.nil_append] at i1
  have i2:=fun {h:Nat → AO} {nx m:Nat} {lg:List Nat} (hm:h m = .lmap (mapL [(4,[42]),(5,[38])])) => map_ins hK (nx:=nx) (lg:=lg) (a:=6) (s:=[43]) hm rfl
  simp only [List.cons_append,List.nil_append] at i2
  have i3:=fun {h:Nat → AO} {nx m:Nat} {lg:List Nat} (hm:h m = .lmap (mapL [(4,[42]),(5,[38]),(6,[43])])) => map_ins hK (nx:=nx) (lg:=lg) (a:=7) (s:=[45,111]) hm rfl
  simp only [List.cons_append,List.nil_append] at i3
  have i4:=fun {h:Nat → AO} {nx m:Nat} {lg:List Nat} (hm:h m = .lmap (mapL [(4,[42]),(5,[38]),(6,[43]),(7,[45,111])])) => map_ins hK (nx:=nx) (lg:=lg) (a:=8) (s:=[61,62]) hm rfl
  simp only [List.cons_append,List.nil_append] at i4
  have hg0:(Fo.avs [x,y])[0]? = some x.av:=rfl
  have hg1:(Fo.avs [x,y])[1]? = some y.av:=rfl
  rw [show ftok kd nm = [40] by rcases e with rfl | rfl | rfl | rfl | rfl <;> rfl,frest_two e] at hle ⊢
  simp only [Fo.hd,Fo.hd2] at hle ⊢
  rcases e with rfl | rfl | rfl | rfl | rfl
  ·rw [show ([40] :: (x.toks ++ opn 4 :: (y.toks ++ [[41]]))) = (((([[40]]) ++ x.toks) ++ [[42]]) ++ y.toks) ++ [[41]] by simp [opn]] at hle ⊢
   have q1:=puts_pre hle
   have q2:=puts_pre q1
   have q3:=puts_pre q2
   have q4:=puts_pre q3
   obtain ⟨h1,n1,lg1,c1,c1s,c1k,c1n⟩:=(put1 hK (p:=p) (s:=[40]) (by decide)).go hs0 q4
   simp only at c1k c1n
   have g1:=c1k st.next _ _ _ (by omega) (by omega) (upd_same ..)
   have m1:st.next < n1:=by omega
   rw [puts_app] at q3
   obtain ⟨h2,n2,lg2,c2,c2s,c2k,c2n⟩:=(hx).go c1s q3
   rw [← puts_app] at c2s
   simp only at c2k c2n
   have g2:=c2k st.next _ _ _ (by omega) (by omega) g1
   have m2:st.next < n2:=by omega
   rw [puts_app] at q2
   obtain ⟨h3,n3,lg3,c3,c3s,c3k,c3n⟩:=(put1 hK (p:=p) (s:=[42]) (by decide)).go (Step.relog ((c2s).box (o:=.lmap (mapL [(4,[42]),(5,[38]),(6,[43]),(7,[45,111]),(8,[61,62])])) hpl) (lg2:=n2 :: n2 :: n2 :: n2 :: n2 :: lg2) (fun l hl => relogN (k:=5) (by omega) (by show st.next ≤ n2; omega) l hl) (fun l hl => by simp [hl])) q2
   rw [← puts_app] at c3s
   simp only at c3k c3n
   have g3:=c3k st.next _ _ _ (by omega) (by omega) (by rw [upd_ne _ _ (by omega)]; exact g2)
   have m3:st.next < n3:=by omega
   rw [puts_app] at q1
   obtain ⟨h4,n4,lg4,c4,c4s,c4k,c4n⟩:=(hy).go c3s q1
   rw [← puts_app] at c4s
   simp only at c4k c4n
   have g4:=c4k st.next _ _ _ (by omega) (by omega) g3
   have m4:st.next < n4:=by omega
   rw [puts_app] at hle
   obtain ⟨h5,n5,lg5,c5,c5s,c5k,c5n⟩:=(put1 hK (p:=p) (s:=[41]) (by decide)).go c4s hle
   rw [← puts_app] at c5s
   simp only at c5k c5n
   have g5:=c5k st.next _ _ _ (by omega) (by omega) g4
   have m5:st.next < n5:=by omega
   obtain ⟨kd1,nm1,ka1,xs1,ty1,kl1,ls1⟩:=x
   obtain ⟨kd2,nm2,ka2,xs2,ty2,kl2,ls2⟩:=y
   rw [Fo.av]
   generalize Fo.avs [Fo.mk kd1 nm1 ka1 xs1 ty1 kl1 ls1,Fo.mk kd2 nm2 ka2 xs2 ty2 kl2 ls2] = es at *
   simp only [Fo.av] at hg0 hg1 c2 c4
   have ig:=fun {h:Nat → AO} {nx m:Nat} {lg:List Nat} (hm:h m = .lmap (mapL [(4,[42]),(5,[38]),(6,[43]),(7,[45,111]),(8,[61,62])])) => map_get hK (nx:=nx) (lg:=lg) (a:=4) (i:=0) (s:=[42]) hm rfl
   simp only [RS,RT,RZ,Zu,reduceLT,reduceLeDiff,reduceEqDiff,reduceMul,reduceAdd,reduceSub,reduceCtorEq,Zw,List.map_nil,List.nil_append,Zv,x46,F46,Int.reduceBEq,c1,c2,c3,c4,c5,g1,g2,g3,g4,g5,m1,m2,m3,m4,m5,l0,hg0,hg1,(show (st.next = n2) = False from eq_false (by omega)),(show st.next < n2 + 1 by omega),ofI,of4,of5,of6,of7,of8,upd_same,i0,i1,i2,i3,i4,ig]
   exact ⟨c5s.w,c5s.bf,c5s.m⟩
  ·rw [show ([40] :: (x.toks ++ opn 5 :: (y.toks ++ [[41]]))) = (((([[40]]) ++ x.toks) ++ [[38]]) ++ y.toks) ++ [[41]] by simp [opn]] at hle ⊢
   have q1:=puts_pre hle
   have q2:=puts_pre q1
   have q3:=puts_pre q2
   have q4:=puts_pre q3
   obtain ⟨h1,n1,lg1,c1,c1s,c1k,c1n⟩:=(put1 hK (p:=p) (s:=[40]) (by decide)).go hs0 q4
   simp only at c1k c1n
   have g1:=c1k st.next _ _ _ (by omega) (by omega) (upd_same ..)
   have m1:st.next < n1:=by omega
   rw [puts_app] at q3
   obtain ⟨h2,n2,lg2,c2,c2s,c2k,c2n⟩:=(hx).go c1s q3
   rw [← puts_app] at c2s
   simp only at c2k c2n
   have g2:=c2k st.next _ _ _ (by omega) (by omega) g1
   have m2:st.next < n2:=by omega
   rw [puts_app] at q2
   obtain ⟨h3,n3,lg3,c3,c3s,c3k,c3n⟩:=(put1 hK (p:=p) (s:=[38]) (by decide)).go (Step.relog ((c2s).box (o:=.lmap (mapL [(4,[42]),(5,[38]),(6,[43]),(7,[45,111]),(8,[61,62])])) hpl) (lg2:=n2 :: n2 :: n2 :: n2 :: n2 :: lg2) (fun l hl => relogN (k:=5) (by omega) (by show st.next ≤ n2; omega) l hl) (fun l hl => by simp [hl])) q2
   rw [← puts_app] at c3s
   simp only at c3k c3n
   have g3:=c3k st.next _ _ _ (by omega) (by omega) (by rw [upd_ne _ _ (by omega)]; exact g2)
   have m3:st.next < n3:=by omega
   rw [puts_app] at q1
   obtain ⟨h4,n4,lg4,c4,c4s,c4k,c4n⟩:=(hy).go c3s q1
   rw [← puts_app] at c4s
   simp only at c4k c4n
   have g4:=c4k st.next _ _ _ (by omega) (by omega) g3
   have m4:st.next < n4:=by omega
   rw [puts_app] at hle
   obtain ⟨h5,n5,lg5,c5,c5s,c5k,c5n⟩:=(put1 hK (p:=p) (s:=[41]) (by decide)).go c4s hle
   rw [← puts_app] at c5s
   simp only at c5k c5n
   have g5:=c5k st.next _ _ _ (by omega) (by omega) g4
   have m5:st.next < n5:=by omega
   obtain ⟨kd1,nm1,ka1,xs1,ty1,kl1,ls1⟩:=x
   obtain ⟨kd2,nm2,ka2,xs2,ty2,kl2,ls2⟩:=y
   rw [Fo.av]
   generalize Fo.avs [Fo.mk kd1 nm1 ka1 xs1 ty1 kl1 ls1,Fo.mk kd2 nm2 ka2 xs2 ty2 kl2 ls2] = es at *
   simp only [Fo.av] at hg0 hg1 c2 c4
   have ig:=fun {h:Nat → AO} {nx m:Nat} {lg:List Nat} (hm:h m = .lmap (mapL [(4,[42]),(5,[38]),(6,[43]),(7,[45,111]),(8,[61,62])])) => map_get hK (nx:=nx) (lg:=lg) (a:=5) (i:=1) (s:=[38]) hm rfl
   simp only [RS,RT,RZ,Zu,reduceLT,reduceLeDiff,reduceEqDiff,reduceMul,reduceAdd,reduceSub,reduceCtorEq,Zw,List.map_nil,List.nil_append,Zv,x46,F46,Int.reduceBEq,c1,c2,c3,c4,c5,g1,g2,g3,g4,g5,m1,m2,m3,m4,m5,l0,hg0,hg1,(show (st.next = n2) = False from eq_false (by omega)),(show st.next < n2 + 1 by omega),ofI,of4,of5,of6,of7,of8,upd_same,i0,i1,i2,i3,i4,ig]
   exact ⟨c5s.w,c5s.bf,c5s.m⟩
  ·rw [show ([40] :: (x.toks ++ opn 6 :: (y.toks ++ [[41]]))) = (((([[40]]) ++ x.toks) ++ [[43]]) ++ y.toks) ++ [[41]] by simp [opn]] at hle ⊢
   have q1:=puts_pre hle
   have q2:=puts_pre q1
   have q3:=puts_pre q2
   have q4:=puts_pre q3
   obtain ⟨h1,n1,lg1,c1,c1s,c1k,c1n⟩:=(put1 hK (p:=p) (s:=[40]) (by decide)).go hs0 q4
   simp only at c1k c1n
   have g1:=c1k st.next _ _ _ (by omega) (by omega) (upd_same ..)
   have m1:st.next < n1:=by omega
   rw [puts_app] at q3
   obtain ⟨h2,n2,lg2,c2,c2s,c2k,c2n⟩:=(hx).go c1s q3
   rw [← puts_app] at c2s
   simp only at c2k c2n
   have g2:=c2k st.next _ _ _ (by omega) (by omega) g1
   have m2:st.next < n2:=by omega
   rw [puts_app] at q2
   obtain ⟨h3,n3,lg3,c3,c3s,c3k,c3n⟩:=(put1 hK (p:=p) (s:=[43]) (by decide)).go (Step.relog ((c2s).box (o:=.lmap (mapL [(4,[42]),(5,[38]),(6,[43]),(7,[45,111]),(8,[61,62])])) hpl) (lg2:=n2 :: n2 :: n2 :: n2 :: n2 :: lg2) (fun l hl => relogN (k:=5) (by omega) (by show st.next ≤ n2; omega) l hl) (fun l hl => by simp [hl])) q2
   rw [← puts_app] at c3s
   simp only at c3k c3n
   have g3:=c3k st.next _ _ _ (by omega) (by omega) (by rw [upd_ne _ _ (by omega)]; exact g2)
   have m3:st.next < n3:=by omega
   rw [puts_app] at q1
   obtain ⟨h4,n4,lg4,c4,c4s,c4k,c4n⟩:=(hy).go c3s q1
   rw [← puts_app] at c4s
   simp only at c4k c4n
   have g4:=c4k st.next _ _ _ (by omega) (by omega) g3
   have m4:st.next < n4:=by omega
   rw [puts_app] at hle
   obtain ⟨h5,n5,lg5,c5,c5s,c5k,c5n⟩:=(put1 hK (p:=p) (s:=[41]) (by decide)).go c4s hle
   rw [← puts_app] at c5s
   simp only at c5k c5n
   have g5:=c5k st.next _ _ _ (by omega) (by omega) g4
   have m5:st.next < n5:=by omega
   obtain ⟨kd1,nm1,ka1,xs1,ty1,kl1,ls1⟩:=x
   obtain ⟨kd2,nm2,ka2,xs2,ty2,kl2,ls2⟩:=y
   rw [Fo.av]
   generalize Fo.avs [Fo.mk kd1 nm1 ka1 xs1 ty1 kl1 ls1,Fo.mk kd2 nm2 ka2 xs2 ty2 kl2 ls2] = es at *
   simp only [Fo.av] at hg0 hg1 c2 c4
   have ig:=fun {h:Nat → AO} {nx m:Nat} {lg:List Nat} (hm:h m = .lmap (mapL [(4,[42]),(5,[38]),(6,[43]),(7,[45,111]),(8,[61,62])])) => map_get hK (nx:=nx) (lg:=lg) (a:=6) (i:=2) (s:=[43]) hm rfl
   simp only [RS,RT,RZ,Zu,reduceLT,reduceLeDiff,reduceEqDiff,reduceMul,reduceAdd,reduceSub,reduceCtorEq,Zw,List.map_nil,List.nil_append,Zv,x46,F46,Int.reduceBEq,c1,c2,c3,c4,c5,g1,g2,g3,g4,g5,m1,m2,m3,m4,m5,l0,hg0,hg1,(show (st.next = n2) = False from eq_false (by omega)),(show st.next < n2 + 1 by omega),ofI,of4,of5,of6,of7,of8,upd_same,i0,i1,i2,i3,i4,ig]
   exact ⟨c5s.w,c5s.bf,c5s.m⟩
  ·rw [show ([40] :: (x.toks ++ opn 7 :: (y.toks ++ [[41]]))) = (((([[40]]) ++ x.toks) ++ [[45,111]]) ++ y.toks) ++ [[41]] by simp [opn]] at hle ⊢
   have q1:=puts_pre hle
   have q2:=puts_pre q1
   have q3:=puts_pre q2
   have q4:=puts_pre q3
   obtain ⟨h1,n1,lg1,c1,c1s,c1k,c1n⟩:=(put1 hK (p:=p) (s:=[40]) (by decide)).go hs0 q4
   simp only at c1k c1n
   have g1:=c1k st.next _ _ _ (by omega) (by omega) (upd_same ..)
   have m1:st.next < n1:=by omega
   rw [puts_app] at q3
   obtain ⟨h2,n2,lg2,c2,c2s,c2k,c2n⟩:=(hx).go c1s q3
   rw [← puts_app] at c2s
   simp only at c2k c2n
   have g2:=c2k st.next _ _ _ (by omega) (by omega) g1
   have m2:st.next < n2:=by omega
   rw [puts_app] at q2
   obtain ⟨h3,n3,lg3,c3,c3s,c3k,c3n⟩:=(put1 hK (p:=p) (s:=[45,111]) (by decide)).go (Step.relog ((c2s).box (o:=.lmap (mapL [(4,[42]),(5,[38]),(6,[43]),(7,[45,111]),(8,[61,62])])) hpl) (lg2:=n2 :: n2 :: n2 :: n2 :: n2 :: lg2) (fun l hl => relogN (k:=5) (by omega) (by show st.next ≤ n2; omega) l hl) (fun l hl => by simp [hl])) q2
   rw [← puts_app] at c3s
   simp only at c3k c3n
   have g3:=c3k st.next _ _ _ (by omega) (by omega) (by rw [upd_ne _ _ (by omega)]; exact g2)
   have m3:st.next < n3:=by omega
   rw [puts_app] at q1
   obtain ⟨h4,n4,lg4,c4,c4s,c4k,c4n⟩:=(hy).go c3s q1
   rw [← puts_app] at c4s
   simp only at c4k c4n
   have g4:=c4k st.next _ _ _ (by omega) (by omega) g3
   have m4:st.next < n4:=by omega
   rw [puts_app] at hle
   obtain ⟨h5,n5,lg5,c5,c5s,c5k,c5n⟩:=(put1 hK (p:=p) (s:=[41]) (by decide)).go c4s hle
   rw [← puts_app] at c5s
   simp only at c5k c5n
   have g5:=c5k st.next _ _ _ (by omega) (by omega) g4
   have m5:st.next < n5:=by omega
   obtain ⟨kd1,nm1,ka1,xs1,ty1,kl1,ls1⟩:=x
   obtain ⟨kd2,nm2,ka2,xs2,ty2,kl2,ls2⟩:=y
   rw [Fo.av]
   generalize Fo.avs [Fo.mk kd1 nm1 ka1 xs1 ty1 kl1 ls1,Fo.mk kd2 nm2 ka2 xs2 ty2 kl2 ls2] = es at *
   simp only [Fo.av] at hg0 hg1 c2 c4
   have ig:=fun {h:Nat → AO} {nx m:Nat} {lg:List Nat} (hm:h m = .lmap (mapL [(4,[42]),(5,[38]),(6,[43]),(7,[45,111]),(8,[61,62])])) => map_get hK (nx:=nx) (lg:=lg) (a:=7) (i:=3) (s:=[45,111]) hm rfl
   simp only [RS,RT,RZ,Zu,reduceLT,reduceLeDiff,reduceEqDiff,reduceMul,reduceAdd,reduceSub,reduceCtorEq,Zw,List.map_nil,List.nil_append,Zv,x46,F46,Int.reduceBEq,c1,c2,c3,c4,c5,g1,g2,g3,g4,g5,m1,m2,m3,m4,m5,l0,hg0,hg1,(show (st.next = n2) = False from eq_false (by omega)),(show st.next < n2 + 1 by omega),ofI,of4,of5,of6,of7,of8,upd_same,i0,i1,i2,i3,i4,ig]
   exact ⟨c5s.w,c5s.bf,c5s.m⟩
  ·rw [show ([40] :: (x.toks ++ opn 8 :: (y.toks ++ [[41]]))) = (((([[40]]) ++ x.toks) ++ [[61,62]]) ++ y.toks) ++ [[41]] by simp [opn]] at hle ⊢
   have q1:=puts_pre hle
   have q2:=puts_pre q1
   have q3:=puts_pre q2
   have q4:=puts_pre q3
   obtain ⟨h1,n1,lg1,c1,c1s,c1k,c1n⟩:=(put1 hK (p:=p) (s:=[40]) (by decide)).go hs0 q4
   simp only at c1k c1n
   have g1:=c1k st.next _ _ _ (by omega) (by omega) (upd_same ..)
   have m1:st.next < n1:=by omega
   rw [puts_app] at q3
   obtain ⟨h2,n2,lg2,c2,c2s,c2k,c2n⟩:=(hx).go c1s q3
   rw [← puts_app] at c2s
   simp only at c2k c2n
   have g2:=c2k st.next _ _ _ (by omega) (by omega) g1
   have m2:st.next < n2:=by omega
   rw [puts_app] at q2
   obtain ⟨h3,n3,lg3,c3,c3s,c3k,c3n⟩:=(put1 hK (p:=p) (s:=[61,62]) (by decide)).go (Step.relog ((c2s).box (o:=.lmap (mapL [(4,[42]),(5,[38]),(6,[43]),(7,[45,111]),(8,[61,62])])) hpl) (lg2:=n2 :: n2 :: n2 :: n2 :: n2 :: lg2) (fun l hl => relogN (k:=5) (by omega) (by show st.next ≤ n2; omega) l hl) (fun l hl => by simp [hl])) q2
   rw [← puts_app] at c3s
   simp only at c3k c3n
   have g3:=c3k st.next _ _ _ (by omega) (by omega) (by rw [upd_ne _ _ (by omega)]; exact g2)
   have m3:st.next < n3:=by omega
   rw [puts_app] at q1
   obtain ⟨h4,n4,lg4,c4,c4s,c4k,c4n⟩:=(hy).go c3s q1
   rw [← puts_app] at c4s
   simp only at c4k c4n
   have g4:=c4k st.next _ _ _ (by omega) (by omega) g3
   have m4:st.next < n4:=by omega
   rw [puts_app] at hle
   obtain ⟨h5,n5,lg5,c5,c5s,c5k,c5n⟩:=(put1 hK (p:=p) (s:=[41]) (by decide)).go c4s hle
   rw [← puts_app] at c5s
   simp only at c5k c5n
   have g5:=c5k st.next _ _ _ (by omega) (by omega) g4
   have m5:st.next < n5:=by omega
   obtain ⟨kd1,nm1,ka1,xs1,ty1,kl1,ls1⟩:=x
   obtain ⟨kd2,nm2,ka2,xs2,ty2,kl2,ls2⟩:=y
   rw [Fo.av]
   generalize Fo.avs [Fo.mk kd1 nm1 ka1 xs1 ty1 kl1 ls1,Fo.mk kd2 nm2 ka2 xs2 ty2 kl2 ls2] = es at *
   simp only [Fo.av] at hg0 hg1 c2 c4
   have ig:=fun {h:Nat → AO} {nx m:Nat} {lg:List Nat} (hm:h m = .lmap (mapL [(4,[42]),(5,[38]),(6,[43]),(7,[45,111]),(8,[61,62])])) => map_get hK (nx:=nx) (lg:=lg) (a:=8) (i:=4) (s:=[61,62]) hm rfl
   simp only [RS,RT,RZ,Zu,reduceLT,reduceLeDiff,reduceEqDiff,reduceMul,reduceAdd,reduceSub,reduceCtorEq,Zw,List.map_nil,List.nil_append,Zv,x46,F46,Int.reduceBEq,c1,c2,c3,c4,c5,g1,g2,g3,g4,g5,m1,m2,m3,m4,m5,l0,hg0,hg1,(show (st.next = n2) = False from eq_false (by omega)),(show st.next < n2 + 1 by omega),ofI,of4,of5,of6,of7,of8,upd_same,i0,i1,i2,i3,i4,ig]
   exact ⟨c5s.w,c5s.bf,c5s.m⟩
 ·obtain ⟨x,rfl⟩:∃ x,ls = [x]:=by
   match ls,hp with
   | [x],_ => exact ⟨x,rfl⟩
  simp only [Fo.Txs] at htx
  have hx:=ih x (by simp) (Fo.oks hoks2 x (by simp)) htx.2.2.2.2.1
  rw [show (ftok 9 nm :: frest 9 xs ty [x]) = ([[33]]) ++ x.toks from rfl] at hle ⊢
  have q1:=puts_pre hle
  obtain ⟨h1,n1,lg1,c1,c1s,c1k,c1n⟩:=(put1 hK (p:=p) (s:=[33]) (by decide)).go hs0 q1
  simp only at c1k c1n
  have g1:=c1k st.next _ _ _ (by omega) (by omega) (upd_same ..)
  have m1:st.next < n1:=by omega
  rw [puts_app] at hle
  obtain ⟨h2,n2,lg2,c2,c2s,c2k,c2n⟩:=(hx).go c1s hle
  rw [← puts_app] at c2s
  simp only at c2k c2n
  have g2:=c2k st.next _ _ _ (by omega) (by omega) g1
  have m2:st.next < n2:=by omega
  have hg0:(Fo.avs [x])[0]? = some x.av:=rfl
  obtain ⟨kd1,nm1,ka1,xs1,ty1,kl1,ls1⟩:=x
  rw [Fo.av]
  generalize Fo.avs [Fo.mk kd1 nm1 ka1 xs1 ty1 kl1 ls1] = es at *
  simp only [Fo.av] at hg0 c2
  simp only [RS,RT,RZ,Zu,reduceLT,reduceLeDiff,reduceEqDiff,reduceMul,reduceAdd,reduceSub,reduceCtorEq,Zw,List.map_nil,List.nil_append,Zv,x46,F46,Int.reduceBEq,c1,c2,g1,g2,m1,m2,l0,hg0]
  exact ⟨c2s.w,c2s.bf,c2s.m⟩
 ·obtain ⟨x,rfl⟩:∃ x,ls = [x]:=by
   match ls,hp with
   | [x],_ => exact ⟨x,rfl⟩
  simp only [Fo.Txs] at htx
  have hx:=ih x (by simp) (Fo.oks hoks2 x (by simp)) htx.2.2.2.2.1
  have i0:=fun {h:Nat → AO} {nx m:Nat} {lg:List Nat} (hm:h m = .amap [] 0) => map_ins0 hK (nx:=nx) (lg:=lg) (a:=10) (s:=[97,108,108]) hm
  have i1:=fun {h:Nat → AO} {nx m:Nat} {lg:List Nat} (hm:h m = .lmap (mapL [(10,[97,108,108])])) => map_ins hK (nx:=nx) (lg:=lg) (a:=11) (s:=[101,120]) hm rfl
  simp only [List.cons_append,List.nil_append] at i1
  have ht:=typ103 hK (p:=p) ty hty (htx.2.2.1 (by decide)).1
  rw [show (ftok 10 nm :: frest 10 xs ty [x]) = ((([[97,108,108],[58]]) ++ ty.toks) ++ [[46]]) ++ x.toks by simp [ftok,frest,Fo.hd]] at hle ⊢
  have q1:=puts_pre hle
  have q2:=puts_pre q1
  have q3:=puts_pre q2
  obtain ⟨h1,n1,lg1,c1,c1s,c1k,c1n⟩:=(put2 hK (p:=p) (s:=[97,108,108]) (s':=[58]) (by decide) (by decide)).go (Step.relog ((hs0).box (o:=.lmap (mapL [(10,[97,108,108]),(11,[101,120])])) hpl) (lg2:=[st.next + 1,st.next + 1]) (fun l hl => relogN (n:=st.next + 1) (k:=2) (lg:=[]) (by omega) (by show st.next ≤ st.next + 1; omega) l hl) (fun l hl => by simp at hl)) q3
  simp only at c1k c1n
  have g1:=c1k st.next _ _ _ (by omega) (by omega) (by rw [upd_ne _ _ (by omega),upd_same])
  have m1:st.next < n1:=by omega
  rw [puts_app] at q2
  obtain ⟨h2,n2,lg2,c2,c2s,c2k,c2n⟩:=(ht).go c1s q2
  rw [← puts_app] at c2s
  simp only at c2k c2n
  have g2:=c2k st.next _ _ _ (by omega) (by omega) g1
  have m2:st.next < n2:=by omega
  rw [puts_app] at q1
  obtain ⟨h3,n3,lg3,c3,c3s,c3k,c3n⟩:=(put1 hK (p:=p) (s:=[46]) (by decide)).go c2s q1
  rw [← puts_app] at c3s
  simp only at c3k c3n
  have g3:=c3k st.next _ _ _ (by omega) (by omega) g2
  have m3:st.next < n3:=by omega
  rw [puts_app] at hle
  obtain ⟨h4,n4,lg4,c4,c4s,c4k,c4n⟩:=(hx).go c3s hle
  rw [← puts_app] at c4s
  simp only at c4k c4n
  have g4:=c4k st.next _ _ _ (by omega) (by omega) g3
  have m4:st.next < n4:=by omega
  have hg0:(Fo.avs [x])[0]? = some x.av:=rfl
  obtain ⟨kd1,nm1,ka1,xs1,ty1,kl1,ls1⟩:=x
  rw [Fo.av]
  generalize Fo.avs [Fo.mk kd1 nm1 ka1 xs1 ty1 kl1 ls1] = es at *
  obtain ⟨tn,tk,tx⟩:=ty
  obtain ⟨tn1,tk1,tx1⟩:=ty1
  simp only [Ty.nm,Ty.k,Ty.xs] at *
  simp only [Ty.av] at c2
  simp only [Fo.av,Ty.nm,Ty.k,Ty.xs] at hg0 c4
  have ig:=fun {h:Nat → AO} {nx m:Nat} {lg:List Nat} (hm:h m = .lmap (mapL [(10,[97,108,108]),(11,[101,120])])) => map_get hK (nx:=nx) (lg:=lg) (a:=10) (i:=0) (s:=[97,108,108]) hm rfl
  simp only [RS,RT,RZ,Zu,reduceLT,reduceLeDiff,reduceEqDiff,reduceMul,reduceAdd,reduceSub,reduceCtorEq,Zw,List.map_nil,List.nil_append,Zv,x46,F46,Int.reduceBEq,c1,c2,c3,c4,g1,g2,g3,g4,m1,m2,m3,m4,l0,hg0,ofI,of1,of2,upd_same,Ty.nm,Ty.k,Ty.xs,i0,i1,ig]
  exact ⟨c4s.w,c4s.bf,c4s.m⟩
 ·obtain ⟨x,rfl⟩:∃ x,ls = [x]:=by
   match ls,hp with
   | [x],_ => exact ⟨x,rfl⟩
  simp only [Fo.Txs] at htx
  have hx:=ih x (by simp) (Fo.oks hoks2 x (by simp)) htx.2.2.2.2.1
  have i0:=fun {h:Nat → AO} {nx m:Nat} {lg:List Nat} (hm:h m = .amap [] 0) => map_ins0 hK (nx:=nx) (lg:=lg) (a:=10) (s:=[97,108,108]) hm
  have i1:=fun {h:Nat → AO} {nx m:Nat} {lg:List Nat} (hm:h m = .lmap (mapL [(10,[97,108,108])])) => map_ins hK (nx:=nx) (lg:=lg) (a:=11) (s:=[101,120]) hm rfl
  simp only [List.cons_append,List.nil_append] at i1
  have ht:=typ103 hK (p:=p) ty hty (htx.2.2.1 (by decide)).1
  rw [show (ftok 11 nm :: frest 11 xs ty [x]) = ((([[101,120],[58]]) ++ ty.toks) ++ [[46]]) ++ x.toks by simp [ftok,frest,Fo.hd]] at hle ⊢
  have q1:=puts_pre hle
  have q2:=puts_pre q1
  have q3:=puts_pre q2
  obtain ⟨h1,n1,lg1,c1,c1s,c1k,c1n⟩:=(put2 hK (p:=p) (s:=[101,120]) (s':=[58]) (by decide) (by decide)).go (Step.relog ((hs0).box (o:=.lmap (mapL [(10,[97,108,108]),(11,[101,120])])) hpl) (lg2:=[st.next + 1,st.next + 1]) (fun l hl => relogN (n:=st.next + 1) (k:=2) (lg:=[]) (by omega) (by show st.next ≤ st.next + 1; omega) l hl) (fun l hl => by simp at hl)) q3
  simp only at c1k c1n
  have g1:=c1k st.next _ _ _ (by omega) (by omega) (by rw [upd_ne _ _ (by omega),upd_same])
  have m1:st.next < n1:=by omega
  rw [puts_app] at q2
  obtain ⟨h2,n2,lg2,c2,c2s,c2k,c2n⟩:=(ht).go c1s q2
  rw [← puts_app] at c2s
  simp only at c2k c2n
  have g2:=c2k st.next _ _ _ (by omega) (by omega) g1
  have m2:st.next < n2:=by omega
  rw [puts_app] at q1
  obtain ⟨h3,n3,lg3,c3,c3s,c3k,c3n⟩:=(put1 hK (p:=p) (s:=[46]) (by decide)).go c2s q1
  rw [← puts_app] at c3s
  simp only at c3k c3n
  have g3:=c3k st.next _ _ _ (by omega) (by omega) g2
  have m3:st.next < n3:=by omega
  rw [puts_app] at hle
  obtain ⟨h4,n4,lg4,c4,c4s,c4k,c4n⟩:=(hx).go c3s hle
  rw [← puts_app] at c4s
  simp only at c4k c4n
  have g4:=c4k st.next _ _ _ (by omega) (by omega) g3
  have m4:st.next < n4:=by omega
  have hg0:(Fo.avs [x])[0]? = some x.av:=rfl
  obtain ⟨kd1,nm1,ka1,xs1,ty1,kl1,ls1⟩:=x
  rw [Fo.av]
  generalize Fo.avs [Fo.mk kd1 nm1 ka1 xs1 ty1 kl1 ls1] = es at *
  obtain ⟨tn,tk,tx⟩:=ty
  obtain ⟨tn1,tk1,tx1⟩:=ty1
  simp only [Ty.nm,Ty.k,Ty.xs] at *
  simp only [Ty.av] at c2
  simp only [Fo.av,Ty.nm,Ty.k,Ty.xs] at hg0 c4
  have ig:=fun {h:Nat → AO} {nx m:Nat} {lg:List Nat} (hm:h m = .lmap (mapL [(10,[97,108,108]),(11,[101,120])])) => map_get hK (nx:=nx) (lg:=lg) (a:=11) (i:=1) (s:=[101,120]) hm rfl
  simp only [RS,RT,RZ,Zu,reduceLT,reduceLeDiff,reduceEqDiff,reduceMul,reduceAdd,reduceSub,reduceCtorEq,Zw,List.map_nil,List.nil_append,Zv,x46,F46,Int.reduceBEq,c1,c2,c3,c4,g1,g2,g3,g4,m1,m2,m3,m4,l0,hg0,ofI,of1,of2,upd_same,Ty.nm,Ty.k,Ty.xs,i0,i1,ig]
  exact ⟨c4s.w,c4s.bf,c4s.m⟩
 ·obtain ⟨x,rfl⟩:∃ x,ls = [x]:=by
   match ls,hp with
   | [x],_ => exact ⟨x,rfl⟩
  simp only [Fo.Txs] at htx
  have hx:=ih x (by simp) (Fo.oks hoks2 x (by simp)) htx.2.2.2.2.1
  rw [show (ftok 12 nm :: frest 12 xs ty [x]) = (([[123]]) ++ x.toks) ++ [[125]] from rfl] at hle ⊢
  have q1:=puts_pre hle
  have q2:=puts_pre q1
  obtain ⟨h1,n1,lg1,c1,c1s,c1k,c1n⟩:=(put1 hK (p:=p) (s:=[123]) (by decide)).go hs0 q2
  simp only at c1k c1n
  have g1:=c1k st.next _ _ _ (by omega) (by omega) (upd_same ..)
  have m1:st.next < n1:=by omega
  rw [puts_app] at q1
  obtain ⟨h2,n2,lg2,c2,c2s,c2k,c2n⟩:=(hx).go c1s q1
  rw [← puts_app] at c2s
  simp only at c2k c2n
  have g2:=c2k st.next _ _ _ (by omega) (by omega) g1
  have m2:st.next < n2:=by omega
  rw [puts_app] at hle
  obtain ⟨h3,n3,lg3,c3,c3s,c3k,c3n⟩:=(put1 hK (p:=p) (s:=[125]) (by decide)).go c2s hle
  rw [← puts_app] at c3s
  simp only at c3k c3n
  have g3:=c3k st.next _ _ _ (by omega) (by omega) g2
  have m3:st.next < n3:=by omega
  have hg0:(Fo.avs [x])[0]? = some x.av:=rfl
  obtain ⟨kd1,nm1,ka1,xs1,ty1,kl1,ls1⟩:=x
  rw [Fo.av]
  generalize Fo.avs [Fo.mk kd1 nm1 ka1 xs1 ty1 kl1 ls1] = es at *
  simp only [Fo.av] at hg0 c2
  simp only [RS,RT,RZ,Zu,reduceLT,reduceLeDiff,reduceEqDiff,reduceMul,reduceAdd,reduceSub,reduceCtorEq,Zw,List.map_nil,List.nil_append,Zv,x46,F46,Int.reduceBEq,c1,c2,c3,g1,g2,g3,m1,m2,m3,l0,hg0]
  exact ⟨c3s.w,c3s.bf,c3s.m⟩
end
end Go.Proofs.L06

namespace Go.Proofs.L06
open Go Go.AE
open Nat (reduceLT reduceLeDiff reduceEqDiff reduceMul reduceAdd reduceSub)
set_option maxHeartbeats 8000000
theorem bytes_of:∀ {b:List Nat},(∀ c ∈ b,c < 256) → bytesOf? (bytesA b) = some b
 | [],_ => rfl
 | c :: b,h => by
  have ih:=bytes_of (b:=b) fun x hx => h x (by simp [hx])
  rw [show bytesA (c :: b) = .int .u8 (.ofNat c) :: bytesA b from rfl,bytesOf?,if_pos (h c (by simp)),ih]; rfl
section
variable {C:Ctx} {mu ro:Bool} {fr:Fr} {st:St} {ds:Option Tmp} {ty:TypeId} {pos:String} {af:Array Edge} {g:Option (Nat × Bool)}
def sdK (st:St):AV → Option OPR
 | .slice .nil _ => some (.val .nilp st)
 | .row l off len _ => if 0 < len then some (.val (.ptr l off) st) else none
 | _ => none
theorem gA_sd {x:Operand} {ts:Array TypeId}:opA C mu ro fr st ⟨ds,.call ⟨.builtin .unsafeSliceData,#[x],ts⟩,ty,pos,af,g⟩ = sdK st (oval C fr x):=by
 show ov st _ = _
 cases h:oval C fr x with
 | slice k es => cases k <;> rfl
 | row l off len m => simp only [sdK]; split <;> rfl
 | _ => rfl
def usK (C:Ctx) (st:St) (t:TypeId) (p:AV):Option Nat → Option OPR
 | some n => ovs (unsafeStr C st t p n)
 | none => none
theorem gA_us {x y:Operand} {t u:TypeId}:opA C mu ro fr st ⟨ds,.call ⟨.builtin .unsafeString,#[x,y],#[t,u]⟩,ty,pos,af,g⟩ = usK C st t (oval C fr x) (natOf (oval C fr y)):=by
 show (match natOf (oval C fr y),[t,u] with | some n,t :: _ => ovs (unsafeStr C st t (oval C fr x) n) | _,_ => none) = _
 cases natOf (oval C fr y) <;> rfl
end
section
variable {Q:Ctx} (hK:K Q)
include hK
theorem us_nil {st:St}:unsafeStr Q st 153 .nilp 0 = some (.str [],st):=rfl
theorem us_row {h:Nat → AO} {nx r:Nat} {lg:List Nat} {b:List Nat} (hr:h r = .mem 5 (bytesA b) false 0) (h0:b ≠ []) (hl:b.length < 4294967296) (hb:∀ c ∈ b,c < 256) :
  unsafeStr Q ⟨h,nx,lg⟩ 153 (.ptr r 0) b.length = some (.str b,⟨upd h r (.mem 5 (bytesA b) false b.length),nx,r :: lg⟩):=by
 have hn:¬ b.length = 0:=fun h => h0 (List.eq_nil_of_length_eq_zero h)
 have hd:((bytesA b).drop 0).take b.length = bytesA b:=by rw [List.drop_zero,← bytesA_len b,List.take_length]
 simp only [unsafeStr,hr,tw153 hK,T153,tw5 hK,T5]
 rw [if_neg hn,if_pos ⟨trivial,by rw [bytesA_len]; omega,hl⟩,hd,bytes_of hb]
 simp only [Option.map_some,Nat.zero_add,Nat.zero_max,St.set]
theorem str48 {p:Nat} {b:List Nat} {st:St} (hB:Buf p st b) (hl:b.length < 4294967296) (hb:∀ c ∈ b,c < 256) :
  ∃ st',callW Q (.fn 48) [.ptr p 0] .normal st = some (.ret (.str b),st',none) ∧ ∀ l ∈ st'.log,l ∈ st.log ∨ p ≤ l:=by
 have hB2:=hB
 obtain ⟨g1,ad,bf,g2,g3,g4⟩:=hB
 rcases g4 with ⟨rfl,rfl⟩ | ⟨g4,r,rfl,g5,g6,g7⟩
 ·refine ⟨st,callY (N:=14) (ok48 hK) (hK.nx _ _ _ rfl) rfl rfl ?_,fun l hl => .inl hl⟩
  simp only [RS,RT,RZ,Zu,reduceLT,reduceLeDiff,reduceEqDiff,reduceMul,reduceAdd,reduceSub,reduceCtorEq,Zw,List.map_nil,List.nil_append,Zv,x48,kd48_0,F48,g1,g2,gA_sd,sdK,gA_us,usK,us_nil hK]
 ·have hB:Post 14 [] none (execY (callW Q) Q false 48 none x48 ⟨argTmps [.ptr p 0],14,[],none⟩ ⟨st.heap,st.next,[]⟩) fun e T st1 => e = .ret ∧ T 2 = .str b ∧ st1 = ⟨upd st.heap r (.mem 5 (bytesA b) false b.length),st.next,[r]⟩:=by
   have hu:=us_row hK (h:=st.heap) (nx:=st.next) (lg:=[]) g5 g4 hl hb
   have h0:0 < b.length:=List.length_pos_iff.2 g4
   simp only [RS,RT,RZ,Zu,reduceLT,reduceLeDiff,reduceEqDiff,reduceMul,reduceAdd,reduceSub,reduceCtorEq,Zw,List.map_nil,List.nil_append,Zv,x48,kd48_0,F48,g1,g2,gA_sd,sdK,gA_us,usK,hu,h0,lenX_row,mkd_c,mb_t,mb_f,true_or,or_true,g5,g6,if_true]
  obtain ⟨e,T,st1,h1,rfl,h2,rfl⟩:=hB
  refine ⟨_,callYr (N:=14) (ok48 hK) (hK.nx _ _ _ rfl) rfl ⟨_,h1,finish_ret (v0:=.str b) (v:=.str b) (st3:=⟨upd st.heap r (.mem 5 (bytesA b) false b.length),st.next,[r]⟩) endOf_ret (by simp only [RS,RT,RZ,Zu,reduceLT,reduceLeDiff,reduceEqDiff,reduceMul,reduceAdd,reduceSub,reduceCtorEq,Zw,List.map_nil,List.nil_append,Zv,F48,h2]) (frz_noRow rfl fun _ => rfl)⟩,?_⟩
  intro l hl
  rcases leave_cases (st0:=st) (st1:=⟨upd st.heap r (.mem 5 (bytesA b) false b.length),st.next,[r]⟩) (vs:=[.str b]) with ⟨c1,_⟩ | c1
  ·have hl2:l ∈ (leaveSt st [.str b] ⟨upd st.heap r (.mem 5 (bytesA b) false b.length),st.next,[r]⟩).log:=hl
   rw [c1] at hl2
   exact .inl hl2
  ·have hl2:l ∈ (leaveSt st [.str b] ⟨upd st.heap r (.mem 5 (bytesA b) false b.length),st.next,[r]⟩).log:=hl
   rw [c1] at hl2
   simp only [List.mem_append,List.mem_filter,List.mem_singleton] at hl2
   rcases hl2 with ⟨hl2,_⟩ | hl2
   ·exact .inr (by omega)
   ·exact .inl hl2
end
section
variable {Q:Ctx} (hK:K Q) (hI:∀ n:Int,0 ≤ n → n ≤ 100000 → Ret Q 241 [.int .i64 n] (.str (dig n.toNat)))
include hK hI
def textF (f:Fo):List Nat:=if 20000 < (puts [] f.toks).length then [] else puts [] f.toks
theorem text11 {f:Fo} (hok:f.Ok) (htx:f.Tx) (hr:rawFo f = 0):Ret Q 11 [f.av] (.str (textF f)):=fun st => by
 refine callY (N:=21) (ok11 hK) (hK.nx _ _ _ rfl) rfl rfl ?_
 have h1:=rawFo_c hK hok
 rw [hr] at h1
 have hsz:f.sz ≤ 4000:=by
  unfold rawFo at hr
  split at hr
  ·cases hr
  ·omega
 have hlen:(puts [] f.toks).length ≤ Tera:=by
  have:=puts_len f.toks []
  have:=text_len htx hsz
  simp only [List.length_nil] at *
  unfold Tera; omega
 have hbyte:=puts_byte f.toks [] (Fo.tokOk f htx) (by simp)
 obtain ⟨s0,hs0⟩:∃ s0:St,s0 = ⟨upd (upd st.heap st.next (.mem 28 f.av.cells true 0)) (st.next + 1) (.mem 98 [.nilp,.slice .nil []] true 0),st.next + 2,[]⟩:=⟨_,rfl⟩
 have hB:Buf (st.next + 1) s0 []:=by
  rw [hs0]
  exact ⟨by simp only; omega,.nilp,.slice .nil [],by simp only; rw [upd_same],.inl rfl,.inl ⟨rfl,rfl⟩⟩
 obtain ⟨h1',n1,lg1,c1,c2,c3,c4⟩:=(form46 hK hI f hok htx).go (Step.refl hB) hlen
 have c5:=c2.w.log
 have g1:=len47 hK c2.bf
 have m1:st.next + 1 < n1:=c2.bf.lt
 have l0:st.next < st.next + 2:=by omega
 have lgs:∀ q ∈ lg1,st.next ≤ q:=fun q hq => by
  rcases c5 q hq with h | ⟨h,_⟩
  ·rw [hs0] at h; cases h
  ·omega
 unfold textF
 rw [hs0] at c1
 generalize hpt:puts [] f.toks = b at *
 obtain ⟨kd,nm,ka,xs,ty,kl,ls⟩:=f
 obtain ⟨tn,tk,tx⟩:=ty
 simp only [RS,RT,RZ,Zu,reduceLT,reduceLeDiff,reduceEqDiff,reduceMul,reduceAdd,reduceSub,reduceCtorEq,Zw,List.map_nil,List.nil_append,Zv,Fo.av,AV.cells,Ty.nm,Ty.k,Ty.xs] at h1 c1
 by_cases e:20000 < b.length
 ·have e':=decT (show (20000:Int) < (b.length:Int) by omega)
  rw [if_pos e]
  simp only [RS,RT,RZ,Zu,reduceLT,reduceLeDiff,reduceEqDiff,reduceMul,reduceAdd,reduceSub,reduceCtorEq,Zw,List.map_nil,List.nil_append,Zv,x11,F11,Fo.av,Ty.nm,Ty.k,Ty.xs,h1,c1,g1,e',e,l0]
  exact lgs
 ·have e':=decF (show ¬ (20000:Int) < (b.length:Int) by omega)
  rw [if_neg e]
  obtain ⟨⟨h2,n2,lg2⟩,d1,d2⟩:=str48 hK c2.bf (by omega) hbyte
  simp only [RS,RT,RZ,Zu,reduceLT,reduceLeDiff,reduceEqDiff,reduceMul,reduceAdd,reduceSub,reduceCtorEq,Zw,List.map_nil,List.nil_append,Zv,x11,F11,Fo.av,Ty.nm,Ty.k,Ty.xs,h1,c1,g1,e',e,l0,d1]
  intro q hq
  rcases d2 q hq with h | h
  ·exact lgs q h
  ·omega
end
end Go.Proofs.L06

namespace Go.Proofs.L06
open Go Go.AE
open Nat (reduceLT reduceLeDiff reduceEqDiff reduceMul reduceAdd reduceSub)
set_option maxHeartbeats 8000000
mutual
def Ty.nmB:Ty → Bool | .mk nm _ xs => if xs.length = 0 then chk1 1 nm else Ty.nmBs xs
def Ty.nmBs:List Ty → Bool | [] => true | t :: r => t.nmB && Ty.nmBs r
end
mutual
def Fo.nB:Fo → Bool | .mk kd _ _ _ ty _ ls => !(isQ kd && !ty.nmB) && Fo.nBs ls
def Fo.nBs:List Fo → Bool | [] => true | t :: r => t.nB && Fo.nBs r
end
mutual
theorem Ty.nmd_of:∀ (t:Ty),t.shp = true → t.nmB = true → t.nmd
 | .mk nm k xs,h,h2 => by
  simp only [Ty.shp,Bool.and_eq_true] at h
  simp only [Ty.nmB] at h2
  simp only [Ty.nmd]
  have hN:=h.1
  unfold tyN at hN
  simp only [Bool.and_eq_true,Bool.or_eq_true,beq_iff_eq] at hN
  by_cases e:xs.length = 0
  ·rw [if_pos e] at h2
   obtain rfl:=List.eq_nil_of_length_eq_zero e
   exact ⟨.inl ⟨rfl,name_ok h2⟩,by simp only [Ty.nmds]⟩
  ·rw [if_neg e] at h2
   have ha:nm = arrow:=by
    rcases hN.2 with h | h
    ·exact h
    ·omega
   have h3:((xs.length:Int) == 2) = true:=by rw [← hN.1,ha]; rfl
   rw [beq_iff_eq] at h3
   exact ⟨.inr ⟨by omega,ha⟩,Ty.nmds_of xs h.2 h2⟩
theorem Ty.nmds_of:∀ (xs:List Ty),Ty.shps xs = true → Ty.nmBs xs = true → Ty.nmds xs
 | [],_,_ => by simp only [Ty.nmds]
 | t :: r,h,h2 => by
  simp only [Ty.shps,Bool.and_eq_true] at h
  simp only [Ty.nmBs,Bool.and_eq_true] at h2
  simp only [Ty.nmds]
  exact ⟨Ty.nmd_of t h.1 h2.1,Ty.nmds_of r h.2 h2.2⟩
end
theorem ty_err {t:Ty} (h:(t.err == 0 || t.err == 40) = true):t.shp = true ∧ t.nd 100 ≤ 4000 ∧ t.dp 100 = false:=by
 unfold Ty.err Ty.sized at h
 by_cases e1:4000 < t.nd 100
 ·simp [e1] at h
 ·simp only [if_neg e1] at h
  cases e2:t.dp 100 with
  | true => simp [e2] at h
  | false =>
   simp only [e2,Bool.false_eq_true,if_false,if_true] at h
   cases e3:t.shp with
   | true => exact ⟨rfl,by omega,rfl⟩
   | false => simp [e3] at h
theorem tm_shp {t:Tm} (h:rawTm t = 0):t.shp = true:=by
 unfold rawTm at h
 by_cases e:t.sized = 0
 ·rw [if_pos e] at h
  cases e3:t.shp with
  | true => rfl
  | false => simp [e3] at h
 ·rw [if_neg e] at h; exact absurd h e
theorem prts_eq (kd:Int):prts kd = parts kd:=rfl
mutual
theorem Fo.tx_of:∀ (f:Fo),f.shp = true → f.nB = true → f.Tx
 | .mk kd nm ka xs ty kl ls,h,h2 => by
  simp only [Fo.shp,Bool.and_eq_true,beq_iff_eq,Bool.not_eq_true'] at h
  simp only [Fo.nB,Bool.and_eq_true,Bool.not_eq_true',Bool.and_eq_false_iff] at h2
  simp only [Fo.Tx]
  refine ⟨by rw [← prts_eq]; exact h.1,fun e => ?_,fun e => ?_,fun e1 e2 => ?_,Fo.txs_of ls h.2.2.2 h2.2⟩
  ·have h3:=h.2.1
   rw [if_pos e] at h3
   refine ⟨?_,?_⟩
   ·unfold atomN at h3
    simp only [Bool.and_eq_true] at h3
    exact name_ok h3.1
   ·rw [Tm.shps_all,List.all_eq_true]
    exact fun t ht => tm_shp (atom_raw h3 t ht)
  ·have e1:¬ kd = 1:=by omega
   have h3:=h.2.1
   rw [if_neg e1] at h3
   have hq:isQ kd = true:=by unfold isQ; rcases e with rfl | rfl <;> rfl
   unfold othN at h3
   simp only [hq,Bool.and_eq_true,Bool.not_true,Bool.false_or] at h3
   obtain ⟨a,b,c⟩:=ty_err h3.2.2.2
   refine ⟨Ty.nmd_of ty a ?_,b,c⟩
   rcases h2.1 with h | h
   ·rw [hq] at h; cases h
   ·simpa using h
  ·have hq:isQ kd = false:=by
    unfold isQ
    rw [Bool.or_eq_false_iff,beq_eq_false_iff_ne,beq_eq_false_iff_ne]; exact ⟨e1,e2⟩
   have h3:=h.2.2.1
   simp only [hq,Bool.false_or,Bool.and_eq_true,beq_iff_eq] at h3
   exact ⟨h3.1,List.eq_nil_of_length_eq_zero (by omega)⟩
theorem Fo.txs_of:∀ (ls:List Fo),Fo.bads ls = false → Fo.nBs ls = true → Fo.Txs ls
 | [],_,_ => by simp only [Fo.Txs]
 | t :: r,h,h2 => by
  simp only [Fo.bads,Bool.or_eq_false_iff,Bool.not_eq_false'] at h
  simp only [Fo.nBs,Bool.and_eq_true] at h2
  simp only [Fo.Txs]
  exact ⟨Fo.tx_of t h.1 h2.1,Fo.txs_of r h.2 h2.2⟩
end
mutual
theorem Fo.pt_of:∀ (f:Fo),f.shp = true → f.Pt
 | .mk kd nm ka xs ty kl ls,h => by
  simp only [Fo.shp,Bool.and_eq_true,beq_iff_eq,Bool.not_eq_true'] at h
  simp only [Fo.Pt]
  exact ⟨by rw [← prts_eq]; exact h.1,Fo.pts_of ls h.2.2.2⟩
theorem Fo.pts_of:∀ (ls:List Fo),Fo.bads ls = false → Fo.Pts ls
 | [],_ => by simp only [Fo.Pts]
 | t :: r,h => by
  simp only [Fo.bads,Bool.or_eq_false_iff,Bool.not_eq_false'] at h
  simp only [Fo.Pts]
  exact ⟨Fo.pt_of t h.1,Fo.pts_of r h.2⟩
end
section
variable {Q:Ctx} (hK:K Q)
include hK
theorem nmty54 (t:Ty):t.Ok → Ret Q 54 [t.av] (.bool t.nmB):=by
 induction t using Ty.ind with
 | _ nm k xs ih =>
 intro hok st
 refine callY (N:=25) (ok54 hK) (hK.nx _ _ _ rfl) rfl rfl ?_
 obtain ⟨hnm,_,hl,hoks⟩:=hok
 have hc:=risName_c hK hnm
 rw [Ty.nmB]
 by_cases e:xs.length = 0
 ·have e':((xs.length:Int) == 0) = true:=by rw [beq_iff_eq]; omega
  rw [if_pos e]
  simp only [RS,RT,RZ,Zu,reduceLT,reduceLeDiff,reduceEqDiff,reduceMul,reduceAdd,reduceSub,reduceCtorEq,Zw,List.map_nil,List.nil_append,Zv,x54,F54,Ty.av,Ty.len,e',hc]
 ·have e':((xs.length:Int) == 0) = false:=by rw [beq_eq_false_iff_ne]; omega
  rw [if_neg e]
  simp only [RS,RT,RZ,Zu,reduceLT,reduceLeDiff,reduceEqDiff,reduceMul,reduceAdd,reduceSub,reduceCtorEq,Zw,List.map_nil,List.nil_append,Zv,x54,F54,Ty.av,Ty.len,e']
  refine post_bind (post_for (I:=fun i T st1 => T 1 = .ptr st.next 0 ∧ T 3 = .int .i64 (i:Int) ∧ Wr (fun _ => False) ⟨upd st.heap st.next (.mem 25 [.str nm,.slice k (Ty.avs xs)] true 0),st.next + 1,[]⟩ st1 ∧ Ty.nmBs (xs.drop i) = Ty.nmBs xs)
   (Q:=fun e T st1 => Wr (fun _ => False) ⟨upd st.heap st.next (.mem 25 [.str nm,.slice k (Ty.avs xs)] true 0),st.next + 1,[]⟩ st1 ∧ ((e = .ret ∧ T 2 = .bool false ∧ Ty.nmBs xs = false) ∨ (e = .exit 0 ∧ Ty.nmBs xs = true)))
   xs.length ?_ ?_ (Nat.zero_le _) ?_) ?_
  ·rintro i T ⟨h,nx,lg⟩ hi ⟨t1,t3,hw,hr⟩
   obtain ⟨a,ha⟩:∃ a,xs[i]? = some a:=⟨_,List.getElem?_eq_getElem hi⟩
   have ham:=List.mem_of_getElem? ha
   have hget:=Ty.get ha
   have hi2:=wrapUp (show i < 9223372036854775807 by unfold Big at hl; omega)
   have g:=hw.heap st.next (by simp only; omega) (fun h => h)
   have hnx:=hw.next
   simp only at g hnx
   rw [upd_same] at g
   have l1:st.next < nx:=by omega
   have hc:=ih a ham (Ty.oks hoks a ham)
   rw [drop_cons ha,Ty.nmBs] at hr
   generalize a.nmB = z at hc hr
   obtain ⟨nm1,k1,xs1⟩:=a
   rw [Ty.av] at hget hc
   cases z with
   | true =>
    rw [Bool.true_and] at hr
    simp only [RS,RT,RZ,Zu,reduceLT,reduceLeDiff,reduceEqDiff,reduceMul,reduceAdd,reduceSub,reduceCtorEq,Zw,List.map_nil,List.nil_append,Zv,l54_0,t1,t3,hi,hget,hi2,g,l1,hc,Ty.len]
    exact ⟨hw,hr⟩
   | false =>
    rw [Bool.false_and] at hr
    simp only [RS,RT,RZ,Zu,reduceLT,reduceLeDiff,reduceEqDiff,reduceMul,reduceAdd,reduceSub,reduceCtorEq,Zw,List.map_nil,List.nil_append,Zv,l54_0,t1,t3,hi,hget,hi2,g,l1,hc,Ty.len]
    exact ⟨hw,hr.symm⟩
  ·rintro T ⟨h,nx,lg⟩ ⟨t1,t3,hw,hr⟩
   have g:=hw.heap st.next (by simp only; omega) (fun h => h)
   have hnx:=hw.next
   simp only at g hnx
   rw [upd_same] at g
   have l1:st.next < nx:=by omega
   rw [List.drop_length,Ty.nmBs] at hr
   simp only [RS,RT,RZ,Zu,reduceLT,reduceLeDiff,reduceEqDiff,reduceMul,reduceAdd,reduceSub,reduceCtorEq,Zw,List.map_nil,List.nil_append,Zv,l54_0,t1,t3,g,l1,Ty.len]
   exact ⟨hw,hr.symm⟩
  ·simp only [RS,RT,RZ,Zu,reduceLT,reduceLeDiff,reduceEqDiff,reduceMul,reduceAdd,reduceSub,reduceCtorEq,Zw,List.map_nil,List.nil_append,Zv,]
   exact Wr.refl _
  ·rintro e T ⟨h,nx,lg⟩ ⟨hw,hh⟩
   have hlg:∀ q ∈ lg,st.next ≤ q:=fun q hq => by
    rcases hw.log q hq with h | h | h
    ·cases h
    ·exact h.elim
    ·simp only at h; omega
   rcases hh with ⟨rfl,h2,h3⟩ | ⟨rfl,h3⟩
   ·rw [h3]
    simp only [RS,RT,RZ,Zu,reduceLT,reduceLeDiff,reduceEqDiff,reduceMul,reduceAdd,reduceSub,reduceCtorEq,Zw,List.map_nil,List.nil_append,Zv,h2]
    exact hlg
   ·rw [h3]
    simp only [RS,RT,RZ,Zu,reduceLT,reduceLeDiff,reduceEqDiff,reduceMul,reduceAdd,reduceSub,reduceCtorEq,Zw,List.map_nil,List.nil_append,Zv,]
    exact hlg
theorem named17 (f:Fo):f.Ok → Ret Q 17 [f.av] (.bool f.nB):=by
 induction f using Fo.ind with
 | _ kd nm ka xs ty kl ls ih =>
 intro hok st
 refine callY (N:=32) (ok17 hK) (hK.nx _ _ _ rfl) rfl rfl ?_
 obtain ⟨_,_,_,_,_,hty,_,hl,hoks⟩:=hok
 have hc:=nmty54 hK ty hty
 rw [Fo.nB]
 generalize ty.nmB = zt at *
 obtain ⟨tn,tk,tx⟩:=ty
 rw [Ty.av] at hc
 have loop:∀ T0:Nat → AV,T0 1 = .ptr st.next 0 → T0 3 = .int .i64 0 → Post 32 [] none (execY (callW Q) Q false 17 none (.loop l17_0) ⟨T0,32,[],none⟩ ⟨upd st.heap st.next (.mem 28 [.int .i64 kd,.str nm,.slice ka (Tm.avs xs),.str tn,.slice tk (Ty.avs tx),.slice kl (Fo.avs ls)] true 0),st.next + 1,[]⟩)
   fun e T st1 => Wr (fun _ => False) ⟨upd st.heap st.next (.mem 28 [.int .i64 kd,.str nm,.slice ka (Tm.avs xs),.str tn,.slice tk (Ty.avs tx),.slice kl (Fo.avs ls)] true 0),st.next + 1,[]⟩ st1 ∧ ((e = .ret ∧ T 2 = .bool false ∧ Fo.nBs ls = false) ∨ (e = .exit 0 ∧ Fo.nBs ls = true)):=by
  intro T0 i1 i3
  refine post_for (I:=fun i T st1 => T 1 = .ptr st.next 0 ∧ T 3 = .int .i64 (i:Int) ∧ Wr (fun _ => False) ⟨upd st.heap st.next (.mem 28 [.int .i64 kd,.str nm,.slice ka (Tm.avs xs),.str tn,.slice tk (Ty.avs tx),.slice kl (Fo.avs ls)] true 0),st.next + 1,[]⟩ st1 ∧ Fo.nBs (ls.drop i) = Fo.nBs ls)
   ls.length ?_ ?_ (Nat.zero_le _) ⟨i1,i3,Wr.refl _,rfl⟩
  ·rintro i T ⟨h,nx,lg⟩ hi ⟨t1,t3,hw,hr⟩
   obtain ⟨a,ha⟩:∃ a,ls[i]? = some a:=⟨_,List.getElem?_eq_getElem hi⟩
   have ham:=List.mem_of_getElem? ha
   have hget:=Fo.get ha
   have hi2:=wrapUp (show i < 9223372036854775807 by unfold Big at hl; omega)
   have g:=hw.heap st.next (by simp only; omega) (fun h => h)
   have hnx:=hw.next
   simp only at g hnx
   rw [upd_same] at g
   have l1:st.next < nx:=by omega
   have hc:=ih a ham (Fo.oks hoks a ham)
   rw [drop_cons ha,Fo.nBs] at hr
   generalize a.nB = z at hc hr
   obtain ⟨kd1,nm1,ka1,xs1,ty1,kl1,ls1⟩:=a
   rw [Fo.av] at hget hc
   cases z with
   | true =>
    rw [Bool.true_and] at hr
    simp only [RS,RT,RZ,Zu,reduceLT,reduceLeDiff,reduceEqDiff,reduceMul,reduceAdd,reduceSub,reduceCtorEq,Zw,List.map_nil,List.nil_append,Zv,l17_0,t1,t3,hi,hget,hi2,g,l1,hc,Fo.len]
    exact ⟨hw,hr⟩
   | false =>
    rw [Bool.false_and] at hr
    simp only [RS,RT,RZ,Zu,reduceLT,reduceLeDiff,reduceEqDiff,reduceMul,reduceAdd,reduceSub,reduceCtorEq,Zw,List.map_nil,List.nil_append,Zv,l17_0,t1,t3,hi,hget,hi2,g,l1,hc,Fo.len]
    exact ⟨hw,hr.symm⟩
  ·rintro T ⟨h,nx,lg⟩ ⟨t1,t3,hw,hr⟩
   have g:=hw.heap st.next (by simp only; omega) (fun h => h)
   have hnx:=hw.next
   simp only at g hnx
   rw [upd_same] at g
   have l1:st.next < nx:=by omega
   rw [List.drop_length,Fo.nBs] at hr
   simp only [RS,RT,RZ,Zu,reduceLT,reduceLeDiff,reduceEqDiff,reduceMul,reduceAdd,reduceSub,reduceCtorEq,Zw,List.map_nil,List.nil_append,Zv,l17_0,t1,t3,g,l1,Fo.len]
   exact ⟨hw,hr.symm⟩
 have fin:∀ (e:EX) (T:Nat → AV) (h:Nat → AO) (nx:Nat) (lg:List Nat),(Wr (fun _ => False) ⟨upd st.heap st.next (.mem 28 [.int .i64 kd,.str nm,.slice ka (Tm.avs xs),.str tn,.slice tk (Ty.avs tx),.slice kl (Fo.avs ls)] true 0),st.next + 1,[]⟩ ⟨h,nx,lg⟩) → ∀ q ∈ lg,st.next ≤ q:=fun e T h nx lg hw q hq => by
  rcases hw.log q hq with h | h | h
  ·cases h
  ·exact h.elim
  ·simp only at h; omega
 cases e0:isQ kd with
 | true =>
  cases zt with
  | false =>
   unfold isQ at e0
   cases e1:kd == 10 with
   | true => simp only [RS,RT,RZ,Zu,reduceLT,reduceLeDiff,reduceEqDiff,reduceMul,reduceAdd,reduceSub,reduceCtorEq,Zw,List.map_nil,List.nil_append,Zv,x17,F17,Fo.av,Ty.nm,Ty.k,Ty.xs,hc,e1,Bool.true_and,Bool.false_and,Bool.not_true,Bool.not_false]
   | false =>
    rw [e1,Bool.false_or] at e0
    simp only [RS,RT,RZ,Zu,reduceLT,reduceLeDiff,reduceEqDiff,reduceMul,reduceAdd,reduceSub,reduceCtorEq,Zw,List.map_nil,List.nil_append,Zv,x17,F17,Fo.av,Ty.nm,Ty.k,Ty.xs,hc,e1,e0,Bool.true_and,Bool.false_and,Bool.not_true,Bool.not_false]
  | true =>
   unfold isQ at e0
   simp only [Bool.not_true,Bool.and_false,Bool.not_false,Bool.true_and]
   cases e1:kd == 10 with
   | true =>
    simp only [RS,RT,RZ,Zu,reduceLT,reduceLeDiff,reduceEqDiff,reduceMul,reduceAdd,reduceSub,reduceCtorEq,Zw,List.map_nil,List.nil_append,Zv,x17,F17,Fo.av,Ty.nm,Ty.k,Ty.xs,hc,e1]
    refine post_bind (loop _ (by simp only [RS,RT,RZ,Zu,reduceLT,reduceLeDiff,reduceEqDiff,reduceMul,reduceAdd,reduceSub,reduceCtorEq,Zw,List.map_nil,List.nil_append,Zv,]) (by simp only [RS,RT,RZ,Zu,reduceLT,reduceLeDiff,reduceEqDiff,reduceMul,reduceAdd,reduceSub,reduceCtorEq,Zw,List.map_nil,List.nil_append,Zv,])) ?_
    rintro e T ⟨h,nx,lg⟩ ⟨hw,⟨rfl,h2,h3⟩ | ⟨rfl,h3⟩⟩
    ·rw [h3]; simp only [RS,RT,RZ,Zu,reduceLT,reduceLeDiff,reduceEqDiff,reduceMul,reduceAdd,reduceSub,reduceCtorEq,Zw,List.map_nil,List.nil_append,Zv,h2]; exact fin .ret T h nx lg hw
    ·rw [h3]; simp only [RS,RT,RZ,Zu,reduceLT,reduceLeDiff,reduceEqDiff,reduceMul,reduceAdd,reduceSub,reduceCtorEq,Zw,List.map_nil,List.nil_append,Zv,]; exact fin .ret T h nx lg hw
   | false =>
    rw [e1,Bool.false_or] at e0
    simp only [RS,RT,RZ,Zu,reduceLT,reduceLeDiff,reduceEqDiff,reduceMul,reduceAdd,reduceSub,reduceCtorEq,Zw,List.map_nil,List.nil_append,Zv,x17,F17,Fo.av,Ty.nm,Ty.k,Ty.xs,hc,e1,e0]
    refine post_bind (loop _ (by simp only [RS,RT,RZ,Zu,reduceLT,reduceLeDiff,reduceEqDiff,reduceMul,reduceAdd,reduceSub,reduceCtorEq,Zw,List.map_nil,List.nil_append,Zv,]) (by simp only [RS,RT,RZ,Zu,reduceLT,reduceLeDiff,reduceEqDiff,reduceMul,reduceAdd,reduceSub,reduceCtorEq,Zw,List.map_nil,List.nil_append,Zv,])) ?_
    rintro e T ⟨h,nx,lg⟩ ⟨hw,⟨rfl,h2,h3⟩ | ⟨rfl,h3⟩⟩
    ·rw [h3]; simp only [RS,RT,RZ,Zu,reduceLT,reduceLeDiff,reduceEqDiff,reduceMul,reduceAdd,reduceSub,reduceCtorEq,Zw,List.map_nil,List.nil_append,Zv,h2]; exact fin .ret T h nx lg hw
    ·rw [h3]; simp only [RS,RT,RZ,Zu,reduceLT,reduceLeDiff,reduceEqDiff,reduceMul,reduceAdd,reduceSub,reduceCtorEq,Zw,List.map_nil,List.nil_append,Zv,]; exact fin .ret T h nx lg hw
 | false =>
  unfold isQ at e0
  rw [Bool.or_eq_false_iff] at e0
  obtain ⟨e1,e2⟩:=e0
  simp only [Bool.false_and,Bool.not_false,Bool.true_and]
  simp only [RS,RT,RZ,Zu,reduceLT,reduceLeDiff,reduceEqDiff,reduceMul,reduceAdd,reduceSub,reduceCtorEq,Zw,List.map_nil,List.nil_append,Zv,x17,F17,Fo.av,Ty.nm,Ty.k,Ty.xs,hc,e1,e2]
  refine post_bind (loop _ (by simp only [RS,RT,RZ,Zu,reduceLT,reduceLeDiff,reduceEqDiff,reduceMul,reduceAdd,reduceSub,reduceCtorEq,Zw,List.map_nil,List.nil_append,Zv,]) (by simp only [RS,RT,RZ,Zu,reduceLT,reduceLeDiff,reduceEqDiff,reduceMul,reduceAdd,reduceSub,reduceCtorEq,Zw,List.map_nil,List.nil_append,Zv,])) ?_
  rintro e T ⟨h,nx,lg⟩ ⟨hw,⟨rfl,h2,h3⟩ | ⟨rfl,h3⟩⟩
  ·rw [h3]; simp only [RS,RT,RZ,Zu,reduceLT,reduceLeDiff,reduceEqDiff,reduceMul,reduceAdd,reduceSub,reduceCtorEq,Zw,List.map_nil,List.nil_append,Zv,h2]; exact fin .ret T h nx lg hw
  ·rw [h3]; simp only [RS,RT,RZ,Zu,reduceLT,reduceLeDiff,reduceEqDiff,reduceMul,reduceAdd,reduceSub,reduceCtorEq,Zw,List.map_nil,List.nil_append,Zv,]; exact fin .ret T h nx lg hw
end
end Go.Proofs.L06

namespace Go.Proofs.L06
open Go Go.AE
open Nat (reduceLT reduceLeDiff reduceEqDiff reduceMul reduceAdd reduceSub)
set_option maxHeartbeats 8000000
theorem binA_bn {C:Ctx} {xo yo:Operand} {a b:Bool} (h:C.ty 4 = some T4):binA C .neq 4 xo yo (.bool a) (.bool b) = some (.bool (a != b)):=by
 simp only [binA,eqV,h,T4,boolA]
 cases a <;> cases b <;> rfl
theorem un_neg {k:IntKind} {n:Int}:unA .neg (.int k n) = some (.int k (k.wrap (0 - n))):=rfl
theorem sg_bound (a:Int):-1 ≤ sg a ∧ sg a ≤ 1:=by unfold sg; omega
section
variable {Q:Ctx} (hK:K Q) (hI:∀ n:Int,0 ≤ n → n ≤ 100000 → Ret Q 241 [.int .i64 n] (.str (dig n.toNat))) (hS:Ret Q 6 [] (.bool true))
include hK hI hS
theorem order_c {f g h:Fo} (hf:f.Ok) (hg:g.Ok) (hh:h.Ok):Ret Q 4 [f.av,g.av,h.av] (.bool true):=fun st => by
 refine callY (N:=112) (ok4 hK) (hK.nx _ _ _ rfl) rfl rfl ?_
 have r1:=rawFo_c hK hf
 have r2:=rawFo_c hK hg
 have r3:=rawFo_c hK hh
 by_cases e1:rawFo f = 0
 ·by_cases e2:rawFo g = 0
  ·by_cases e3:rawFo h = 0
   ·have p1:=Fo.pt_of f (raw_shp e1)
    have p2:=Fo.pt_of g (raw_shp e2)
    have p3:=Fo.pt_of h (raw_shp e3)
    have c1:=cmp15 hK hf hg e1 e2
    have c2:=cmp15 hK hg hh e2 e3
    have c3:=cmp15 hK hf hh e1 e3
    have c4:=cmp15 hK hg hf e2 e1
    have c5:=cmp15 hK hf hf e1 e1
    have c6:=same13 hK hf hg e1 e2
    rw [order_self p1,sg_0] at c5
    rw [e1] at r1
    rw [e2] at r2
    rw [e3] at r3
    have n1:=named17 hK f hf
    have n2:=named17 hK g hg
    have w1:IntKind.i64.wrap (0 - sg (g.cmp f)) = sg (f.cmp g):=by
     rw [order_anti p1 p2]
     have:=sg_bound (g.cmp f)
     rw [wrap64 (by omega) (by omega)]; omega
    have z1:(sg (f.cmp g) == 0) = (f.cmp g == 0):=by
     rw [Bool.eq_iff_iff,beq_iff_eq,beq_iff_eq]; exact sg_z
    have o1:(decide (sg (f.cmp g) ≤ 0) && (decide (sg (g.cmp h) ≤ 0) && decide (0 < sg (f.cmp h)))) = false:=by
     rw [Bool.and_eq_false_iff,Bool.and_eq_false_iff,decide_eq_false_iff_not,decide_eq_false_iff_not,decide_eq_false_iff_not]
     by_cases a:sg (f.cmp g) ≤ 0
     ·by_cases b:sg (g.cmp h) ≤ 0
      ·have:=order_le p1 p2 p3 a b; omega
      ·exact .inr (.inl b)
     ·exact .inl a
    have o2:(decide (0 ≤ sg (f.cmp g)) && (decide (0 ≤ sg (g.cmp h)) && decide (sg (f.cmp h) < 0))) = false:=by
     rw [Bool.and_eq_false_iff,Bool.and_eq_false_iff,decide_eq_false_iff_not,decide_eq_false_iff_not,decide_eq_false_iff_not]
     by_cases a:0 ≤ sg (f.cmp g)
     ·by_cases b:0 ≤ sg (g.cmp h)
      ·have:=order_ge p1 p2 p3 a b; omega
      ·exact .inr (.inl b)
     ·exact .inl a
    have t1:=fun hn => text11 hK hI hf (Fo.tx_of f (raw_shp e1) hn) e1
    have t2:=fun hn => text11 hK hI hg (Fo.tx_of g (raw_shp e2) hn) e2
    have hT:f.nB = true → g.nB = true → (textF f == []) = false → (textF g == []) = false → (textF f == textF g) = (f.cmp g == 0):=fun a b c d => by
     have h1:=text_law (Fo.tx_of f (raw_shp e1) a) (Fo.tx_of g (raw_shp e2) b)
     have x1:textF f = puts [] f.toks:=by
      unfold textF at c ⊢
      split at c
      ·cases c
      ·rw [if_neg (by assumption)]
     have x2:textF g = puts [] g.toks:=by
      unfold textF at d ⊢
      split at d
      ·cases d
      ·rw [if_neg (by assumption)]
     rw [Bool.eq_iff_iff,beq_iff_eq,beq_iff_eq,x1,x2]; exact h1
    have hbb:=fun {xo yo:Operand} {a b:Bool} => binA_bb (xo:=xo) (yo:=yo) (a:=a) (b:=b) (tw4 hK)
    have hbn:=fun {xo yo:Operand} {a b:Bool} => binA_bn (xo:=xo) (yo:=yo) (a:=a) (b:=b) (tw4 hK)
    generalize sg (g.cmp f) = s4 at *
    generalize f.cmp g = z at *
    generalize sg z = s1 at *
    generalize sg (g.cmp h) = s2 at *
    generalize sg (f.cmp h) = s3 at *
    generalize textF f = T1 at *
    generalize textF g = T2 at *
    generalize f.nB = b1 at *
    generalize g.nB = b2 at *
    obtain ⟨kd1,nm1,ka1,xs1,⟨tn1,tk1,tx1⟩,kl1,ls1⟩:=f
    obtain ⟨kd2,nm2,ka2,xs2,⟨tn2,tk2,tx2⟩,kl2,ls2⟩:=g
    obtain ⟨kd3,nm3,ka3,xs3,⟨tn3,tk3,tx3⟩,kl3,ls3⟩:=h
    simp only [Fo.av,Ty.nm,Ty.k,Ty.xs] at *
    have s11:(s1 != s1) = false:=by simp
    --CASES
    cases f1:decide (s1 ≤ 0) with
    | false =>
     cases f4:decide (0 ≤ s1) with
     | false =>
      cases b1 with
      | false => simp only [RS,RT,RZ,Zu,reduceLT,reduceLeDiff,reduceEqDiff,reduceMul,reduceAdd,reduceSub,reduceCtorEq,Zw,List.map_nil,List.nil_append,Zv,x4,F4,Fo.av,Ty.nm,Ty.k,Ty.xs,hS,r1,r2,r3,c1,c2,c3,c4,c5,c6,n1,n2,w1,un_neg,z1,hbb,hbn,s11,btf,bft,btt,bff,Bool.not_true,Bool.not_false,Int.reduceBEq,Int.reduceBNe,bne_self_eq_false,beq_self_eq_true,if_true,if_false,f1,f4]
      | true =>
       cases b2 with
       | false => simp only [RS,RT,RZ,Zu,reduceLT,reduceLeDiff,reduceEqDiff,reduceMul,reduceAdd,reduceSub,reduceCtorEq,Zw,List.map_nil,List.nil_append,Zv,x4,F4,Fo.av,Ty.nm,Ty.k,Ty.xs,hS,r1,r2,r3,c1,c2,c3,c4,c5,c6,n1,n2,w1,un_neg,z1,hbb,hbn,s11,btf,bft,btt,bff,Bool.not_true,Bool.not_false,Int.reduceBEq,Int.reduceBNe,bne_self_eq_false,beq_self_eq_true,if_true,if_false,f1,f4]
       | true =>
        have u1:=t1 rfl
        have u2:=t2 rfl
        cases g1:(T1 == ([]:List Nat)) with
        | true => simp only [RS,RT,RZ,Zu,reduceLT,reduceLeDiff,reduceEqDiff,reduceMul,reduceAdd,reduceSub,reduceCtorEq,Zw,List.map_nil,List.nil_append,Zv,x4,F4,Fo.av,Ty.nm,Ty.k,Ty.xs,hS,r1,r2,r3,c1,c2,c3,c4,c5,c6,n1,n2,w1,un_neg,z1,hbb,hbn,s11,btf,bft,btt,bff,Bool.not_true,Bool.not_false,Int.reduceBEq,Int.reduceBNe,bne_self_eq_false,beq_self_eq_true,if_true,if_false,f1,f4,u1,u2,g1]
        | false =>
         cases g2:(T2 == ([]:List Nat)) with
         | true => simp only [RS,RT,RZ,Zu,reduceLT,reduceLeDiff,reduceEqDiff,reduceMul,reduceAdd,reduceSub,reduceCtorEq,Zw,List.map_nil,List.nil_append,Zv,x4,F4,Fo.av,Ty.nm,Ty.k,Ty.xs,hS,r1,r2,r3,c1,c2,c3,c4,c5,c6,n1,n2,w1,un_neg,z1,hbb,hbn,s11,btf,bft,btt,bff,Bool.not_true,Bool.not_false,Int.reduceBEq,Int.reduceBNe,bne_self_eq_false,beq_self_eq_true,if_true,if_false,f1,f4,u1,u2,g1,g2]
         | false =>
          have g3:=hT rfl rfl g1 g2
          simp only [RS,RT,RZ,Zu,reduceLT,reduceLeDiff,reduceEqDiff,reduceMul,reduceAdd,reduceSub,reduceCtorEq,Zw,List.map_nil,List.nil_append,Zv,x4,F4,Fo.av,Ty.nm,Ty.k,Ty.xs,hS,r1,r2,r3,c1,c2,c3,c4,c5,c6,n1,n2,w1,un_neg,z1,hbb,hbn,s11,btf,bft,btt,bff,Bool.not_true,Bool.not_false,Int.reduceBEq,Int.reduceBNe,bne_self_eq_false,beq_self_eq_true,if_true,if_false,f1,f4,u1,u2,g1,g2,g3]
     | true =>
      cases f5:decide (0 ≤ s2) with
      | false =>
       cases b1 with
       | false => simp only [RS,RT,RZ,Zu,reduceLT,reduceLeDiff,reduceEqDiff,reduceMul,reduceAdd,reduceSub,reduceCtorEq,Zw,List.map_nil,List.nil_append,Zv,x4,F4,Fo.av,Ty.nm,Ty.k,Ty.xs,hS,r1,r2,r3,c1,c2,c3,c4,c5,c6,n1,n2,w1,un_neg,z1,hbb,hbn,s11,btf,bft,btt,bff,Bool.not_true,Bool.not_false,Int.reduceBEq,Int.reduceBNe,bne_self_eq_false,beq_self_eq_true,if_true,if_false,f1,f4,f5]
       | true =>
        cases b2 with
        | false => simp only [RS,RT,RZ,Zu,reduceLT,reduceLeDiff,reduceEqDiff,reduceMul,reduceAdd,reduceSub,reduceCtorEq,Zw,List.map_nil,List.nil_append,Zv,x4,F4,Fo.av,Ty.nm,Ty.k,Ty.xs,hS,r1,r2,r3,c1,c2,c3,c4,c5,c6,n1,n2,w1,un_neg,z1,hbb,hbn,s11,btf,bft,btt,bff,Bool.not_true,Bool.not_false,Int.reduceBEq,Int.reduceBNe,bne_self_eq_false,beq_self_eq_true,if_true,if_false,f1,f4,f5]
        | true =>
         have u1:=t1 rfl
         have u2:=t2 rfl
         cases g1:(T1 == ([]:List Nat)) with
         | true => simp only [RS,RT,RZ,Zu,reduceLT,reduceLeDiff,reduceEqDiff,reduceMul,reduceAdd,reduceSub,reduceCtorEq,Zw,List.map_nil,List.nil_append,Zv,x4,F4,Fo.av,Ty.nm,Ty.k,Ty.xs,hS,r1,r2,r3,c1,c2,c3,c4,c5,c6,n1,n2,w1,un_neg,z1,hbb,hbn,s11,btf,bft,btt,bff,Bool.not_true,Bool.not_false,Int.reduceBEq,Int.reduceBNe,bne_self_eq_false,beq_self_eq_true,if_true,if_false,f1,f4,f5,u1,u2,g1]
         | false =>
          cases g2:(T2 == ([]:List Nat)) with
          | true => simp only [RS,RT,RZ,Zu,reduceLT,reduceLeDiff,reduceEqDiff,reduceMul,reduceAdd,reduceSub,reduceCtorEq,Zw,List.map_nil,List.nil_append,Zv,x4,F4,Fo.av,Ty.nm,Ty.k,Ty.xs,hS,r1,r2,r3,c1,c2,c3,c4,c5,c6,n1,n2,w1,un_neg,z1,hbb,hbn,s11,btf,bft,btt,bff,Bool.not_true,Bool.not_false,Int.reduceBEq,Int.reduceBNe,bne_self_eq_false,beq_self_eq_true,if_true,if_false,f1,f4,f5,u1,u2,g1,g2]
          | false =>
           have g3:=hT rfl rfl g1 g2
           simp only [RS,RT,RZ,Zu,reduceLT,reduceLeDiff,reduceEqDiff,reduceMul,reduceAdd,reduceSub,reduceCtorEq,Zw,List.map_nil,List.nil_append,Zv,x4,F4,Fo.av,Ty.nm,Ty.k,Ty.xs,hS,r1,r2,r3,c1,c2,c3,c4,c5,c6,n1,n2,w1,un_neg,z1,hbb,hbn,s11,btf,bft,btt,bff,Bool.not_true,Bool.not_false,Int.reduceBEq,Int.reduceBNe,bne_self_eq_false,beq_self_eq_true,if_true,if_false,f1,f4,f5,u1,u2,g1,g2,g3]
      | true =>
       have f6:decide (s3 < 0) = false:=by rw [f4,f5] at o2; exact o2
       cases b1 with
       | false => simp only [RS,RT,RZ,Zu,reduceLT,reduceLeDiff,reduceEqDiff,reduceMul,reduceAdd,reduceSub,reduceCtorEq,Zw,List.map_nil,List.nil_append,Zv,x4,F4,Fo.av,Ty.nm,Ty.k,Ty.xs,hS,r1,r2,r3,c1,c2,c3,c4,c5,c6,n1,n2,w1,un_neg,z1,hbb,hbn,s11,btf,bft,btt,bff,Bool.not_true,Bool.not_false,Int.reduceBEq,Int.reduceBNe,bne_self_eq_false,beq_self_eq_true,if_true,if_false,f1,f4,f5,f6]
       | true =>
        cases b2 with
        | false => simp only [RS,RT,RZ,Zu,reduceLT,reduceLeDiff,reduceEqDiff,reduceMul,reduceAdd,reduceSub,reduceCtorEq,Zw,List.map_nil,List.nil_append,Zv,x4,F4,Fo.av,Ty.nm,Ty.k,Ty.xs,hS,r1,r2,r3,c1,c2,c3,c4,c5,c6,n1,n2,w1,un_neg,z1,hbb,hbn,s11,btf,bft,btt,bff,Bool.not_true,Bool.not_false,Int.reduceBEq,Int.reduceBNe,bne_self_eq_false,beq_self_eq_true,if_true,if_false,f1,f4,f5,f6]
        | true =>
         have u1:=t1 rfl
         have u2:=t2 rfl
         cases g1:(T1 == ([]:List Nat)) with
         | true => simp only [RS,RT,RZ,Zu,reduceLT,reduceLeDiff,reduceEqDiff,reduceMul,reduceAdd,reduceSub,reduceCtorEq,Zw,List.map_nil,List.nil_append,Zv,x4,F4,Fo.av,Ty.nm,Ty.k,Ty.xs,hS,r1,r2,r3,c1,c2,c3,c4,c5,c6,n1,n2,w1,un_neg,z1,hbb,hbn,s11,btf,bft,btt,bff,Bool.not_true,Bool.not_false,Int.reduceBEq,Int.reduceBNe,bne_self_eq_false,beq_self_eq_true,if_true,if_false,f1,f4,f5,f6,u1,u2,g1]
         | false =>
          cases g2:(T2 == ([]:List Nat)) with
          | true => simp only [RS,RT,RZ,Zu,reduceLT,reduceLeDiff,reduceEqDiff,reduceMul,reduceAdd,reduceSub,reduceCtorEq,Zw,List.map_nil,List.nil_append,Zv,x4,F4,Fo.av,Ty.nm,Ty.k,Ty.xs,hS,r1,r2,r3,c1,c2,c3,c4,c5,c6,n1,n2,w1,un_neg,z1,hbb,hbn,s11,btf,bft,btt,bff,Bool.not_true,Bool.not_false,Int.reduceBEq,Int.reduceBNe,bne_self_eq_false,beq_self_eq_true,if_true,if_false,f1,f4,f5,f6,u1,u2,g1,g2]
          | false =>
           have g3:=hT rfl rfl g1 g2
           simp only [RS,RT,RZ,Zu,reduceLT,reduceLeDiff,reduceEqDiff,reduceMul,reduceAdd,reduceSub,reduceCtorEq,Zw,List.map_nil,List.nil_append,Zv,x4,F4,Fo.av,Ty.nm,Ty.k,Ty.xs,hS,r1,r2,r3,c1,c2,c3,c4,c5,c6,n1,n2,w1,un_neg,z1,hbb,hbn,s11,btf,bft,btt,bff,Bool.not_true,Bool.not_false,Int.reduceBEq,Int.reduceBNe,bne_self_eq_false,beq_self_eq_true,if_true,if_false,f1,f4,f5,f6,u1,u2,g1,g2,g3]
    | true =>
     cases f2:decide (s2 ≤ 0) with
     | false =>
      cases f4:decide (0 ≤ s1) with
      | false =>
       cases b1 with
       | false => simp only [RS,RT,RZ,Zu,reduceLT,reduceLeDiff,reduceEqDiff,reduceMul,reduceAdd,reduceSub,reduceCtorEq,Zw,List.map_nil,List.nil_append,Zv,x4,F4,Fo.av,Ty.nm,Ty.k,Ty.xs,hS,r1,r2,r3,c1,c2,c3,c4,c5,c6,n1,n2,w1,un_neg,z1,hbb,hbn,s11,btf,bft,btt,bff,Bool.not_true,Bool.not_false,Int.reduceBEq,Int.reduceBNe,bne_self_eq_false,beq_self_eq_true,if_true,if_false,f1,f2,f4]
       | true =>
        cases b2 with
        | false => simp only [RS,RT,RZ,Zu,reduceLT,reduceLeDiff,reduceEqDiff,reduceMul,reduceAdd,reduceSub,reduceCtorEq,Zw,List.map_nil,List.nil_append,Zv,x4,F4,Fo.av,Ty.nm,Ty.k,Ty.xs,hS,r1,r2,r3,c1,c2,c3,c4,c5,c6,n1,n2,w1,un_neg,z1,hbb,hbn,s11,btf,bft,btt,bff,Bool.not_true,Bool.not_false,Int.reduceBEq,Int.reduceBNe,bne_self_eq_false,beq_self_eq_true,if_true,if_false,f1,f2,f4]
        | true =>
         have u1:=t1 rfl
         have u2:=t2 rfl
         cases g1:(T1 == ([]:List Nat)) with
         | true => simp only [RS,RT,RZ,Zu,reduceLT,reduceLeDiff,reduceEqDiff,reduceMul,reduceAdd,reduceSub,reduceCtorEq,Zw,List.map_nil,List.nil_append,Zv,x4,F4,Fo.av,Ty.nm,Ty.k,Ty.xs,hS,r1,r2,r3,c1,c2,c3,c4,c5,c6,n1,n2,w1,un_neg,z1,hbb,hbn,s11,btf,bft,btt,bff,Bool.not_true,Bool.not_false,Int.reduceBEq,Int.reduceBNe,bne_self_eq_false,beq_self_eq_true,if_true,if_false,f1,f2,f4,u1,u2,g1]
         | false =>
          cases g2:(T2 == ([]:List Nat)) with
          | true => simp only [RS,RT,RZ,Zu,reduceLT,reduceLeDiff,reduceEqDiff,reduceMul,reduceAdd,reduceSub,reduceCtorEq,Zw,List.map_nil,List.nil_append,Zv,x4,F4,Fo.av,Ty.nm,Ty.k,Ty.xs,hS,r1,r2,r3,c1,c2,c3,c4,c5,c6,n1,n2,w1,un_neg,z1,hbb,hbn,s11,btf,bft,btt,bff,Bool.not_true,Bool.not_false,Int.reduceBEq,Int.reduceBNe,bne_self_eq_false,beq_self_eq_true,if_true,if_false,f1,f2,f4,u1,u2,g1,g2]
          | false =>
           have g3:=hT rfl rfl g1 g2
           simp only [RS,RT,RZ,Zu,reduceLT,reduceLeDiff,reduceEqDiff,reduceMul,reduceAdd,reduceSub,reduceCtorEq,Zw,List.map_nil,List.nil_append,Zv,x4,F4,Fo.av,Ty.nm,Ty.k,Ty.xs,hS,r1,r2,r3,c1,c2,c3,c4,c5,c6,n1,n2,w1,un_neg,z1,hbb,hbn,s11,btf,bft,btt,bff,Bool.not_true,Bool.not_false,Int.reduceBEq,Int.reduceBNe,bne_self_eq_false,beq_self_eq_true,if_true,if_false,f1,f2,f4,u1,u2,g1,g2,g3]
      | true =>
       cases f5:decide (0 ≤ s2) with
       | false =>
        cases b1 with
        | false => simp only [RS,RT,RZ,Zu,reduceLT,reduceLeDiff,reduceEqDiff,reduceMul,reduceAdd,reduceSub,reduceCtorEq,Zw,List.map_nil,List.nil_append,Zv,x4,F4,Fo.av,Ty.nm,Ty.k,Ty.xs,hS,r1,r2,r3,c1,c2,c3,c4,c5,c6,n1,n2,w1,un_neg,z1,hbb,hbn,s11,btf,bft,btt,bff,Bool.not_true,Bool.not_false,Int.reduceBEq,Int.reduceBNe,bne_self_eq_false,beq_self_eq_true,if_true,if_false,f1,f2,f4,f5]
        | true =>
         cases b2 with
         | false => simp only [RS,RT,RZ,Zu,reduceLT,reduceLeDiff,reduceEqDiff,reduceMul,reduceAdd,reduceSub,reduceCtorEq,Zw,List.map_nil,List.nil_append,Zv,x4,F4,Fo.av,Ty.nm,Ty.k,Ty.xs,hS,r1,r2,r3,c1,c2,c3,c4,c5,c6,n1,n2,w1,un_neg,z1,hbb,hbn,s11,btf,bft,btt,bff,Bool.not_true,Bool.not_false,Int.reduceBEq,Int.reduceBNe,bne_self_eq_false,beq_self_eq_true,if_true,if_false,f1,f2,f4,f5]
         | true =>
          have u1:=t1 rfl
          have u2:=t2 rfl
          cases g1:(T1 == ([]:List Nat)) with
          | true => simp only [RS,RT,RZ,Zu,reduceLT,reduceLeDiff,reduceEqDiff,reduceMul,reduceAdd,reduceSub,reduceCtorEq,Zw,List.map_nil,List.nil_append,Zv,x4,F4,Fo.av,Ty.nm,Ty.k,Ty.xs,hS,r1,r2,r3,c1,c2,c3,c4,c5,c6,n1,n2,w1,un_neg,z1,hbb,hbn,s11,btf,bft,btt,bff,Bool.not_true,Bool.not_false,Int.reduceBEq,Int.reduceBNe,bne_self_eq_false,beq_self_eq_true,if_true,if_false,f1,f2,f4,f5,u1,u2,g1]
          | false =>
           cases g2:(T2 == ([]:List Nat)) with
           | true => simp only [RS,RT,RZ,Zu,reduceLT,reduceLeDiff,reduceEqDiff,reduceMul,reduceAdd,reduceSub,reduceCtorEq,Zw,List.map_nil,List.nil_append,Zv,x4,F4,Fo.av,Ty.nm,Ty.k,Ty.xs,hS,r1,r2,r3,c1,c2,c3,c4,c5,c6,n1,n2,w1,un_neg,z1,hbb,hbn,s11,btf,bft,btt,bff,Bool.not_true,Bool.not_false,Int.reduceBEq,Int.reduceBNe,bne_self_eq_false,beq_self_eq_true,if_true,if_false,f1,f2,f4,f5,u1,u2,g1,g2]
           | false =>
            have g3:=hT rfl rfl g1 g2
            simp only [RS,RT,RZ,Zu,reduceLT,reduceLeDiff,reduceEqDiff,reduceMul,reduceAdd,reduceSub,reduceCtorEq,Zw,List.map_nil,List.nil_append,Zv,x4,F4,Fo.av,Ty.nm,Ty.k,Ty.xs,hS,r1,r2,r3,c1,c2,c3,c4,c5,c6,n1,n2,w1,un_neg,z1,hbb,hbn,s11,btf,bft,btt,bff,Bool.not_true,Bool.not_false,Int.reduceBEq,Int.reduceBNe,bne_self_eq_false,beq_self_eq_true,if_true,if_false,f1,f2,f4,f5,u1,u2,g1,g2,g3]
       | true =>
        have f6:decide (s3 < 0) = false:=by rw [f4,f5] at o2; exact o2
        cases b1 with
        | false => simp only [RS,RT,RZ,Zu,reduceLT,reduceLeDiff,reduceEqDiff,reduceMul,reduceAdd,reduceSub,reduceCtorEq,Zw,List.map_nil,List.nil_append,Zv,x4,F4,Fo.av,Ty.nm,Ty.k,Ty.xs,hS,r1,r2,r3,c1,c2,c3,c4,c5,c6,n1,n2,w1,un_neg,z1,hbb,hbn,s11,btf,bft,btt,bff,Bool.not_true,Bool.not_false,Int.reduceBEq,Int.reduceBNe,bne_self_eq_false,beq_self_eq_true,if_true,if_false,f1,f2,f4,f5,f6]
        | true =>
         cases b2 with
         | false => simp only [RS,RT,RZ,Zu,reduceLT,reduceLeDiff,reduceEqDiff,reduceMul,reduceAdd,reduceSub,reduceCtorEq,Zw,List.map_nil,List.nil_append,Zv,x4,F4,Fo.av,Ty.nm,Ty.k,Ty.xs,hS,r1,r2,r3,c1,c2,c3,c4,c5,c6,n1,n2,w1,un_neg,z1,hbb,hbn,s11,btf,bft,btt,bff,Bool.not_true,Bool.not_false,Int.reduceBEq,Int.reduceBNe,bne_self_eq_false,beq_self_eq_true,if_true,if_false,f1,f2,f4,f5,f6]
         | true =>
          have u1:=t1 rfl
          have u2:=t2 rfl
          cases g1:(T1 == ([]:List Nat)) with
          | true => simp only [RS,RT,RZ,Zu,reduceLT,reduceLeDiff,reduceEqDiff,reduceMul,reduceAdd,reduceSub,reduceCtorEq,Zw,List.map_nil,List.nil_append,Zv,x4,F4,Fo.av,Ty.nm,Ty.k,Ty.xs,hS,r1,r2,r3,c1,c2,c3,c4,c5,c6,n1,n2,w1,un_neg,z1,hbb,hbn,s11,btf,bft,btt,bff,Bool.not_true,Bool.not_false,Int.reduceBEq,Int.reduceBNe,bne_self_eq_false,beq_self_eq_true,if_true,if_false,f1,f2,f4,f5,f6,u1,u2,g1]
          | false =>
           cases g2:(T2 == ([]:List Nat)) with
           | true => simp only [RS,RT,RZ,Zu,reduceLT,reduceLeDiff,reduceEqDiff,reduceMul,reduceAdd,reduceSub,reduceCtorEq,Zw,List.map_nil,List.nil_append,Zv,x4,F4,Fo.av,Ty.nm,Ty.k,Ty.xs,hS,r1,r2,r3,c1,c2,c3,c4,c5,c6,n1,n2,w1,un_neg,z1,hbb,hbn,s11,btf,bft,btt,bff,Bool.not_true,Bool.not_false,Int.reduceBEq,Int.reduceBNe,bne_self_eq_false,beq_self_eq_true,if_true,if_false,f1,f2,f4,f5,f6,u1,u2,g1,g2]
           | false =>
            have g3:=hT rfl rfl g1 g2
            simp only [RS,RT,RZ,Zu,reduceLT,reduceLeDiff,reduceEqDiff,reduceMul,reduceAdd,reduceSub,reduceCtorEq,Zw,List.map_nil,List.nil_append,Zv,x4,F4,Fo.av,Ty.nm,Ty.k,Ty.xs,hS,r1,r2,r3,c1,c2,c3,c4,c5,c6,n1,n2,w1,un_neg,z1,hbb,hbn,s11,btf,bft,btt,bff,Bool.not_true,Bool.not_false,Int.reduceBEq,Int.reduceBNe,bne_self_eq_false,beq_self_eq_true,if_true,if_false,f1,f2,f4,f5,f6,u1,u2,g1,g2,g3]
     | true =>
      have f3:decide (0 < s3) = false:=by rw [f1,f2] at o1; exact o1
      cases f4:decide (0 ≤ s1) with
      | false =>
       cases b1 with
       | false => simp only [RS,RT,RZ,Zu,reduceLT,reduceLeDiff,reduceEqDiff,reduceMul,reduceAdd,reduceSub,reduceCtorEq,Zw,List.map_nil,List.nil_append,Zv,x4,F4,Fo.av,Ty.nm,Ty.k,Ty.xs,hS,r1,r2,r3,c1,c2,c3,c4,c5,c6,n1,n2,w1,un_neg,z1,hbb,hbn,s11,btf,bft,btt,bff,Bool.not_true,Bool.not_false,Int.reduceBEq,Int.reduceBNe,bne_self_eq_false,beq_self_eq_true,if_true,if_false,f1,f2,f3,f4]
       | true =>
        cases b2 with
        | false => simp only [RS,RT,RZ,Zu,reduceLT,reduceLeDiff,reduceEqDiff,reduceMul,reduceAdd,reduceSub,reduceCtorEq,Zw,List.map_nil,List.nil_append,Zv,x4,F4,Fo.av,Ty.nm,Ty.k,Ty.xs,hS,r1,r2,r3,c1,c2,c3,c4,c5,c6,n1,n2,w1,un_neg,z1,hbb,hbn,s11,btf,bft,btt,bff,Bool.not_true,Bool.not_false,Int.reduceBEq,Int.reduceBNe,bne_self_eq_false,beq_self_eq_true,if_true,if_false,f1,f2,f3,f4]
        | true =>
         have u1:=t1 rfl
         have u2:=t2 rfl
         cases g1:(T1 == ([]:List Nat)) with
         | true => simp only [RS,RT,RZ,Zu,reduceLT,reduceLeDiff,reduceEqDiff,reduceMul,reduceAdd,reduceSub,reduceCtorEq,Zw,List.map_nil,List.nil_append,Zv,x4,F4,Fo.av,Ty.nm,Ty.k,Ty.xs,hS,r1,r2,r3,c1,c2,c3,c4,c5,c6,n1,n2,w1,un_neg,z1,hbb,hbn,s11,btf,bft,btt,bff,Bool.not_true,Bool.not_false,Int.reduceBEq,Int.reduceBNe,bne_self_eq_false,beq_self_eq_true,if_true,if_false,f1,f2,f3,f4,u1,u2,g1]
         | false =>
          cases g2:(T2 == ([]:List Nat)) with
          | true => simp only [RS,RT,RZ,Zu,reduceLT,reduceLeDiff,reduceEqDiff,reduceMul,reduceAdd,reduceSub,reduceCtorEq,Zw,List.map_nil,List.nil_append,Zv,x4,F4,Fo.av,Ty.nm,Ty.k,Ty.xs,hS,r1,r2,r3,c1,c2,c3,c4,c5,c6,n1,n2,w1,un_neg,z1,hbb,hbn,s11,btf,bft,btt,bff,Bool.not_true,Bool.not_false,Int.reduceBEq,Int.reduceBNe,bne_self_eq_false,beq_self_eq_true,if_true,if_false,f1,f2,f3,f4,u1,u2,g1,g2]
          | false =>
           have g3:=hT rfl rfl g1 g2
           simp only [RS,RT,RZ,Zu,reduceLT,reduceLeDiff,reduceEqDiff,reduceMul,reduceAdd,reduceSub,reduceCtorEq,Zw,List.map_nil,List.nil_append,Zv,x4,F4,Fo.av,Ty.nm,Ty.k,Ty.xs,hS,r1,r2,r3,c1,c2,c3,c4,c5,c6,n1,n2,w1,un_neg,z1,hbb,hbn,s11,btf,bft,btt,bff,Bool.not_true,Bool.not_false,Int.reduceBEq,Int.reduceBNe,bne_self_eq_false,beq_self_eq_true,if_true,if_false,f1,f2,f3,f4,u1,u2,g1,g2,g3]
      | true =>
       cases f5:decide (0 ≤ s2) with
       | false =>
        cases b1 with
        | false => simp only [RS,RT,RZ,Zu,reduceLT,reduceLeDiff,reduceEqDiff,reduceMul,reduceAdd,reduceSub,reduceCtorEq,Zw,List.map_nil,List.nil_append,Zv,x4,F4,Fo.av,Ty.nm,Ty.k,Ty.xs,hS,r1,r2,r3,c1,c2,c3,c4,c5,c6,n1,n2,w1,un_neg,z1,hbb,hbn,s11,btf,bft,btt,bff,Bool.not_true,Bool.not_false,Int.reduceBEq,Int.reduceBNe,bne_self_eq_false,beq_self_eq_true,if_true,if_false,f1,f2,f3,f4,f5]
        | true =>
         cases b2 with
         | false => simp only [RS,RT,RZ,Zu,reduceLT,reduceLeDiff,reduceEqDiff,reduceMul,reduceAdd,reduceSub,reduceCtorEq,Zw,List.map_nil,List.nil_append,Zv,x4,F4,Fo.av,Ty.nm,Ty.k,Ty.xs,hS,r1,r2,r3,c1,c2,c3,c4,c5,c6,n1,n2,w1,un_neg,z1,hbb,hbn,s11,btf,bft,btt,bff,Bool.not_true,Bool.not_false,Int.reduceBEq,Int.reduceBNe,bne_self_eq_false,beq_self_eq_true,if_true,if_false,f1,f2,f3,f4,f5]
         | true =>
          have u1:=t1 rfl
          have u2:=t2 rfl
          cases g1:(T1 == ([]:List Nat)) with
          | true => simp only [RS,RT,RZ,Zu,reduceLT,reduceLeDiff,reduceEqDiff,reduceMul,reduceAdd,reduceSub,reduceCtorEq,Zw,List.map_nil,List.nil_append,Zv,x4,F4,Fo.av,Ty.nm,Ty.k,Ty.xs,hS,r1,r2,r3,c1,c2,c3,c4,c5,c6,n1,n2,w1,un_neg,z1,hbb,hbn,s11,btf,bft,btt,bff,Bool.not_true,Bool.not_false,Int.reduceBEq,Int.reduceBNe,bne_self_eq_false,beq_self_eq_true,if_true,if_false,f1,f2,f3,f4,f5,u1,u2,g1]
          | false =>
           cases g2:(T2 == ([]:List Nat)) with
           | true => simp only [RS,RT,RZ,Zu,reduceLT,reduceLeDiff,reduceEqDiff,reduceMul,reduceAdd,reduceSub,reduceCtorEq,Zw,List.map_nil,List.nil_append,Zv,x4,F4,Fo.av,Ty.nm,Ty.k,Ty.xs,hS,r1,r2,r3,c1,c2,c3,c4,c5,c6,n1,n2,w1,un_neg,z1,hbb,hbn,s11,btf,bft,btt,bff,Bool.not_true,Bool.not_false,Int.reduceBEq,Int.reduceBNe,bne_self_eq_false,beq_self_eq_true,if_true,if_false,f1,f2,f3,f4,f5,u1,u2,g1,g2]
           | false =>
            have g3:=hT rfl rfl g1 g2
            simp only [RS,RT,RZ,Zu,reduceLT,reduceLeDiff,reduceEqDiff,reduceMul,reduceAdd,reduceSub,reduceCtorEq,Zw,List.map_nil,List.nil_append,Zv,x4,F4,Fo.av,Ty.nm,Ty.k,Ty.xs,hS,r1,r2,r3,c1,c2,c3,c4,c5,c6,n1,n2,w1,un_neg,z1,hbb,hbn,s11,btf,bft,btt,bff,Bool.not_true,Bool.not_false,Int.reduceBEq,Int.reduceBNe,bne_self_eq_false,beq_self_eq_true,if_true,if_false,f1,f2,f3,f4,f5,u1,u2,g1,g2,g3]
       | true =>
        have f6:decide (s3 < 0) = false:=by rw [f4,f5] at o2; exact o2
        cases b1 with
        | false => simp only [RS,RT,RZ,Zu,reduceLT,reduceLeDiff,reduceEqDiff,reduceMul,reduceAdd,reduceSub,reduceCtorEq,Zw,List.map_nil,List.nil_append,Zv,x4,F4,Fo.av,Ty.nm,Ty.k,Ty.xs,hS,r1,r2,r3,c1,c2,c3,c4,c5,c6,n1,n2,w1,un_neg,z1,hbb,hbn,s11,btf,bft,btt,bff,Bool.not_true,Bool.not_false,Int.reduceBEq,Int.reduceBNe,bne_self_eq_false,beq_self_eq_true,if_true,if_false,f1,f2,f3,f4,f5,f6]
        | true =>
         cases b2 with
         | false => simp only [RS,RT,RZ,Zu,reduceLT,reduceLeDiff,reduceEqDiff,reduceMul,reduceAdd,reduceSub,reduceCtorEq,Zw,List.map_nil,List.nil_append,Zv,x4,F4,Fo.av,Ty.nm,Ty.k,Ty.xs,hS,r1,r2,r3,c1,c2,c3,c4,c5,c6,n1,n2,w1,un_neg,z1,hbb,hbn,s11,btf,bft,btt,bff,Bool.not_true,Bool.not_false,Int.reduceBEq,Int.reduceBNe,bne_self_eq_false,beq_self_eq_true,if_true,if_false,f1,f2,f3,f4,f5,f6]
         | true =>
          have u1:=t1 rfl
          have u2:=t2 rfl
          cases g1:(T1 == ([]:List Nat)) with
          | true => simp only [RS,RT,RZ,Zu,reduceLT,reduceLeDiff,reduceEqDiff,reduceMul,reduceAdd,reduceSub,reduceCtorEq,Zw,List.map_nil,List.nil_append,Zv,x4,F4,Fo.av,Ty.nm,Ty.k,Ty.xs,hS,r1,r2,r3,c1,c2,c3,c4,c5,c6,n1,n2,w1,un_neg,z1,hbb,hbn,s11,btf,bft,btt,bff,Bool.not_true,Bool.not_false,Int.reduceBEq,Int.reduceBNe,bne_self_eq_false,beq_self_eq_true,if_true,if_false,f1,f2,f3,f4,f5,f6,u1,u2,g1]
          | false =>
           cases g2:(T2 == ([]:List Nat)) with
           | true => simp only [RS,RT,RZ,Zu,reduceLT,reduceLeDiff,reduceEqDiff,reduceMul,reduceAdd,reduceSub,reduceCtorEq,Zw,List.map_nil,List.nil_append,Zv,x4,F4,Fo.av,Ty.nm,Ty.k,Ty.xs,hS,r1,r2,r3,c1,c2,c3,c4,c5,c6,n1,n2,w1,un_neg,z1,hbb,hbn,s11,btf,bft,btt,bff,Bool.not_true,Bool.not_false,Int.reduceBEq,Int.reduceBNe,bne_self_eq_false,beq_self_eq_true,if_true,if_false,f1,f2,f3,f4,f5,f6,u1,u2,g1,g2]
           | false =>
            have g3:=hT rfl rfl g1 g2
            simp only [RS,RT,RZ,Zu,reduceLT,reduceLeDiff,reduceEqDiff,reduceMul,reduceAdd,reduceSub,reduceCtorEq,Zw,List.map_nil,List.nil_append,Zv,x4,F4,Fo.av,Ty.nm,Ty.k,Ty.xs,hS,r1,r2,r3,c1,c2,c3,c4,c5,c6,n1,n2,w1,un_neg,z1,hbb,hbn,s11,btf,bft,btt,bff,Bool.not_true,Bool.not_false,Int.reduceBEq,Int.reduceBNe,bne_self_eq_false,beq_self_eq_true,if_true,if_false,f1,f2,f3,f4,f5,f6,u1,u2,g1,g2,g3]
   ·have e3':(rawFo h != 0) = true:=by rw [bne_iff_ne]; exact e3
    rw [e1] at r1
    rw [e2] at r2
    generalize rawFo h = z3 at *
    obtain ⟨kd1,nm1,ka1,xs1,⟨tn1,tk1,tx1⟩,kl1,ls1⟩:=f
    obtain ⟨kd2,nm2,ka2,xs2,⟨tn2,tk2,tx2⟩,kl2,ls2⟩:=g
    obtain ⟨kd3,nm3,ka3,xs3,⟨tn3,tk3,tx3⟩,kl3,ls3⟩:=h
    simp only [Fo.av,Ty.nm,Ty.k,Ty.xs] at *
    simp only [RS,RT,RZ,Zu,reduceLT,reduceLeDiff,reduceEqDiff,reduceMul,reduceAdd,reduceSub,reduceCtorEq,Zw,List.map_nil,List.nil_append,Zv,x4,F4,Fo.av,Ty.nm,Ty.k,Ty.xs,hS,r1,r2,r3,e3',Int.reduceBNe,bne_self_eq_false]
  ·have e2':(rawFo g != 0) = true:=by rw [bne_iff_ne]; exact e2
   rw [e1] at r1
   generalize rawFo g = z2 at *
   obtain ⟨kd1,nm1,ka1,xs1,⟨tn1,tk1,tx1⟩,kl1,ls1⟩:=f
   obtain ⟨kd2,nm2,ka2,xs2,⟨tn2,tk2,tx2⟩,kl2,ls2⟩:=g
   obtain ⟨kd3,nm3,ka3,xs3,⟨tn3,tk3,tx3⟩,kl3,ls3⟩:=h
   simp only [Fo.av,Ty.nm,Ty.k,Ty.xs] at *
   simp only [RS,RT,RZ,Zu,reduceLT,reduceLeDiff,reduceEqDiff,reduceMul,reduceAdd,reduceSub,reduceCtorEq,Zw,List.map_nil,List.nil_append,Zv,x4,F4,Fo.av,Ty.nm,Ty.k,Ty.xs,hS,r1,r2,e2',Int.reduceBNe,bne_self_eq_false]
 ·have e1':(rawFo f != 0) = true:=by rw [bne_iff_ne]; exact e1
  generalize rawFo f = z1 at *
  obtain ⟨kd1,nm1,ka1,xs1,⟨tn1,tk1,tx1⟩,kl1,ls1⟩:=f
  obtain ⟨kd2,nm2,ka2,xs2,⟨tn2,tk2,tx2⟩,kl2,ls2⟩:=g
  obtain ⟨kd3,nm3,ka3,xs3,⟨tn3,tk3,tx3⟩,kl3,ls3⟩:=h
  simp only [Fo.av,Ty.nm,Ty.k,Ty.xs] at *
  simp only [RS,RT,RZ,Zu,reduceLT,reduceLeDiff,reduceEqDiff,reduceMul,reduceAdd,reduceSub,reduceCtorEq,Zw,List.map_nil,List.nil_append,Zv,x4,F4,Fo.av,Ty.nm,Ty.k,Ty.xs,hS,r1,e1',Int.reduceBNe,bne_self_eq_false]
end
end Go.Proofs.L06
