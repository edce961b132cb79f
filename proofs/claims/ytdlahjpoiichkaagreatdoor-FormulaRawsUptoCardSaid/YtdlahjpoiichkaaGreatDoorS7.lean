/- Text: at every formula. -/
import Derived.Test.YtdlahjpoiichkaaGreatDoorS6
set_option linter.unusedVariables false
set_option linter.unusedSimpArgs false
set_option linter.unusedSectionVars false
namespace Go.Proofs.L06
open Go Go.AE
open Nat renaming reduceLT → rA,reduceLeDiff → rB,reduceEqDiff → rC,reduceMul → rD,reduceAdd → rE,reduceSub → rF
set_option maxHeartbeats 8000000
def bytesA (b:List Nat):List AV:=b.map fun c => .int .u8 (.ofNat c)
theorem bytesA_len (b:List Nat):(bytesA b).length = b.length:=by simp [bytesA]
def Tera:Nat:=1000000000000
def BufV (p:Nat) (st:St) (b:List Nat) (bf:AV):Prop :=
 (b = [] ∧ bf = .slice .nil []) ∨ (b ≠ [] ∧ ∃ r,bf = .row r 0 b.length none ∧ st.heap r = .mem 5 (bytesA b) false 0 ∧ r < st.next ∧ p < r)
structure Buf (p:Nat) (st:St) (b:List Nat):Prop where
 lt:p < st.next
 obj:∃ ad bf,st.heap p = .mem 98 [ad,bf] true 0 ∧ (ad = .nilp ∨ ad = .ptr p 0) ∧ BufV p st b bf
structure WB (p:Nat) (a b:St):Prop where
 heap:∀ q t cs z,q < a.next → q ≠ p → a.heap q = .mem t cs true z → b.heap q = .mem t cs true z
 next:a.next ≤ b.next
 dead:∀ q,q < a.next → (a.heap q).isDead = true → (b.heap q).isDead = true
 log:∀ l ∈ b.log,l ∈ a.log ∨ (p ≤ l ∧ (l < a.next → (a.heap l).isDead = false))
 keep:∀ l ∈ a.log,l ∈ b.log
theorem WB.refl {p:Nat} (a:St):WB p a a:=⟨fun _ _ _ _ _ _ h => h,Nat.le_refl _,fun _ _ h => h,fun _ h => .inl h,fun _ h => h⟩
theorem not_dead {a b:AO} (h:a.isDead = true → b.isDead = true) (hb:b.isDead = false):a.isDead = false:=by
 cases e:a.isDead with
 | false => rfl
 | true => rw [h e] at hb; cases hb
theorem WB.trans {p:Nat} {a b c:St} (h:WB p a b) (k:WB p b c):WB p a c :=
 ⟨fun q t cs z h1 h2 h3 => k.heap q t cs z (Nat.lt_of_lt_of_le h1 h.next) h2 (h.heap q t cs z h1 h2 h3),Nat.le_trans h.next k.next,fun q h1 h2 => k.dead q (Nat.lt_of_lt_of_le h1 h.next) (h.dead q h1 h2),fun l hl => by
  rcases k.log l hl with e | ⟨e1,e2⟩
  ·exact h.log l e
  ·exact .inr ⟨e1,fun h1 => not_dead (h.dead l h1) (e2 (Nat.lt_of_lt_of_le h1 h.next))⟩,fun l hl => k.keep l (h.keep l hl)⟩
theorem WB.new {p:Nat} {a:St} {h:Nat → AO} {nx:Nat} {lg lg2:List Nat} {o:AO} (hw:WB p a ⟨h,nx,lg⟩) (hp:p < a.next) (hl:∀ l ∈ lg2,l = nx ∨ l ∈ lg) (hk:∀ l ∈ lg,l ∈ lg2):WB p a ⟨upd h nx o,nx + 1,lg2⟩:=by
 have hn:=hw.next
 simp only at hn
 refine ⟨fun q t cs z h1 h2 h3 => ?_,by simp only; omega,fun q h1 h2 => ?_,fun l hm => ?_,fun l hm => hk l (hw.keep l hm)⟩
 ·simp only
  rw [upd_ne _ _ (by omega)]; exact hw.heap q t cs z h1 h2 h3
 ·simp only
  rw [upd_ne _ _ (by omega)]; exact hw.dead q h1 h2
 ·rcases hl l hm with rfl | hm
  ·exact .inr ⟨by omega,fun h => by omega⟩
  ·exact hw.log l hm
theorem Buf.new {p:Nat} {h:Nat → AO} {nx:Nat} {lg lg2:List Nat} {o:AO} {b:List Nat} (hb:Buf p ⟨h,nx,lg⟩ b):Buf p ⟨upd h nx o,nx + 1,lg2⟩ b:=by
 obtain ⟨h1,ad,bf,h2,h3,h4⟩:=hb
 simp only at h1 h2
 refine ⟨by simp only; omega,ad,bf,by simp only; rw [upd_ne _ _ (by omega)]; exact h2,h3,?_⟩
 rcases h4 with h4 | ⟨h4,r,h5,h6,h7,h8⟩
 ·exact .inl h4
 ·simp only at h6 h7
  exact .inr ⟨h4,r,h5,by simp only; rw [upd_ne _ _ (by omega)]; exact h6,by simp only; omega,h8⟩
theorem Buf.log {p:Nat} {h:Nat → AO} {nx:Nat} {lg lg2:List Nat} {b:List Nat} (hb:Buf p ⟨h,nx,lg⟩ b):Buf p ⟨h,nx,lg2⟩ b:=⟨hb.lt,hb.obj⟩
theorem WB.hitp {p:Nat} {a:St} {h:Nat → AO} {nx:Nat} {lg lg2:List Nat} {o:AO} (hw:WB p a ⟨h,nx,lg⟩) (h0:(a.heap p).isDead = false) (hl:∀ l ∈ lg2,l = p ∨ l ∈ lg) (hk:∀ l ∈ lg,l ∈ lg2):WB p a ⟨upd h p o,nx,lg2⟩ :=
 ⟨fun q t cs z h1 h2 h3 => by simp only; rw [upd_ne _ _ h2]; exact hw.heap q t cs z h1 h2 h3,hw.next,fun q h1 h2 => by
  simp only
  rw [upd_ne _ _ (fun e => by subst e; rw [h0] at h2; cases h2)]; exact hw.dead q h1 h2,fun l hm => by
  rcases hl l hm with rfl | hm
  ·exact .inr ⟨Nat.le_refl _,fun _ => h0⟩
  ·exact hw.log l hm,fun l hm => hk l (hw.keep l hm)⟩
theorem Buf.live {p:Nat} {a:St} {b:List Nat} (h:Buf p a b):(a.heap p).isDead = false:=by
 obtain ⟨_,_,_,h2,_⟩:=h
 rw [h2]; rfl
theorem puts_ge:∀ (l:Toks) (b:List Nat),b.length ≤ (puts b l).length
 | [],b => Nat.le_refl _
 | s :: l,b => by
  rw [puts,List.foldl_cons]
  have:=puts_ge l (putT b s)
  rw [puts] at this
  refine Nat.le_trans ?_ this
  unfold putT
  split <;> simp <;> omega
theorem puts_app (b:List Nat) (l l':Toks):puts b (l ++ l') = puts (puts b l) l':=by rw [puts,puts,puts,List.foldl_append]
def Puts (Q:Ctx) (f:FuncId) (args:List AV) (p:Nat) (l:Toks):Prop :=
 ∀ st b,Buf p st b → (puts b l).length ≤ Tera → ∃ st',callW Q (.fn f) args .normal st = some (.ret (.tuple []),st',none) ∧ WB p st st' ∧ Buf p st' (puts b l) ∧ (p ∈ st'.log ∨ puts b l = b) ∧ ∀ l ∈ st'.log,l ∈ st.log ∨ l < st.next
section
variable {Q:Ctx} {f:FuncId} {fi:FI} {x:XC} {N p:Nat} {args:List AV} {st:St} {mu:Bool} {b b':List Nat} {v:AV}
theorem wb_end (ok:FnOk Q f fi x mu) (hX:Q.X f args st = none) (hN:max fi.ntmps args.length = N) (hB:Buf p st b) (hv:∀ st1,freezeR Q st1 v = some (v,st1)) (hu:untok v = v)
  (h:Post N [] none (execY (callW Q) Q mu f none x ⟨argTmps args,N,[],none⟩ ⟨st.heap,st.next,[]⟩) fun e T st1 => endOf e = some none ∧ (resultsA Q st1 T fi.results).map packA = some v ∧ WB p ⟨st.heap,st.next,[]⟩ st1 ∧ Buf p st1 b' ∧ (p ∈ st1.log ∨ b' = b)) :
  ∃ st',callW Q (.fn f) args .normal st = some (.ret v,st',none) ∧ WB p st st' ∧ Buf p st' b' ∧ (p ∈ st'.log ∨ b' = b) ∧ ∀ l ∈ st'.log,l ∈ st.log ∨ l < st.next:=by
 obtain ⟨e,T,st1,h1,he,hr,hw,hb,hm⟩:=h
 refine ⟨_,callYr ok hX hN ⟨_,h1,finish_ret (v0:=v) (v:=v) (st3:=st1) he hr (by
  have:=frz_noRow (C:=Q) (f:=f) (hv st1) fun _ => hu
  rw [hu] at this
  exact this)⟩,?_⟩
 show WB p st (leaveSt st [v] st1) ∧ Buf p (leaveSt st [v] st1) b' ∧ (p ∈ (leaveSt st [v] st1).log ∨ b' = b) ∧ ∀ l ∈ (leaveSt st [v] st1).log,l ∈ st.log ∨ l < st.next
 have hp:=hB.lt
 rcases leave_cases (st0:=st) (st1:=st1) (vs:=[v]) with ⟨c1,c2⟩ | c1
 ·rw [c1]
  have:b' = b:=by
   rcases hm with h | h
   ·have:=c2 p h; omega
   ·exact h
  rw [this]
  exact ⟨WB.refl _,hB,.inr rfl,fun l h => .inl h⟩
 ·rw [c1]
  refine ⟨⟨hw.heap,hw.next,hw.dead,fun l hl => ?_,fun l hl => by simp [hl]⟩,⟨hb.lt,hb.obj⟩,?_,fun l hl => ?_⟩
  ·simp only [List.mem_append,List.mem_filter] at hl
   rcases hl with ⟨hl,_⟩ | hl
   ·rcases hw.log l hl with e | e
    ·cases e
    ·exact .inr e
   ·exact .inl hl
  ·rcases hm with h | h
   ·exact .inl (by simp [h,hp])
   ·exact .inr h
  ·simp only [List.mem_append,List.mem_filter,decide_eq_true_iff] at hl
   exact hl.symm.imp id fun h => h.2
end
theorem und307:T307.und = .unsafePointer:=by kernel_rfl
theorem lies96:liesAt Tryz.prog Tryz.prog.depth 98 (2 / Tryz.prog.cellsOf 98) 0 96 1 = true:=by kernel_rfl
theorem lenX_row {l off len:Nat} {lim:Option Nat}:lenX (.row l off len lim) = some (.int .i64 (len:Int)):=(rfl)
theorem cells_row {A o k:Nat} {m:Option Nat}:(AV.row A o k m).cells = [.row A o k m]:=(rfl)
theorem any_row {A o k:Nat} {m:Option Nat}:(AV.row A o k m).isAny = false:=(rfl)
theorem ic_row {A o k:Nat} {m:Option Nat}:(AV.row A o k m).isCell = true:=(rfl)
theorem cells_ptr {a b:Nat}:(AV.ptr a b).cells = [.ptr a b]:=(rfl)
theorem ic_ptr {a b:Nat}:(AV.ptr a b).isCell = true:=(rfl)
theorem bytesA_app (b s:List Nat):bytesA (b ++ s) = bytesA b ++ bytesA s:=by simp [bytesA]
theorem flat_bytes:∀ s:List Nat,Go.AE.flat (bytesA s) = bytesA s
 | [] => rfl
 | c :: s => by
  have:=flat_bytes s
  simp only [bytesA,List.map_cons] at this ⊢
  unfold Go.AE.flat at this ⊢
  rw [List.flatMap_cons,this]; rfl
theorem sized_bytes (s:List Nat):Go.AE.sized 1 (bytesA s) = true:=by
 unfold Go.AE.sized
 rw [List.all_eq_true]
 intro x hx
 unfold bytesA at hx
 rw [List.mem_map] at hx
 obtain ⟨c,_,rfl⟩:=hx
 rfl
theorem ic_bytes (s:List Nat):(bytesA s).all AV.isCell = true:=by
 rw [List.all_eq_true]
 intro x hx
 unfold bytesA at hx
 rw [List.mem_map] at hx
 obtain ⟨c,_,rfl⟩:=hx
 rfl
theorem roomy1 {n:Nat} (h:n ≤ Tera):roomy n T5.bytes = true:=by
 show (decide (n * 1 ≤ 1099511627776) && decide (1 ≤ 1048576) && decide (n ≤ 1099511627776)) = true
 unfold Tera at h
 rw [decide_eq_true (by omega),decide_eq_true (by omega)]; rfl
theorem app_first {s:List Nat} (h0:s ≠ []) (hl:s.length ≤ Tera) {h:Nat → AO} {nx:Nat} {lg:List Nat}:appendA true ⟨h,nx,lg⟩ 5 T5 (.slice .nil []) (bytesA s) = some (.row nx 0 s.length none,⟨upd h nx (.mem 5 (bytesA s) false 0),nx + 1,lg⟩):=by
 obtain ⟨c,l,rfl⟩:∃ c l,s = c :: l:=by cases s with | nil => exact absurd rfl h0 | cons c l => exact ⟨c,l,rfl⟩
 have e1:=sized_bytes (c :: l)
 have e2:=ic_bytes (c :: l)
 have e3:=flat_bytes (c :: l)
 have e4:=bytesA_len (c :: l)
 have e5:bytesA (c :: l) = .int .u8 (.ofNat c) :: bytesA l:=rfl
 rw [e5] at e1 e2 e3 e4 ⊢
 simp only [appendA]
 rw [if_pos ⟨e1,by decide,by rw [e3]; exact e2⟩,if_pos ⟨rfl,by rw [e4,List.length_nil,Nat.zero_add]; exact roomy1 hl⟩]
 simp only [appendSl,fresh,if_true,List.nil_append,e3,e4,St.push]
theorem app_next {b s:List Nat} (h0:s ≠ []) (hl:b.length + s.length ≤ Tera) {h:Nat → AO} {nx r:Nat} {lg:List Nat} (hp:h r = .mem 5 (bytesA b) false 0) :
  appendA true ⟨h,nx,lg⟩ 5 T5 (.row r 0 b.length none) (bytesA s) = some (.row nx 0 (b.length + s.length) none,⟨upd (upd h r .dead) nx (.mem 5 (bytesA (b ++ s)) false 0),nx + 1,r :: lg⟩):=by
 obtain ⟨c,l,rfl⟩:∃ c l,s = c :: l:=by cases s with | nil => exact absurd rfl h0 | cons c l => exact ⟨c,l,rfl⟩
 have e1:=sized_bytes (c :: l)
 have e2:=ic_bytes (c :: l)
 have e3:=flat_bytes (c :: l)
 have e4:=bytesA_len (c :: l)
 have e6:=bytesA_app b (c :: l)
 have e5:bytesA (c :: l) = .int .u8 (.ofNat c) :: bytesA l:=rfl
 rw [e5] at e1 e2 e3 e4 e6 ⊢
 have e7:=bytesA_len b
 have e8:¬ (0 + (b.length + (AV.int .u8 (.ofNat c) :: bytesA l).length) * T5.size ≤ (bytesA b).length):=by
  rw [e4,e7,List.length_cons]; show ¬ (0 + (b.length + (l.length + 1)) * 1 ≤ b.length); omega
 have e9:0 + b.length * T5.size = (bytesA b).length:=by rw [e7]; show 0 + b.length * 1 = b.length; omega
 simp only [appendA]
 rw [if_pos ⟨e1,by decide,by rw [e3]; exact e2⟩,if_pos (by rw [e4]; exact roomy1 hl)]
 simp only [appendRow,hp]
 rw [if_neg (by decide),if_pos (by rfl),if_neg e8,if_neg (by decide),if_pos e9]
 simp only [e3,e4,e6,List.drop_zero,Nat.sub_zero,St.push,St.set]
section
variable {Q:Ctx} (hK:K Q)
include hK
theorem size96:sizeIs Q 96 = some 2:=by simp only [sizeIs,tw96 hK,T96,Option.map_some]
theorem conv_a {st:St} {p:Nat} {x y:AV} (h:st.heap p = .mem 98 [x,y] true 0):convA Q st 93 307 (.ptr p 0) = some (.ptr p 0):=by
 have e:=tw307 hK
 have e2:=und307
 generalize T307 = t at *
 obtain ⟨u,a,b,c,d,g⟩:=t
 simp only at e2
 subst e2
 simp only [convA,tw93 hK,T93,e,size96 hK,h,List.length_cons,List.length_nil]
 rfl
theorem conv_b {st:St} {p:Nat} {x y:AV} (h:st.heap p = .mem 98 [x,y] true 0):convA Q st 307 93 (.ptr p 0) = some (.ptr p 0):=by
 have e:=tw307 hK
 have e2:=und307
 generalize T307 = t at *
 obtain ⟨u,a,b,c,d,g⟩:=t
 simp only at e2
 subst e2
 have hP:Q.P = Tryz.prog:=by obtain ⟨X,rfl⟩:=hK.ex; rfl
 have hl:([x,y]:List AV).length = 2:=rfl
 simp only [convA,tw93 hK,T93,e,size96 hK,h,hP,hl,lies96,Option.isSome_some,true_and,and_true]
 rfl
theorem binA_pp {xo yo:Operand} {p:Nat}:binA Q .neq 93 xo yo (.ptr p 0) (.ptr p 0) = some (.bool false):=by
 simp only [binA,eqV,tw93 hK,T93,size96 hK,if_true,boolA]
 rfl
theorem binA_pn {xo yo:Operand} {p:Nat}:binA Q .eql 93 xo yo (.ptr p 0) .nilp = some (.bool false):=by
 simp only [binA,eqV,tw93 hK,T93,boolA]
 rfl
theorem binA_np {xo yo:Operand}:binA Q .eql 93 xo yo .nilp .nilp = some (.bool true):=by
 simp only [binA,eqV,tw93 hK,T93,boolA]
 rfl
theorem len47 {p:Nat} {b:List Nat} {st:St} (hb:Buf p st b):callW Q (.fn 47) [.ptr p 0] .normal st = some (.ret (.int .i64 (b.length:Int)),st,none):=by
 refine callY (N:=8) (ok47 hK) (hK.nx _ _ _ rfl) rfl rfl ?_
 obtain ⟨h1,ad,bf,h2,h3,h4⟩:=hb
 rcases h4 with ⟨rfl,rfl⟩ | ⟨_,r,rfl,_⟩
 ·simp only [RS,RT,RZ,Zu,rA,rB,rC,rD,rE,rF,reduceCtorEq,Zw,x47,F47,h2,h1,lenX_row]
 ·simp only [RS,RT,RZ,Zu,rA,rB,rC,rD,rE,rF,reduceCtorEq,Zw,x47,F47,h2,h1,lenX_row]
theorem copy240 {p:Nat} {b:List Nat} {st:St} (hb:Buf p st b):∃ st',callW Q (.fn 240) [.ptr p 0] .normal st = some (.ret (.tuple []),st',none) ∧ WB p st st' ∧ Buf p st' b ∧ (p ∈ st'.log ∨ b = b) ∧ ∀ l ∈ st'.log,l ∈ st.log ∨ l < st.next:=by
 have hB:=hb
 obtain ⟨h1,ad,bf,h2,h3,h4⟩:=hb
 refine wb_end (N:=20) (ok240 hK) (hK.nx _ _ _ rfl) rfl hB (fun _ => rfl) rfl ?_
 rcases h3 with rfl | rfl
 ·simp only [RS,RT,RZ,Zu,rA,rB,rC,rD,rE,rF,reduceCtorEq,Zw,x240,h2,h1,binA_np hK,ofV,ofCell,cells_ptr,ic_ptr,conv_a hK (st:=⟨st.heap,st.next,[]⟩) h2,conv_b hK (st:=⟨st.heap,st.next,[]⟩) h2,F240,x304_c hK]
  refine ⟨(WB.refl _).hitp hB.live (fun l hl => by simpa using hl) (fun l hl => nomatch hl),⟨h1,.ptr p 0,bf,by simp only; rw [upd_same],.inr rfl,?_⟩,.inr trivial⟩
  rcases h4 with h4 | ⟨h4,r,h5,h6,h7,h8⟩
  ·exact .inl h4
  ·exact .inr ⟨h4,r,h5,by simp only; rw [upd_ne _ _ (by omega)]; exact h6,h7,h8⟩
 ·simp only [RS,RT,RZ,Zu,rA,rB,rC,rD,rE,rF,reduceCtorEq,Zw,x240,h2,h1,binA_pn hK,binA_pp hK,ofV,ofCell,F240]
  exact ⟨WB.refl _,⟨h1,_,_,h2,.inr rfl,h4⟩,.inr trivial⟩
theorem str174 {p:Nat} {b s:List Nat} {st:St} (hb:Buf p st b) (hl:b.length + s.length ≤ Tera) :
  ∃ st',callW Q (.fn 174) [.ptr p 0,.str s] .normal st = some (.ret (.tuple [.int .i64 (s.length:Int),.nilif]),st',none) ∧ WB p st st' ∧ Buf p st' (b ++ s) ∧ (p ∈ st'.log ∨ b ++ s = b) ∧ ∀ l ∈ st'.log,l ∈ st.log ∨ l < st.next:=by
 refine wb_end (N:=19) (ok174 hK) (hK.nx _ _ _ rfl) rfl hb (fun _ => rfl) rfl ?_
 obtain ⟨⟨h1,n1,l1⟩,c1,c2,c3,_⟩:=copy240 hK (st:=⟨st.heap,st.next,[]⟩) ⟨hb.lt,hb.obj⟩
 obtain ⟨g1,ad,bf,g2,g3,g4⟩:=c3
 simp only at g1 g2
 have eA:∀ hh nn ll,elemsOf ⟨hh,nn,ll⟩ T5 (.str s) = some (bytesA s):=fun _ _ _ => rfl
 have e1:(p = n1) = False:=eq_false (by omega)
 have c2n:=c2.next
 rcases g4 with ⟨rfl,rfl⟩ | ⟨g4,r,rfl,g5,g6,g7⟩
 ·by_cases hs:s = []
  ·subst hs
   have ea:appendA true ⟨h1,n1,l1⟩ 5 T5 (.slice .nil []) (bytesA []) = some (.slice .nil [],⟨h1,n1,l1⟩):=rfl
   simp only [RS,RT,RZ,Zu,rA,rB,rC,rD,rE,rF,reduceCtorEq,Zw,x174,F174,c1,g1,g2,eA,ea,cells_row,any_row,ic_row]
   exact ⟨c2.hitp hb.live (fun l hl => by simpa using hl) (fun l hl => by simp [hl]),⟨g1,ad,_,by simp only; rw [upd_same],by assumption,.inl ⟨rfl,rfl⟩⟩,by simp⟩
  ·have ea:=app_first hs (by simpa using hl) (h:=h1) (nx:=n1) (lg:=l1)
   simp only [RS,RT,RZ,Zu,rA,rB,rC,rD,rE,rF,reduceCtorEq,Zw,x174,F174,c1,g1,g2,e1,eA,ea,cells_row,any_row,ic_row]
   exact ⟨(c2.new hb.lt (lg2:=l1) (fun l hl => .inr hl) (fun l hl => hl)).hitp hb.live (fun l hl => by simpa using hl) (fun l hl => by simp [hl]),
    ⟨by simp only; omega,ad,_,by simp only; rw [upd_same],by assumption,.inr ⟨hs,n1,rfl,by simp only; rw [upd_ne _ _ (by omega),upd_same],by simp only; omega,by omega⟩⟩,by simp⟩
 ·by_cases hs:s = []
  ·subst hs
   have ea:appendA true ⟨h1,n1,l1⟩ 5 T5 (.row r 0 b.length none) (bytesA []) = some (.row r 0 b.length none,⟨h1,n1,l1⟩):=rfl
   simp only [RS,RT,RZ,Zu,rA,rB,rC,rD,rE,rF,reduceCtorEq,Zw,x174,F174,c1,g1,g2,eA,ea,cells_row,any_row,ic_row,List.append_nil]
   exact ⟨c2.hitp hb.live (fun l hl => by simpa using hl) (fun l hl => by simp [hl]),⟨g1,ad,_,by simp only; rw [upd_same],by assumption,.inr ⟨g4,r,rfl,by simp only; rw [upd_ne _ _ (by omega)]; exact g5,g6,g7⟩⟩,by simp⟩
  ·have ea:=app_next hs hl (h:=h1) (nx:=n1) (lg:=l1) g5
   have e2:(p = r) = False:=eq_false (by omega)
   simp only [RS,RT,RZ,Zu,rA,rB,rC,rD,rE,rF,reduceCtorEq,Zw,x174,F174,c1,g1,g2,e1,e2,eA,ea,cells_row,any_row,ic_row]
   have hd:WB p ⟨st.heap,st.next,[]⟩ ⟨upd h1 r .dead,n1,r :: l1⟩ :=
    ⟨fun q t cs z k1 k2 k3 => by
     have:=c2.heap q t cs z k1 k2 k3
     simp only at this ⊢
     rw [upd_ne _ _ (fun e => by have g:=g5; simp only at g; first | (rw [← e,this] at g; cases g) | (rw [e,this] at g; cases g))]; exact this,c2.next,fun q k1 k2 => by
     have:=c2.dead q k1 k2
     simp only at this ⊢
     by_cases e:q = r
     ·subst e; rw [upd_same]; rfl
     ·rw [upd_ne _ _ e]; exact this,fun l hl => by
     rcases List.mem_cons.1 hl with rfl | hl
     ·exact .inr ⟨by omega,fun k1 => not_dead (c2.dead l k1) (by simp only at g5 ⊢; rw [g5]; rfl)⟩
     ·exact c2.log l hl,fun l hl => nomatch hl⟩
   refine ⟨(hd.new hb.lt (lg2:=r :: l1) (fun l hl => .inr hl) (fun l hl => hl)).hitp hb.live (fun l hl => by simpa using hl) (fun l hl => List.mem_cons_of_mem _ hl),
    ⟨by simp only; omega,ad,_,by simp only; rw [upd_same],by assumption,.inr ⟨by simp [hs],n1,?_,by simp only; rw [upd_ne _ _ (by omega),upd_same],by simp only; omega,by omega⟩⟩,by simp⟩
   rw [List.length_append]
theorem put_step {p:Nat} {b s:List Nat} {st:St} (hb:Buf p st b) (hl:(putT b s).length ≤ Tera) (hs:s ≠ []) :
  ∃ st',(if 0 < b.length then ∃ s1,callW Q (.fn 174) [.ptr p 0,.str [32]] .normal st = some (.ret (.tuple [.int .i64 1,.nilif]),s1,none) ∧ callW Q (.fn 174) [.ptr p 0,.str s] .normal s1 = some (.ret (.tuple [.int .i64 (s.length:Int),.nilif]),st',none)
   else callW Q (.fn 174) [.ptr p 0,.str s] .normal st = some (.ret (.tuple [.int .i64 (s.length:Int),.nilif]),st',none)) ∧ WB p st st' ∧ Buf p st' (putT b s) ∧ p ∈ st'.log:=by
 unfold putT at hl ⊢
 by_cases h:0 < b.length
 ·simp only [if_pos h] at hl ⊢
  simp only [List.length_append,List.length_cons,List.length_nil] at hl
  obtain ⟨s1,c1,c2,c3,c4,_⟩:=str174 hK (s:=[32]) hb (by simp; omega)
  obtain ⟨s2,d1,d2,d3,d4,_⟩:=str174 hK (s:=s) c3 (by simp; omega)
  refine ⟨s2,⟨s1,c1,d1⟩,c2.trans d2,d3,?_⟩
  rcases d4 with d4 | d4
  ·exact d4
  ·have:=congrArg List.length d4
   simp at this
   exact absurd this hs
 ·simp only [if_neg h] at hl ⊢
  rw [List.length_append] at hl
  obtain ⟨s2,d1,d2,d3,d4,_⟩:=str174 hK (s:=s) hb hl
  refine ⟨s2,d1,d2,d3,?_⟩
  rcases d4 with d4 | d4
  ·exact d4
  ·exact absurd d4 (by simpa using hs)
theorem put101 {p:Nat} {l:Toks} (hs:∀ s ∈ l,s ≠ []) (hn:l.length < 1000):Puts Q 101 [.ptr p 0,.slice .exact (strsA l)] p l:=by
 intro st b hb hl
 refine wb_end (N:=27) (ok101 hK) (hK.nx _ _ _ rfl) rfl hb (fun _ => rfl) rfl ?_
 simp only [RS,RT,RZ,Zu,rA,rB,rC,rD,rE,rF,reduceCtorEq,Zw,x101,y101,F101,strsA_len]
 refine post_bind (post_for (I:=fun i T st1 => T 0 = .ptr p 0 ∧ T 6 = .slice .exact (strsA l) ∧ T 7 = .int .i64 (l.length:Int) ∧ T 8 = .int .i64 (i:Int) ∧ WB p ⟨st.heap,st.next,[]⟩ st1 ∧ Buf p st1 (puts b (l.take i)) ∧ (0 < i → p ∈ st1.log))
  (Q:=fun e T st1 => e = .exit 0 ∧ WB p ⟨st.heap,st.next,[]⟩ st1 ∧ Buf p st1 (puts b l) ∧ (p ∈ st1.log ∨ puts b l = b)) l.length ?_ ?_ (Nat.zero_le _) ?_) ?_
 ·rintro i T ⟨h,nx,lg⟩ hi ⟨t0,t6,t7,t8,hw,hbf,hm⟩
  obtain ⟨x,hx⟩:∃ x,l[i]? = some x:=⟨_,List.getElem?_eq_getElem hi⟩
  have hxm:=List.mem_of_getElem? hx
  have hi2:=wrapUp (show i < 9223372036854775807 by omega)
  have hnx:=hw.next
  have hpl:=hb.lt
  simp only at hnx
  have e:puts b (l.take (i + 1)) = putT (puts b (l.take i)) x:=by rw [List.take_add_one,hx,puts_app]; rfl
  have hle:(putT (puts b (l.take i)) x).length ≤ Tera:=by
   rw [← e]
   refine Nat.le_trans ?_ hl
   conv => rhs; rw [← List.take_append_drop (i + 1) l]
   rw [puts_app]
   exact puts_ge _ _
  obtain ⟨⟨h2,n2,l2⟩,c1,c2,c3,c4⟩:=put_step hK hbf hle (hs x hxm)
  have c0:=len47 hK hbf
  have hget:=strsA_get hx
  rw [← e] at c3
  by_cases hz:0 < (puts b (l.take i)).length
  ·rw [if_pos hz] at c1
   obtain ⟨⟨h3,n3,l3⟩,d1,d2⟩:=c1
   have hz':=decT (show (0:Int) < ((puts b (l.take i)).length:Int) by omega)
   simp only [RS,RT,RZ,Zu,rA,rB,rC,rD,rE,rF,reduceCtorEq,Zw,l101_0,m101_0,t0,t6,t7,t8,hi,hget,hi2,c0,d1,d2,hz,hz']
   exact ⟨hw.trans c2,c3,fun _ => c4⟩
  ·rw [if_neg hz] at c1
   have hz':=decF (show ¬ (0:Int) < ((puts b (l.take i)).length:Int) by omega)
   simp only [RS,RT,RZ,Zu,rA,rB,rC,rD,rE,rF,reduceCtorEq,Zw,l101_0,m101_0,t0,t6,t7,t8,hi,hget,hi2,c0,c1,hz,hz']
   exact ⟨hw.trans c2,c3,fun _ => c4⟩
 ·rintro T ⟨h,nx,lg⟩ ⟨t0,t6,t7,t8,hw,hbf,hm⟩
  rw [List.take_length] at hbf
  simp only [RS,RT,RZ,Zu,rA,rB,rC,rD,rE,rF,reduceCtorEq,Zw,l101_0,m101_0,t0,t6,t7,t8]
  refine ⟨hw,hbf,?_⟩
  cases l with
  | nil => exact .inr rfl
  | cons x l => exact .inl (hm (by simp))
 ·simp only [RS,RT,RZ,Zu,rA,rB,rC,rD,rE,rF,reduceCtorEq,Zw,]
  exact ⟨WB.refl _,hb.log,fun h => h.elim⟩
 ·rintro e T ⟨h,nx,lg⟩ ⟨rfl,hw,hbf,hm⟩
  simp only [RS,RT,RZ,Zu,rA,rB,rC,rD,rE,rF,reduceCtorEq,Zw,]
  exact ⟨hw,hbf,hm⟩
end
end Go.Proofs.L06

namespace Go.Proofs.L06
open Go Go.AE
open Nat renaming reduceLT → rA,reduceLeDiff → rB,reduceEqDiff → rC,reduceMul → rD,reduceAdd → rE,reduceSub → rF
set_option maxHeartbeats 8000000
structure Step (p:Nat) (a:St) (b:List Nat) (s:St) (b':List Nat):Prop where
 w:WB p a s
 bf:Buf p s b'
 m:p ∈ s.log ∨ b' = b
theorem Step.refl {p:Nat} {a:St} {b:List Nat} (h:Buf p a b):Step p a b a b:=⟨WB.refl _,h,.inr rfl⟩
theorem Step.new {p:Nat} {a:St} {b b':List Nat} {h:Nat → AO} {nx:Nat} {lg lg2:List Nat} {o:AO} (hs:Step p a b ⟨h,nx,lg⟩ b') (hp:p < a.next) (hl:∀ l ∈ lg2,l = nx ∨ l ∈ lg) (hk:∀ l ∈ lg,l ∈ lg2):Step p a b ⟨upd h nx o,nx + 1,lg2⟩ b' :=
 ⟨hs.w.new hp hl hk,hs.bf.new,hs.m.imp (hk p) id⟩
theorem Step.box {p:Nat} {a:St} {b b':List Nat} {h:Nat → AO} {nx:Nat} {lg:List Nat} {o:AO} (hs:Step p a b ⟨h,nx,lg⟩ b') (hp:p < a.next):Step p a b ⟨upd h nx o,nx + 1,lg⟩ b':=hs.new hp (fun l hl => .inr hl) fun l hl => hl
theorem Step.mk1 {p:Nat} {a:St} {b b':List Nat} {h:Nat → AO} {nx:Nat} {lg:List Nat} {o:AO} (hs:Step p a b ⟨h,nx,lg⟩ b') (hp:p < a.next):Step p a b ⟨upd h nx o,nx + 1,nx :: lg⟩ b':=hs.new hp (fun l hl => by simpa using hl) fun l hl => by simp [hl]
theorem Step.relog {p:Nat} {a:St} {b b':List Nat} {h:Nat → AO} {nx:Nat} {lg lg2:List Nat} (hs:Step p a b ⟨h,nx,lg⟩ b') (hl:∀ l ∈ lg2,l ∈ lg ∨ (p ≤ l ∧ a.next ≤ l)) (hk:∀ l ∈ lg,l ∈ lg2):Step p a b ⟨h,nx,lg2⟩ b' :=
 ⟨⟨hs.w.heap,hs.w.next,hs.w.dead,fun l hm => by
  rcases hl l hm with h | ⟨h1,h2⟩
  ·exact hs.w.log l h
  ·exact .inr ⟨h1,fun h3 => by omega⟩,fun l hm => hk l (hs.w.keep l hm)⟩,hs.bf.log,hs.m.imp (hk p) id⟩
theorem Puts.go {Q:Ctx} {f:FuncId} {args:List AV} {p:Nat} {l:Toks} (h:Puts Q f args p l) {a s:St} {b0 b:List Nat} (hs:Step p a b0 s b) (hl:(puts b l).length ≤ Tera) :
  ∃ h1 n1 l1,callW Q (.fn f) args .normal s = some (.ret (.tuple []),⟨h1,n1,l1⟩,none) ∧ Step p a b0 ⟨h1,n1,l1⟩ (puts b l) ∧ (∀ q t cs z,q < s.next → q ≠ p → s.heap q = .mem t cs true z → h1 q = .mem t cs true z) ∧ s.next ≤ n1:=by
 obtain ⟨⟨h1,n1,l1⟩,c1,c2,c3,c4,_⟩:=h s b hs.bf hl
 refine ⟨h1,n1,l1,c1,⟨hs.w.trans c2,c3,?_⟩,c2.heap,c2.next⟩
 rcases c4 with c4 | c4
 ·exact .inl c4
 ·rw [c4]
  exact hs.m.imp (c2.keep p) id
theorem Puts.goL {Q:Ctx} {f:FuncId} {args:List AV} {p:Nat} {l:Toks} (h:Puts Q f args p l) {a:St} {h0:Nat → AO} {n0:Nat} {b0 b:List Nat} (hs:Step p a b0 ⟨h0,n0,[]⟩ b) (hl:(puts b l).length ≤ Tera) :
  ∃ h1 n1 l1,callW Q (.fn f) args .normal ⟨h0,n0,[]⟩ = some (.ret (.tuple []),⟨h1,n1,l1⟩,none) ∧ Step p a b0 ⟨h1,n1,l1⟩ (puts b l) ∧ (∀ q t cs z,q < n0 → q ≠ p → h0 q = .mem t cs true z → h1 q = .mem t cs true z) ∧ n0 ≤ n1 ∧
   ∀ l ∈ l1,l < n0 ∧ (h0 l).isDead = false:=by
 obtain ⟨⟨h1,n1,l1⟩,c1,c2,c3,c4,c5⟩:=h _ b hs.bf hl
 refine ⟨h1,n1,l1,c1,⟨hs.w.trans c2,c3,?_⟩,c2.heap,c2.next,fun q hq => ?_⟩
 ·rcases c4 with c4 | c4
  ·exact .inl c4
  ·rw [c4]
   exact hs.m.imp (c2.keep p) id
 ·have h1:q < n0:=by
   rcases c5 q hq with h | h
   ·cases h
   ·exact h
  refine ⟨h1,?_⟩
  rcases c2.log q hq with h | h
  ·cases h
  ·exact h.2 h1
theorem puts_pre {b:List Nat} {l l':Toks} (h:(puts b (l ++ l')).length ≤ Tera):(puts b l).length ≤ Tera:=by
 rw [puts_app] at h
 exact Nat.le_trans (puts_ge _ _) h
theorem Tm.args_app:∀ l l':List Tm,Tm.args (l ++ l') = Tm.args l ++ Tm.args l'
 | [],l' => rfl
 | x :: l,l' => by rw [List.cons_append,Tm.args,Tm.args,Tm.args_app l l',List.append_assoc]
section
variable {Q:Ctx} (hK:K Q)
include hK
theorem put1 {p:Nat} {s:List Nat} (hs:s ≠ []):Puts Q 101 [.ptr p 0,.slice .exact [.str s]] p [s]:=put101 hK (l:=[s]) (fun x hx => by rw [List.mem_singleton.1 hx]; exact hs) (by simp)
theorem put2 {p:Nat} {s s':List Nat} (hs:s ≠ []) (hs':s' ≠ []):Puts Q 101 [.ptr p 0,.slice .exact [.str s,.str s']] p [s,s']:=put101 hK (l:=[s,s']) (fun x hx => by
 rcases List.mem_cons.1 hx with rfl | hx
 ·exact hs
 ·rw [List.mem_singleton.1 hx]; exact hs') (by simp)
theorem args102 {p:Nat} {k:SK} {xs:List Tm} (hl:xs.length < Big) (hx:∀ x ∈ xs,Puts Q 175 [.ptr p 0,x.av] p x.toks):Puts Q 102 [.ptr p 0,.slice k (Tm.avs xs)] p (Tm.args xs):=by
 intro st b hb hle
 refine wb_end (N:=29) (ok102 hK) (hK.nx _ _ _ rfl) rfl hb (fun _ => rfl) rfl ?_
 have hpl:=hb.lt
 simp only [RS,RT,RZ,Zu,rA,rB,rC,rD,rE,rF,reduceCtorEq,Zw,x102,y102,F102,Tm.len]
 refine post_bind (post_for (I:=fun i T st1 => T 0 = .ptr p 0 ∧ T 6 = .slice k (Tm.avs xs) ∧ T 7 = .int .i64 (xs.length:Int) ∧ T 8 = .int .i64 (i:Int) ∧ Step p ⟨st.heap,st.next,[]⟩ b st1 (puts b (Tm.args (xs.take i))))
  (Q:=fun e T st1 => e = .exit 0 ∧ Step p ⟨st.heap,st.next,[]⟩ b st1 (puts b (Tm.args xs))) xs.length ?_ ?_ (Nat.zero_le _) ?_) ?_
 ·rintro i T ⟨h,nx,lg⟩ hi ⟨t0,t6,t7,t8,hs⟩
  obtain ⟨x,hxx⟩:∃ x,xs[i]? = some x:=⟨_,List.getElem?_eq_getElem hi⟩
  have hxm:=List.mem_of_getElem? hxx
  have hget:=Tm.get hxx
  have hi2:=wrapUp (show i < 9223372036854775807 by unfold Big at hl; omega)
  have hnx:=hs.w.next
  simp only at hnx
  have e:puts b (Tm.args (xs.take (i + 1))) = puts (puts b (Tm.args (xs.take i))) (Tm.args [x]):=by rw [List.take_add_one,hxx,Tm.args_app,puts_app]; rfl
  have hle1:(puts (puts b (Tm.args (xs.take i))) (Tm.args [x])).length ≤ Tera:=by
   rw [← e]
   refine puts_pre (l':=Tm.args (xs.drop (i + 1))) ?_
   rw [← Tm.args_app,List.take_append_drop]
   exact hle
  have hp:=hx x hxm
  have e1:(p = nx) = False:=eq_false (by omega)
  have l1:nx < nx + 1:=by omega
  have hs1:=hs.mk1 (o:=.mem 39 x.av.cells true 0) hpl
  rw [e]
  rw [Tm.args,Tm.args,List.append_nil] at hle1 ⊢
  obtain ⟨kd,n,nm,k',ys⟩:=x
  rw [Tm.av] at hget hp
  simp only [Tm.av,AV.cells] at hs1
  cases hn:(Tm.mk kd n nm k' ys).isNil with
  | true =>
   have hn':ys = []:=List.isEmpty_iff.1 (by simpa only [Tm.isNil] using hn)
   subst hn'
   simp only [hn,if_true] at hle1 ⊢
   obtain ⟨h1,n1,lg1,c1,c2,c3,c4⟩:=hp.go hs1 hle1
   simp only [Tm.avs] at c1 hget
   simp only [RS,RT,RZ,Zu,rA,rB,rC,rD,rE,rF,reduceCtorEq,Zw,l102_0,m102_0,t0,t6,t7,t8,hi,hget,hi2,c1,l1,List.length_nil,Int.reduceBEq]
   exact c2
  | false =>
   have hn':((ys.length:Int) == 0) = false:=by
    rw [beq_eq_false_iff_ne]
    intro h0
    have:ys = []:=List.eq_nil_of_length_eq_zero (by omega)
    subst this
    cases hn
   simp only [hn,Bool.false_eq_true,if_false] at hle1 ⊢
   rw [show ([40] :: ((Tm.mk kd n nm k' ys).toks ++ [[41]])) = ([[40]] ++ (Tm.mk kd n nm k' ys).toks) ++ [[41]] from rfl] at hle1 ⊢
   have hle2:=puts_pre hle1
   have hle3:=puts_pre hle2
   obtain ⟨h1,n1,lg1,c1,c2,c3,c4⟩:=(put1 hK (p:=p) (s:=[40]) (by decide)).go hs1 hle3
   simp only at c3 c4
   have g1:=c3 nx _ _ _ (by omega) (by omega) (upd_same ..)
   have m1:nx < n1:=by omega
   rw [puts_app] at hle2
   obtain ⟨h2,n2,lg2,d1,d2,d3,d4⟩:=hp.go c2 hle2
   simp only at d3 d4
   rw [← puts_app] at d2
   have g2:=d3 nx _ _ _ m1 (by omega) g1
   have m2:nx < n2:=by omega
   rw [puts_app] at hle1
   obtain ⟨h3,n3,lg3,f1,f2,f3,f4⟩:=(put1 hK (p:=p) (s:=[41]) (by decide)).go d2 hle1
   rw [← puts_app] at f2
   simp only [RS,RT,RZ,Zu,rA,rB,rC,rD,rE,rF,reduceCtorEq,Zw,l102_0,m102_0,t0,t6,t7,t8,hi,hget,hi2,c1,d1,f1,g1,g2,m1,m2,l1,Tm.len,hn']
   exact f2
 ·rintro T ⟨h,nx,lg⟩ ⟨t0,t6,t7,t8,hs⟩
  rw [List.take_length] at hs
  simp only [RS,RT,RZ,Zu,rA,rB,rC,rD,rE,rF,reduceCtorEq,Zw,l102_0,m102_0,t0,t6,t7,t8]
  exact hs
 ·simp only [RS,RT,RZ,Zu,rA,rB,rC,rD,rE,rF,reduceCtorEq,Zw,]
  exact Step.refl hb.log
 ·rintro e T ⟨h,nx,lg⟩ ⟨rfl,hs⟩
  simp only [RS,RT,RZ,Zu,rA,rB,rC,rD,rE,rF,reduceCtorEq,Zw,]
  exact ⟨hs.w,hs.bf,hs.m⟩
end
end Go.Proofs.L06

namespace Go.Proofs.L06
open Go Go.AE
open Nat renaming reduceLT → rA,reduceLeDiff → rB,reduceEqDiff → rC,reduceMul → rD,reduceAdd → rE,reduceSub → rF
set_option maxHeartbeats 8000000
theorem mkd_c {n0 l:Nat} {b:List Bool} {ws:List (Nat × Nat)} {ls:List Nat}:allMade n0 b ws (l :: ls) = ((l < n0 ∨ madeBy l b ws) ∧ allMade n0 b ws ls):=(rfl)
theorem mb_t {l:Nat} {m:List Bool} {w:Nat × Nat} {ws:List (Nat × Nat)}:madeBy l (true :: m) (w :: ws) = ((w.1 ≤ l ∧ l < w.2) ∨ madeBy l m ws):=(rfl)
theorem mb_f {l:Nat} {m:List Bool} {w:Nat × Nat} {ws:List (Nat × Nat)}:madeBy l (false :: m) (w :: ws) = madeBy l m ws:=(rfl)
theorem dead_amap {es:List (AV × AV × Nat)} {c:Nat}:(AO.amap es c).isDead = false:=(rfl)
theorem dead_lmap {es:List (AV × AV)}:(AO.lmap es).isDead = false:=(rfl)
abbrev ML:=List (Int × List Nat)
def mapL (L:ML):List (AV × AV):=L.map fun x => (.int .i64 x.1,.str x.2)
def fndL (a:Int):ML → Nat → Option (Option (Nat × AV))
 | [],_ => some none
 | (e,v) :: r,i => (match some (a == e),fndL a r (i + 1) with
  | some true,some none => some (some (i,.str v))
  | some false,some x => some x
  | _,_ => none)
theorem clean_mapL (L:ML):cleanE (mapL L) = true:=by
 unfold cleanE mapL
 rw [List.all_eq_true]
 intro x hx
 rw [List.mem_map] at hx
 obtain ⟨y,_,rfl⟩:=hx
 rfl
section
variable {Q:Ctx} (hK:K Q)
include hK
theorem cell3 {a b:Int}:keyEq Q 3 (.int .i64 a) (.int .i64 b) = some (a == b):=by
 simp only [keyEq,cellEq,tw3 hK,T3,if_true]
theorem findL (a:Int):∀ (L:ML) (i:Nat),findA Q 3 (.int .i64 a) (zer (mapL L)) i = fndL a L i
 | [],i => rfl
 | (e,v) :: r,i => by
  have ih:=findL a r (i + 1)
  rw [show zer (mapL ((e,v) :: r)) = (.int .i64 e,.str v,0) :: zer (mapL r) from rfl,findA,cell3 hK,ih,fndL]
  generalize (a == e) = c
  generalize fndL a r (i + 1) = d
  rcases d with _ | _ | _ <;> cases c <;> rfl
theorem map_ins0 {h:Nat → AO} {nx m:Nat} {lg:List Nat} {a:Int} {s:List Nat} (hm:h m = .amap [] 0):mapUpd Q ⟨h,nx,lg⟩ 151 (.map m) (.int .i64 a) (.str s) true = some ⟨upd h m (.lmap (mapL [(a,s)])),nx,m :: lg⟩:=by
 simp only [mapUpd,tw151 hK,T151,cell3 hK,Option.isSome_some,if_true,hm,findA]
 rfl
theorem map_ins {L:ML} {h:Nat → AO} {nx m:Nat} {lg:List Nat} {a:Int} {s:List Nat} (hm:h m = .lmap (mapL L)) (hf:fndL a L 0 = some none):mapUpd Q ⟨h,nx,lg⟩ 151 (.map m) (.int .i64 a) (.str s) true = some ⟨upd h m (.lmap (mapL (L ++ [(a,s)]))),nx,m :: lg⟩:=by
 have e:mapL L ++ [(.int .i64 a,.str s)] = mapL (L ++ [(a,s)]):=by simp [mapL]
 simp only [mapUpd,tw151 hK,T151,cell3 hK,Option.isSome_some,if_true,hm,findL hK,hf,e,clean_mapL,Bool.not_true,Bool.and_false,Bool.false_eq_true,if_false]
 rfl
theorem map_get {L:ML} {h:Nat → AO} {nx m i:Nat} {lg:List Nat} {a:Int} {s:List Nat} (hm:h m = .lmap (mapL L)) (hf:fndL a L 0 = some (some (i,.str s))):lookupA Q ⟨h,nx,lg⟩ 151 (.map m) (.int .i64 a) false = some (.str s):=by
 simp only [lookupA,tw151 hK,T151,tw9 hK,T9,cell3 hK,Option.isSome_some,if_true,hm,findL hK,hf,Bool.false_eq_true,if_false]
end
theorem str_add {x y:List Nat} (h:x.length + y.length ≤ 4294967296):strOp .add x y = some (.str (x ++ y)):=by rw [strOp,if_pos h]
theorem live_all {n0 n:Nat} {h:Nat → AO}:∀ {ls:List Nat},(∀ l ∈ ls,l < n ∧ (h l).isDead = false) → allLive n0 n h ls
 | [],_ => trivial
 | l :: ls,hl => ⟨hl l (by simp),live_all fun x hx => hl x (by simp [hx])⟩
theorem made_all {n0:Nat} {b:List Bool} {ws:List (Nat × Nat)}:∀ {ls:List Nat},(∀ l ∈ ls,l < n0 ∨ madeBy l b ws) → allMade n0 b ws ls
 | [],_ => trivial
 | l :: ls,hl => ⟨hl l (by simp),made_all fun x hx => hl x (by simp [hx])⟩
theorem crit_l {n0:Nat} {rds:List (Option (List Nat))} {ws:List (Nat × Nat)} {c:List (Option (Option (List Bool)))} {m:List Bool} {cs:List (Option CrI)} {a:Option (List Nat)} {b:List Nat} {w:Nat × Nat} {xs:List YI} (h:allMiss n0 ws b c rds) (h2:allMade n0 m ws b):critOk n0 rds ws (some (c,m) :: cs) ((a,b,w) :: xs) = critOk n0 rds ws cs xs:=by
 simp only [critOk,h,h2,and_self,or_true,true_and]
theorem made_map {n:Nat} {ls:List Nat} (h:∀ l ∈ ls,l < n + 2) (m:List Bool) (ws:List (Nat × Nat)) (w:Nat × Nat):allMade (n + 1) (true :: true :: m) (w :: (n + 1,n + 2) :: ws) ls :=
 made_all fun l hl => by
  have:=h l hl
  by_cases e:l < n + 1
  ·exact .inl e
  ·exact .inr (.inr (.inl ⟨by simp only; omega,by simp only; omega⟩))
theorem relog1 {p n:Nat} {h:Nat → AO} {lg:List Nat} (hp:p < n):∀ l ∈ lg ++ [n + 1,n + 1,n + 1],l ∈ lg ∨ (p ≤ l ∧ (⟨h,n,[]⟩:St).next ≤ l):=fun l hl => by
 rcases List.mem_append.1 hl with h | h
 ·exact .inl h
 ·simp at h; simp only; exact .inr ⟨by omega,by omega⟩
theorem ofI {n:Int}:ofV (.int .i64 n) = .int .i64 n:=(rfl)
theorem ofB:ofV (.string ⟨#[66]⟩) = .str [66]:=(rfl)
theorem ofP:ofV (.string ⟨#[80]⟩) = .str [80]:=(rfl)
theorem ofVv:ofV (.string ⟨#[86]⟩) = .str [86]:=(rfl)
theorem name_nil {nm:List Nat} (h:NameOk nm):nm ≠ []:=by obtain ⟨⟨c,r,h,_⟩,_⟩:=h; rw [h]; simp
section
variable {Q:Ctx} (hK:K Q) (hI:∀ n:Int,0 ≤ n → n ≤ 100000 → Ret Q 241 [.int .i64 n] (.str (dig n.toNat)))
include hK hI
theorem term175 {p:Nat} (t:Tm):t.Ok → t.shp = true → Puts Q 175 [.ptr p 0,t.av] p t.toks:=by
 induction t using Tm.ind with
 | _ kd n nm k xs ih =>
 intro hok hsh st b hb hle
 refine wb_end (N:=40) (ok175 hK) (hK.nx _ _ _ rfl) rfl hb (fun _ => rfl) rfl ?_
 have hpl:=hb.lt
 obtain ⟨_,_,hnm,_,hl,hoks⟩:=hok
 simp only [Tm.shp,Bool.and_eq_true] at hsh
 have hs0:=(Step.refl (b:=b) (a:=⟨st.heap,st.next,[]⟩) hb.log).box (o:=.mem 39 [.int .i64 kd,.int .i64 n,.str nm,.slice k (Tm.avs xs)] true 0) hpl
 have l0:st.next < st.next + 1:=by omega
 have hargs:=args102 hK (p:=p) (k:=k) hl (fun x hx => ih x hx (Tm.oks hoks x hx) (List.all_eq_true.1 (by rw [← Tm.shps_all]; exact hsh.2) x hx))
 rw [Tm.toks] at hle ⊢
 rcases node_cases hsh.1 with ⟨rfl,rfl,nok⟩ | ⟨e,hn,rfl⟩ | ⟨rfl,rfl,rfl,e⟩
 ·rw [if_neg (by decide)] at hle ⊢
  rw [show htok 1 0 nm = nm from rfl] at hle ⊢
  rw [show (nm :: Tm.args xs) = [nm] ++ Tm.args xs from rfl] at hle ⊢
  have q1:=puts_pre hle
  obtain ⟨h1,n1,lg1,c1,c2,c3,c4⟩:=(put1 hK (p:=p) (s:=nm) (name_nil nok)).go hs0 q1
  simp only at c3 c4
  have g1:=c3 st.next _ _ _ (by omega) (by omega) (upd_same ..)
  have m1:st.next < n1:=by omega
  rw [puts_app] at hle
  obtain ⟨h2,n2,lg2,d1,d2,d3,d4⟩:=hargs.go c2 hle
  rw [← puts_app] at d2
  simp only [RS,RT,RZ,Zu,rA,rB,rC,rD,rE,rF,reduceCtorEq,Zw,x175,kd175_0,k175_0,F175,Tm.av,Int.reduceBEq,c1,d1,g1,m1,l0]
  exact ⟨d2.w,d2.bf,d2.m⟩
 ·have k5:kd ≠ 5:=by omega
  rw [if_neg k5] at hle ⊢
  have b5:(kd == 5) = false:=by rw [beq_eq_false_iff_ne]; omega
  have b1:(kd == 1) = false:=by rw [beq_eq_false_iff_ne]; omega
  have hi:=hI n hn.1 hn.2
  rcases e with rfl | rfl | rfl
  ·have i0:=fun {h:Nat → AO} {nx m:Nat} {lg:List Nat} (hm:h m = .amap [] 0) => map_ins0 hK (nx:=nx) (lg:=lg) (a:=2) (s:=[66]) hm
   have i1:=fun {h:Nat → AO} {nx m:Nat} {lg:List Nat} (hm:h m = .lmap (mapL [(2,[66])])) => map_ins hK (nx:=nx) (lg:=lg) (a:=3) (s:=[80]) hm rfl
   have i2:=fun {h:Nat → AO} {nx m:Nat} {lg:List Nat} (hm:h m = .lmap (mapL ([(2,[66])] ++ [(3,[80])]))) => map_ins hK (nx:=nx) (lg:=lg) (a:=4) (s:=[86]) hm rfl
   have i3:=fun {h:Nat → AO} {nx m:Nat} {lg:List Nat} (hm:h m = .lmap (mapL (([(2,[66])] ++ [(3,[80])]) ++ [(4,[86])]))) => map_get hK (nx:=nx) (lg:=lg) (a:=2) (i:=0) (s:=[66]) hm rfl
   rw [show (htok 2 n [] :: Tm.args xs) = [66 :: dig n.toNat] ++ Tm.args xs from rfl] at hle ⊢
   have q1:=puts_pre hle
   obtain ⟨h1,n1,lg1,c1,c2,c3,c4,c5⟩:=(put1 hK (p:=p) (s:=66 :: dig n.toNat) (by simp)).goL (hs0.box (o:=.lmap (mapL [(2,[66]),(3,[80]),(4,[86])])) hpl) q1
   have g1:=c3 st.next _ _ _ (by omega) (by omega) (by rw [upd_ne _ _ (by omega),upd_same])
   have m1:st.next < n1:=by omega
   rw [puts_app] at hle
   obtain ⟨h2,n2,lg2,d1,d2,d3,d4⟩:=hargs.go (Step.relog c2 (lg2:=lg1 ++ [st.next + 1,st.next + 1,st.next + 1]) (relog1 hpl) (fun l hl => by simp [hl])) hle
   rw [← puts_app] at d2
   have sa:=str_add (x:=[66]) (y:=dig n.toNat) (by have:=dig_len 5 n.toNat (by have:n.toNat ≤ 100000:=by omega
                                                                               omega); simp; omega)
   have cl:=fun n0 => live_all (n0:=n0) c5
   have cm:=made_map (n:=st.next) (ls:=lg1) fun l hl => (c5 l hl).1
   simp only [RS,RT,RZ,Zu,rA,rB,rC,rD,rE,rF,reduceCtorEq,Zw,x175,kd175_0,k175_0,F175,Tm.av,Int.reduceBEq,hi,l0,ofI,ofB,ofP,ofVv,i0,i1,i2,i3,upd_same,dead_amap,dead_lmap,mkd_c,mb_t,mb_f,true_or,or_true,sa,c1,cl,cm,crit_l,g1,m1,d1]
   exact ⟨d2.w,d2.bf,d2.m⟩
  ·have i0:=fun {h:Nat → AO} {nx m:Nat} {lg:List Nat} (hm:h m = .amap [] 0) => map_ins0 hK (nx:=nx) (lg:=lg) (a:=2) (s:=[66]) hm
   have i1:=fun {h:Nat → AO} {nx m:Nat} {lg:List Nat} (hm:h m = .lmap (mapL [(2,[66])])) => map_ins hK (nx:=nx) (lg:=lg) (a:=3) (s:=[80]) hm rfl
   have i2:=fun {h:Nat → AO} {nx m:Nat} {lg:List Nat} (hm:h m = .lmap (mapL ([(2,[66])] ++ [(3,[80])]))) => map_ins hK (nx:=nx) (lg:=lg) (a:=4) (s:=[86]) hm rfl
   have i3:=fun {h:Nat → AO} {nx m:Nat} {lg:List Nat} (hm:h m = .lmap (mapL (([(2,[66])] ++ [(3,[80])]) ++ [(4,[86])]))) => map_get hK (nx:=nx) (lg:=lg) (a:=3) (i:=1) (s:=[80]) hm rfl
   rw [show (htok 3 n [] :: Tm.args xs) = [80 :: dig n.toNat] ++ Tm.args xs from rfl] at hle ⊢
   have q1:=puts_pre hle
   obtain ⟨h1,n1,lg1,c1,c2,c3,c4,c5⟩:=(put1 hK (p:=p) (s:=80 :: dig n.toNat) (by simp)).goL (hs0.box (o:=.lmap (mapL [(2,[66]),(3,[80]),(4,[86])])) hpl) q1
   have g1:=c3 st.next _ _ _ (by omega) (by omega) (by rw [upd_ne _ _ (by omega),upd_same])
   have m1:st.next < n1:=by omega
   rw [puts_app] at hle
   obtain ⟨h2,n2,lg2,d1,d2,d3,d4⟩:=hargs.go (Step.relog c2 (lg2:=lg1 ++ [st.next + 1,st.next + 1,st.next + 1]) (relog1 hpl) (fun l hl => by simp [hl])) hle
   rw [← puts_app] at d2
   have sa:=str_add (x:=[80]) (y:=dig n.toNat) (by have:=dig_len 5 n.toNat (by have:n.toNat ≤ 100000:=by omega
                                                                               omega); simp; omega)
   have cl:=fun n0 => live_all (n0:=n0) c5
   have cm:=made_map (n:=st.next) (ls:=lg1) fun l hl => (c5 l hl).1
   simp only [RS,RT,RZ,Zu,rA,rB,rC,rD,rE,rF,reduceCtorEq,Zw,x175,kd175_0,k175_0,F175,Tm.av,Int.reduceBEq,hi,l0,ofI,ofB,ofP,ofVv,i0,i1,i2,i3,upd_same,dead_amap,dead_lmap,mkd_c,mb_t,mb_f,true_or,or_true,sa,c1,cl,cm,crit_l,g1,m1,d1]
   exact ⟨d2.w,d2.bf,d2.m⟩
  ·have i0:=fun {h:Nat → AO} {nx m:Nat} {lg:List Nat} (hm:h m = .amap [] 0) => map_ins0 hK (nx:=nx) (lg:=lg) (a:=2) (s:=[66]) hm
   have i1:=fun {h:Nat → AO} {nx m:Nat} {lg:List Nat} (hm:h m = .lmap (mapL [(2,[66])])) => map_ins hK (nx:=nx) (lg:=lg) (a:=3) (s:=[80]) hm rfl
   have i2:=fun {h:Nat → AO} {nx m:Nat} {lg:List Nat} (hm:h m = .lmap (mapL ([(2,[66])] ++ [(3,[80])]))) => map_ins hK (nx:=nx) (lg:=lg) (a:=4) (s:=[86]) hm rfl
   have i3:=fun {h:Nat → AO} {nx m:Nat} {lg:List Nat} (hm:h m = .lmap (mapL (([(2,[66])] ++ [(3,[80])]) ++ [(4,[86])]))) => map_get hK (nx:=nx) (lg:=lg) (a:=4) (i:=2) (s:=[86]) hm rfl
   rw [show (htok 4 n [] :: Tm.args xs) = [86 :: dig n.toNat] ++ Tm.args xs from rfl] at hle ⊢
   have q1:=puts_pre hle
   obtain ⟨h1,n1,lg1,c1,c2,c3,c4,c5⟩:=(put1 hK (p:=p) (s:=86 :: dig n.toNat) (by simp)).goL (hs0.box (o:=.lmap (mapL [(2,[66]),(3,[80]),(4,[86])])) hpl) q1
   have g1:=c3 st.next _ _ _ (by omega) (by omega) (by rw [upd_ne _ _ (by omega),upd_same])
   have m1:st.next < n1:=by omega
   rw [puts_app] at hle
   obtain ⟨h2,n2,lg2,d1,d2,d3,d4⟩:=hargs.go (Step.relog c2 (lg2:=lg1 ++ [st.next + 1,st.next + 1,st.next + 1]) (relog1 hpl) (fun l hl => by simp [hl])) hle
   rw [← puts_app] at d2
   have sa:=str_add (x:=[86]) (y:=dig n.toNat) (by have:=dig_len 5 n.toNat (by have:n.toNat ≤ 100000:=by omega
                                                                               omega); simp; omega)
   have cl:=fun n0 => live_all (n0:=n0) c5
   have cm:=made_map (n:=st.next) (ls:=lg1) fun l hl => (c5 l hl).1
   simp only [RS,RT,RZ,Zu,rA,rB,rC,rD,rE,rF,reduceCtorEq,Zw,x175,kd175_0,k175_0,F175,Tm.av,Int.reduceBEq,hi,l0,ofI,ofB,ofP,ofVv,i0,i1,i2,i3,upd_same,dead_amap,dead_lmap,mkd_c,mb_t,mb_f,true_or,or_true,sa,c1,cl,cm,crit_l,g1,m1,d1]
   exact ⟨d2.w,d2.bf,d2.m⟩
 ·rw [if_pos rfl] at hle ⊢
  obtain ⟨x,rfl⟩:∃ x,xs = [x]:=by
   match xs,e with
   | [x],_ => exact ⟨x,rfl⟩
  simp only [Tm.shps,Bool.and_true] at hsh
  have hx:=ih x (by simp) (Tm.oks hoks x (by simp)) hsh.2
  rw [Tm.hd] at hle ⊢
  rw [show ([92] :: [46] :: x.toks) = [[92],[46]] ++ x.toks from rfl] at hle ⊢
  have q1:=puts_pre hle
  obtain ⟨h1,n1,lg1,c1,c2,c3,c4⟩:=(put2 hK (p:=p) (s:=[92]) (s':=[46]) (by decide) (by decide)).go hs0 q1
  simp only at c3 c4
  have g1:=c3 st.next _ _ _ (by omega) (by omega) (upd_same ..)
  have m1:st.next < n1:=by omega
  rw [puts_app] at hle
  obtain ⟨h2,n2,lg2,d1,d2,d3,d4⟩:=hx.go c2 hle
  rw [← puts_app] at d2
  have hg0:(Tm.avs [x])[0]? = some x.av:=rfl
  obtain ⟨kd',n',nm',k',xs'⟩:=x
  rw [Tm.av]
  generalize Tm.avs [Tm.mk kd' n' nm' k' xs'] = es at *
  simp only [Tm.av] at hg0 d1
  simp only [RS,RT,RZ,Zu,rA,rB,rC,rD,rE,rF,reduceCtorEq,Zw,x175,kd175_0,k175_0,F175,Int.reduceBEq,hg0,c1,d1,g1,m1,l0]
  exact ⟨d2.w,d2.bf,d2.m⟩
end
end Go.Proofs.L06

namespace Go.Proofs.L06
open Go Go.AE
open Nat renaming reduceLT → rA,reduceLeDiff → rB,reduceEqDiff → rC,reduceMul → rD,reduceAdd → rE,reduceSub → rF
set_option maxHeartbeats 8000000
theorem of1:ofV (.string ⟨#[97,108,108]⟩) = .str [97,108,108]:=(rfl)
theorem of2:ofV (.string ⟨#[101,120]⟩) = .str [101,120]:=(rfl)
theorem of4:ofV (.string ⟨#[42]⟩) = .str [42]:=(rfl)
theorem of5:ofV (.string ⟨#[38]⟩) = .str [38]:=(rfl)
theorem of6:ofV (.string ⟨#[43]⟩) = .str [43]:=(rfl)
theorem of7:ofV (.string ⟨#[45,111]⟩) = .str [45,111]:=(rfl)
theorem of8:ofV (.string ⟨#[61,62]⟩) = .str [61,62]:=(rfl)
theorem relogN {p n k:Nat} {s:Nat} {lg:List Nat} (hp:p ≤ n) (hs:s ≤ n):∀ l ∈ List.replicate k n ++ lg,l ∈ lg ∨ (p ≤ l ∧ s ≤ l):=fun l hl => by
 rcases List.mem_append.1 hl with h | h
 ·have:=List.eq_of_mem_replicate h; exact .inr ⟨by omega,by omega⟩
 ·exact .inl h
end Go.Proofs.L06

namespace Go.Proofs.L06
open Go Go.AE
open Nat renaming reduceLT → rA,reduceLeDiff → rB,reduceEqDiff → rC,reduceMul → rD,reduceAdd → rE,reduceSub → rF
set_option maxHeartbeats 8000000
theorem bytes_of:∀ {b:List Nat},(∀ c ∈ b,c < 256) → bytesOf? (bytesA b) = some b
 | [],_ => rfl
 | c :: b,h => by
  have ih:=bytes_of (b:=b) fun x hx => h x (by simp [hx])
  rw [show bytesA (c :: b) = .int .u8 (.ofNat c) :: bytesA b from rfl,bytesOf?,if_pos (h c (by simp)),ih]; rfl
section
variable {C:Ctx} {mu ro:Bool} {fr:Fr} {st:St} {ds:Option Tmp} {ty:TypeId} {pos:String} {af:Array Edge} {g:Option (Nat × Bool)}
def sdK (st:St):AV → Option OPR
 | .slice .nil _ => some (.val .nilp st)
 | .row l off len _ => if 0 < len then some (.val (.ptr l off) st) else none
 | _ => none
theorem gA_sd {x:Operand} {ts:Array TypeId}:opA C mu ro fr st ⟨ds,.call ⟨.builtin .unsafeSliceData,#[x],ts⟩,ty,pos,af,g⟩ = sdK st (oval C fr x):=by
 show ov st _ = _
 cases h:oval C fr x with
 | slice k es => cases k <;> rfl
 | row l off len m => simp only [sdK]; split <;> rfl
 | _ => rfl
def usK (C:Ctx) (st:St) (t:TypeId) (p:AV):Option Nat → Option OPR
 | some n => ovs (unsafeStr C st t p n)
 | none => none
theorem gA_us {x y:Operand} {t u:TypeId}:opA C mu ro fr st ⟨ds,.call ⟨.builtin .unsafeString,#[x,y],#[t,u]⟩,ty,pos,af,g⟩ = usK C st t (oval C fr x) (natOf (oval C fr y)):=by
 show (match natOf (oval C fr y),[t,u] with | some n,t :: _ => ovs (unsafeStr C st t (oval C fr x) n) | _,_ => none) = _
 cases natOf (oval C fr y) <;> rfl
end
section
variable {Q:Ctx} (hK:K Q)
include hK
theorem us_nil {st:St}:unsafeStr Q st 153 .nilp 0 = some (.str [],st):=rfl
theorem us_row {h:Nat → AO} {nx r:Nat} {lg:List Nat} {b:List Nat} (hr:h r = .mem 5 (bytesA b) false 0) (h0:b ≠ []) (hl:b.length < 4294967296) (hb:∀ c ∈ b,c < 256) :
  unsafeStr Q ⟨h,nx,lg⟩ 153 (.ptr r 0) b.length = some (.str b,⟨upd h r (.mem 5 (bytesA b) false b.length),nx,r :: lg⟩):=by
 have hn:¬ b.length = 0:=fun h => h0 (List.eq_nil_of_length_eq_zero h)
 have hd:((bytesA b).drop 0).take b.length = bytesA b:=by rw [List.drop_zero,← bytesA_len b,List.take_length]
 simp only [unsafeStr,hr,tw153 hK,T153,tw5 hK,T5]
 rw [if_neg hn,if_pos ⟨trivial,by rw [bytesA_len]; omega,hl⟩,hd,bytes_of hb]
 simp only [Option.map_some,Nat.zero_add,Nat.zero_max,St.set]
theorem str48 {p:Nat} {b:List Nat} {st:St} (hB:Buf p st b) (hl:b.length < 4294967296) (hb:∀ c ∈ b,c < 256) :
  ∃ st',callW Q (.fn 48) [.ptr p 0] .normal st = some (.ret (.str b),st',none) ∧ ∀ l ∈ st'.log,l ∈ st.log ∨ p ≤ l:=by
 have hB2:=hB
 obtain ⟨g1,ad,bf,g2,g3,g4⟩:=hB
 rcases g4 with ⟨rfl,rfl⟩ | ⟨g4,r,rfl,g5,g6,g7⟩
 ·refine ⟨st,callY (N:=14) (ok48 hK) (hK.nx _ _ _ rfl) rfl rfl ?_,fun l hl => .inl hl⟩
  simp only [RS,RT,RZ,Zu,rA,rB,rC,rD,rE,rF,reduceCtorEq,Zw,x48,y48,kd48_0,k48_0,F48,g1,g2,gA_sd,sdK,gA_us,usK,us_nil hK]
 ·have hB:Post 14 [] none (execY (callW Q) Q false 48 none x48 ⟨argTmps [.ptr p 0],14,[],none⟩ ⟨st.heap,st.next,[]⟩) fun e T st1 => e = .ret ∧ T 2 = .str b ∧ st1 = ⟨upd st.heap r (.mem 5 (bytesA b) false b.length),st.next,[r]⟩:=by
   have hu:=us_row hK (h:=st.heap) (nx:=st.next) (lg:=[]) g5 g4 hl hb
   have h0:0 < b.length:=List.length_pos_iff.2 g4
   simp only [RS,RT,RZ,Zu,rA,rB,rC,rD,rE,rF,reduceCtorEq,Zw,x48,y48,kd48_0,k48_0,F48,g1,g2,gA_sd,sdK,gA_us,usK,hu,h0,lenX_row,mkd_c,mb_t,mb_f,true_or,or_true,g5,g6,if_true]
  obtain ⟨e,T,st1,h1,rfl,h2,rfl⟩:=hB
  refine ⟨_,callYr (N:=14) (ok48 hK) (hK.nx _ _ _ rfl) rfl ⟨_,h1,finish_ret (v0:=.str b) (v:=.str b) (st3:=⟨upd st.heap r (.mem 5 (bytesA b) false b.length),st.next,[r]⟩) endOf_ret (by simp only [RS,RT,RZ,Zu,rA,rB,rC,rD,rE,rF,reduceCtorEq,Zw,F48,h2]) (frz_noRow rfl fun _ => rfl)⟩,?_⟩
  intro l hl
  rcases leave_cases (st0:=st) (st1:=⟨upd st.heap r (.mem 5 (bytesA b) false b.length),st.next,[r]⟩) (vs:=[.str b]) with ⟨c1,_⟩ | c1
  ·have hl2:l ∈ (leaveSt st [.str b] ⟨upd st.heap r (.mem 5 (bytesA b) false b.length),st.next,[r]⟩).log:=hl
   rw [c1] at hl2
   exact .inl hl2
  ·have hl2:l ∈ (leaveSt st [.str b] ⟨upd st.heap r (.mem 5 (bytesA b) false b.length),st.next,[r]⟩).log:=hl
   rw [c1] at hl2
   simp only [List.mem_append,List.mem_filter,List.mem_singleton] at hl2
   rcases hl2 with ⟨hl2,_⟩ | hl2
   ·exact .inr (by omega)
   ·exact .inl hl2
end
section
variable {Q:Ctx} (hK:K Q) (hI:∀ n:Int,0 ≤ n → n ≤ 100000 → Ret Q 241 [.int .i64 n] (.str (dig n.toNat)))
include hK hI
def textF (f:Fo):List Nat:=if 20000 < (puts [] f.toks).length then [] else puts [] f.toks
end
end Go.Proofs.L06

namespace Go.Proofs.L06
open Go Go.AE
open Nat renaming reduceLT → rA,reduceLeDiff → rB,reduceEqDiff → rC,reduceMul → rD,reduceAdd → rE,reduceSub → rF
set_option maxHeartbeats 8000000
end Go.Proofs.L06

namespace Go.Proofs.L06
open Go Go.AE
open Nat renaming reduceLT → rA,reduceLeDiff → rB,reduceEqDiff → rC,reduceMul → rD,reduceAdd → rE,reduceSub → rF
set_option maxHeartbeats 8000000
end Go.Proofs.L06
