/- Size, depth, raw terms: at every tree. -/
import Derived.Test.YtdlahjpoiichkaaGreatDoorS3
set_option linter.unusedVariables false
set_option linter.unusedSimpArgs false
set_option linter.unusedSectionVars false
namespace Go.Proofs.L06
open Go Go.AE
open Nat renaming reduceLT → rA,reduceLeDiff → rB,reduceEqDiff → rC,reduceMul → rD,reduceAdd → rE,reduceSub → rF
set_option maxHeartbeats 8000000
inductive Ty where
 | mk (nm:List Nat) (k:SK) (xs:List Ty)
inductive Tm where
 | mk (kd n:Int) (nm:List Nat) (k:SK) (xs:List Tm)
inductive Fo where
 | mk (kd:Int) (nm:List Nat) (ka:SK) (xs:List Tm) (ty:Ty) (kl:SK) (ls:List Fo)
def Ty.xs:Ty → List Ty | .mk _ _ xs => xs
def Ty.nm:Ty → List Nat | .mk nm _ _ => nm
def Ty.k:Ty → SK | .mk _ k _ => k
def Tm.xs:Tm → List Tm | .mk _ _ _ _ xs => xs
def Fo.ls:Fo → List Fo | .mk _ _ _ _ _ _ ls => ls
theorem Ty.ind {P:Ty → Prop} (h:∀ nm k xs,(∀ a ∈ xs,P a) → P (.mk nm k xs)) (t:Ty):P t:=by
 have key:∀ (n:Nat) (t:Ty),SizeOf.sizeOf t ≤ n → P t:=by
  intro n
  induction n with
  | zero => intro t ht; cases t; simp at ht
  | succ n ih =>
   intro t ht
   obtain ⟨nm,k,xs⟩:=t
   refine h nm k xs fun a ha => ih a ?_
   have:=List.sizeOf_lt_of_mem ha
   simp at ht; omega
 exact key _ t (Nat.le_refl _)
theorem Tm.ind {P:Tm → Prop} (h:∀ kd n nm k xs,(∀ a ∈ xs,P a) → P (.mk kd n nm k xs)) (t:Tm):P t:=by
 have key:∀ (n:Nat) (t:Tm),SizeOf.sizeOf t ≤ n → P t:=by
  intro n
  induction n with
  | zero => intro t ht; cases t; simp at ht
  | succ n ih =>
   intro t ht
   obtain ⟨kd,m,nm,k,xs⟩:=t
   refine h kd m nm k xs fun a ha => ih a ?_
   have:=List.sizeOf_lt_of_mem ha
   simp at ht; omega
 exact key _ t (Nat.le_refl _)
theorem Fo.ind {P:Fo → Prop} (h:∀ kd nm ka xs ty kl ls,(∀ a ∈ ls,P a) → P (.mk kd nm ka xs ty kl ls)) (f:Fo):P f:=by
 have key:∀ (n:Nat) (f:Fo),SizeOf.sizeOf f ≤ n → P f:=by
  intro n
  induction n with
  | zero => intro t ht; cases t; simp at ht
  | succ n ih =>
   intro t ht
   obtain ⟨kd,nm,ka,xs,ty,kl,ls⟩:=t
   refine h kd nm ka xs ty kl ls fun a ha => ih a ?_
   have:=List.sizeOf_lt_of_mem ha
   simp at ht; omega
 exact key _ f (Nat.le_refl _)
mutual
def Ty.av:Ty → AV | .mk nm k xs => .agg [.str nm,.slice k (Ty.avs xs)]
def Ty.avs:List Ty → List AV | [] => [] | t :: r => t.av :: Ty.avs r
end
mutual
def Tm.av:Tm → AV | .mk kd n nm k xs => .agg [.int .i64 kd,.int .i64 n,.str nm,.slice k (Tm.avs xs)]
def Tm.avs:List Tm → List AV | [] => [] | t :: r => t.av :: Tm.avs r
end
mutual
def Fo.av:Fo → AV | .mk kd nm ka xs ty kl ls => .agg [.int .i64 kd,.str nm,.slice ka (Tm.avs xs),.str ty.nm,.slice ty.k (Ty.avs ty.xs),.slice kl (Fo.avs ls)]
def Fo.avs:List Fo → List AV | [] => [] | t :: r => t.av :: Fo.avs r
end
theorem Ty.avs_eq:∀ l:List Ty,Ty.avs l = l.map Ty.av | [] => rfl | t :: r => by rw [Ty.avs,List.map_cons,Ty.avs_eq r]
theorem Tm.avs_eq:∀ l:List Tm,Tm.avs l = l.map Tm.av | [] => rfl | t :: r => by rw [Tm.avs,List.map_cons,Tm.avs_eq r]
theorem Fo.avs_eq:∀ l:List Fo,Fo.avs l = l.map Fo.av | [] => rfl | t :: r => by rw [Fo.avs,List.map_cons,Fo.avs_eq r]
theorem Ty.len (l:List Ty):(Ty.avs l).length = l.length:=by rw [Ty.avs_eq,List.length_map]
theorem Tm.len (l:List Tm):(Tm.avs l).length = l.length:=by rw [Tm.avs_eq,List.length_map]
theorem Fo.len (l:List Fo):(Fo.avs l).length = l.length:=by rw [Fo.avs_eq,List.length_map]
theorem Ty.get {l:List Ty} {i:Nat} {t:Ty} (h:l[i]? = some t):(Ty.avs l)[i]? = some t.av:=by rw [Ty.avs_eq,List.getElem?_map,h]; rfl
theorem Tm.get {l:List Tm} {i:Nat} {t:Tm} (h:l[i]? = some t):(Tm.avs l)[i]? = some t.av:=by rw [Tm.avs_eq,List.getElem?_map,h]; rfl
theorem Fo.get {l:List Fo} {i:Nat} {t:Fo} (h:l[i]? = some t):(Fo.avs l)[i]? = some t.av:=by rw [Fo.avs_eq,List.getElem?_map,h]; rfl
def Big:Nat:=9223372036854775808
def noTok:SK → Prop | .tok _ _ => False | _ => True
def num (n:Int):Prop:=-9223372036854775808 ≤ n ∧ n < 9223372036854775808
mutual
def Ty.Ok:Ty → Prop | .mk nm k xs => BStr nm ∧ noTok k ∧ xs.length < Big ∧ Ty.Oks xs
def Ty.Oks:List Ty → Prop | [] => True | t :: r => t.Ok ∧ Ty.Oks r
end
mutual
def Tm.Ok:Tm → Prop | .mk kd n nm k xs => num kd ∧ num n ∧ BStr nm ∧ noTok k ∧ xs.length < Big ∧ Tm.Oks xs
def Tm.Oks:List Tm → Prop | [] => True | t :: r => t.Ok ∧ Tm.Oks r
end
mutual
def Fo.Ok:Fo → Prop | .mk kd nm ka xs ty kl ls => num kd ∧ BStr nm ∧ noTok ka ∧ xs.length < Big ∧ Tm.Oks xs ∧ ty.Ok ∧ noTok kl ∧ ls.length < Big ∧ Fo.Oks ls
def Fo.Oks:List Fo → Prop | [] => True | t :: r => t.Ok ∧ Fo.Oks r
end
theorem Ty.oks:∀ {l:List Ty},Ty.Oks l → ∀ t ∈ l,t.Ok
 | [],_,t,h => nomatch h
 | x :: l,hl,t,h => by
  rcases List.mem_cons.1 h with rfl | h
  ·exact hl.1
  ·exact Ty.oks hl.2 t h
theorem Tm.oks:∀ {l:List Tm},Tm.Oks l → ∀ t ∈ l,t.Ok
 | [],_,t,h => nomatch h
 | x :: l,hl,t,h => by
  rcases List.mem_cons.1 h with rfl | h
  ·exact hl.1
  ·exact Tm.oks hl.2 t h
theorem Fo.oks:∀ {l:List Fo},Fo.Oks l → ∀ t ∈ l,t.Ok
 | [],_,t,h => nomatch h
 | x :: l,hl,t,h => by
  rcases List.mem_cons.1 h with rfl | h
  ·exact hl.1
  ·exact Fo.oks hl.2 t h
structure Wr (P:Nat → Prop) (a b:St):Prop where
 heap:∀ q,q < a.next → ¬ P q → b.heap q = a.heap q
 next:a.next ≤ b.next
 log:∀ l ∈ b.log,l ∈ a.log ∨ P l ∨ a.next ≤ l
 keep:∀ l ∈ a.log,l ∈ b.log
theorem Wr.refl {P:Nat → Prop} (a:St):Wr P a a:=⟨fun _ _ _ => rfl,Nat.le_refl _,fun _ h => .inl h,fun _ h => h⟩
theorem Wr.trans {P:Nat → Prop} {a b c:St} (h:Wr P a b) (k:Wr P b c):Wr P a c :=
 ⟨fun q hq hp => (k.heap q (Nat.lt_of_lt_of_le hq h.next) hp).trans (h.heap q hq hp),Nat.le_trans h.next k.next,fun l hl => by
  rcases k.log l hl with e | e | e
  ·exact h.log l e
  ·exact .inr (.inl e)
  ·exact .inr (.inr (Nat.le_trans h.next e)),fun l hl => k.keep l (h.keep l hl)⟩
theorem leave_hit {st0 st1:St} {vs:List AV} {P:Nat → Prop} {p:Nat} (h:Wr P ⟨st0.heap,st0.next,[]⟩ st1) (hp:p ∈ st1.log) (hl:p < st0.next) :
  (leaveSt st0 vs st1).heap = st1.heap ∧ Wr P st0 (leaveSt st0 vs st1) ∧ p ∈ (leaveSt st0 vs st1).log:=by
 rcases leave_cases (st0:=st0) (st1:=st1) (vs:=vs) with ⟨_,c2⟩ | c1
 ·have:=c2 p hp; omega
 ·rw [c1]
  refine ⟨rfl,⟨h.heap,h.next,fun l hl => ?_,fun l hl => by simp [hl]⟩,by simp [hp,hl]⟩
  simp only [List.mem_append,List.mem_filter] at hl
  rcases hl with ⟨hl,_⟩ | hl
  ·rcases h.log l hl with e | e
   ·cases e
   ·exact .inr e
  ·exact .inl hl
section
variable {Q:Ctx} {f:FuncId} {nt:Nat} {b:Code} {x:XC} {N:Nat} {args:List AV} {st:St} {P:Nat → Prop} {p:Nat}
theorem proc_end {R:CR → (Nat → AO) → Prop} (ok:FnOk Q f ⟨nt,[],b⟩ x false) (hX:Q.X f args st = none) (hN:max nt args.length = N) (hp:p < st.next)
  (h:Post N [] none (execY (callW Q) Q false f none x ⟨argTmps args,N,[],none⟩ ⟨st.heap,st.next,[]⟩) fun e T st1 => Wr P ⟨st.heap,st.next,[]⟩ st1 ∧ p ∈ st1.log ∧
   ((endOf e = some none ∧ R (.ret (.tuple [])) st1.heap) ∨ ∃ v,e = .pan v ∧ R (.pan v) st1.heap)) :
  ∃ r st',callW Q (.fn f) args .normal st = some (r,st',none) ∧ Wr P st st' ∧ p ∈ st'.log ∧ R r st'.heap:=by
 obtain ⟨e,T,st1,h1,hw,hl,⟨he,hr⟩ | ⟨v,rfl,hr⟩⟩:=h
 ·obtain ⟨a1,a2,a3⟩:=leave_hit (vs:=[.tuple []]) hw hl hp
  refine ⟨_,_,callYr ok hX hN ⟨_,h1,finish_ret (v0:=.tuple []) (v:=.tuple []) (st3:=st1) he rfl (frz_noRow rfl fun _ => rfl)⟩,a2,a3,?_⟩
  rw [show (leaveSt st (.tuple [] :: (none:Option AV).toList) st1).heap = st1.heap from a1]
  exact hr
 ·obtain ⟨a1,a2,a3⟩:=leave_hit (vs:=[v]) hw hl hp
  refine ⟨_,_,callYr ok hX hN ⟨_,h1,finish_pan⟩,a2,a3,?_⟩
  rw [show (leaveSt st (v :: (none:Option AV).toList) st1).heap = st1.heap from a1]
  exact hr
end
def nilK (st:St):AV → Option OPR
 | .ptr l a => some (.val (.ptr l a) st)
 | .cptr cs => some (.val (.cptr cs) st)
 | .func (.func f) a b => some (.val (.func (.func f) a b) st)
 | _ => none
theorem gA_nl {C:Ctx} {mu ro:Bool} {fr:Fr} {st:St} {x:Operand} {ds:Option Tmp} {ty:TypeId} {pos:String} {af:Array Edge} {g:Option (Nat × Bool)}:opA C mu ro fr st ⟨ds,.nilCheck x,ty,pos,af,g⟩ = nilK st (oval C fr x):=by
 simp only [opA,nilK]
 rfl
theorem nilK_ptr {st:St} {l a:Nat}:nilK st (.ptr l a) = some (.val (.ptr l a) st):=(rfl)
theorem getD_4 {a b c d e z:AV} {l:List AV}:(a :: b :: c :: d :: e :: l).getD 4 z = e:=(rfl)
theorem getD_5 {a b c d e f z:AV} {l:List AV}:(a :: b :: c :: d :: e :: f :: l).getD 5 z = f:=(rfl)
theorem wrapN {z:Int} {n:Nat} (e:z = (n:Int)) (h:n < 4611686018427387904):IntKind.i64.wrap z = (n:Int):=by
 subst e
 rw [wrap64 (by omega) (by omega)]
theorem at4 {α:Type} {a b c d e:α} {l:List α}:(a :: b :: c :: d :: e :: l)[4]? = some e:=(rfl)
theorem at5 {α:Type} {a b c d e f:α} {l:List α}:(a :: b :: c :: d :: e :: f :: l)[5]? = some f:=(rfl)
theorem at3 {α:Type} {a b c d:α} {l:List α}:(a :: b :: c :: d :: l)[3]? = some d:=(rfl)
theorem cells_fn {f:Fn} {a b:List AV}:(AV.func f a b).cells = [.func f a b]:=(rfl)
theorem ic_fn {f:Fn} {a b:List AV}:(AV.func f a b).isCell = true:=(rfl)
theorem any_fn {f:Fn} {a b:List AV}:(AV.func f a b).isAny = false:=(rfl)
theorem sto_nil {st:St} {l o:Nat}:sto st l o [] = some st:=(rfl)
theorem upd_again {α:Type} {h:Nat → α} {n:Nat} {a b:α}:upd (upd h n a) n b = upd h n b:=by
 funext q
 by_cases e:q = n
 ·subst e; rw [upd_same,upd_same]
 ·rw [upd_ne _ _ e,upd_ne _ _ e,upd_ne _ _ e]
theorem Zw:type_of% (o1 @at3 (o1 @at4 (o1 @at5 (o1 @gA_nl (o1 @nilK_ptr (o1 @upd_again (o1 @sto_nil (o1 @getD_4 (o1 @getD_5 (o1 @List.map_nil.{0,0} (o1 @List.nil_append.{0} (o1 @cells_fn (o1 @ic_fn (@any_fn)))))))))))))):=o1 @at3 (o1 @at4 (o1 @at5 (o1 @gA_nl (o1 @nilK_ptr (o1 @upd_again (o1 @sto_nil (o1 @getD_4 (o1 @getD_5 (o1 @List.map_nil.{0,0} (o1 @List.nil_append.{0} (o1 @cells_fn (o1 @ic_fn (@any_fn)))))))))))))
theorem Zx:type_of% (o1 @at3 (o1 @at4 (o1 @at5 (o1 @gA_nl (o1 @nilK_ptr (o1 @upd_again (o1 @sto_nil (o1 @getD_4 (@getD_5))))))))):=o1 @at3 (o1 @at4 (o1 @at5 (o1 @gA_nl (o1 @nilK_ptr (o1 @upd_again (o1 @sto_nil (o1 @getD_4 (@getD_5))))))))
theorem Wr.fresh {P:Nat → Prop} {a:St} {h:Nat → AO} {nx:Nat} {lg lg2:List Nat} {o:AO} (hw:Wr P a ⟨h,nx,lg⟩) (hl:∀ l ∈ lg2,l = nx ∨ l ∈ lg) (hk:∀ l ∈ lg,l ∈ lg2):Wr P a ⟨upd h nx o,nx + 1,lg2⟩ :=
 ⟨fun q hq hn => by
  have:=hw.next
  simp only at hq this ⊢
  rw [upd_ne _ _ (by omega)]; exact hw.heap q hq hn,Nat.le_succ_of_le hw.next,fun l hm => by
  rcases hl l hm with rfl | hm
  ·exact .inr (.inr hw.next)
  ·exact hw.log l hm,fun l hm => hk l (hw.keep l hm)⟩
theorem Wr.hit {P:Nat → Prop} {a:St} {h:Nat → AO} {nx p:Nat} {lg lg2:List Nat} {o:AO} (hw:Wr P a ⟨h,nx,lg⟩) (hp:P p) (hl:∀ l ∈ lg2,l = p ∨ l ∈ lg) (hk:∀ l ∈ lg,l ∈ lg2):Wr P a ⟨upd h p o,nx,lg2⟩ :=
 ⟨fun q hq hn => by
  simp only at hq ⊢
  rw [upd_ne _ _ (fun e => hn (by subst e; exact hp))]; exact hw.heap q hq hn,hw.next,fun l hm => by
  rcases hl l hm with rfl | hm
  ·exact .inr (.inl hp)
  ·exact hw.log l hm,fun l hm => hk l (hw.keep l hm)⟩
theorem Wr.new {P:Nat → Prop} {a:St} {h:Nat → AO} {nx:Nat} {lg:List Nat} {o:AO} (hw:Wr P a ⟨h,nx,lg⟩):Wr P a ⟨upd h nx o,nx + 1,nx :: lg⟩:=hw.fresh (fun l hl => by simpa using hl) fun l hl => by simp [hl]
theorem Wr.new0 {P:Nat → Prop} {a:St} {h:Nat → AO} {nx:Nat} {lg:List Nat} {o:AO} (hw:Wr P a ⟨h,nx,lg⟩):Wr P a ⟨upd h nx o,nx + 1,lg⟩:=hw.fresh (fun l hl => .inr hl) fun l hl => hl
theorem take_sum {α:Type} {g:α → Nat} {l:List α} {i:Nat} {t:α} (h:l[i]? = some t):((l.take (i + 1)).map g).sum = ((l.take i).map g).sum + g t:=by
 rw [List.take_add_one,h]
 simp
theorem take_le {α:Type} {g:α → Nat} (l:List α) (i:Nat):((l.take i).map g).sum ≤ (l.map g).sum:=by
 conv => rhs; rw [← List.take_append_drop i l]
 rw [List.map_append,List.sum_append]
 omega
end Go.Proofs.L06

namespace Go.Proofs.L06
open Go Go.AE
open Nat renaming reduceLT → rA,reduceLeDiff → rB,reduceEqDiff → rC,reduceMul → rD,reduceAdd → rE,reduceSub → rF
set_option maxHeartbeats 8000000
mutual
def Tm.sz:Tm → Nat | .mk _ _ _ _ xs => 1 + Tm.szs xs
def Tm.szs:List Tm → Nat | [] => 0 | t :: r => t.sz + Tm.szs r
end
mutual
def Fo.sz:Fo → Nat | .mk _ _ _ xs _ _ ls => 1 + Tm.szs xs + Fo.szs ls
def Fo.szs:List Fo → Nat | [] => 0 | t :: r => t.sz + Fo.szs r
end
theorem Tm.szs_eq:∀ l:List Tm,Tm.szs l = (l.map Tm.sz).sum | [] => rfl | t :: r => by rw [Tm.szs,Tm.szs_eq r,List.map_cons,List.sum_cons]
theorem Fo.szs_eq:∀ l:List Fo,Fo.szs l = (l.map Fo.sz).sum | [] => rfl | t :: r => by rw [Fo.szs,Fo.szs_eq r,List.map_cons,List.sum_cons]
theorem binA_ee {C:Ctx} {t:TypeId} {ti:TI} {k:Nat} {v:Value} {ms:Array (String × TypeId)} (h:C.ty t = some ti) (hu:ti.und = .interface ms):binA C .eql t (.tmp k) (.const v) .nilif .nilif = some (.bool true):=by
 obtain ⟨u,a,b,c,d,e⟩:=ti
 simp only at hu
 subst hu
 simp only [binA,isConstO,Bool.or_true,if_true,h]
theorem binA_ie {C:Ctx} {t:TypeId} {ti:TI} {xo yo:Operand} {u:TypeId} {v:AV} {ms:Array (String × TypeId)} (h:C.ty t = some ti) (hu:ti.und = .interface ms):binA C .eql t xo yo (.iface u v) .nilif = some (.bool false):=by
 obtain ⟨u',a,b,c,d,e⟩:=ti
 simp only at hu
 subst hu
 simp only [binA,eqV,h,boolA]
 rfl
def ctr (c:Nat):AO:=.mem 88 [.int .i64 (c:Int)] true 0
def bigV:AV:=.iface 90 (.agg [])
def CtR (c m p:Nat) (r:CR) (h:Nat → AO):Prop:=(c + m ≤ 4000 ∧ r = .ret (.tuple []) ∧ h p = ctr (c + m)) ∨ (4000 < c + m ∧ r = .pan bigV ∧ h p = ctr 4001)
def at1 (p q:Nat):Prop:=q = p
section
variable {Q:Ctx} (hK:K Q)
include hK
theorem term_c:∀ (t:Tm),t.Ok → ∀ (st:St) (c p:Nat),p < st.next → st.heap p = ctr c → c ≤ 4000 → ∃ r st',callW Q (.fn 100) [.ptr p 0,t.av] .normal st = some (r,st',none) ∧ Wr (at1 p) st st' ∧ p ∈ st'.log ∧ CtR c t.sz p r st'.heap:=by
 intro t
 induction t using Tm.ind with
 | _ kd n nm k xs ih =>
 intro hok st c p hp hc hc4
 refine proc_end (N:=31) (ok100 hK) (hK.nx _ _ _ rfl) rfl hp ?_
 obtain ⟨_,_,_,_,hl,hoks⟩:=hok
 have e0:(p = st.next) = False:=eq_false (by omega)
 have e0':(st.next = p) = False:=eq_false (by omega)
 have l1:p < st.next + 1:=by omega
 have w1:=wrapUp (show c < 9223372036854775807 by omega)
 rw [Tm.sz]
 by_cases h4:4000 ≤ c
 ·have hd:=decT (show (4000:Int) < ((c + 1:Nat):Int) by omega)
  simp only [RS,RT,RZ,Zu,rA,rB,rC,rD,rE,rF,reduceCtorEq,Zx,List.map_nil,List.nil_append,x100,y100,Tm.av,hc,ctr,e0,e0',hp,l1,w1,hd,gA_iface,tw90 hK,ifaceK_some ni90]
  refine ⟨((Wr.refl _).new0).hit rfl (fun l hl => by simpa using hl) (fun l hl => nomatch hl),by simp,.inr ⟨_,rfl,.inr ⟨by omega,rfl,?_⟩⟩⟩
  rw [upd_same]
  have:c = 4000:=by omega
  subst this
  rfl
 ·have hd:=decF (show ¬ (4000:Int) < ((c + 1:Nat):Int) by omega)
  simp only [RS,RT,RZ,Zu,rA,rB,rC,rD,rE,rF,reduceCtorEq,Zx,List.map_nil,List.nil_append,x100,y100,Tm.av,hc,ctr,e0,e0',hp,l1,w1,hd]
  refine post_bind (post_for (I:=fun i T st1 => T 0 = .ptr p 0 ∧ T 21 = .slice k (Tm.avs xs) ∧ T 22 = .int .i64 (xs.length:Int) ∧ T 23 = .int .i64 (i:Int) ∧ Wr (at1 p) ⟨st.heap,st.next,[]⟩ st1 ∧ p ∈ st1.log ∧
    st1.heap p = ctr (c + (1 + ((xs.take i).map Tm.sz).sum)) ∧ c + (1 + ((xs.take i).map Tm.sz).sum) ≤ 4000)
   (Q:=fun e T st1 => Wr (at1 p) ⟨st.heap,st.next,[]⟩ st1 ∧ p ∈ st1.log ∧ ((e = .exit 0 ∧ c + (1 + Tm.szs xs) ≤ 4000 ∧ st1.heap p = ctr (c + (1 + Tm.szs xs))) ∨ (e = .pan bigV ∧ 4000 < c + (1 + Tm.szs xs) ∧ st1.heap p = ctr 4001)))
   xs.length ?_ ?_ (Nat.zero_le _) ?_) ?_
  ·rintro i T ⟨h,nx,lg⟩ hi ⟨t0,t21,t22,t23,hw,hlg,hh,hle⟩
   obtain ⟨a,ha⟩:∃ a,xs[i]? = some a:=⟨_,List.getElem?_eq_getElem hi⟩
   have ham:=List.mem_of_getElem? ha
   have hnx:p < nx:=Nat.lt_of_lt_of_le hp hw.next
   simp only at hh
   have hpn:(p = nx) = False:=eq_false (by omega)
   obtain ⟨kd',n',nm',k',xs'⟩:=a
   obtain ⟨r,st2,c1,c2,c3,c4⟩:=ih _ ham (Tm.oks hoks _ ham) ⟨upd h nx (.mem 39 [.int .i64 kd',.int .i64 n',.str nm',.slice k' (Tm.avs xs')] true 0),nx + 1,nx :: lg⟩ _ p (by simp only; omega) (by simp only; rw [upd_ne _ _ (by omega)]; exact hh) hle
   have hg:=Tm.get ha
   rw [Tm.av] at c1 hg
   have hil:i < (Tm.avs xs).length:=by rw [Tm.len]; exact hi
   have hi2:=wrapUp (show i < 9223372036854775807 by unfold Big at hl; omega)
   rcases c4 with ⟨d1,rfl,d2⟩ | ⟨d1,rfl,d2⟩
   ·simp only [RS,RT,RZ,Zu,rA,rB,rC,rD,rE,rF,reduceCtorEq,Zx,List.map_nil,List.nil_append,l100_0,m100_0,t0,t21,t22,t23,hi,hg,c1,hnx,hi2]
    have hs:=take_sum (g:=Tm.sz) ha
    refine ⟨hw.new.trans c2,c3,?_,?_⟩
    ·rw [d2,hs]; congr 1; omega
    ·rw [hs]; omega
   ·simp only [RS,RT,RZ,Zu,rA,rB,rC,rD,rE,rF,reduceCtorEq,Zx,List.map_nil,List.nil_append,l100_0,m100_0,t0,t21,t22,t23,hi,hg,c1,hnx,hi2]
    have hs:=take_sum (g:=Tm.sz) ha
    have hle2:=take_le (g:=Tm.sz) xs (i + 1)
    refine ⟨hw.new.trans c2,c3,?_,d2⟩
    rw [Tm.szs_eq]; omega
  ·rintro T ⟨h,nx,lg⟩ ⟨t0,t21,t22,t23,hw,hlg,hh,hle⟩
   rw [List.take_length,← Tm.szs_eq] at hh hle
   simp only [RS,RT,RZ,Zu,rA,rB,rC,rD,rE,rF,reduceCtorEq,Zx,List.map_nil,List.nil_append,l100_0,m100_0,t0,t21,t22,t23]
   exact ⟨hw,hlg,hle,hh⟩
  ·simp only [RS,RT,RZ,Zu,rA,rB,rC,rD,rE,rF,reduceCtorEq,Zx,List.map_nil,List.nil_append,ctr,Tm.len]
   refine ⟨((Wr.refl _).new0).hit rfl (fun l hl => by simpa using hl) (fun l hl => nomatch hl),by simp,by simp,by simp; omega⟩
  ·rintro e T st1 ⟨hw,hlg,⟨rfl,hle,hh⟩ | ⟨rfl,hle,hh⟩⟩
   ·simp only [RS,RT,RZ,Zu,rA,rB,rC,rD,rE,rF,reduceCtorEq,Zx,List.map_nil,List.nil_append,]
    exact ⟨hw,hlg,.inl (.inl ⟨hle,rfl,hh⟩)⟩
   ·simp only [RS,RT,RZ,Zu,rA,rB,rC,rD,rE,rF,reduceCtorEq,Zx,List.map_nil,List.nil_append,]
    exact ⟨hw,hlg,.inr ⟨_,rfl,.inr ⟨by omega,rfl,hh⟩⟩⟩
theorem form_c:∀ (f:Fo),f.Ok → ∀ (st:St) (c p:Nat),p < st.next → st.heap p = ctr c → c ≤ 4000 → ∃ r st',callW Q (.fn 45) [.ptr p 0,f.av] .normal st = some (r,st',none) ∧ Wr (at1 p) st st' ∧ p ∈ st'.log ∧ CtR c f.sz p r st'.heap:=by
 intro f
 induction f using Fo.ind with
 | _ kd nm ka xs ty kl ls ih =>
 intro hok st c p hp hc hc4
 refine proc_end (N:=44) (ok45 hK) (hK.nx _ _ _ rfl) rfl hp ?_
 obtain ⟨_,_,_,hl,hoks,_,_,hl2,hoks2⟩:=hok
 have e0:(p = st.next) = False:=eq_false (by omega)
 have e0':(st.next = p) = False:=eq_false (by omega)
 have l1:p < st.next + 1:=by omega
 have w1:=wrapUp (show c < 9223372036854775807 by omega)
 rw [Fo.sz]
 by_cases h4:4000 ≤ c
 ·have hd:=decT (show (4000:Int) < ((c + 1:Nat):Int) by omega)
  simp only [RS,RT,RZ,Zu,rA,rB,rC,rD,rE,rF,reduceCtorEq,Zx,List.map_nil,List.nil_append,x45,y45,Fo.av,hc,ctr,e0,e0',hp,l1,w1,hd,gA_iface,tw90 hK,ifaceK_some ni90]
  refine ⟨((Wr.refl _).new0).hit rfl (fun l hl => by simpa using hl) (fun l hl => nomatch hl),by simp,.inr ⟨_,rfl,.inr ⟨by omega,rfl,?_⟩⟩⟩
  rw [upd_same]
  have:c = 4000:=by omega
  subst this
  rfl
 ·have hd:=decF (show ¬ (4000:Int) < ((c + 1:Nat):Int) by omega)
  simp only [RS,RT,RZ,Zu,rA,rB,rC,rD,rE,rF,reduceCtorEq,Zx,List.map_nil,List.nil_append,x45,y45,Fo.av,hc,ctr,e0,e0',hp,l1,w1,hd]
  obtain ⟨b0,hb0⟩:∃ b0:St,b0 = ⟨upd (upd st.heap st.next (.mem 28 [.int .i64 kd,.str nm,.slice ka (Tm.avs xs),.str ty.nm,.slice ty.k (Ty.avs ty.xs),.slice kl (Fo.avs ls)] true 0)) p (ctr (c + 1)),st.next + 1,[p]⟩:=⟨_,rfl⟩
  have hb1:Wr (at1 p) ⟨st.heap,st.next,[]⟩ b0:=by rw [hb0]; exact ((Wr.refl _).new0).hit rfl (fun l hl => by simpa using hl) (fun l hl => nomatch hl)
  have hbx:∀ {st1:St},Wr (at1 p) b0 st1 → st1.heap st.next = .mem 28 [.int .i64 kd,.str nm,.slice ka (Tm.avs xs),.str ty.nm,.slice ty.k (Ty.avs ty.xs),.slice kl (Fo.avs ls)] true 0 ∧ p < st1.next ∧ st.next < st1.next ∧ p ∈ st1.log:=fun {st1} hw => by
   have h1:=hw.next
   have h2:=hw.heap st.next (by rw [hb0]; exact Nat.lt_succ_self _) (fun e:st.next = p => by omega)
   rw [hb0] at h1 h2
   simp only at h1 h2
   rw [upd_ne _ _ (by omega),upd_same] at h2
   exact ⟨h2,by omega,by omega,hw.keep p (by rw [hb0]; simp)⟩
  refine post_bind (post_for (I:=fun i T st1 => T 0 = .ptr p 0 ∧ T 3 = .ptr st.next 0 ∧ T 23 = .slice ka (Tm.avs xs) ∧ T 24 = .int .i64 (xs.length:Int) ∧ T 25 = .int .i64 (i:Int) ∧ Wr (at1 p) b0 st1 ∧
    st1.heap p = ctr (c + (1 + ((xs.take i).map Tm.sz).sum)) ∧ c + (1 + ((xs.take i).map Tm.sz).sum) ≤ 4000)
   (Q:=fun e T st1 => Wr (at1 p) b0 st1 ∧ ((e = .exit 0 ∧ T 0 = .ptr p 0 ∧ T 3 = .ptr st.next 0 ∧ c + (1 + Tm.szs xs) ≤ 4000 ∧ st1.heap p = ctr (c + (1 + Tm.szs xs))) ∨ (e = .pan bigV ∧ 4000 < c + (1 + Tm.szs xs) ∧ st1.heap p = ctr 4001)))
   xs.length ?_ ?_ (Nat.zero_le _) ?_) ?_
  ·rintro i T ⟨h,nx,lg⟩ hi ⟨t0,t3,t23,t24,t25,hw,hh,hle⟩
   obtain ⟨a,ha⟩:∃ a,xs[i]? = some a:=⟨_,List.getElem?_eq_getElem hi⟩
   have ham:=List.mem_of_getElem? ha
   obtain ⟨hb,hnx,hnx2,hlg⟩:=hbx hw
   simp only at hh hnx
   obtain ⟨kd',n',nm',k',xs'⟩:=a
   obtain ⟨r,st2,c1,c2,c3,c4⟩:=term_c hK _ (Tm.oks hoks _ ham) ⟨upd h nx (.mem 39 [.int .i64 kd',.int .i64 n',.str nm',.slice k' (Tm.avs xs')] true 0),nx + 1,nx :: lg⟩ _ p (by simp only; omega) (by simp only; rw [upd_ne _ _ (by omega)]; exact hh) hle
   have hg:=Tm.get ha
   rw [Tm.av] at c1 hg
   have hi2:=wrapUp (show i < 9223372036854775807 by unfold Big at hl; omega)
   have hs:=take_sum (g:=Tm.sz) ha
   have hle2:=take_le (g:=Tm.sz) xs (i + 1)
   rcases c4 with ⟨d1,rfl,d2⟩ | ⟨d1,rfl,d2⟩
   ·simp only [RS,RT,RZ,Zu,rA,rB,rC,rD,rE,rF,reduceCtorEq,Zx,List.map_nil,List.nil_append,l45_0,m45_0,t0,t3,t23,t24,t25,hi,hg,c1,hnx,hi2]
    refine ⟨hw.new.trans c2,?_,?_⟩
    ·rw [d2,hs]; congr 1; omega
    ·rw [hs]; omega
   ·simp only [RS,RT,RZ,Zu,rA,rB,rC,rD,rE,rF,reduceCtorEq,Zx,List.map_nil,List.nil_append,l45_0,m45_0,t0,t3,t23,t24,t25,hi,hg,c1,hnx,hi2]
    refine ⟨hw.new.trans c2,?_,d2⟩
    rw [Tm.szs_eq]; omega
  ·rintro T ⟨h,nx,lg⟩ ⟨t0,t3,t23,t24,t25,hw,hh,hle⟩
   rw [List.take_length,← Tm.szs_eq] at hh hle
   simp only [RS,RT,RZ,Zu,rA,rB,rC,rD,rE,rF,reduceCtorEq,Zx,List.map_nil,List.nil_append,l45_0,m45_0,t0,t3,t23,t24,t25]
   exact ⟨hw,hle,hh⟩
  ·simp only [RS,RT,RZ,Zu,rA,rB,rC,rD,rE,rF,reduceCtorEq,Zx,List.map_nil,List.nil_append,ctr,Tm.len]
   refine ⟨by rw [hb0]; exact Wr.refl _,by simp,by simp; omega⟩
  ·rintro e T ⟨h,nx,lg⟩ ⟨hw,⟨rfl,t0,t3,hle,hh⟩ | ⟨rfl,hle,hh⟩⟩
   ·obtain ⟨hb,hnx,hnx2,hlg⟩:=hbx hw
    simp only at hh hnx hnx2 hb
    simp only [RS,RT,RZ,Zu,rA,rB,rC,rD,rE,rF,reduceCtorEq,Zx,List.map_nil,List.nil_append,t0,t3,hb,hnx2]
    refine post_bind (post_for (I:=fun i T st1 => T 0 = .ptr p 0 ∧ T 34 = .slice kl (Fo.avs ls) ∧ T 35 = .int .i64 (ls.length:Int) ∧ T 36 = .int .i64 (i:Int) ∧ Wr (at1 p) b0 st1 ∧
      st1.heap p = ctr (c + (1 + (Tm.szs xs + ((ls.take i).map Fo.sz).sum))) ∧ c + (1 + (Tm.szs xs + ((ls.take i).map Fo.sz).sum)) ≤ 4000)
     (Q:=fun e T st1 => Wr (at1 p) b0 st1 ∧ ((e = .exit 2 ∧ c + (1 + (Tm.szs xs + Fo.szs ls)) ≤ 4000 ∧ st1.heap p = ctr (c + (1 + (Tm.szs xs + Fo.szs ls)))) ∨ (e = .pan bigV ∧ 4000 < c + (1 + (Tm.szs xs + Fo.szs ls)) ∧ st1.heap p = ctr 4001)))
     ls.length ?_ ?_ (Nat.zero_le _) ?_) ?_
    ·rintro i T ⟨h,nx,lg⟩ hi ⟨t0,t34,t35,t36,hw,hh,hle⟩
     obtain ⟨a,ha⟩:∃ a,ls[i]? = some a:=⟨_,List.getElem?_eq_getElem hi⟩
     have ham:=List.mem_of_getElem? ha
     obtain ⟨hb,hnx,hnx2,hlg⟩:=hbx hw
     simp only at hh hnx
     obtain ⟨kd',nm',ka',xs',ty',kl',ls'⟩:=a
     obtain ⟨r,st2,c1,c2,c3,c4⟩:=ih _ ham (Fo.oks hoks2 _ ham) ⟨upd h nx (.mem 28 [.int .i64 kd',.str nm',.slice ka' (Tm.avs xs'),.str ty'.nm,.slice ty'.k (Ty.avs ty'.xs),.slice kl' (Fo.avs ls')] true 0),nx + 1,nx :: lg⟩ _ p (by simp only; omega) (by simp only; rw [upd_ne _ _ (by omega)]; exact hh) hle
     have hg:=Fo.get ha
     rw [Fo.av] at c1 hg
     have hi2:=wrapUp (show i < 9223372036854775807 by unfold Big at hl2; omega)
     have hs:=take_sum (g:=Fo.sz) ha
     have hle2:=take_le (g:=Fo.sz) ls (i + 1)
     rcases c4 with ⟨d1,rfl,d2⟩ | ⟨d1,rfl,d2⟩
     ·simp only [RS,RT,RZ,Zu,rA,rB,rC,rD,rE,rF,reduceCtorEq,Zx,List.map_nil,List.nil_append,l45_1,m45_1,t0,t34,t35,t36,hi,hg,c1,hnx,hi2]
      refine ⟨hw.new.trans c2,?_,?_⟩
      ·rw [d2,hs]; congr 1; omega
      ·rw [hs]; omega
     ·simp only [RS,RT,RZ,Zu,rA,rB,rC,rD,rE,rF,reduceCtorEq,Zx,List.map_nil,List.nil_append,l45_1,m45_1,t0,t34,t35,t36,hi,hg,c1,hnx,hi2]
      refine ⟨hw.new.trans c2,?_,d2⟩
      rw [Fo.szs_eq]; omega
    ·rintro T ⟨h,nx,lg⟩ ⟨t0,t34,t35,t36,hw,hh,hle⟩
     rw [List.take_length,← Fo.szs_eq] at hh hle
     simp only [RS,RT,RZ,Zu,rA,rB,rC,rD,rE,rF,reduceCtorEq,Zx,List.map_nil,List.nil_append,l45_1,m45_1,t0,t34,t35,t36]
     exact ⟨hw,hle,hh⟩
    ·simp only [RS,RT,RZ,Zu,rA,rB,rC,rD,rE,rF,reduceCtorEq,Zx,List.map_nil,List.nil_append,Fo.len]
     exact ⟨t0,hw,hh,hle⟩
    ·rintro e T ⟨h,nx,lg⟩ ⟨hw,⟨rfl,hle,hh⟩ | ⟨rfl,hle,hh⟩⟩
     ·obtain ⟨hb,hnx,hnx2,hlg⟩:=hbx hw
      simp only [RS,RT,RZ,Zu,rA,rB,rC,rD,rE,rF,reduceCtorEq,Zx,List.map_nil,List.nil_append,]
      exact ⟨hb1.trans hw,hlg,.inl (.inl ⟨by omega,rfl,hh⟩)⟩
     ·obtain ⟨hb,hnx,hnx2,hlg⟩:=hbx hw
      simp only [RS,RT,RZ,Zu,rA,rB,rC,rD,rE,rF,reduceCtorEq,Zx,List.map_nil,List.nil_append,]
      exact ⟨hb1.trans hw,hlg,.inr ⟨_,rfl,.inr ⟨by omega,rfl,hh⟩⟩⟩
   ·obtain ⟨hb,hnx,hnx2,hlg⟩:=hbx hw
    simp only [RS,RT,RZ,Zu,rA,rB,rC,rD,rE,rF,reduceCtorEq,Zx,List.map_nil,List.nil_append,]
    exact ⟨hb1.trans hw,hlg,.inr ⟨_,rfl,.inr ⟨by omega,rfl,hh⟩⟩⟩
theorem rcv44_none {q:Nat} {st:St}:callW Q (.fn 44) [.ptr q 0] (.deferred none) st = some (.ret (.tuple []),st,none):=by
 have hB:Post 10 [] none (execY (callW Q) Q false 44 none x44 ⟨argTmps [.ptr q 0],10,[],none⟩ ⟨st.heap,st.next,[]⟩) fun e T st1 => e = .norm ∧ st1 = ⟨st.heap,st.next,[]⟩:=by
  simp only [RS,RT,RZ,Zu,rA,rB,rC,rD,rE,rF,reduceCtorEq,x44,binA_ee (tw20 hK) und20,ofV,ofCell]
 obtain ⟨e,T,st1,h1,rfl,rfl⟩:=hB
 refine callYd (N:=10) (ok44 hK) rfl ⟨_,h1,?_⟩
 simp only
 rw [finish_ret (v0:=.tuple []) (v:=.tuple []) (st3:=⟨st.heap,st.next,[]⟩) endOf_norm (by simp only [RS,RT,RZ,Zu,rA,rB,rC,rD,rE,rF,reduceCtorEq,F44]) (frz_noRow rfl fun _ => rfl)]
 rfl
theorem rcv44_some {q:Nat} {st:St} (hn:q < st.next) (ha:st.heap q = .mem 3 [.int .i64 0] true 0) :
  ∃ st2,callW Q (.fn 44) [.ptr q 0] (.deferred (some bigV)) st = some (.ret (.tuple []),st2,none) ∧ st2.heap q = .mem 3 [.int .i64 4001] true 0 ∧ ∀ l ∈ st2.log,l ∈ st.log ∨ q ≤ l:=by
 have e0:(q = st.next) = False:=eq_false (by omega)
 have e0':(st.next = q) = False:=eq_false (by omega)
 have m0:q < st.next + 1:=by omega
 have hB:∃ T st1,execY (callW Q) Q false 44 none x44 ⟨argTmps [.ptr q 0],10,[],some bigV⟩ ⟨st.heap,st.next,[]⟩ = some (.norm,⟨T,10,[],none⟩,st1) ∧ st1.heap q = .mem 3 [.int .i64 4001] true 0 ∧ (∀ l ∈ st1.log,q ≤ l) ∧ q ∈ st1.log:=by
  simp only [RS,RT,RZ,Zu,rA,rB,rC,rD,rE,rF,reduceCtorEq,Zx,List.map_nil,List.nil_append,x44,bigV,binA_ie (tw20 hK) und20,ofV,ofCell,assertA_hit (tw90 hK) ni90,ha,e0,e0',m0,hn,Nat.lt_succ_self,Nat.lt_add_one]
  exact ⟨_,_,rfl,by simp only [RS,RT,RZ,Zu,rA,rB,rC,rD,rE,rF,reduceCtorEq],by simp,by simp⟩
 obtain ⟨T,st1,h1,g0,g3,g4⟩:=hB
 refine ⟨leaveSt st [.tuple []] st1,callYd (N:=10) (ok44 hK) rfl ⟨_,h1,?_⟩,?_⟩
 ·simp only
  rw [finish_ret (v0:=.tuple []) (v:=.tuple []) (st3:=st1) endOf_norm (by simp only [RS,RT,RZ,Zu,rA,rB,rC,rD,rE,rF,reduceCtorEq,F44]) (frz_noRow rfl fun _ => rfl)]
  rfl
 ·rcases leave_cases (st0:=st) (st1:=st1) (vs:=[.tuple []]) with ⟨_,c2⟩ | c1
  ·have:=c2 q g4; omega
  ·rw [c1]
   refine ⟨g0,fun l hl => ?_⟩
   simp only [List.mem_append,List.mem_filter] at hl
   rcases hl with ⟨hl,_⟩ | hl
   ·exact .inr (g3 l hl)
   ·exact .inl hl
def sizeT (f:Fo):Nat:=if f.sz ≤ 4000 then f.sz else 4001
theorem size_c {f:Fo} (hok:f.Ok):Ret Q 9 [f.av] (.int .i64 (sizeT f:Int)):=fun st => by
 obtain ⟨kd,nm,ka,xs,ty,kl,ls⟩:=f
 obtain ⟨b0,hb0⟩:∃ b0:St,b0 = ⟨upd (upd (upd st.heap st.next (.mem 28 [.int .i64 kd,.str nm,.slice ka (Tm.avs xs),.str ty.nm,.slice ty.k (Ty.avs ty.xs),.slice kl (Fo.avs ls)] true 0)) (st.next + 1) (.mem 3 [.int .i64 0] true 0)) (st.next + 2) (.mem 88 [.int .i64 0] true 0),st.next + 3,[]⟩:=⟨_,rfl⟩
 obtain ⟨f,hf⟩:∃ f,f = Fo.mk kd nm ka xs ty kl ls:=⟨_,rfl⟩
 rw [← hf] at hok ⊢
 have hB:Post 14 [⟨some 44,0,[.ptr (st.next + 1) 0]⟩] none (execY (callW Q) Q false 9 none x9 ⟨argTmps [f.av],14,[],none⟩ ⟨st.heap,st.next,[]⟩) fun e T st1 =>
   T 2 = .ptr (st.next + 1) 0 ∧ (∀ q ∈ st1.log,st.next ≤ q) ∧ st.next + 1 < st1.next ∧ ((f.sz ≤ 4000 ∧ e = .ret ∧ st1.heap (st.next + 1) = .mem 3 [.int .i64 (f.sz:Int)] true 0) ∨ (4000 < f.sz ∧ e = .pan bigV ∧ st1.heap (st.next + 1) = .mem 3 [.int .i64 0] true 0)):=by
  obtain ⟨r,st2,c1,c2,c3,c4⟩:=form_c hK f hok b0 0 (st.next + 2) (by rw [hb0]; simp) (by rw [hb0]; simp only; rw [upd_same]; rfl) (by omega)
  have h1:=c2.next
  have h2:=c2.heap (st.next + 1) (by rw [hb0]; simp) (fun e:st.next + 1 = st.next + 2 => by omega)
  have h3:=c2.log
  rw [hb0] at h1 h2 h3 c1
  simp only at h1 h2
  rw [upd_ne _ _ (by omega),upd_same] at h2
  rw [hf,Fo.av] at c1
  obtain ⟨h',n',lg'⟩:=st2
  simp only at h1 h2 h3 c3 c4
  have hlg:∀ q ∈ lg',st.next ≤ q:=fun q hq => by
   rcases h3 q hq with h | h | h
   ·cases h
   ·rw [h]; omega
   ·omega
  have hn1:st.next + 1 < n':=by omega
  have hn2:st.next + 2 < n':=by omega
  rcases c4 with ⟨d1,rfl,d2⟩ | ⟨d1,rfl,d2⟩
  ·rw [Nat.zero_add] at d1 d2
   simp only [RS,RT,RZ,Zu,rA,rB,rC,rD,rE,rF,reduceCtorEq,Zx,List.map_nil,List.nil_append,x9,hf,Fo.av,c1,h2,d2,ctr,hn1,hn2]
   refine ⟨fun q hq => ?_,.inl (hf ▸ d1)⟩
   rcases List.mem_cons.1 hq with rfl | hq
   ·omega
   ·exact hlg q hq
  ·rw [Nat.zero_add] at d1
   simp only [RS,RT,RZ,Zu,rA,rB,rC,rD,rE,rF,reduceCtorEq,Zx,List.map_nil,List.nil_append,x9,hf,Fo.av,c1,h2,d2,ctr,hn1,hn2]
   exact ⟨hlg,.inr (hf ▸ d1)⟩
 obtain ⟨e,T,st1,h1,t2,hlg,hn,⟨d1,rfl,d2⟩ | ⟨d1,rfl,d2⟩⟩:=hB
 ·refine callYr (N:=14) (ok9 hK) (hK.nx _ _ _ rfl) rfl ⟨_,h1,?_⟩
  have hfz:Q.frz 9 = true:=hK.frz_ (by kernel_rfl)
  have hrs:resultsA Q st1 T F9.results = some [.int .i64 (f.sz:Int)]:=by
   obtain ⟨h',n',lg'⟩:=st1
   simp only at d2
   simp only [RS,RT,RZ,Zu,rA,rB,rC,rD,rE,rF,reduceCtorEq,Zx,List.map_nil,List.nil_append,F9,t2,d2,tw3 hK,T3]
  rw [sizeT,if_pos d1]
  simp only [finishFn,endOf,runDefs,rcv44_none hK,hrs,hfz,if_true,packA,freezeR,freezeVs,freezeV,Option.map_some,untok,untok.untokL,Option.toList]
  rw [leave_log hlg (belowL_one rfl)]
 ·refine callYr (N:=14) (ok9 hK) (hK.nx _ _ _ rfl) rfl ⟨_,h1,?_⟩
  have hfz:Q.frz 9 = true:=hK.frz_ (by kernel_rfl)
  obtain ⟨st2,q1,q2,q3⟩:=rcv44_some hK (q:=st.next + 1) (st:=st1) hn d2
  have hrs:resultsA Q st2 T F9.results = some [.int .i64 4001]:=by
   obtain ⟨h',n',lg'⟩:=st2
   simp only at q2
   simp only [RS,RT,RZ,Zu,rA,rB,rC,rD,rE,rF,reduceCtorEq,Zx,List.map_nil,List.nil_append,F9,t2,q2,tw3 hK,T3]
  rw [sizeT,if_neg (by omega)]
  simp only [finishFn,endOf,runDefs,q1,hrs,hfz,if_true,packA,freezeR,freezeVs,freezeV,Option.map_some,untok,untok.untokL,Option.toList]
  rw [leave_log (fun q hq => by
   rcases q3 q hq with h | h
   ·exact hlg q h
   ·omega) (belowL_one rfl)]
  rfl
end
end Go.Proofs.L06

namespace Go.Proofs.L06
open Go Go.AE
open Nat renaming reduceLT → rA,reduceLeDiff → rB,reduceEqDiff → rC,reduceMul → rD,reduceAdd → rE,reduceSub → rF
set_option maxHeartbeats 8000000
def idxP {α:Type} (p:α → Bool):Nat → List α → Int
 | _,[] => -1
 | i,x :: l => if p x then (i:Int) else idxP p (i + 1) l
theorem idxP_any {α:Type} {p:α → Bool}:∀ (l:List α) (i:Nat),decide (0 ≤ idxP p i l) = l.any p
 | [],i => rfl
 | x :: l,i => by
  rw [idxP,List.any_cons]
  cases h:p x with
  | true => simp
  | false => simp only [Bool.false_eq_true,if_false,Bool.false_or]; exact idxP_any l (i + 1)
theorem drop_cons {α:Type} {l:List α} {i:Nat} {a:α} (h:l[i]? = some a):l.drop i = a :: l.drop (i + 1):=by
 obtain ⟨h1,h2⟩:=List.getElem?_eq_some_iff.1 h
 rw [List.drop_eq_getElem_cons h1,h2]
def Tm.dp:Nat → Tm → Bool
 | 0,_ => true
 | n + 1,.mk _ _ _ _ xs => xs.any (Tm.dp n)
def Fo.dp:Nat → Fo → Bool
 | 0,_ => true
 | n + 1,.mk _ _ _ xs _ _ ls => xs.any (Tm.dp n) || ls.any (Fo.dp n)
section
variable {Q:Ctx} (hK:K Q)
include hK
theorem idx168 {k:SK} {xs:List Tm} {g:FuncId} {cap:List AV} {p:Tm → Bool} {st:St} (hl:xs.length < Big) (hg:(Q.fn g).isNone = false)
  (hp:∀ x ∈ xs,∀ lg,callW Q (.fn g) (x.av :: cap) .normal ⟨st.heap,st.next,lg⟩ = some (.ret (.bool (p x)),⟨st.heap,st.next,lg⟩,none)) :
  callW Q (.fn 168) [.slice k (Tm.avs xs),.func (.func g) [] cap] .normal st = some (.ret (.int .i64 (idxP p 0 xs)),st,none):=by
 refine callY (N:=19) (ok168 hK) (hK.nx _ _ _ rfl) rfl rfl ?_
 simp only [RS,RT,RZ,Zu,rA,rB,rC,rD,rE,rF,reduceCtorEq,x168,y168,F168]
 refine post_bind (post_for (I:=fun i T st1 => T 0 = .slice k (Tm.avs xs) ∧ T 1 = .func (.func g) [] cap ∧ T 7 = .int .i64 (xs.length:Int) ∧ T 8 = .int .i64 (i:Int) ∧ st1 = ⟨st.heap,st.next,[]⟩ ∧ idxP p i (xs.drop i) = idxP p 0 xs)
  (Q:=fun e T st1 => st1 = ⟨st.heap,st.next,[]⟩ ∧ ((e = .ret ∧ T 4 = .int .i64 (idxP p 0 xs)) ∨ (e = .exit 0 ∧ idxP p 0 xs = -1))) xs.length ?_ ?_ (Nat.zero_le _) ?_) ?_
 ·rintro i T _ hi ⟨t0,t1,t7,t8,rfl,hr⟩
  obtain ⟨a,ha⟩:∃ a,xs[i]? = some a:=⟨_,List.getElem?_eq_getElem hi⟩
  have ham:=List.mem_of_getElem? ha
  have hc:=hp a ham []
  have hget:=Tm.get ha
  rw [drop_cons ha,idxP] at hr
  have hi2:=wrapUp (show i < 9223372036854775807 by unfold Big at hl; omega)
  obtain ⟨kd',n',nm',k',xs'⟩:=a
  rw [Tm.av] at hc hget
  cases hb:p (.mk kd' n' nm' k' xs') with
  | true =>
   rw [hb,if_pos rfl] at hr
   rw [hb] at hc
   simp only [RS,RT,RZ,Zu,rA,rB,rC,rD,rE,rF,reduceCtorEq,Zx,List.map_nil,List.nil_append,l168_0,m168_0,t0,t1,t7,t8,hi,hget,hc,hr.symm,hi2,hg]
  | false =>
   rw [hb,if_neg (by decide)] at hr
   rw [hb] at hc
   simp only [RS,RT,RZ,Zu,rA,rB,rC,rD,rE,rF,reduceCtorEq,Zx,List.map_nil,List.nil_append,l168_0,m168_0,t0,t1,t7,t8,hi,hget,hc,hr,hi2,hg]
 ·rintro T _ ⟨t0,t1,t7,t8,rfl,hr⟩
  rw [List.drop_length,idxP] at hr
  simp only [RS,RT,RZ,Zu,rA,rB,rC,rD,rE,rF,reduceCtorEq,Zx,List.map_nil,List.nil_append,l168_0,m168_0,t0,t1,t7,t8,hr.symm]
 ·simp only [RS,RT,RZ,Zu,rA,rB,rC,rD,rE,rF,reduceCtorEq,Zx,List.map_nil,List.nil_append,Tm.len]
 ·rintro e T _ ⟨rfl,⟨rfl,h4⟩ | ⟨rfl,h4⟩⟩
  ·simp only [RS,RT,RZ,Zu,rA,rB,rC,rD,rE,rF,reduceCtorEq,Zx,List.map_nil,List.nil_append,h4]
  ·simp only [RS,RT,RZ,Zu,rA,rB,rC,rD,rE,rF,reduceCtorEq,Zx,List.map_nil,List.nil_append,h4]
theorem any87 {k:SK} {xs:List Tm} {g:FuncId} {cap:List AV} {p:Tm → Bool} {st:St} (hl:xs.length < Big) (hg:(Q.fn g).isNone = false)
  (hp:∀ x ∈ xs,∀ lg,callW Q (.fn g) (x.av :: cap) .normal ⟨st.heap,st.next,lg⟩ = some (.ret (.bool (p x)),⟨st.heap,st.next,lg⟩,none)) :
  callW Q (.fn 87) [.slice k (Tm.avs xs),.func (.func g) [] cap] .normal st = some (.ret (.bool (xs.any p)),st,none):=by
 refine callY (N:=9) (ok87 hK) (hK.nx _ _ _ rfl) rfl rfl ?_
 have h:=idx168 hK (k:=k) (g:=g) (cap:=cap) (p:=p) (st:=⟨st.heap,st.next,[]⟩) hl hg hp
 simp only [RS,RT,RZ,Zu,rA,rB,rC,rD,rE,rF,reduceCtorEq,x87,F87,h,idxP_any]
theorem idx170 {k:SK} {xs:List Fo} {g:FuncId} {cap:List AV} {p:Fo → Bool} {st:St} (hl:xs.length < Big) (hg:(Q.fn g).isNone = false)
  (hp:∀ x ∈ xs,∀ lg,callW Q (.fn g) (x.av :: cap) .normal ⟨st.heap,st.next,lg⟩ = some (.ret (.bool (p x)),⟨st.heap,st.next,lg⟩,none)) :
  callW Q (.fn 170) [.slice k (Fo.avs xs),.func (.func g) [] cap] .normal st = some (.ret (.int .i64 (idxP p 0 xs)),st,none):=by
 refine callY (N:=19) (ok170 hK) (hK.nx _ _ _ rfl) rfl rfl ?_
 simp only [RS,RT,RZ,Zu,rA,rB,rC,rD,rE,rF,reduceCtorEq,x170,y170,F170]
 refine post_bind (post_for (I:=fun i T st1 => T 0 = .slice k (Fo.avs xs) ∧ T 1 = .func (.func g) [] cap ∧ T 7 = .int .i64 (xs.length:Int) ∧ T 8 = .int .i64 (i:Int) ∧ st1 = ⟨st.heap,st.next,[]⟩ ∧ idxP p i (xs.drop i) = idxP p 0 xs)
  (Q:=fun e T st1 => st1 = ⟨st.heap,st.next,[]⟩ ∧ ((e = .ret ∧ T 4 = .int .i64 (idxP p 0 xs)) ∨ (e = .exit 0 ∧ idxP p 0 xs = -1))) xs.length ?_ ?_ (Nat.zero_le _) ?_) ?_
 ·rintro i T _ hi ⟨t0,t1,t7,t8,rfl,hr⟩
  obtain ⟨a,ha⟩:∃ a,xs[i]? = some a:=⟨_,List.getElem?_eq_getElem hi⟩
  have ham:=List.mem_of_getElem? ha
  have hc:=hp a ham []
  have hget:=Fo.get ha
  rw [drop_cons ha,idxP] at hr
  have hi2:=wrapUp (show i < 9223372036854775807 by unfold Big at hl; omega)
  obtain ⟨kd',nm',ka',xs',ty',kl',ls'⟩:=a
  rw [Fo.av] at hc hget
  cases hb:p (.mk kd' nm' ka' xs' ty' kl' ls') with
  | true =>
   rw [hb,if_pos rfl] at hr
   rw [hb] at hc
   simp only [RS,RT,RZ,Zu,rA,rB,rC,rD,rE,rF,reduceCtorEq,Zx,List.map_nil,List.nil_append,l170_0,m170_0,t0,t1,t7,t8,hi,hget,hc,hr.symm,hi2,hg]
  | false =>
   rw [hb,if_neg (by decide)] at hr
   rw [hb] at hc
   simp only [RS,RT,RZ,Zu,rA,rB,rC,rD,rE,rF,reduceCtorEq,Zx,List.map_nil,List.nil_append,l170_0,m170_0,t0,t1,t7,t8,hi,hget,hc,hr,hi2,hg]
 ·rintro T _ ⟨t0,t1,t7,t8,rfl,hr⟩
  rw [List.drop_length,idxP] at hr
  simp only [RS,RT,RZ,Zu,rA,rB,rC,rD,rE,rF,reduceCtorEq,Zx,List.map_nil,List.nil_append,l170_0,m170_0,t0,t1,t7,t8,hr.symm]
 ·simp only [RS,RT,RZ,Zu,rA,rB,rC,rD,rE,rF,reduceCtorEq,Zx,List.map_nil,List.nil_append,Fo.len]
 ·rintro e T _ ⟨rfl,⟨rfl,h4⟩ | ⟨rfl,h4⟩⟩
  ·simp only [RS,RT,RZ,Zu,rA,rB,rC,rD,rE,rF,reduceCtorEq,Zx,List.map_nil,List.nil_append,h4]
  ·simp only [RS,RT,RZ,Zu,rA,rB,rC,rD,rE,rF,reduceCtorEq,Zx,List.map_nil,List.nil_append,h4]
theorem any90 {k:SK} {xs:List Fo} {g:FuncId} {cap:List AV} {p:Fo → Bool} {st:St} (hl:xs.length < Big) (hg:(Q.fn g).isNone = false)
  (hp:∀ x ∈ xs,∀ lg,callW Q (.fn g) (x.av :: cap) .normal ⟨st.heap,st.next,lg⟩ = some (.ret (.bool (p x)),⟨st.heap,st.next,lg⟩,none)) :
  callW Q (.fn 90) [.slice k (Fo.avs xs),.func (.func g) [] cap] .normal st = some (.ret (.bool (xs.any p)),st,none):=by
 refine callY (N:=9) (ok90 hK) (hK.nx _ _ _ rfl) rfl rfl ?_
 have h:=idx170 hK (k:=k) (g:=g) (cap:=cap) (p:=p) (st:=⟨st.heap,st.next,[]⟩) hl hg hp
 simp only [RS,RT,RZ,Zu,rA,rB,rC,rD,rE,rF,reduceCtorEq,x90,F90,h,idxP_any]
theorem deepTerm_c:∀ (n:Nat),n ≤ 100 → ∀ (t:Tm),t.Ok → Ret Q 89 [t.av,.int .i64 (n:Int)] (.bool (t.dp n)):=by
 intro n
 induction n with
 | zero =>
  intro _ t _ st
  refine callY (N:=13) (ok89 hK) (hK.nx _ _ _ rfl) rfl rfl ?_
  obtain ⟨kd',n',nm',k',xs'⟩:=t
  simp only [RS,RT,RZ,Zu,rA,rB,rC,rD,rE,rF,reduceCtorEq,Zx,List.map_nil,List.nil_append,x89,F89,Tm.av,Tm.dp]
 | succ n ih =>
  intro hn t hok st
  refine callY (N:=13) (ok89 hK) (hK.nx _ _ _ rfl) rfl rfl ?_
  obtain ⟨kd',n',nm',k',xs⟩:=t
  obtain ⟨_,_,_,_,hl,hoks⟩:=hok
  have e0:(st.next + 1 = st.next) = False:=eq_false (by omega)
  have e1:(((n + 1:Nat):Int) == 0) = false:=by rw [beq_eq_false_iff_ne]; omega
  have w1:IntKind.i64.wrap (((n + 1:Nat):Int) - 1) = (n:Int):=wrapN (by omega) (by omega)
  obtain ⟨b0,hb0⟩:∃ b0:St,b0 = ⟨upd (upd st.heap st.next (.mem 39 [.int .i64 kd',.int .i64 n',.str nm',.slice k' (Tm.avs xs)] true 0)) (st.next + 1) (.mem 3 [.int .i64 ((n + 1:Nat):Int)] true 0),st.next + 2,[]⟩:=⟨_,rfl⟩
  have hp:∀ x ∈ xs,∀ lg,callW Q (.fn 169) [x.av,.ptr (st.next + 1) 0] .normal ⟨b0.heap,b0.next,lg⟩ = some (.ret (.bool (x.dp n)),⟨b0.heap,b0.next,lg⟩,none):=fun x hx lg => by
   refine callY (N:=8) (ok169 hK) (hK.nx _ _ _ rfl) rfl rfl ?_
   obtain ⟨h',n1,lg'⟩:=b0
   simp only [St.mk.injEq] at hb0
   obtain ⟨rfl,rfl,rfl⟩:=hb0
   have hi:=ih (by omega) x (Tm.oks hoks x hx)
   obtain ⟨kd2,n2,nm2,k2,xs2⟩:=x
   rw [Tm.av] at hi ⊢
   have e2:(st.next + 1 = st.next + 2) = False:=eq_false (by omega)
   have e3:(st.next + 2 = st.next + 1) = False:=eq_false (by omega)
   have l3:st.next + 1 < st.next + 2 + 1:=by omega
   simp only [RS,RT,RZ,Zu,rA,rB,rC,rD,rE,rF,reduceCtorEq,Zx,List.map_nil,List.nil_append,x169,F169,hi,w1,e2,e3,l3]
  have h:=any87 hK (k:=k') (p:=fun x => x.dp n) (st:=b0) hl (fnis hK (ok169 hK)) hp
  rw [hb0] at h
  simp only [RS,RT,RZ,Zu,rA,rB,rC,rD,rE,rF,reduceCtorEq,Zx,List.map_nil,List.nil_append,x89,F89,Tm.av,Tm.dp,h,e0,e1,fnis hK (ok169 hK)]
theorem deep_c:∀ (n:Nat),n ≤ 100 → ∀ (f:Fo),f.Ok → Ret Q 39 [f.av,.int .i64 (n:Int)] (.bool (f.dp n)):=by
 intro n
 induction n with
 | zero =>
  intro _ f _ st
  refine callY (N:=17) (ok39 hK) (hK.nx _ _ _ rfl) rfl rfl ?_
  obtain ⟨kd',nm',ka',xs',ty',kl',ls'⟩:=f
  simp only [RS,RT,RZ,Zu,rA,rB,rC,rD,rE,rF,reduceCtorEq,Zx,List.map_nil,List.nil_append,x39,F39,Fo.av,Fo.dp]
 | succ n ih =>
  intro hn f hok st
  refine callY (N:=17) (ok39 hK) (hK.nx _ _ _ rfl) rfl rfl ?_
  obtain ⟨kd',nm',ka',xs,ty',kl',ls⟩:=f
  obtain ⟨_,_,_,hl,hoks,_,_,hl2,hoks2⟩:=hok
  have e0:(st.next + 1 = st.next) = False:=eq_false (by omega)
  have e1:(((n + 1:Nat):Int) == 0) = false:=by rw [beq_eq_false_iff_ne]; omega
  have w1:IntKind.i64.wrap (((n + 1:Nat):Int) - 1) = (n:Int):=wrapN (by omega) (by omega)
  obtain ⟨b0,hb0⟩:∃ b0:St,b0 = ⟨upd (upd st.heap st.next (.mem 28 [.int .i64 kd',.str nm',.slice ka' (Tm.avs xs),.str ty'.nm,.slice ty'.k (Ty.avs ty'.xs),.slice kl' (Fo.avs ls)] true 0)) (st.next + 1) (.mem 3 [.int .i64 ((n + 1:Nat):Int)] true 0),st.next + 2,[]⟩:=⟨_,rfl⟩
  have e2:(st.next + 1 = st.next + 2) = False:=eq_false (by omega)
  have e3:(st.next + 2 = st.next + 1) = False:=eq_false (by omega)
  have l3:st.next + 1 < st.next + 2 + 1:=by omega
  have hp:∀ x ∈ xs,∀ lg,callW Q (.fn 88) [x.av,.ptr (st.next + 1) 0] .normal ⟨b0.heap,b0.next,lg⟩ = some (.ret (.bool (x.dp n)),⟨b0.heap,b0.next,lg⟩,none):=fun x hx lg => by
   refine callY (N:=8) (ok88 hK) (hK.nx _ _ _ rfl) rfl rfl ?_
   obtain ⟨h',n1,lg'⟩:=b0
   simp only [St.mk.injEq] at hb0
   obtain ⟨rfl,rfl,rfl⟩:=hb0
   have hi:=deepTerm_c hK n (by omega) x (Tm.oks hoks x hx)
   obtain ⟨kd2,n2,nm2,k2,xs2⟩:=x
   rw [Tm.av] at hi ⊢
   simp only [RS,RT,RZ,Zu,rA,rB,rC,rD,rE,rF,reduceCtorEq,Zx,List.map_nil,List.nil_append,x88,F88,hi,w1,e2,e3,l3]
  have hp2:∀ x ∈ ls,∀ lg,callW Q (.fn 91) [x.av,.ptr (st.next + 1) 0] .normal ⟨b0.heap,b0.next,lg⟩ = some (.ret (.bool (x.dp n)),⟨b0.heap,b0.next,lg⟩,none):=fun x hx lg => by
   refine callY (N:=8) (ok91 hK) (hK.nx _ _ _ rfl) rfl rfl ?_
   obtain ⟨h',n1,lg'⟩:=b0
   simp only [St.mk.injEq] at hb0
   obtain ⟨rfl,rfl,rfl⟩:=hb0
   have hi:=ih (by omega) x (Fo.oks hoks2 x hx)
   obtain ⟨kd2,nm2,ka2,xs2,ty2,kl2,ls2⟩:=x
   rw [Fo.av] at hi ⊢
   simp only [RS,RT,RZ,Zu,rA,rB,rC,rD,rE,rF,reduceCtorEq,Zx,List.map_nil,List.nil_append,x91,F91,hi,w1,e2,e3,l3]
  have h:=any87 hK (k:=ka') (p:=fun x => x.dp n) (st:=b0) hl (fnis hK (ok88 hK)) hp
  have h2:=any90 hK (k:=kl') (p:=fun x => x.dp n) (st:=b0) hl2 (fnis hK (ok91 hK)) hp2
  rw [hb0] at h h2
  cases hx:xs.any (Tm.dp n) with
  | true =>
   rw [show (fun x:Tm => x.dp n) = Tm.dp n from rfl,hx] at h
   simp only [RS,RT,RZ,Zu,rA,rB,rC,rD,rE,rF,reduceCtorEq,Zx,List.map_nil,List.nil_append,x39,F39,Fo.av,Fo.dp,h,hx,e0,e1,fnis hK (ok88 hK),fnis hK (ok91 hK),Bool.true_or]
  | false =>
   rw [show (fun x:Tm => x.dp n) = Tm.dp n from rfl,hx] at h
   simp only [RS,RT,RZ,Zu,rA,rB,rC,rD,rE,rF,reduceCtorEq,Zx,List.map_nil,List.nil_append,x39,F39,Fo.av,Fo.dp,h,h2,hx,e0,e1,fnis hK (ok88 hK),fnis hK (ok91 hK),Bool.false_or]
end
end Go.Proofs.L06

namespace Go.Proofs.L06
open Go Go.AE
open Nat renaming reduceLT → rA,reduceLeDiff → rB,reduceEqDiff → rC,reduceMul → rD,reduceAdd → rE,reduceSub → rF
set_option maxHeartbeats 8000000
def flt (e:Int):AV:=.iface 217 (.agg [.int .i64 e])
section
variable {Q:Ctx} (hK:K Q)
include hK
theorem must_t {e:Int}:Ret Q 123 [.bool true,.int .i64 e] (.tuple []):=fun st => by
 refine callY (N:=9) (ok123 hK) (hK.nx _ _ _ rfl) rfl rfl ?_
 simp only [RS,RT,RZ,Zu,rA,rB,rC,rD,rE,rF,reduceCtorEq,Zx,List.map_nil,List.nil_append,x123,F123]
theorem must_f {e:Int} {st:St}:callW Q (.fn 123) [.bool false,.int .i64 e] .normal st = some (.pan (flt e),st,none):=by
 have hB:Post 9 [] none (execY (callW Q) Q false 123 none x123 ⟨argTmps [.bool false,.int .i64 e],9,[],none⟩ ⟨st.heap,st.next,[]⟩) fun e' T st1 => e' = .pan (flt e) ∧ st1 = ⟨st.heap,st.next,[]⟩:=by
  simp only [RS,RT,RZ,Zu,rA,rB,rC,rD,rE,rF,reduceCtorEq,Zx,List.map_nil,List.nil_append,x123,flt,gA_iface,tw217 hK,ifaceK_some ni217]
 obtain ⟨e',T,st1,h1,rfl,rfl⟩:=hB
 refine callYr (N:=9) (ok123 hK) (hK.nx _ _ _ rfl) rfl ⟨_,h1,?_⟩
 rw [finish_pan]
 rfl
theorem rcv183_none {q:Nat} {st:St}:callW Q (.fn 183) [.ptr q 0] (.deferred none) st = some (.ret (.tuple []),st,none):=by
 have hB:Post 17 [] none (execY (callW Q) Q false 183 none x183 ⟨argTmps [.ptr q 0],17,[],none⟩ ⟨st.heap,st.next,[]⟩) fun e T st1 => e = .norm ∧ st1 = ⟨st.heap,st.next,[]⟩:=by
  simp only [RS,RT,RZ,Zu,rA,rB,rC,rD,rE,rF,reduceCtorEq,x183,binA_nn (tw20 hK) und20,ofV,ofCell]
 obtain ⟨e,T,st1,h1,rfl,rfl⟩:=hB
 refine callYd (N:=17) (ok183 hK) rfl ⟨_,h1,?_⟩
 simp only
 rw [finish_ret (v0:=.tuple []) (v:=.tuple []) (st3:=⟨st.heap,st.next,[]⟩) endOf_norm (by simp only [RS,RT,RZ,Zu,rA,rB,rC,rD,rE,rF,reduceCtorEq,F183]) (frz_noRow rfl fun _ => rfl)]
 rfl
theorem rcv183_some {q:Nat} {x:AV} {e:Int} {st:St} (hn:q < st.next) (ha:st.heap q = .mem 30 [x] true 0) :
  ∃ st2,callW Q (.fn 183) [.ptr q 0] (.deferred (some (flt e))) st = some (.ret (.tuple []),st2,none) ∧ st2.heap q = .mem 30 [.int .i64 e] true 0 ∧ Wr (at1 q) st st2:=by
 have e0:(q = st.next) = False:=eq_false (by omega)
 have e0':(st.next = q) = False:=eq_false (by omega)
 have m0:q < st.next + 1:=by omega
 have hB:∃ T st1,execY (callW Q) Q false 183 none x183 ⟨argTmps [.ptr q 0],17,[],some (flt e)⟩ ⟨st.heap,st.next,[]⟩ = some (.norm,⟨T,17,[],none⟩,st1) ∧ st1.heap q = .mem 30 [.int .i64 e] true 0 ∧ Wr (at1 q) ⟨st.heap,st.next,[]⟩ st1 ∧ q ∈ st1.log:=by
  simp only [RS,RT,RZ,Zu,rA,rB,rC,rD,rE,rF,reduceCtorEq,Zx,List.map_nil,List.nil_append,x183,flt,binA_in (tw20 hK) und20,ofV,ofCell,assertA_hit (tw217 hK) ni217,ha,e0,e0',m0,hn,Nat.lt_succ_self,Nat.lt_add_one]
  refine ⟨_,_,rfl,by simp only [RS,RT,RZ,Zu,rA,rB,rC,rD,rE,rF,reduceCtorEq,Zx,List.map_nil,List.nil_append,],?_,by simp⟩
  exact (Wr.refl _).new.hit rfl (fun l hl => by simpa using hl) fun l hl => by simp at hl; simp [hl]
 obtain ⟨T,st1,h1,g0,g3,g4⟩:=hB
 obtain ⟨a1,a2,a3⟩:=leave_hit (vs:=[.tuple []]) g3 g4 hn
 refine ⟨leaveSt st [.tuple []] st1,callYd (N:=17) (ok183 hK) rfl ⟨_,h1,?_⟩,by rw [a1]; exact g0,a2⟩
 simp only
 rw [finish_ret (v0:=.tuple []) (v:=.tuple []) (st3:=st1) endOf_norm (by simp only [RS,RT,RZ,Zu,rA,rB,rC,rD,rE,rF,reduceCtorEq,F183]) (frz_noRow rfl fun _ => rfl)]
 rfl
theorem guarded_run {g:FuncId} {cap:List AV} {P:Nat → Prop} {st st2:St} {r:CR} {e:Int} (hg:(Q.fn g).isNone = false) (hr:(r = .ret (.tuple []) ∧ e = 0) ∨ r = .pan (flt e)) (hP:∀ q,P q → q < st.next)
  (h:callW Q (.fn g) cap .normal ⟨upd st.heap st.next (.mem 30 [.int .i64 0] true 0),st.next + 1,[]⟩ = some (r,st2,none)) (hw:Wr P ⟨upd st.heap st.next (.mem 30 [.int .i64 0] true 0),st.next + 1,[]⟩ st2) :
  ∃ st3,callW Q (.fn 120) [.func (.func g) [] cap] .normal st = some (.ret (.int .i64 e),leaveSt st [.int .i64 e] st3,none) ∧ (∀ q,q < st.next → st3.heap q = st2.heap q) ∧
   Wr P ⟨st.heap,st.next,[]⟩ st3 ∧ ∀ q ∈ st2.log,q ∈ st3.log:=by
 have hfz:Q.frz 120 = true:=hK.frz_ (by kernel_rfl)
 have hn:¬ P st.next:=fun h => by have:=hP _ h; omega
 have h1:=hw.next
 have h2:=hw.heap st.next (Nat.lt_succ_self _) hn
 simp only at h1 h2
 rw [upd_same] at h2
 have hw0:Wr P ⟨st.heap,st.next,[]⟩ st2:=((Wr.refl _).new0).trans hw
 have hB:Post 6 [⟨some 183,0,[.ptr st.next 0]⟩] none (execY (callW Q) Q false 120 none x120 ⟨argTmps [.func (.func g) [] cap],6,[],none⟩ ⟨st.heap,st.next,[]⟩) fun e' T st1 =>
   T 2 = .ptr st.next 0 ∧ (((r = .ret (.tuple []) ∧ e = 0) ∧ e' = .ret ∧ st1 = ⟨upd st2.heap st.next (.mem 30 [.int .i64 0] true 0),st2.next,st.next :: st2.log⟩) ∨ (r = .pan (flt e) ∧ e' = .pan (flt e) ∧ st1 = st2)):=by
  obtain ⟨h',n',lg'⟩:=st2
  simp only at h1 h2
  have hlt:st.next < n':=h1
  rcases hr with ⟨rfl,rfl⟩ | rfl
  ·simp only [RS,RT,RZ,Zu,rA,rB,rC,rD,rE,rF,reduceCtorEq,Zx,List.map_nil,List.nil_append,x120,h,h2,hg,hlt]
  ·simp only [RS,RT,RZ,Zu,rA,rB,rC,rD,rE,rF,reduceCtorEq,Zx,List.map_nil,List.nil_append,x120,h,h2,hg,hlt]
 obtain ⟨e',T,st1,hx,t2,⟨⟨hr1,rfl⟩,rfl,rfl⟩ | ⟨hr1,rfl,rfl⟩⟩:=hB
 ·refine ⟨⟨upd st2.heap st.next (.mem 30 [.int .i64 0] true 0),st2.next,st.next :: st2.log⟩,callYr (N:=6) (ok120 hK) (hK.nx _ _ _ rfl) rfl ⟨_,hx,?_⟩,fun q hq => upd_ne _ _ (by omega),?_,fun q hq => List.mem_cons_of_mem _ hq⟩
  ·have hrs:resultsA Q ⟨upd st2.heap st.next (.mem 30 [.int .i64 0] true 0),st2.next,st.next :: st2.log⟩ T F120.results = some [.int .i64 0]:=by
    simp only [RS,RT,RZ,Zu,rA,rB,rC,rD,rE,rF,reduceCtorEq,Zx,List.map_nil,List.nil_append,F120,t2,tw30 hK,T30]
   simp only [finishFn,endOf,runDefs,rcv183_none hK,hrs,hfz,if_true,packA,freezeR,freezeVs,freezeV,Option.map_some,untok,untok.untokL,Option.toList]
  ·refine ⟨fun q hq hp => ?_,hw0.next,fun l hl => ?_,fun l hl => nomatch hl⟩
   ·simp only at hq ⊢
    rw [upd_ne _ _ (by omega)]
    exact hw0.heap q hq hp
   ·rcases List.mem_cons.1 hl with rfl | hl
    ·exact .inr (.inr (Nat.le_refl _))
    ·exact hw0.log l hl
 ·obtain ⟨st3,q1,q2,q3⟩:=rcv183_some hK (q:=st.next) (e:=e) (st:=st1) h1 h2
  refine ⟨st3,callYr (N:=6) (ok120 hK) (hK.nx _ _ _ rfl) rfl ⟨_,hx,?_⟩,fun q hq => q3.heap q (by omega) (fun e:q = st.next => by omega),?_,q3.keep⟩
  ·have hrs:resultsA Q st3 T F120.results = some [.int .i64 e]:=by
    obtain ⟨h',n',lg'⟩:=st3
    simp only at q2
    simp only [RS,RT,RZ,Zu,rA,rB,rC,rD,rE,rF,reduceCtorEq,Zx,List.map_nil,List.nil_append,F120,t2,q2,tw30 hK,T30]
   simp only [finishFn,endOf,runDefs,q1,hrs,hfz,if_true,packA,freezeR,freezeVs,freezeV,Option.map_some,untok,untok.untokL,Option.toList]
  ·refine ⟨fun q hq hp => ?_,Nat.le_trans hw0.next q3.next,fun l hl => ?_,fun l hl => nomatch hl⟩
   ·simp only at hq
    have h5:=hw0.next
    simp only at h5
    exact (q3.heap q (by omega) (fun e:q = st.next => by omega)).trans (hw0.heap q hq hp)
   ·rcases q3.log l hl with h | h | h
    ·exact hw0.log l h
    ·exact .inr (.inr (by rw [h]; exact Nat.le_refl _))
    ·exact .inr (.inr (Nat.le_trans hw0.next h))
theorem guarded_w {g:FuncId} {cap:List AV} {P:Nat → Prop} {st st2:St} {r:CR} {e:Int} {p:Nat} (hg:(Q.fn g).isNone = false) (hr:(r = .ret (.tuple []) ∧ e = 0) ∨ r = .pan (flt e)) (hP:∀ q,P q → q < st.next)
  (h:callW Q (.fn g) cap .normal ⟨upd st.heap st.next (.mem 30 [.int .i64 0] true 0),st.next + 1,[]⟩ = some (r,st2,none)) (hw:Wr P ⟨upd st.heap st.next (.mem 30 [.int .i64 0] true 0),st.next + 1,[]⟩ st2) (hp:p ∈ st2.log) (hpn:p < st.next) :
  ∃ st',callW Q (.fn 120) [.func (.func g) [] cap] .normal st = some (.ret (.int .i64 e),st',none) ∧ Wr P st st' ∧ p ∈ st'.log ∧ ∀ q,q < st.next → st'.heap q = st2.heap q:=by
 obtain ⟨st3,a1,a2,a3,a4⟩:=guarded_run hK hg hr hP h hw
 obtain ⟨b1,b2,b3⟩:=leave_hit (vs:=[.int .i64 e]) a3 (a4 p hp) hpn
 exact ⟨_,a1,b2,b3,fun q hq => by rw [b1]; exact a2 q hq⟩
theorem guarded_0 {g:FuncId} {cap:List AV} {st st2:St} {r:CR} {e:Int} (hg:(Q.fn g).isNone = false) (hr:(r = .ret (.tuple []) ∧ e = 0) ∨ r = .pan (flt e))
  (h:callW Q (.fn g) cap .normal ⟨upd st.heap st.next (.mem 30 [.int .i64 0] true 0),st.next + 1,[]⟩ = some (r,st2,none)) (hw:Wr (fun _ => False) ⟨upd st.heap st.next (.mem 30 [.int .i64 0] true 0),st.next + 1,[]⟩ st2) :
  callW Q (.fn 120) [.func (.func g) [] cap] .normal st = some (.ret (.int .i64 e),st,none):=by
 obtain ⟨st3,a1,a2,a3,a4⟩:=guarded_run hK hg hr (fun _ h => h.elim) h hw
 rw [a1,leave_log (fun q hq => by
  rcases a3.log q hq with h | h | h
  ·cases h
  ·exact h.elim
  ·exact h) (belowL_one rfl)]
end
end Go.Proofs.L06

namespace Go.Proofs.L06
open Go Go.AE
open Nat renaming reduceLT → rA,reduceLeDiff → rB,reduceEqDiff → rC,reduceMul → rD,reduceAdd → rE,reduceSub → rF
set_option maxHeartbeats 8000000
theorem clean_slice {k:SK} {es:List AV} (hk:noTok k) (h:∀ a ∈ es,CleanV a):CleanV (.slice k es):=by
 have h2:belowA.belowL 0 es = true:=by
  induction es with
  | nil => rfl
  | cons a l ih =>
   simp only [belowA.belowL,Bool.and_eq_true]
   exact ⟨h a (by simp),ih fun b hb => h b (by simp [hb])⟩
 cases k with
 | tok _ _ => exact hk.elim
 | _ => simpa only [CleanV,belowA] using h2
theorem Ty.clean:∀ (t:Ty),t.Ok → CleanV t.av:=by
 intro t
 induction t using Ty.ind with
 | _ nm k xs ih =>
 rintro ⟨_,hk,_,ho⟩
 have:=clean_slice (k:=k) (es:=Ty.avs xs) hk (fun a ha => by
  rw [Ty.avs_eq,List.mem_map] at ha
  obtain ⟨x,hx,rfl⟩:=ha
  exact ih x hx (Ty.oks ho x hx))
 simp only [CleanV] at this
 simp only [CleanV,Ty.av,belowA,belowA.belowL,this,Bool.and_self]
theorem Ty.cleanA {t:Ty} (h:t.Ok):CleanV (.slice t.k (Ty.avs t.xs)):=by
 obtain ⟨nm,k,xs⟩:=t
 obtain ⟨_,hk,_,ho⟩:=h
 exact clean_slice hk fun a ha => by
  rw [Ty.avs_eq,List.mem_map] at ha
  obtain ⟨x,hx,rfl⟩:=ha
  exact Ty.clean x (Ty.oks ho x hx)
def Ty.dp:Nat → Ty → Bool
 | 0,_ => true
 | n + 1,.mk _ _ xs => xs.any (Ty.dp n)
theorem maxI {d l:Nat}:(if True then (if d < l then (l:Int) else (d:Int)) else (if l < d then (l:Int) else (d:Int))) = ((max d l:Nat):Int):=by
 rw [if_pos trivial]; split <;> (congr 1; omega)
def Ty.nd:Nat → Ty → Nat
 | 0,_ => 1
 | r + 1,t => 1 + (t.xs.map (Ty.nd r)).sum
def Ty.dv:Nat → Nat → Ty → Nat
 | 0,lv,_ => lv
 | r + 1,lv,t => t.xs.foldl (fun o x => max o (Ty.dv r (lv + 1) x)) lv
structure TyWS (b:Nat) (st:St) (n d:Nat):Prop where
 fn:st.heap (b + 1) = .mem 228 [.func (.func 193) [] []] true 0
 wk:st.heap (b + 5) = .mem 319 [.func (.func 320) [] [.ptr (b + 2) 0,.ptr (b + 3) 0,.ptr (b + 1) 0,.ptr (b + 5) 0]] true 0
 nx:b + 5 < st.next
 nd:st.heap (b + 2) = .mem 3 [.int .i64 (n:Int)] true 0
 dp:st.heap (b + 3) = .mem 3 [.int .i64 (d:Int)] true 0
def TywP (b q:Nat):Prop:=q = b + 2 ∨ q = b + 3
def TyWR (b r n d:Nat) (t:Ty) (c:CR) (h:Nat → AO):Prop :=
 (n + t.nd r ≤ 4000 ∧ c = .ret (.tuple []) ∧ h (b + 2) = .mem 3 [.int .i64 ((n + t.nd r:Nat):Int)] true 0 ∧ ∃ d':Nat,h (b + 3) = .mem 3 [.int .i64 (d':Int)] true 0 ∧ (100 < d' ↔ 100 < d ∨ t.dp r = true)) ∨
 (4000 < n + t.nd r ∧ c = .pan (flt 2) ∧ h (b + 2) = .mem 3 [.int .i64 4001] true 0 ∧ ∃ d':Nat,h (b + 3) = .mem 3 [.int .i64 (d':Int)] true 0)
theorem TyWS.keep {b:Nat} {a st:St} {n d n' d':Nat} (h:TyWS b a n d) (w:Wr (TywP b) a st) (h1:st.heap (b + 2) = .mem 3 [.int .i64 (n':Int)] true 0) (h2:st.heap (b + 3) = .mem 3 [.int .i64 (d':Int)] true 0):TyWS b st n' d' :=
 ⟨(w.heap _ (by have:=h.nx; omega) (by rintro (e | e) <;> omega)).trans h.fn,(w.heap _ (by have:=h.nx; omega) (by rintro (e | e) <;> omega)).trans h.wk,Nat.lt_of_lt_of_le h.nx w.next,h1,h2⟩
section
variable {Q:Ctx} (hK:K Q)
include hK
theorem args193 {t:Ty} (hok:t.Ok):Ret Q 193 [t.av] (.slice t.k (Ty.avs t.xs)):=fun st => by
 refine callY (N:=5) (ok193 hK) (hK.nx _ _ _ rfl) rfl (Ty.cleanA hok) ?_
 obtain ⟨nm,k,xs⟩:=t
 simp only [RS,RT,RZ,Zu,rA,rB,rC,rD,rE,rF,reduceCtorEq,Zw,x193,F193,Ty.av,Ty.k,Ty.xs]
theorem step320 {b r:Nat} (hr:r ≤ 100) {t:Ty} (hok:t.Ok) {st:St} {n d:Nat} (hs:TyWS b st n d) (hn:n ≤ 4000):∀ (hc:decide (((101 - r:Nat):Int) ≤ 100) = decide (0 < r)),(∀ r',r = r' + 1 → ∀ (t:Ty),t.Ok → ∀ (st:St) (n d:Nat),TyWS b st n d → n ≤ 4000 →
  ∃ c st',callW Q (.fn 320) [t.av,.int .i64 ((101 - r':Nat):Int),.ptr (b + 2) 0,.ptr (b + 3) 0,.ptr (b + 1) 0,.ptr (b + 5) 0] .normal st = some (c,st',none) ∧ Wr (TywP b) st st' ∧ b + 2 ∈ st'.log ∧ TyWR b r' n d t c st'.heap) →
  ∃ c st',callW Q (.fn 320) [t.av,.int .i64 ((101 - r:Nat):Int),.ptr (b + 2) 0,.ptr (b + 3) 0,.ptr (b + 1) 0,.ptr (b + 5) 0] .normal st = some (c,st',none) ∧ Wr (TywP b) st st' ∧ b + 2 ∈ st'.log ∧ TyWR b r n d t c st'.heap:=by
 intro hc ih
 have hnx:=hs.nx
 refine proc_end (N:=34) (ok320 hK) (hK.nx _ _ _ rfl) rfl (show b + 2 < st.next by omega) ?_
 have ha:=args193 hK hok
 obtain ⟨nm,k,xs⟩:=t
 obtain ⟨_,_,hl,hoks⟩:=hok
 rw [Ty.av] at ha
 simp only [Ty.k,Ty.xs] at ha
 have g1:=hs.fn
 have g2:=hs.wk
 have g3:=hs.nd
 have g4:=hs.dp
 have e2:(b + 2 = st.next) = False:=eq_false (by omega)
 have e2':(st.next = b + 2) = False:=eq_false (by omega)
 have e3:(b + 3 = st.next) = False:=eq_false (by omega)
 have e3':(st.next = b + 3) = False:=eq_false (by omega)
 have e1:(b + 1 = st.next) = False:=eq_false (by omega)
 have e5:(b + 5 = st.next) = False:=eq_false (by omega)
 have l2:b + 2 < st.next + 1:=by omega
 have l3:b + 3 < st.next + 1:=by omega
 have w1:=wrapUp (show n < 9223372036854775807 by omega)
 by_cases h4:4000 ≤ n
 ·have hb:=decF (show ¬ ((n + 1:Nat):Int) ≤ 4000 by omega)
  have hm:=fun {st:St} => must_f hK (e:=2) (st:=st)
  simp only [RS,RT,RZ,Zu,rA,rB,rC,rD,rE,rF,reduceCtorEq,Zw,x320,y320,Ty.av,g1,g2,g3,g4,e1,e2,e3,e2',e3',e5,l2,l3,w1,hb,hm]
  refine ⟨((Wr.refl _).new0).hit (.inl rfl) (fun l hl => by simpa using hl) (fun l hl => nomatch hl),by simp,.inr ⟨_,rfl,.inr ⟨?_,rfl,?_,d,?_⟩⟩⟩
  ·cases r <;> simp only [Ty.nd] <;> omega
  ·rw [upd_same]
   have:n = 4000:=by omega
   subst this; rfl
  ·rw [upd_ne _ _ (by omega),upd_ne _ _ (by omega)]; exact g4
 ·have hb:=decT (show ((n + 1:Nat):Int) ≤ 4000 by omega)
  have hm:=must_t hK (e:=2)
  obtain ⟨b0,hb0⟩:∃ b0:St,b0 = ⟨upd (upd (upd st.heap st.next (.mem 25 [.str nm,.slice k (Ty.avs xs)] true 0)) (b + 2) (.mem 3 [.int .i64 ((n + 1:Nat):Int)] true 0)) (b + 3) (.mem 3 [.int .i64 ((max d (101 - r):Nat):Int)] true 0),st.next + 1,[b + 3,b + 2]⟩:=⟨_,rfl⟩
  have hb1:Wr (TywP b) ⟨st.heap,st.next,[]⟩ b0:=by
   rw [hb0]
   exact Wr.hit (p:=b + 3) (lg:=[b + 2]) (Wr.hit (p:=b + 2) (lg:=[]) (Wr.new0 (Wr.refl _)) (.inl rfl) (by simp) (by simp)) (.inr rfl) (by simp) (by simp)
  have hs0:TyWS b b0 (n + 1) (max d (101 - r)):=by
   rw [hb0]
   refine ⟨?_,?_,by simp only; omega,?_,?_⟩
   ·simp only; rw [upd_ne _ _ (by omega),upd_ne _ _ (by omega),upd_ne _ _ (by omega)]; exact g1
   ·simp only; rw [upd_ne _ _ (by omega),upd_ne _ _ (by omega),upd_ne _ _ (by omega)]; exact g2
   ·simp only; rw [upd_ne _ _ (by omega),upd_same]
   ·simp only; rw [upd_same]
  cases r with
  | zero =>
   simp only [RS,RT,RZ,Zu,rA,rB,rC,rD,rE,rF,reduceCtorEq,Zw,x320,y320,Ty.av,g1,g2,g3,g4,e1,e2,e3,e2',e3',e5,l2,l3,w1,hb,hm,hc,maxI]
   simp only [Nat.sub_zero] at hb0 hs0
   have q1:=hs0.nd
   have q2:=hs0.dp
   rw [hb0] at q1 q2 hb1
   refine ⟨hb1,by simp,.inl (.inl ⟨by simp only [Ty.nd]; omega,rfl,q1,_,q2,?_⟩)⟩
   simp only [Ty.dp]
   exact ⟨fun _ => .inr trivial,fun _ => by omega⟩
  | succ r =>
   have ih:=ih r rfl
   have w2:IntKind.i64.wrap (((101 - (r + 1):Nat):Int) + 1) = ((101 - r:Nat):Int):=wrapN (by omega) (by omega)
   have hc2:decide (((101 - (r + 1):Nat):Int) ≤ 100) = true:=by rw [hc]; simp
   simp only [RS,RT,RZ,Zu,rA,rB,rC,rD,rE,rF,reduceCtorEq,Zw,x320,y320,Ty.av,g1,g2,g3,g4,e1,e2,e3,e2',e3',e5,l2,l3,w1,hb,hm,hc2,ha,fnis hK (ok193 hK),fnis hK (ok320 hK),maxI]
   refine post_bind (post_for (I:=fun i T st1 => T 1 = .int .i64 ((101 - (r + 1):Nat):Int) ∧ T 5 = .ptr (b + 5) 0 ∧ T 22 = .slice k (Ty.avs xs) ∧ T 23 = .int .i64 (xs.length:Int) ∧ T 24 = .int .i64 (i:Int) ∧ Wr (TywP b) b0 st1 ∧
     n + (1 + ((xs.take i).map (Ty.nd r)).sum) ≤ 4000 ∧ ∃ d1:Nat,TyWS b st1 (n + (1 + ((xs.take i).map (Ty.nd r)).sum)) d1 ∧ (100 < d1 ↔ 100 < d ∨ (xs.take i).any (Ty.dp r) = true))
    (Q:=fun e T st1 => Wr (TywP b) b0 st1 ∧ ((e = .exit 0 ∧ TyWR b (r + 1) n d (Ty.mk nm k xs) (.ret (.tuple [])) st1.heap) ∨ (e = .pan (flt 2) ∧ TyWR b (r + 1) n d (Ty.mk nm k xs) (.pan (flt 2)) st1.heap)))
    xs.length ?_ ?_ (Nat.zero_le _) ?_) ?_
   ·rintro i T ⟨h,nx,lg⟩ hi ⟨t1,t5,t22,t23,t24,hw,hle,d1,hs1,hd1⟩
    obtain ⟨a,hx⟩:∃ a,xs[i]? = some a:=⟨_,List.getElem?_eq_getElem hi⟩
    have ham:=List.mem_of_getElem? hx
    have hget:=Ty.get hx
    have hnx1:=hs1.nx
    have gw:=hs1.wk
    simp only at hnx1 gw
    have hi2:=wrapUp (show i < 9223372036854775807 by unfold Big at hl; omega)
    have hsm:=take_sum (g:=Ty.nd r) hx
    have hle2:=take_le (g:=Ty.nd r) xs (i + 1)
    have hany:(xs.take (i + 1)).any (Ty.dp r) = ((xs.take i).any (Ty.dp r) || a.dp r):=by rw [List.take_add_one,hx]; simp
    have hoka:=Ty.oks hoks a ham
    obtain ⟨nm',k',xs'⟩:=a
    obtain ⟨c,st2,c1,c2,c3,c4⟩:=ih _ hoka ⟨upd h nx (.mem 25 [.str nm',.slice k' (Ty.avs xs')] true 0),nx + 1,nx :: lg⟩ _ d1 (hs1.keep (Wr.refl _ |>.new) (by simp only; rw [upd_ne _ _ (by omega)]; exact hs1.nd) (by simp only; rw [upd_ne _ _ (by omega)]; exact hs1.dp)) hle
    rw [Ty.av] at c1 hget
    have e5n:(b + 5 = nx) = False:=eq_false (by omega)
    have l5n:b + 5 < nx + 1:=by omega
    rcases c4 with ⟨q1,rfl,q2,d',q3,q4⟩ | ⟨q1,rfl,q2,d',q3⟩
    ·simp only [RS,RT,RZ,Zu,rA,rB,rC,rD,rE,rF,reduceCtorEq,Zw,l320_0,m320_0,t1,t5,t22,t23,t24,hi,hget,c1,hi2,gw,e5n,l5n,w2,fnis hK (ok320 hK)]
     refine ⟨hw.new.trans c2,by rw [hsm]; omega,d',(hs1.keep ((Wr.refl _).new.trans c2) (by rw [q2,hsm]; exact congrArg (fun z:Nat => AO.mem 3 [.int .i64 (z:Int)] true 0) (by omega)) q3),?_⟩
     rw [q4,hd1,hany,Bool.or_eq_true,or_assoc]
    ·simp only [RS,RT,RZ,Zu,rA,rB,rC,rD,rE,rF,reduceCtorEq,Zw,l320_0,m320_0,t1,t5,t22,t23,t24,hi,hget,c1,hi2,gw,e5n,l5n,w2,fnis hK (ok320 hK)]
     refine ⟨hw.new.trans c2,.inr ⟨?_,rfl,q2,d',q3⟩⟩
     simp only [Ty.nd,Ty.xs]; omega
   ·rintro T ⟨h,nx,lg⟩ ⟨t1,t5,t22,t23,t24,hw,hle,d1,hs1,hd1⟩
    rw [List.take_length] at hle hs1 hd1
    simp only [RS,RT,RZ,Zu,rA,rB,rC,rD,rE,rF,reduceCtorEq,Zw,l320_0,m320_0,t1,t5,t22,t23,t24]
    exact ⟨hw,.inl ⟨hle,rfl,hs1.nd,d1,hs1.dp,hd1⟩⟩
   ·simp only [RS,RT,RZ,Zu,rA,rB,rC,rD,rE,rF,reduceCtorEq,Zw,Ty.len]
    rw [← hb0]
    refine ⟨Wr.refl _,by simp; omega,_,by simpa using hs0,?_⟩
    simp only [List.take_zero,List.any_nil,Bool.false_eq_true,or_false]
    omega
   ·rintro e T ⟨h,nx,lg⟩ ⟨hw,⟨rfl,hh⟩ | ⟨rfl,hh⟩⟩
    ·simp only [RS,RT,RZ,Zu,rA,rB,rC,rD,rE,rF,reduceCtorEq,Zw,]
     exact ⟨hb1.trans hw,hw.keep _ (by rw [hb0]; simp),.inl hh⟩
    ·simp only [RS,RT,RZ,Zu,rA,rB,rC,rD,rE,rF,reduceCtorEq,Zw,]
     exact ⟨hb1.trans hw,hw.keep _ (by rw [hb0]; simp),.inr ⟨_,rfl,hh⟩⟩
theorem walk320 {b:Nat}:∀ r,r ≤ 100 → ∀ (t:Ty),t.Ok → ∀ (st:St) (n d:Nat),TyWS b st n d → n ≤ 4000 →
  ∃ c st',callW Q (.fn 320) [t.av,.int .i64 ((101 - r:Nat):Int),.ptr (b + 2) 0,.ptr (b + 3) 0,.ptr (b + 1) 0,.ptr (b + 5) 0] .normal st = some (c,st',none) ∧ Wr (TywP b) st st' ∧ b + 2 ∈ st'.log ∧ TyWR b r n d t c st'.heap:=by
 intro r
 induction r with
 | zero => exact fun hr t hok st n d hs hn => step320 hK hr hok hs hn (by decide) fun r' e => nomatch e
 | succ r ih => exact fun hr t hok st n d hs hn => step320 hK hr hok hs hn (by rw [decT (show ((101 - (r + 1):Nat):Int) ≤ 100 by omega),decT (by omega)]) fun r' e => by cases e; exact ih (by omega)
theorem first319 {b:Nat} {t:Ty} (hok:t.Ok) {st:St} (hn:st.next = b + 5) (h0:st.heap b = .mem 25 t.av.cells true 0) (h1:st.heap (b + 1) = .mem 228 [.func (.func 193) [] []] true 0) (h2:st.heap (b + 2) = .mem 3 [.int .i64 0] true 0) (h3:st.heap (b + 3) = .mem 3 [.int .i64 0] true 0) :
  ∃ c st',callW Q (.fn 319) [.ptr (b + 2) 0,.ptr (b + 3) 0,.ptr (b + 1) 0,.ptr b 0] .normal st = some (c,st',none) ∧ Wr (TywP b) st st' ∧ b + 2 ∈ st'.log ∧ TyWR b 100 0 0 t c st'.heap:=by
 refine proc_end (N:=9) (ok319 hK) (hK.nx _ _ _ rfl) rfl (show b + 2 < st.next by omega) ?_
 obtain ⟨b0,hb0⟩:∃ b0:St,b0 = ⟨upd st.heap st.next (.mem 319 [.func (.func 320) [] [.ptr (b + 2) 0,.ptr (b + 3) 0,.ptr (b + 1) 0,.ptr (b + 5) 0]] true 0),st.next + 1,[st.next]⟩:=⟨_,rfl⟩
 have hb1:Wr (TywP b) ⟨st.heap,st.next,[]⟩ b0:=by rw [hb0]; exact Wr.new (Wr.refl _)
 have hs:TyWS b b0 0 0:=by
  rw [hb0]
  refine ⟨?_,?_,by simp only; omega,?_,?_⟩
  ·simp only; rw [upd_ne _ _ (by omega)]; exact h1
  ·simp only; rw [hn,upd_same]
  ·simp only; rw [upd_ne _ _ (by omega)]; exact h2
  ·simp only; rw [upd_ne _ _ (by omega)]; exact h3
 obtain ⟨c,st2,c1,c2,c3,c4⟩:=walk320 hK 100 (Nat.le_refl _) t hok b0 0 0 hs (by omega)
 rw [hb0] at c1
 have e0:(b = b + 5) = False:=eq_false (by omega)
 have l0:b < b + 6:=by omega
 have l6:b + 5 < b + 6:=by omega
 rw [hn] at c1
 obtain ⟨nm,k,xs⟩:=t
 simp only [Ty.av,AV.cells] at h0
 simp only [RS,RT,RZ,Zu,rA,rB,rC,rD,rE,rF,reduceCtorEq,Zw,Ty.av] at c1
 have hc:c = .ret (.tuple []) ∨ c = .pan (flt 2):=by
  rcases c4 with ⟨_,h,_⟩ | ⟨_,h,_⟩
  ·exact .inl h
  ·exact .inr h
 have c5:=hb1.trans c2
 rcases hc with rfl | rfl
 ·simp only [RS,RT,RZ,Zu,rA,rB,rC,rD,rE,rF,reduceCtorEq,Zw,x319,h0,c1,e0,l0,l6,hn,fnis hK (ok320 hK)]
  rw [hn] at c5
  exact ⟨c5,c3,.inl c4⟩
 ·simp only [RS,RT,RZ,Zu,rA,rB,rC,rD,rE,rF,reduceCtorEq,Zw,x319,h0,c1,e0,l0,l6,hn,fnis hK (ok320 hK)]
  rw [hn] at c5
  exact ⟨c5,c3,.inr ⟨_,rfl,c4⟩⟩
theorem deepw350 {b:Nat}:∀ r,r ≤ 100 → ∀ (t:Ty),t.Ok → ∀ (st:St),st.heap (b + 1) = .mem 228 [.func (.func 193) [] []] true 0 → st.heap (b + 2) = .mem 172 [.func (.func 350) [] [.ptr (b + 1) 0,.ptr (b + 2) 0]] true 0 → b + 2 < st.next →
  callW Q (.fn 350) [t.av,.int .i64 ((101 - r:Nat):Int),.ptr (b + 1) 0,.ptr (b + 2) 0] .normal st = some (.ret (.int .i64 (t.dv r (101 - r):Int)),st,none):=by
 intro r
 induction r with
 | zero =>
  intro _ t hok st g1 g2 hn
  refine callY (N:=30) (ok350 hK) (hK.nx _ _ _ rfl) rfl rfl ?_
  obtain ⟨nm,k,xs⟩:=t
  have hz:decide (((101:Nat):Int) ≤ 100) = false:=by decide
  simp only [RS,RT,RZ,Zu,rA,rB,rC,rD,rE,rF,reduceCtorEq,Zw,x350,y350,F350,Ty.av,Ty.dv,hz]
 | succ r ih =>
  intro hr t hok st g1 g2 hn
  refine callY (N:=30) (ok350 hK) (hK.nx _ _ _ rfl) rfl rfl ?_
  have ha:=args193 hK hok
  obtain ⟨nm,k,xs⟩:=t
  obtain ⟨_,_,hl,hoks⟩:=hok
  rw [Ty.av] at ha
  simp only [Ty.k,Ty.xs] at ha
  have e1:(b + 1 = st.next) = False:=eq_false (by omega)
  have e2:(b + 2 = st.next) = False:=eq_false (by omega)
  have l1:b + 1 < st.next + 1:=by omega
  have l2:b + 2 < st.next + 1:=by omega
  have w2:IntKind.i64.wrap (((101 - (r + 1):Nat):Int) + 1) = ((101 - r:Nat):Int):=wrapN (by omega) (by omega)
  have hc2:decide (((101 - (r + 1):Nat):Int) ≤ 100) = true:=decT (by omega)
  have hlv:101 - (r + 1) + 1 = 101 - r:=by omega
  simp only [RS,RT,RZ,Zu,rA,rB,rC,rD,rE,rF,reduceCtorEq,Zw,x350,y350,F350,Ty.av,g1,g2,e1,e2,l1,l2,hc2,ha,fnis hK (ok193 hK),fnis hK (ok350 hK)]
  refine post_bind (post_for (I:=fun i T st1 => T 1 = .int .i64 ((101 - (r + 1):Nat):Int) ∧ T 3 = .ptr (b + 2) 0 ∧ T 7 = .int .i64 (((xs.take i).foldl (fun o x => max o (Ty.dv r (101 - r) x)) (101 - (r + 1)):Nat):Int) ∧ T 15 = .slice k (Ty.avs xs) ∧ T 16 = .int .i64 (xs.length:Int) ∧ T 17 = .int .i64 (i:Int) ∧ Wr (fun _ => False) ⟨st.heap,st.next,[]⟩ st1)
   (Q:=fun e T st1 => Wr (fun _ => False) ⟨st.heap,st.next,[]⟩ st1 ∧ e = .exit 0 ∧ T 7 = .int .i64 ((xs.foldl (fun o x => max o (Ty.dv r (101 - r) x)) (101 - (r + 1)):Nat):Int))
   xs.length ?_ ?_ (Nat.zero_le _) ?_) ?_
  ·rintro i T ⟨h,nx,lg⟩ hi ⟨t1,t3,t7,t15,t16,t17,hw⟩
   obtain ⟨a,hx⟩:∃ a,xs[i]? = some a:=⟨_,List.getElem?_eq_getElem hi⟩
   have ham:=List.mem_of_getElem? hx
   have hget:=Ty.get hx
   have hnx:=hw.next
   have k1:=hw.heap (b + 1) (by simp only; omega) (fun h => h)
   have k2:=hw.heap (b + 2) (by simp only; omega) (fun h => h)
   simp only at hnx k1 k2
   rw [g1] at k1
   rw [g2] at k2
   have hi2:=wrapUp (show i < 9223372036854775807 by unfold Big at hl; omega)
   have hfold:(xs.take (i + 1)).foldl (fun o x => max o (Ty.dv r (101 - r) x)) (101 - (r + 1)) = max ((xs.take i).foldl (fun o x => max o (Ty.dv r (101 - r) x)) (101 - (r + 1))) (a.dv r (101 - r)):=by rw [List.take_add_one,hx]; simp
   have hoka:=Ty.oks hoks a ham
   have e1n:(b + 1 = nx) = False:=eq_false (by omega)
   have e2n:(b + 2 = nx) = False:=eq_false (by omega)
   have l2n:b + 2 < nx + 1:=by omega
   obtain ⟨nm',k',xs'⟩:=a
   have c1:=ih (by omega) _ hoka ⟨upd h nx (.mem 25 [.str nm',.slice k' (Ty.avs xs')] true 0),nx + 1,nx :: lg⟩ (by simp only; rw [upd_ne _ _ (by omega)]; exact k1) (by simp only; rw [upd_ne _ _ (by omega)]; exact k2) (by simp only; omega)
   rw [Ty.av] at c1 hget
   obtain ⟨z,hz⟩:∃ z,z = (xs.take i).foldl (fun o x => max o (Ty.dv r (101 - r) x)) (101 - (r + 1)):=⟨_,rfl⟩
   rw [← hz] at t7 hfold
   simp only [RS,RT,RZ,Zu,rA,rB,rC,rD,rE,rF,reduceCtorEq,Zw,l350_0,m350_0,t1,t3,t7,t15,t16,t17,hi,hget,c1,hi2,k2,e2n,l2n,w2,fnis hK (ok350 hK),maxI,hfold]
   exact hw.new
  ·rintro T ⟨h,nx,lg⟩ ⟨t1,t3,t7,t15,t16,t17,hw⟩
   rw [List.take_length] at t7
   simp only [RS,RT,RZ,Zu,rA,rB,rC,rD,rE,rF,reduceCtorEq,Zw,l350_0,m350_0,t1,t3,t7,t15,t16,t17]
   exact hw
  ·simp only [RS,RT,RZ,Zu,rA,rB,rC,rD,rE,rF,reduceCtorEq,Zw,Ty.len]
   exact ⟨by simp,Wr.new0 (Wr.refl _)⟩
  ·rintro e T ⟨h,nx,lg⟩ ⟨hw,rfl,t7⟩
   simp only [RS,RT,RZ,Zu,rA,rB,rC,rD,rE,rF,reduceCtorEq,Zw,t7,Ty.dv,Ty.xs,hlv]
   refine fun q hq => ?_
   rcases hw.log q hq with h | h | h
   ·cases h
   ·exact h.elim
   ·exact h
theorem deepest321 {t:Ty} (hok:t.Ok):Ret Q 321 [t.av,.func (.func 193) [] []] (.int .i64 (t.dv 100 1:Int)):=fun st => by
 refine callY (N:=10) (ok321 hK) (hK.nx _ _ _ rfl) rfl rfl ?_
 have c1:=deepw350 hK (b:=st.next) 100 (Nat.le_refl _) t hok ⟨upd (upd (upd st.heap st.next (.mem 25 t.av.cells true 0)) (st.next + 1) (.mem 228 [.func (.func 193) [] []] true 0)) (st.next + 2) (.mem 172 [.func (.func 350) [] [.ptr (st.next + 1) 0,.ptr (st.next + 2) 0]] true 0),st.next + 3,[st.next + 2]⟩
  (by simp only; rw [upd_ne _ _ (by omega),upd_same]) (by simp only; rw [upd_same]) (by simp only; omega)
 have l3:st.next + 2 < st.next + 3:=by omega
 obtain ⟨nm,k,xs⟩:=t
 simp only [RS,RT,RZ,Zu,rA,rB,rC,rD,rE,rF,reduceCtorEq,Zw,Ty.av,AV.cells] at c1
 simp only [RS,RT,RZ,Zu,rA,rB,rC,rD,rE,rF,reduceCtorEq,Zw,x321,F321,Ty.av,c1,l3,fnis hK (ok350 hK)]
theorem meas257 {t:Ty} (hok:t.Ok) (st:St):∃ n d:Nat,callW Q (.fn 257) [t.av,.func (.func 193) [] []] .normal st = some (.ret (.tuple [.int .i64 (n:Int),.int .i64 (d:Int)]),st,none) ∧
  ((t.nd 100 ≤ 4000 ∧ n = t.nd 100 ∧ (100 < d ↔ t.dp 100 = true)) ∨ (4000 < t.nd 100 ∧ n = 4001)):=by
 obtain ⟨s0,hs0⟩:∃ s0:St,s0 = ⟨upd (upd (upd (upd st.heap st.next (.mem 25 t.av.cells true 0)) (st.next + 1) (.mem 228 [.func (.func 193) [] []] true 0)) (st.next + 2) (.mem 3 [.int .i64 0] true 0)) (st.next + 3) (.mem 3 [.int .i64 0] true 0),st.next + 4,[]⟩:=⟨_,rfl⟩
 have hn0:s0.next = st.next + 4:=by rw [hs0]
 obtain ⟨c,st2,c1,c2,c3,c4⟩:=first319 hK (b:=st.next) hok (st:=⟨upd s0.heap s0.next (.mem 30 [.int .i64 0] true 0),s0.next + 1,[]⟩) (by simp only; omega)
  (by rw [hs0]; simp only; rw [upd_ne _ _ (by omega),upd_ne _ _ (by omega),upd_ne _ _ (by omega),upd_ne _ _ (by omega),upd_same])
  (by rw [hs0]; simp only; rw [upd_ne _ _ (by omega),upd_ne _ _ (by omega),upd_ne _ _ (by omega),upd_same])
  (by rw [hs0]; simp only; rw [upd_ne _ _ (by omega),upd_ne _ _ (by omega),upd_same])
  (by rw [hs0]; simp only; rw [upd_ne _ _ (by omega),upd_same])
 have fin:∀ (e:Int),((c = .ret (.tuple []) ∧ e = 0) ∨ c = .pan (flt e)) → ∃ st',callW Q (.fn 120) [.func (.func 319) [] [.ptr (st.next + 2) 0,.ptr (st.next + 3) 0,.ptr (st.next + 1) 0,.ptr st.next 0]] .normal s0 = some (.ret (.int .i64 e),st',none) ∧
   st'.heap (st.next + 2) = st2.heap (st.next + 2) ∧ st'.heap (st.next + 3) = st2.heap (st.next + 3) ∧ st.next + 4 ≤ st'.next ∧ (∀ q ∈ st'.log,st.next ≤ q) ∧ st'.heap st.next = .mem 25 t.av.cells true 0 ∧ st'.heap (st.next + 1) = .mem 228 [.func (.func 193) [] []] true 0:=fun e he => by
  obtain ⟨st',d1,d2,d3,d4⟩:=guarded_w hK (P:=TywP st.next) (p:=st.next + 2) (fnis hK (ok319 hK)) he (fun q hq => by rcases hq with rfl | rfl <;> omega) c1 c2 c3 (by omega)
  have k1:=d2.next
  have k2:=d2.heap st.next (by omega) (by rintro (e | e) <;> omega)
  have k3:=d2.heap (st.next + 1) (by omega) (by rintro (e | e) <;> omega)
  refine ⟨st',d1,d4 _ (by omega),d4 _ (by omega),by omega,fun q hq => ?_,?_,?_⟩
  ·rcases d2.log q hq with h | (h | h) | h
   ·rw [hs0] at h; cases h
   ·omega
   ·omega
   ·omega
  ·rw [k2,hs0]; simp only; rw [upd_ne _ _ (by omega),upd_ne _ _ (by omega),upd_ne _ _ (by omega),upd_same]
  ·rw [k3,hs0]; simp only; rw [upd_ne _ _ (by omega),upd_ne _ _ (by omega),upd_same]
 have hdeep:=deepest321 hK hok
 rcases c4 with ⟨q1,rfl,q2,d',q3,q4⟩ | ⟨q1,rfl,q2,d',q3⟩
 ·obtain ⟨⟨h',n',lg'⟩,d1,d2,d3,d4,d5,_,_⟩:=fin 0 (.inl ⟨rfl,rfl⟩)
  simp only at d2 d3 d4 d5
  rw [q2] at d2
  rw [q3] at d3
  refine ⟨t.nd 100,d',callY (N:=14) (ok257 hK) (hK.nx _ _ _ rfl) rfl rfl ?_,.inl ⟨by omega,rfl,by simpa using q4⟩⟩
  have l2:st.next + 2 < n':=by omega
  have l3:st.next + 3 < n':=by omega
  rw [Nat.zero_add] at d2
  rw [hs0] at d1
  obtain ⟨nm,k,xs⟩:=t
  simp only [RS,RT,RZ,Zu,rA,rB,rC,rD,rE,rF,reduceCtorEq,Zw,Ty.av,AV.cells] at d1
  simp only [RS,RT,RZ,Zu,rA,rB,rC,rD,rE,rF,reduceCtorEq,Zw,x257,y257,kd257_0,F257,Ty.av,d1,d2,d3,l2,l3,tw3 hK,T3,fnis hK (ok319 hK)]
  exact d5
 ·obtain ⟨⟨h',n',lg'⟩,d1,d2,d3,d4,d5,d6,d7⟩:=fin 2 (.inr rfl)
  simp only at d2 d3 d4 d5 d6 d7
  rw [q2] at d2
  rw [q3] at d3
  refine ⟨4001,t.dv 100 1,callY (N:=14) (ok257 hK) (hK.nx _ _ _ rfl) rfl rfl ?_,.inr ⟨by omega,rfl⟩⟩
  have l0:st.next < n':=by omega
  have l1:st.next + 1 < n':=by omega
  have l2:st.next + 2 < n':=by omega
  have l3:st.next + 3 < n':=by omega
  rw [hs0] at d1
  obtain ⟨nm,k,xs⟩:=t
  simp only [RS,RT,RZ,Zu,rA,rB,rC,rD,rE,rF,reduceCtorEq,Zw,Ty.av,AV.cells] at d1 d6 hdeep
  have h20:((2:Int) != 0) = true:=rfl
  simp only [RS,RT,RZ,Zu,rA,rB,rC,rD,rE,rF,reduceCtorEq,Zw,x257,y257,kd257_0,F257,Ty.av,d1,d2,d3,d6,d7,hdeep,l0,l1,l2,l3,tw3 hK,T3,fnis hK (ok319 hK),fnis hK (ok321 hK),h20]
  exact ⟨rfl,d5⟩
def Ty.sized (t:Ty):Int:=if 4000 < t.nd 100 then 2 else if t.dp 100 then 5 else 0
theorem sized192 {t:Ty} (hok:t.Ok):Ret Q 192 [t.av,.func (.func 193) [] []] (.int .i64 t.sized):=fun st => by
 refine callY (N:=19) (ok192 hK) (hK.nx _ _ _ rfl) rfl rfl ?_
 obtain ⟨n,d,h1,h2⟩:=meas257 hK hok ⟨upd st.heap st.next (.mem 25 t.av.cells true 0),st.next + 1,[]⟩
 have hsz:t.sized = if decide ((n:Int) > 4000) then 2 else if decide ((d:Int) > 100) then 5 else 0:=by
  unfold Ty.sized
  rcases h2 with ⟨a1,a2,a3⟩ | ⟨a1,a2⟩
  ·rw [if_neg (by omega),decF (by omega)]
   simp only [Bool.false_eq_true,if_false]
   cases hb:t.dp 100 with
   | true => rw [if_pos rfl,decT (by have:=a3.2 hb; omega),if_pos rfl]
   | false => rw [if_neg (by decide),decF (by
     intro h
     have:=a3.1 (by omega)
     rw [hb] at this; cases this),if_neg (by decide)]
  ·rw [if_pos a1,decT (by omega),if_pos rfl]
 rw [hsz]
 obtain ⟨nm,k,xs⟩:=t
 simp only [RS,RT,RZ,Zu,rA,rB,rC,rD,rE,rF,reduceCtorEq,Zw,Ty.av,AV.cells] at h1
 cases e1:decide ((n:Int) > 4000) with
 | true => simp only [RS,RT,RZ,Zu,rA,rB,rC,rD,rE,rF,reduceCtorEq,Zw,x192,F192,Ty.av,h1,e1,if_true,if_false]
 | false =>
  cases e2:decide ((d:Int) > 100) with
  | true => simp only [RS,RT,RZ,Zu,rA,rB,rC,rD,rE,rF,reduceCtorEq,Zw,x192,F192,Ty.av,h1,e1,e2,if_true,if_false]
  | false => simp only [RS,RT,RZ,Zu,rA,rB,rC,rD,rE,rF,reduceCtorEq,Zw,x192,F192,Ty.av,h1,e1,e2,if_true,if_false]
end
end Go.Proofs.L06

namespace Go.Proofs.L06
open Go Go.AE
open Nat renaming reduceLT → rA,reduceLeDiff → rB,reduceEqDiff → rC,reduceMul → rD,reduceAdd → rE,reduceSub → rF
set_option maxHeartbeats 8000000
def Tm.k:Tm → SK | .mk _ _ _ k _ => k
theorem Tm.clean:∀ (t:Tm),t.Ok → CleanV t.av:=by
 intro t
 induction t using Tm.ind with
 | _ kd n nm k xs ih =>
 rintro ⟨_,_,_,hk,_,ho⟩
 have:=clean_slice (k:=k) (es:=Tm.avs xs) hk (fun a ha => by
  rw [Tm.avs_eq,List.mem_map] at ha
  obtain ⟨x,hx,rfl⟩:=ha
  exact ih x hx (Tm.oks ho x hx))
 simp only [CleanV] at this
 simp only [CleanV,Tm.av,belowA,belowA.belowL,this,Bool.and_self]
theorem Tm.cleanA {t:Tm} (h:t.Ok):CleanV (.slice t.k (Tm.avs t.xs)):=by
 obtain ⟨kd,n,nm,k,xs⟩:=t
 obtain ⟨_,_,_,hk,_,ho⟩:=h
 exact clean_slice hk fun a ha => by
  rw [Tm.avs_eq,List.mem_map] at ha
  obtain ⟨x,hx,rfl⟩:=ha
  exact Tm.clean x (Tm.oks ho x hx)
def Tm.nd:Nat → Tm → Nat
 | 0,_ => 1
 | r + 1,t => 1 + (t.xs.map (Tm.nd r)).sum
def Tm.dv:Nat → Nat → Tm → Nat
 | 0,lv,_ => lv
 | r + 1,lv,t => t.xs.foldl (fun o x => max o (Tm.dv r (lv + 1) x)) lv
structure TmWS (b:Nat) (st:St) (n d:Nat):Prop where
 fn:st.heap (b + 1) = .mem 165 [.func (.func 119) [] []] true 0
 wk:st.heap (b + 5) = .mem 258 [.func (.func 248) [] [.ptr (b + 2) 0,.ptr (b + 3) 0,.ptr (b + 1) 0,.ptr (b + 5) 0]] true 0
 nx:b + 5 < st.next
 nd:st.heap (b + 2) = .mem 3 [.int .i64 (n:Int)] true 0
 dp:st.heap (b + 3) = .mem 3 [.int .i64 (d:Int)] true 0
def TmwP (b q:Nat):Prop:=q = b + 2 ∨ q = b + 3
def TmWR (b r n d:Nat) (t:Tm) (c:CR) (h:Nat → AO):Prop :=
 (n + t.nd r ≤ 4000 ∧ c = .ret (.tuple []) ∧ h (b + 2) = .mem 3 [.int .i64 ((n + t.nd r:Nat):Int)] true 0 ∧ ∃ d':Nat,h (b + 3) = .mem 3 [.int .i64 (d':Int)] true 0 ∧ (100 < d' ↔ 100 < d ∨ t.dp r = true)) ∨
 (4000 < n + t.nd r ∧ c = .pan (flt 2) ∧ h (b + 2) = .mem 3 [.int .i64 4001] true 0 ∧ ∃ d':Nat,h (b + 3) = .mem 3 [.int .i64 (d':Int)] true 0)
theorem TmWS.keep {b:Nat} {a st:St} {n d n' d':Nat} (h:TmWS b a n d) (w:Wr (TmwP b) a st) (h1:st.heap (b + 2) = .mem 3 [.int .i64 (n':Int)] true 0) (h2:st.heap (b + 3) = .mem 3 [.int .i64 (d':Int)] true 0):TmWS b st n' d' :=
 ⟨(w.heap _ (by have:=h.nx; omega) (by rintro (e | e) <;> omega)).trans h.fn,(w.heap _ (by have:=h.nx; omega) (by rintro (e | e) <;> omega)).trans h.wk,Nat.lt_of_lt_of_le h.nx w.next,h1,h2⟩
section
variable {Q:Ctx} (hK:K Q)
include hK
theorem args119 {t:Tm} (hok:t.Ok):Ret Q 119 [t.av] (.slice t.k (Tm.avs t.xs)):=fun st => by
 refine callY (N:=5) (ok119 hK) (hK.nx _ _ _ rfl) rfl (Tm.cleanA hok) ?_
 obtain ⟨kd,n0,nm,k,xs⟩:=t
 simp only [RS,RT,RZ,Zu,rA,rB,rC,rD,rE,rF,reduceCtorEq,Zw,x119,F119,Tm.av,Tm.k,Tm.xs]
theorem step248 {b r:Nat} (hr:r ≤ 100) {t:Tm} (hok:t.Ok) {st:St} {n d:Nat} (hs:TmWS b st n d) (hn:n ≤ 4000):∀ (hc:decide (((101 - r:Nat):Int) ≤ 100) = decide (0 < r)),(∀ r',r = r' + 1 → ∀ (t:Tm),t.Ok → ∀ (st:St) (n d:Nat),TmWS b st n d → n ≤ 4000 →
  ∃ c st',callW Q (.fn 248) [t.av,.int .i64 ((101 - r':Nat):Int),.ptr (b + 2) 0,.ptr (b + 3) 0,.ptr (b + 1) 0,.ptr (b + 5) 0] .normal st = some (c,st',none) ∧ Wr (TmwP b) st st' ∧ b + 2 ∈ st'.log ∧ TmWR b r' n d t c st'.heap) →
  ∃ c st',callW Q (.fn 248) [t.av,.int .i64 ((101 - r:Nat):Int),.ptr (b + 2) 0,.ptr (b + 3) 0,.ptr (b + 1) 0,.ptr (b + 5) 0] .normal st = some (c,st',none) ∧ Wr (TmwP b) st st' ∧ b + 2 ∈ st'.log ∧ TmWR b r n d t c st'.heap:=by
 intro hc ih
 have hnx:=hs.nx
 refine proc_end (N:=34) (ok248 hK) (hK.nx _ _ _ rfl) rfl (show b + 2 < st.next by omega) ?_
 have ha:=args119 hK hok
 obtain ⟨kd,n0,nm,k,xs⟩:=t
 obtain ⟨_,_,_,_,hl,hoks⟩:=hok
 rw [Tm.av] at ha
 simp only [Tm.k,Tm.xs] at ha
 have g1:=hs.fn
 have g2:=hs.wk
 have g3:=hs.nd
 have g4:=hs.dp
 have e2:(b + 2 = st.next) = False:=eq_false (by omega)
 have e2':(st.next = b + 2) = False:=eq_false (by omega)
 have e3:(b + 3 = st.next) = False:=eq_false (by omega)
 have e3':(st.next = b + 3) = False:=eq_false (by omega)
 have e1:(b + 1 = st.next) = False:=eq_false (by omega)
 have e5:(b + 5 = st.next) = False:=eq_false (by omega)
 have l2:b + 2 < st.next + 1:=by omega
 have l3:b + 3 < st.next + 1:=by omega
 have w1:=wrapUp (show n < 9223372036854775807 by omega)
 by_cases h4:4000 ≤ n
 ·have hb:=decF (show ¬ ((n + 1:Nat):Int) ≤ 4000 by omega)
  have hm:=fun {st:St} => must_f hK (e:=2) (st:=st)
  simp only [RS,RT,RZ,Zu,rA,rB,rC,rD,rE,rF,reduceCtorEq,Zw,x248,y248,Tm.av,g1,g2,g3,g4,e1,e2,e3,e2',e3',e5,l2,l3,w1,hb,hm]
  refine ⟨((Wr.refl _).new0).hit (.inl rfl) (fun l hl => by simpa using hl) (fun l hl => nomatch hl),by simp,.inr ⟨_,rfl,.inr ⟨?_,rfl,?_,d,?_⟩⟩⟩
  ·cases r <;> simp only [Tm.nd] <;> omega
  ·rw [upd_same]
   have:n = 4000:=by omega
   subst this; rfl
  ·rw [upd_ne _ _ (by omega),upd_ne _ _ (by omega)]; exact g4
 ·have hb:=decT (show ((n + 1:Nat):Int) ≤ 4000 by omega)
  have hm:=must_t hK (e:=2)
  obtain ⟨b0,hb0⟩:∃ b0:St,b0 = ⟨upd (upd (upd st.heap st.next (.mem 39 [.int .i64 kd,.int .i64 n0,.str nm,.slice k (Tm.avs xs)] true 0)) (b + 2) (.mem 3 [.int .i64 ((n + 1:Nat):Int)] true 0)) (b + 3) (.mem 3 [.int .i64 ((max d (101 - r):Nat):Int)] true 0),st.next + 1,[b + 3,b + 2]⟩:=⟨_,rfl⟩
  have hb1:Wr (TmwP b) ⟨st.heap,st.next,[]⟩ b0:=by
   rw [hb0]
   exact Wr.hit (p:=b + 3) (lg:=[b + 2]) (Wr.hit (p:=b + 2) (lg:=[]) (Wr.new0 (Wr.refl _)) (.inl rfl) (by simp) (by simp)) (.inr rfl) (by simp) (by simp)
  have hs0:TmWS b b0 (n + 1) (max d (101 - r)):=by
   rw [hb0]
   refine ⟨?_,?_,by simp only; omega,?_,?_⟩
   ·simp only; rw [upd_ne _ _ (by omega),upd_ne _ _ (by omega),upd_ne _ _ (by omega)]; exact g1
   ·simp only; rw [upd_ne _ _ (by omega),upd_ne _ _ (by omega),upd_ne _ _ (by omega)]; exact g2
   ·simp only; rw [upd_ne _ _ (by omega),upd_same]
   ·simp only; rw [upd_same]
  cases r with
  | zero =>
   simp only [RS,RT,RZ,Zu,rA,rB,rC,rD,rE,rF,reduceCtorEq,Zw,x248,y248,Tm.av,g1,g2,g3,g4,e1,e2,e3,e2',e3',e5,l2,l3,w1,hb,hm,hc,maxI]
   simp only [Nat.sub_zero] at hb0 hs0
   have q1:=hs0.nd
   have q2:=hs0.dp
   rw [hb0] at q1 q2 hb1
   refine ⟨hb1,by simp,.inl (.inl ⟨by simp only [Tm.nd]; omega,rfl,q1,_,q2,?_⟩)⟩
   simp only [Tm.dp]
   exact ⟨fun _ => .inr trivial,fun _ => by omega⟩
  | succ r =>
   have ih:=ih r rfl
   have w2:IntKind.i64.wrap (((101 - (r + 1):Nat):Int) + 1) = ((101 - r:Nat):Int):=wrapN (by omega) (by omega)
   have hc2:decide (((101 - (r + 1):Nat):Int) ≤ 100) = true:=by rw [hc]; simp
   simp only [RS,RT,RZ,Zu,rA,rB,rC,rD,rE,rF,reduceCtorEq,Zw,x248,y248,Tm.av,g1,g2,g3,g4,e1,e2,e3,e2',e3',e5,l2,l3,w1,hb,hm,hc2,ha,fnis hK (ok119 hK),fnis hK (ok248 hK),maxI]
   refine post_bind (post_for (I:=fun i T st1 => T 1 = .int .i64 ((101 - (r + 1):Nat):Int) ∧ T 5 = .ptr (b + 5) 0 ∧ T 22 = .slice k (Tm.avs xs) ∧ T 23 = .int .i64 (xs.length:Int) ∧ T 24 = .int .i64 (i:Int) ∧ Wr (TmwP b) b0 st1 ∧
     n + (1 + ((xs.take i).map (Tm.nd r)).sum) ≤ 4000 ∧ ∃ d1:Nat,TmWS b st1 (n + (1 + ((xs.take i).map (Tm.nd r)).sum)) d1 ∧ (100 < d1 ↔ 100 < d ∨ (xs.take i).any (Tm.dp r) = true))
    (Q:=fun e T st1 => Wr (TmwP b) b0 st1 ∧ ((e = .exit 0 ∧ TmWR b (r + 1) n d (Tm.mk kd n0 nm k xs) (.ret (.tuple [])) st1.heap) ∨ (e = .pan (flt 2) ∧ TmWR b (r + 1) n d (Tm.mk kd n0 nm k xs) (.pan (flt 2)) st1.heap)))
    xs.length ?_ ?_ (Nat.zero_le _) ?_) ?_
   ·rintro i T ⟨h,nx,lg⟩ hi ⟨t1,t5,t22,t23,t24,hw,hle,d1,hs1,hd1⟩
    obtain ⟨a,hx⟩:∃ a,xs[i]? = some a:=⟨_,List.getElem?_eq_getElem hi⟩
    have ham:=List.mem_of_getElem? hx
    have hget:=Tm.get hx
    have hnx1:=hs1.nx
    have gw:=hs1.wk
    simp only at hnx1 gw
    have hi2:=wrapUp (show i < 9223372036854775807 by unfold Big at hl; omega)
    have hsm:=take_sum (g:=Tm.nd r) hx
    have hle2:=take_le (g:=Tm.nd r) xs (i + 1)
    have hany:(xs.take (i + 1)).any (Tm.dp r) = ((xs.take i).any (Tm.dp r) || a.dp r):=by rw [List.take_add_one,hx]; simp
    have hoka:=Tm.oks hoks a ham
    obtain ⟨kd',n',nm',k',xs'⟩:=a
    obtain ⟨c,st2,c1,c2,c3,c4⟩:=ih _ hoka ⟨upd h nx (.mem 39 [.int .i64 kd',.int .i64 n',.str nm',.slice k' (Tm.avs xs')] true 0),nx + 1,nx :: lg⟩ _ d1 (hs1.keep (Wr.refl _ |>.new) (by simp only; rw [upd_ne _ _ (by omega)]; exact hs1.nd) (by simp only; rw [upd_ne _ _ (by omega)]; exact hs1.dp)) hle
    rw [Tm.av] at c1 hget
    have e5n:(b + 5 = nx) = False:=eq_false (by omega)
    have l5n:b + 5 < nx + 1:=by omega
    rcases c4 with ⟨q1,rfl,q2,d',q3,q4⟩ | ⟨q1,rfl,q2,d',q3⟩
    ·simp only [RS,RT,RZ,Zu,rA,rB,rC,rD,rE,rF,reduceCtorEq,Zw,l248_0,m248_0,t1,t5,t22,t23,t24,hi,hget,c1,hi2,gw,e5n,l5n,w2,fnis hK (ok248 hK)]
     refine ⟨hw.new.trans c2,by rw [hsm]; omega,d',(hs1.keep ((Wr.refl _).new.trans c2) (by rw [q2,hsm]; exact congrArg (fun z:Nat => AO.mem 3 [.int .i64 (z:Int)] true 0) (by omega)) q3),?_⟩
     rw [q4,hd1,hany,Bool.or_eq_true,or_assoc]
    ·simp only [RS,RT,RZ,Zu,rA,rB,rC,rD,rE,rF,reduceCtorEq,Zw,l248_0,m248_0,t1,t5,t22,t23,t24,hi,hget,c1,hi2,gw,e5n,l5n,w2,fnis hK (ok248 hK)]
     refine ⟨hw.new.trans c2,.inr ⟨?_,rfl,q2,d',q3⟩⟩
     simp only [Tm.nd,Tm.xs]; omega
   ·rintro T ⟨h,nx,lg⟩ ⟨t1,t5,t22,t23,t24,hw,hle,d1,hs1,hd1⟩
    rw [List.take_length] at hle hs1 hd1
    simp only [RS,RT,RZ,Zu,rA,rB,rC,rD,rE,rF,reduceCtorEq,Zw,l248_0,m248_0,t1,t5,t22,t23,t24]
    exact ⟨hw,.inl ⟨hle,rfl,hs1.nd,d1,hs1.dp,hd1⟩⟩
   ·simp only [RS,RT,RZ,Zu,rA,rB,rC,rD,rE,rF,reduceCtorEq,Zw,Tm.len]
    rw [← hb0]
    refine ⟨Wr.refl _,by simp; omega,_,by simpa using hs0,?_⟩
    simp only [List.take_zero,List.any_nil,Bool.false_eq_true,or_false]
    omega
   ·rintro e T ⟨h,nx,lg⟩ ⟨hw,⟨rfl,hh⟩ | ⟨rfl,hh⟩⟩
    ·simp only [RS,RT,RZ,Zu,rA,rB,rC,rD,rE,rF,reduceCtorEq,Zw,]
     exact ⟨hb1.trans hw,hw.keep _ (by rw [hb0]; simp),.inl hh⟩
    ·simp only [RS,RT,RZ,Zu,rA,rB,rC,rD,rE,rF,reduceCtorEq,Zw,]
     exact ⟨hb1.trans hw,hw.keep _ (by rw [hb0]; simp),.inr ⟨_,rfl,hh⟩⟩
theorem walk248 {b:Nat}:∀ r,r ≤ 100 → ∀ (t:Tm),t.Ok → ∀ (st:St) (n d:Nat),TmWS b st n d → n ≤ 4000 →
  ∃ c st',callW Q (.fn 248) [t.av,.int .i64 ((101 - r:Nat):Int),.ptr (b + 2) 0,.ptr (b + 3) 0,.ptr (b + 1) 0,.ptr (b + 5) 0] .normal st = some (c,st',none) ∧ Wr (TmwP b) st st' ∧ b + 2 ∈ st'.log ∧ TmWR b r n d t c st'.heap:=by
 intro r
 induction r with
 | zero => exact fun hr t hok st n d hs hn => step248 hK hr hok hs hn (by decide) fun r' e => nomatch e
 | succ r ih => exact fun hr t hok st n d hs hn => step248 hK hr hok hs hn (by rw [decT (show ((101 - (r + 1):Nat):Int) ≤ 100 by omega),decT (by omega)]) fun r' e => by cases e; exact ih (by omega)
theorem first247 {b:Nat} {t:Tm} (hok:t.Ok) {st:St} (hn:st.next = b + 5) (h0:st.heap b = .mem 39 t.av.cells true 0) (h1:st.heap (b + 1) = .mem 165 [.func (.func 119) [] []] true 0) (h2:st.heap (b + 2) = .mem 3 [.int .i64 0] true 0) (h3:st.heap (b + 3) = .mem 3 [.int .i64 0] true 0) :
  ∃ c st',callW Q (.fn 247) [.ptr (b + 2) 0,.ptr (b + 3) 0,.ptr (b + 1) 0,.ptr b 0] .normal st = some (c,st',none) ∧ Wr (TmwP b) st st' ∧ b + 2 ∈ st'.log ∧ TmWR b 100 0 0 t c st'.heap:=by
 refine proc_end (N:=9) (ok247 hK) (hK.nx _ _ _ rfl) rfl (show b + 2 < st.next by omega) ?_
 obtain ⟨b0,hb0⟩:∃ b0:St,b0 = ⟨upd st.heap st.next (.mem 258 [.func (.func 248) [] [.ptr (b + 2) 0,.ptr (b + 3) 0,.ptr (b + 1) 0,.ptr (b + 5) 0]] true 0),st.next + 1,[st.next]⟩:=⟨_,rfl⟩
 have hb1:Wr (TmwP b) ⟨st.heap,st.next,[]⟩ b0:=by rw [hb0]; exact Wr.new (Wr.refl _)
 have hs:TmWS b b0 0 0:=by
  rw [hb0]
  refine ⟨?_,?_,by simp only; omega,?_,?_⟩
  ·simp only; rw [upd_ne _ _ (by omega)]; exact h1
  ·simp only; rw [hn,upd_same]
  ·simp only; rw [upd_ne _ _ (by omega)]; exact h2
  ·simp only; rw [upd_ne _ _ (by omega)]; exact h3
 obtain ⟨c,st2,c1,c2,c3,c4⟩:=walk248 hK 100 (Nat.le_refl _) t hok b0 0 0 hs (by omega)
 rw [hb0] at c1
 have e0:(b = b + 5) = False:=eq_false (by omega)
 have l0:b < b + 6:=by omega
 have l6:b + 5 < b + 6:=by omega
 rw [hn] at c1
 obtain ⟨kd,n0,nm,k,xs⟩:=t
 simp only [Tm.av,AV.cells] at h0
 simp only [RS,RT,RZ,Zu,rA,rB,rC,rD,rE,rF,reduceCtorEq,Zw,Tm.av] at c1
 have hc:c = .ret (.tuple []) ∨ c = .pan (flt 2):=by
  rcases c4 with ⟨_,h,_⟩ | ⟨_,h,_⟩
  ·exact .inl h
  ·exact .inr h
 have c5:=hb1.trans c2
 rcases hc with rfl | rfl
 ·simp only [RS,RT,RZ,Zu,rA,rB,rC,rD,rE,rF,reduceCtorEq,Zw,x247,h0,c1,e0,l0,l6,hn,fnis hK (ok248 hK)]
  rw [hn] at c5
  exact ⟨c5,c3,.inl c4⟩
 ·simp only [RS,RT,RZ,Zu,rA,rB,rC,rD,rE,rF,reduceCtorEq,Zw,x247,h0,c1,e0,l0,l6,hn,fnis hK (ok248 hK)]
  rw [hn] at c5
  exact ⟨c5,c3,.inr ⟨_,rfl,c4⟩⟩
theorem deepw307 {b:Nat}:∀ r,r ≤ 100 → ∀ (t:Tm),t.Ok → ∀ (st:St),st.heap (b + 1) = .mem 165 [.func (.func 119) [] []] true 0 → st.heap (b + 2) = .mem 147 [.func (.func 307) [] [.ptr (b + 1) 0,.ptr (b + 2) 0]] true 0 → b + 2 < st.next →
  callW Q (.fn 307) [t.av,.int .i64 ((101 - r:Nat):Int),.ptr (b + 1) 0,.ptr (b + 2) 0] .normal st = some (.ret (.int .i64 (t.dv r (101 - r):Int)),st,none):=by
 intro r
 induction r with
 | zero =>
  intro _ t hok st g1 g2 hn
  refine callY (N:=30) (ok307 hK) (hK.nx _ _ _ rfl) rfl rfl ?_
  obtain ⟨kd,n0,nm,k,xs⟩:=t
  have hz:decide (((101:Nat):Int) ≤ 100) = false:=by decide
  simp only [RS,RT,RZ,Zu,rA,rB,rC,rD,rE,rF,reduceCtorEq,Zw,x307,y307,F307,Tm.av,Tm.dv,hz]
 | succ r ih =>
  intro hr t hok st g1 g2 hn
  refine callY (N:=30) (ok307 hK) (hK.nx _ _ _ rfl) rfl rfl ?_
  have ha:=args119 hK hok
  obtain ⟨kd,n0,nm,k,xs⟩:=t
  obtain ⟨_,_,_,_,hl,hoks⟩:=hok
  rw [Tm.av] at ha
  simp only [Tm.k,Tm.xs] at ha
  have e1:(b + 1 = st.next) = False:=eq_false (by omega)
  have e2:(b + 2 = st.next) = False:=eq_false (by omega)
  have l1:b + 1 < st.next + 1:=by omega
  have l2:b + 2 < st.next + 1:=by omega
  have w2:IntKind.i64.wrap (((101 - (r + 1):Nat):Int) + 1) = ((101 - r:Nat):Int):=wrapN (by omega) (by omega)
  have hc2:decide (((101 - (r + 1):Nat):Int) ≤ 100) = true:=decT (by omega)
  have hlv:101 - (r + 1) + 1 = 101 - r:=by omega
  simp only [RS,RT,RZ,Zu,rA,rB,rC,rD,rE,rF,reduceCtorEq,Zw,x307,y307,F307,Tm.av,g1,g2,e1,e2,l1,l2,hc2,ha,fnis hK (ok119 hK),fnis hK (ok307 hK)]
  refine post_bind (post_for (I:=fun i T st1 => T 1 = .int .i64 ((101 - (r + 1):Nat):Int) ∧ T 3 = .ptr (b + 2) 0 ∧ T 7 = .int .i64 (((xs.take i).foldl (fun o x => max o (Tm.dv r (101 - r) x)) (101 - (r + 1)):Nat):Int) ∧ T 15 = .slice k (Tm.avs xs) ∧ T 16 = .int .i64 (xs.length:Int) ∧ T 17 = .int .i64 (i:Int) ∧ Wr (fun _ => False) ⟨st.heap,st.next,[]⟩ st1)
   (Q:=fun e T st1 => Wr (fun _ => False) ⟨st.heap,st.next,[]⟩ st1 ∧ e = .exit 0 ∧ T 7 = .int .i64 ((xs.foldl (fun o x => max o (Tm.dv r (101 - r) x)) (101 - (r + 1)):Nat):Int))
   xs.length ?_ ?_ (Nat.zero_le _) ?_) ?_
  ·rintro i T ⟨h,nx,lg⟩ hi ⟨t1,t3,t7,t15,t16,t17,hw⟩
   obtain ⟨a,hx⟩:∃ a,xs[i]? = some a:=⟨_,List.getElem?_eq_getElem hi⟩
   have ham:=List.mem_of_getElem? hx
   have hget:=Tm.get hx
   have hnx:=hw.next
   have k1:=hw.heap (b + 1) (by simp only; omega) (fun h => h)
   have k2:=hw.heap (b + 2) (by simp only; omega) (fun h => h)
   simp only at hnx k1 k2
   rw [g1] at k1
   rw [g2] at k2
   have hi2:=wrapUp (show i < 9223372036854775807 by unfold Big at hl; omega)
   have hfold:(xs.take (i + 1)).foldl (fun o x => max o (Tm.dv r (101 - r) x)) (101 - (r + 1)) = max ((xs.take i).foldl (fun o x => max o (Tm.dv r (101 - r) x)) (101 - (r + 1))) (a.dv r (101 - r)):=by rw [List.take_add_one,hx]; simp
   have hoka:=Tm.oks hoks a ham
   have e1n:(b + 1 = nx) = False:=eq_false (by omega)
   have e2n:(b + 2 = nx) = False:=eq_false (by omega)
   have l2n:b + 2 < nx + 1:=by omega
   obtain ⟨kd',n',nm',k',xs'⟩:=a
   have c1:=ih (by omega) _ hoka ⟨upd h nx (.mem 39 [.int .i64 kd',.int .i64 n',.str nm',.slice k' (Tm.avs xs')] true 0),nx + 1,nx :: lg⟩ (by simp only; rw [upd_ne _ _ (by omega)]; exact k1) (by simp only; rw [upd_ne _ _ (by omega)]; exact k2) (by simp only; omega)
   rw [Tm.av] at c1 hget
   obtain ⟨z,hz⟩:∃ z,z = (xs.take i).foldl (fun o x => max o (Tm.dv r (101 - r) x)) (101 - (r + 1)):=⟨_,rfl⟩
   rw [← hz] at t7 hfold
   simp only [RS,RT,RZ,Zu,rA,rB,rC,rD,rE,rF,reduceCtorEq,Zw,l307_0,m307_0,t1,t3,t7,t15,t16,t17,hi,hget,c1,hi2,k2,e2n,l2n,w2,fnis hK (ok307 hK),maxI,hfold]
   exact hw.new
  ·rintro T ⟨h,nx,lg⟩ ⟨t1,t3,t7,t15,t16,t17,hw⟩
   rw [List.take_length] at t7
   simp only [RS,RT,RZ,Zu,rA,rB,rC,rD,rE,rF,reduceCtorEq,Zw,l307_0,m307_0,t1,t3,t7,t15,t16,t17]
   exact hw
  ·simp only [RS,RT,RZ,Zu,rA,rB,rC,rD,rE,rF,reduceCtorEq,Zw,Tm.len]
   exact ⟨by simp,Wr.new0 (Wr.refl _)⟩
  ·rintro e T ⟨h,nx,lg⟩ ⟨hw,rfl,t7⟩
   simp only [RS,RT,RZ,Zu,rA,rB,rC,rD,rE,rF,reduceCtorEq,Zw,t7,Tm.dv,Tm.xs,hlv]
   refine fun q hq => ?_
   rcases hw.log q hq with h | h | h
   ·cases h
   ·exact h.elim
   ·exact h
theorem deepest249 {t:Tm} (hok:t.Ok):Ret Q 249 [t.av,.func (.func 119) [] []] (.int .i64 (t.dv 100 1:Int)):=fun st => by
 refine callY (N:=10) (ok249 hK) (hK.nx _ _ _ rfl) rfl rfl ?_
 have c1:=deepw307 hK (b:=st.next) 100 (Nat.le_refl _) t hok ⟨upd (upd (upd st.heap st.next (.mem 39 t.av.cells true 0)) (st.next + 1) (.mem 165 [.func (.func 119) [] []] true 0)) (st.next + 2) (.mem 147 [.func (.func 307) [] [.ptr (st.next + 1) 0,.ptr (st.next + 2) 0]] true 0),st.next + 3,[st.next + 2]⟩
  (by simp only; rw [upd_ne _ _ (by omega),upd_same]) (by simp only; rw [upd_same]) (by simp only; omega)
 have l3:st.next + 2 < st.next + 3:=by omega
 obtain ⟨kd,n0,nm,k,xs⟩:=t
 simp only [RS,RT,RZ,Zu,rA,rB,rC,rD,rE,rF,reduceCtorEq,Zw,Tm.av,AV.cells] at c1
 simp only [RS,RT,RZ,Zu,rA,rB,rC,rD,rE,rF,reduceCtorEq,Zw,x249,F249,Tm.av,c1,l3,fnis hK (ok307 hK)]
theorem meas182 {t:Tm} (hok:t.Ok) (st:St):∃ n d:Nat,callW Q (.fn 182) [t.av,.func (.func 119) [] []] .normal st = some (.ret (.tuple [.int .i64 (n:Int),.int .i64 (d:Int)]),st,none) ∧
  ((t.nd 100 ≤ 4000 ∧ n = t.nd 100 ∧ (100 < d ↔ t.dp 100 = true)) ∨ (4000 < t.nd 100 ∧ n = 4001)):=by
 obtain ⟨s0,hs0⟩:∃ s0:St,s0 = ⟨upd (upd (upd (upd st.heap st.next (.mem 39 t.av.cells true 0)) (st.next + 1) (.mem 165 [.func (.func 119) [] []] true 0)) (st.next + 2) (.mem 3 [.int .i64 0] true 0)) (st.next + 3) (.mem 3 [.int .i64 0] true 0),st.next + 4,[]⟩:=⟨_,rfl⟩
 have hn0:s0.next = st.next + 4:=by rw [hs0]
 obtain ⟨c,st2,c1,c2,c3,c4⟩:=first247 hK (b:=st.next) hok (st:=⟨upd s0.heap s0.next (.mem 30 [.int .i64 0] true 0),s0.next + 1,[]⟩) (by simp only; omega)
  (by rw [hs0]; simp only; rw [upd_ne _ _ (by omega),upd_ne _ _ (by omega),upd_ne _ _ (by omega),upd_ne _ _ (by omega),upd_same])
  (by rw [hs0]; simp only; rw [upd_ne _ _ (by omega),upd_ne _ _ (by omega),upd_ne _ _ (by omega),upd_same])
  (by rw [hs0]; simp only; rw [upd_ne _ _ (by omega),upd_ne _ _ (by omega),upd_same])
  (by rw [hs0]; simp only; rw [upd_ne _ _ (by omega),upd_same])
 have fin:∀ (e:Int),((c = .ret (.tuple []) ∧ e = 0) ∨ c = .pan (flt e)) → ∃ st',callW Q (.fn 120) [.func (.func 247) [] [.ptr (st.next + 2) 0,.ptr (st.next + 3) 0,.ptr (st.next + 1) 0,.ptr st.next 0]] .normal s0 = some (.ret (.int .i64 e),st',none) ∧
   st'.heap (st.next + 2) = st2.heap (st.next + 2) ∧ st'.heap (st.next + 3) = st2.heap (st.next + 3) ∧ st.next + 4 ≤ st'.next ∧ (∀ q ∈ st'.log,st.next ≤ q) ∧ st'.heap st.next = .mem 39 t.av.cells true 0 ∧ st'.heap (st.next + 1) = .mem 165 [.func (.func 119) [] []] true 0:=fun e he => by
  obtain ⟨st',d1,d2,d3,d4⟩:=guarded_w hK (P:=TmwP st.next) (p:=st.next + 2) (fnis hK (ok247 hK)) he (fun q hq => by rcases hq with rfl | rfl <;> omega) c1 c2 c3 (by omega)
  have k1:=d2.next
  have k2:=d2.heap st.next (by omega) (by rintro (e | e) <;> omega)
  have k3:=d2.heap (st.next + 1) (by omega) (by rintro (e | e) <;> omega)
  refine ⟨st',d1,d4 _ (by omega),d4 _ (by omega),by omega,fun q hq => ?_,?_,?_⟩
  ·rcases d2.log q hq with h | (h | h) | h
   ·rw [hs0] at h; cases h
   ·omega
   ·omega
   ·omega
  ·rw [k2,hs0]; simp only; rw [upd_ne _ _ (by omega),upd_ne _ _ (by omega),upd_ne _ _ (by omega),upd_same]
  ·rw [k3,hs0]; simp only; rw [upd_ne _ _ (by omega),upd_ne _ _ (by omega),upd_same]
 have hdeep:=deepest249 hK hok
 rcases c4 with ⟨q1,rfl,q2,d',q3,q4⟩ | ⟨q1,rfl,q2,d',q3⟩
 ·obtain ⟨⟨h',n',lg'⟩,d1,d2,d3,d4,d5,_,_⟩:=fin 0 (.inl ⟨rfl,rfl⟩)
  simp only at d2 d3 d4 d5
  rw [q2] at d2
  rw [q3] at d3
  refine ⟨t.nd 100,d',callY (N:=14) (ok182 hK) (hK.nx _ _ _ rfl) rfl rfl ?_,.inl ⟨by omega,rfl,by simpa using q4⟩⟩
  have l2:st.next + 2 < n':=by omega
  have l3:st.next + 3 < n':=by omega
  rw [Nat.zero_add] at d2
  rw [hs0] at d1
  obtain ⟨kd,n0,nm,k,xs⟩:=t
  simp only [RS,RT,RZ,Zu,rA,rB,rC,rD,rE,rF,reduceCtorEq,Zw,Tm.av,AV.cells] at d1
  simp only [RS,RT,RZ,Zu,rA,rB,rC,rD,rE,rF,reduceCtorEq,Zw,x182,y182,kd182_0,F182,Tm.av,d1,d2,d3,l2,l3,tw3 hK,T3,fnis hK (ok247 hK)]
  exact d5
 ·obtain ⟨⟨h',n',lg'⟩,d1,d2,d3,d4,d5,d6,d7⟩:=fin 2 (.inr rfl)
  simp only at d2 d3 d4 d5 d6 d7
  rw [q2] at d2
  rw [q3] at d3
  refine ⟨4001,t.dv 100 1,callY (N:=14) (ok182 hK) (hK.nx _ _ _ rfl) rfl rfl ?_,.inr ⟨by omega,rfl⟩⟩
  have l0:st.next < n':=by omega
  have l1:st.next + 1 < n':=by omega
  have l2:st.next + 2 < n':=by omega
  have l3:st.next + 3 < n':=by omega
  rw [hs0] at d1
  obtain ⟨kd,n0,nm,k,xs⟩:=t
  simp only [RS,RT,RZ,Zu,rA,rB,rC,rD,rE,rF,reduceCtorEq,Zw,Tm.av,AV.cells] at d1 d6 hdeep
  have h20:((2:Int) != 0) = true:=rfl
  simp only [RS,RT,RZ,Zu,rA,rB,rC,rD,rE,rF,reduceCtorEq,Zw,x182,y182,kd182_0,F182,Tm.av,d1,d2,d3,d6,d7,hdeep,l0,l1,l2,l3,tw3 hK,T3,fnis hK (ok247 hK),fnis hK (ok249 hK),h20]
  exact ⟨rfl,d5⟩
def Tm.sized (t:Tm):Int:=if 4000 < t.nd 100 then 2 else if t.dp 100 then 5 else 0
theorem sized118 {t:Tm} (hok:t.Ok):Ret Q 118 [t.av,.func (.func 119) [] []] (.int .i64 t.sized):=fun st => by
 refine callY (N:=19) (ok118 hK) (hK.nx _ _ _ rfl) rfl rfl ?_
 obtain ⟨n,d,h1,h2⟩:=meas182 hK hok ⟨upd st.heap st.next (.mem 39 t.av.cells true 0),st.next + 1,[]⟩
 have hsz:t.sized = if decide ((n:Int) > 4000) then 2 else if decide ((d:Int) > 100) then 5 else 0:=by
  unfold Tm.sized
  rcases h2 with ⟨a1,a2,a3⟩ | ⟨a1,a2⟩
  ·rw [if_neg (by omega),decF (by omega)]
   simp only [Bool.false_eq_true,if_false]
   cases hb:t.dp 100 with
   | true => rw [if_pos rfl,decT (by have:=a3.2 hb; omega),if_pos rfl]
   | false => rw [if_neg (by decide),decF (by
     intro h
     have:=a3.1 (by omega)
     rw [hb] at this; cases this),if_neg (by decide)]
  ·rw [if_pos a1,decT (by omega),if_pos rfl]
 rw [hsz]
 obtain ⟨kd,n0,nm,k,xs⟩:=t
 simp only [RS,RT,RZ,Zu,rA,rB,rC,rD,rE,rF,reduceCtorEq,Zw,Tm.av,AV.cells] at h1
 cases e1:decide ((n:Int) > 4000) with
 | true => simp only [RS,RT,RZ,Zu,rA,rB,rC,rD,rE,rF,reduceCtorEq,Zw,x118,F118,Tm.av,h1,e1,if_true,if_false]
 | false =>
  cases e2:decide ((d:Int) > 100) with
  | true => simp only [RS,RT,RZ,Zu,rA,rB,rC,rD,rE,rF,reduceCtorEq,Zw,x118,F118,Tm.av,h1,e1,e2,if_true,if_false]
  | false => simp only [RS,RT,RZ,Zu,rA,rB,rC,rD,rE,rF,reduceCtorEq,Zw,x118,F118,Tm.av,h1,e1,e2,if_true,if_false]
end
end Go.Proofs.L06

namespace Go.Proofs.L06
open Go Go.AE
open Nat renaming reduceLT → rA,reduceLeDiff → rB,reduceEqDiff → rC,reduceMul → rD,reduceAdd → rE,reduceSub → rF
set_option maxHeartbeats 8000000
def nodeT (kd n:Int) (nm:List Nat) (len:Nat):Bool :=
 if kd = 1 then (n == 0) && (chk1 1 nm && decide ((len:Int) ≤ 8))
 else if kd = 2 ∨ kd = 3 ∨ kd = 4 then decide (0 ≤ n) && (decide (n ≤ 100000) && ((nm == []) && decide ((len:Int) ≤ 8)))
 else (kd == 5) && ((n == 0) && ((nm == []) && ((len:Int) == 1)))
mutual
def Tm.shp:Tm → Bool | .mk kd n nm _ xs => nodeT kd n nm xs.length && Tm.shps xs
def Tm.shps:List Tm → Bool | [] => true | t :: r => t.shp && Tm.shps r
end
theorem Tm.shps_all:∀ l:List Tm,Tm.shps l = l.all Tm.shp | [] => rfl | t :: r => by rw [Tm.shps,List.all_cons,Tm.shps_all r]
theorem pure_end {Q:Ctx} {f:FuncId} {nt:Nat} {b:Code} {x:XC} {N:Nat} {args:List AV} {st:St} {r:CR} (ok:FnOk Q f ⟨nt,[],b⟩ x false) (hX:Q.X f args st = none) (hN:max nt args.length = N)
  (h:Post N [] none (execY (callW Q) Q false f none x ⟨argTmps args,N,[],none⟩ ⟨st.heap,st.next,[]⟩) fun e T st1 => (∀ q ∈ st1.log,st.next ≤ q) ∧
   ((endOf e = some none ∧ r = .ret (.tuple [])) ∨ ∃ v,e = .pan v ∧ r = .pan v ∧ CleanV v)):callW Q (.fn f) args .normal st = some (r,st,none):=by
 obtain ⟨e,T,st1,h1,hl,⟨he,rfl⟩ | ⟨v,rfl,rfl,hv⟩⟩:=h
 ·rw [callYr ok hX hN ⟨_,h1,finish_ret (v0:=.tuple []) (v:=.tuple []) (st3:=st1) he rfl (frz_noRow rfl fun _ => rfl)⟩]
  rw [show leaveSt st ((.tuple []:AV) :: (none:Option AV).toList) st1 = st from leave_log hl (belowL_one rfl)]
 ·rw [callYr ok hX hN ⟨_,h1,finish_pan⟩]
  rw [show leaveSt st (v :: (none:Option AV).toList) st1 = st from leave_log hl (belowL_one (hv.below _))]
section
variable {Q:Ctx} (hK:K Q)
include hK
theorem node_c {kd n:Int} {nm:List Nat} {k:SK} {xs:List Tm} (hs:BStr nm):Ret Q 124 [.agg [.int .i64 kd,.int .i64 n,.str nm,.slice k (Tm.avs xs)]] (.bool (nodeT kd n nm xs.length)):=fun st => by
 refine callY (N:=63) (ok124 hK) (hK.nx _ _ _ rfl) rfl rfl ?_
 have hc:=tisName_c hK hs
 by_cases h1:kd = 1
 ·subst h1
  rw [show nodeT 1 n nm xs.length = ((n == 0) && (chk1 1 nm && decide ((xs.length:Int) ≤ 8))) from rfl]
  cases e2:(n == (0:Int)) with
  | false => simp only [RS,RT,RZ,Zu,rA,rB,rC,rD,rE,rF,reduceCtorEq,Zw,x124,F124,Tm.av,Tm.len,Int.reduceBEq,hc,e2,Bool.false_and,Bool.true_and,Bool.and_false,Bool.and_true]
  | true =>
   cases e3:chk1 1 nm with
   | false => simp only [RS,RT,RZ,Zu,rA,rB,rC,rD,rE,rF,reduceCtorEq,Zw,x124,F124,Tm.av,Tm.len,Int.reduceBEq,hc,e2,e3,Bool.false_and,Bool.true_and,Bool.and_false,Bool.and_true]
   | true =>
    cases e4:decide ((xs.length:Int) ≤ 8) with
    | false => simp only [RS,RT,RZ,Zu,rA,rB,rC,rD,rE,rF,reduceCtorEq,Zw,x124,F124,Tm.av,Tm.len,Int.reduceBEq,hc,e2,e3,e4,Bool.false_and,Bool.true_and,Bool.and_false,Bool.and_true]
    | true =>
     simp only [RS,RT,RZ,Zu,rA,rB,rC,rD,rE,rF,reduceCtorEq,Zw,x124,F124,Tm.av,Tm.len,Int.reduceBEq,hc,e2,e3,e4,Bool.false_and,Bool.true_and,Bool.and_false,Bool.and_true]
 by_cases h2:kd = 2 ∨ kd = 3 ∨ kd = 4
 ·rw [show nodeT kd n nm xs.length = (decide (0 ≤ n) && (decide (n ≤ 100000) && ((nm == []) && decide ((xs.length:Int) ≤ 8)))) by unfold nodeT; rw [if_neg h1,if_pos h2]]
  rcases h2 with rfl | rfl | rfl
  ·cases e2:decide ((0:Int) ≤ n) with
   | false => simp only [RS,RT,RZ,Zu,rA,rB,rC,rD,rE,rF,reduceCtorEq,Zw,x124,F124,Tm.av,Tm.len,Int.reduceBEq,hc,e2,Bool.false_and,Bool.true_and,Bool.and_false,Bool.and_true]
   | true =>
    cases e3:decide (n ≤ (100000:Int)) with
    | false => simp only [RS,RT,RZ,Zu,rA,rB,rC,rD,rE,rF,reduceCtorEq,Zw,x124,F124,Tm.av,Tm.len,Int.reduceBEq,hc,e2,e3,Bool.false_and,Bool.true_and,Bool.and_false,Bool.and_true]
    | true =>
     cases e4:(nm == ([]:List Nat)) with
     | false => simp only [RS,RT,RZ,Zu,rA,rB,rC,rD,rE,rF,reduceCtorEq,Zw,x124,F124,Tm.av,Tm.len,Int.reduceBEq,hc,e2,e3,e4,Bool.false_and,Bool.true_and,Bool.and_false,Bool.and_true]
     | true =>
      cases e5:decide ((xs.length:Int) ≤ 8) with
      | false => simp only [RS,RT,RZ,Zu,rA,rB,rC,rD,rE,rF,reduceCtorEq,Zw,x124,F124,Tm.av,Tm.len,Int.reduceBEq,hc,e2,e3,e4,e5,Bool.false_and,Bool.true_and,Bool.and_false,Bool.and_true]
      | true =>
       simp only [RS,RT,RZ,Zu,rA,rB,rC,rD,rE,rF,reduceCtorEq,Zw,x124,F124,Tm.av,Tm.len,Int.reduceBEq,hc,e2,e3,e4,e5,Bool.false_and,Bool.true_and,Bool.and_false,Bool.and_true]
  ·cases e2:decide ((0:Int) ≤ n) with
   | false => simp only [RS,RT,RZ,Zu,rA,rB,rC,rD,rE,rF,reduceCtorEq,Zw,x124,F124,Tm.av,Tm.len,Int.reduceBEq,hc,e2,Bool.false_and,Bool.true_and,Bool.and_false,Bool.and_true]
   | true =>
    cases e3:decide (n ≤ (100000:Int)) with
    | false => simp only [RS,RT,RZ,Zu,rA,rB,rC,rD,rE,rF,reduceCtorEq,Zw,x124,F124,Tm.av,Tm.len,Int.reduceBEq,hc,e2,e3,Bool.false_and,Bool.true_and,Bool.and_false,Bool.and_true]
    | true =>
     cases e4:(nm == ([]:List Nat)) with
     | false => simp only [RS,RT,RZ,Zu,rA,rB,rC,rD,rE,rF,reduceCtorEq,Zw,x124,F124,Tm.av,Tm.len,Int.reduceBEq,hc,e2,e3,e4,Bool.false_and,Bool.true_and,Bool.and_false,Bool.and_true]
     | true =>
      cases e5:decide ((xs.length:Int) ≤ 8) with
      | false => simp only [RS,RT,RZ,Zu,rA,rB,rC,rD,rE,rF,reduceCtorEq,Zw,x124,F124,Tm.av,Tm.len,Int.reduceBEq,hc,e2,e3,e4,e5,Bool.false_and,Bool.true_and,Bool.and_false,Bool.and_true]
      | true =>
       simp only [RS,RT,RZ,Zu,rA,rB,rC,rD,rE,rF,reduceCtorEq,Zw,x124,F124,Tm.av,Tm.len,Int.reduceBEq,hc,e2,e3,e4,e5,Bool.false_and,Bool.true_and,Bool.and_false,Bool.and_true]
  ·cases e2:decide ((0:Int) ≤ n) with
   | false => simp only [RS,RT,RZ,Zu,rA,rB,rC,rD,rE,rF,reduceCtorEq,Zw,x124,F124,Tm.av,Tm.len,Int.reduceBEq,hc,e2,Bool.false_and,Bool.true_and,Bool.and_false,Bool.and_true]
   | true =>
    cases e3:decide (n ≤ (100000:Int)) with
    | false => simp only [RS,RT,RZ,Zu,rA,rB,rC,rD,rE,rF,reduceCtorEq,Zw,x124,F124,Tm.av,Tm.len,Int.reduceBEq,hc,e2,e3,Bool.false_and,Bool.true_and,Bool.and_false,Bool.and_true]
    | true =>
     cases e4:(nm == ([]:List Nat)) with
     | false => simp only [RS,RT,RZ,Zu,rA,rB,rC,rD,rE,rF,reduceCtorEq,Zw,x124,F124,Tm.av,Tm.len,Int.reduceBEq,hc,e2,e3,e4,Bool.false_and,Bool.true_and,Bool.and_false,Bool.and_true]
     | true =>
      cases e5:decide ((xs.length:Int) ≤ 8) with
      | false => simp only [RS,RT,RZ,Zu,rA,rB,rC,rD,rE,rF,reduceCtorEq,Zw,x124,F124,Tm.av,Tm.len,Int.reduceBEq,hc,e2,e3,e4,e5,Bool.false_and,Bool.true_and,Bool.and_false,Bool.and_true]
      | true =>
       simp only [RS,RT,RZ,Zu,rA,rB,rC,rD,rE,rF,reduceCtorEq,Zw,x124,F124,Tm.av,Tm.len,Int.reduceBEq,hc,e2,e3,e4,e5,Bool.false_and,Bool.true_and,Bool.and_false,Bool.and_true]
 rw [show nodeT kd n nm xs.length = ((kd == 5) && ((n == 0) && ((nm == []) && ((xs.length:Int) == 1)))) by unfold nodeT; rw [if_neg h1,if_neg h2]]
 have f1:(kd == (1:Int)) = false:=by rw [beq_eq_false_iff_ne]; omega
 have f2:(kd == (2:Int)) = false:=by rw [beq_eq_false_iff_ne]; omega
 have f3:(kd == (3:Int)) = false:=by rw [beq_eq_false_iff_ne]; omega
 have f4:(kd == (4:Int)) = false:=by rw [beq_eq_false_iff_ne]; omega
 cases e1:(kd == (5:Int)) with
 | false => simp only [RS,RT,RZ,Zu,rA,rB,rC,rD,rE,rF,reduceCtorEq,Zw,x124,F124,Tm.av,Tm.len,Int.reduceBEq,hc,f1,f2,f3,f4,e1,Bool.false_and,Bool.true_and,Bool.and_false,Bool.and_true]
 | true =>
  cases e2:(n == (0:Int)) with
  | false => simp only [RS,RT,RZ,Zu,rA,rB,rC,rD,rE,rF,reduceCtorEq,Zw,x124,F124,Tm.av,Tm.len,Int.reduceBEq,hc,f1,f2,f3,f4,e1,e2,Bool.false_and,Bool.true_and,Bool.and_false,Bool.and_true]
  | true =>
   cases e3:(nm == ([]:List Nat)) with
   | false => simp only [RS,RT,RZ,Zu,rA,rB,rC,rD,rE,rF,reduceCtorEq,Zw,x124,F124,Tm.av,Tm.len,Int.reduceBEq,hc,f1,f2,f3,f4,e1,e2,e3,Bool.false_and,Bool.true_and,Bool.and_false,Bool.and_true]
   | true =>
    cases e4:((xs.length:Int) == (1:Int)) with
    | false => simp only [RS,RT,RZ,Zu,rA,rB,rC,rD,rE,rF,reduceCtorEq,Zw,x124,F124,Tm.av,Tm.len,Int.reduceBEq,hc,f1,f2,f3,f4,e1,e2,e3,e4,Bool.false_and,Bool.true_and,Bool.and_false,Bool.and_true]
    | true =>
     simp only [RS,RT,RZ,Zu,rA,rB,rC,rD,rE,rF,reduceCtorEq,Zw,x124,F124,Tm.av,Tm.len,Int.reduceBEq,hc,f1,f2,f3,f4,e1,e2,e3,e4,Bool.false_and,Bool.true_and,Bool.and_false,Bool.and_true]
theorem rawWalk {b:Nat} (t:Tm):t.Ok → ∀ {st:St},st.heap b = .mem 148 [.func (.func 122) [] [.ptr b 0]] true 0 → b < st.next → callW Q (.fn 122) [t.av,.ptr b 0] .normal st = some (if t.shp then .ret (.tuple []) else .pan (flt 6),st,none):=by
 induction t using Tm.ind with
 | _ kd n nm k xs ih =>
 intro hok st g hb
 refine pure_end (N:=19) (ok122 hK) (hK.nx _ _ _ rfl) rfl ?_
 obtain ⟨_,_,hs,_,hl,hoks⟩:=hok
 have hn:=node_c hK (kd:=kd) (n:=n) (k:=k) (xs:=xs) hs
 have e1:(b = st.next) = False:=eq_false (by omega)
 have l1:b < st.next + 1:=by omega
 cases e:nodeT kd n nm xs.length with
 | false =>
  have hm:=fun {st:St} => must_f hK (e:=6) (st:=st)
  rw [e] at hn
  rw [Tm.av,Tm.shp,e,Bool.false_and]
  simp only [RS,RT,RZ,Zu,rA,rB,rC,rD,rE,rF,reduceCtorEq,Zw,x122,y122,hn,hm]
  exact ⟨by simp,.inr ⟨_,rfl,rfl,rfl⟩⟩
 | true =>
  have hm:=must_t hK (e:=6)
  rw [e] at hn
  rw [Tm.av,Tm.shp,e,Bool.true_and]
  simp only [RS,RT,RZ,Zu,rA,rB,rC,rD,rE,rF,reduceCtorEq,Zw,x122,y122,hn,hm]
  refine post_bind (post_for (I:=fun i T st1 => T 1 = .ptr b 0 ∧ T 9 = .slice k (Tm.avs xs) ∧ T 10 = .int .i64 (xs.length:Int) ∧ T 11 = .int .i64 (i:Int) ∧ Wr (fun _ => False) ⟨st.heap,st.next,[]⟩ st1 ∧ Tm.shps (xs.drop i) = Tm.shps xs)
   (Q:=fun e T st1 => Wr (fun _ => False) ⟨st.heap,st.next,[]⟩ st1 ∧ ((e = .exit 0 ∧ Tm.shps xs = true) ∨ (e = .pan (flt 6) ∧ Tm.shps xs = false)))
   xs.length ?_ ?_ (Nat.zero_le _) ?_) ?_
  ·rintro i T ⟨h,nx,lg⟩ hi ⟨t1,t9,t10,t11,hw,hsh⟩
   obtain ⟨a,ha⟩:∃ a,xs[i]? = some a:=⟨_,List.getElem?_eq_getElem hi⟩
   have ham:=List.mem_of_getElem? ha
   have hget:=Tm.get ha
   rw [drop_cons ha,Tm.shps] at hsh
   have hnx:=hw.next
   have k1:=hw.heap b (by simp only; omega) (fun h => h)
   simp only at hnx k1
   rw [g] at k1
   have hi2:=wrapUp (show i < 9223372036854775807 by unfold Big at hl; omega)
   have e2:(b = nx) = False:=eq_false (by omega)
   have l2:b < nx + 1:=by omega
   have hc:=ih a ham (Tm.oks hoks a ham) (st:=⟨upd h nx (.mem 39 a.av.cells true 0),nx + 1,nx :: lg⟩) (by simp only; rw [upd_ne _ _ (by omega)]; exact k1) (by simp only; omega)
   obtain ⟨kd',n',nm',k',xs'⟩:=a
   rw [Tm.av] at hget
   cases hb:(Tm.mk kd' n' nm' k' xs').shp with
   | true =>
    rw [hb,if_pos rfl] at hc
    rw [hb,Bool.true_and] at hsh
    simp only [RS,RT,RZ,Zu,rA,rB,rC,rD,rE,rF,reduceCtorEq,Zw,Tm.av,AV.cells] at hc
    simp only [RS,RT,RZ,Zu,rA,rB,rC,rD,rE,rF,reduceCtorEq,Zw,l122_0,m122_0,t1,t9,t10,t11,hi,hget,hc,hi2,k1,e2,l2,fnis hK (ok122 hK)]
    exact ⟨hw.new,hsh⟩
   | false =>
    rw [hb,if_neg (by decide)] at hc
    rw [hb,Bool.false_and] at hsh
    simp only [RS,RT,RZ,Zu,rA,rB,rC,rD,rE,rF,reduceCtorEq,Zw,Tm.av,AV.cells] at hc
    simp only [RS,RT,RZ,Zu,rA,rB,rC,rD,rE,rF,reduceCtorEq,Zw,l122_0,m122_0,t1,t9,t10,t11,hi,hget,hc,hi2,k1,e2,l2,fnis hK (ok122 hK)]
    exact ⟨hw.new,hsh.symm⟩
  ·rintro T ⟨h,nx,lg⟩ ⟨t1,t9,t10,t11,hw,hsh⟩
   rw [List.drop_length,Tm.shps] at hsh
   simp only [RS,RT,RZ,Zu,rA,rB,rC,rD,rE,rF,reduceCtorEq,Zw,l122_0,m122_0,t1,t9,t10,t11]
   exact ⟨hw,hsh.symm⟩
  ·simp only [RS,RT,RZ,Zu,rA,rB,rC,rD,rE,rF,reduceCtorEq,Zw,Tm.len]
   exact Wr.new0 (Wr.refl _)
  ·rintro e T ⟨h,nx,lg⟩ ⟨hw,hh⟩
   have hl:∀ q ∈ lg,st.next ≤ q:=fun q hq => by
    rcases hw.log q hq with h | h | h
    ·cases h
    ·exact h.elim
    ·exact h
   rcases hh with ⟨rfl,hh⟩ | ⟨rfl,hh⟩
   ·rw [hh,if_pos rfl]
    simp only [RS,RT,RZ,Zu,rA,rB,rC,rD,rE,rF,reduceCtorEq,Zw,]
    exact ⟨hl,.inl trivial⟩
   ·rw [hh,if_neg (by decide)]
    simp only [RS,RT,RZ,Zu,rA,rB,rC,rD,rE,rF,reduceCtorEq,Zw,]
    exact ⟨hl,.inr ⟨_,rfl,rfl,rfl⟩⟩
theorem raw121 {b:Nat} {t:Tm} (hok:t.Ok) {st:St} (g:st.heap b = .mem 39 t.av.cells true 0) (hb:b < st.next):callW Q (.fn 121) [.ptr b 0] .normal st = some (if t.shp then .ret (.tuple []) else .pan (flt 6),st,none):=by
 refine pure_end (N:=6) (ok121 hK) (hK.nx _ _ _ rfl) rfl ?_
 have hc:=rawWalk hK t hok (b:=st.next) (st:=⟨upd st.heap st.next (.mem 148 [.func (.func 122) [] [.ptr st.next 0]] true 0),st.next + 1,[st.next]⟩) (by simp only; rw [upd_same]) (by simp only; omega)
 have e1:(b = st.next) = False:=eq_false (by omega)
 have l1:b < st.next + 1:=by omega
 obtain ⟨kd,n,nm,k,xs⟩:=t
 cases e:(Tm.mk kd n nm k xs).shp with
 | true =>
  rw [e,if_pos rfl] at hc
  rw [if_pos rfl]
  simp only [RS,RT,RZ,Zu,rA,rB,rC,rD,rE,rF,reduceCtorEq,Zw,Tm.av,AV.cells] at hc g
  simp only [RS,RT,RZ,Zu,rA,rB,rC,rD,rE,rF,reduceCtorEq,Zw,x121,hc,g,e1,l1,fnis hK (ok122 hK)]
  exact ⟨by simp,.inl trivial⟩
 | false =>
  rw [e,if_neg (by decide)] at hc
  rw [if_neg (by decide)]
  simp only [RS,RT,RZ,Zu,rA,rB,rC,rD,rE,rF,reduceCtorEq,Zw,Tm.av,AV.cells] at hc g
  simp only [RS,RT,RZ,Zu,rA,rB,rC,rD,rE,rF,reduceCtorEq,Zw,x121,hc,g,e1,l1,fnis hK (ok122 hK)]
  exact ⟨by simp,.inr ⟨_,rfl,rfl,rfl⟩⟩
def rawTm (t:Tm):Int:=if t.sized = 0 then (if t.shp then 0 else 6) else t.sized
theorem rawTm_c {t:Tm} (hok:t.Ok):Ret Q 56 [t.av] (.int .i64 (rawTm t)):=fun st => by
 refine callY (N:=11) (ok56 hK) (hK.nx _ _ _ rfl) rfl rfl ?_
 have h1:=sized118 hK hok
 have e1:st.next < st.next + 1:=by omega
 obtain ⟨s0,hs0⟩:∃ s0:St,s0 = ⟨upd st.heap st.next (.mem 39 t.av.cells true 0),st.next + 1,[]⟩:=⟨_,rfl⟩
 have h2:=raw121 hK (b:=st.next) hok (st:=⟨upd s0.heap s0.next (.mem 30 [.int .i64 0] true 0),s0.next + 1,[]⟩) (by rw [hs0]; simp only; rw [upd_ne _ _ (by omega),upd_same]) (by rw [hs0]; simp only; omega)
 have h3:callW Q (.fn 120) [.func (.func 121) [] [.ptr st.next 0]] .normal s0 = some (.ret (.int .i64 (if t.shp then 0 else 6)),s0,none):=by
  refine guarded_0 hK (fnis hK (ok121 hK)) ?_ h2 (Wr.refl _)
  cases t.shp with
  | true => exact .inl ⟨rfl,rfl⟩
  | false => exact .inr rfl
 rw [hs0] at h3
 unfold rawTm
 generalize t.shp = bs at *
 generalize t.sized = sz at *
 obtain ⟨kd,n,nm,k,xs⟩:=t
 simp only [RS,RT,RZ,Zu,rA,rB,rC,rD,rE,rF,reduceCtorEq,Zw,Tm.av,AV.cells] at h1 h3
 by_cases e:sz = 0
 ·subst e
  rw [if_pos rfl]
  simp only [RS,RT,RZ,Zu,rA,rB,rC,rD,rE,rF,reduceCtorEq,Zw,x56,F56,Tm.av,h1,h3,fnis hK (ok121 hK)]
 ·have e':(sz != 0) = true:=by rw [bne_iff_ne]; exact e
  rw [if_neg e]
  simp only [RS,RT,RZ,Zu,rA,rB,rC,rD,rE,rF,reduceCtorEq,Zw,x56,F56,Tm.av,h1,e']
end
end Go.Proofs.L06
