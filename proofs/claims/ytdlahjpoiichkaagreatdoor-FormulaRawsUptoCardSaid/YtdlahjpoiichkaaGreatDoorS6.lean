/- Raw, Same, Compare: at every formula. -/
import Derived.Test.YtdlahjpoiichkaaGreatDoorS5
set_option linter.unusedVariables false
set_option linter.unusedSimpArgs false
set_option linter.unusedSectionVars false
namespace Go.Proofs.L06
open Go Go.AE
open Nat renaming reduceLT → rA,reduceLeDiff → rB,reduceEqDiff → rC,reduceMul → rD,reduceAdd → rE,reduceSub → rF
set_option maxHeartbeats 8000000
def arrow:List Nat:=[45,62]
def tyN (nm:List Nat) (len:Nat):Bool:=((nm == arrow) == ((len:Int) == 2)) && ((nm == arrow) || ((len:Int) == 0))
mutual
def Ty.shp:Ty → Bool | .mk nm _ xs => tyN nm xs.length && Ty.shps xs
def Ty.shps:List Ty → Bool | [] => true | t :: r => t.shp && Ty.shps r
end
mutual
def Ty.bs:Ty → Bool | .mk nm _ xs => !(nm == arrow) || Ty.bss xs
def Ty.bss:List Ty → Bool | [] => false | t :: r => t.bs || Ty.bss r
end
def Zp:List AV:=[.slice .nil [],.slice .nil [],.slice .nil [],.slice .nil [],.slice .nil []]
section
variable {Q:Ctx} {f:FuncId} {nt:Nat} {b:Code} {x:XC} {N:Nat} {args:List AV} {st:St} {p:Nat}
theorem leave_may {st0 st1:St} {vs:List AV} (h:Wr (at1 p) ⟨st0.heap,st0.next,[]⟩ st1) (hp:p ∈ st1.log ∨ st1.heap p = st0.heap p) (hl:p < st0.next) :
  Wr (at1 p) st0 (leaveSt st0 vs st1) ∧ (p ∈ (leaveSt st0 vs st1).log ∨ (leaveSt st0 vs st1).heap p = st0.heap p) ∧ (leaveSt st0 vs st1).heap p = st1.heap p:=by
 rcases hp with hp | hp
 ·obtain ⟨a1,a2,a3⟩:=leave_hit (vs:=vs) h hp hl
  exact ⟨a2,.inl a3,by rw [a1]⟩
 ·rcases leave_cases (st0:=st0) (st1:=st1) (vs:=vs) with ⟨c1,c2⟩ | c1
  ·rw [c1]
   exact ⟨Wr.refl _,.inr rfl,hp.symm⟩
  ·rw [c1]
   refine ⟨⟨h.heap,h.next,fun l hl => ?_,fun l hl => by simp [hl]⟩,.inr hp,rfl⟩
   simp only [List.mem_append,List.mem_filter] at hl
   rcases hl with ⟨hl,_⟩ | hl
   ·rcases h.log l hl with e | e
    ·cases e
    ·exact .inr e
   ·exact .inl hl
theorem proc_may {R:CR → AO → Prop} (ok:FnOk Q f ⟨nt,[],b⟩ x false) (hX:Q.X f args st = none) (hN:max nt args.length = N) (hp:p < st.next)
  (h:Post N [] none (execY (callW Q) Q false f none x ⟨argTmps args,N,[],none⟩ ⟨st.heap,st.next,[]⟩) fun e T st1 => Wr (at1 p) ⟨st.heap,st.next,[]⟩ st1 ∧ (p ∈ st1.log ∨ st1.heap p = st.heap p) ∧
   ((endOf e = some none ∧ R (.ret (.tuple [])) (st1.heap p)) ∨ ∃ v,e = .pan v ∧ R (.pan v) (st1.heap p))) :
  ∃ r st',callW Q (.fn f) args .normal st = some (r,st',none) ∧ Wr (at1 p) st st' ∧ (p ∈ st'.log ∨ st'.heap p = st.heap p) ∧ R r (st'.heap p):=by
 obtain ⟨e,T,st1,h1,hw,hl,⟨he,hr⟩ | ⟨v,rfl,hr⟩⟩:=h
 ·obtain ⟨a1,a2,a3⟩:=leave_may (vs:=[.tuple []]) hw hl hp
  refine ⟨_,_,callYr ok hX hN ⟨_,h1,finish_ret (v0:=.tuple []) (v:=.tuple []) (st3:=st1) he rfl (frz_noRow rfl fun _ => rfl)⟩,a1,a2,?_⟩
  rw [show (leaveSt st (.tuple [] :: (none:Option AV).toList) st1).heap p = st1.heap p from a3]
  exact hr
 ·obtain ⟨a1,a2,a3⟩:=leave_may (vs:=[v]) hw hl hp
  refine ⟨_,_,callYr ok hX hN ⟨_,h1,finish_pan⟩,a1,a2,?_⟩
  rw [show (leaveSt st (v :: (none:Option AV).toList) st1).heap p = st1.heap p from a3]
  exact hr
end
theorem may_trans {p:Nat} {a b c:St} (hw:Wr (at1 p) b c) (h:p ∈ b.log ∨ b.heap p = a.heap p) (k:p ∈ c.log ∨ c.heap p = b.heap p):p ∈ c.log ∨ c.heap p = a.heap p:=by
 rcases k with k | k
 ·exact .inl k
 ·rcases h with h | h
  ·exact .inl (hw.keep p h)
  ·exact .inr (k.trans h)
def TyWk (t:Ty) (z:Int) (c:CR) (o:AO):Prop :=
 (t.shp = true ∧ c = .ret (.tuple []) ∧ o = .mem 30 [.int .i64 (if t.bs then 40 else z)] true 0) ∨ (t.shp = false ∧ c = .pan (flt 6) ∧ ∃ z':Int,o = .mem 30 [.int .i64 z'] true 0)
theorem btf:((true == false):Bool) = false:=rfl
theorem bft:((false == true):Bool) = false:=rfl
theorem btt:((true == true):Bool) = true:=rfl
theorem bff:((false == false):Bool) = true:=rfl
theorem binA_bb {C:Ctx} {xo yo:Operand} {a b:Bool} (h:C.ty 4 = some T4):binA C .eql 4 xo yo (.bool a) (.bool b) = some (.bool (a == b)):=by
 simp only [binA,eqV,h,T4,boolA]
 cases a <;> cases b <;> rfl
section
variable {Q:Ctx} (hK:K Q)
include hK
theorem contains0 {s:List Nat}:Ret Q 196 [.slice .nil [],.str s] (.bool false):=contains_c (l:=[]) (s:=s) hK (by decide)
theorem walk195 {a p b:Nat} (hab:a ≠ p) (hbp:b ≠ p) (t:Ty):t.Ok → ∀ {st:St} {z:Int},st.heap a = .mem 61 Zp true 0 → st.heap p = .mem 30 [.int .i64 z] true 0 → st.heap b = .mem 152 [.func (.func 195) [] [.ptr a 0,.ptr p 0,.ptr b 0]] true 0 →
  a < st.next → p < st.next → b < st.next → ∃ c st',callW Q (.fn 195) [t.av,.ptr a 0,.ptr p 0,.ptr b 0] .normal st = some (c,st',none) ∧ Wr (at1 p) st st' ∧ (p ∈ st'.log ∨ st'.heap p = st.heap p) ∧ TyWk t z c (st'.heap p):=by
 induction t using Ty.ind with
 | _ nm k xs ih =>
 intro hok st z ga gp gb la lp lb
 obtain ⟨_,_,hl,hoks⟩:=hok
 refine proc_may (N:=49) (ok195 hK) (hK.nx _ _ _ rfl) rfl lp ?_
 have c0:=contains0 hK (s:=nm)
 have hbb:=fun {xo yo:Operand} {a b:Bool} => binA_bb (xo:=xo) (yo:=yo) (a:=a) (b:=b) (tw4 hK)
 have ea:(a = st.next) = False:=eq_false (by omega)
 have ep:(p = st.next) = False:=eq_false (by omega)
 have ep':(st.next = p) = False:=eq_false (by omega)
 have eb:(b = st.next) = False:=eq_false (by omega)
 have eap:(a = p) = False:=eq_false hab
 have ebp:(b = p) = False:=eq_false hbp
 have la1:a < st.next + 1:=by omega
 have lp1:p < st.next + 1:=by omega
 have lb1:b < st.next + 1:=by omega
 cases e:tyN nm xs.length with
 | false =>
  have hm:=fun {st:St} => must_f hK (e:=6) (st:=st)
  have e':(((nm == arrow) == ((xs.length:Int) == 2)) && ((nm == arrow) || ((xs.length:Int) == 0))) = false:=e
  have fin:TyWk (.mk nm k xs) z (.pan (flt 6)) (.mem 30 [.int .i64 z] true 0):=.inr ⟨by rw [Ty.shp,e,Bool.false_and],rfl,z,rfl⟩
  unfold arrow at e'
  cases e1:nm == [45,62] with
  | true =>
   cases e2:(xs.length:Int) == 2 with
   | true => rw [e1,e2] at e'; cases e'
   | false =>
    simp only [RS,RT,RZ,Zu,rA,rB,rC,rD,rE,rF,reduceCtorEq,Zw,x195,y195,Ty.av,Ty.len,e1,e2,hm,hbb,btf,bft,btt,bff,ea,ep,eb,la1,lp1,lb1,if_false,if_true]
    exact ⟨Wr.new0 (Wr.refl _),.inr trivial,.inr ⟨_,rfl,by rw [gp]; exact fin⟩⟩
  | false =>
   cases e2:(xs.length:Int) == 2 with
   | true =>
    simp only [RS,RT,RZ,Zu,rA,rB,rC,rD,rE,rF,reduceCtorEq,Zw,x195,y195,Ty.av,Ty.len,e1,e2,hm,hbb,btf,bft,btt,bff,ea,ep,eb,la1,lp1,lb1,if_false,if_true]
    exact ⟨Wr.new0 (Wr.refl _),.inr trivial,.inr ⟨_,rfl,by rw [gp]; exact fin⟩⟩
   | false =>
    cases e3:(xs.length:Int) == 0 with
    | true => rw [e1,e2,e3] at e'; cases e'
    | false =>
     simp only [RS,RT,RZ,Zu,rA,rB,rC,rD,rE,rF,reduceCtorEq,Zw,x195,y195,Ty.av,Ty.len,e1,e2,e3,hm,hbb,btf,bft,btt,bff,ea,ep,eb,la1,lp1,lb1,if_false,if_true]
     exact ⟨Wr.new0 (Wr.refl _),.inr trivial,.inr ⟨_,rfl,by rw [gp]; exact fin⟩⟩
 | true =>
  have hm:=must_t hK (e:=6)
  have e':(((nm == arrow) == ((xs.length:Int) == 2)) && ((nm == arrow) || ((xs.length:Int) == 0))) = true:=e
  have sh:(Ty.mk nm k xs).shp = Ty.shps xs:=by rw [Ty.shp,e,Bool.true_and]
  have bsE:(Ty.mk nm k xs).bs = (!(nm == arrow) || Ty.bss xs):=by rw [Ty.bs]
  unfold arrow at e' bsE
  obtain ⟨z1,hz1⟩:∃ z1:Int,z1 = if nm == [45,62] then z else 40:=⟨_,rfl⟩
  have key:∀ s1:St,Wr (at1 p) ⟨st.heap,st.next,[]⟩ s1 → (p ∈ s1.log ∨ s1.heap p = st.heap p) → s1.heap p = .mem 30 [.int .i64 z1] true 0 → ∀ T0:Nat → AV,T0 3 = .ptr b 0 → T0 1 = .ptr a 0 → T0 2 = .ptr p 0 → T0 39 = .slice k (Ty.avs xs) → T0 40 = .int .i64 (xs.length:Int) → T0 41 = .int .i64 0 →
    Post 49 [] none (execY (callW Q) Q false 195 none (.loop l195_0) ⟨T0,49,[],none⟩ s1) fun e T st1 => Wr (at1 p) ⟨st.heap,st.next,[]⟩ st1 ∧ (p ∈ st1.log ∨ st1.heap p = st.heap p) ∧
     ((e = .exit 0 ∧ TyWk (.mk nm k xs) z (.ret (.tuple [])) (st1.heap p)) ∨ (e = .pan (flt 6) ∧ TyWk (.mk nm k xs) z (.pan (flt 6)) (st1.heap p))):=by
   intro s1 hs1 hs2 hs3 T0 i3 i1 i2 i39 i40 i41
   refine post_for (I:=fun i T st1 => T 3 = .ptr b 0 ∧ T 1 = .ptr a 0 ∧ T 2 = .ptr p 0 ∧ T 39 = .slice k (Ty.avs xs) ∧ T 40 = .int .i64 (xs.length:Int) ∧ T 41 = .int .i64 (i:Int) ∧ Wr (at1 p) ⟨st.heap,st.next,[]⟩ st1 ∧ (p ∈ st1.log ∨ st1.heap p = st.heap p) ∧
    ∃ zi:Int,st1.heap p = .mem 30 [.int .i64 zi] true 0 ∧ Ty.shps (xs.drop i) = Ty.shps xs ∧ (if Ty.bss (xs.drop i) then 40 else zi) = if (Ty.mk nm k xs).bs then 40 else z) xs.length ?_ ?_ (Nat.zero_le _) ⟨i3,i1,i2,i39,i40,i41,hs1,hs2,z1,hs3,rfl,?_⟩
   ·rintro i T ⟨h,nx,lg⟩ hi ⟨t3,t1,t2,t39,t40,t41,hw,hm1,zi,hz,hsh,hbs⟩
    obtain ⟨x,hx⟩:∃ x,xs[i]? = some x:=⟨_,List.getElem?_eq_getElem hi⟩
    have hxm:=List.mem_of_getElem? hx
    have hget:=Ty.get hx
    rw [drop_cons hx,Ty.shps] at hsh
    rw [drop_cons hx,Ty.bss] at hbs
    have hnx:=hw.next
    have ka:=hw.heap a (by simp only; omega) hab
    have kb:=hw.heap b (by simp only; omega) hbp
    simp only at hnx ka kb hz hm1
    rw [ga] at ka
    rw [gb] at kb
    have hi2:=wrapUp (show i < 9223372036854775807 by unfold Big at hl; omega)
    have e2:(b = nx) = False:=eq_false (by omega)
    have l2:b < nx + 1:=by omega
    obtain ⟨c,st2,c1,c2,c3,c4⟩:=ih x hxm (Ty.oks hoks x hxm) (st:=⟨upd h nx (.mem 25 x.av.cells true 0),nx + 1,nx :: lg⟩) (z:=zi) (by simp only; rw [upd_ne _ _ (by omega)]; exact ka) (by simp only; rw [upd_ne _ _ (by omega)]; exact hz) (by simp only; rw [upd_ne _ _ (by omega)]; exact kb) (by simp only; omega) (by simp only; omega) (by simp only; omega)
    have hm2:p ∈ (⟨upd h nx (.mem 25 x.av.cells true 0),nx + 1,nx :: lg⟩:St).log ∨ (⟨upd h nx (.mem 25 x.av.cells true 0),nx + 1,nx :: lg⟩:St).heap p = st.heap p:=by
     rcases hm1 with h | h
     ·exact .inl (List.mem_cons_of_mem _ h)
     ·exact .inr (by simp only; rw [upd_ne _ _ (by omega)]; exact h)
    have hm3:=may_trans c2 hm2 c3
    have hw3:=hw.new.trans c2
    obtain ⟨nm',k',xs'⟩:=x
    rw [Ty.av] at hget
    rcases c4 with ⟨q1,rfl,q2⟩ | ⟨q1,rfl,q2⟩
    ·simp only [RS,RT,RZ,Zu,rA,rB,rC,rD,rE,rF,reduceCtorEq,Zw,Ty.av,AV.cells] at c1
     simp only [RS,RT,RZ,Zu,rA,rB,rC,rD,rE,rF,reduceCtorEq,Zw,l195_0,m195_0,t3,t1,t2,t39,t40,t41,hi,hget,c1,hi2,kb,e2,l2,fnis hK (ok195 hK)]
     rw [q1,Bool.true_and] at hsh
     refine ⟨hw3,hm3,_,q2,hsh,?_⟩
     rw [← hbs]
     cases (Ty.mk nm' k' xs').bs <;> cases Ty.bss (xs.drop (i + 1)) <;> rfl
    ·simp only [RS,RT,RZ,Zu,rA,rB,rC,rD,rE,rF,reduceCtorEq,Zw,Ty.av,AV.cells] at c1
     simp only [RS,RT,RZ,Zu,rA,rB,rC,rD,rE,rF,reduceCtorEq,Zw,l195_0,m195_0,t3,t1,t2,t39,t40,t41,hi,hget,c1,hi2,kb,e2,l2,fnis hK (ok195 hK)]
     rw [q1,Bool.false_and] at hsh
     exact ⟨hw3,hm3,.inr ⟨by rw [sh,← hsh],rfl,q2⟩⟩
   ·rintro T ⟨h,nx,lg⟩ ⟨t3,t1,t2,t39,t40,t41,hw,hm1,zi,hz,hsh,hbs⟩
    rw [List.drop_length,Ty.shps] at hsh
    rw [List.drop_length,Ty.bss] at hbs
    simp only [Bool.false_eq_true,if_false] at hbs
    simp only [RS,RT,RZ,Zu,rA,rB,rC,rD,rE,rF,reduceCtorEq,Zw,l195_0,m195_0,t3,t1,t2,t39,t40,t41]
    exact ⟨hw,hm1,.inl ⟨by rw [sh,← hsh],rfl,by rw [← hbs]; exact hz⟩⟩
   ·rw [List.drop_zero,bsE,hz1]
    cases nm == [45,62] <;> cases Ty.bss xs <;> rfl
  cases e1:nm == [45,62] with
  | true =>
   have e2:((xs.length:Int) == 2) = true:=by
    rw [e1] at e'
    cases e2:(xs.length:Int) == 2 with
    | true => rfl
    | false => rw [e2] at e'; cases e'
   have e1':(nm != [45,62]) = false:=by rw [bne,e1]; rfl
   rw [e1,if_pos rfl] at hz1
   simp only [RS,RT,RZ,Zu,rA,rB,rC,rD,rE,rF,reduceCtorEq,Zw,x195,y195,Ty.av,Ty.len,e1,e1',e2,hm,hbb,btf,bft,btt,bff,ea,ep,eb,la1,lp1,lb1,if_false,if_true]
   refine post_bind (key _ ?_ ?_ ?_ _ (by simp only [RS,RT,RZ,Zu,rA,rB,rC,rD,rE,rF,reduceCtorEq,Zw,]) (by simp only [RS,RT,RZ,Zu,rA,rB,rC,rD,rE,rF,reduceCtorEq,Zw,]) (by simp only [RS,RT,RZ,Zu,rA,rB,rC,rD,rE,rF,reduceCtorEq,Zw,]) (by simp only [RS,RT,RZ,Zu,rA,rB,rC,rD,rE,rF,reduceCtorEq,Zw,]) (by simp only [RS,RT,RZ,Zu,rA,rB,rC,rD,rE,rF,reduceCtorEq,Zw,]) (by simp only [RS,RT,RZ,Zu,rA,rB,rC,rD,rE,rF,reduceCtorEq,Zw,])) ?_
   ·exact Wr.new0 (Wr.refl _)
   ·exact .inr (by simp only; rw [upd_ne _ _ (by omega)])
   ·simp only; rw [upd_ne _ _ (by omega),gp,hz1]
   ·rintro e T ⟨h,nx,lg⟩ ⟨hw,hm,⟨rfl,hh⟩ | ⟨rfl,hh⟩⟩
    ·simp only [RS,RT,RZ,Zu,rA,rB,rC,rD,rE,rF,reduceCtorEq,Zw,]
     exact ⟨hw,hm,.inl hh⟩
    ·simp only [RS,RT,RZ,Zu,rA,rB,rC,rD,rE,rF,reduceCtorEq,Zw,]
     exact ⟨hw,hm,.inr ⟨_,rfl,hh⟩⟩
  | false =>
   have e2:((xs.length:Int) == 2) = false:=by
    rw [e1] at e'
    cases e2:(xs.length:Int) == 2 with
    | false => rfl
    | true => rw [e2] at e'; cases e'
   have e3:((xs.length:Int) == 0) = true:=by
    rw [e1,e2] at e'
    cases e3:(xs.length:Int) == 0 with
    | true => rfl
    | false => rw [e3] at e'; cases e'
   have e1':(nm != [45,62]) = true:=by rw [bne,e1]; rfl
   rw [e1,if_neg (by decide)] at hz1
   simp only [RS,RT,RZ,Zu,rA,rB,rC,rD,rE,rF,reduceCtorEq,Zw,x195,y195,Ty.av,Ty.len,e1,e1',e2,e3,hm,hbb,btf,bft,btt,bff,Zp,c0,ga,gp,ea,ep,ep',eb,la1,lp1,lb1,if_false,if_true]
   refine post_bind (key _ ?_ ?_ ?_ _ (by simp only [RS,RT,RZ,Zu,rA,rB,rC,rD,rE,rF,reduceCtorEq,Zw,]) (by simp only [RS,RT,RZ,Zu,rA,rB,rC,rD,rE,rF,reduceCtorEq,Zw,]) (by simp only [RS,RT,RZ,Zu,rA,rB,rC,rD,rE,rF,reduceCtorEq,Zw,]) (by simp only [RS,RT,RZ,Zu,rA,rB,rC,rD,rE,rF,reduceCtorEq,Zw,]) (by simp only [RS,RT,RZ,Zu,rA,rB,rC,rD,rE,rF,reduceCtorEq,Zw,]) (by simp only [RS,RT,RZ,Zu,rA,rB,rC,rD,rE,rF,reduceCtorEq,Zw,])) ?_
   ·exact (Wr.new0 (Wr.refl _)).hit rfl (fun l hl => by simpa using hl) (fun l hl => nomatch hl)
   ·exact .inl (by simp)
   ·simp only; rw [upd_same,hz1]
   ·rintro e T ⟨h,nx,lg⟩ ⟨hw,hm,⟨rfl,hh⟩ | ⟨rfl,hh⟩⟩
    ·simp only [RS,RT,RZ,Zu,rA,rB,rC,rD,rE,rF,reduceCtorEq,Zw,]
     exact ⟨hw,by rw [gp] at hm; exact hm,.inl hh⟩
    ·simp only [RS,RT,RZ,Zu,rA,rB,rC,rD,rE,rF,reduceCtorEq,Zw,]
     exact ⟨hw,by rw [gp] at hm; exact hm,.inr ⟨_,rfl,hh⟩⟩
theorem first194 {a p q:Nat} (hap:a ≠ p) (hqp:q ≠ p) {t:Ty} (hok:t.Ok) {st:St} {z:Int} (ga:st.heap a = .mem 61 Zp true 0) (gp:st.heap p = .mem 30 [.int .i64 z] true 0) (gq:st.heap q = .mem 25 t.av.cells true 0) (la:a < st.next) (lp:p < st.next) (lq:q < st.next) :
  ∃ c st',callW Q (.fn 194) [.ptr a 0,.ptr p 0,.ptr q 0] .normal st = some (c,st',none) ∧ Wr (at1 p) st st' ∧ (p ∈ st'.log ∨ st'.heap p = st.heap p) ∧ TyWk t z c (st'.heap p):=by
 refine proc_may (N:=8) (ok194 hK) (hK.nx _ _ _ rfl) rfl lp ?_
 obtain ⟨c,st2,c1,c2,c3,c4⟩:=walk195 hK (a:=a) (p:=p) (b:=st.next) hap (by omega) t hok (st:=⟨upd st.heap st.next (.mem 152 [.func (.func 195) [] [.ptr a 0,.ptr p 0,.ptr st.next 0]] true 0),st.next + 1,[st.next]⟩) (z:=z)
  (by simp only; rw [upd_ne _ _ (by omega)]; exact ga) (by simp only; rw [upd_ne _ _ (by omega)]; exact gp) (by simp only; rw [upd_same]) (by simp only; omega) (by simp only; omega) (by simp only; omega)
 have eq:(q = st.next) = False:=eq_false (by omega)
 have l1:q < st.next + 1:=by omega
 have hw:=(Wr.new (o:=.mem 152 [.func (.func 195) [] [.ptr a 0,.ptr p 0,.ptr st.next 0]] true 0) (Wr.refl (P:=at1 p) ⟨st.heap,st.next,[]⟩)).trans c2
 have hm:p ∈ st2.log ∨ st2.heap p = st.heap p:=by
  rcases c3 with h | h
  ·exact .inl h
  ·refine .inr (h.trans ?_)
   simp only; rw [upd_ne _ _ (by omega)]
 obtain ⟨nm,k,xs⟩:=t
 have hc:c = .ret (.tuple []) ∨ c = .pan (flt 6):=by
  rcases c4 with ⟨_,h,_⟩ | ⟨_,h,_⟩
  ·exact .inl h
  ·exact .inr h
 rcases hc with rfl | rfl
 ·simp only [RS,RT,RZ,Zu,rA,rB,rC,rD,rE,rF,reduceCtorEq,Zw,Ty.av,AV.cells] at c1 gq
  simp only [RS,RT,RZ,Zu,rA,rB,rC,rD,rE,rF,reduceCtorEq,Zw,x194,c1,gq,eq,l1,fnis hK (ok195 hK)]
  exact ⟨hw,hm,.inl c4⟩
 ·simp only [RS,RT,RZ,Zu,rA,rB,rC,rD,rE,rF,reduceCtorEq,Zw,Ty.av,AV.cells] at c1 gq
  simp only [RS,RT,RZ,Zu,rA,rB,rC,rD,rE,rF,reduceCtorEq,Zw,x194,c1,gq,eq,l1,fnis hK (ok195 hK)]
  exact ⟨hw,hm,.inr ⟨_,rfl,c4⟩⟩
def Ty.err (t:Ty):Int:=if t.sized = 0 then (if t.shp then (if t.bs then 40 else 0) else 6) else t.sized
theorem check131 {t:Ty} (hok:t.Ok):Ret Q 131 [.agg Zp,t.av] (.int .i64 t.err):=fun st => by
 refine callY (N:=19) (ok131 hK) (hK.nx _ _ _ rfl) rfl rfl ?_
 have h1:=sized192 hK hok
 obtain ⟨s0,hs0⟩:∃ s0:St,s0 = ⟨upd (upd (upd st.heap st.next (.mem 61 Zp true 0)) (st.next + 1) (.mem 25 t.av.cells true 0)) (st.next + 2) (.mem 30 [.int .i64 0] true 0),st.next + 3,[st.next + 2]⟩:=⟨_,rfl⟩
 obtain ⟨c,st2,c1,c2,c3,c4⟩:=first194 hK (a:=st.next) (p:=st.next + 2) (q:=st.next + 1) (by omega) (by omega) hok (st:=⟨upd s0.heap s0.next (.mem 30 [.int .i64 0] true 0),s0.next + 1,[]⟩) (z:=0)
  (by rw [hs0]; simp only; rw [upd_ne _ _ (by omega),upd_ne _ _ (by omega),upd_ne _ _ (by omega),upd_same])
  (by rw [hs0]; simp only; rw [upd_ne _ _ (by omega),upd_same])
  (by rw [hs0]; simp only; rw [upd_ne _ _ (by omega),upd_ne _ _ (by omega),upd_same])
  (by rw [hs0]; simp only; omega) (by rw [hs0]; simp only; omega) (by rw [hs0]; simp only; omega)
 have hc:(c = .ret (.tuple []) ∧ (if t.shp then 0 else 6:Int) = 0) ∨ c = .pan (flt (if t.shp then 0 else 6)):=by
  rcases c4 with ⟨a,h,_⟩ | ⟨a,h,_⟩
  ·exact .inl ⟨h,by rw [a,if_pos rfl]⟩
  ·exact .inr (by rw [h,a,if_neg (by decide)])
 obtain ⟨st3,d1,d2,d3,d4⟩:=guarded_run hK (P:=at1 (st.next + 2)) (fnis hK (ok194 hK)) hc (fun q hq => by rw [hq,hs0]; simp only; omega) c1 c2
 have e0:s0.next = st.next + 3:=by rw [hs0]
 have d5:=leave_may (p:=st.next + 2) (vs:=[.int .i64 (if t.shp then 0 else 6)]) d3 (by
  rcases c3 with h | h
  ·exact .inl (d4 _ h)
  ·refine .inr ((d2 _ (by omega)).trans (h.trans ?_))
   simp only; rw [upd_ne _ _ (by omega)]) (by omega)
 obtain ⟨s4,hs4⟩:∃ s4,s4 = leaveSt s0 [.int .i64 (if t.shp then 0 else 6)] st3:=⟨_,rfl⟩
 rw [← hs4] at d1 d5
 obtain ⟨f1,_,f3⟩:=d5
 rw [d2 _ (by omega)] at f3
 have f4:=f1.next
 have f5:∀ q ∈ s4.log,st.next ≤ q:=fun q hq => by
  rcases f1.log q hq with h | h | h
  ·rw [hs0] at h; simp at h; omega
  ·rw [show q = st.next + 2 from h]; omega
  ·omega
 rw [hs0] at d1
 obtain ⟨h4,n4,l4⟩:=s4
 simp only at f3 f4 f5
 have l2:st.next + 2 < n4:=by omega
 unfold Ty.err
 obtain ⟨nm,k,xs⟩:=t
 generalize (Ty.mk nm k xs).sized = sz at *
 simp only [RS,RT,RZ,Zu,rA,rB,rC,rD,rE,rF,reduceCtorEq,Zw,Ty.av,AV.cells,Zp] at h1 d1
 by_cases e:sz = 0
 ·subst e
  rw [if_pos rfl]
  rcases c4 with ⟨a,_,h⟩ | ⟨a,_,z',h⟩
  ·rw [a,if_pos rfl] at d1 ⊢
   rw [h] at f3
   simp only [RS,RT,RZ,Zu,rA,rB,rC,rD,rE,rF,reduceCtorEq,Zw,x131,F131,Ty.av,h1,d1,f3,l2,tw30 hK,T30,fnis hK (ok194 hK),Zp]
   exact f5
  ·rw [a,if_neg (by decide)] at d1 ⊢
   have h60:((6:Int) != 0) = true:=rfl
   simp only [RS,RT,RZ,Zu,rA,rB,rC,rD,rE,rF,reduceCtorEq,Zw,x131,F131,Ty.av,h1,d1,h60,fnis hK (ok194 hK),Zp]
   exact f5
 ·have e':(sz != 0) = true:=by rw [bne_iff_ne]; exact e
  rw [if_neg e]
  simp only [RS,RT,RZ,Zu,rA,rB,rC,rD,rE,rF,reduceCtorEq,Zw,x131,F131,Ty.av,h1,e',Zp]
theorem formed63 {t:Ty} (hok:t.Ok):Ret Q 63 [t.av] (.bool (t.err == 0 || t.err == 40)):=fun st => by
 refine callY (N:=13) (ok63 hK) (hK.nx _ _ _ rfl) rfl rfl ?_
 have h1:=check131 hK hok
 obtain ⟨nm,k,xs⟩:=t
 simp only [RS,RT,RZ,Zu,rA,rB,rC,rD,rE,rF,reduceCtorEq,Zw,Ty.av,AV.cells,Zp] at h1
 cases e1:(Ty.mk nm k xs).err == 0 with
 | true => simp only [RS,RT,RZ,Zu,rA,rB,rC,rD,rE,rF,reduceCtorEq,Zw,x63,F63,Ty.av,h1,e1,Bool.true_or,Zp]
 | false => simp only [RS,RT,RZ,Zu,rA,rB,rC,rD,rE,rF,reduceCtorEq,Zw,x63,F63,Ty.av,h1,e1,Bool.false_or,Zp]
end
end Go.Proofs.L06

namespace Go.Proofs.L06
open Go Go.AE
open Nat renaming reduceLT → rA,reduceLeDiff → rB,reduceEqDiff → rC,reduceMul → rD,reduceAdd → rE,reduceSub → rF
set_option maxHeartbeats 8000000
def isQ (kd:Int):Bool:=kd == 10 || kd == 11
def atomN (nm:List Nat) (xs:List Tm):Bool:=chk1 1 nm && (decide ((xs.length:Int) ≤ 8) && !(xs.any fun t => rawTm t != 0))
def othN (kd:Int) (nm:List Nat) (len:Nat) (ty:Ty):Bool:=((len:Int) == 0) && ((isQ kd || nm == []) && (!(isQ kd) || ((chk1 1 nm || chk1 2 nm) && (ty.err == 0 || ty.err == 40))))
def prts (kd:Int):Int :=
 if kd = 1 ∨ kd = 2 ∨ kd = 3 then 0 else if kd = 4 ∨ kd = 5 ∨ kd = 6 ∨ kd = 7 ∨ kd = 8 then 2 else if kd = 9 ∨ kd = 10 ∨ kd = 11 ∨ kd = 12 then 1 else -1
mutual
def Fo.shp:Fo → Bool
 | .mk kd nm _ xs ty _ ls => (prts kd == (ls.length:Int)) && ((if kd = 1 then atomN nm xs else othN kd nm xs.length ty) && ((isQ kd || ((ty.nm == []) && ((ty.xs.length:Int) == 0))) && !(Fo.bads ls)))
def Fo.bads:List Fo → Bool | [] => false | t :: r => !t.shp || Fo.bads r
end
theorem Fo.bads_any:∀ l:List Fo,Fo.bads l = l.any (fun t => !t.shp) | [] => rfl | t :: r => by rw [Fo.bads,List.any_cons,Fo.bads_any r]
theorem at6 {α:Type} {x0 x1 x2 x3 x4 x5 x6:α} {l:List α}:(x0 :: x1 :: x2 :: x3 :: x4 :: x5 :: x6 :: l)[6]? = some x6:=(rfl)
theorem at7 {α:Type} {x0 x1 x2 x3 x4 x5 x6 x7:α} {l:List α}:(x0 :: x1 :: x2 :: x3 :: x4 :: x5 :: x6 :: x7 :: l)[7]? = some x7:=(rfl)
theorem at8 {α:Type} {x0 x1 x2 x3 x4 x5 x6 x7 x8:α} {l:List α}:(x0 :: x1 :: x2 :: x3 :: x4 :: x5 :: x6 :: x7 :: x8 :: l)[8]? = some x8:=(rfl)
theorem at9 {α:Type} {x0 x1 x2 x3 x4 x5 x6 x7 x8 x9:α} {l:List α}:(x0 :: x1 :: x2 :: x3 :: x4 :: x5 :: x6 :: x7 :: x8 :: x9 :: l)[9]? = some x9:=(rfl)
theorem at10 {α:Type} {x0 x1 x2 x3 x4 x5 x6 x7 x8 x9 x10:α} {l:List α}:(x0 :: x1 :: x2 :: x3 :: x4 :: x5 :: x6 :: x7 :: x8 :: x9 :: x10 :: l)[10]? = some x10:=(rfl)
theorem at11 {α:Type} {x0 x1 x2 x3 x4 x5 x6 x7 x8 x9 x10 x11:α} {l:List α}:(x0 :: x1 :: x2 :: x3 :: x4 :: x5 :: x6 :: x7 :: x8 :: x9 :: x10 :: x11 :: l)[11]? = some x11:=(rfl)
theorem at12 {α:Type} {x0 x1 x2 x3 x4 x5 x6 x7 x8 x9 x10 x11 x12:α} {l:List α}:(x0 :: x1 :: x2 :: x3 :: x4 :: x5 :: x6 :: x7 :: x8 :: x9 :: x10 :: x11 :: x12 :: l)[12]? = some x12:=(rfl)
theorem nat4:natOf (.int .i64 4) = some 4:=rfl
theorem nat5:natOf (.int .i64 5) = some 5:=rfl
theorem nat6:natOf (.int .i64 6) = some 6:=rfl
theorem nat7:natOf (.int .i64 7) = some 7:=rfl
theorem nat8:natOf (.int .i64 8) = some 8:=rfl
theorem nat9:natOf (.int .i64 9) = some 9:=rfl
theorem nat10:natOf (.int .i64 10) = some 10:=rfl
theorem nat11:natOf (.int .i64 11) = some 11:=rfl
theorem nat12:natOf (.int .i64 12) = some 12:=rfl
def arr13:List Int:=[-1,0,0,0,2,2,2,2,2,1,1,1,1]
theorem len_pos {n:Nat} {b:Bool} (h:decide ((0:Int) < (n:Int)) = b):((n:Int) == 0) = !b:=by
 subst h
 rw [Bool.eq_iff_iff]
 simp only [beq_iff_eq,Bool.not_eq_true',decide_eq_false_iff_not]
 omega
theorem len_8 {n:Nat} {b:Bool} (h:decide ((8:Int) < (n:Int)) = b):decide ((n:Int) ≤ 8) = !b:=by
 subst h
 rw [Bool.eq_iff_iff]
 simp only [decide_eq_true_iff,Bool.not_eq_true',decide_eq_false_iff_not]
 omega
theorem bne_ {a b:List Nat} {c:Bool} (h:(a == b) = c):(a != b) = !c:=by rw [bne,h]
theorem bneI {a b:Int} {c:Bool} (h:(a == b) = c):(a != b) = !c:=by rw [bne,h]
section
variable {Q:Ctx} (hK:K Q)
include hK
theorem build203 {mu ro:Bool} {fr:Fr} {st:St} {ds:Option Tmp} {ty:TypeId} {pos:String} {af:Array Edge} {g:Option (Nat × Bool)} :
  opA Q mu ro fr st ⟨ds,.build 203 #[(0,.const (.int .i64 (-1))),(1,.const (.int .i64 0)),(2,.const (.int .i64 0)),(3,.const (.int .i64 0)),(4,.const (.int .i64 2)),(5,.const (.int .i64 2)),(6,.const (.int .i64 2)),(7,.const (.int .i64 2)),
   (8,.const (.int .i64 2)),(9,.const (.int .i64 1)),(10,.const (.int .i64 1)),(11,.const (.int .i64 1)),(12,.const (.int .i64 1))],ty,pos,af,g⟩ = some (.val (.agg (arr13.map fun n:Int => .int .i64 n)) st):=by
 show ov st (buildA Q 203 [(0,.int .i64 (-1)),(1,.int .i64 0),(2,.int .i64 0),(3,.int .i64 0),(4,.int .i64 2),(5,.int .i64 2),(6,.int .i64 2),(7,.int .i64 2),(8,.int .i64 2),(9,.int .i64 1),(10,.int .i64 1),(11,.int .i64 1),(12,.int .i64 1)]) = _
 simp only [buildA,tw203 hK,T203,sizeIs,tw3 hK,T3,Option.map_some]
 rfl
theorem sizes_c {kd:Int}:Ret Q 92 [.int .i64 kd] (.int .i64 (prts kd)):=fun st => by
 refine callY (N:=14) (ok92 hK) (hK.nx _ _ _ rfl) rfl rfl ?_
 by_cases h1:kd < 0
 ·have e1:=decT h1
  rw [show prts kd = -1 by unfold prts; rw [if_neg (by omega),if_neg (by omega),if_neg (by omega)]]
  simp only [RS,RT,RZ,Zu,rA,rB,rC,rD,rE,rF,reduceCtorEq,Zw,x92,F92,build203 hK,arr13,List.map_cons,e1]
 ·by_cases h2:13 ≤ kd
  ·have e1:=decF h1
   have e2:=decT h2
   rw [show prts kd = -1 by unfold prts; rw [if_neg (by omega),if_neg (by omega),if_neg (by omega)]]
   simp only [RS,RT,RZ,Zu,rA,rB,rC,rD,rE,rF,reduceCtorEq,Zw,x92,F92,build203 hK,arr13,List.map_cons,e1,e2]
  ·have h3:kd = 0 ∨ kd = 1 ∨ kd = 2 ∨ kd = 3 ∨ kd = 4 ∨ kd = 5 ∨ kd = 6 ∨ kd = 7 ∨ kd = 8 ∨ kd = 9 ∨ kd = 10 ∨ kd = 11 ∨ kd = 12:=by omega
   rcases h3 with rfl | rfl | rfl | rfl | rfl | rfl | rfl | rfl | rfl | rfl | rfl | rfl | rfl
   all_goals simp only [RS,RT,RZ,Zu,rA,rB,rC,rD,rE,rF,reduceCtorEq,Zw,x92,F92,build203 hK,arr13,List.map_cons,indexAddrA_arr (tw203 hK) (tw3 hK),T3,Int.reduceLT,Int.reduceLE,Int.reduceGE,ge_iff_le,decide_true,decide_false,at6,at7,at8,at9,at10,at11,at12,nat4,nat5,nat6,nat7,nat8,nat9,nat10,nat11,nat12]
   all_goals rfl
theorem isQ_c {kd:Int} {nm:List Nat} {ka:SK} {xs:List Tm} {ty:Ty} {kl:SK} {ls:List Fo}:Ret Q 57 [(Fo.mk kd nm ka xs ty kl ls).av] (.bool (isQ kd)):=fun st => by
 refine callY (N:=11) (ok57 hK) (hK.nx _ _ _ rfl) rfl rfl ?_
 unfold isQ
 cases e1:kd == 10 with
 | true => simp only [RS,RT,RZ,Zu,rA,rB,rC,rD,rE,rF,reduceCtorEq,Zw,x57,F57,Fo.av,e1,Bool.true_or]
 | false => simp only [RS,RT,RZ,Zu,rA,rB,rC,rD,rE,rF,reduceCtorEq,Zw,x57,F57,Fo.av,e1,Bool.false_or]
theorem raw94 {t:Tm} (hok:t.Ok):Ret Q 94 [t.av] (.bool (rawTm t != 0)):=fun st => by
 refine callY (N:=6) (ok94 hK) (hK.nx _ _ _ rfl) rfl rfl ?_
 have h:=rawTm_c hK hok
 obtain ⟨kd,n,nm,k,xs⟩:=t
 rw [Tm.av] at h
 simp only [RS,RT,RZ,Zu,rA,rB,rC,rD,rE,rF,reduceCtorEq,Zw,x94,F94,Tm.av,h]
theorem shaped_c (f:Fo):f.Ok → Ret Q 40 [f.av] (.bool f.shp):=by
 induction f using Fo.ind with
 | _ kd nm ka xs ty kl ls ih =>
 intro hok st
 refine callY (N:=76) (ok40 hK) (hK.nx _ _ _ rfl) rfl rfl ?_
 obtain ⟨_,hnm,_,hl,hoks,hty,_,hl2,hoks2⟩:=hok
 have hsz:=sizes_c hK (kd:=kd)
 have hq:=isQ_c hK (kd:=kd) (nm:=nm) (ka:=ka) (xs:=xs) (ty:=ty) (kl:=kl) (ls:=ls)
 have hc:=isName_c hK hnm
 have ha:=isAny_c hK hnm
 have hf:=formed63 hK hty
 have a87:∀ st,callW Q (.fn 87) [.slice ka (Tm.avs xs),.func (.func 94) [] []] .normal st = some (.ret (.bool (xs.any fun t => rawTm t != 0)),st,none):=fun st =>
  any87 hK (k:=ka) (p:=fun t => rawTm t != 0) (st:=st) hl (fnis hK (ok94 hK)) fun x hx lg => raw94 hK (Tm.oks hoks x hx) _
 have a90:∀ st,callW Q (.fn 90) [.slice kl (Fo.avs ls),.func (.func 95) [] []] .normal st = some (.ret (.bool (Fo.bads ls)),st,none):=fun st => by
  rw [Fo.bads_any]
  refine any90 hK (k:=kl) (p:=fun t => !t.shp) (st:=st) hl2 (fnis hK (ok95 hK)) fun x hx lg => ?_
  refine callY (N:=6) (ok95 hK) (hK.nx _ _ _ rfl) rfl rfl ?_
  have h:=ih x hx (Fo.oks hoks2 x hx)
  obtain ⟨kd',nm',ka',xs',ty',kl',ls'⟩:=x
  rw [Fo.av] at h ⊢
  simp only [RS,RT,RZ,Zu,rA,rB,rC,rD,rE,rF,reduceCtorEq,Zw,x95,F95,h]
 generalize hA:(xs.any fun t => rawTm t != 0) = anyB at a87
 generalize hB:Fo.bads ls = badB at a90
 have hshp:(Fo.mk kd nm ka xs ty kl ls).shp = ((prts kd == (ls.length:Int)) && ((if kd = 1 then chk1 1 nm && (decide ((xs.length:Int) ≤ 8) && !anyB) else othN kd nm xs.length ty) && ((isQ kd || ((ty.nm == []) && ((ty.xs.length:Int) == 0))) && !badB))):=by
  rw [Fo.shp,hB,atomN,hA]
 rw [hshp]
 unfold othN
 generalize hE:(ty.err == 0 || ty.err == 40) = errB at *
 generalize hN:(chk1 1 nm || chk1 2 nm) = anyN at *
 obtain ⟨tn,tk,tx⟩:=ty
 rw [Ty.av] at hf
 rw [Fo.av] at hq
 simp only [Ty.nm,Ty.k,Ty.xs] at *
 cases e1:(prts kd == (ls.length:Int)) with
 | false =>
  have e1':=bneI e1
  simp only [RS,RT,RZ,Zu,rA,rB,rC,rD,rE,rF,reduceCtorEq,Zw,x40,y40,kd40_0,F40,Fo.av,Fo.len,Tm.len,Ty.len,Ty.nm,Ty.k,Ty.xs,hsz,hq,hc,ha,hf,a87,a90,Int.reduceBEq,Bool.false_and,Bool.true_and,Bool.and_false,Bool.and_true,Bool.not_true,Bool.not_false,Bool.or_true,Bool.true_or,Bool.false_or,Bool.or_false,if_true,if_false,e1,e1']
 | true =>
  have e1':=bneI e1
  by_cases h1:kd = 1
  ·subst h1
   have hq1:isQ 1 = false:=rfl
   rw [hq1] at hq
   cases e2:chk1 1 nm with
   | false =>
    simp only [RS,RT,RZ,Zu,rA,rB,rC,rD,rE,rF,reduceCtorEq,Zw,x40,y40,kd40_0,F40,Fo.av,Fo.len,Tm.len,Ty.len,Ty.nm,Ty.k,Ty.xs,hsz,hq,hc,ha,hf,a87,a90,Int.reduceBEq,Bool.false_and,Bool.true_and,Bool.and_false,Bool.and_true,Bool.not_true,Bool.not_false,Bool.or_true,Bool.true_or,Bool.false_or,Bool.or_false,if_true,if_false,e1,e1',hq1,e2]
   | true =>
    cases e3:decide ((8:Int) < (xs.length:Int)) with
    | false =>
     have e3':=len_8 e3
     cases e4:anyB with
     | false =>
      cases e6:(tn == ([]:List Nat)) with
      | false =>
       have e6':=bne_ e6
       simp only [RS,RT,RZ,Zu,rA,rB,rC,rD,rE,rF,reduceCtorEq,Zw,x40,y40,kd40_0,F40,Fo.av,Fo.len,Tm.len,Ty.len,Ty.nm,Ty.k,Ty.xs,hsz,hq,hc,ha,hf,a87,a90,Int.reduceBEq,Bool.false_and,Bool.true_and,Bool.and_false,Bool.and_true,Bool.not_true,Bool.not_false,Bool.or_true,Bool.true_or,Bool.false_or,Bool.or_false,if_true,if_false,e1,e1',hq1,e2,e3,e3',e4,e6,e6']
      | true =>
       have e6':=bne_ e6
       cases e7:decide ((0:Int) < (tx.length:Int)) with
       | false =>
        have e7':=len_pos e7
        cases e9:badB with
        | false =>
         simp only [RS,RT,RZ,Zu,rA,rB,rC,rD,rE,rF,reduceCtorEq,Zw,x40,y40,kd40_0,F40,Fo.av,Fo.len,Tm.len,Ty.len,Ty.nm,Ty.k,Ty.xs,hsz,hq,hc,ha,hf,a87,a90,Int.reduceBEq,Bool.false_and,Bool.true_and,Bool.and_false,Bool.and_true,Bool.not_true,Bool.not_false,Bool.or_true,Bool.true_or,Bool.false_or,Bool.or_false,if_true,if_false,e1,e1',hq1,e2,e3,e3',e4,e6,e6',e7,e7',e9]
        | true =>
         simp only [RS,RT,RZ,Zu,rA,rB,rC,rD,rE,rF,reduceCtorEq,Zw,x40,y40,kd40_0,F40,Fo.av,Fo.len,Tm.len,Ty.len,Ty.nm,Ty.k,Ty.xs,hsz,hq,hc,ha,hf,a87,a90,Int.reduceBEq,Bool.false_and,Bool.true_and,Bool.and_false,Bool.and_true,Bool.not_true,Bool.not_false,Bool.or_true,Bool.true_or,Bool.false_or,Bool.or_false,if_true,if_false,e1,e1',hq1,e2,e3,e3',e4,e6,e6',e7,e7',e9]
       | true =>
        have e7':=len_pos e7
        simp only [RS,RT,RZ,Zu,rA,rB,rC,rD,rE,rF,reduceCtorEq,Zw,x40,y40,kd40_0,F40,Fo.av,Fo.len,Tm.len,Ty.len,Ty.nm,Ty.k,Ty.xs,hsz,hq,hc,ha,hf,a87,a90,Int.reduceBEq,Bool.false_and,Bool.true_and,Bool.and_false,Bool.and_true,Bool.not_true,Bool.not_false,Bool.or_true,Bool.true_or,Bool.false_or,Bool.or_false,if_true,if_false,e1,e1',hq1,e2,e3,e3',e4,e6,e6',e7,e7']
     | true =>
      simp only [RS,RT,RZ,Zu,rA,rB,rC,rD,rE,rF,reduceCtorEq,Zw,x40,y40,kd40_0,F40,Fo.av,Fo.len,Tm.len,Ty.len,Ty.nm,Ty.k,Ty.xs,hsz,hq,hc,ha,hf,a87,a90,Int.reduceBEq,Bool.false_and,Bool.true_and,Bool.and_false,Bool.and_true,Bool.not_true,Bool.not_false,Bool.or_true,Bool.true_or,Bool.false_or,Bool.or_false,if_true,if_false,e1,e1',hq1,e2,e3,e3',e4]
    | true =>
     have e3':=len_8 e3
     simp only [RS,RT,RZ,Zu,rA,rB,rC,rD,rE,rF,reduceCtorEq,Zw,x40,y40,kd40_0,F40,Fo.av,Fo.len,Tm.len,Ty.len,Ty.nm,Ty.k,Ty.xs,hsz,hq,hc,ha,hf,a87,a90,Int.reduceBEq,Bool.false_and,Bool.true_and,Bool.and_false,Bool.and_true,Bool.not_true,Bool.not_false,Bool.or_true,Bool.true_or,Bool.false_or,Bool.or_false,if_true,if_false,e1,e1',hq1,e2,e3,e3']
  ·have h1t:=eq_false h1
   have h1b:(kd == 1) = false:=by rw [beq_eq_false_iff_ne]; exact h1
   cases e2:decide ((0:Int) < (xs.length:Int)) with
   | false =>
    have e2':=len_pos e2
    cases eq:isQ kd with
    | false =>
     cases e3:(nm == ([]:List Nat)) with
     | false =>
      have e3':=bne_ e3
      simp only [RS,RT,RZ,Zu,rA,rB,rC,rD,rE,rF,reduceCtorEq,Zw,x40,y40,kd40_0,F40,Fo.av,Fo.len,Tm.len,Ty.len,Ty.nm,Ty.k,Ty.xs,hsz,hq,hc,ha,hf,a87,a90,Int.reduceBEq,Bool.false_and,Bool.true_and,Bool.and_false,Bool.and_true,Bool.not_true,Bool.not_false,Bool.or_true,Bool.true_or,Bool.false_or,Bool.or_false,if_true,if_false,e1,e1',h1t,h1b,e2,e2',eq,e3,e3']
     | true =>
      have e3':=bne_ e3
      cases e6:(tn == ([]:List Nat)) with
      | false =>
       have e6':=bne_ e6
       simp only [RS,RT,RZ,Zu,rA,rB,rC,rD,rE,rF,reduceCtorEq,Zw,x40,y40,kd40_0,F40,Fo.av,Fo.len,Tm.len,Ty.len,Ty.nm,Ty.k,Ty.xs,hsz,hq,hc,ha,hf,a87,a90,Int.reduceBEq,Bool.false_and,Bool.true_and,Bool.and_false,Bool.and_true,Bool.not_true,Bool.not_false,Bool.or_true,Bool.true_or,Bool.false_or,Bool.or_false,if_true,if_false,e1,e1',h1t,h1b,e2,e2',eq,e3,e3',e6,e6']
      | true =>
       have e6':=bne_ e6
       cases e7:decide ((0:Int) < (tx.length:Int)) with
       | false =>
        have e7':=len_pos e7
        cases e9:badB with
        | false =>
         simp only [RS,RT,RZ,Zu,rA,rB,rC,rD,rE,rF,reduceCtorEq,Zw,x40,y40,kd40_0,F40,Fo.av,Fo.len,Tm.len,Ty.len,Ty.nm,Ty.k,Ty.xs,hsz,hq,hc,ha,hf,a87,a90,Int.reduceBEq,Bool.false_and,Bool.true_and,Bool.and_false,Bool.and_true,Bool.not_true,Bool.not_false,Bool.or_true,Bool.true_or,Bool.false_or,Bool.or_false,if_true,if_false,e1,e1',h1t,h1b,e2,e2',eq,e3,e3',e6,e6',e7,e7',e9]
        | true =>
         simp only [RS,RT,RZ,Zu,rA,rB,rC,rD,rE,rF,reduceCtorEq,Zw,x40,y40,kd40_0,F40,Fo.av,Fo.len,Tm.len,Ty.len,Ty.nm,Ty.k,Ty.xs,hsz,hq,hc,ha,hf,a87,a90,Int.reduceBEq,Bool.false_and,Bool.true_and,Bool.and_false,Bool.and_true,Bool.not_true,Bool.not_false,Bool.or_true,Bool.true_or,Bool.false_or,Bool.or_false,if_true,if_false,e1,e1',h1t,h1b,e2,e2',eq,e3,e3',e6,e6',e7,e7',e9]
       | true =>
        have e7':=len_pos e7
        simp only [RS,RT,RZ,Zu,rA,rB,rC,rD,rE,rF,reduceCtorEq,Zw,x40,y40,kd40_0,F40,Fo.av,Fo.len,Tm.len,Ty.len,Ty.nm,Ty.k,Ty.xs,hsz,hq,hc,ha,hf,a87,a90,Int.reduceBEq,Bool.false_and,Bool.true_and,Bool.and_false,Bool.and_true,Bool.not_true,Bool.not_false,Bool.or_true,Bool.true_or,Bool.false_or,Bool.or_false,if_true,if_false,e1,e1',h1t,h1b,e2,e2',eq,e3,e3',e6,e6',e7,e7']
    | true =>
     cases e3:anyN with
     | false =>
      simp only [RS,RT,RZ,Zu,rA,rB,rC,rD,rE,rF,reduceCtorEq,Zw,x40,y40,kd40_0,F40,Fo.av,Fo.len,Tm.len,Ty.len,Ty.nm,Ty.k,Ty.xs,hsz,hq,hc,ha,hf,a87,a90,Int.reduceBEq,Bool.false_and,Bool.true_and,Bool.and_false,Bool.and_true,Bool.not_true,Bool.not_false,Bool.or_true,Bool.true_or,Bool.false_or,Bool.or_false,if_true,if_false,e1,e1',h1t,h1b,e2,e2',eq,e3]
     | true =>
      cases e4:errB with
      | false =>
       simp only [RS,RT,RZ,Zu,rA,rB,rC,rD,rE,rF,reduceCtorEq,Zw,x40,y40,kd40_0,F40,Fo.av,Fo.len,Tm.len,Ty.len,Ty.nm,Ty.k,Ty.xs,hsz,hq,hc,ha,hf,a87,a90,Int.reduceBEq,Bool.false_and,Bool.true_and,Bool.and_false,Bool.and_true,Bool.not_true,Bool.not_false,Bool.or_true,Bool.true_or,Bool.false_or,Bool.or_false,if_true,if_false,e1,e1',h1t,h1b,e2,e2',eq,e3,e4]
      | true =>
       cases e9:badB with
       | false =>
        simp only [RS,RT,RZ,Zu,rA,rB,rC,rD,rE,rF,reduceCtorEq,Zw,x40,y40,kd40_0,F40,Fo.av,Fo.len,Tm.len,Ty.len,Ty.nm,Ty.k,Ty.xs,hsz,hq,hc,ha,hf,a87,a90,Int.reduceBEq,Bool.false_and,Bool.true_and,Bool.and_false,Bool.and_true,Bool.not_true,Bool.not_false,Bool.or_true,Bool.true_or,Bool.false_or,Bool.or_false,if_true,if_false,e1,e1',h1t,h1b,e2,e2',eq,e3,e4,e9]
       | true =>
        simp only [RS,RT,RZ,Zu,rA,rB,rC,rD,rE,rF,reduceCtorEq,Zw,x40,y40,kd40_0,F40,Fo.av,Fo.len,Tm.len,Ty.len,Ty.nm,Ty.k,Ty.xs,hsz,hq,hc,ha,hf,a87,a90,Int.reduceBEq,Bool.false_and,Bool.true_and,Bool.and_false,Bool.and_true,Bool.not_true,Bool.not_false,Bool.or_true,Bool.true_or,Bool.false_or,Bool.or_false,if_true,if_false,e1,e1',h1t,h1b,e2,e2',eq,e3,e4,e9]
   | true =>
    have e2':=len_pos e2
    simp only [RS,RT,RZ,Zu,rA,rB,rC,rD,rE,rF,reduceCtorEq,Zw,x40,y40,kd40_0,F40,Fo.av,Fo.len,Tm.len,Ty.len,Ty.nm,Ty.k,Ty.xs,hsz,hq,hc,ha,hf,a87,a90,Int.reduceBEq,Bool.false_and,Bool.true_and,Bool.and_false,Bool.and_true,Bool.not_true,Bool.not_false,Bool.or_true,Bool.true_or,Bool.false_or,Bool.or_false,if_true,if_false,e1,e1',h1t,h1b,e2,e2']
def rawFo (f:Fo):Int:=if 4000 < f.sz then 2 else if f.dp 100 then 5 else if f.shp then 0 else 6
theorem rawFo_c {f:Fo} (hok:f.Ok):Ret Q 7 [f.av] (.int .i64 (rawFo f)):=fun st => by
 refine callY (N:=14) (ok7 hK) (hK.nx _ _ _ rfl) rfl rfl ?_
 have h1:=size_c hK hok
 have h2:Ret Q 39 [f.av,.int .i64 100] (.bool (f.dp 100)):=deep_c hK 100 (Nat.le_refl _) f hok
 have h3:=shaped_c hK f hok
 unfold rawFo
 have e1:decide ((4000:Int) < (sizeT f:Int)) = decide (4000 < f.sz):=by
  unfold sizeT
  rw [Bool.eq_iff_iff,decide_eq_true_iff,decide_eq_true_iff]
  split <;> omega
 generalize sizeT f = z1 at *
 generalize f.sz = z2 at *
 generalize f.dp 100 = z3 at *
 generalize f.shp = z4 at *
 obtain ⟨kd,nm,ka,xs,ty,kl,ls⟩:=f
 obtain ⟨tn,tk,tx⟩:=ty
 simp only [RS,RT,RZ,Zu,rA,rB,rC,rD,rE,rF,reduceCtorEq,Zw,Fo.av,Ty.nm,Ty.k,Ty.xs] at h1 h2 h3
 by_cases e:4000 < z2
 ·rw [decide_eq_true e] at e1
  rw [if_pos e]
  simp only [RS,RT,RZ,Zu,rA,rB,rC,rD,rE,rF,reduceCtorEq,Zw,x7,F7,Fo.av,Ty.nm,Ty.k,Ty.xs,h1,e1]
 ·rw [decide_eq_false e] at e1
  rw [if_neg e]
  cases z3 with
  | true => simp only [RS,RT,RZ,Zu,rA,rB,rC,rD,rE,rF,reduceCtorEq,Zw,x7,F7,Fo.av,Ty.nm,Ty.k,Ty.xs,h1,e1,h2,if_true,if_false]
  | false =>
   cases z4 with
   | true => simp only [RS,RT,RZ,Zu,rA,rB,rC,rD,rE,rF,reduceCtorEq,Zw,x7,F7,Fo.av,Ty.nm,Ty.k,Ty.xs,h1,e1,h2,h3,Bool.false_eq_true,if_true,if_false]
   | false => simp only [RS,RT,RZ,Zu,rA,rB,rC,rD,rE,rF,reduceCtorEq,Zw,x7,F7,Fo.av,Ty.nm,Ty.k,Ty.xs,h1,e1,h2,h3,Bool.false_eq_true,if_true,if_false]
end
end Go.Proofs.L06

namespace Go.Proofs.L06
open Go Go.AE
open Nat renaming reduceLT → rA,reduceLeDiff → rB,reduceEqDiff → rC,reduceMul → rD,reduceAdd → rE,reduceSub → rF
set_option maxHeartbeats 8000000
theorem strLt_self:∀ a:List Nat,strLt a a = false
 | [] => rfl
 | a :: x => by rw [strLt,strLt_self x]; simp
theorem cmpS_N:∀ a b:List Nat,cmpS a b = cmpN a b
 | [],[] => rfl
 | [],_ :: _ => rfl
 | _ :: _,[] => rfl
 | a :: x,b :: y => by
  have ih:=cmpS_N x y
  unfold cmpS at ih ⊢
  rw [cmpN,← ih,strLt]
  by_cases h1:a < b
  ·have h2:a ≠ b:=by omega
   simp [h1,h2]
  ·by_cases h2:b < a
   ·have h3:a ≠ b:=by omega
    simp [h1,h2,h3]
   ·have h3:a = b:=by omega
    subst h3
    simp
theorem Ty.cmps_nil:∀ (xs ys:List Ty),xs = [] ∨ ys = [] → Ty.cmps xs ys = (xs.length:Int) - ys.length
 | [],ys,_ => by simp [Ty.cmps]
 | x :: xs,[],_ => by simp [Ty.cmps]
 | x :: xs,y :: ys,h => by simp at h
theorem Tm.cmpl_nil:∀ (xs ys:List Tm),xs = [] ∨ ys = [] → Tm.cmpl xs ys = (xs.length:Int) - ys.length
 | [],ys,_ => by simp [Tm.cmpl]
 | x :: xs,[],_ => by simp [Tm.cmpl]
 | x :: xs,y :: ys,h => by simp at h
theorem Fo.cmps_nil:∀ (xs ys:List Fo),xs = [] ∨ ys = [] → Fo.cmps xs ys = (xs.length:Int) - ys.length
 | [],ys,_ => by simp [Fo.cmps]
 | x :: xs,[],_ => by simp [Fo.cmps]
 | x :: xs,y :: ys,h => by simp at h
theorem minI {a b:Nat}:(if False then (if a < b then (b:Int) else (a:Int)) else (if b < a then (b:Int) else (a:Int))) = ((min a b:Nat):Int):=by
 rw [if_neg (fun h => h)]; split <;> (congr 1; omega)
theorem atom_raw {nm:List Nat} {xs:List Tm} (h:atomN nm xs = true):∀ t ∈ xs,rawTm t = 0:=fun t ht => by
 unfold atomN at h
 simp only [Bool.and_eq_true,Bool.not_eq_true'] at h
 have:=List.any_eq_false.1 h.2.2 t ht
 simpa using this
theorem raw_shp {f:Fo} (h:rawFo f = 0):f.shp = true:=by
 unfold rawFo at h
 split at h
 ·cases h
 ·split at h
  ·cases h
  ·split at h
   ·assumption
   ·cases h
section
variable {Q:Ctx} (hK:K Q)
include hK
theorem str177 {a b:List Nat}:Ret Q 177 [.str a,.str b] (.int .i64 (cmpN a b)):=fun st => by
 refine callY (N:=8) (ok177 hK) (hK.nx _ _ _ rfl) rfl rfl ?_
 have h:=x243_c hK (a:=a) (b:=b)
 rw [cmpS_N] at h
 simp only [RS,RT,RZ,Zu,rA,rB,rC,rD,rE,rF,reduceCtorEq,Zw,x177,F177,h]
theorem str107 {a b:List Nat}:Ret Q 107 [.str a,.str b] (.int .i64 (cmpN a b)):=fun st => by
 refine callY (N:=8) (ok107 hK) (hK.nx _ _ _ rfl) rfl rfl ?_
 have h:=str177 hK (a:=a) (b:=b)
 simp only [RS,RT,RZ,Zu,rA,rB,rC,rD,rE,rF,reduceCtorEq,Zw,x107,F107,h]
theorem nan306 {a:Int}:Ret Q 306 [.int .i64 a] (.bool false):=fun st => by
 refine callY (N:=6) (ok306 hK) (hK.nx _ _ _ rfl) rfl rfl ?_
 have e:(a != a) = false:=by simp
 simp only [RS,RT,RZ,Zu,rA,rB,rC,rD,rE,rF,reduceCtorEq,Zw,x306,F306,e]
theorem cmp245 {a b:Int}:Ret Q 245 [.int .i64 a,.int .i64 b] (.int .i64 (cmpI a b)):=fun st => by
 refine callY (N:=20) (ok245 hK) (hK.nx _ _ _ rfl) rfl rfl ?_
 have h1:=nan306 hK (a:=a)
 have h2:=nan306 hK (a:=b)
 unfold cmpI
 by_cases e1:a < b
 ·have f1:=decT e1
  rw [if_pos e1]
  simp only [RS,RT,RZ,Zu,rA,rB,rC,rD,rE,rF,reduceCtorEq,Zw,x245,F245,h1,h2,f1]
 ·have f1:=decF e1
  rw [if_neg e1]
  by_cases e2:b < a
  ·have f2:=decT e2
   rw [if_pos e2]
   simp only [RS,RT,RZ,Zu,rA,rB,rC,rD,rE,rF,reduceCtorEq,Zw,x245,F245,h1,h2,f1,f2]
  ·have f2:=decF e2
   rw [if_neg e2]
   simp only [RS,RT,RZ,Zu,rA,rB,rC,rD,rE,rF,reduceCtorEq,Zw,x245,F245,h1,h2,f1,f2]
theorem or244 {a b c d:Int}:Ret Q 244 [.slice .exact [.int .i64 a,.int .i64 b,.int .i64 c,.int .i64 d]] (.int .i64 (or0 a (or0 b (or0 c d)))):=fun st => by
 refine callY (N:=18) (ok244 hK) (hK.nx _ _ _ rfl) rfl rfl ?_
 obtain ⟨l,hl⟩:∃ l:List Int,l = [a,b,c,d]:=⟨_,rfl⟩
 have hs:([.int .i64 a,.int .i64 b,.int .i64 c,.int .i64 d]:List AV) = l.map fun n => .int .i64 n:=by rw [hl]; rfl
 have hr:or0 a (or0 b (or0 c d)) = l.foldr or0 0:=by
  rw [hl]
  simp only [List.foldr]
  congr 3
  unfold or0; split <;> simp_all
 have hlen:l.length < 10:=by rw [hl]; simp
 rw [hs,hr]
 clear hs hr hl
 simp only [RS,RT,RZ,Zu,rA,rB,rC,rD,rE,rF,reduceCtorEq,Zw,x244,y244,F244,List.length_map]
 refine post_bind (post_for (I:=fun i T st1 => T 3 = .int .i64 0 ∧ T 6 = .slice .exact (l.map fun n => .int .i64 n) ∧ T 7 = .int .i64 (l.length:Int) ∧ T 8 = .int .i64 (i:Int) ∧ st1 = ⟨st.heap,st.next,[]⟩ ∧ (l.drop i).foldr or0 0 = l.foldr or0 0)
  (Q:=fun e T st1 => st1 = ⟨st.heap,st.next,[]⟩ ∧ ((e = .ret ∧ T 2 = .int .i64 (l.foldr or0 0)) ∨ (e = .exit 0 ∧ T 3 = .int .i64 0 ∧ l.foldr or0 0 = 0))) l.length ?_ ?_ (Nat.zero_le _) ?_) ?_
 ·rintro i T _ hi ⟨t3,t6,t7,t8,rfl,hr⟩
  obtain ⟨x,hx⟩:∃ x,l[i]? = some x:=⟨_,List.getElem?_eq_getElem hi⟩
  have hget:(l.map fun n => AV.int .i64 n)[i]? = some (.int .i64 x):=by rw [List.getElem?_map,hx]; rfl
  rw [drop_cons hx,List.foldr_cons] at hr
  have hi2:=wrapUp (show i < 9223372036854775807 by omega)
  by_cases e:x = 0
  ·subst e
   simp only [RS,RT,RZ,Zu,rA,rB,rC,rD,rE,rF,reduceCtorEq,Zw,l244_0,m244_0,t3,t6,t7,t8,hi,hget,hi2]
   rw [← hr]; rfl
  ·have e':(x != 0) = true:=by rw [bne_iff_ne]; exact e
   rw [or0,if_neg e] at hr
   simp only [RS,RT,RZ,Zu,rA,rB,rC,rD,rE,rF,reduceCtorEq,Zw,l244_0,m244_0,t3,t6,t7,t8,hi,hget,hi2,e']
   rw [hr]
 ·rintro T _ ⟨t3,t6,t7,t8,rfl,hr⟩
  rw [List.drop_length,List.foldr_nil] at hr
  simp only [RS,RT,RZ,Zu,rA,rB,rC,rD,rE,rF,reduceCtorEq,Zw,l244_0,m244_0,t3,t6,t7,t8,hr.symm]
 ·simp only [RS,RT,RZ,Zu,rA,rB,rC,rD,rE,rF,reduceCtorEq,Zw,List.length_map]
 ·rintro e T _ ⟨rfl,⟨rfl,h4⟩ | ⟨rfl,h4,h5⟩⟩
  ·simp only [RS,RT,RZ,Zu,rA,rB,rC,rD,rE,rF,reduceCtorEq,Zw,h4]
  ·simp only [RS,RT,RZ,Zu,rA,rB,rC,rD,rE,rF,reduceCtorEq,Zw,h4,h5]
theorem lists179 {k k':SK} {xs ys:List Ty} (hl:xs.length < Big) (hl':ys.length < Big) {g:FuncId} (hg:(Q.fn g).isNone = false) {st:St}
  (hp:∀ x ∈ xs,∀ y ∈ ys,∀ lg,callW Q (.fn g) [x.av,y.av] .normal ⟨st.heap,st.next,lg⟩ = some (.ret (.int .i64 (x.cmp y)),⟨st.heap,st.next,lg⟩,none)) :
  callW Q (.fn 179) [.slice k (Ty.avs xs),.slice k' (Ty.avs ys),.func (.func g) [] []] .normal st = some (.ret (.int .i64 (Ty.cmps xs ys)),st,none):=by
 refine callY (N:=36) (ok179 hK) (hK.nx _ _ _ rfl) rfl rfl ?_
 obtain ⟨m,hm⟩:∃ m,m = min xs.length ys.length:=⟨_,rfl⟩
 have hmx:m ≤ xs.length:=by omega
 have hmy:m ≤ ys.length:=by omega
 have hsub:IntKind.i64.wrap ((xs.length:Int) - (ys.length:Int)) = (xs.length:Int) - ys.length:=wrap64 (by unfold Big at hl hl'; omega) (by unfold Big at hl hl'; omega)
 simp only [RS,RT,RZ,Zu,rA,rB,rC,rD,rE,rF,reduceCtorEq,Zw,x179,y179,kd179_0,F179,Ty.len,minI]
 rw [← hm]
 refine post_bind (post_for (I:=fun i T st1 => T 0 = .slice k (Ty.avs xs) ∧ T 1 = .slice k' (Ty.avs ys) ∧ T 2 = .func (.func g) [] [] ∧ T 13 = .int .i64 (m:Int) ∧ T 14 = .int .i64 (i:Int) ∧ st1 = ⟨st.heap,st.next,[]⟩ ∧ Ty.cmps (xs.drop i) (ys.drop i) = Ty.cmps xs ys)
  (Q:=fun e T st1 => st1 = ⟨st.heap,st.next,[]⟩ ∧ ((e = .ret ∧ T 6 = .int .i64 (Ty.cmps xs ys)) ∨ (e = .exit 0 ∧ T 0 = .slice k (Ty.avs xs) ∧ T 1 = .slice k' (Ty.avs ys) ∧ Ty.cmps xs ys = (xs.length:Int) - ys.length))) m ?_ ?_ (Nat.zero_le _) ?_) ?_
 ·rintro i T _ hi ⟨t0,t1,t2,t13,t14,rfl,hr⟩
  have hix:i < xs.length:=by omega
  have hiy:i < ys.length:=by omega
  obtain ⟨a,ha⟩:∃ a,xs[i]? = some a:=⟨_,List.getElem?_eq_getElem hix⟩
  obtain ⟨b,hb⟩:∃ b,ys[i]? = some b:=⟨_,List.getElem?_eq_getElem hiy⟩
  have hc:=hp a (List.mem_of_getElem? ha) b (List.mem_of_getElem? hb)
  have hga:=Ty.get ha
  have hgb:=Ty.get hb
  rw [drop_cons ha,drop_cons hb,Ty.cmps] at hr
  have hi2:=wrapUp (show i < 9223372036854775807 by unfold Big at hl; omega)
  generalize a.cmp b = z at hc hr
  obtain ⟨nm1,k1,xs1⟩:=a
  obtain ⟨nm2,k2,xs2⟩:=b
  rw [Ty.av] at hga hgb
  simp only [Ty.av] at hc
  by_cases e:z = 0
  ·subst e
   rw [or0,if_pos rfl] at hr
   simp only [RS,RT,RZ,Zu,rA,rB,rC,rD,rE,rF,reduceCtorEq,Zw,l179_0,m179_0,kd179_0,t0,t1,t2,t13,t14,hi,hga,hgb,hc,hi2,hg,hr]
  ·have e':(z != 0) = true:=by rw [bne_iff_ne]; exact e
   rw [or0,if_neg e] at hr
   rw [← hr]
   simp only [RS,RT,RZ,Zu,rA,rB,rC,rD,rE,rF,reduceCtorEq,Zw,l179_0,m179_0,kd179_0,t0,t1,t2,t13,t14,hi,hga,hgb,hc,hi2,hg,e']
 ·rintro T _ ⟨t0,t1,t2,t13,t14,rfl,hr⟩
  rw [Ty.cmps_nil _ _ (by
   rcases (show m = xs.length ∨ m = ys.length by omega) with e | e
   ·exact .inl (by rw [e,List.drop_length])
   ·exact .inr (by rw [e,List.drop_length]))] at hr
  have hr2:Ty.cmps xs ys = (xs.length:Int) - ys.length:=by
   rw [← hr,List.length_drop,List.length_drop]; omega
  simp only [RS,RT,RZ,Zu,rA,rB,rC,rD,rE,rF,reduceCtorEq,Zw,l179_0,m179_0,kd179_0,t0,t1,t2,t13,t14]
  exact hr2
 ·simp only [RS,RT,RZ,Zu,rA,rB,rC,rD,rE,rF,reduceCtorEq,Zw,]
 ·rintro e T _ ⟨rfl,⟨rfl,h4⟩ | ⟨rfl,h4,h5,h6⟩⟩
  ·simp only [RS,RT,RZ,Zu,rA,rB,rC,rD,rE,rF,reduceCtorEq,Zw,h4]
  ·simp only [RS,RT,RZ,Zu,rA,rB,rC,rD,rE,rF,reduceCtorEq,Zw,h4,h5,Ty.len,hsub,h6]
theorem lists108 {k k':SK} {xs ys:List Tm} (hl:xs.length < Big) (hl':ys.length < Big) {g:FuncId} (hg:(Q.fn g).isNone = false) {st:St}
  (hp:∀ x ∈ xs,∀ y ∈ ys,∀ lg,callW Q (.fn g) [x.av,y.av] .normal ⟨st.heap,st.next,lg⟩ = some (.ret (.int .i64 (x.cmp y)),⟨st.heap,st.next,lg⟩,none)) :
  callW Q (.fn 108) [.slice k (Tm.avs xs),.slice k' (Tm.avs ys),.func (.func g) [] []] .normal st = some (.ret (.int .i64 (Tm.cmpl xs ys)),st,none):=by
 refine callY (N:=36) (ok108 hK) (hK.nx _ _ _ rfl) rfl rfl ?_
 obtain ⟨m,hm⟩:∃ m,m = min xs.length ys.length:=⟨_,rfl⟩
 have hmx:m ≤ xs.length:=by omega
 have hmy:m ≤ ys.length:=by omega
 have hsub:IntKind.i64.wrap ((xs.length:Int) - (ys.length:Int)) = (xs.length:Int) - ys.length:=wrap64 (by unfold Big at hl hl'; omega) (by unfold Big at hl hl'; omega)
 simp only [RS,RT,RZ,Zu,rA,rB,rC,rD,rE,rF,reduceCtorEq,Zw,x108,y108,kd108_0,F108,Tm.len,minI]
 rw [← hm]
 refine post_bind (post_for (I:=fun i T st1 => T 0 = .slice k (Tm.avs xs) ∧ T 1 = .slice k' (Tm.avs ys) ∧ T 2 = .func (.func g) [] [] ∧ T 13 = .int .i64 (m:Int) ∧ T 14 = .int .i64 (i:Int) ∧ st1 = ⟨st.heap,st.next,[]⟩ ∧ Tm.cmpl (xs.drop i) (ys.drop i) = Tm.cmpl xs ys)
  (Q:=fun e T st1 => st1 = ⟨st.heap,st.next,[]⟩ ∧ ((e = .ret ∧ T 6 = .int .i64 (Tm.cmpl xs ys)) ∨ (e = .exit 0 ∧ T 0 = .slice k (Tm.avs xs) ∧ T 1 = .slice k' (Tm.avs ys) ∧ Tm.cmpl xs ys = (xs.length:Int) - ys.length))) m ?_ ?_ (Nat.zero_le _) ?_) ?_
 ·rintro i T _ hi ⟨t0,t1,t2,t13,t14,rfl,hr⟩
  have hix:i < xs.length:=by omega
  have hiy:i < ys.length:=by omega
  obtain ⟨a,ha⟩:∃ a,xs[i]? = some a:=⟨_,List.getElem?_eq_getElem hix⟩
  obtain ⟨b,hb⟩:∃ b,ys[i]? = some b:=⟨_,List.getElem?_eq_getElem hiy⟩
  have hc:=hp a (List.mem_of_getElem? ha) b (List.mem_of_getElem? hb)
  have hga:=Tm.get ha
  have hgb:=Tm.get hb
  rw [drop_cons ha,drop_cons hb,Tm.cmpl] at hr
  have hi2:=wrapUp (show i < 9223372036854775807 by unfold Big at hl; omega)
  generalize a.cmp b = z at hc hr
  obtain ⟨kd1,n1,nm1,k1,xs1⟩:=a
  obtain ⟨kd2,n2,nm2,k2,xs2⟩:=b
  rw [Tm.av] at hga hgb
  simp only [Tm.av] at hc
  by_cases e:z = 0
  ·subst e
   rw [or0,if_pos rfl] at hr
   simp only [RS,RT,RZ,Zu,rA,rB,rC,rD,rE,rF,reduceCtorEq,Zw,l108_0,m108_0,kd108_0,t0,t1,t2,t13,t14,hi,hga,hgb,hc,hi2,hg,hr]
  ·have e':(z != 0) = true:=by rw [bne_iff_ne]; exact e
   rw [or0,if_neg e] at hr
   rw [← hr]
   simp only [RS,RT,RZ,Zu,rA,rB,rC,rD,rE,rF,reduceCtorEq,Zw,l108_0,m108_0,kd108_0,t0,t1,t2,t13,t14,hi,hga,hgb,hc,hi2,hg,e']
 ·rintro T _ ⟨t0,t1,t2,t13,t14,rfl,hr⟩
  rw [Tm.cmpl_nil _ _ (by
   rcases (show m = xs.length ∨ m = ys.length by omega) with e | e
   ·exact .inl (by rw [e,List.drop_length])
   ·exact .inr (by rw [e,List.drop_length]))] at hr
  have hr2:Tm.cmpl xs ys = (xs.length:Int) - ys.length:=by
   rw [← hr,List.length_drop,List.length_drop]; omega
  simp only [RS,RT,RZ,Zu,rA,rB,rC,rD,rE,rF,reduceCtorEq,Zw,l108_0,m108_0,kd108_0,t0,t1,t2,t13,t14]
  exact hr2
 ·simp only [RS,RT,RZ,Zu,rA,rB,rC,rD,rE,rF,reduceCtorEq,Zw,]
 ·rintro e T _ ⟨rfl,⟨rfl,h4⟩ | ⟨rfl,h4,h5,h6⟩⟩
  ·simp only [RS,RT,RZ,Zu,rA,rB,rC,rD,rE,rF,reduceCtorEq,Zw,h4]
  ·simp only [RS,RT,RZ,Zu,rA,rB,rC,rD,rE,rF,reduceCtorEq,Zw,h4,h5,Tm.len,hsub,h6]
theorem lists111 {k k':SK} {xs ys:List Fo} (hl:xs.length < Big) (hl':ys.length < Big) {g:FuncId} (hg:(Q.fn g).isNone = false) {st:St}
  (hp:∀ x ∈ xs,∀ y ∈ ys,∀ lg,callW Q (.fn g) [x.av,y.av] .normal ⟨st.heap,st.next,lg⟩ = some (.ret (.int .i64 (x.cmp y)),⟨st.heap,st.next,lg⟩,none)) :
  callW Q (.fn 111) [.slice k (Fo.avs xs),.slice k' (Fo.avs ys),.func (.func g) [] []] .normal st = some (.ret (.int .i64 (Fo.cmps xs ys)),st,none):=by
 refine callY (N:=36) (ok111 hK) (hK.nx _ _ _ rfl) rfl rfl ?_
 obtain ⟨m,hm⟩:∃ m,m = min xs.length ys.length:=⟨_,rfl⟩
 have hmx:m ≤ xs.length:=by omega
 have hmy:m ≤ ys.length:=by omega
 have hsub:IntKind.i64.wrap ((xs.length:Int) - (ys.length:Int)) = (xs.length:Int) - ys.length:=wrap64 (by unfold Big at hl hl'; omega) (by unfold Big at hl hl'; omega)
 simp only [RS,RT,RZ,Zu,rA,rB,rC,rD,rE,rF,reduceCtorEq,Zw,x111,y111,kd111_0,F111,Fo.len,minI]
 rw [← hm]
 refine post_bind (post_for (I:=fun i T st1 => T 0 = .slice k (Fo.avs xs) ∧ T 1 = .slice k' (Fo.avs ys) ∧ T 2 = .func (.func g) [] [] ∧ T 13 = .int .i64 (m:Int) ∧ T 14 = .int .i64 (i:Int) ∧ st1 = ⟨st.heap,st.next,[]⟩ ∧ Fo.cmps (xs.drop i) (ys.drop i) = Fo.cmps xs ys)
  (Q:=fun e T st1 => st1 = ⟨st.heap,st.next,[]⟩ ∧ ((e = .ret ∧ T 6 = .int .i64 (Fo.cmps xs ys)) ∨ (e = .exit 0 ∧ T 0 = .slice k (Fo.avs xs) ∧ T 1 = .slice k' (Fo.avs ys) ∧ Fo.cmps xs ys = (xs.length:Int) - ys.length))) m ?_ ?_ (Nat.zero_le _) ?_) ?_
 ·rintro i T _ hi ⟨t0,t1,t2,t13,t14,rfl,hr⟩
  have hix:i < xs.length:=by omega
  have hiy:i < ys.length:=by omega
  obtain ⟨a,ha⟩:∃ a,xs[i]? = some a:=⟨_,List.getElem?_eq_getElem hix⟩
  obtain ⟨b,hb⟩:∃ b,ys[i]? = some b:=⟨_,List.getElem?_eq_getElem hiy⟩
  have hc:=hp a (List.mem_of_getElem? ha) b (List.mem_of_getElem? hb)
  have hga:=Fo.get ha
  have hgb:=Fo.get hb
  rw [drop_cons ha,drop_cons hb,Fo.cmps] at hr
  have hi2:=wrapUp (show i < 9223372036854775807 by unfold Big at hl; omega)
  generalize a.cmp b = z at hc hr
  obtain ⟨kd1,nm1,ka1,xs1,ty1,kl1,ls1⟩:=a
  obtain ⟨kd2,nm2,ka2,xs2,ty2,kl2,ls2⟩:=b
  rw [Fo.av] at hga hgb
  simp only [Fo.av] at hc
  by_cases e:z = 0
  ·subst e
   rw [or0,if_pos rfl] at hr
   simp only [RS,RT,RZ,Zu,rA,rB,rC,rD,rE,rF,reduceCtorEq,Zw,l111_0,m111_0,kd111_0,t0,t1,t2,t13,t14,hi,hga,hgb,hc,hi2,hg,hr]
  ·have e':(z != 0) = true:=by rw [bne_iff_ne]; exact e
   rw [or0,if_neg e] at hr
   rw [← hr]
   simp only [RS,RT,RZ,Zu,rA,rB,rC,rD,rE,rF,reduceCtorEq,Zw,l111_0,m111_0,kd111_0,t0,t1,t2,t13,t14,hi,hga,hgb,hc,hi2,hg,e']
 ·rintro T _ ⟨t0,t1,t2,t13,t14,rfl,hr⟩
  rw [Fo.cmps_nil _ _ (by
   rcases (show m = xs.length ∨ m = ys.length by omega) with e | e
   ·exact .inl (by rw [e,List.drop_length])
   ·exact .inr (by rw [e,List.drop_length]))] at hr
  have hr2:Fo.cmps xs ys = (xs.length:Int) - ys.length:=by
   rw [← hr,List.length_drop,List.length_drop]; omega
  simp only [RS,RT,RZ,Zu,rA,rB,rC,rD,rE,rF,reduceCtorEq,Zw,l111_0,m111_0,kd111_0,t0,t1,t2,t13,t14]
  exact hr2
 ·simp only [RS,RT,RZ,Zu,rA,rB,rC,rD,rE,rF,reduceCtorEq,Zw,]
 ·rintro e T _ ⟨rfl,⟨rfl,h4⟩ | ⟨rfl,h4,h5,h6⟩⟩
  ·simp only [RS,RT,RZ,Zu,rA,rB,rC,rD,rE,rF,reduceCtorEq,Zw,h4]
  ·simp only [RS,RT,RZ,Zu,rA,rB,rC,rD,rE,rF,reduceCtorEq,Zw,h4,h5,Fo.len,hsub,h6]
theorem cmpf246 {k k':SK} {xs ys:List Tm} (hl:xs.length < Big) (hl':ys.length < Big) {st:St}
  (hp:∀ x ∈ xs,∀ y ∈ ys,Ret Q 178 [x.av,y.av] (.int .i64 (x.cmp y))) :
  callW Q (.fn 246) [.slice k (Tm.avs xs),.slice k' (Tm.avs ys),.func (.func 178) [] []] .normal st = some (.ret (.int .i64 (Tm.cmps xs ys)),st,none):=by
 refine callY (N:=39) (ok246 hK) (hK.nx _ _ _ rfl) rfl rfl ?_
 simp only [RS,RT,RZ,Zu,rA,rB,rC,rD,rE,rF,reduceCtorEq,Zw,x246,y246,F246,Tm.len]
 refine post_bind (post_for (I:=fun i T st1 => T 0 = .slice k (Tm.avs xs) ∧ T 1 = .slice k' (Tm.avs ys) ∧ T 2 = .func (.func 178) [] [] ∧ T 11 = .slice k (Tm.avs xs) ∧ T 12 = .int .i64 (xs.length:Int) ∧ T 13 = .int .i64 (i:Int) ∧ Wr (fun _ => False) ⟨st.heap,st.next,[]⟩ st1 ∧ i ≤ ys.length ∧ Tm.cmps (xs.drop i) (ys.drop i) = Tm.cmps xs ys)
  (Q:=fun e T st1 => Wr (fun _ => False) ⟨st.heap,st.next,[]⟩ st1 ∧ ((e = .ret ∧ T 6 = .int .i64 (Tm.cmps xs ys)) ∨ (e = .exit 0 ∧ T 0 = .slice k (Tm.avs xs) ∧ T 1 = .slice k' (Tm.avs ys) ∧ Tm.cmps xs ys = (if xs.length < ys.length then -1 else 0)))) xs.length ?_ ?_ (Nat.zero_le _) ?_) ?_
 ·rintro i T ⟨h,nx,lg⟩ hi ⟨t0,t1,t2,t11,t12,t13,hw,hle,hr⟩
  obtain ⟨a,ha⟩:∃ a,xs[i]? = some a:=⟨_,List.getElem?_eq_getElem hi⟩
  have hga:=Tm.get ha
  have hi2:=wrapUp (show i < 9223372036854775807 by unfold Big at hl; omega)
  by_cases hiy:i < ys.length
  ·obtain ⟨b,hb⟩:∃ b,ys[i]? = some b:=⟨_,List.getElem?_eq_getElem hiy⟩
   have hc:=hp a (List.mem_of_getElem? ha) b (List.mem_of_getElem? hb)
   have hgb:=Tm.get hb
   have hiy2:=decF (show ¬ (ys.length ≤ i) by omega)
   rw [drop_cons ha,drop_cons hb,Tm.cmps] at hr
   generalize a.cmp b = z at hc hr
   obtain ⟨kd1,n1,nm1,k1,xs1⟩:=a
   obtain ⟨kd2,n2,nm2,k2,xs2⟩:=b
   rw [Tm.av] at hga hgb
   simp only [Tm.av] at hc
   by_cases e:z = 0
   ·subst e
    rw [or0,if_pos rfl] at hr
    simp only [RS,RT,RZ,Zu,rA,rB,rC,rD,rE,rF,reduceCtorEq,Zw,l246_0,m246_0,t0,t1,t2,t11,t12,t13,hi,hga,hgb,hc,hi2,hiy,hiy2,Tm.len,fnis hK (ok178 hK)]
    exact ⟨hw.new.new,by omega,hr⟩
   ·have e':(z != 0) = true:=by rw [bne_iff_ne]; exact e
    rw [or0,if_neg e] at hr
    rw [← hr]
    simp only [RS,RT,RZ,Zu,rA,rB,rC,rD,rE,rF,reduceCtorEq,Zw,l246_0,m246_0,t0,t1,t2,t11,t12,t13,hi,hga,hgb,hc,hi2,hiy,hiy2,Tm.len,e',fnis hK (ok178 hK)]
    exact hw.new.new
  ·have hiy2:=decT (show (ys.length ≤ i) by omega)
   have hd:ys.drop i = []:=List.drop_eq_nil_of_le (by omega)
   rw [drop_cons ha,hd,Tm.cmps] at hr
   obtain ⟨kd1,n1,nm1,k1,xs1⟩:=a
   rw [Tm.av] at hga
   rw [← hr]
   simp only [RS,RT,RZ,Zu,rA,rB,rC,rD,rE,rF,reduceCtorEq,Zw,l246_0,m246_0,t0,t1,t2,t11,t12,t13,hi,hga,hi2,hiy2,Tm.len]
   exact hw.new
 ·rintro T ⟨h,nx,lg⟩ ⟨t0,t1,t2,t11,t12,t13,hw,hle,hr⟩
  rw [List.drop_length] at hr
  have hr2:Tm.cmps xs ys = (if xs.length < ys.length then -1 else 0):=by
   rw [← hr]
   cases hd:ys.drop xs.length with
   | nil =>
    have:=congrArg List.length hd
    rw [List.length_drop,List.length_nil] at this
    rw [if_neg (by omega),Tm.cmps]
   | cons b l =>
    have:=congrArg List.length hd
    rw [List.length_drop,List.length_cons] at this
    rw [if_pos (by omega),Tm.cmps]
  simp only [RS,RT,RZ,Zu,rA,rB,rC,rD,rE,rF,reduceCtorEq,Zw,l246_0,m246_0,t0,t1,t2,t11,t12,t13]
  exact ⟨hw,hr2⟩
 ·simp only [RS,RT,RZ,Zu,rA,rB,rC,rD,rE,rF,reduceCtorEq,Zw,]
  exact Wr.refl _
 ·rintro e T ⟨h,nx,lg⟩ ⟨hw,hh⟩
  have hlg:∀ q ∈ lg,st.next ≤ q:=fun q hq => by
   rcases hw.log q hq with h | h | h
   ·cases h
   ·exact h.elim
   ·exact h
  rcases hh with ⟨rfl,h4⟩ | ⟨rfl,h4,h5,h6⟩
  ·simp only [RS,RT,RZ,Zu,rA,rB,rC,rD,rE,rF,reduceCtorEq,Zw,h4]
   exact hlg
  ·by_cases e:xs.length < ys.length
   ·have e':=decT e
    rw [if_pos e] at h6
    simp only [RS,RT,RZ,Zu,rA,rB,rC,rD,rE,rF,reduceCtorEq,Zw,h4,h5,Tm.len,e',h6]
    exact hlg
   ·have e':=decF e
    rw [if_neg e] at h6
    simp only [RS,RT,RZ,Zu,rA,rB,rC,rD,rE,rF,reduceCtorEq,Zw,h4,h5,Tm.len,e',h6]
    exact hlg
theorem cmp178 (t:Tm):t.Ok → ∀ u:Tm,u.Ok → Ret Q 178 [t.av,u.av] (.int .i64 (t.cmp u)):=by
 induction t using Tm.ind with
 | _ kd n nm k xs ih =>
 intro hok u hok' st
 refine callY (N:=38) (ok178 hK) (hK.nx _ _ _ rfl) rfl rfl ?_
 obtain ⟨kd',n',nm',k',ys⟩:=u
 obtain ⟨_,_,_,_,hl,hoks⟩:=hok
 obtain ⟨_,_,_,_,hl',hoks'⟩:=hok'
 have h1:=cmp245 hK (a:=kd) (b:=kd')
 have h2:=cmp245 hK (a:=n) (b:=n')
 have h3:=str107 hK (a:=nm) (b:=nm')
 have h4:=cmp245 hK (a:=(xs.length:Int)) (b:=(ys.length:Int))
 have h5:=or244 hK (a:=cmpI kd kd') (b:=cmpI n n') (c:=cmpN nm nm') (d:=cmpI xs.length ys.length)
 have h6:=fun st => cmpf246 hK (k:=k) (k':=k') (st:=st) hl hl' fun x hx y hy => ih x hx (Tm.oks hoks x hx) y (Tm.oks hoks' y hy)
 rw [Tm.cmp]
 generalize or0 (cmpI kd kd') (or0 (cmpI n n') (or0 (cmpN nm nm') (cmpI xs.length ys.length))) = z at *
 by_cases e:z = 0
 ·subst e
  rw [or0,if_pos rfl]
  simp only [RS,RT,RZ,Zu,rA,rB,rC,rD,rE,rF,reduceCtorEq,Zw,x178,y178,kd178_0,k178_0,F178,Tm.av,Tm.len,h1,h2,h3,h4,h5,h6]
 ·have e':(z != 0) = true:=by rw [bne_iff_ne]; exact e
  rw [or0,if_neg e]
  simp only [RS,RT,RZ,Zu,rA,rB,rC,rD,rE,rF,reduceCtorEq,Zw,x178,y178,kd178_0,k178_0,F178,Tm.av,Tm.len,h1,h2,h3,h4,h5,h6,e']
theorem cmp109 {t u:Tm} (ht:t.Ok) (hu:u.Ok) (rt:rawTm t = 0) (ru:rawTm u = 0):Ret Q 109 [t.av,u.av] (.int .i64 (t.cmp u)):=fun st => by
 refine callY (N:=25) (ok109 hK) (hK.nx _ _ _ rfl) rfl rfl ?_
 have h1:=rawTm_c hK ht
 have h2:=rawTm_c hK hu
 have h3:=cmp178 hK t ht u hu
 rw [rt] at h1
 rw [ru] at h2
 generalize t.cmp u = z at *
 obtain ⟨kd,n,nm,k,xs⟩:=t
 obtain ⟨kd',n',nm',k',ys⟩:=u
 simp only [Tm.av] at h1 h2 h3
 simp only [RS,RT,RZ,Zu,rA,rB,rC,rD,rE,rF,reduceCtorEq,Zw,x109,y109,kd109_0,k109_0,F109,Tm.av,h1,h2,h3]
theorem cmp110 (t:Ty):t.Ok → ∀ u:Ty,u.Ok → Ret Q 110 [t.av,u.av] (.int .i64 (t.cmp u)):=by
 induction t using Ty.ind with
 | _ nm k xs ih =>
 intro hok u hok' st
 refine callY (N:=30) (ok110 hK) (hK.nx _ _ _ rfl) rfl rfl ?_
 obtain ⟨nm',k',ys⟩:=u
 obtain ⟨_,_,hl,hoks⟩:=hok
 obtain ⟨_,_,hl',hoks'⟩:=hok'
 have h1:=str107 hK (a:=nm) (b:=nm')
 have h2:=fun st => lists179 hK (k:=k) (k':=k') (g:=110) (st:=st) hl hl' (fnis hK (ok110 hK)) fun x hx y hy lg => ih x hx (Ty.oks hoks x hx) y (Ty.oks hoks' y hy) _
 obtain ⟨z2,hz2⟩:∃ z2,z2 = (xs.length:Int) - ys.length:=⟨_,rfl⟩
 have hsub:IntKind.i64.wrap ((xs.length:Int) - (ys.length:Int)) = z2:=by rw [hz2]; exact wrap64 (by unfold Big at hl hl'; omega) (by unfold Big at hl hl'; omega)
 rw [Ty.cmp,← hz2]
 clear hz2
 generalize cmpN nm nm' = z1 at *
 by_cases e:z1 = 0
 ·subst e
  rw [or0,if_pos rfl]
  by_cases e2:z2 = 0
  ·subst e2
   rw [or0,if_pos rfl]
   simp only [RS,RT,RZ,Zu,rA,rB,rC,rD,rE,rF,reduceCtorEq,Zw,x110,F110,Ty.av,Ty.len,h1,h2,hsub]
  ·have e2':(z2 != 0) = true:=by rw [bne_iff_ne]; exact e2
   rw [or0,if_neg e2]
   simp only [RS,RT,RZ,Zu,rA,rB,rC,rD,rE,rF,reduceCtorEq,Zw,x110,F110,Ty.av,Ty.len,h1,h2,hsub,e2']
 ·have e':(z1 != 0) = true:=by rw [bne_iff_ne]; exact e
  rw [or0,if_neg e]
  simp only [RS,RT,RZ,Zu,rA,rB,rC,rD,rE,rF,reduceCtorEq,Zw,x110,F110,Ty.av,Ty.len,h1,e']
theorem sign_c {n:Int}:Ret Q 52 [.int .i64 n] (.int .i64 (sg n)):=fun st => by
 refine callY (N:=6) (ok52 hK) (hK.nx _ _ _ rfl) rfl rfl ?_
 simp only [RS,RT,RZ,Zu,rA,rB,rC,rD,rE,rF,reduceCtorEq,Zw,x52,F52,ofV,ofCell,if_true,if_false]
 rw [show sg n = (if -1 < if n < 1 then n else 1 then if n < 1 then n else 1 else -1) by
  unfold sg
  by_cases h1:n < 1
  ·rw [if_pos h1]
   split <;> omega
  ·rw [if_neg h1,if_pos (by decide)]; omega]
theorem cmp50 (f:Fo):f.Ok → f.shp = true → ∀ g:Fo,g.Ok → g.shp = true → Ret Q 50 [f.av,g.av] (.int .i64 (f.cmp g)):=by
 induction f using Fo.ind with
 | _ kd nm ka xs ty kl ls ih =>
 intro hok hsh g hok' hsh' st
 refine callY (N:=57) (ok50 hK) (hK.nx _ _ _ rfl) rfl rfl ?_
 obtain ⟨kd',nm',ka',xs',ty',kl',ls'⟩:=g
 obtain ⟨hn,_,_,hl,hoks,hty,_,hl2,hoks2⟩:=hok
 obtain ⟨hn',_,_,hl',hoks',hty',_,hl2',hoks2'⟩:=hok'
 rw [Fo.shp] at hsh hsh'
 simp only [Bool.and_eq_true,beq_iff_eq,Bool.not_eq_true'] at hsh hsh'
 rw [Fo.bads_any] at hsh hsh'
 have hb:∀ {l:List Fo},(l.any fun t => !t.shp) = false → ∀ x ∈ l,x.shp = true:=fun {l} h x hx => by
  have:=List.any_eq_false.1 h x hx
  simpa using this
 have h1:=str107 hK (a:=nm) (b:=nm')
 have h2:=cmp110 hK ty hty ty' hty'
 have h3:=fun st => lists111 hK (k:=kl) (k':=kl') (g:=50) (st:=st) hl2 hl2' (fnis hK (ok50 hK)) fun x hx y hy lg => ih x hx (Fo.oks hoks2 x hx) (hb hsh.2.2.2 x hx) y (Fo.oks hoks2' y hy) (hb hsh'.2.2.2 y hy) _
 obtain ⟨z2,hz2⟩:∃ z2,z2 = (xs.length:Int) - xs'.length:=⟨_,rfl⟩
 have hsub:IntKind.i64.wrap ((xs.length:Int) - (xs'.length:Int)) = z2:=by rw [hz2]; exact wrap64 (by unfold Big at hl hl'; omega) (by unfold Big at hl hl'; omega)
 have hkd:∀ {kd:Int} {n:Nat},prts kd = (n:Int) → 0 ≤ kd ∧ kd ≤ 12:=fun {kd n} h => by
  unfold prts at h
  split at h
  ·omega
  ·split at h
   ·omega
   ·split at h <;> omega
 have k1:=hkd hsh.1
 have k2:=hkd hsh'.1
 have hsubk:IntKind.i64.wrap (kd - kd') = kd - kd':=wrap64 (by omega) (by omega)
 simp only [Fo.cmp]
 by_cases e:kd = kd'
 ·subst e
  rw [if_pos rfl]
  by_cases e1:kd = 1
  ·subst e1
   have h4:=fun st => lists108 hK (k:=ka) (k':=ka') (g:=109) (st:=st) hl hl' (fnis hK (ok109 hK)) fun x hx y hy lg => cmp109 hK (Tm.oks hoks x hx) (Tm.oks hoks' y hy) (atom_raw (nm:=nm) hsh.2.1 x hx) (atom_raw (nm:=nm') hsh'.2.1 y hy) _
   rw [if_pos rfl,← hz2]
   clear hz2
   generalize cmpN nm nm' = z1 at *
   by_cases e:z1 = 0
   ·subst e
    rw [or0,if_pos rfl]
    by_cases e2:z2 = 0
    ·subst e2
     rw [or0,if_pos rfl]
     simp only [RS,RT,RZ,Zu,rA,rB,rC,rD,rE,rF,reduceCtorEq,Zw,x50,F50,Fo.av,Tm.len,Int.reduceBEq,h1,h4,hsub]
    ·have e2':(z2 != 0) = true:=by rw [bne_iff_ne]; exact e2
     rw [or0,if_neg e2]
     simp only [RS,RT,RZ,Zu,rA,rB,rC,rD,rE,rF,reduceCtorEq,Zw,x50,F50,Fo.av,Tm.len,Int.reduceBEq,h1,hsub,e2']
   ·have e':(z1 != 0) = true:=by rw [bne_iff_ne]; exact e
    rw [or0,if_neg e]
    simp only [RS,RT,RZ,Zu,rA,rB,rC,rD,rE,rF,reduceCtorEq,Zw,x50,F50,Fo.av,Tm.len,Int.reduceBEq,h1,e']
  ·rw [if_neg e1]
   have e1':(kd == 1) = false:=by rw [beq_eq_false_iff_ne]; exact e1
   have e0:(kd != kd) = false:=by simp
   generalize ty.cmp ty' = z1 at *
   obtain ⟨tn,tk,tx⟩:=ty
   obtain ⟨tn',tk',tx'⟩:=ty'
   simp only [Ty.av] at h2
   by_cases e:z1 = 0
   ·subst e
    rw [or0,if_pos rfl]
    simp only [RS,RT,RZ,Zu,rA,rB,rC,rD,rE,rF,reduceCtorEq,Zw,x50,F50,Fo.av,Ty.nm,Ty.k,Ty.xs,e0,e1',h2,h3]
   ·have e':(z1 != 0) = true:=by rw [bne_iff_ne]; exact e
    rw [or0,if_neg e]
    simp only [RS,RT,RZ,Zu,rA,rB,rC,rD,rE,rF,reduceCtorEq,Zw,x50,F50,Fo.av,Ty.nm,Ty.k,Ty.xs,e0,e1',h2,e']
 ·have e':(kd != kd') = true:=by rw [bne_iff_ne]; exact e
  rw [if_neg e]
  simp only [RS,RT,RZ,Zu,rA,rB,rC,rD,rE,rF,reduceCtorEq,Zw,x50,F50,Fo.av,e',hsubk]
theorem cmp15 {f g:Fo} (hf:f.Ok) (hg:g.Ok) (rf:rawFo f = 0) (rg:rawFo g = 0):Ret Q 15 [f.av,g.av] (.int .i64 (sg (f.cmp g))):=fun st => by
 refine callY (N:=26) (ok15 hK) (hK.nx _ _ _ rfl) rfl rfl ?_
 have h1:=rawFo_c hK hf
 have h2:=rawFo_c hK hg
 have h3:=cmp50 hK f hf (raw_shp rf) g hg (raw_shp rg)
 rw [rf] at h1
 rw [rg] at h2
 generalize f.cmp g = z at *
 have h4:=sign_c hK (n:=z)
 obtain ⟨kd,nm,ka,xs,ty,kl,ls⟩:=f
 obtain ⟨kd',nm',ka',xs',ty',kl',ls'⟩:=g
 simp only [Fo.av] at h1 h2 h3
 simp only [RS,RT,RZ,Zu,rA,rB,rC,rD,rE,rF,reduceCtorEq,Zw,x15,y15,kd15_0,k15_0,F15,Fo.av,Int.reduceBEq,h1,h2,h3,h4]
end
end Go.Proofs.L06
