/- An abstract interpreter over a loaded program and its soundness against the model, part 4: for every context that fits the program. -/
import Derived.Test.YtdlahjpoiichkaaGreatDoorE3
import Derived.Orders
set_option linter.unusedVariables false
set_option linter.unusedSimpArgs false
set_option linter.unusedSectionVars false
namespace Go.AE
open Go
def SameStep (st st' st2 st2':St):Prop:=(st' = st ∧ st2' = st2) ∨ ∃ o,st' = st.push o ∧ st2' = st2.push o
section
variable {C:Ctx} {st st2:St} {mu ro:Bool} {fr:Fr} {o:Oper} {q:OPR}
theorem ov_same {r:Option AV} (h:ov st r = some q):∃ v st' st2',q = .val v st' ∧ ov st2 r = some (.val v st2') ∧ SameStep st st' st2 st2':=by
 cases r with
 | none => cases h
 | some v => cases h; exact ⟨v,st,st2,rfl,rfl,.inl ⟨rfl,rfl⟩⟩
theorem quiet_frame (hq:quietOp C o.op = true) (h:opA C mu ro fr st o = some q) (hn:st2.next = st.next):∃ v st' st2',q = .val v st' ∧ opA C mu ro fr st2 o = some (.val v st2') ∧ SameStep st st' st2 st2':=by
 unfold opA at h ⊢
 cases hop:o.op <;> simp only [hop,quietOp] at h hq ⊢ <;> (try (cases hq; done)) <;> (try (exact ov_same h))
 case move x => cases h; exact ⟨_,_,_,rfl,rfl,.inl ⟨rfl,rfl⟩⟩
 case assign x => cases h; exact ⟨_,_,_,rfl,rfl,.inl ⟨rfl,rfl⟩⟩
 case pick c x y => split at h <;> first | (cases h; exact ⟨_,_,_,rfl,rfl,.inl ⟨rfl,rfl⟩⟩) | cases h
 case alloc e =>
  cases he:C.ty e with
  | none => simp [he] at h
  | some ei =>
   simp only [he,Option.map_some,Option.some.injEq] at h
   subst h
   exact ⟨_,_,_,rfl,by rw [hn]; rfl,.inr ⟨_,rfl,rfl⟩⟩
 case box e x =>
  split at h
  ·cases h
  ·rename_i hb
   cases h
   exact ⟨_,_,_,rfl,by rw [if_neg hb,hn],.inr ⟨_,rfl,rfl⟩⟩
 case makeMap t r =>
  split at h
  ·cases h
  ·rename_i hb
   cases h
   exact ⟨_,_,_,rfl,by rw [if_neg hb,hn],.inr ⟨_,rfl,rfl⟩⟩
 case nilCheck x => split at h <;> first | (cases h; exact ⟨_,_,_,rfl,rfl,.inl ⟨rfl,rfl⟩⟩) | cases h
 case makeInterface t x => split at h <;> first | (cases h; exact ⟨_,_,_,rfl,rfl,.inl ⟨rfl,rfl⟩⟩) | cases h
 case makeFunc fn first captured => split at h <;> first | (cases h; exact ⟨_,_,_,rfl,rfl,.inl ⟨rfl,rfl⟩⟩) | cases h
 case indexAddr t x i => split at h <;> first | exact ov_same h | cases h
 case index t x i => split at h <;> first | exact ov_same h | cases h
 case extract x i => split at h <;> first | exact ov_same h | cases h
 case buildSlice t len parts =>
  unfold buildSliceA at h ⊢
  split at h
  ·rename_i e ei he
   split at h
   ·rename_i hc
    split at h
    ·rename_i es hes
     split at h
     ·rename_i hm
      split at h
      ·rename_i hp
       cases h
       exact ⟨_,_,_,rfl,by simp only [if_pos hc,hes,if_pos hm,if_pos hp,hn,ovs,Option.map_some],.inr ⟨_,rfl,rfl⟩⟩
      ·cases h
     ·rename_i hm
      cases h
      exact ⟨_,_,_,rfl,by simp only [if_pos hc,hes,if_neg hm,ovs,Option.map_some],.inl ⟨rfl,rfl⟩⟩
    ·cases h
   ·cases h
  ·cases h
 case makeSlice t l c =>
  unfold makeSliceA at h ⊢
  split at h
  ·split at h
   ·rename_i hc
    cases h
    exact ⟨_,_,_,rfl,by simp only [if_pos hc,hn,ovs,Option.map_some],.inr ⟨_,rfl,rfl⟩⟩
   ·cases h
  ·cases h
 case convert s d x =>
  have e:convA C st s d (oval C fr x) = convA C st2 s d (oval C fr x):=by
   unfold convA
   cases C.ty s with
   | none => rfl
   | some si =>
    cases hd:C.ty d with
    | none => rfl
    | some di =>
     obtain ⟨u,z1,z2,z3,z4,z5⟩:=di
     rw [hd] at hq
     cases u <;> simp at hq <;> (obtain ⟨u2,y1,y2,y3,y4,y5⟩:=si; cases u2 <;> cases oval C fr x <;> rfl)
  rw [← e]
  exact ov_same h
 case slice t x lo hi mx =>
  split at h
  ·rename_i lo' hi' mx' h1 h2 h3
   have e:sliceA C st t (oval C fr x) lo' hi' mx' = sliceA C st2 t (oval C fr x) lo' hi' mx':=by
    unfold sliceA
    cases ht:C.ty t with
    | none => rfl
    | some ti =>
     rw [ht] at hq
     obtain ⟨u,z1,z2,z3,z4,z5⟩:=ti
     cases u <;> simp at hq <;> rfl
   rw [← e]
   exact ov_same h
  ·cases h
 case call c =>
  cases hc:c.callee with
  | value f => rw [hc] at h; cases h
  | invoke r n => rw [hc] at h; cases h
  | builtin b =>
   rw [hc] at h
   simp only at h ⊢
   obtain ⟨callee,cargs,cts⟩:=c
   simp only at hc
   subst hc
   simp only at h hq ⊢
   unfold builtinA at h ⊢
   cases b <;> simp at hq
   case len =>
    cases hl:cargs.toList.map (oval C fr) with
    | nil => rw [hl] at h; cases h
    | cons x r =>
     rw [hl] at h
     cases r with
     | cons _ _ => cases h
     | nil =>
      simp only at h ⊢
      cases hts:cts.toList with
      | nil => rw [hts] at h; cases h
      | cons t ts =>
       rw [hts] at h
       simp only at h ⊢
       have ht0:cts[0]? = some t:=by rw [← Array.getElem?_toList,hts]; rfl
       rw [ht0] at hq
       simp only at hq
       have e:lenA C st t x = lenA C st2 t x:=by
        unfold lenA
        cases ht:C.ty t with
        | none => rfl
        | some ti =>
         rw [ht] at hq
         obtain ⟨u,z1,z2,z3,z4,z5⟩:=ti
         cases u <;> simp at hq <;> cases x <;> rfl
       rw [← e]
       exact ov_same h
   case max =>
    cases hl:cargs.toList.map (oval C fr) with
    | nil => rw [hl] at h; cases h
    | cons x r =>
     rw [hl] at h
     exact ov_same h
   case min =>
    cases hl:cargs.toList.map (oval C fr) with
    | nil => rw [hl] at h; cases h
    | cons x r =>
     rw [hl] at h
     exact ov_same h
end
end Go.AE

namespace Go.AE
open Go
def updObj (C:Ctx) (kt:TypeId) (k v:AV) (fresh:Bool):AO → Option AO
 | .amap es clock => (match findA C kt k es 0 with
  | some (some (i,_)) => if fresh then none else some (.amap (setAt k v i es) clock)
  | some none => if fresh then (if es.isEmpty && cleanE [(k,v)] then some (.lmap [(k,v)]) else none) else some (.amap (es ++ [(k,v,clock)]) (clock + 1))
  | none => none)
 | .lmap es => (match findA C kt k (zer es) 0 with
  | some (some (i,_)) => if fresh then none else some (.lmap (unz (setAt k v i (zer es))))
  | some none => if fresh && !cleanE (es ++ [(k,v)]) then none else some (.lmap (es ++ [(k,v)]))
  | none => none)
 | _ => none
def updMap (C:Ctx) (k v:AV) (fresh:Bool) (ti:Option TI) (o:AO):Option AO :=
 match ti with
 | some { und:=.map kt _,.. } => if (keyEq C kt k k).isSome then updObj C kt k v fresh o else none
 | _ => none
theorem mapUpd_obj {C:Ctx} {st:St} {t:TypeId} {l:Nat} {k v:AV} {fresh:Bool}:mapUpd C st t (.map l) k v fresh = (updMap C k v fresh (C.ty t) (st.heap l)).map (st.set l):=by
 unfold mapUpd updMap
 cases C.ty t with
 | none => rfl
 | some ti =>
  obtain ⟨u,z1,z2,z3,z4,z5⟩:=ti
  cases u <;> try rfl
  rename_i kt et
  simp only
  split
  ·cases ho:st.heap l with
   | amap es cl =>
    simp only [updObj]
    rcases findA C kt k es 0 with _ | ⟨_ | ⟨i,v0⟩⟩
    ·rfl
    ·simp only
     split
     ·split <;> rfl
     ·rfl
    ·simp only
     split <;> rfl
   | lmap es =>
    simp only [updObj]
    rcases findA C kt k (zer es) 0 with _ | ⟨_ | ⟨i,v0⟩⟩
    ·rfl
    ·simp only
     split <;> rfl
    ·simp only
     split <;> rfl
   | _ => rfl
  ·rfl
section
variable {C:Ctx} {st st2:St} {mu ro:Bool} {fr:Fr} {o:Oper} {q:OPR}
def SameStepW (rs:List Nat) (st st' st2 st2':St):Prop:=SameStep st st' st2 st2' ∨ ∃ l o,l ∈ rs ∧ st' = st.set l o ∧ st2' = st2.set l o
theorem reads_frame {rs:List Nat} (hrd:readsA C fr o = some rs) (h:opA C mu ro fr st o = some q) (hn:st2.next = st.next) (hh:∀ l ∈ rs,st2.heap l = st.heap l) :
  ∃ v st' st2',q = .val v st' ∧ opA C mu ro fr st2 o = some (.val v st2') ∧ SameStepW rs st st' st2 st2':=by
 unfold readsA at hrd
 split at hrd
 ·rename_i t a hop
  unfold opA at h ⊢
  simp only [hop] at h ⊢
  have e:ld C st t (oval C fr a) = ld C st2 t (oval C fr a):=by
   unfold ld
   cases C.ty t with
   | none => rfl
   | some ti =>
    cases ha:oval C fr a with
    | ptr l off =>
     rw [ha] at hrd
     cases hrd
     simp only
     rw [hh l (by simp)]
    | _ => rfl
  rw [← e]
  obtain ⟨v,s1,s2,e1,e2,e3⟩:=ov_same (st2:=st2) h
  exact ⟨v,s1,s2,e1,e2,.inl e3⟩
 ·rename_i t m k ok hop
  unfold opA at h ⊢
  simp only [hop] at h ⊢
  have e:lookupA C st t (oval C fr m) (oval C fr k) ok = lookupA C st2 t (oval C fr m) (oval C fr k) ok:=by
   unfold lookupA
   cases C.ty t with
   | none => rfl
   | some ti =>
    obtain ⟨u,z1,z2,z3,z4,z5⟩:=ti
    cases u <;> first | rfl | skip
    cases ha:oval C fr m with
    | map l =>
     rw [ha] at hrd
     cases hrd
     simp only
     rw [hh l (by simp)]
    | _ => rfl
  rw [← e]
  obtain ⟨v,s1,s2,e1,e2,e3⟩:=ov_same (st2:=st2) h
  exact ⟨v,s1,s2,e1,e2,.inl e3⟩
 ·rename_i t m k x hop
  unfold opA at h ⊢
  simp only [hop] at h ⊢
  cases ha:oval C fr m with
  | map l =>
   rw [ha] at hrd h
   cases hrd
   rw [mapUpd_obj] at h ⊢
   rw [hh l (by simp)]
   cases hu:updMap C (oval C fr k) (oval C fr x) true (C.ty t) (st.heap l) with
   | none => rw [hu] at h; cases h
   | some ob =>
    rw [hu] at h
    simp only [Option.map_some,Option.some.injEq] at h ⊢
    subst h
    exact ⟨_,_,_,rfl,rfl,.inr ⟨l,_,by simp,rfl,rfl⟩⟩
  | _ => rw [ha] at hrd; cases hrd
 ·rename_i t a x hop
  unfold opA at h ⊢
  simp only [hop] at h ⊢
  cases hs:sizeIs C t with
  | none => rw [hs] at h; cases h
  | some size =>
   cases ha:oval C fr a with
   | ptr l off =>
    rw [ha] at hrd
    cases hrd
    rw [hs,ha] at h
    simp only at h ⊢
    split at h
    ·rename_i hc
     rw [if_pos hc]
     generalize (oval C fr x).cells = new at h ⊢
     cases new with
     | nil => simp only [sto,Option.map_some,Option.some.injEq] at h ⊢; subst h; exact ⟨_,_,_,rfl,rfl,.inl (.inl ⟨rfl,rfl⟩)⟩
     | cons y ys =>
      simp only [sto,hh l (by simp)] at h ⊢
      cases ho:st.heap l with
      | mem e cells full fz =>
       rw [ho] at h
       simp only at h ⊢
       split at h
       ·rename_i hc2
        rw [if_pos hc2]
        simp only [Option.map_some,Option.some.injEq] at h ⊢
        subst h
        exact ⟨_,_,_,rfl,rfl,.inr ⟨l,_,by simp,rfl,rfl⟩⟩
       ·cases h
      | _ => rw [ho] at h; cases h
    ·cases h
   | _ => rw [hs,ha] at h; cases h
 ·split at hrd
  ·rename_i hq
   obtain ⟨v,s1,s2,e1,e2,e3⟩:=quiet_frame hq h hn
   exact ⟨v,s1,s2,e1,e2,.inl e3⟩
  ·cases hrd
end
end Go.AE

namespace Go.AE
open Go
def Forward (ops:Array Oper):Prop:=∀ i o,ops[i]? = some o → ∀ e ∈ o.after,Region.binds .any e = true → e.on < i
theorem least_open {ops:Array Oper} {listed:Array Bool} (hsz:listed.size = ops.size):∀ n,n ≤ ops.size → (∃ i,i < n ∧ listed.getD i true = false) → ∃ i,i < n ∧ listed.getD i true = false ∧ ∀ j,j < i → listed.getD j false = true
 | 0,_,⟨i,h,_⟩ => by omega
 | n + 1,hn,⟨i,h1,h2⟩ => by
  by_cases h:∃ j,j < n ∧ listed.getD j true = false
  ·obtain ⟨j,k1,k2,k3⟩:=least_open hsz n (by omega) h
   exact ⟨j,by omega,k2,k3⟩
  ·have hin:i = n:=by
    rcases Nat.lt_or_ge i n with h3 | h3
    ·exact absurd ⟨i,h3,h2⟩ h
    ·omega
   subst hin
   refine ⟨i,h1,h2,fun j hj => ?_⟩
   have hj2:j < listed.size:=by omega
   have:listed.getD j true ≠ false:=fun hh => h ⟨j,hj,hh⟩
   simp only [Array.getD_eq_getD_getElem?,Array.getElem?_eq_getElem hj2,Option.getD_some] at this ⊢
   cases hq:listed[j] <;> simp_all
theorem lin_step {ops:Array Oper} (hf:Forward ops) {listed:Array Bool} (hsz:listed.size = ops.size) (hex:∃ i,i < ops.size ∧ listed.getD i true = false) (fuel t:Nat) :
  ∃ i t',i ∈ Region.ready .any ops listed ∧ Region.linearise.go .any ops (fuel + 1) t listed [] = i :: Region.linearise.go .any ops fuel t' (listed.setIfInBounds i true) []:=by
 obtain ⟨i,h1,h2,h3⟩:=least_open hsz ops.size (Nat.le_refl _) hex
 have hmem:i ∈ Region.ready .any ops listed:=mem_ready.2 ⟨h2,ops[i],Array.getElem?_eq_getElem h1,fun e he hb => h3 _ (hf i _ (Array.getElem?_eq_getElem h1) e he hb)⟩
 have hpos:0 < (Region.ready .any ops listed).length:=List.length_pos_of_mem hmem
 have hlt:t % (Region.ready .any ops listed).length < (Region.ready .any ops listed).length:=Nat.mod_lt _ hpos
 refine ⟨(Region.ready .any ops listed)[t % (Region.ready .any ops listed).length],t / (Region.ready .any ops listed).length,List.getElem_mem hlt,?_⟩
 have hgo:Region.linearise.go .any ops (fuel + 1) t listed [] = match (Region.ready .any ops listed)[t % (Region.ready .any ops listed).length]? with
   | some i => Region.linearise.go .any ops fuel (t / (Region.ready .any ops listed).length) (listed.setIfInBounds i true) [i]
   | none => []:=rfl
 rw [hgo,List.getElem?_eq_getElem hlt]
 simp only
 rw [linearise_go_acc]
 rfl
theorem lin_end {ops:Array Oper} {listed:Array Bool} (hall:∀ i,i < ops.size → listed.getD i true = true) (fuel t:Nat):Region.linearise.go .any ops fuel t listed [] = []:=by
 have hr:Region.ready .any ops listed = []:=by
  rw [List.eq_nil_iff_forall_not_mem]
  intro i hi
  obtain ⟨h1,o,h2,_⟩:=mem_ready.1 hi
  rw [hall i (Array.getElem?_eq_some_iff.1 h2).1] at h1
  cases h1
 cases fuel with
 | zero => rfl
 | succ fuel =>
  have hgo:Region.linearise.go .any ops (fuel + 1) t listed [] = match (Region.ready .any ops listed)[t % (Region.ready .any ops listed).length]? with
   | some i => Region.linearise.go .any ops fuel (t / (Region.ready .any ops listed).length) (listed.setIfInBounds i true) [i]
   | none => []:=rfl
  rw [hgo,hr]
  rfl
end Go.AE

namespace Go.AE
open Go
section
variable {C:Ctx} {st:St} {mu ro:Bool} {fr fr':Fr}
theorem map_congr {xs:Array Operand} (h:∀ x ∈ xs,oval C fr x = oval C fr' x):xs.toList.map (oval C fr) = xs.toList.map (oval C fr') :=
 List.map_congr_left fun x hx => h x (by simpa using hx)
theorem opA_congr (o:Oper) (h:∀ x ∈ o.op.operands,oval C fr x = oval C fr' x) (hpv:fr.pv = fr'.pv):opA C mu ro fr st o = opA C mu ro fr' st o:=by
 obtain ⟨dst,op,type,pos,after,guard⟩:=o
 have pairs:∀ ps:Array (Nat × Operand),(∀ x ∈ ps.toList.map (·.2),oval C fr x = oval C fr' x) →
   (ps.toList.map fun p => (p.1,oval C fr p.2)) = (ps.toList.map fun p => (p.1,oval C fr' p.2)):=fun ps hp =>
  List.map_congr_left fun p hm => by rw [hp p.2 (List.mem_map.2 ⟨p,hm,rfl⟩)]
 cases op <;> simp only [Op.operands] at h <;> simp only [opA]
 case build t ps => rw [pairs ps fun x hx => h x (by simpa using hx)]
 case buildSlice t n ps => rw [pairs ps fun x hx => h x (by simpa using hx)]
 case makeFunc fn first captured =>
  rw [map_congr (xs:=first) fun x hx => h x (by simp [hx]),map_congr (xs:=captured) fun x hx => h x (by simp [hx])]
 case call c =>
  have hargs:=map_congr (C:=C) (fr:=fr) (fr':=fr') (xs:=c.args) fun x hx => h x (by simp [Call.operands,hx])
  cases hc:c.callee with
  | builtin b => simp only [hargs,builtinA,hpv]
  | _ => rfl
 case defer c =>
  have hargs:=map_congr (C:=C) (fr:=fr) (fr':=fr') (xs:=c.args) fun x hx => h x (by simp [Call.operands,hx])
  cases hc:c.callee with
  | value f => have hf:oval C fr f = oval C fr' f:=h f (by simp [Call.operands,hc]); simp only [hf,hargs]
  | _ => rfl
 case slice t x lo hi mx =>
  have hx:oval C fr x = oval C fr' x:=h x (by simp)
  have hb:∀ q:Option Operand,(∀ y,q = some y → oval C fr y = oval C fr' y) → boundA C fr q = boundA C fr' q:=fun q hq => by
   cases q with
   | none => rfl
   | some y => simp only [boundA,hq y rfl]
  rw [hx,hb lo fun y hy => h y (by simp [hy]),hb hi fun y hy => h y (by simp [hy]),hb mx fun y hy => h y (by simp [hy])]
 all_goals (first | rfl | (simp_all; done))
end
end Go.AE

namespace Go.AE
open Go
section
variable {C:Ctx} {st:St} {mu ro:Bool} {fr fr':Fr}
theorem callee_congr {o:Oper} {c:Call} (hc:o.op = .call c) (h:∀ x ∈ o.op.operands,oval C fr x = oval C fr' x):calleeA C fr c = calleeA C fr' c:=by
 rw [hc] at h
 simp only [Op.operands] at h
 have hargs:=map_congr (C:=C) (fr:=fr) (fr':=fr') (xs:=c.args) fun x hx => h x (by simp [Call.operands,hx])
 unfold calleeA
 cases hcc:c.callee with
 | value f => have hf:oval C fr f = oval C fr' f:=h f (by simp [Call.operands,hcc]); simp only [hf,hargs]
 | _ => rfl
theorem runOp_congr {call:CallF} {o:Oper} (h:∀ x ∈ o.op.operands,oval C fr x = oval C fr' x) (hpv:fr.pv = fr'.pv) (hnd:∀ d st',opA C mu ro fr st o ≠ some (.dfr d st')) (hnr:opA C mu ro fr st o ≠ some .rcv) {out:Out} (hr:runOp call C mu ro o fr st = some out) :
  (∃ v st1,out = (.norm,fr.put o.dst v,st1) ∧ runOp call C mu ro o fr' st = some (.norm,fr'.put o.dst v,st1)) ∨ (∃ v st1,out = (.pan v,fr,st1) ∧ runOp call C mu ro o fr' st = some (.pan v,fr',st1)):=by
 have hop:=opA_congr (mu:=mu) (ro:=ro) (st:=st) o h hpv
 unfold runOp at hr ⊢
 rw [← hop]
 cases hq:opA C mu ro fr st o with
 | some q =>
  rw [hq] at hr
  cases q with
  | val v st1 => cases hr; exact .inl ⟨v,st1,rfl,rfl⟩
  | pan v st1 => cases hr; exact .inr ⟨v,st1,rfl,rfl⟩
  | dfr d st1 => exact absurd hq (hnd d st1)
  | rcv => exact absurd hq hnr
 | none =>
  rw [hq] at hr
  simp only at hr ⊢
  unfold callA at hr ⊢
  cases hc:o.op <;> rw [hc] at hr <;> (try (cases hr; done))
  rename_i c
  simp only at hr ⊢
  rw [← callee_congr hc h]
  cases hcal:calleeA C fr c with
  | none => rw [hcal] at hr; cases hr
  | some ta =>
   rw [hcal] at hr
   obtain ⟨tgt,args⟩:=ta
   simp only at hr ⊢
   cases hcl:call tgt args .normal st with
   | none => rw [hcl] at hr; cases hr
   | some r =>
    rw [hcl] at hr
    obtain ⟨rr,st1,p⟩:=r
    cases rr with
    | ret v => cases hr; exact .inl ⟨v,st1,rfl,rfl⟩
    | pan v => cases hr; exact .inr ⟨v,st1,rfl,rfl⟩
end
end Go.AE

namespace Go.AE
open Go
def Bf (ops:Array Oper) (i j:Nat):Prop:=((Region.before ops).toList.getD j 0).testBit i = true
def maskOf (acc:Array Nat) (o:Oper):Nat:=o.after.foldl (fun s e => if Region.binds .any e then s ||| 2 ^ e.on ||| acc.getD e.on 0 else s) 0
theorem before_eq (ops:Array Oper):Region.before ops = ops.foldl (init:=#[]) fun acc o => acc.push (maskOf acc o):=rfl
theorem maskOf_bit (acc:Array Nat) (o:Oper) (i:Nat):(maskOf acc o).testBit i = true ↔ ∃ e ∈ o.after,Region.binds .any e = true ∧ (i = e.on ∨ (acc.getD e.on 0).testBit i = true):=by
 unfold maskOf
 rw [← Array.foldl_toList]
 have key:∀ (l:List Edge) (s:Nat),(l.foldl (fun s e => if Region.binds .any e then s ||| 2 ^ e.on ||| acc.getD e.on 0 else s) s).testBit i = true ↔
   s.testBit i = true ∨ ∃ e ∈ l,Region.binds .any e = true ∧ (i = e.on ∨ (acc.getD e.on 0).testBit i = true):=by
  intro l
  induction l with
  | nil => intro s; simp
  | cons e l ih =>
   intro s
   rw [List.foldl_cons,ih]
   by_cases hb:Region.binds .any e = true
   ·simp only [hb,if_true,Nat.testBit_or,Bool.or_eq_true,Nat.testBit_two_pow,decide_eq_true_eq,List.mem_cons,exists_eq_or_imp]
    grind
   ·simp only [hb,if_false,Bool.false_eq_true,List.mem_cons,exists_eq_or_imp]
    simp
 rw [key]
 simp
theorem before_get (ops:Array Oper):(Region.before ops).size = ops.size ∧ ∀ j o,ops[j]? = some o → ∀ i,((Region.before ops).getD j 0).testBit i = true ↔
  ∃ e ∈ o.after,Region.binds .any e = true ∧ (i = e.on ∨ (e.on < j ∧ ((Region.before ops).getD e.on 0).testBit i = true)):=by
 rw [before_eq]
 have:=Array.foldl_induction (as:=ops) (motive:=fun k (acc:Array Nat) => acc.size = k ∧ ∀ j o,j < k → ops[j]? = some o → ∀ i,(acc.getD j 0).testBit i = true ↔
  ∃ e ∈ o.after,Region.binds .any e = true ∧ (i = e.on ∨ (e.on < j ∧ (acc.getD e.on 0).testBit i = true))) (init:=#[]) (f:=fun acc o => acc.push (maskOf acc o))
  ⟨rfl,fun j o h => absurd h (Nat.not_lt_zero _)⟩ (by
   rintro k acc ⟨h1,h2⟩
   refine ⟨by simp [h1],fun j o hj ho i => ?_⟩
   have hlt:∀ m,m < acc.size → (acc.push (maskOf acc ops[k])).getD m 0 = acc.getD m 0:=fun m hm => by
    simp [Array.getD_eq_getD_getElem?,Array.getElem?_push,Nat.ne_of_lt hm]
   by_cases hjk:j < k
   ·rw [hlt j (by omega),h2 j o hjk ho i]
    constructor
    ·rintro ⟨e,he,hb,h | ⟨h,h'⟩⟩
     ·exact ⟨e,he,hb,.inl h⟩
     ·exact ⟨e,he,hb,.inr ⟨h,by rw [hlt _ (by omega)]; exact h'⟩⟩
    ·rintro ⟨e,he,hb,h | ⟨h,h'⟩⟩
     ·exact ⟨e,he,hb,.inl h⟩
     ·exact ⟨e,he,hb,.inr ⟨h,by rw [hlt _ (by omega)] at h'; exact h'⟩⟩
   ·have hjk':j = k:=by omega
    subst hjk'
    have ho':ops[k] = o:=by rw [Array.getElem?_eq_getElem k.isLt] at ho; simpa using ho
    have hme:(acc.push (maskOf acc ops[k])).getD k 0 = maskOf acc ops[k]:=by
     generalize maskOf acc ops[k] = mk
     rw [Array.getD_eq_getD_getElem?,← h1,Array.getElem?_push_size]; rfl
    rw [hme,ho',maskOf_bit]
    constructor
    ·rintro ⟨e,he,hb,h | h⟩
     ·exact ⟨e,he,hb,.inl h⟩
     ·have hlt':e.on < acc.size:=by
       rcases Nat.lt_or_ge e.on acc.size with hh | hh
       ·exact hh
       ·simp [Array.getD_eq_getD_getElem?,Array.getElem?_eq_none hh] at h
      exact ⟨e,he,hb,.inr ⟨by omega,by rw [← ho',hlt _ hlt']; exact h⟩⟩
    ·rintro ⟨e,he,hb,h | ⟨h,h'⟩⟩
     ·exact ⟨e,he,hb,.inl h⟩
     ·exact ⟨e,he,hb,.inr (by rw [← ho',hlt _ (by omega)] at h'; exact h')⟩)
 refine ⟨this.1,fun j o ho => this.2 j o (Array.getElem?_eq_some_iff.1 ho).1 ho⟩
section
variable {ops:Array Oper}
theorem Bf.iff {i j:Nat} {o:Oper} (ho:ops[j]? = some o):Bf ops i j ↔ ∃ e ∈ o.after,Region.binds .any e = true ∧ (i = e.on ∨ (e.on < j ∧ Bf ops i e.on)):=by
 have:=(before_get ops).2 j o ho i
 simp only [Bf,List.getD_eq_getElem?_getD,Array.getElem?_toList,← Array.getD_eq_getD_getElem?]
 exact this
theorem Bf.size {i j:Nat} (h:Bf ops i j):j < ops.size:=by
 rcases Nat.lt_or_ge j ops.size with hh | hh
 ·exact hh
 ·simp only [Bf,List.getD_eq_getElem?_getD,Array.getElem?_toList,Array.getElem?_eq_none (xs:=Region.before ops) (by rw [(before_get ops).1]; exact hh)] at h
  simp at h
theorem Bf.lt (hf:Forward ops):∀ {j i:Nat},Bf ops i j → i < j:=by
 intro j
 induction j using Nat.strongRecOn with
 | _ j ih =>
  intro i h
  have hj:=h.size
  obtain ⟨e,he,hb,h1 | ⟨h1,h2⟩⟩:=(Bf.iff (Array.getElem?_eq_getElem hj)).1 h
  ·subst h1; exact hf j _ (Array.getElem?_eq_getElem hj) e he hb
  ·have:=ih _ h1 h2; omega
theorem Bf.trans (hf:Forward ops):∀ {k i j:Nat},Bf ops i j → Bf ops j k → Bf ops i k:=by
 intro k
 induction k using Nat.strongRecOn with
 | _ k ih =>
  intro i j h1 h2
  have hk:=h2.size
  have hiff:=@Bf.iff ops i k _ (Array.getElem?_eq_getElem hk)
  obtain ⟨e,he,hb,h3 | ⟨h3,h4⟩⟩:=(Bf.iff (Array.getElem?_eq_getElem hk)).1 h2
  ·subst h3
   exact hiff.2 ⟨e,he,hb,.inr ⟨hf k _ (Array.getElem?_eq_getElem hk) e he hb,h1⟩⟩
  ·exact hiff.2 ⟨e,he,hb,.inr ⟨h3,ih _ h3 h1 h4⟩⟩
theorem Bf.closed {S:Nat → Bool} {j:Nat} {o:Oper} (ho:ops[j]? = some o) (hd:∀ e ∈ o.after,Region.binds .any e = true → S e.on = true) (hS:∀ k,S k = true → ∀ i,Bf ops i k → S i = true) {i:Nat} (h:Bf ops i j):S i = true:=by
 obtain ⟨e,he,hb,h3 | ⟨h3,h4⟩⟩:=(Bf.iff ho).1 h
 ·subst h3; exact hd e he hb
 ·exact hS _ (hd e he hb) i h4
section
variable {α:Type} (U:Nat → Option (α → α)) (x:α)
def rp (S:Nat → Bool):Nat → α
 | 0 => x
 | i + 1 => if S i then (match U i with | some f => f (rp S i) | none => rp S i) else rp S i
variable {U x}
theorem rp_agree {S:Nat → Bool} {j:Nat}:∀ m,j ≤ m → (∀ i,i < j → (U i).isSome = true → S i = true) → (∀ i,j ≤ i → i < m → (U i).isSome = true → S i = false) → rp U x S m = rp U x (fun _ => true) j:=by
 intro m hm h1 h2
 induction m with
 | zero =>
  obtain rfl:j = 0:=by omega
  rfl
 | succ m ih =>
  by_cases hj:j = m + 1
  ·subst hj
   have:∀ k,k ≤ m + 1 → rp U x S k = rp U x (fun _ => true) k:=by
    intro k
    induction k with
    | zero => intro _; rfl
    | succ k ihk =>
     intro hk
     simp only [rp,if_true]
     rw [ihk (by omega)]
     cases hu:U k with
     | none => simp
     | some v => rw [h1 k (by omega) (by rw [hu]; rfl)]; simp
   exact this _ (Nat.le_refl _)
  ·simp only [rp]
   cases hu:U m with
   | none => simp only []; rw [ite_self]; exact ih (by omega) fun i hi hi2 h => h2 i hi (by omega) h
   | some v =>
    have:=h2 m (by omega) (by omega) (by rw [hu]; rfl)
    rw [this]
    exact ih (by omega) fun i hi hi2 h => h2 i hi (by omega) h
theorem rp_put_none {S S':Nat → Bool} {j:Nat} (hS:∀ i,i ≠ j → S' i = S i) (hu:U j = none):∀ m,rp U x S' m = rp U x S m
 | 0 => rfl
 | m + 1 => by
  simp only [rp,rp_put_none hS hu m]
  by_cases h:m = j
  ·subst h; rw [hu]; simp
  ·rw [hS m h]
theorem rp_put_some {S':Nat → Bool} {j:Nat} (hj:S' j = true) {v:α} (hu:U j = some fun _ => v):∀ m,j < m → (∀ i,j < i → i < m → S' i = true → U i = none) → rp U x S' m = v
 | 0,h,_ => absurd h (Nat.not_lt_zero _)
 | m + 1,h,hl => by
  simp only [rp]
  by_cases hm:m = j
  ·subst hm; rw [hj,hu]; rfl
  ·rw [rp_put_some hj hu m (by omega) fun i h1 h2 h3 => hl i h1 (by omega) h3]
   cases hs:S' m with
   | false => rfl
   | true => rw [hl m (by omega) (by omega) hs]; rfl
theorem rp_cases {S:Nat → Bool}:∀ m,rp U x S m = x ∨ ∃ i f y,i < m ∧ S i = true ∧ U i = some f ∧ rp U x S m = f y
 | 0 => .inl rfl
 | m + 1 => by
  simp only [rp]
  cases hs:S m with
  | false =>
   simp only [Bool.false_eq_true,if_false]
   rcases rp_cases (S:=S) m with h | ⟨i,f,y,h1,h2,h3,h4⟩
   ·exact .inl h
   ·exact .inr ⟨i,f,y,by omega,h2,h3,h4⟩
  | true =>
   simp only [if_true]
   cases hu:U m with
   | some f => exact .inr ⟨m,f,_,by omega,hs,hu,rfl⟩
   | none =>
    simp only
    rcases rp_cases (S:=S) m with h | ⟨i,f,y,h1,h2,h3,h4⟩
    ·exact .inl h
    ·exact .inr ⟨i,f,y,by omega,h2,h3,h4⟩
end
end
end Go.AE

namespace Go.AE
open Go
section
variable {C:Ctx} {st st2:St} {mu ro:Bool} {fr:Fr} {o:Oper}
theorem ov_plain {r:Option AV}:(∀ d st',ov st r ≠ some (.dfr d st')) ∧ ov st r ≠ some .rcv:=by cases r <;> simp [ov]
theorem ovs_plain {r:Option (AV × St)}:(∀ d st',ovs r ≠ some (.dfr d st')) ∧ ovs r ≠ some .rcv:=by cases r <;> simp [ovs]
theorem map_plain {α:Type} {f:α → AV} {g:α → St} {r:Option α}:(∀ d st',r.map (fun x => OPR.val (f x) (g x)) ≠ some (.dfr d st')) ∧ r.map (fun x => OPR.val (f x) (g x)) ≠ some .rcv:=by cases r <;> simp
theorem builtin_plain {b:Builtin} {ts:List TypeId} {args:List AV} (hb:b ≠ .recover):(∀ d st',builtinA C mu ro fr st b ts args ≠ some (.dfr d st')) ∧ builtinA C mu ro fr st b ts args ≠ some .rcv:=by
 unfold builtinA
 split <;> (repeat' split) <;> first | exact absurd rfl hb | exact ov_plain | exact ovs_plain | (simp; done)
theorem opA_plain (hp:plainOp o.op = true):(∀ d st',opA C mu ro fr st o ≠ some (.dfr d st')) ∧ opA C mu ro fr st o ≠ some .rcv:=by
 unfold opA
 cases hop:o.op <;> simp only [] <;> first | exact ov_plain | exact ovs_plain | exact map_plain | (simp; done) | skip
 case call c =>
  cases hc:c.callee with
  | builtin b =>
   refine builtin_plain fun hb => ?_
   subst hb
   rw [hop] at hp
   obtain ⟨cc,ca,ct⟩:=c
   cases hc
   simp [plainOp] at hp
  | _ => simp
 case defer c => rw [hop] at hp; simp [plainOp] at hp
 all_goals (repeat' split) <;> first | exact ov_plain | exact ovs_plain | exact map_plain | (simp; done)
section
variable {C:Ctx} {b:Frame} {K:FrameMode → List Frame} {k:List Item} {G:Gh} {st:St} {w:World} {u:FrameMode} {fr:Fr} {a:Act}
theorem runOp_step (hC:CtxOk C) {call:CallF} (hcall:CallsOk C call) (hct:CtOk b K) {ro:Option Nat} {mu:Bool} {ops:Array Oper} {i:Nat} {rest:List Nat} {o:Oper} (ho:ops[i]? = some o)
  (hw:Region.wanted o (yielded ops a.tmps) = true) (hs:Sit C G st w b fr a u) (hro:RoRel G b ro) (hplain:plainOp o.op = true) {fr':Fr} {st':St} (h:runOp call C mu ro.isSome o fr st = some (.norm,fr',st')) :
  ∃ v q w' G' ls,fr' = fr.put o.dst v ∧ VR G' w' v q ∧ Ok C G st w ls G' st' w' ∧ st'.log = ls ++ st.log ∧
   Steps C.P (lone (fa b a (.inRegion ops (i :: rest) :: k)) (K u) w) (lone (fa b (a.put o.dst q) (.inRegion ops rest :: k)) (K u) w'):=by
 have hb:ro.isSome = false → b.roundOf = none:=fun hh => by cases ro with
  | none => exact hro
  | some l => cases hh
 unfold runOp at h
 cases hop:opA C mu ro.isSome fr st o with
 | some q =>
  have hsound:=opA_sound hC hs.rel hs.frs hop
  have hnd:∀ v st',q = .val v st' → (b.roundOf = none ∨ ∀ c,o.op ≠ .defer c):=fun v st' hq => by
   subst hq
   by_cases hr:ro.isSome = true
   ·refine .inr fun c hc => ?_
    simp only [opA,hc,hr,if_true] at hop
    cases hop
   ·exact .inl (hb (by simpa using hr))
  cases q with
  | val v st' =>
   simp only [hop,Option.some.injEq,Prod.mk.injEq,true_and] at h
   obtain ⟨rfl,rfl⟩:=h
   obtain ⟨n,q,w',G',ls,h1,h2,h3,h4,h5,h6⟩:=hsound
   rcases h2 with rfl | ⟨rfl,rfl⟩ | ⟨rfl,hpv,rfl⟩
   ·exact ⟨_,_,w',G',ls,rfl,h6,h4,h5,fa_value ho hw (hnd _ _ rfl) h1⟩
   ·exact ⟨_,_,w',G',ls,rfl,h6,h4,h5,fa_skipped ho hw (hnd _ _ rfl) h1⟩
   ·have hpv':=hs.pvs
    rw [hpv] at hpv'
    exact ⟨_,_,w',G',ls,rfl,h6,h4,h5,fa_recover_none ho hw (hnd _ _ rfl) (hb (h3 rfl)) h1 (tryRecover_none hct hpv' _)⟩
  | pan v st' => simp [hop] at h
  | dfr d st' => exact absurd hop ((opA_plain hplain).1 d st')
  | rcv => exact absurd hop (opA_plain hplain).2
 | none =>
  simp only [hop] at h
  unfold callA at h
  split at h
  ·rename_i c hc
   have hnd:b.roundOf = none ∨ ∀ c,o.op ≠ .defer c:=.inr fun c' h' => by rw [hc] at h'; cases h'
   split at h
   ·rename_i tgt args hcal
    unfold calleeA at hcal
    split at hcal
    ·rename_i f hf
     have hfv:=oval_sound hs.rel hs.frs f
     split at hcal
     ·
      rename_i g first captured heq
      cases hcal
      rw [heq] at hfv
      generalize hu:a.eval f = fv at hfv
      cases hfv with
      | func _ _ _ vs us h1 h2 h3 h4 =>
       have hargs:=((VRs.of_array h1 h3).append (vrs_arrays hs.rel hs.frs c.args)).append (VRs.of_array h2 h4)
       have hrun:(execOp a.eval o).run C.P w = (callFunc g (vs ++ c.args.map a.eval ++ us)).run C.P w:=by
        simp [execOp,hc,resolve,hf,Deferred.ofValue,hu,invoke]
       have harr:(vs.toList ++ (c.args.map a.eval).toList ++ us.toList).toArray = vs ++ c.args.map a.eval ++ us:=by simp
       have key:∀ r,call (.fn g) (first ++ c.args.toList.map (oval C fr) ++ captured) .normal st = some r →
         ∃ e w' G' ls,Ok C G st w ls G' r.2.1 w' ∧ r.2.1.log = ls ++ st.log ∧ EndRel G' w' r.1 e ∧
          (match e with
          | .returned v' => Steps C.P (lone (fa b a (.inRegion ops (i :: rest) :: k)) (K u) w) (lone (fa b (a.put o.dst v') (.inRegion ops rest :: k)) (K u) w')
          | .panicked chain => Steps C.P (lone (fa b a (.inRegion ops (i :: rest) :: k)) (K u) w) (lone { fa b a (.inRegion ops (i :: rest) :: k) with mode:=.panicking chain } (K u) w')
          | .outgrown => True):=fun r hr => by
        have hq:=hcall _ _ _ _ _ hr G w _ hs.rel hargs
        rw [harr] at hq
        rcases hq with ⟨fn,q1,q2,q3,q4⟩ | ⟨v,w',q1,G',ls,q2,q3,q4⟩
        ·have hent:(execOp a.eval o).run C.P w = .ok (.enter g (vs ++ c.args.map a.eval ++ us)) w:=by
          rw [hrun]
          have:fn.body.isNone = false:=by cases hbd:fn.body <;> simp_all
          simp only [callFunc,Sem.run_bind,run_program,Result.andThen_ok,q1,q3,this,Bool.false_eq_true,if_false,Sem.run_pure]
         obtain ⟨e,w',frE,⟨G',ls,r1,r2,r3⟩,r4,_,r5⟩:=q4 (fa b a (.inRegion ops (i :: rest) :: k) :: K u)
         refine ⟨e,w',G',ls,r1,r2,r3,?_⟩
         have henter:=fa_enter (k:=k) (cs:=K u) (rest:=rest) ho hw hnd hent
         cases e with
         | returned v' =>
          simp only
          rw [← fa_finish ho]
          exact henter.trans (Steps.trans r4 (.one (step_leave_returned r5)))
         | panicked chain =>
          simp only
          have:=henter.trans (Steps.trans r4 (.one (step_leave_panicked r5)))
          rwa [show (fa b a (.inRegion ops (i :: rest) :: k)).raise chain = { fa b a (.inRegion ops (i :: rest) :: k) with mode:=.panicking chain } from by simp [Frame.raise,fa]] at this
         | outgrown => trivial
        ·exact ⟨.returned v,w',G',ls,q2,q3,q4,fa_value ho hw hnd (by rw [hrun]; exact q1)⟩
       split at h
       ·rename_i v st1 _ hcl
        cases h
        obtain ⟨e,w',G',ls,r1,r2,r3,r4⟩:=key _ hcl
        cases e with
        | returned v' => exact ⟨_,_,w',G',ls,rfl,r3,r1,r2,r4⟩
        | panicked chain => exact r3.elim
        | outgrown => exact r3.elim
       ·cases h
       ·cases h
     ·
      rename_i l heq
      cases hcal
      rw [heq] at hfv
      generalize hu:a.eval f = fv at hfv
      cases hfv with
      | yield _ L hL =>
       have hargs:=vrs_arrays hs.rel hs.frs c.args
       have key:∀ r,call (.yield l) (c.args.toList.map (oval C fr)) .normal st = some r →
         ∃ w' G' ls,Ok C G st w ls G' r.2.1 w' ∧ r.2.1.log = ls ++ st.log ∧
          (match r.1 with
          | .ret v => ∃ v',VR G' w' v v' ∧ Steps C.P (lone (fa b a (.inRegion ops (i :: rest) :: k)) (K u) w) (lone (fa b (a.put o.dst v') (.inRegion ops rest :: k)) (K u) w')
          | .pan v => ∃ v',VR G' w' v v' ∧ Steps C.P (lone (fa b a (.inRegion ops (i :: rest) :: k)) (K u) w) (lone { fa b a (.inRegion ops (i :: rest) :: k) with mode:=.panicking [{ v:=v',recovered:=false }] } (K u) w')):=fun r hr => by
        obtain ⟨lp,p1,p2,p3⟩:=hcall _ _ _ _ _ hr G w _ L hs.rel hargs hL
        obtain ⟨w',G',ls,r1,r2,r3⟩:=p3 (fa b a (.inRegion ops (i :: rest) :: k)) (K u)
        have hg:=run_getObj (C:=C) p1 (fun _ _ _ => by simp)
        have hent:(execOp a.eval o).run C.P w = .ok (.round L.blk lp.fn ((lp.params.zip (c.args.map a.eval)).foldl (fun tmps (t,a) => tmps.setIfInBounds t a) lp.tmps) lp.assign lp.body) w:=by
         have hsz:¬ ((c.args.map a.eval).size ≠ lp.params.size):=by simpa using p2
         simp only [execOp,hc,Sem.run_bind,resolve,hf,Deferred.ofValue,hu,Sem.run_pure,Result.andThen_ok,invoke,Instr.yield,Instr.getLoop,hg,Array.empty_append]
         rw [if_neg hsz]
         rfl
        have hround:=fa_round (k:=k) (cs:=K u) (rest:=rest) ho hw hnd hent
        refine ⟨w',G',ls,r1,r2,?_⟩
        obtain ⟨rr,rst,rp⟩:=r
        cases rr with
        | ret v0 =>
         obtain ⟨v',e1,e2⟩:=r3
         refine ⟨v',e1,?_⟩
         rw [fa_finish ho] at e2
         rw [Array.toArray_toList] at e2
         exact hround.trans e2
        | pan v0 =>
         obtain ⟨v',e1,e2⟩:=r3
         refine ⟨v',e1,?_⟩
         rw [show (fa b a (.inRegion ops (i :: rest) :: k)).raise [{ v:=v',recovered:=false }] = { fa b a (.inRegion ops (i :: rest) :: k) with mode:=.panicking [{ v:=v',recovered:=false }] } from by simp [Frame.raise,fa]] at e2
         rw [Array.toArray_toList] at e2
         exact hround.trans e2
       split at h
       ·rename_i v st1 _ hcl
        cases h
        obtain ⟨w',G',ls,r1,r2,v',r3,r4⟩:=key _ hcl
        exact ⟨_,_,w',G',ls,rfl,r3,r1,r2,r4⟩
       ·cases h
       ·cases h
     ·cases hcal
    ·cases hcal
   ·cases h
  ·cases h
end
end
end Go.AE

namespace Go.AE
open Go
def TStep (calls:Nat → CallF) (C:Ctx) (mu ro:Bool) (ops:Array Oper) (F:Nat → Fr) (H:Nat → Nat → AO) (N:Nat → Nat) (I:Nat → Info) (j:Nat) (o:Oper):Prop :=
 (wantedA ops (F j) o = some false ∧ F (j + 1) = (F j).put o.dst undefA ∧ H (j + 1) = H j ∧ N (j + 1) = N j ∧ I j = ⟨[],some [],0,0⟩) ∨
 (wantedA ops (F j) o = some true ∧ ∃ lg,runOp (calls j) C mu ro o (F j) ⟨H j,N j,[]⟩ = some (.norm,F (j + 1),⟨H (j + 1),N (j + 1),lg⟩) ∧ I j = ⟨lg,readsA C (F j) o,N j,N (j + 1)⟩ ∧
  ∀ l ∈ lg,l < N j ∧ (H j l).isDead = false)
structure Tr (calls:Nat → CallF) (C:Ctx) (mu ro:Bool) (ops:Array Oper) (i:Nat) (fr:Fr) (st:St) (fr':Fr) (st':St) (info:List Info) (F:Nat → Fr) (H:Nat → Nat → AO) (N:Nat → Nat) (I:Nat → Info):Prop where
 f0:F i = fr
 h0:H i = st.heap
 n0:N i = st.next
 fm:F ops.size = fr'
 hm:H ops.size = st'.heap
 nm:N ops.size = st'.next
 info:info = (List.range' i (ops.size - i)).map I
 step:∀ j o,i ≤ j → ops[j]? = some o → TStep calls C mu ro ops F H N I j o
 log:∃ lgs,st'.log = lgs ++ st.log ∧ ∀ j,i ≤ j → j < ops.size → ∀ l ∈ (I j).log,l ∈ lgs
theorem runDraw_tr {calls:Nat → CallF} {C:Ctx} {mu ro:Bool} {ops:Array Oper}:∀ (l:List Oper) (i:Nat) (fr:Fr) (st:St) (fr':Fr) (st':St) (info:List Info),i ≤ ops.size → ops.toList.drop i = l → runDraw calls C mu ro ops i l fr st = some (fr',st',info) →
  ∃ F H N I,Tr calls C mu ro ops i fr st fr' st' info F H N I
 | [],i,fr,st,fr',st',info,hi,hl,h => by
  have hm:i = ops.size:=by
   have:=congrArg List.length hl
   simp at this
   omega
  simp only [runDraw,Option.some.injEq,Prod.mk.injEq] at h
  obtain ⟨rfl,rfl,rfl⟩:=h
  subst hm
  exact ⟨fun _ => fr,fun _ => st.heap,fun _ => st.next,fun _ => ⟨[],none,0,0⟩,rfl,rfl,rfl,rfl,rfl,rfl,by simp,fun j o hj ho => absurd (Array.getElem?_eq_some_iff.1 ho).1 (by omega),
   [],rfl,fun j h1 h2 => by omega⟩
 | o :: l,i,fr,st,fr',st',info,hi,hl,h => by
  have ho:ops[i]? = some o:=by
   have:=congrArg List.head? hl
   rw [List.head?_drop,Array.getElem?_toList] at this
   simpa using this
  have hl':ops.toList.drop (i + 1) = l:=by
   have:=congrArg List.tail hl
   rw [List.tail_drop] at this
   simpa using this
  have hlt:=(Array.getElem?_eq_some_iff.1 ho).1
  have glue:∀ (fr1:Fr) (st1:St) (info1:List Info) (x:Info) (lg:List Nat),info = x :: info1 → st1.log = lg ++ st.log → (∀ q ∈ x.log,q ∈ lg) →
    (∀ F H N I,F i = fr → H i = st.heap → N i = st.next → F (i + 1) = fr1 → H (i + 1) = st1.heap → N (i + 1) = st1.next → I i = x → TStep calls C mu ro ops F H N I i o) →
    runDraw calls C mu ro ops (i + 1) l fr1 st1 = some (fr',st',info1) → ∃ F H N I,Tr calls C mu ro ops i fr st fr' st' info F H N I:=by
   intro fr1 st1 info1 x lg hinfo hlog hx hstep hrun
   obtain ⟨F,H,N,I,t⟩:=runDraw_tr l (i + 1) fr1 st1 fr' st' info1 hlt hl' hrun
   have ne:∀ j,i + 1 ≤ j → ¬ j = i:=fun j hj => by omega
   refine ⟨fun j => if j = i then fr else F j,fun j => if j = i then st.heap else H j,fun j => if j = i then st.next else N j,fun j => if j = i then x else I j,by simp,by simp,by simp,?_,?_,?_,?_,?_,?_⟩
   ·rw [if_neg (ne _ hlt)]; exact t.fm
   ·rw [if_neg (ne _ hlt)]; exact t.hm
   ·rw [if_neg (ne _ hlt)]; exact t.nm
   ·have:ops.size - i = (ops.size - (i + 1)) + 1:=by omega
    rw [hinfo,t.info,this,List.range'_succ,List.map_cons,if_pos rfl]
    congr 1
    apply List.map_congr_left
    intro j hj
    rw [List.mem_range'_1] at hj
    rw [if_neg (ne j hj.1)]
   ·intro j o' hj ho'
    by_cases hji:j = i
    ·subst hji
     rw [ho] at ho'; cases ho'
     exact hstep _ _ _ _ (if_pos rfl) (if_pos rfl) (if_pos rfl) ((if_neg (by omega)).trans t.f0) ((if_neg (by omega)).trans t.h0) ((if_neg (by omega)).trans t.n0) (if_pos rfl)
    ·have hs:=t.step j o' (by omega) ho'
     unfold TStep at hs ⊢
     simp only [if_neg hji,if_neg (show ¬ j + 1 = i by omega)]
     exact hs
   ·obtain ⟨lgs,e1,e2⟩:=t.log
    refine ⟨lgs ++ lg,by rw [e1,hlog,List.append_assoc],fun j h1 h2 q hq => ?_⟩
    by_cases hji:j = i
    ·rw [if_pos hji] at hq; exact List.mem_append_right _ (hx q hq)
    ·rw [if_neg hji] at hq; exact List.mem_append_left _ (e2 j (by omega) h2 q hq)
  simp only [runDraw] at h
  split at h
  ·cases h
  ·rename_i hw
   split at h
   ·rename_i fr1 st1 info1 h1
    simp only [Option.some.injEq,Prod.mk.injEq] at h
    obtain ⟨rfl,rfl,rfl⟩:=h
    refine glue _ st info1 _ [] rfl rfl (by simp) ?_ h1
    intro F H N I e1 e2 e3 e4 e5 e6 e7
    exact .inl ⟨by rw [e1]; exact hw,by rw [e4,e1],by rw [e5,e2],by rw [e6,e3],e7⟩
   ·cases h
  ·rename_i hw
   split at h
   ·rename_i fr1 st1 h1
    split at h
    ·rename_i hall
     split at h
     ·rename_i fr2 st2 info2 h2
      simp only [Option.some.injEq,Prod.mk.injEq] at h
      obtain ⟨rfl,rfl,rfl⟩:=h
      refine glue fr1 ⟨st1.heap,st1.next,st1.log ++ st.log⟩ info2 _ st1.log rfl rfl (fun q hq => hq) ?_ h2
      intro F H N I e1 e2 e3 e4 e5 e6 e7
      refine .inr ⟨by rw [e1]; exact hw,st1.log,?_,?_,?_⟩
      ·rw [e1,e2,e3,e4,e5,e6]; exact h1
      ·rw [e7,e1,e3,e6]
      ·intro q hq
       have:=List.all_eq_true.1 hall q hq
       simp only [Bool.and_eq_true,decide_eq_true_eq,Bool.not_eq_true'] at this
       rw [e3,e2]
       exact this
     ·cases h
    ·cases h
   ·cases h
end Go.AE

namespace Go.AE
open Go
section
variable {C:Ctx} {ops:Array Oper} {calls:Nat → CallF} {mu ro:Bool}
def preOf (ops:Array Oper) (N:Nat → Nat) (j l:Nat):Prop:=l < N 0 ∨ ∃ c,Bf ops c j ∧ N c ≤ l ∧ l < N (c + 1)
def ownOf (ops:Array Oper) (N:Nat → Nat) (t:Option Nat) (l:Nat):Prop :=
 match t with
 | none => l < N 0
 | some i => l < N 0 ∨ ∃ c,(c = i ∨ Bf ops c i) ∧ N c ≤ l ∧ l < N (c + 1)
def insOf (ops:Array Oper) (i:Nat):Option TypeId:=(ops[i]?).bind fun o => insT o.op
def Ins2 (ops:Array Oper) (i j:Nat):Prop:=∃ t,insOf ops i = some t ∧ insOf ops j = some t
def phi (C:Ctx) (ops:Array Oper) (F:Nat → Fr) (j:Nat) (o:AO):Option AO :=
 match ops[j]? with
 | some op => (match op.op with
  | .insert t _ k x => updMap C (oval C (F j) k) (oval C (F j) x) true (C.ty t) o
  | _ => none)
 | none => none
structure RgRoad (calls:Nat → CallF) (C:Ctx) (mu ro:Bool) (ops:Array Oper) (fr:Fr) (st:St) (F:Nat → Fr) (H:Nat → Nat → AO) (N:Nat → Nat) (I:Nat → Info) (V:Nat → AV):Prop where
 fwd:Forward ops
 plain:∀ (j:Nat) (o:Oper),ops[j]? = some o → plainOp o.op = true
 o1:∀ i j l,i < ops.size → j < ops.size → l ∈ (I i).log → (I j).rd = none → preOf ops N j l → i = j ∨ Bf ops i j ∨ Bf ops j i
 o2:∀ i j l rs,i < ops.size → j < ops.size → l ∈ (I i).log → (I j).rd = some rs → l ∈ rs → i = j ∨ Bf ops i j ∨ Bf ops j i ∨ Ins2 ops i j
 o3:∀ i l,i < ops.size → l ∈ (I i).log → preOf ops N i l
 d1:∀ (i j:Nat) (oi oj:Oper) (t:Tmp),ops[i]? = some oi → ops[j]? = some oj → oi.dst = some t → t ∈ namesOf ops oj → i = j ∨ Bf ops i j ∨ Bf ops j i
 f0:F 0 = fr
 h0:H 0 = st.heap
 n0:N 0 = st.next
 f:∀ (j:Nat) (o:Oper),ops[j]? = some o → F (j + 1) = (F j).put o.dst (V j)
 n:∀ j,j < ops.size → N j ≤ N (j + 1)
 keep:∀ j,j < ops.size → ∀ l,l < N j → l ∉ (I j).log → H (j + 1) l = H j l
 log:∀ j,j < ops.size → ∀ l,l ∈ (I j).log → l < N j ∧ (H j l).isDead = false
 step:∀ (j:Nat) (o:Oper),ops[j]? = some o → TStep calls C mu ro ops F H N I j o
theorem ordered_spec {i j:Nat} (h:ordered (Region.before ops).toList i j = true):i = j ∨ Bf ops i j ∨ Bf ops j i:=by
 simp only [ordered,Bool.or_eq_true,beq_iff_eq] at h
 rcases h with (h | h) | h
 ·exact .inl h
 ·exact .inr (.inl h)
 ·exact .inr (.inr h)
theorem mayMeet_spec {n0 b l:Nat}:∀ (k:Nat) (info:List Info),mayMeet n0 b l k info = true ↔ l < n0 ∨ ∃ i x,info[i]? = some x ∧ x.lo ≤ l ∧ l < x.hi ∧ b.testBit (k + i) = true
 | k,[] => by simp [mayMeet]
 | k,y :: r => by
  simp only [mayMeet,Bool.or_eq_true,Bool.and_eq_true,decide_eq_true_eq,mayMeet_spec (k + 1) r]
  constructor
  ·rintro (⟨⟨h1,h2⟩,h3⟩ | h | ⟨i,x,h1,h2,h3,h4⟩)
   ·exact .inr ⟨0,y,rfl,h1,h2,h3⟩
   ·exact .inl h
   ·exact .inr ⟨i + 1,x,h1,h2,h3,by rw [show k + (i + 1) = k + 1 + i by omega]; exact h4⟩
  ·rintro (h | ⟨i,x,h1,h2,h3,h4⟩)
   ·exact .inr (.inl h)
   ·cases i with
    | zero => cases h1; exact .inl ⟨⟨h2,h3⟩,h4⟩
    | succ i => exact .inr (.inr ⟨i,x,h1,h2,h3,by rw [show k + 1 + i = k + (i + 1) by omega]; exact h4⟩)
theorem sameIns_spec {i j:Nat} (h:sameIns (insL ops) i j = true):Ins2 ops i j:=by
 have key:∀ i t,(insL ops).getD i none = some t → insOf ops i = some t:=fun i t h => by
  rw [List.getD_eq_getElem?_getD,insL,List.getElem?_map,Array.getElem?_toList] at h
  unfold insOf
  cases ho:ops[i]? with
  | none => rw [ho] at h; cases h
  | some o => rw [ho] at h; exact h
 unfold sameIns at h
 split at h
 ·rename_i t ht
  exact ⟨t,key i t ht,key j t (by simpa using h)⟩
 ·cases h
theorem orderOk1_spec {n0:Nat} {bs:List Nat} {ins:List (Option TypeId)} {info:List Info} {i:Nat} {ls:List Nat}:∀ (k:Nat) (r:List Info),orderOk1 n0 bs ins info i ls k r = true →
  ∀ j x,r[j]? = some x → meets n0 info (bs.getD (k + j) 0) ls x = true → ordered bs i (k + j) = true ∨ (x.rd.isSome = true ∧ sameIns ins i (k + j) = true)
 | _,[],_,j,x,hx,_ => by simp at hx
 | k,y :: r,h,j,x,hx,hm => by
  simp only [orderOk1,Bool.and_eq_true,Bool.or_eq_true,Bool.not_eq_true'] at h
  cases j with
  | zero =>
   cases hx
   rcases h.1 with h1 | h1 | h1
   ·rw [Nat.add_zero] at hm; rw [h1] at hm; cases hm
   ·exact .inl h1
   ·exact .inr h1
  | succ j =>
   have:=orderOk1_spec (k + 1) r h.2 j x (by simpa using hx)
   rw [show k + 1 + j = k + (j + 1) by omega] at this
   exact this hm
theorem orderOk_spec {n0:Nat} {bs:List Nat} {ins:List (Option TypeId)} {info:List Info}:∀ (k:Nat) (r:List Info),orderOk n0 bs ins info k r = true →
  ∀ i x,r[i]? = some x → x.log = [] ∨ ((∀ l ∈ x.log,mayMeet n0 (bs.getD (k + i) 0) l 0 info = true) ∧ orderOk1 n0 bs ins info (k + i) x.log 0 info = true)
 | _,[],_,i,x,hx => by simp at hx
 | k,y :: r,h,i,x,hx => by
  simp only [orderOk,Bool.and_eq_true,Bool.or_eq_true,List.isEmpty_iff,List.all_eq_true] at h
  cases i with
  | zero => cases hx; exact h.1
  | succ i =>
   have:=orderOk_spec (k + 1) r h.2 i x (by simpa using hx)
   rwa [show k + 1 + i = k + (i + 1) by omega] at this
theorem drawable_spec (h:drawable ops = true):Forward ops ∧ (∀ (j:Nat) (o:Oper),ops[j]? = some o → plainOp o.op = true) ∧
  ∀ (i j:Nat) (oi oj:Oper) (t:Tmp),ops[i]? = some oi → ops[j]? = some oj → oi.dst = some t → t ∈ namesOf ops oj → i = j ∨ Bf ops i j ∨ Bf ops j i:=by
 have key:∀ j o,ops[j]? = some o → drawable1 ops (Region.before ops).toList j o = true:=fun j o ho => by
  have:=List.all_eq_true.1 h (o,j) (List.mem_zipIdx_iff_getElem?.2 (by simpa using ho))
  exact this
 refine ⟨fun j o ho e he hb => ?_,fun j o ho => ?_,fun i j oi oj t hi hj hd ht => ?_⟩
 ·have:=key j o ho
  simp only [drawable1,Bool.and_eq_true] at this
  have:=List.all_eq_true.1 this.1.2 e (by simpa using he)
  simpa [hb] using this
 ·have:=key j o ho
  simp only [drawable1,Bool.and_eq_true] at this
  exact this.1.1
 ·have:=key j oj hj
  simp only [drawable1,Bool.and_eq_true] at this
  have:=List.all_eq_true.1 (List.all_eq_true.1 this.2 t ht) (oi,i) (List.mem_zipIdx_iff_getElem?.2 (by simpa using hi))
  simp [hd] at this
  exact ordered_spec this
end
section
variable {C:Ctx} {b:Frame} {K:FrameMode → List Frame} {u:FrameMode} {G:Gh} {st:St} {w:World} {fr:Fr} {a:Act}
theorem put_n {v:AV} {d:Option Tmp}:(fr.put d v).n = fr.n:=by
 cases d with
 | none => rfl
 | some d => simp only [Fr.put]; split <;> rfl
theorem tr_sits (hC:CtxOk C) {calls:Nat → CallF} (hcall:∀ j,CallsOk C (calls j)) (hct:CtOk b K) {ro:Option Nat} {mu:Bool} {ops:Array Oper} {fr':Fr} {st':St} {info:List Info} {F:Nat → Fr} {H:Nat → Nat → AO} {N:Nat → Nat} {I:Nat → Info}
  (t:Tr calls C mu ro.isSome ops 0 fr st fr' st' info F H N I) (hplain:∀ (j:Nat) (o:Oper),ops[j]? = some o → plainOp o.op = true) (hs:Sit C G st w b fr a u) (hro:RoRel G b ro) :
  ∀ j,j ≤ ops.size → (∃ G w a,Sit C G ⟨H j,N j,[]⟩ w b (F j) a u ∧ RoRel G b ro) ∧ ∀ i,i < j → ∀ o:Oper,ops[i]? = some o →
   (∃ v,F (i + 1) = (F i).put o.dst v) ∧ N i ≤ N (i + 1) ∧ ∀ l,l < N i → l ∉ (I i).log → H (i + 1) l = H i l:=by
 intro j
 induction j with
 | zero =>
  intro _
  refine ⟨⟨G,w,a,?_,hro⟩,fun i hi => absurd hi (Nat.not_lt_zero _)⟩
  rw [t.f0,t.h0,t.n0]
  exact hs.log []
 | succ j ih =>
  intro hj
  obtain ⟨⟨G1,w1,a1,hs1,hro1⟩,ih2⟩:=ih (by omega)
  obtain ⟨o,ho⟩:∃ o,ops[j]? = some o:=⟨_,Array.getElem?_eq_getElem (show j < ops.size by omega)⟩
  have fact:(∃ G w a,Sit C G ⟨H (j + 1),N (j + 1),[]⟩ w b (F (j + 1)) a u ∧ RoRel G b ro) ∧ (∃ v,F (j + 1) = (F j).put o.dst v) ∧ N j ≤ N (j + 1) ∧ ∀ l,l < N j → l ∉ (I j).log → H (j + 1) l = H j l:=by
   rcases t.step j o (Nat.zero_le _) ho with ⟨h1,h2,h3,h4,h5⟩ | ⟨h1,lg,h2,h3,h4⟩
   ·refine ⟨⟨G1,w1,a1.put o.dst undef,?_,hro1⟩,⟨undefA,h2⟩,by omega,fun l _ _ => by rw [h3]⟩
    rw [h2,h3,h4]
    exact hs1.put VR.undef o.dst
   ·obtain ⟨v,q,w',G',ls,e1,e2,e3,e4,e5⟩:=runOp_step (rest:=[]) (k:=[]) (K:=K) hC (hcall j) hct ho (wanted_sound hs1.frs h1) hs1 hro1 (hplain j o ho) h2
    refine ⟨⟨G',w',a1.put o.dst q,?_,hro1.ext e3.ext⟩,⟨v,e1⟩,e3.next,fun l hl hn => ?_⟩
    ·rw [e1]
     exact ((hs1.ext e3).put e2 o.dst).log []
    ·refine e3.keep l hl fun hm => hn ?_
     rw [h3]
     simp at e4
     rw [e4]; exact hm
  refine ⟨fact.1,fun i hi o' ho' => ?_⟩
  by_cases hij:i = j
  ·subst hij
   rw [ho] at ho'; cases ho'
   exact fact.2
  ·exact ih2 i (by omega) o' ho'
theorem road_of (hC:CtxOk C) {calls:Nat → CallF} (hcall:∀ j,CallsOk C (calls j)) (hct:CtOk b K) {ro:Option Nat} {mu:Bool} {ops:Array Oper} {fr':Fr} {st':St} {info:List Info}
  (hs:Sit C G st w b fr a u) (hro:RoRel G b ro) (hrun:runDraw calls C mu ro.isSome ops 0 ops.toList fr st = some (fr',st',info)) (hord:orderOk st.next (Region.before ops).toList (insL ops) info 0 info = true) (hdr:drawable ops = true) :
  ∃ F H N I V,RgRoad calls C mu ro.isSome ops fr st F H N I V ∧ F ops.size = fr' ∧ H ops.size = st'.heap ∧ N ops.size = st'.next ∧ ∃ lgs,st'.log = lgs ++ st.log ∧ ∀ j,j < ops.size → ∀ l ∈ (I j).log,l ∈ lgs:=by
 obtain ⟨d1,d2,d3⟩:=drawable_spec hdr
 obtain ⟨F,H,N,I,t⟩:=runDraw_tr ops.toList 0 fr st fr' st' info (Nat.zero_le _) rfl hrun
 have facts:=(tr_sits hC hcall hct t d2 hs hro ops.size (Nat.le_refl _)).2
 have hinfo:∀ i,i < ops.size → info[i]? = some (I i):=fun i hi => by rw [t.info]; simp [hi]
 have hV:∃ V:Nat → AV,∀ (j:Nat) (o:Oper),ops[j]? = some o → F (j + 1) = (F j).put o.dst (V j):=by
  have:∀ j,∃ v,∀ o:Oper,ops[j]? = some o → F (j + 1) = (F j).put o.dst v:=fun j => by
   cases ho:ops[j]? with
   | none => exact ⟨.any,fun _ h => by cases h⟩
   | some o =>
    obtain ⟨v,hv⟩:=(facts j (Array.getElem?_eq_some_iff.1 ho).1 o ho).1
    exact ⟨v,fun o' h => by cases h; exact hv⟩
  exact ⟨fun j => (this j).choose,fun j o ho => (this j).choose_spec o ho⟩
 obtain ⟨V,hV⟩:=hV
 have get:∀ j,j < ops.size → ∃ o,ops[j]? = some o:=fun j hj => ⟨_,Array.getElem?_eq_getElem hj⟩
 have lohi:∀ c,c < ops.size → ((I c).lo = N c ∧ (I c).hi = N (c + 1)) ∨ ((I c).hi = 0 ∧ N (c + 1) = N c):=fun c hc => by
  obtain ⟨o,ho⟩:=get c hc
  rcases t.step c o (Nat.zero_le _) ho with ⟨_,_,_,h4,h5⟩ | ⟨_,lg,_,h3,_⟩
  ·exact .inr ⟨by rw [h5],h4⟩
  ·exact .inl ⟨by rw [h3],by rw [h3]⟩
 have meet_pre:∀ j l,j < ops.size → (mayMeet st.next ((Region.before ops).toList.getD j 0) l 0 info = true ↔ preOf ops N j l):=fun j l hj => by
  rw [mayMeet_spec]
  unfold preOf
  rw [t.n0]
  refine or_congr Iff.rfl ⟨?_,?_⟩
  ·rintro ⟨i,x,h1,h2,h3,h4⟩
   rw [Nat.zero_add] at h4
   have hb:Bf ops i j:=h4
   have hi:=Nat.lt_trans (hb.lt d1) hj
   rw [hinfo i hi] at h1; cases h1
   rcases lohi i hi with ⟨e1,e2⟩ | ⟨e1,e2⟩
   ·exact ⟨i,hb,by omega,by omega⟩
   ·omega
  ·rintro ⟨c,hb,h1,h2⟩
   have hc:=Nat.lt_trans (hb.lt d1) hj
   rcases lohi c hc with ⟨e1,e2⟩ | ⟨e1,e2⟩
   ·exact ⟨c,_,hinfo c hc,by omega,by omega,by rw [Nat.zero_add]; exact hb⟩
   ·omega
 have hspec:=fun i (hi:i < ops.size) => orderOk_spec 0 info hord i _ (hinfo i hi)
 have hpair:∀ i j,i < ops.size → j < ops.size → (∃ l,l ∈ (I i).log) → meets st.next info ((Region.before ops).toList.getD j 0) (I i).log (I j) = true → (i = j ∨ Bf ops i j ∨ Bf ops j i) ∨ ((I j).rd.isSome = true ∧ Ins2 ops i j):=fun i j hi hj ⟨l,hl⟩ hm => by
  rcases hspec i hi with h | ⟨_,h⟩
  ·rw [h] at hl; cases hl
  ·have:=orderOk1_spec 0 info h j _ (hinfo j hj)
   rw [Nat.zero_add,Nat.zero_add] at this
   rcases this hm with h | ⟨h1,h2⟩
   ·exact .inl (ordered_spec h)
   ·exact .inr ⟨h1,sameIns_spec h2⟩
 refine ⟨F,H,N,I,V,?_,t.fm,t.hm,t.nm,by obtain ⟨lgs,e1,e2⟩:=t.log; exact ⟨lgs,e1,fun j hj => e2 j (Nat.zero_le _) hj⟩⟩
 exact {
  fwd:=d1,plain:=d2,d1:=d3,f0:=t.f0,h0:=t.h0,n0:=t.n0,f:=hV
  o1:=fun i j l hi hj hl hr hp => (hpair i j hi hj ⟨l,hl⟩ (by
   simp only [meets,hr,List.any_eq_true]
   exact ⟨l,hl,(meet_pre j l hj).2 hp⟩)).resolve_right fun h => by rw [hr] at h; cases h.1
  o2:=fun i j l rs hi hj hl hr hp => by
   rcases hpair i j hi hj ⟨l,hl⟩ (by
    simp only [meets,hr,List.any_eq_true]
    exact ⟨l,hp,l,hl,by simp⟩) with (h | h | h) | ⟨_,h⟩
   ·exact .inl h
   ·exact .inr (.inl h)
   ·exact .inr (.inr (.inl h))
   ·exact .inr (.inr (.inr h))
  o3:=fun i l hi hl => by
   rcases hspec i hi with h | ⟨h,_⟩
   ·rw [h] at hl; cases hl
   ·rw [Nat.zero_add] at h; exact (meet_pre i l hi).1 (h l hl)
  n:=fun j hj => by obtain ⟨o,ho⟩:=get j hj; exact (facts j hj o ho).2.1
  keep:=fun j hj => by obtain ⟨o,ho⟩:=get j hj; exact (facts j hj o ho).2.2
  log:=fun j hj l hl => by
   obtain ⟨o,ho⟩:=get j hj
   rcases t.step j o (Nat.zero_le _) ho with ⟨_,_,_,_,h5⟩ | ⟨_,lg,_,h3,h4⟩
   ·rw [h5] at hl; cases hl
   ·rw [h3] at hl; exact h4 l hl
  step:=fun j o ho => t.step j o (Nat.zero_le _) ho }
end
end Go.AE

namespace Go.AE
open Go
section
variable {C:Ctx}
theorem keyEq_symm {kt:TypeId} {a b:AV} (ha:plainV a = true) (hb:plainV b = true) (h:keyEq C kt a b = some false):keyEq C kt b a = some false:=by
 have e:keyEq C kt b a = keyEq C kt a b:=by
  have e1:keyEq C kt b a = cellEq C kt b a:=by cases a <;> cases b <;> first | rfl | cases ha
  have e2:keyEq C kt a b = cellEq C kt a b:=by cases a <;> cases b <;> first | rfl | cases ha
  rw [e1,e2]
  unfold cellEq
  cases C.ty kt with
  | none => rfl
  | some ti =>
   obtain ⟨u,z1,z2,z3,z4,z5⟩:=ti
   cases u <;> cases a <;> cases b <;> try rfl
   all_goals simp only
   all_goals grind
 rw [e]; exact h
theorem plain_vr {G G':Gh} {w w':World} {x:AV} {v:Value} (hx:plainV x = true) (h:VR G w x v):VR G' w' x v:=by
 cases h <;> simp only [plainV,Bool.false_eq_true] at hx <;> constructor
theorem cleanE_append {a b:List (AV × AV)}:cleanE (a ++ b) = true ↔ cleanE a = true ∧ cleanE b = true:=by simp [cleanE]
theorem cleanE_sub {a b:List (AV × AV)} (h:a.Sublist b) (hb:cleanE b = true):cleanE a = true:=by
 simp only [cleanE,List.all_eq_true] at hb ⊢
 exact fun x hx => hb x (h.subset hx)
theorem cleanE_perm {a b:List (AV × AV)} (h:a.Perm b) (hb:cleanE a = true):cleanE b = true:=by
 simp only [cleanE,List.all_eq_true] at hb ⊢
 exact fun x hx => hb x (h.mem_iff.2 hx)
def NoKey (C:Ctx) (kt:TypeId) (k:AV) (E:List (AV × AV)):Prop:=∀ x ∈ E,keyEq C kt k x.1 = some false
theorem findA_zer {kt:TypeId} {k:AV} {E:List (AV × AV)}:findA C kt k (zer E) 0 = some none ↔ NoKey C kt k E:=by
 rw [findA_none]
 simp only [NoKey,zer,List.mem_map]
 constructor
 ·intro h x hx; exact h _ ⟨x,hx,rfl⟩
 ·rintro h x ⟨y,hy,rfl⟩; exact h y hy
def entO:AO → Option (List (AV × AV))
 | .amap [] _ => some []
 | .lmap E => some E
 | _ => none
theorem updMap_iff {k v:AV} {ti:Option TI} {o p:AO} (h:updMap C k v true ti o = some p):∃ kt et z1 z2 z3 z4 z5,ti = some ⟨.map kt et,z1,z2,z3,z4,z5⟩ ∧ (keyEq C kt k k).isSome = true ∧
  ∃ E,entO o = some E ∧ NoKey C kt k E ∧ cleanE (E ++ [(k,v)]) = true ∧ p = .lmap (E ++ [(k,v)]):=by
 unfold updMap at h
 split at h
 ·rename_i kt et z1 z2 z3 z4 z5
  split at h
  ·rename_i hk
   refine ⟨kt,et,z1,z2,z3,z4,z5,rfl,hk,?_⟩
   unfold updObj at h
   split at h
   ·rename_i es cl
    split at h
    ·simp at h
    ·rename_i hf
     simp only [if_true] at h
     split at h
     ·rename_i hc
      rw [Bool.and_eq_true,List.isEmpty_iff] at hc
      obtain ⟨rfl,hc⟩:=hc
      cases h
      exact ⟨[],rfl,fun x hx => (by cases hx),hc,rfl⟩
     ·cases h
    ·cases h
   ·rename_i es
    split at h
    ·simp at h
    ·rename_i hf
     split at h
     ·cases h
     ·rename_i hc
      cases h
      refine ⟨es,rfl,findA_zer.1 hf,?_,rfl⟩
      simpa using hc
    ·cases h
   ·cases h
  ·cases h
 ·cases h
theorem updMap_of {k v:AV} {kt et:TypeId} {z1 z2 z3 z4 z5} {o:AO} {E:List (AV × AV)} (hk:(keyEq C kt k k).isSome = true) (h1:entO o = some E) (h2:NoKey C kt k E) (h3:cleanE (E ++ [(k,v)]) = true) :
  updMap C k v true (some ⟨.map kt et,z1,z2,z3,z4,z5⟩) o = some (.lmap (E ++ [(k,v)])):=by
 unfold updMap
 simp only
 rw [if_pos hk]
 unfold entO at h1
 split at h1
 ·cases h1
  unfold updObj
  simp only [findA,if_true,List.isEmpty_nil,Bool.true_and]
  rw [List.nil_append] at h3
  rw [if_pos h3]; rfl
 ·cases h1
  unfold updObj
  simp only [findA_zer.2 h2,h3]
  simp
 ·cases h1
def SubO (o o':AO):Prop:=o = o' ∨ ∃ E E',entO o = some E ∧ entO o' = some E' ∧ E.Sublist E'
theorem SubO.upd {k v:AV} {ti:Option TI} {o o' p':AO} (h:SubO o o') (hu:updMap C k v true ti o' = some p'):(∃ p,updMap C k v true ti o = some p ∧ SubO p p') ∧ SubO o p':=by
 obtain ⟨kt,et,z1,z2,z3,z4,z5,rfl,hk,E',h1,h2,h3,rfl⟩:=updMap_iff hu
 have:∃ E,entO o = some E ∧ E.Sublist E':=by
  rcases h with rfl | ⟨E,E2,a1,a2,a3⟩
  ·exact ⟨E',h1,List.Sublist.refl _⟩
  ·rw [h1] at a2; cases a2; exact ⟨E,a1,a3⟩
 obtain ⟨E,a1,a2⟩:=this
 have a3:=a2.append (List.Sublist.refl [(k,v)])
 exact ⟨⟨_,updMap_of hk a1 (fun x hx => h2 x (a2.subset hx)) (cleanE_sub a3 h3),.inr ⟨_,_,rfl,rfl,a3⟩⟩,.inr ⟨_,_,a1,rfl,a2.trans (List.sublist_append_left _ _)⟩⟩
def PermO (o o':AO):Prop:=o = o' ∨ ∃ E E',o = .lmap E ∧ o' = .lmap E' ∧ E.Perm E' ∧ cleanE E = true
theorem PermO.upd {k v:AV} {ti:Option TI} {o o' p':AO} (h:PermO o o') (hu:updMap C k v true ti o' = some p'):∃ p,updMap C k v true ti o = some p ∧ PermO p p':=by
 rcases h with rfl | ⟨E,E',rfl,rfl,a3,a4⟩
 ·exact ⟨_,hu,.inl rfl⟩
 ·obtain ⟨kt,et,z1,z2,z3,z4,z5,rfl,hk,E2,h1,h2,h3,rfl⟩:=updMap_iff hu
  cases h1
  have a5:=a3.append_right [(k,v)]
  have a6:=cleanE_perm a5.symm h3
  exact ⟨_,updMap_of hk rfl (fun x hx => h2 x (a3.mem_iff.1 hx)) a6,.inr ⟨_,_,rfl,rfl,a5,a6⟩⟩
theorem PermO.trans {o p q:AO} (h:PermO o p) (h':PermO p q):PermO o q:=by
 rcases h with rfl | ⟨E,E',rfl,rfl,a3,a4⟩
 ·exact h'
 ·rcases h' with rfl | ⟨E1,E2,e1,rfl,a5,a6⟩
  ·exact .inr ⟨_,_,rfl,rfl,a3,a4⟩
  ·cases e1
   exact .inr ⟨_,_,rfl,rfl,a3.trans a5,a4⟩
theorem upd_comm {k v k2 v2:AV} {ti:Option TI} {o p q:AO} (h1:updMap C k v true ti o = some p) (h2:updMap C k2 v2 true ti p = some q) :
  ∃ p' q',updMap C k2 v2 true ti o = some p' ∧ updMap C k v true ti p' = some q' ∧ PermO q' q:=by
 obtain ⟨kt,et,z1,z2,z3,z4,z5,rfl,hk,E,a1,a2,a3,rfl⟩:=updMap_iff h1
 obtain ⟨kt',et',z1',z2',z3',z4',z5',e,hk2,E',b1,b2,b3,rfl⟩:=updMap_iff h2
 cases e
 cases b1
 have hp:((E ++ [(k2,v2)]) ++ [(k,v)]).Perm ((E ++ [(k,v)]) ++ [(k2,v2)]):=by
  rw [List.append_assoc,List.append_assoc]
  exact (List.Perm.swap _ _ _).append_left E
 have b4:=cleanE_perm hp.symm b3
 have b5:plainV k = true ∧ plainV k2 = true:=by
  have c1:=(cleanE_append.1 (cleanE_append.1 b4).1).2
  have c2:=(cleanE_append.1 b4).2
  simp only [cleanE,List.all_cons,List.all_nil,Bool.and_eq_true] at c1 c2
  exact ⟨c2.1.1,c1.1.1⟩
 refine ⟨_,_,updMap_of hk2 a1 (fun x hx => b2 x (by simp [hx])) (cleanE_append.1 b4).1,updMap_of hk rfl (fun x hx => ?_) b4,.inr ⟨_,_,rfl,rfl,hp,b4⟩⟩
 rw [List.mem_append] at hx
 rcases hx with hx | hx
 ·exact a2 x hx
 ·rw [List.mem_singleton] at hx
  subst hx
  exact keyEq_symm b5.2 b5.1 (b2 (k,v) (by simp))
theorem entRel_plain {G G':Gh} {w w':World}:∀ {es:List Ent} {res:List MapEntry},cleanE (unz es) = true → EntRel G w es res → EntRel G' w' es res
 | [],[],_,_ => trivial
 | [],_ :: _,_,h => h.elim
 | _ :: _,[],_,h => h.elim
 | x :: es,m :: res,hc,h => by
  simp only [unz,List.map_cons,cleanE,List.all_cons,Bool.and_eq_true] at hc
  exact ⟨plain_vr hc.1.1 h.1,plain_vr hc.1.2 h.2.1,entRel_plain (by simpa [cleanE,unz] using hc.2) h.2.2⟩
theorem mapRel_plain {G G':Gh} {w w':World} {es:List Ent} {res:List MapEntry} (hc:cleanE (unz es) = true) (h:MapRel G w es res):MapRel G' w' es res:=by
 obtain ⟨es',h1,h2,h3⟩:=h
 exact ⟨es',h1,entRel_plain (cleanE_perm (h1.symm.map _) hc) h2,h3⟩
theorem perm_unz:∀ {a b:List (AV × AV)},a.Perm b → ∀ es:List Ent,unz es = a → ∃ es',unz es' = b ∧ es.Perm es':=by
 intro a b h
 induction h with
 | nil => intro es he; exact ⟨es,he,.refl _⟩
 | @cons x l1 l2 _ ih =>
  intro es he
  cases es with
  | nil => cases he
  | cons e es =>
   simp only [unz,List.map_cons,List.cons.injEq] at he
   obtain ⟨es',h1,h2⟩:=ih es he.2
   exact ⟨e :: es',by simp only [unz,List.map_cons,he.1] at h1 ⊢; rw [h1],h2.cons e⟩
 | @swap x y l =>
  intro es he
  match es,he with
  | [],he => cases he
  | [_],he => cases he
  | e1 :: e2 :: es,he =>
   simp only [unz,List.map_cons,List.cons.injEq] at he
   obtain ⟨h1,h2,h3⟩:=he
   exact ⟨e2 :: e1 :: es,by simp only [unz,List.map_cons,h1,h2,h3],.swap _ _ _⟩
 | trans _ _ ih1 ih2 =>
  intro es he
  obtain ⟨e1,a1,a2⟩:=ih1 es he
  obtain ⟨e2,b1,b2⟩:=ih2 e1 a1
  exact ⟨e2,b1,a2.trans b2⟩
theorem ObjRel.plainM {G G':Gh} {w w':World} {L:Loc} {o:AO} {E:List (AV × AV)} (h1:entO o = some E) (h2:cleanE E = true) (hw:w'.heap[L.blk]? = w.heap[L.blk]?) (h:ObjRel C G w L o):ObjRel C G' w' L o:=by
 unfold entO at h1
 split at h1
 ·cases h1
  obtain ⟨res,e1,e2⟩:=h
  exact ⟨res,hw.trans e1,mapRel_plain rfl e2⟩
 ·cases h1
  obtain ⟨es',res,cl,e0,e1,e2⟩:=h
  exact ⟨es',res,cl,e0,hw.trans e1,mapRel_plain (by rw [e0]; exact h2) e2⟩
 ·cases h1
theorem ObjRel.permM {G G':Gh} {w w':World} {L:Loc} {E E':List (AV × AV)} (hp:E.Perm E') (h2:cleanE E = true) (h:ObjRel C G w L (.lmap E)) (hw:w'.heap[L.blk]? = w.heap[L.blk]?):ObjRel C G' w' L (.lmap E'):=by
 obtain ⟨es',res,cl,e0,e1,e2⟩:=h
 obtain ⟨es2,f1,f2⟩:=perm_unz hp es' e0
 obtain ⟨es3,g1,g2,g3⟩:=(mapRel_plain (G':=G') (w':=w') (by rw [e0]; exact h2) e2:MapRel G' w' es' res.toList)
 exact ⟨es2,res,cl,f1,hw.trans e1,es3,g1.trans f2,g2,g3⟩
section
variable {mu ro:Bool} {fr fr':Fr} {o:Oper} {st st' st2:St} {t:TypeId} {m k x:Operand}
theorem ins_run {call:CallF} (hop:o.op = .insert t m k x) (h:runOp call C mu ro o fr st = some (.norm,fr',st')) :
  ∃ l ob,oval C fr m = .map l ∧ updMap C (oval C fr k) (oval C fr x) true (C.ty t) (st.heap l) = some ob ∧ st' = st.set l ob:=by
 unfold runOp opA at h
 simp only [hop] at h
 cases hm:oval C fr m with
 | map l =>
  rw [hm,mapUpd_obj] at h
  cases hu:updMap C (oval C fr k) (oval C fr x) true (C.ty t) (st.heap l) with
  | none => rw [hu] at h; simp [callA,hop] at h
  | some ob =>
   rw [hu] at h
   simp only [Option.map_some,Option.some.injEq,Prod.mk.injEq,true_and] at h
   exact ⟨l,ob,rfl,hu,h.2.symm⟩
 | _ =>
  rw [hm] at h
  simp [mapUpd,callA,hop] at h
theorem ins_run_of {call:CallF} {l:Nat} {ob:AO} (hop:o.op = .insert t m k x) (hm:oval C fr m = .map l) (hu:updMap C (oval C fr k) (oval C fr x) true (C.ty t) (st.heap l) = some ob) :
  runOp call C mu ro o fr st = some (.norm,fr.put o.dst undefA,st.set l ob):=by
 unfold runOp opA
 simp only [hop]
 rw [hm,mapUpd_obj,hu]
 rfl
end
end
end Go.AE

namespace Go.AE
open Go
open Classical in
noncomputable def Gh.cut (G:Gh) (p:Nat → Prop):Gh:=⟨fun l => if p l then G.loc l else none,G.K,G.base⟩
theorem Gh.cut_some {G:Gh} {p:Nat → Prop} {l:Nat} {L:Loc}:(G.cut p).loc l = some L ↔ p l ∧ G.loc l = some L:=by
 simp only [Gh.cut]
 by_cases h:p l <;> simp [h]
theorem Gh.cut_mono {G:Gh} {p q:Nat → Prop} (h:∀ l,p l → q l) (w:World):Ext (G.cut p) w (G.cut q) w :=
 ⟨fun l L e => by rw [Gh.cut_some] at e ⊢; exact ⟨h l e.1,e.2⟩,fun _ _ h => h,fun _ _ _ => rfl⟩
theorem Gh.cut_ext {G:Gh} {p:Nat → Prop} (w:World):Ext (G.cut p) w G w :=
 ⟨fun l L e => (Gh.cut_some.1 e).2,fun _ _ h => h,fun _ _ _ => rfl⟩
theorem ObjRel.same {C:Ctx} {G G':Gh} {w:World} {L:Loc} {o:AO} (he:Ext G w G' w) (hK:∀ b o,G'.K b o → G.K b o) (h:ObjRel C G w L o):ObjRel C G' w L o :=
 h.keep he rfl fun o => hK _ o
section
variable {ops:Array Oper}
def Ut (ops:Array Oper) (n:Nat) (V:Nat → AV) (t:Nat):Nat → Option (AV × Option Nat → AV × Option Nat):=fun i =>
 match ops[i]? with | some o => if o.dst = some t ∧ t < n then some (fun _ => (V i,some i)) else none | none => none
def Fh (C:Ctx) (ops:Array Oper) (F:Nat → Fr) (H:Nat → Nat → AO) (l i:Nat):AO × Option Nat → AO × Option Nat :=
 match insOf ops i with | some _ => fun x => ((phi C ops F i x.1).getD .dead,some i) | none => fun _ => (H (i + 1) l,some i)
open Classical in
noncomputable def Uh (C:Ctx) (ops:Array Oper) (F:Nat → Fr) (H:Nat → Nat → AO) (N:Nat → Nat) (I:Nat → Info) (l:Nat):Nat → Option (AO × Option Nat → AO × Option Nat):=fun i =>
 if i < ops.size ∧ (l ∈ (I i).log ∨ (N i ≤ l ∧ l < N (i + 1))) then some (Fh C ops F H l i) else none
theorem Fh_tag {C:Ctx} {F:Nat → Fr} {H:Nat → Nat → AO} {l i:Nat} {x:AO × Option Nat}:(Fh C ops F H l i x).2 = some i:=by
 unfold Fh; cases insOf ops i <;> rfl
theorem Fh_const {C:Ctx} {F:Nat → Fr} {H:Nat → Nat → AO} {l i:Nat} (h:insOf ops i = none):Fh C ops F H l i = fun _ => (H (i + 1) l,some i):=by
 unfold Fh; rw [h]
theorem Fh_ins {C:Ctx} {F:Nat → Fr} {H:Nat → Nat → AO} {l i:Nat} {t:TypeId} (h:insOf ops i = some t):Fh C ops F H l i = fun x => ((phi C ops F i x.1).getD .dead,some i):=by
 unfold Fh; rw [h]
end
section
variable {C:Ctx} {ops:Array Oper} {calls:Nat → CallF} {mu ro:Bool} {fr:Fr} {st:St} {F:Nat → Fr} {H:Nat → Nat → AO} {N:Nat → Nat} {I:Nat → Info} {V:Nat → AV}
theorem RgRoad.mono (r:RgRoad calls C mu ro ops fr st F H N I V):∀ {i j:Nat},i ≤ j → j ≤ ops.size → N i ≤ N j:=by
 intro i j h
 induction h with
 | refl => intro _; exact Nat.le_refl _
 | step h ih => intro hj; exact Nat.le_trans (ih (by omega)) (r.n _ (by omega))
theorem RgRoad.maker (r:RgRoad calls C mu ro ops fr st F H N I V) {c d l:Nat} (hc:c < ops.size) (hd:d < ops.size) (h1:N c ≤ l) (h2:l < N (c + 1)) (h3:N d ≤ l) (h4:l < N (d + 1)):c = d:=by
 rcases Nat.lt_trichotomy c d with h | h | h
 ·have:=r.mono (i:=c + 1) (j:=d) (by omega) (by omega); omega
 ·exact h
 ·have:=r.mono (i:=d + 1) (j:=c) (by omega) (by omega); omega
theorem RgRoad.pre_lt (r:RgRoad calls C mu ro ops fr st F H N I V) {j l:Nat} (hj:j < ops.size) (h:preOf ops N j l):l < N j:=by
 rcases h with h | ⟨c,hb,h1,h2⟩
 ·have:=r.mono (i:=0) (j:=j) (by omega) (by omega); omega
 ·have:=r.mono (i:=c + 1) (j:=j) (hb.lt r.fwd) (by omega); omega
theorem RgRoad.fn (r:RgRoad calls C mu ro ops fr st F H N I V):∀ j,j ≤ ops.size → (F j).n = fr.n:=by
 intro j
 induction j with
 | zero => intro _; rw [r.f0]
 | succ j ih => intro hj; rw [r.f j _ (Array.getElem?_eq_getElem (show j < ops.size by omega)),put_n,ih (by omega)]
theorem RgRoad.fd (r:RgRoad calls C mu ro ops fr st F H N I V):∀ j,j ≤ ops.size → (F j).defs = fr.defs ∧ (F j).pv = fr.pv:=by
 intro j
 induction j with
 | zero => intro _; rw [r.f0]; exact ⟨rfl,rfl⟩
 | succ j ih => intro hj; rw [r.f j _ (Array.getElem?_eq_getElem (show j < ops.size by omega)),frput_defs.1,frput_defs.2]; exact ih (by omega)
theorem RgRoad.ft (r:RgRoad calls C mu ro ops fr st F H N I V) (t:Nat):∀ j,j ≤ ops.size → (F j).tmps t = (rp (Ut ops fr.n V t) (fr.tmps t,none) (fun _ => true) j).1:=by
 intro j
 induction j with
 | zero => intro _; rw [r.f0]; rfl
 | succ j ih =>
  intro hj
  have ho:=Array.getElem?_eq_getElem (show j < ops.size by omega)
  have hn:=r.fn j (by omega)
  rw [r.f j _ ho]
  simp only [rp,if_true,Ut,ho]
  cases hd:ops[j].dst with
  | none => simp only [Fr.put]; simp [ih (by omega),Ut]
  | some d =>
   simp only [Fr.put,hn]
   by_cases hdn:d < fr.n
   ·rw [if_pos hdn]
    by_cases hdt:t = d
    ·subst hdt; simp [upd,hdn]
    ·have:¬ d = t:=fun h => hdt h.symm
     simp [upd,hdt,this,ih (by omega),Ut]
   ·rw [if_neg hdn,ih (by omega)]
    have:¬ (some d = some t ∧ t < fr.n):=fun h => hdn (Option.some.inj h.1 ▸ h.2)
    rw [if_neg this]
theorem insOf_op {j:Nat} {t:TypeId} (h:insOf ops j = some t):∃ o m k x,ops[j]? = some o ∧ o.op = .insert t m k x:=by
 unfold insOf at h
 cases ho:ops[j]? with
 | none => rw [ho] at h; cases h
 | some o =>
  rw [ho] at h
  change insT o.op = some t at h
  cases hop:o.op <;> rw [hop] at h <;> first | (cases h; done) | skip
  cases h
  exact ⟨o,_,_,_,rfl,hop⟩
theorem RgRoad.ins (r:RgRoad calls C mu ro ops fr st F H N I V) {j:Nat} {t:TypeId} (hi:insOf ops j = some t):N (j + 1) = N j ∧ ∀ l ∈ (I j).log,(I j).log = [l] ∧ (I j).rd = some [l] ∧ phi C ops F j (H j l) = some (H (j + 1) l):=by
 obtain ⟨o,m,k,x,ho,hop⟩:=insOf_op hi
 rcases r.step j o ho with ⟨h1,h2,_,h4,h5⟩ | ⟨h1,lg,h2,h3,h4⟩
 ·refine ⟨h4,fun l hl => ?_⟩
  rw [h5] at hl; cases hl
 ·obtain ⟨l,ob,e1,e2,e3⟩:=ins_run hop h2
  simp only [St.set,St.mk.injEq] at e3
  obtain ⟨g1,g2,rfl⟩:=e3
  refine ⟨g2,fun q hq => ?_⟩
  rw [h3] at hq ⊢
  rw [List.mem_singleton] at hq
  subst hq
  refine ⟨rfl,by simp [readsA,hop,e1],?_⟩
  simp only [phi,ho,hop,g1,upd_same]
  exact e2
theorem RgRoad.ht (r:RgRoad calls C mu ro ops fr st F H N I V) (l:Nat):∀ j,j ≤ ops.size → l < N j → H j l = (rp (Uh C ops F H N I l) (st.heap l,none) (fun _ => true) j).1:=by
 intro j
 induction j with
 | zero => intro _ _; rw [r.h0]; rfl
 | succ j ih =>
  intro hj hl
  simp only [rp,if_true]
  by_cases hu:j < ops.size ∧ (l ∈ (I j).log ∨ (N j ≤ l ∧ l < N (j + 1)))
  ·simp only [Uh]; rw [if_pos hu]
   simp only
   cases hi:insOf ops j with
   | none => rw [Fh_const hi]
   | some t =>
    rw [Fh_ins hi]
    simp only
    obtain ⟨h1,h2⟩:=r.ins hi
    have hm:l ∈ (I j).log:=by
     rcases hu.2 with h | h
     ·exact h
     ·omega
    rw [← ih (by omega) (r.log j (by omega) l hm).1,(h2 l hm).2.2]
    rfl
  ·have e:Uh C ops F H N I l j = none:=by simp only [Uh]; rw [if_neg hu]
   rw [e]
   simp only [not_and,not_or] at hu
   have:=hu (by omega)
   have hlt:l < N j:=by
    rcases Nat.lt_or_ge l (N j) with h | h
    ·exact h
    ·exact absurd hl (this.2 h)
   rw [r.keep j (by omega) l hlt this.1]
   exact ih (by omega) hlt
theorem RgRoad.tphi (r:RgRoad calls C mu ro ops fr st F H N I V) {j l:Nat} {t:TypeId} (hj:j < ops.size) (hi:insOf ops j = some t) (hm:l ∈ (I j).log) :
  phi C ops F j (rp (Uh C ops F H N I l) (st.heap l,none) (fun _ => true) j).1 = some (rp (Uh C ops F H N I l) (st.heap l,none) (fun _ => true) (j + 1)).1:=by
 have hl:=(r.log j hj l hm).1
 rw [← r.ht l j (by omega) hl,← r.ht l (j + 1) (by omega) (by have:=(r.ins hi).1; omega)]
 exact ((r.ins hi).2 l hm).2.2
end
end Go.AE

namespace Go.AE
open Go
section
variable {C:Ctx} {ops:Array Oper} {calls:Nat → CallF} {mu ro:Bool} {fr:Fr} {st:St} {F:Nat → Fr} {H:Nat → Nat → AO} {N:Nat → Nat} {I:Nat → Info} {V:Nat → AV}
noncomputable def tpOf (ops:Array Oper) (fr:Fr) (V:Nat → AV) (S:Nat → Bool) (t:Nat):AV × Option Nat:=rp (Ut ops fr.n V t) (fr.tmps t,none) S ops.size
noncomputable def hpOf (C:Ctx) (ops:Array Oper) (st:St) (F:Nat → Fr) (H:Nat → Nat → AO) (N:Nat → Nat) (I:Nat → Info) (S:Nat → Bool) (l:Nat):AO × Option Nat:=rp (Uh C ops F H N I l) (st.heap l,none) S ops.size
structure RgInv (C:Ctx) (ops:Array Oper) (fr:Fr) (st:St) (F:Nat → Fr) (H:Nat → Nat → AO) (N:Nat → Nat) (I:Nat → Info) (V:Nat → AV) (G0:Gh) (w0:World) (a0:Act) (ALL:List Nat) (S:Nat → Bool) (G:Gh) (w:World) (a:Act):Prop where
 closed:∀ j,S j = true → ∀ i,Bf ops i j → S i = true
 dom:∀ l L,G.loc l = some L → l < N 0 ∨ ∃ c,S c = true ∧ c < ops.size ∧ N c ≤ l ∧ l < N (c + 1)
 loc0:∀ l,l < N 0 → G.loc l = G0.loc l
 obj:∀ l L,G.loc l = some L → L.blk < w.heap.size ∧ G.base ≤ L.blk ∧ ObjRel C (G.cut (ownOf ops N (hpOf C ops st F H N I S l).2)) w L (hpOf C ops st F H N I S l).1
 sep:∀ l1 l2 L1 L2,G.loc l1 = some L1 → G.loc l2 = some L2 → alive (hpOf C ops st F H N I S l1).1 → alive (hpOf C ops st F H N I S l2).1 → L1.blk = L2.blk → l1 = l2
 kold:∀ b o,G.K b o → b < w.heap.size
 base:G.base = G0.base
 ext0:Ext G0 w0 (G.cut (· < N 0)) w
 size:w0.heap.size ≤ w.heap.size
 tsize:a.tmps.size = fr.n
 tmp:∀ t,VR (G.cut (ownOf ops N (tpOf ops fr V S t).2)) w (tpOf ops fr V S t).1 (a.tmps.getD t undef)
 dfs:a.defers = a0.defers
 frame:∀ b,b < w0.heap.size → ¬ Touches G0 ALL b → w.heap[b]? = w0.heap[b]?
 newloc:∀ l L,G0.loc l = none → G.loc l = some L → N 0 ≤ l ∧ (w0.heap.size ≤ L.blk ∨ Touches G0 ALL L.blk)
 newK:∀ b o,G.K b o → G0.K b o ∨ w0.heap.size ≤ b ∨ Touches G0 ALL b
 tape:w.tape = w0.tape
 os:w.os = w0.os
 output:w.output = w0.output
theorem own_pre {i j:Nat} (hf:Forward ops) (h:Bf ops i j) {l:Nat} (hl:ownOf ops N (some i) l):preOf ops N j l:=by
 rcases hl with hl | ⟨c,hc | hc,h1⟩
 ·exact .inl hl
 ·subst hc; exact .inr ⟨c,h,h1⟩
 ·exact .inr ⟨c,hc.trans hf h,h1⟩
theorem alive_iff {o:AO}:alive o ↔ o.isDead = false:=by cases o <;> simp [alive,AO.isDead]
theorem RgInv.seen (r:RgRoad calls C mu ro ops fr st F H N I V) {G0:Gh} {w0:World} {a0:Act} {ALL:List Nat} {S:Nat → Bool} {G:Gh} {w:World} {a:Act}
  (v:RgInv C ops fr st F H N I V G0 w0 a0 ALL S G w a) {j:Nat} {o:Oper} (ho:ops[j]? = some o) (hnot:S j = false) (hpre:∀ i,Bf ops i j → S i = true) {t:Nat} (ht:t ∈ namesOf ops o) :
  VR (G.cut (preOf ops N j)) w ((F j).tmps t) (a.tmps.getD t undef):=by
 have hj:=(Array.getElem?_eq_some_iff.1 ho).1
 have sees:∀ i,(Ut ops fr.n V t i).isSome = true → ∃ oi,ops[i]? = some oi ∧ oi.dst = some t:=fun i hi => by
  simp only [Ut] at hi
  cases ho':ops[i]? with
  | none => rw [ho'] at hi; cases hi
  | some oi =>
   rw [ho'] at hi
   simp only at hi
   split at hi
   ·rename_i h; exact ⟨oi,rfl,h.1⟩
   ·cases hi
 have bf:∀ i,S i = true → (Ut ops fr.n V t i).isSome = true → Bf ops i j:=fun i hS hi => by
  obtain ⟨oi,h1,h2⟩:=sees i hi
  rcases r.d1 i j oi o t h1 ho h2 ht with h | h | h
  ·subst h; rw [hnot] at hS; cases hS
  ·exact h
  ·have:=v.closed i hS j h; rw [hnot] at this; cases this
 have e:tpOf ops fr V S t = rp (Ut ops fr.n V t) (fr.tmps t,none) (fun _ => true) j:=by
  refine rp_agree ops.size (by omega) (fun i hi hu => ?_) fun i hi hi2 hu => ?_
  ·obtain ⟨oi,h1,h2⟩:=sees i hu
   rcases r.d1 i j oi o t h1 ho h2 ht with h | h | h
   ·omega
   ·exact hpre i h
   ·have:=h.lt r.fwd; omega
  ·cases hS:S i with
   | false => rfl
   | true => have:=(bf i hS hu).lt r.fwd; omega
 have hv:=v.tmp t
 have he:=r.ft t j (by omega)
 rw [he,← e]
 refine hv.ext (Gh.cut_mono (fun l hl => ?_) w)
 rcases rp_cases (U:=Ut ops fr.n V t) (x:=(fr.tmps t,none)) (S:=S) ops.size with h | ⟨i,f,y,h1,h2,h3,h4⟩
 ·have:(tpOf ops fr V S t).2 = none:=by unfold tpOf; rw [h]
  rw [this] at hl
  exact .inl hl
 ·have htag:(tpOf ops fr V S t).2 = some i:=by
   have e4:tpOf ops fr V S t = f y:=h4
   have this:=h3
   simp only [Ut] at this
   split at this
   ·split at this
    ·rw [e4,← Option.some.inj this]
    ·cases this
   ·cases this
  rw [htag] at hl
  exact own_pre r.fwd (bf i h2 (by rw [h3]; rfl)) hl
theorem RgInv.met (r:RgRoad calls C mu ro ops fr st F H N I V) {G0:Gh} {w0:World} {a0:Act} {ALL:List Nat} {S:Nat → Bool} {G:Gh} {w:World} {a:Act}
  (v:RgInv C ops fr st F H N I V G0 w0 a0 ALL S G w a) {j:Nat} (hj:j < ops.size) (hnot:S j = false) (hpre:∀ i,Bf ops i j → S i = true) {l:Nat} (hl:preOf ops N j l)
  (hlook:∀ i,i < ops.size → l ∈ (I i).log → i = j ∨ Bf ops i j ∨ Bf ops j i) :
  (hpOf C ops st F H N I S l).1 = H j l ∧ ∀ q,ownOf ops N (hpOf C ops st F H N I S l).2 q → preOf ops N j q:=by
 have bf:∀ i,(Uh C ops F H N I l i).isSome = true → i < j ∧ Bf ops i j ∨ i = j ∨ Bf ops j i:=fun i hi => by
  simp only [Uh] at hi
  split at hi
  ·rename_i h
   obtain ⟨h1,h2⟩:=h
   rcases h2 with h2 | ⟨h2,h3⟩
   ·rcases hlook i h1 h2 with h | h | h
    ·exact .inr (.inl h)
    ·exact .inl ⟨h.lt r.fwd,h⟩
    ·exact .inr (.inr h)
   ·rcases hl with hl | ⟨c,hc,h4,h5⟩
    ·have:=r.mono (i:=0) (j:=i) (by omega) (by omega); omega
    ·have:=r.maker h1 (Nat.lt_trans (hc.lt r.fwd) hj) h2 h3 h4 h5
     subst this
     exact .inl ⟨hc.lt r.fwd,hc⟩
  ·cases hi
 have e:hpOf C ops st F H N I S l = rp (Uh C ops F H N I l) (st.heap l,none) (fun _ => true) j:=by
  refine rp_agree ops.size (by omega) (fun i hi hu => ?_) fun i hi hi2 hu => ?_
  ·rcases bf i hu with h | h | h
   ·exact hpre i h.2
   ·omega
   ·have:=h.lt r.fwd; omega
  ·cases hS:S i with
   | false => rfl
   | true =>
    rcases bf i hu with h | h | h
    ·omega
    ·subst h; rw [hnot] at hS; cases hS
    ·have:=v.closed i hS j h; rw [hnot] at this; cases this
 refine ⟨by rw [e]; exact (r.ht l j (by omega) (r.pre_lt hj hl)).symm,fun q hq => ?_⟩
 rcases rp_cases (U:=Uh C ops F H N I l) (x:=(st.heap l,none)) (S:=S) ops.size with h | ⟨i,f,y,h1,h2,h3,h4⟩
 ·have:(hpOf C ops st F H N I S l).2 = none:=by unfold hpOf; rw [h]
  rw [this] at hq
  exact .inl hq
 ·have htag:(hpOf C ops st F H N I S l).2 = some i:=by
   have e4:hpOf C ops st F H N I S l = f y:=h4
   have this:=h3
   simp only [Uh] at this
   split at this
   ·rw [e4,← Option.some.inj this]; exact Fh_tag
   ·cases this
  rw [htag] at hq
  rcases bf i (by rw [h3]; rfl) with h | h | h
  ·exact own_pre r.fwd h.2 hq
  ·subst h; rw [hnot] at h2; cases h2
  ·have:=v.closed i h2 j h; rw [hnot] at this; cases this
end
end Go.AE

namespace Go.AE
open Go
section
variable {C:Ctx} {mu ro:Bool} {fr fr':Fr} {o:Oper} {st st' st2:St}
theorem readsA_congr (h:∀ x ∈ o.op.operands,oval C fr x = oval C fr' x):readsA C fr o = readsA C fr' o:=by
 unfold readsA
 cases hop:o.op <;> rw [hop] at h <;> simp only [Op.operands] at h <;> try rfl
 case load t a => simp only [h a (by simp)]
 case lookup t m k ok => simp only [h m (by simp)]
 case insert t m k x => simp only [h m (by simp)]
 case store t a x => simp only [h a (by simp)]
theorem runOp_reads {call:CallF} {rs:List Nat} (hrd:readsA C fr o = some rs) (h:runOp call C mu ro o fr st = some (.norm,fr',st')) (hn:st2.next = st.next) (hh:∀ l ∈ rs,st2.heap l = st.heap l) :
  ∃ v st2',fr' = fr.put o.dst v ∧ runOp call C mu ro o fr st2 = some (.norm,fr',st2') ∧ SameStepW rs st st' st2 st2':=by
 unfold runOp at h ⊢
 cases hop:opA C mu ro fr st o with
 | some q =>
  obtain ⟨v,s1,s2,e1,e2,e3⟩:=reads_frame hrd hop hn hh
  subst e1
  rw [hop] at h
  simp only [Option.some.injEq,Prod.mk.injEq,true_and] at h
  obtain ⟨rfl,rfl⟩:=h
  exact ⟨v,s2,rfl,by rw [e2],e3⟩
 | none =>
  exfalso
  rw [hop] at h
  simp only [callA] at h
  unfold readsA at hrd
  cases hc:o.op <;> rw [hc] at h hrd <;> simp only [] at h hrd <;> first | (cases h; done) | skip
  rename_i c
  obtain ⟨cc,ca,ct⟩:=c
  cases cc <;> simp [quietOp,calleeA] at h hrd
end
section
variable {C:Ctx} {ops:Array Oper} {calls:Nat → CallF} {mu:Bool} {ro:Option Nat} {fr:Fr} {st:St} {F:Nat → Fr} {H:Nat → Nat → AO} {N:Nat → Nat} {I:Nat → Info} {V:Nat → AV}
variable {G0:Gh} {w0:World} {a0:Act} {ALL:List Nat} {S:Nat → Bool} {G:Gh} {w:World} {a:Act}
theorem oval_names {o:Oper} {fr fr':Fr} (h:∀ t ∈ namesOf ops o,fr.tmps t = fr'.tmps t):∀ x ∈ o.op.operands,oval C fr x = oval C fr' x:=fun x hx => by
 cases x with
 | tmp t =>
  refine h t ?_
  simp only [namesOf,tmpsOf,List.mem_append,List.mem_filterMap]
  exact .inl (.inr ⟨.tmp t,by simpa using hx,rfl⟩)
 | _ => rfl
theorem wantedA_names {o:Oper} {fr fr':Fr} (h:∀ t ∈ namesOf ops o,fr.tmps t = fr'.tmps t):wantedA ops fr o = wantedA ops fr' o:=by
 unfold wantedA
 cases hg:o.guard with
 | none => rfl
 | some jw =>
  obtain ⟨j,want⟩:=jw
  simp only
  cases hd:(ops[j]?).bind (·.dst) with
  | none => rfl
  | some d =>
   have:d ∈ namesOf ops o:=by simp [namesOf,hg,hd]
   simp only [h d this]
def andS (S:Nat → Bool) (j:Nat):Nat → Bool:=fun i => i == j || S i
theorem andS_self {j:Nat}:andS S j j = true:=by simp [andS]
theorem andS_ne {i j:Nat} (h:i ≠ j):andS S j i = S i:=by simp [andS,h]
theorem RgInv.put (r:RgRoad calls C mu ro.isSome ops fr st F H N I V) (v:RgInv C ops fr st F H N I V G0 w0 a0 ALL S G w a) {j:Nat} {o:Oper} (ho:ops[j]? = some o) (hnot:S j = false)
  {G':Gh} {w':World} (he:∀ tag,Ext (G.cut (ownOf ops N tag)) w (G'.cut (ownOf ops N tag)) w') {q:Value} (hq:∀ t,o.dst = some t → t < fr.n → VR (G'.cut (ownOf ops N (some j))) w' (V j) q) :
  ∀ t,VR (G'.cut (ownOf ops N (tpOf ops fr V (andS S j) t).2)) w' (tpOf ops fr V (andS S j) t).1 ((a.put o.dst q).tmps.getD t undef):=by
 intro t
 have hj:=(Array.getElem?_eq_some_iff.1 ho).1
 by_cases hd:o.dst = some t ∧ t < fr.n
 ·obtain ⟨h1,h2⟩:=hd
  have hu:Ut ops fr.n V t j = some fun _ => (V j,some j):=by simp only [Ut,ho]; rw [if_pos ⟨h1,h2⟩]
  have e:tpOf ops fr V (andS S j) t = (V j,some j):=by
   refine rp_put_some andS_self hu ops.size hj fun i hi hi2 hS => ?_
   rw [andS_ne (by omega)] at hS
   simp only [Ut]
   rw [Array.getElem?_eq_getElem hi2]
   simp only
   rw [if_neg]
   rintro ⟨hd,_⟩
   rcases r.d1 i j _ o t (Array.getElem?_eq_getElem hi2) ho hd (by simp [namesOf,h1]) with h | h | h
   ·omega
   ·have:=h.lt r.fwd; omega
   ·have:=v.closed i hS j h; rw [hnot] at this; cases this
  rw [e]
  have:(a.put o.dst q).tmps.getD t undef = q:=by
   rw [h1]
   simp [Act.put,Array.getD_eq_getD_getElem?,v.tsize,h2]
  rw [this]
  exact hq t h1 h2
 ·have hu:Ut ops fr.n V t j = none:=by simp only [Ut,ho]; rw [if_neg hd]
  have e:tpOf ops fr V (andS S j) t = tpOf ops fr V S t:=rp_put_none (fun i hi => andS_ne hi) hu _
  rw [e]
  have:(a.put o.dst q).tmps.getD t undef = a.tmps.getD t undef:=by
   cases hdst:o.dst with
   | none => rfl
   | some d =>
    simp only [Act.put,Array.getD_eq_getD_getElem?,Array.getElem?_setIfInBounds]
    by_cases hdt:d = t
    ·subst hdt
     have:¬ d < a.tmps.size:=by rw [v.tsize]; exact fun h => hd ⟨hdst,h⟩
     rw [if_pos rfl,if_neg this,Array.getElem?_eq_none (Nat.le_of_not_lt this)]
    ·rw [if_neg hdt]
  rw [this]
  exact (v.tmp t).ext (he _)
theorem put_size {q:Value} {d:Option Tmp}:(a.put d q).tmps.size = a.tmps.size:=by cases d <;> simp [Act.put]
theorem RgInv.closed_and (v:RgInv C ops fr st F H N I V G0 w0 a0 ALL S G w a) {j:Nat} (hpre:∀ i,Bf ops i j → S i = true):∀ k,andS S j k = true → ∀ i,Bf ops i k → andS S j i = true:=fun k hk i hi => by
 simp only [andS,Bool.or_eq_true,beq_iff_eq] at hk ⊢
 rcases hk with rfl | hk
 ·exact .inr (hpre i hi)
 ·exact .inr (v.closed k hk i hi)
theorem rp_lt {α:Type} {U:Nat → Option (α → α)} {x:α} {S:Nat → Bool} {j:Nat}:∀ m,m ≤ j → rp U x (andS S j) m = rp U x S m
 | 0,_ => rfl
 | m + 1,h => by simp only [rp,rp_lt (S:=S) (j:=j) m (show m ≤ j by omega),andS_ne (S:=S) (show m ≠ j by omega)]
theorem RgInv.ins_mid (r:RgRoad calls C mu ro.isSome ops fr st F H N I V) (v:RgInv C ops fr st F H N I V G0 w0 a0 ALL S G w a) {j:Nat} {t:TypeId} (hj:j < ops.size) (hnot:S j = false) (hpre:∀ i,Bf ops i j → S i = true)
  (hins:insOf ops j = some t) {l:Nat} (hl:l ∈ (I j).log):∃ ob,phi C ops F j (hpOf C ops st F H N I S l).1 = some ob ∧ PermO ob (hpOf C ops st F H N I (andS S j) l).1:=by
 obtain ⟨nj,hjl⟩:=r.ins hins
 obtain ⟨e1,e2,e3⟩:=hjl l hl
 have hlt:=(r.log j hj l hl).1
 have hpreO:=r.o3 j l hj hl
 have bad:∀ i,S i = true → ¬ Bf ops j i:=fun i hS h => by have:=v.closed i hS j h; rw [hnot] at this; cases this
 have wr:∀ m,m < ops.size → (l ∈ (I m).log ∨ (N m ≤ l ∧ l < N (m + 1))) → insOf ops m = none → m ≠ j → Bf ops m j ∨ Bf ops j m:=fun m hm hw hn hne => by
  rcases hw with hw | ⟨h1,h2⟩
  ·rcases r.o2 m j l _ hm hj hw e2 (by simp) with h | h | h | ⟨t',h,_⟩
   ·exact absurd h hne
   ·exact .inl h
   ·exact .inr h
   ·rw [hn] at h; cases h
  ·rcases hpreO with h | ⟨c,c1,c2,c3⟩
   ·have:=r.mono (i:=0) (j:=m) (by omega) (by omega); omega
   ·have:=r.maker hm (Nat.lt_trans (c1.lt r.fwd) hj) h1 h2 c2 c3
    subst this
    exact .inl c1
 have insW:∀ m t',m < ops.size → (l ∈ (I m).log ∨ (N m ≤ l ∧ l < N (m + 1))) → insOf ops m = some t' → l ∈ (I m).log:=fun m t' hm hw hi => by
  rcases hw with h | h
  ·exact h
  ·have:=(r.ins hi).1; omega
 have upto:∀ m,m ≤ j → SubO (rp (Uh C ops F H N I l) (st.heap l,none) S m).1 (rp (Uh C ops F H N I l) (st.heap l,none) (fun _ => true) m).1:=by
  intro m
  induction m with
  | zero => intro _; exact .inl rfl
  | succ m ih =>
   intro hm
   have ih:=ih (by omega)
   by_cases hw:m < ops.size ∧ (l ∈ (I m).log ∨ (N m ≤ l ∧ l < N (m + 1)))
   ·have hu:Uh C ops F H N I l m = some (Fh C ops F H l m):=by simp only [Uh]; rw [if_pos hw]
    cases hi:insOf ops m with
    | none =>
     have hS:S m = true:=by
      rcases wr m hw.1 hw.2 hi (by omega) with h | h
      ·exact hpre m h
      ·have:=h.lt r.fwd; omega
     simp only [rp,hS,if_true,hu,Fh_const hi]
     exact .inl rfl
    | some t' =>
     have hp:=r.tphi hw.1 hi (insW m t' hw.1 hw.2 hi)
     have hop:=insOf_op hi
     obtain ⟨o,mm,k,x,ho,hop⟩:=hop
     have hp':=hp
     simp only [phi,ho,hop] at hp'
     obtain ⟨⟨p,q1,q2⟩,q3⟩:=ih.upd hp'
     cases hS:S m with
     | false => simp only [rp,hS,Bool.false_eq_true,if_false] at q3 ⊢; exact q3
     | true =>
      have:(rp (Uh C ops F H N I l) (st.heap l,none) S (m + 1)).1 = p:=by
       simp only [rp,hS,if_true,hu,Fh_ins hi,phi,ho,hop,q1,Option.getD_some]
      rw [this]; exact q2
   ·have hu:Uh C ops F H N I l m = none:=by simp only [Uh]; rw [if_neg hw]
    simp only [rp,hu,if_true,ite_self]
    exact ih
 obtain ⟨o,mm,k,x,ho,hop⟩:=insOf_op hins
 have hphi:∀ y,phi C ops F j y = updMap C (oval C (F j) k) (oval C (F j) x) true (C.ty t) y:=fun y => by simp only [phi,ho,hop]
 have hUj:Uh C ops F H N I l j = some (Fh C ops F H l j):=by simp only [Uh]; rw [if_pos ⟨hj,.inl hl⟩]
 have base:=r.tphi hj hins hl
 rw [hphi] at base
 obtain ⟨⟨ob,b1,b2⟩,b3⟩:=(upto j (Nat.le_refl _)).upd base
 have key:∀ m,j + 1 ≤ m → m ≤ ops.size → (∃ ob,phi C ops F j (rp (Uh C ops F H N I l) (st.heap l,none) S m).1 = some ob ∧ PermO ob (rp (Uh C ops F H N I l) (st.heap l,none) (andS S j) m).1) ∧
   ((∃ d,d < m ∧ d ≠ j ∧ (l ∈ (I d).log ∨ (N d ≤ l ∧ l < N (d + 1))) ∧ insOf ops d = none ∧ Bf ops j d) ∨
    (SubO (rp (Uh C ops F H N I l) (st.heap l,none) S m).1 (rp (Uh C ops F H N I l) (st.heap l,none) (fun _ => true) m).1 ∧
     SubO (rp (Uh C ops F H N I l) (st.heap l,none) (andS S j) m).1 (rp (Uh C ops F H N I l) (st.heap l,none) (fun _ => true) m).1)):=by
  intro m hm
  induction hm with
  | refl =>
   intro _
   have s1:rp (Uh C ops F H N I l) (st.heap l,none) S (j + 1) = rp (Uh C ops F H N I l) (st.heap l,none) S j:=by simp only [rp,hnot,Bool.false_eq_true,if_false]
   have s2:(rp (Uh C ops F H N I l) (st.heap l,none) (andS S j) (j + 1)).1 = ob:=by
    have:rp (Uh C ops F H N I l) (st.heap l,none) (andS S j) j = rp (Uh C ops F H N I l) (st.heap l,none) S j:=rp_lt j (Nat.le_refl _)
    simp only [rp,andS_self,if_true,hUj,Fh_ins hins,this,hphi,b1,Option.getD_some]
   refine ⟨⟨ob,by rw [s1,hphi]; exact b1,by rw [s2]; exact .inl rfl⟩,.inr ⟨by rw [s1]; exact b3,by rw [s2]; exact b2⟩⟩
  | @step m hm ih =>
   intro hms
   have hm:j + 1 ≤ m:=hm
   obtain ⟨⟨ob,i1,i2⟩,i3⟩:=ih (by omega)
   have hne:m ≠ j:=by omega
   have hand:andS S j m = S m:=andS_ne hne
   by_cases hw:m < ops.size ∧ (l ∈ (I m).log ∨ (N m ≤ l ∧ l < N (m + 1)))
   ·have hu:Uh C ops F H N I l m = some (Fh C ops F H l m):=by simp only [Uh]; rw [if_pos hw]
    cases hi:insOf ops m with
    | none =>
     have hb:Bf ops j m:=by
      rcases wr m hw.1 hw.2 hi hne with h | h
      ·have:=h.lt r.fwd; omega
      ·exact h
     have hS:S m = false:=by
      cases hS:S m with
      | false => rfl
      | true => exact absurd hb (bad m hS)
     refine ⟨⟨ob,?_,?_⟩,.inl ⟨m,by omega,hne,hw.2,hi,hb⟩⟩
     ·simp only [rp,hS,Bool.false_eq_true,if_false]; exact i1
     ·simp only [rp,hand,hS,Bool.false_eq_true,if_false]; exact i2
    | some t' =>
     have hlm:=insW m t' hw.1 hw.2 hi
     obtain ⟨_,f2,_⟩:=(r.ins hi).2 l hlm
     cases hS:S m with
     | false =>
      refine ⟨⟨ob,?_,?_⟩,?_⟩
      ·simp only [rp,hS,Bool.false_eq_true,if_false]; exact i1
      ·simp only [rp,hand,hS,Bool.false_eq_true,if_false]; exact i2
      ·rcases i3 with ⟨d,d1,d2⟩ | ⟨i3,i4⟩
       ·exact .inl ⟨d,by omega,d2⟩
       ·obtain ⟨o',mm',k',x',ho',hop'⟩:=insOf_op hi
        have hp:=r.tphi hw.1 hi hlm
        simp only [phi,ho',hop'] at hp
        refine .inr ⟨?_,?_⟩
        ·have:=(i3.upd hp).2
         simp only [rp,hS,Bool.false_eq_true,if_false] at this ⊢; exact this
        ·have:=(i4.upd hp).2
         simp only [rp,hand,hS,Bool.false_eq_true,if_false] at this ⊢; exact this
     | true =>
      rcases i3 with ⟨d,d1,d2,d3,d4,d5⟩ | ⟨i3,i4⟩
      ·exfalso
       have hd:d < ops.size:=by omega
       rcases d3 with d3 | ⟨d3,d6⟩
       ·rcases r.o2 d m l _ hd hw.1 d3 f2 (by simp) with h | h | h | ⟨t2,h,_⟩
        ·omega
        ·exact bad d (v.closed m hS d h) d5
        ·have:=h.lt r.fwd; omega
        ·rw [d4] at h; cases h
       ·have:=d5.lt r.fwd
        have:=r.mono (i:=j) (j:=d) (by omega) (by omega)
        omega
      ·have hty:insOf ops m = some t:=by
        rcases r.o2 j m l _ hj hw.1 hl f2 (by simp) with h | h | h | ⟨t2,h,h'⟩
        ·omega
        ·exact absurd h (bad m hS)
        ·have:=h.lt r.fwd; omega
        ·rw [hins] at h; cases h; exact h'
       obtain ⟨o',mm',k',x',ho',hop'⟩:=insOf_op hty
       have hphi':∀ y,phi C ops F m y = updMap C (oval C (F m) k') (oval C (F m) x') true (C.ty t) y:=fun y => by simp only [phi,ho',hop']
       have hp:=r.tphi hw.1 hi hlm
       rw [hphi'] at hp
       obtain ⟨⟨p3,c1,c2⟩,_⟩:=i3.upd hp
       obtain ⟨⟨p4,c3,c4⟩,_⟩:=i4.upd hp
       have t1:(rp (Uh C ops F H N I l) (st.heap l,none) S (m + 1)).1 = p3:=by
        simp only [rp,hS,if_true,hu,Fh_ins hi,hphi',c1,Option.getD_some]
       have t2:(rp (Uh C ops F H N I l) (st.heap l,none) (andS S j) (m + 1)).1 = p4:=by
        simp only [rp,hand,hS,if_true,hu,Fh_ins hi,hphi',c3,Option.getD_some]
       obtain ⟨q,g1,g2⟩:=i2.upd c3
       rw [hphi] at i1
       obtain ⟨p',q',k1,k2,k3⟩:=upd_comm i1 g1
       rw [c1] at k1; cases k1
       rw [t1,t2,hphi]
       exact ⟨⟨q',k2,k3.trans g2⟩,.inr ⟨c2,c4⟩⟩
   ·have hu:Uh C ops F H N I l m = none:=by simp only [Uh]; rw [if_neg hw]
    refine ⟨⟨ob,?_,?_⟩,?_⟩
    ·simp only [rp,hu,ite_self]; exact i1
    ·simp only [rp,hu,ite_self]; exact i2
    ·rcases i3 with ⟨d,d1,d2⟩ | ⟨i3,i4⟩
     ·exact .inl ⟨d,by omega,d2⟩
     ·refine .inr ⟨?_,?_⟩
      ·simp only [rp,hu,ite_self,if_true]; exact i3
      ·simp only [rp,hu,ite_self,if_true]; exact i4
 exact (key ops.size (by omega) (Nat.le_refl _)).1
theorem RgInv.skip (r:RgRoad calls C mu ro.isSome ops fr st F H N I V) (v:RgInv C ops fr st F H N I V G0 w0 a0 ALL S G w a) {j:Nat} {o:Oper} (ho:ops[j]? = some o) (hnot:S j = false) (hpre:∀ i,Bf ops i j → S i = true)
  (h2:F (j + 1) = (F j).put o.dst undefA) (h4:N (j + 1) = N j) (h5:(I j).log = []):RgInv C ops fr st F H N I V G0 w0 a0 ALL (andS S j) G w (a.put o.dst undef):=by
 have hj:=(Array.getElem?_eq_some_iff.1 ho).1
 have hp:∀ l,hpOf C ops st F H N I (andS S j) l = hpOf C ops st F H N I S l:=fun l => by
  refine rp_put_none (fun i hi => andS_ne hi) ?_ _
  simp only [Uh]
  rw [if_neg]
  rw [h5]
  rintro ⟨_,h | h⟩
  ·cases h
  ·omega
 have hV:∀ t,o.dst = some t → t < fr.n → V j = undefA:=fun t h1 hlt => by
  have e:=r.f j o ho
  rw [h2,h1] at e
  have:=congrArg (fun f => Fr.tmps f t) e
  simp only [Fr.put,r.fn j (by omega),if_pos hlt,upd_same] at this
  exact this.symm
 exact {
  closed:=v.closed_and hpre
  dom:=fun l L hl => by
   rcases v.dom l L hl with h | ⟨c,h1,h2⟩
   ·exact .inl h
   ·exact .inr ⟨c,by simp [andS,h1],h2⟩
  loc0:=v.loc0
  obj:=fun l L hl => by rw [hp]; exact v.obj l L hl
  sep:=fun l1 l2 L1 L2 => by rw [hp,hp]; exact v.sep l1 l2 L1 L2
  kold:=v.kold,base:=v.base,ext0:=v.ext0,size:=v.size
  tsize:=by rw [put_size]; exact v.tsize
  tmp:=v.put r ho hnot (fun _ => Ext.refl _ _) fun t h1 hlt => by rw [hV t h1 hlt]; exact VR.undef
  dfs:=by rw [put_defers]; exact v.dfs
  frame:=v.frame,newloc:=v.newloc,newK:=v.newK,tape:=v.tape,os:=v.os,output:=v.output }
end
end Go.AE

namespace Go.AE
open Go
section
variable {C:Ctx} {b:Frame} {K:FrameMode → List Frame} {k:List Item} {u:FrameMode}
variable {ops:Array Oper} {calls:Nat → CallF} {mu:Bool} {ro:Option Nat} {fr:Fr} {st:St} {F:Nat → Fr} {H:Nat → Nat → AO} {N:Nat → Nat} {I:Nat → Info} {V:Nat → AV}
variable {G0:Gh} {w0:World} {a0:Act} {ALL:List Nat} {S:Nat → Bool} {G:Gh} {w:World} {a:Act}
theorem RgInv.step (hC:CtxOk C) (hcall:∀ j,CallsOk C (calls j)) (hct:CtOk b K) (hs0:Sit C G0 st w0 b fr a0 u) (hro:RoRel G0 b ro) (hALL:∀ j,j < ops.size → ∀ l ∈ (I j).log,l ∈ ALL)
  (r:RgRoad calls C mu ro.isSome ops fr st F H N I V) (v:RgInv C ops fr st F H N I V G0 w0 a0 ALL S G w a) {j:Nat} {o:Oper} (ho:ops[j]? = some o) (hnot:S j = false) (hpre:∀ i,Bf ops i j → S i = true) {rest:List Nat} :
  ∃ G' w' a',RgInv C ops fr st F H N I V G0 w0 a0 ALL (andS S j) G' w' a' ∧
   Steps C.P (lone (fa b a (.inRegion ops (j :: rest) :: k)) (K u) w) (lone (fa b a' (.inRegion ops rest :: k)) (K u) w'):=by
 have hj:=(Array.getElem?_eq_some_iff.1 ho).1
 have n0j:N 0 ≤ N j:=r.mono (Nat.zero_le _) (by omega)
 have hcut0:Ext G0 w0 (G.cut (preOf ops N j)) w:=v.ext0.trans (Gh.cut_mono (fun l hl => .inl hl) w)
 have seen:=fun {t:Nat} (ht:t ∈ namesOf ops o) => v.seen r ho hnot hpre ht
 obtain ⟨frj,hfrj⟩:∃ frj:Fr,frj = { F j with tmps:=fun t => if t ∈ namesOf ops o then (F j).tmps t else .any }:=⟨_,rfl⟩
 have fn:frj.n = fr.n:=by rw [hfrj]; exact r.fn j (by omega)
 have fdefs:frj.defs = fr.defs:=by rw [hfrj]; exact (r.fd j (by omega)).1
 have fpv:frj.pv = fr.pv:=by rw [hfrj]; exact (r.fd j (by omega)).2
 have ftm:∀ t,t ∈ namesOf ops o → (F j).tmps t = frj.tmps t:=fun t ht => by rw [hfrj]; simp [ht]
 have hfr:FrRel (G.cut (preOf ops N j)) w frj a.tmps:=⟨by rw [fn]; exact v.tsize,fun t => by
  by_cases ht:t ∈ namesOf ops o
  ·rw [← ftm t ht]; exact seen ht
  ·have:frj.tmps t = .any:=by rw [hfrj]; simp [ht]
   rw [this]; exact .any _⟩
 have hdfs:DefsRel (G.cut (preOf ops N j)) w frj.defs a.defers:=by rw [fdefs,v.dfs]; exact hs0.dfs.ext hcut0
 have hpvs:PvRel (G.cut (preOf ops N j)) w b.kind frj.pv u:=by rw [fpv]; exact hs0.pvs.ext hcut0
 have hop:=oval_names (C:=C) ftm
 rcases r.step j o ho with ⟨h1,h2,_,h4,h5⟩ | ⟨h1,lg,h2,h3,h4⟩
 ·refine ⟨G,w,_,v.skip r ho hnot hpre h2 h4 (by rw [h5]),?_⟩
  rw [wantedA_names ftm] at h1
  exact fa_op_skip ho (wanted_sound hfr h1)
 have hplain:=r.plain j o ho
 have hrun:∃ vv,F (j + 1) = (F j).put o.dst vv ∧ runOp (calls j) C mu ro.isSome o frj ⟨H j,N j,[]⟩ = some (.norm,frj.put o.dst vv,⟨H (j + 1),N (j + 1),lg⟩):=by
  have hpv:(F j).pv = frj.pv:=by rw [hfrj]
  rcases runOp_congr (call:=calls j) hop hpv (fun d st' => (opA_plain hplain).1 d st') (opA_plain hplain).2 h2 with ⟨vv,st1,e1,e2⟩ | ⟨vv,st1,e1,e2⟩
  ·simp only [Prod.mk.injEq,true_and] at e1
   obtain ⟨e1,rfl⟩:=e1
   exact ⟨vv,e1,e2⟩
  ·simp at e1
 obtain ⟨vv,hFv,hrun⟩:=hrun
 have hVv:∀ t,o.dst = some t → t < fr.n → V j = vv:=fun t h1 hlt => by
  have e:=r.f j o ho
  rw [hFv,h1] at e
  have:=congrArg (fun f => Fr.tmps f t) e
  simp only [Fr.put,r.fn j (by omega),if_pos hlt,upd_same] at this
  exact this.symm
 have hlog:(I j).log = lg:=by rw [h3]
 have hrd:(I j).rd = readsA C (F j) o:=by rw [h3]
 have hrd':readsA C (F j) o = readsA C frj o:=readsA_congr hop
 have bad:∀ i,S i = true → Bf ops j i → False:=fun i hS h => by have:=v.closed i hS j h; rw [hnot] at this; cases this
 have hp_const:insOf ops j = none → ∀ l,l ∈ lg ∨ (N j ≤ l ∧ l < N (j + 1)) → (l ∈ lg → preOf ops N j l ∧ ∀ i,i < ops.size → l ∈ (I i).log → i = j ∨ Bf ops i j ∨ Bf ops j i) →
   hpOf C ops st F H N I (andS S j) l = (H (j + 1) l,some j):=fun hni l hl hlg2 => by
  have hu:Uh C ops F H N I l j = some fun _ => (H (j + 1) l,some j):=by
   simp only [Uh]
   rw [if_pos ⟨hj,by rw [hlog]; exact hl⟩,Fh_const hni]
  refine rp_put_some andS_self hu ops.size hj fun i hi hi2 hS => ?_
  rw [andS_ne (by omega)] at hS
  simp only [Uh]
  rw [if_neg]
  rintro ⟨_,hm⟩
  rcases hl with hl | ⟨hl1,hl2⟩
  ·obtain ⟨x2,x3⟩:=hlg2 hl
   rcases hm with hm | ⟨hm1,hm2⟩
   ·rcases x3 i hi2 hm with h | h | h
    ·omega
    ·have:=h.lt r.fwd; omega
    ·exact bad i hS h
   ·have y1:=r.pre_lt hj x2
    have y2:=r.mono (i:=j) (j:=i) (by omega) (by omega)
    omega
  ·rcases hm with hm | ⟨hm1,hm2⟩
   ·rcases r.o3 i l hi2 hm with h | ⟨c,c1,c2,c3⟩
    ·omega
    ·have:=r.maker hj (Nat.lt_trans (c1.lt r.fwd) hi2) hl1 hl2 c2 c3
     subst this
     exact bad i hS c1
   ·have:=r.maker hj hi2 hl1 hl2 hm1 hm2
    omega
 have hp_new:∀ l,N j ≤ l ∧ l < N (j + 1) → hpOf C ops st F H N I (andS S j) l = (H (j + 1) l,some j):=fun l hl => by
  cases hi:insOf ops j with
  | none =>
   refine hp_const hi l (.inr hl) fun hm => ?_
   have:=(h4 l hm).1
   omega
  | some t => have:=(r.ins hi).1; omega
 have hst:∃ st2 st2':St,st2.next = N j ∧ st2.log = [] ∧ st2'.next = N (j + 1) ∧ st2'.log = lg ∧ runOp (calls j) C mu ro.isSome o frj st2 = some (.norm,frj.put o.dst vv,st2') ∧
   (∀ l L,preOf ops N j l → G.loc l = some L → ObjRel C (G.cut (preOf ops N j)) w L (st2.heap l) ∧ (alive (st2.heap l) → alive (hpOf C ops st F H N I S l).1)) ∧
   (∀ l,N j ≤ l ∧ l < N (j + 1) → st2'.heap l = H (j + 1) l) ∧ (∀ l ∈ lg,alive (hpOf C ops st F H N I S l).1 ∧ preOf ops N j l ∧
    (hpOf C ops st F H N I (andS S j) l = (st2'.heap l,some j) ∨ ∃ E E',st2'.heap l = .lmap E ∧ (hpOf C ops st F H N I (andS S j) l).1 = .lmap E' ∧ E.Perm E' ∧ cleanE E = true)):=by
  cases hi:insOf ops j with
  | some t =>
   obtain ⟨nj,hjl⟩:=r.ins hi
   obtain ⟨o',m,k2,x,ho',hop'⟩:=insOf_op hi
   rw [ho] at ho'; cases ho'
   obtain ⟨l,ob0,m1,m2,m3⟩:=ins_run hop' hrun
   simp only [St.set,St.mk.injEq] at m3
   obtain ⟨_,_,rfl⟩:=m3
   obtain ⟨ob,p1,p2⟩:=v.ins_mid r hj hnot hpre hi (l:=l) (by rw [hlog]; simp)
   have p1':=p1
   simp only [phi,ho,hop'] at p1'
   rw [hop k2 (by rw [hop']; simp [Op.operands]),hop x (by rw [hop']; simp [Op.operands])] at p1'
   obtain ⟨kt,et,z1,z2,z3,z4,z5,q1,q2,E,q3,q4,q5,q6⟩:=updMap_iff p1'
   have halive:alive (hpOf C ops st F H N I S l).1:=by
    unfold entO at q3
    split at q3
    ·rename_i h; rw [h]; trivial
    ·rename_i h; rw [h]; trivial
    ·cases q3
   have hpl:preOf ops N j l:=r.o3 j l hj (by rw [hlog]; simp)
   have hrun2:=ins_run_of (call:=calls j) (mu:=mu) (ro:=ro.isSome) (st:=⟨fun q => if q = l then (hpOf C ops st F H N I S l).1 else .dead,N j,[]⟩) (ob:=ob) hop' m1 (by simp only [if_true]; exact p1')
   have hvv:frj.put o.dst vv = frj.put o.dst undefA:=by
    have:=ins_run_of (call:=calls j) (mu:=mu) (ro:=ro.isSome) (st:=⟨H j,N j,[]⟩) (ob:=ob0) hop' m1 m2
    rw [hrun] at this
    simp only [Option.some.injEq,Prod.mk.injEq,true_and] at this
    exact this.1
   refine ⟨_,_,rfl,rfl,nj.symm,rfl,by rw [hvv]; exact hrun2,fun q L hp hL => ?_,fun q hq => by omega,fun q hq => ?_⟩
   ·by_cases hq:q = l
    ·subst hq
     simp only [if_true]
     exact ⟨((v.obj q L hL).2.2).plainM q3 (cleanE_append.1 q5).1 rfl,fun h => h⟩
    ·simp only [if_neg hq]
     exact ⟨trivial,fun h => h.elim⟩
   ·rw [List.mem_singleton] at hq
    subst hq
    refine ⟨halive,hpl,.inr ?_⟩
    simp only [St.set,upd_same]
    rcases p2 with h | ⟨E1,E2,h1,h2,h3,h4⟩
    ·exact ⟨_,_,q6,h.symm.trans q6,.refl _,q5⟩
    ·exact ⟨E1,E2,h1,h2,h3,h4⟩
  | none =>
  have hlg:∀ l ∈ lg,l < N j ∧ (H j l).isDead = false ∧ preOf ops N j l ∧ (∀ i,i < ops.size → l ∈ (I i).log → i = j ∨ Bf ops i j ∨ Bf ops j i) ∨ (I j).rd ≠ none:=fun l hl => by
   by_cases hn:(I j).rd = none
   ·left
    have hp:=r.o3 j l hj (by rw [hlog]; exact hl)
    exact ⟨(h4 l hl).1,(h4 l hl).2,hp,fun i hi hm => r.o1 i j l hi hj hm hn hp⟩
   ·exact .inr hn
  have good:∀ l,preOf ops N j l → (∀ i,i < ops.size → l ∈ (I i).log → i = j ∨ Bf ops i j ∨ Bf ops j i) → ∀ L,G.loc l = some L → ObjRel C (G.cut (preOf ops N j)) w L (H j l) ∧ (alive (H j l) → alive (hpOf C ops st F H N I S l).1):=fun l hp hlook L hL => by
   obtain ⟨e1,e2⟩:=v.met r hj hnot hpre hp hlook
   have:=(v.obj l L hL).2.2
   rw [e1] at this
   exact ⟨this.same (Gh.cut_mono e2 w) (fun _ _ h => h),fun ha => by rw [e1]; exact ha⟩
  cases hq:readsA C (F j) o with
  | none =>
   rw [hq] at hrd
   refine ⟨⟨H j,N j,[]⟩,⟨H (j + 1),N (j + 1),lg⟩,rfl,rfl,rfl,rfl,hrun,fun l L hp hL => good l hp (fun i hi hm => r.o1 i j l hi hj hm hrd hp) L hL,fun _ _ => rfl,fun l hl => ?_⟩
   rcases hlg l hl with ⟨x1,x2,x3,x4⟩ | hne
   ·exact ⟨by rw [(v.met r hj hnot hpre x3 x4).1]; exact alive_iff.2 x2,x3,.inl (hp_const hi l (.inl hl) fun _ => ⟨x3,x4⟩)⟩
   ·exact absurd hrd hne
  | some rs =>
   rw [hq] at hrd
   have hq':readsA C frj o = some rs:=by rw [← hrd']; exact hq
   obtain ⟨v1,st2',e1,e2,e3⟩:=runOp_reads (st2:=⟨fun l => if l ∈ rs then H j l else .dead,N j,[]⟩) hq' hrun rfl (fun l hl => by simp [hl])
   have shape:st2'.next = N (j + 1) ∧ st2'.log = lg ∧ (∀ l ∈ lg,l ∈ rs) ∧ (∀ l,l ∈ lg ∨ (N j ≤ l ∧ l < N (j + 1)) → st2'.heap l = H (j + 1) l):=by
    rcases e3 with (⟨f1,f2⟩ | ⟨ob,f1,f2⟩) | ⟨p,ob,f0,f1,f2⟩
    ·simp only [St.mk.injEq] at f1
     obtain ⟨g1,g2,g3⟩:=f1
     subst f2
     refine ⟨g2.symm,g3.symm,fun l hl => by rw [g3] at hl; simp at hl,fun l hl => ?_⟩
     rcases hl with hl | hl
     ·rw [g3] at hl; simp at hl
     ·omega
    ·simp only [St.push,St.mk.injEq] at f1
     obtain ⟨g1,g2,g3⟩:=f1
     subst f2
     refine ⟨g2.symm,g3.symm,fun l hl => by rw [g3] at hl; simp at hl,fun l hl => ?_⟩
     rcases hl with hl | hl
     ·rw [g3] at hl; simp at hl
     ·have:l = N j:=by omega
      subst this
      simp only [St.push,g1,upd_same]
    ·simp only [St.set,St.mk.injEq] at f1
     obtain ⟨g1,g2,g3⟩:=f1
     subst f2
     refine ⟨g2.symm,g3.symm,fun l hl => by rw [g3] at hl; simp at hl; subst hl; exact f0,fun l hl => ?_⟩
     rcases hl with hl | hl
     ·rw [g3] at hl
      simp at hl
      subst hl
      simp only [St.set,g1,upd_same]
     ·omega
   obtain ⟨s1,s2,s3,s4⟩:=shape
   have look:∀ l ∈ rs,∀ i,i < ops.size → l ∈ (I i).log → i = j ∨ Bf ops i j ∨ Bf ops j i:=fun l hl i hi' hm => by
    rcases r.o2 i j l rs hi' hj hm hrd hl with h | h | h | ⟨t',_,h⟩
    ·exact .inl h
    ·exact .inr (.inl h)
    ·exact .inr (.inr h)
    ·rw [hi] at h; cases h
   refine ⟨_,st2',rfl,rfl,s1,s2,e2,fun l L hp hL => ?_,fun l hl => s4 l (.inr hl),fun l hl => ?_⟩
   case' refine_2 =>
    have x3:=r.o3 j l hj (by rw [hlog]; exact hl)
    have x4:=look l (s3 l hl)
    refine ⟨by rw [(v.met r hj hnot hpre x3 x4).1]; exact alive_iff.2 (h4 l hl).2,x3,.inl ?_⟩
    rw [s4 l (.inl hl)]
    exact hp_const hi l (.inl hl) fun _ => ⟨x3,x4⟩
   by_cases hl:l ∈ rs
   ·simp only [if_pos hl]
    exact good l hp (look l hl) L hL
   ·simp only [if_neg hl]
    exact ⟨trivial,fun h => h.elim⟩
 obtain ⟨st2,st2',n2,l2,n2',l2',hrun2,hobj2,hnew2,hlg2⟩:=hst
 have hrel:Rel C (G.cut (preOf ops N j)) st2 w:={
  obj:=fun l L hl => by
   obtain ⟨hp,hL⟩:=Gh.cut_some.1 hl
   obtain ⟨x1,x2,_⟩:=v.obj l L hL
   exact ⟨by rw [n2]; exact r.pre_lt hj hp,x1,x2,(hobj2 l L hp hL).1⟩
  sep:=fun l1 l2 L1 L2 h1 h2 a1 a2 hb => by
   obtain ⟨p1,q1⟩:=Gh.cut_some.1 h1
   obtain ⟨p2,q2⟩:=Gh.cut_some.1 h2
   exact v.sep l1 l2 L1 L2 q1 q2 ((hobj2 l1 L1 p1 q1).2 a1) ((hobj2 l2 L2 p2 q2).2 a2) hb
  kold:=v.kold
  glob:=fun g cs h => (hs0.rel.glob g cs h).ext hcut0
  low:=by show G.base ≤ _; rw [v.base]; exact Nat.le_trans hs0.rel.low v.size }
 have hsit:Sit C (G.cut (preOf ops N j)) st2 w b frj a u:=⟨hrel,hfr,hdfs,hpvs⟩
 rw [wantedA_names ftm] at h1
 obtain ⟨v1,q,w',G',ls,e1,e2,e3,e4,e5⟩:=runOp_step (k:=k) (rest:=rest) hC (hcall j) hct ho (wanted_sound hfr h1) hsit (hro.ext hcut0) hplain hrun2
 rw [l2',l2,List.append_nil] at e4
 subst e4
 have hv1:∀ t,o.dst = some t → t < fr.n → V j = v1:=fun t h1 hlt => by
  rw [hVv t h1 hlt]
  rw [h1] at e1
  have:=congrArg (fun f => Fr.tmps f t) e1
  simp only [Fr.put,fn,if_pos hlt,upd_same] at this
  exact this
 have hnotin:∀ l,N j ≤ l → l < N (j + 1) → G.loc l = none:=fun l h1 h2 => by
  cases hL:G.loc l with
  | none => rfl
  | some L =>
   rcases v.dom l L hL with h | ⟨c,c1,c2,c3,c4⟩
   ·omega
   ·have:=r.maker hj c2 h1 h2 c3 c4
    subst this; rw [hnot] at c1; cases c1
 obtain ⟨Gn,hGn⟩:∃ Gn:Gh,Gn = ⟨fun l => if N j ≤ l ∧ l < N (j + 1) then G'.loc l else G.loc l,G'.K,G.base⟩:=⟨_,rfl⟩
 have gin:∀ l,N j ≤ l → l < N (j + 1) → Gn.loc l = G'.loc l:=fun l h1 h2 => by rw [hGn]; exact if_pos ⟨h1,h2⟩
 have gout:∀ l,¬ (N j ≤ l ∧ l < N (j + 1)) → Gn.loc l = G.loc l:=fun l h => by rw [hGn]; exact if_neg h
 have gK:Gn.K = G'.K:=by rw [hGn]
 have gpre:∀ l,preOf ops N j l → G'.loc l = G.loc l:=fun l hp => by
  cases hL:G.loc l with
  | some L => exact e3.ext.loc l L (Gh.cut_some.2 ⟨hp,hL⟩)
  | none =>
   cases hL':G'.loc l with
   | none => rfl
   | some L' =>
    have hcn:(G.cut (preOf ops N j)).loc l = none:=by
     cases hh:(G.cut (preOf ops N j)).loc l with
     | none => rfl
     | some L2 => rw [(Gh.cut_some.1 hh).2] at hL; cases hL
    have h1:=(e3.newloc l L' hcn hL').1
    have h2:=r.pre_lt hj hp
    omega
 have gof:∀ l L,G'.loc l = some L → (preOf ops N j l ∧ G.loc l = some L) ∨ (N j ≤ l ∧ l < N (j + 1) ∧ (w.heap.size ≤ L.blk ∨ Touches (G.cut (preOf ops N j)) lg L.blk)):=fun l L hL => by
  cases hh:(G.cut (preOf ops N j)).loc l with
  | some L2 =>
   have:=e3.ext.loc l L2 hh
   rw [hL] at this; cases this
   exact .inl (Gh.cut_some.1 hh)
  | none =>
   obtain ⟨x1,x2⟩:=e3.newloc l L hh hL
   have:=(e3.rel.obj l L hL).1
   exact .inr ⟨by omega,by omega,x2⟩
 have prenot:∀ l,preOf ops N j l → ¬ (N j ≤ l ∧ l < N (j + 1)):=fun l hp h => by have:=r.pre_lt hj hp; omega
 have hext:∀ tag,Ext (G.cut (ownOf ops N tag)) w (Gn.cut (ownOf ops N tag)) w':=fun tag => {
  loc:=fun l L hl => by
   obtain ⟨p1,p2⟩:=Gh.cut_some.1 hl
   refine Gh.cut_some.2 ⟨p1,?_⟩
   rw [gout l fun h => by rw [hnotin l h.1 h.2] at p2; cases p2]
   exact p2
  K:=fun b o h => by show Gn.K b o; rw [gK]; exact e3.ext.K b o h
  cell:=e3.ext.cell }
 have hext':Ext G' w' (Gn.cut (ownOf ops N (some j))) w':={
  loc:=fun l L hl => by
   refine Gh.cut_some.2 ?_
   rcases gof l L hl with ⟨hp,hL⟩ | ⟨h1,h2,_⟩
   ·refine ⟨?_,by rw [gout l (prenot l hp)]; exact hL⟩
    rcases hp with h | ⟨c,c1,c2⟩
    ·exact .inl h
    ·exact .inr ⟨c,.inr c1,c2⟩
   ·exact ⟨.inr ⟨j,.inl rfl,h1,h2⟩,by rw [gin l h1 h2]; exact hl⟩
  K:=fun b o h => by show Gn.K b o; rw [gK]; exact h
  cell:=fun _ _ _ => rfl }
 have hp_out:∀ l,¬ (l ∈ lg ∨ (N j ≤ l ∧ l < N (j + 1))) → hpOf C ops st F H N I (andS S j) l = hpOf C ops st F H N I S l:=fun l hl => by
  refine rp_put_none (fun i hi => andS_ne hi) ?_ _
  simp only [Uh]
  rw [if_neg]
  rw [hlog]
  exact fun h => hl h.2
 have alive_old:∀ l L,G.loc l = some L → alive (hpOf C ops st F H N I (andS S j) l).1 → alive (hpOf C ops st F H N I S l).1:=fun l L hL ha => by
  by_cases hl:l ∈ lg
  ·exact (hlg2 l hl).1
  ·rw [hp_out l (by rintro (h | h); exact hl h; rw [hnotin l h.1 h.2] at hL; cases hL)] at ha
   exact ha
 have alive_ls:∀ l ∈ lg,alive (hpOf C ops st F H N I S l).1:=fun l hl => (hlg2 l hl).1
 have alive_new:∀ l ∈ lg,alive (hpOf C ops st F H N I (andS S j) l).1 → alive (st2'.heap l):=fun l hl ha => by
  rcases (hlg2 l hl).2.2 with h | ⟨E,E',h1,_⟩
  ·rw [h] at ha; exact ha
  ·rw [h1]; trivial
 have hblk:∀ l L,G.loc l = some L → l ∉ lg → alive (hpOf C ops st F H N I S l).1 → ¬ Touches (G.cut (preOf ops N j)) lg L.blk:=fun l L hL hl ha ⟨l0,L0,m,hL0,hb⟩ => by
  have:=v.sep l0 l L0 L (Gh.cut_some.1 hL0).2 hL (alive_ls l0 m) ha hb
  exact hl (this ▸ m)
 have touch0:∀ b,b < w0.heap.size → Touches (G.cut (preOf ops N j)) lg b → Touches G0 ALL b:=fun b hb ⟨l0,L0,m,hL0,hb0⟩ => by
  have hL:=(Gh.cut_some.1 hL0).2
  cases hg:G0.loc l0 with
  | some L1 =>
   have:=(hs0.rel.obj l0 L1 hg).1
   have e:=v.loc0 l0 (by rw [r.n0]; exact this)
   rw [hL,hg] at e; cases e
   exact ⟨l0,L0,hALL j hj l0 (by rw [hlog]; exact m),hg,hb0⟩
  | none =>
   rcases (v.newloc l0 L0 hg hL).2 with h | h
   ·omega
   ·rw [hb0] at h; exact h
 refine ⟨Gn,w',a.put o.dst q,?_,e5⟩
 exact {
  closed:=v.closed_and hpre
  dom:=fun l L hl => by
   by_cases h:N j ≤ l ∧ l < N (j + 1)
   ·exact .inr ⟨j,andS_self,hj,h.1,h.2⟩
   ·rw [gout l h] at hl
    rcases v.dom l L hl with h | ⟨c,c1,c2⟩
    ·exact .inl h
    ·exact .inr ⟨c,by simp [andS,c1],c2⟩
  loc0:=fun l hl => by rw [gout l (by omega)]; exact v.loc0 l hl
  obj:=fun l L hl => by
   by_cases h:N j ≤ l ∧ l < N (j + 1)
   ·rw [gin l h.1 h.2] at hl
    obtain ⟨x1,x2,x3,x4⟩:=e3.rel.obj l L hl
    rw [hp_new l h]
    refine ⟨x2,by rw [hGn]; rw [e3.base] at x3; exact x3,?_⟩
    rw [hnew2 l h] at x4
    exact x4.same hext' (fun b o hh => by rw [← gK]; exact hh)
   ·rw [gout l h] at hl
    obtain ⟨x1,x2,x3⟩:=v.obj l L hl
    refine ⟨Nat.lt_of_lt_of_le x1 e3.size,by rw [hGn]; exact x2,?_⟩
    by_cases hm:l ∈ lg
    ·obtain ⟨_,hp,hh⟩:=hlg2 l hm
     have x4:=(e3.rel.obj l L (by rw [gpre l hp]; exact hl)).2.2.2
     rcases hh with hh | ⟨E,E',hh1,hh2,hh3,hh4⟩
     ·rw [hh]
      exact x4.same hext' (fun b o hh => by rw [← gK]; exact hh)
     ·rw [hh1] at x4
      rw [hh2]
      exact x4.permM hh3 hh4 rfl
    ·rw [hp_out l (by rintro (h1 | h1); exact hm h1; exact h h1)]
     by_cases ha:alive (hpOf C ops st F H N I S l).1
     ·have hnt:=hblk l L hl hm ha
      refine x3.keep (hext _) (e3.frame _ x1 hnt) fun o hk => ?_
      have hk':G'.K L.blk o:=by rw [← gK]; exact hk
      rcases e3.newK _ _ hk' with h1 | h1 | h1
      ·exact h1
      ·omega
      ·exact absurd h1 hnt
     ·cases ho:(hpOf C ops st F H N I S l).1 <;> simp [ho,alive] at ha
      trivial
  sep:=fun l1 l2 L1 L2 h1 h2 a1 a2 hb => by
   have both:∀ l L,Gn.loc l = some L → (N j ≤ l ∧ l < N (j + 1)) ∨ preOf ops N j l → G'.loc l = some L:=fun l L hl hc => by
    rcases hc with hc | hc
    ·rw [gin l hc.1 hc.2] at hl; exact hl
    ·rw [gout l (prenot l hc)] at hl; rw [gpre l hc]; exact hl
   have mixed:∀ l1 l2 L1 L2,Gn.loc l1 = some L1 → Gn.loc l2 = some L2 → alive (hpOf C ops st F H N I (andS S j) l1).1 → alive (hpOf C ops st F H N I (andS S j) l2).1 → L1.blk = L2.blk → (N j ≤ l1 ∧ l1 < N (j + 1)) → ¬ (N j ≤ l2 ∧ l2 < N (j + 1)) → l1 = l2:=fun l1 l2 L1 L2 h1 h2 a1 a2 hb c1 c2 => by
    have g1:=both l1 L1 h1 (.inl c1)
    rw [gout l2 c2] at h2
    have a2':=alive_old l2 L2 h2 a2
    rcases gof l1 L1 g1 with ⟨hp,_⟩ | ⟨_,_,hh | ⟨l0,L0,m,hL0,hb0⟩⟩
    ·exact absurd c1 (prenot l1 hp)
    ·have:=(v.obj l2 L2 h2).1; omega
    ·have e:=v.sep l0 l2 L0 L2 (Gh.cut_some.1 hL0).2 h2 (alive_ls l0 m) a2' (by omega)
     subst e
     obtain ⟨_,hp,_⟩:=hlg2 l0 m
     refine e3.rel.sep l1 l0 L1 L2 g1 (by rw [gpre l0 hp]; exact h2) ?_ ?_ hb
     ·rw [hnew2 l1 c1]; rw [hp_new l1 c1] at a1; exact a1
     ·exact alive_new l0 m a2
   by_cases c1:N j ≤ l1 ∧ l1 < N (j + 1)
   ·by_cases c2:N j ≤ l2 ∧ l2 < N (j + 1)
    ·refine e3.rel.sep l1 l2 L1 L2 (both _ _ h1 (.inl c1)) (both _ _ h2 (.inl c2)) ?_ ?_ hb
     ·rw [hnew2 l1 c1]; rw [hp_new l1 c1] at a1; exact a1
     ·rw [hnew2 l2 c2]; rw [hp_new l2 c2] at a2; exact a2
    ·exact mixed l1 l2 L1 L2 h1 h2 a1 a2 hb c1 c2
   ·by_cases c2:N j ≤ l2 ∧ l2 < N (j + 1)
    ·exact (mixed l2 l1 L2 L1 h2 h1 a2 a1 hb.symm c2 c1).symm
    ·rw [gout l1 c1] at h1
     rw [gout l2 c2] at h2
     exact v.sep l1 l2 L1 L2 h1 h2 (alive_old l1 L1 h1 a1) (alive_old l2 L2 h2 a2) hb
  kold:=fun b o hk => e3.rel.kold b o (by rw [← gK]; exact hk)
  base:=by rw [hGn]; exact v.base
  ext0:=v.ext0.trans (hext none)
  size:=Nat.le_trans v.size e3.size
  tsize:=by rw [put_size]; exact v.tsize
  tmp:=v.put r ho hnot hext fun t h1 hlt => by rw [hv1 t h1 hlt]; exact e2.ext hext'
  dfs:=by rw [put_defers]; exact v.dfs
  frame:=fun b hb hn => by
   rw [e3.frame b (Nat.lt_of_lt_of_le hb v.size) fun t => hn (touch0 b hb t)]
   exact v.frame b hb hn
  newloc:=fun l L hg hl => by
   by_cases h:N j ≤ l ∧ l < N (j + 1)
   ·rw [gin l h.1 h.2] at hl
    refine ⟨by omega,?_⟩
    rcases gof l L hl with ⟨hp,_⟩ | ⟨_,_,hh | hh⟩
    ·exact absurd h (prenot l hp)
    ·exact .inl (Nat.le_trans v.size hh)
    ·by_cases hb:L.blk < w0.heap.size
     ·exact .inr (touch0 _ hb hh)
     ·exact .inl (by omega)
   ·rw [gout l h] at hl; exact v.newloc l L hg hl
  newK:=fun b o hk => by
   rcases e3.newK b o (by rw [← gK]; exact hk) with h | h | h
   ·exact v.newK b o h
   ·exact .inr (.inl (Nat.le_trans v.size h))
   ·by_cases hb:b < w0.heap.size
    ·exact .inr (.inr (touch0 _ hb h))
    ·exact .inr (.inl (by omega))
  tape:=e3.tape.trans v.tape
  os:=e3.os.trans v.os
  output:=e3.output.trans v.output }
end
end Go.AE

namespace Go.AE
open Go
section
variable {C:Ctx} {b:Frame} {K:FrameMode → List Frame} {k:List Item} {u:FrameMode}
variable {ops:Array Oper} {calls:Nat → CallF} {mu:Bool} {ro:Option Nat} {fr:Fr} {st:St} {F:Nat → Fr} {H:Nat → Nat → AO} {N:Nat → Nat} {I:Nat → Info} {V:Nat → AV}
variable {G0:Gh} {w0:World} {a0:Act} {ALL:List Nat} {S:Nat → Bool} {G:Gh} {w:World} {a:Act}
theorem rg_start (r:RgRoad calls C mu ro.isSome ops fr st F H N I V) (hs0:Sit C G0 st w0 b fr a0 u):RgInv C ops fr st F H N I V G0 w0 a0 ALL (fun _ => false) G0 w0 a0:=by
 have none_rp:∀ {α:Type} (U:Nat → Option (α → α)) (x:α) (n:Nat),rp U x (fun _ => false) n = x:=fun U x n => by
  induction n with
  | zero => rfl
  | succ n ih => simp [rp,ih]
 have hh:∀ l,hpOf C ops st F H N I (fun _ => false) l = (st.heap l,none):=fun l => none_rp _ _ _
 have ht:∀ t,tpOf ops fr V (fun _ => false) t = (fr.tmps t,none):=fun t => none_rp _ _ _
 have hcut:Ext G0 w0 (G0.cut (· < N 0)) w0:=⟨fun l L h => Gh.cut_some.2 ⟨by rw [r.n0]; exact (hs0.rel.obj l L h).1,h⟩,fun _ _ h => h,fun _ _ _ => rfl⟩
 exact {
  closed:=fun _ h => by cases h
  dom:=fun l L h => .inl (by rw [r.n0]; exact (hs0.rel.obj l L h).1)
  loc0:=fun _ _ => rfl
  obj:=fun l L h => by
   rw [hh]
   obtain ⟨x1,x2,x3,x4⟩:=hs0.rel.obj l L h
   exact ⟨x2,x3,x4.same hcut (fun _ _ h => h)⟩
  sep:=fun l1 l2 L1 L2 h1 h2 => by rw [hh,hh]; exact hs0.rel.sep l1 l2 L1 L2 h1 h2
  kold:=hs0.rel.kold,base:=rfl,ext0:=hcut,size:=Nat.le_refl _
  tsize:=hs0.frs.size
  tmp:=fun t => by rw [ht]; exact (hs0.frs.val t).ext hcut
  dfs:=rfl
  frame:=fun _ _ _ => rfl
  newloc:=fun l L h1 h2 => by rw [h1] at h2; cases h2
  newK:=fun _ _ h => .inl h
  tape:=rfl,os:=rfl,output:=rfl }
theorem rg_run (hC:CtxOk C) (hcall:∀ j,CallsOk C (calls j)) (hct:CtOk b K) (hs0:Sit C G0 st w0 b fr a0 u) (hro:RoRel G0 b ro) (hALL:∀ j,j < ops.size → ∀ l ∈ (I j).log,l ∈ ALL)
  (r:RgRoad calls C mu ro.isSome ops fr st F H N I V):∀ (fuel t:Nat) (listed:Array Bool) (U:List Nat) (G:Gh) (w:World) (a:Act),listed.size = ops.size → (∀ i,i < ops.size → listed.getD i true = false → i ∈ U) → U.length ≤ fuel →
   RgInv C ops fr st F H N I V G0 w0 a0 ALL (fun i => listed.getD i false) G w a →
   ∃ G' w' a',RgInv C ops fr st F H N I V G0 w0 a0 ALL (fun i => decide (i < ops.size)) G' w' a' ∧
    Steps C.P (lone (fa b a (.inRegion ops (Region.linearise.go .any ops fuel t listed []) :: k)) (K u) w) (lone (fa b a' k) (K u) w'):=by
 intro fuel
 induction fuel with
 | zero =>
  intro t listed U G w a hsz hU hlen hv
  have hall:∀ i,i < ops.size → listed.getD i true = true:=fun i hi => by
   cases hq:listed.getD i true with
   | true => rfl
   | false =>
    have:=List.length_pos_of_mem (hU i hi hq)
    omega
  have hS:(fun i => listed.getD i false) = fun i => decide (i < ops.size):=funext fun i => by
   by_cases hi:i < ops.size
   ·have:=hall i hi
    simp only [Array.getD_eq_getD_getElem?,Array.getElem?_eq_getElem (show i < listed.size by omega),Option.getD_some] at this ⊢
    rw [this]; simp [hi]
   ·simp [Array.getD_eq_getD_getElem?,Array.getElem?_eq_none (show listed.size ≤ i by omega),hi]
  rw [lin_end hall]
  rw [hS] at hv
  exact ⟨G,w,a,hv,fa_region_end⟩
 | succ fuel ih =>
  intro t listed U G w a hsz hU hlen hv
  by_cases hex:∃ i,i < ops.size ∧ listed.getD i true = false
  ·obtain ⟨i,t',hmem,hgo⟩:=lin_step r.fwd hsz hex fuel t
   rw [hgo]
   obtain ⟨m1,o,m2,m3⟩:=mem_ready.1 hmem
   have hi:=(Array.getElem?_eq_some_iff.1 m2).1
   have hnot:listed.getD i false = false:=by
    simp only [Array.getD_eq_getD_getElem?,Array.getElem?_eq_getElem (show i < listed.size by omega),Option.getD_some] at m1 ⊢
    exact m1
   obtain ⟨G1,w1,a1,v1,s1⟩:=hv.step (k:=k) hC hcall hct hs0 hro hALL r m2 hnot (fun q hq => Bf.closed m2 m3 hv.closed hq) (rest:=Region.linearise.go .any ops fuel t' (listed.setIfInBounds i true) [])
   have hS:andS (fun i => listed.getD i false) i = fun q => (listed.setIfInBounds i true).getD q false:=funext fun q => by
    simp only [andS,Array.getD_eq_getD_getElem?,Array.getElem?_setIfInBounds]
    by_cases hq:i = q
    ·subst hq; simp [show i < listed.size by omega]
    ·have:(q == i) = false:=by simpa using fun h => hq h.symm
     simp [hq,this]
   rw [hS] at v1
   have hiU:=hU i hi m1
   obtain ⟨G2,w2,a2,v2,s2⟩:=ih t' (listed.setIfInBounds i true) (U.erase i) G1 w1 a1 (by simpa using hsz) (fun q hq hl => by
    have hne:q ≠ i:=fun h => by
     subst h
     simp [Array.getD_eq_getD_getElem?,Array.getElem?_setIfInBounds,show q < listed.size by omega] at hl
    have hl':listed.getD q true = false:=by
     simp only [Array.getD_eq_getD_getElem?,Array.getElem?_setIfInBounds,if_neg (Ne.symm hne)] at hl ⊢
     exact hl
    exact (List.mem_erase_of_ne hne).2 (hU q hq hl')) (by rw [List.length_erase_of_mem hiU]; omega) v1
   exact ⟨G2,w2,a2,v2,s1.trans s2⟩
  ·have hall:∀ i,i < ops.size → listed.getD i true = true:=fun i hi => by
    cases hq:listed.getD i true with
    | true => rfl
    | false => exact absurd ⟨i,hi,hq⟩ hex
   have hS:(fun i => listed.getD i false) = fun i => decide (i < ops.size):=funext fun i => by
    by_cases hi:i < ops.size
    ·have:=hall i hi
     simp only [Array.getD_eq_getD_getElem?,Array.getElem?_eq_getElem (show i < listed.size by omega),Option.getD_some] at this ⊢
     rw [this]; simp [hi]
    ·simp [Array.getD_eq_getD_getElem?,Array.getElem?_eq_none (show listed.size ≤ i by omega),hi]
   rw [lin_end hall]
   rw [hS] at hv
   exact ⟨G,w,a,hv,fa_region_end⟩
theorem rg_end (r:RgRoad calls C mu ro.isSome ops fr st F H N I V) (hs0:Sit C G0 st w0 b fr a0 u) {lgs:List Nat} (hlgs:∀ j,j < ops.size → ∀ l ∈ (I j).log,l ∈ lgs)
  (v:RgInv C ops fr st F H N I V G0 w0 a0 lgs (fun i => decide (i < ops.size)) G w a) (lg:List Nat) :
  Ok C G0 st w0 lgs G ⟨H ops.size,N ops.size,lg⟩ w ∧ Sit C G ⟨H ops.size,N ops.size,lg⟩ w b (F ops.size) a u:=by
 have all_rp:∀ {α:Type} (U:Nat → Option (α → α)) (x:α),rp U x (fun i => decide (i < ops.size)) ops.size = rp U x (fun _ => true) ops.size:=fun U x => by
  refine rp_agree ops.size (Nat.le_refl _) (fun i hi _ => by simpa using hi) fun i h1 h2 => by omega
 have hext:Ext G0 w0 G w:=v.ext0.trans (Gh.cut_ext w)
 have hlt:∀ l L,G.loc l = some L → l < N ops.size:=fun l L hl => by
  rcases v.dom l L hl with h | ⟨c,_,h1,h2,h3⟩
  ·have:=r.mono (i:=0) (j:=ops.size) (Nat.zero_le _) (Nat.le_refl _); omega
  ·have:=r.mono (i:=c + 1) (j:=ops.size) h1 (Nat.le_refl _); omega
 have hh:∀ l,l < N ops.size → (hpOf C ops st F H N I (fun i => decide (i < ops.size)) l).1 = H ops.size l:=fun l hl => by
  rw [r.ht l ops.size (Nat.le_refl _) hl]; unfold hpOf; rw [all_rp]
 have hrel:Rel C G ⟨H ops.size,N ops.size,lg⟩ w:={
  obj:=fun l L hl => by
   obtain ⟨x1,x2,x3⟩:=v.obj l L hl
   rw [hh l (hlt l L hl)] at x3
   exact ⟨hlt l L hl,x1,x2,x3.same (Gh.cut_ext w) (fun _ _ h => h)⟩
  sep:=fun l1 l2 L1 L2 h1 h2 a1 a2 => v.sep l1 l2 L1 L2 h1 h2 (by rw [hh l1 (hlt l1 L1 h1)]; exact a1) (by rw [hh l2 (hlt l2 L2 h2)]; exact a2)
  kold:=v.kold
  glob:=fun g cs h => (hs0.rel.glob g cs h).ext hext
  low:=by rw [v.base]; exact Nat.le_trans hs0.rel.low v.size }
 refine ⟨{
  ext:=hext,rel:=hrel,base:=v.base
  next:=by have:=r.mono (i:=0) (j:=ops.size) (Nat.zero_le _) (Nat.le_refl _); rw [r.n0] at this; exact this
  size:=v.size
  keep:=fun l hl hn => by
   have:∀ j,j ≤ ops.size → H j l = st.heap l:=fun j => by
    induction j with
    | zero => intro _; rw [r.h0]
    | succ j ih =>
     intro hj
     have:=r.mono (i:=0) (j:=j) (Nat.zero_le _) (by omega)
     rw [r.n0] at this
     rw [r.keep j (by omega) l (by omega) fun h => hn (hlgs j (by omega) l h),ih (by omega)]
   exact this _ (Nat.le_refl _)
  frame:=v.frame
  newloc:=fun l L h1 h2 => by have:=v.newloc l L h1 h2; rwa [r.n0] at this
  newK:=v.newK,tape:=v.tape,os:=v.os,output:=v.output },hrel,⟨by rw [v.tsize,r.fn _ (Nat.le_refl _)],fun t => ?_⟩,?_,?_⟩
 ·have e:(tpOf ops fr V (fun i => decide (i < ops.size)) t).1 = (F ops.size).tmps t:=by
   rw [r.ft t ops.size (Nat.le_refl _)]; unfold tpOf; rw [all_rp]
  rw [← e]
  exact (v.tmp t).ext (Gh.cut_ext w)
 ·rw [(r.fd _ (Nat.le_refl _)).1,v.dfs]; exact hs0.dfs.ext hext
 ·rw [(r.fd _ (Nat.le_refl _)).2]; exact hs0.pvs.ext hext
theorem region_draw_sound (hC:CtxOk C) (hcall:∀ j,CallsOk C (calls j)) (hct:CtOk b K) {id:Nat} (hs:Sit C G st w b fr a u) (hro:RoRel G b ro) {fr':Fr} {st':St} {info:List Info}
  (hrun:runDraw calls C mu ro.isSome ops 0 ops.toList fr st = some (fr',st',info)) (hord:orderOk st.next (Region.before ops).toList (insL ops) info 0 info = true) (hdr:drawable ops = true) :
  Goes C b K k G st w (lone (fa b a (.code (.region id ops true) :: k)) (K u) w) (.norm,fr',st'):=by
 refine Goes.head fa_region_draw ?_
 have hk:Ok C G st w [] G st { w with drawn:=w.drawn + 1 }:=Ok.same hs.rel rfl rfl rfl rfl
 refine Goes.bind hk rfl ?_
 have hs0:=hs.ext hk
 obtain ⟨F,H,N,I,V,r,e1,e2,e3,lgs,e4,e5⟩:=road_of hC hcall hct hs0 hro hrun hord hdr
 have hstart:=rg_start (ALL:=lgs) r hs0
 have hsch:∀ q,Region.schedule (C.P.follows .mixedOrders) ops q = Region.linearise .any ops q:=fun q => by simp [Region.schedule,hC.mixed]
 rw [hsch]
 have hget:∀ (i:Nat) (d:Bool),(Array.replicate ops.size false).getD i d = if i < ops.size then false else d:=fun i d => by
  by_cases hi:i < ops.size
  ·simp [Array.getD_eq_getD_getElem?,Array.getElem?_replicate,hi]
  ·simp [Array.getD_eq_getD_getElem?,Array.getElem?_replicate,hi]
 have hS:(fun i => (Array.replicate ops.size false).getD i false) = fun _:Nat => false:=funext fun i => by rw [hget]; split <;> rfl
 obtain ⟨G',w',a',v,s⟩:=rg_run (k:=k) hC hcall hct hs0 hro e5 r ops.size (w.tape w.drawn (.order b.fn id)) (Array.replicate ops.size false) (List.range ops.size) G _ a (by simp) (fun i hi _ => by simpa using hi) (by simp) (by rw [hS]; exact hstart)
 obtain ⟨o1,o2⟩:=rg_end r hs0 e5 v st'.log
 rw [e2,e3] at o1 o2
 rw [e1] at o2
 exact ⟨a',u,w',G',lgs,_,o1,e4,o2,rfl,s⟩
theorem draw_ok (hC:CtxOk C) {call:CallF} (hcall:CallsOk C call):DrawOk C call:=by
 intro b mu ro id ops K k G st w u fr a out hct hs hro h
 unfold region at h
 rw [if_pos rfl] at h
 split at h
 ·cases h
 ·rename_i fr' st' info hrun
  split at h
  ·rename_i hc
   cases h
   exact region_draw_sound hC (fun _ => hcall) hct hs hro hrun hc.1 hc.2
  ·cases h
theorem callN_ok (hC:CtxOk C) (hX:XOk C) (lp:Nat → Option Nat) (n:Nat):CallsOk C (callN C lp n):=callN_sound hC hX (fun _ hcall => draw_ok hC hcall) lp n
end
end Go.AE
