/- An abstract interpreter over a loaded program and its soundness against the model, part 2: for every context that fits the program. -/
import Derived.Test.YtdlahjpoiichkaaGreatDoorE1
import Derived.Laws.Tables
import Derived.Lib.UnsafeStr
import Derived.Laws.RangeString
import Derived.Laws.AppendOwn
set_option linter.unusedVariables false
set_option linter.unusedSimpArgs false
set_option linter.unusedSectionVars false
namespace Go.AE
open Go
section
variable {C:Ctx} {G:Gh} {w:World}
theorem fold_get (off:Nat):∀ (l:List Value) (k:Nat) (A:Array Value) (i:Nat),off + k + l.length ≤ A.size →
  (((l.zipIdx k).foldl (fun cs (x:Value × Nat) => cs.setIfInBounds (off + x.2) x.1) A).size = A.size) ∧
  ((l.zipIdx k).foldl (fun cs (x:Value × Nat) => cs.setIfInBounds (off + x.2) x.1) A)[i]? = if off + k ≤ i ∧ i < off + k + l.length then l[i - (off + k)]? else A[i]?
 | [],k,A,i,_ => by simp; intro h1 h2; omega
 | x :: l,k,A,i,h => by
  simp only [List.length_cons] at h
  rw [List.zipIdx_cons,List.foldl_cons]
  obtain ⟨h1,h2⟩:=fold_get off l (k + 1) (A.setIfInBounds (off + k) x) i (by simp; omega)
  refine ⟨by rw [h1]; simp,?_⟩
  rw [h2]
  by_cases hin:off + (k + 1) ≤ i ∧ i < off + (k + 1) + l.length
  ·rw [if_pos hin,if_pos (by simp only [List.length_cons]; omega),show i - (off + k) = (i - (off + (k + 1))) + 1 by omega,List.getElem?_cons_succ]
  ·rw [if_neg hin]
   by_cases hi:i = off + k
   ·subst hi
    rw [if_pos (by simp only [List.length_cons]; omega),Nat.sub_self,List.getElem?_cons_zero,Array.getElem?_setIfInBounds_self_of_lt (by omega)]
   ·rw [if_neg (by simp only [List.length_cons]; omega),Array.getElem?_setIfInBounds_ne (by omega)]
theorem vrs_splice {off:Nat} {new cells:List AV} {nv:List Value} {cv cv':Array Value} (hn:VRs G w new nv) (hc:VRs G w cells cv.toList) (hfit:off + new.length ≤ cells.length) (hs:cv'.size = cv.size)
  (hg:∀ i,cv'[i]? = if off ≤ i ∧ i < off + nv.length then nv[i - off]? else cv[i]?):VRs G w (splice off new cells) cv'.toList:=by
 have hnl:=hn.length
 have hcl:=hc.length
 simp only [Array.length_toList] at hcl
 refine VRs.mk ((splice_length hfit).trans (by rw [hcl,← hs,Array.length_toList])) fun i hi => ?_
 rw [splice_length hfit] at hi
 rw [splice_get hfit,List.getD_eq_getElem?_getD (l:=cv'.toList),Array.getElem?_toList,hg]
 by_cases h:off ≤ i ∧ i < off + new.length
 ·rw [if_pos h,if_pos (by omega),← List.getD_eq_getElem?_getD]
  exact hn.get _ (by omega)
 ·rw [if_neg h,if_neg (by omega),← Array.getElem?_toList,← List.getD_eq_getElem?_getD]
  exact hc.get _ hi
def PartsRel (G:Gh) (w:World):List (Nat × AV) → List (Nat × Value) → Prop
 | [],[] => True
 | x :: xs,y :: ys => x.1 = y.1 ∧ VR G w x.2 y.2 ∧ PartsRel G w xs ys
 | _,_ => False
theorem isAny_ne {x:AV} (h:x.isAny = false):x ≠ .any:=by intro e; subst e; cases h
theorem fill_sound {place:Nat → Option (Nat × Nat)}:∀ {parts:List (Nat × AV)} {pv:List (Nat × Value)} {cells r:List AV} {cv:Array Value},PartsRel G w parts pv → VRs G w cells cv.toList → fillA place cells parts = some r →
  ∃ rv,Instr.fill place cv pv = some rv ∧ VRs G w r rv.toList ∧ r.length = cells.length
 | [],[],cells,r,cv,_,hc,h => by cases h; exact ⟨cv,rfl,hc,rfl⟩
 | (i,x) :: parts,(j,v) :: pv,cells,r,cv,hp,hc,h => by
  obtain ⟨hij,hx,hp⟩:=hp
  simp only at hij
  subst hij
  simp only [fillA] at h
  cases hpl:place i with
  | none => simp [hpl] at h
  | some os =>
   obtain ⟨off,size⟩:=os
   simp only [hpl] at h
   split at h
   ·rename_i hcond
    obtain ⟨ha,hsz,hfit⟩:=hcond
    have hxc:=hx.cells (isAny_ne ha)
    have hxl:=hxc.length
    simp only [Array.length_toList] at hxl
    have hcl:=hc.length
    simp only [Array.length_toList] at hcl
    have hfold:=fun i => fold_get off v.cells.toList 0 cv i (by simp only [Array.length_toList,Nat.add_zero]; omega)
    have hA:(v.cells.zipIdx.foldl (fun cs (x:Value × Nat) => cs.setIfInBounds (off + x.2) x.1) cv) = ((v.cells.toList.zipIdx 0).foldl (fun cs (x:Value × Nat) => cs.setIfInBounds (off + x.2) x.1) cv):=by
     rw [← Array.foldl_toList,Array.toList_zipIdx]
    have hvs:=vrs_splice (cv':=(v.cells.toList.zipIdx 0).foldl (fun cs (x:Value × Nat) => cs.setIfInBounds (off + x.2) x.1) cv) hxc hc hfit (hfold 0).1 (fun i => by
     have:=(hfold i).2
     simpa using this)
    obtain ⟨rv,h1,h2,h3⟩:=fill_sound hp hvs h
    refine ⟨rv,?_,h2,by rw [h3,splice_length hfit]⟩
    simp only [Instr.fill,hpl]
    have hnot:¬ ((decide (v.cells.size ≠ size) || decide (off + v.cells.size > cv.size)) = true):=by simp; omega
    rw [if_neg hnot,hA]
    exact h1
   ·cases h
theorem parts_sound {st:St} (hr:Rel C G st w) {fr:Fr} {a:Act} (hf:FrRel G w fr a.tmps):∀ (ps:List (Nat × Operand)),PartsRel G w (ps.map fun p => (p.1,oval C fr p.2)) (ps.map fun p => (p.1,a.eval p.2))
 | [] => trivial
 | p :: ps => ⟨rfl,oval_sound hr hf p.2,parts_sound hr hf ps⟩
theorem zero_sound (hC:CtxOk C) {t:TypeId} {ti:TI} (ht:C.ty t = some ti):∃ i z,C.P.info? t = some i ∧ i.size = ti.size ∧ i.bytes = ti.bytes ∧ i.zero = some z ∧ z.cells.size = ti.size ∧ ∀ G w,VRs G w ti.zero z.cells.toList:=by
 obtain ⟨i,h1,h2,h3,z,h4,h5,h6⟩:=hC.info t ti ht
 exact ⟨i,z,h1,h2,h3,h4,h5,h6⟩
theorem build_sound (hC:CtxOk C) {t:TypeId} {parts:List (Nat × AV)} {pv:List (Nat × Value)} {r:AV} (hp:PartsRel G w parts pv) (h:buildA C t parts = some r) :
  ∃ q,(Instr.build t pv.toArray).run C.P w = .ok q w ∧ VR G w r q:=by
 unfold buildA at h
 split at h
 ·rename_i fs s1 s2 s3 z pl heq
  obtain ⟨i,zv,h1,h2,h3,h4,h5,h6⟩:=zero_sound hC heq
  have hu:=hC.und t _ heq
  obtain ⟨hpl,hfs⟩:=hC.places t _ heq fs rfl
  simp only at hpl
  cases hf:fillA (fun x => pl[x]?) z parts with
  | none => simp [hf] at h
  | some cs =>
   simp only [hf,Option.map_some,Option.some.injEq] at h
   subst h
   obtain ⟨rv,e1,e2,_⟩:=fill_sound hp (h6 G w) hf
   refine ⟨_,run_build w t pv.toArray rv ?_,VR.mkAgg e2⟩
   unfold Program.built
   have hplaces:fs.toList.mapM (fun f => (C.P.info? f.type).map fun i => (f.offset,i.size)) = some pl:=by
    rw [hpl]
    clear hpl h6 h5 h4 h3 h2 h1 hu hf e1 e2
    revert hfs
    generalize fs.toList = l
    intro hfs
    induction l with
    | nil => rfl
    | cons f l ih =>
     have hsome:=hfs f (by simp)
     obtain ⟨fi,hfi⟩:=Option.isSome_iff_exists.1 hsome
     simp only [List.mapM_cons,hfi,Option.map_some,Option.bind_eq_bind,Option.bind_some,ih (fun g hg => hfs g (by simp [hg])),List.map_cons,Option.getD_some]
     rfl
   simp only [h1,hu,h4,hplaces]
   simpa using e1
 ·rename_i n e s1 s2 s3 z s4 heq
  obtain ⟨i,zv,h1,h2,h3,h4,h5,h6⟩:=zero_sound hC heq
  have hu:=hC.und t _ heq
  cases hte:C.ty e with
  | none => simp [sizeIs,hte] at h
  | some ei =>
   simp only [sizeIs,hte,Option.map_some] at h
   cases hf:fillA (fun i => some (i * ei.size,ei.size)) z parts with
   | none => simp [hf] at h
   | some cs =>
    simp only [hf,Option.map_some,Option.some.injEq] at h
    subst h
    obtain ⟨rv,e1,e2,_⟩:=fill_sound hp (h6 G w) hf
    obtain ⟨ie,hie,hsz,_⟩:=hC.info e ei hte
    refine ⟨_,run_build w t pv.toArray rv ?_,VR.mkAgg e2⟩
    unfold Program.built
    simp only [h1,hu,h4,hie,hsz]
    simpa using e1
 ·cases h
end
end Go.AE

namespace Go.AE
open Go
theorem flat_length {size:Nat}:∀ {es:List AV},sized size es = true → (flat es).length = es.length * size
 | [],_ => by simp [flat]
 | e :: es,h => by
  simp only [sized,List.all_cons,Bool.and_eq_true,beq_iff_eq] at h
  have:=flat_length (size:=size) (es:=es) h.2
  simp only [flat,List.flatMap_cons,List.length_append,List.length_cons] at this ⊢
  rw [this,h.1,Nat.succ_mul,Nat.add_comm]
theorem flat_cons (e:AV) (es:List AV):flat (e :: es) = e.cells ++ flat es:=by simp [flat]
theorem flat_append (xs ys:List AV):flat (xs ++ ys) = flat xs ++ flat ys:=by simp [flat]
theorem sized_drop {size:Nat} {es:List AV} (h:sized size es = true) (n:Nat):sized size (es.drop n) = true:=by
 simp only [sized,List.all_eq_true] at h ⊢
 exact fun x hx => h x (List.mem_of_mem_drop hx)
theorem sized_take {size:Nat} {es:List AV} (h:sized size es = true) (n:Nat):sized size (es.take n) = true:=by
 simp only [sized,List.all_eq_true] at h ⊢
 exact fun x hx => h x (List.mem_of_mem_take hx)
theorem sized_append {size:Nat} {xs ys:List AV}:sized size (xs ++ ys) = true ↔ sized size xs = true ∧ sized size ys = true:=by simp [sized]
theorem sized_mem {size:Nat} {es:List AV} (h:sized size es = true) {e:AV} (he:e ∈ es):e.cells.length = size:=by
 simp only [sized,List.all_eq_true,beq_iff_eq] at h
 exact h e he
theorem flat_drop {size:Nat}:∀ {es:List AV} (n:Nat),sized size es = true → flat (es.drop n) = (flat es).drop (n * size)
 | es,0,_ => by simp
 | [],n + 1,_ => by simp [flat]
 | e :: es,n + 1,h => by
  simp only [sized,List.all_cons,Bool.and_eq_true,beq_iff_eq] at h
  have hd:e.cells.drop (n * size + size) = []:=List.drop_eq_nil_of_le (by omega)
  rw [List.drop_succ_cons,flat_drop n h.2,flat_cons,Nat.succ_mul,List.drop_append,hd,h.1,Nat.add_sub_cancel,List.nil_append]
theorem flat_take {size:Nat}:∀ {es:List AV} (n:Nat),sized size es = true → flat (es.take n) = (flat es).take (n * size)
 | es,0,_ => by simp [flat]
 | [],n + 1,_ => by simp [flat]
 | e :: es,n + 1,h => by
  simp only [sized,List.all_cons,Bool.and_eq_true,beq_iff_eq] at h
  have hd:e.cells.take (n * size + size) = e.cells:=List.take_of_length_le (by omega)
  rw [List.take_succ_cons,flat_cons,flat_take n h.2,flat_cons,Nat.succ_mul,List.take_append,hd,h.1,Nat.add_sub_cancel]
section
variable {C:Ctx} {G:Gh} {w:World}
def OptRel:Option Nat → Option Value → Prop
 | none,none => True
 | some n,some v => ∃ k,v = .int k (.ofNat n)
 | _,_ => False
theorem natOf_sound {x:AV} {v:Value} {n:Nat} (hx:VR G w x v) (h:natOf x = some n):∃ k,v = .int k (.ofNat n):=by
 unfold natOf at h
 split at h
 ·cases h; cases hx; exact ⟨_,rfl⟩
 ·cases h
theorem boundA_sound {st:St} (hr:Rel C G st w) {fr:Fr} {a:Act} (hf:FrRel G w fr a.tmps) {x:Option Operand} {b:Option Nat} (h:boundA C fr x = some b):OptRel b (x.map a.eval):=by
 cases x with
 | none => cases h; trivial
 | some x =>
  simp only [boundA] at h
  cases hn:natOf (oval C fr x) with
  | none => simp [hn] at h
  | some n =>
   simp only [hn,Option.map_some,Option.some.injEq] at h
   subst h
   exact natOf_sound (oval_sound hr hf x) hn
theorem run_bound {n y:Nat} {k:IntKind} {code:BoundsCode} (h:n ≤ y):(Instr.sliceBound (.int k (.ofNat n)) y code).run C.P w = .ok n w:=by
 simp [Instr.sliceBound,asIntOf,h]
theorem run_bound' {n y:Nat} {k:IntKind} {code:BoundsCode} (h:n ≤ y):(Instr.sliceBound (.int k (n:Int)) y code).run C.P w = .ok n w:=run_bound h
theorem run_bounds {isSlice:Bool} {len cap:Nat} {lo hi mx:Option Nat} {lov hiv mxv:Option Value} (h1:OptRel lo lov) (h2:OptRel hi hiv) (h3:OptRel mx mxv) (hn:¬ (hi = none ∧ mx.isSome = true))
  (hl:lo.getD 0 ≤ hi.getD len) (hh:hi.getD len ≤ mx.getD cap) (hm:mx.getD cap ≤ cap):(Instr.sliceBounds isSlice len cap lov hiv mxv).run C.P w = .ok (lo.getD 0,hi.getD len,mx.getD cap) w:=by
 unfold Instr.sliceBounds
 cases mx with
 | none =>
  cases mxv with
  | some _ => exact h3.elim
  | none =>
   simp only [Option.getD_none] at hh hm ⊢
   cases hi with
   | none =>
    cases hiv with
    | some _ => exact h2.elim
    | none =>
     simp only [Option.getD_none] at hh hl ⊢
     cases lo with
     | none => cases lov <;> first | exact h1.elim | simp
     | some l =>
      cases lov with
      | none => exact h1.elim
      | some lv => obtain ⟨k,rfl⟩:=h1; (simp at hl; simp [run_bound' hl])
   | some h =>
    cases hiv with
    | none => exact h2.elim
    | some hv =>
     obtain ⟨k,rfl⟩:=h2
     simp only [Option.getD_some] at hh hl ⊢
     cases lo with
     | none => cases lov <;> first | exact h1.elim | simp [run_bound' hh]
     | some l =>
      cases lov with
      | none => exact h1.elim
      | some lv => obtain ⟨k',rfl⟩:=h1; (simp at hl; simp [run_bound' hh,run_bound' hl])
 | some m =>
  cases mxv with
  | none => exact h3.elim
  | some mv =>
   obtain ⟨k,rfl⟩:=h3
   simp only [Option.getD_some] at hh hm ⊢
   cases hi with
   | none => exact absurd ⟨rfl,rfl⟩ hn
   | some h =>
    cases hiv with
    | none => exact h2.elim
    | some hv =>
     obtain ⟨k',rfl⟩:=h2
     simp only [Option.getD_some] at hh hl ⊢
     cases lo with
     | none => cases lov <;> first | exact h1.elim | simp [run_bound' hm,run_bound' hh]
     | some l =>
      cases lov with
      | none => exact h1.elim
      | some lv => obtain ⟨k'',rfl⟩:=h1; (simp at hl; simp [run_bound' hm,run_bound' hh,run_bound' hl])
theorem Konst.part {a:Option Addr} {n:Nat} {vals:Nat → Value} (h:Konst G w a n vals) {s k:Nat} (hs:s + k ≤ n):Konst G w (a.map (·.add s)) k (fun i => vals (s + i)):=fun i hi => by
 obtain ⟨b,o,e,h1,h2⟩:=h (s + i) (by omega)
 subst e
 exact ⟨b,o + s,by rw [Option.map_some,add_none],by rw [Nat.add_assoc]; exact h1,by rw [Nat.add_assoc]; exact h2⟩
theorem sub_konst {k:SK} {es:List AV} {a:Option Addr} {cap:Nat} {vals:Nat → Value} {size:Nat} (hz:sized size es = true) (hc:Konst G w a (flat es).length vals)
  (hv:∀ i,i < (flat es).length → VR G w ((flat es).getD i .any) (vals i)) {l h m:Nat} (hl:l ≤ h) (hh:h ≤ es.length) (hm:h ≤ m) {k':SK}
  (hk:SKok G k' ((es.drop l).take (h - l)) (if m = l then a else a.map (·.add (l * size))) (m - l)) :
  VR G w (.slice k' ((es.drop l).take (h - l))) (.slice (if m = l then a else a.map (·.add (l * size))) (h - l) (m - l)):=by
 have hlen:((es.drop l).take (h - l)).length = h - l:=by simp; omega
 have hflat:flat ((es.drop l).take (h - l)) = ((flat es).drop (l * size)).take ((h - l) * size):=by rw [flat_take _ (sized_drop hz l),flat_drop l hz]
 have hfl:=flat_length hz
 have hfs:(flat ((es.drop l).take (h - l))).length = (h - l) * size:=by
  rw [flat_length (sized_take (sized_drop hz l) _),hlen]
 have hle:l * size + (h - l) * size ≤ (flat es).length:=by
  rw [hfl,← Nat.add_mul]
  exact Nat.mul_le_mul_right _ (by omega)
 have:=VR.slice (G:=G) (w:=w) k' ((es.drop l).take (h - l)) (if m = l then a else a.map (·.add (l * size))) (m - l) (fun i => vals (l * size + i)) hk (by
  rw [hfs]
  by_cases e:m = l
  ·rw [if_pos e]
   intro i hi
   rw [show h - l = 0 by omega] at hi
   simp at hi
  ·rw [if_neg e]
   exact hc.part hle) (fun i hi => by
  rw [hfs] at hi
  rw [hflat]
  have:=hv (l * size + i) (by omega)
  rwa [List.getD_eq_getElem?_getD,List.getElem?_take,if_pos hi,List.getElem?_drop,← List.getD_eq_getElem?_getD]) ⟨size,sized_take (sized_drop hz l) _⟩
 rwa [hlen] at this
theorem sk_lim {k:SK} {es:List AV} {a:Option Addr} {cap size:Nat} (hk:SKok G k es a cap) {l h m:Nat} (hl:l ≤ h) (hh:h ≤ es.length) (hm:h ≤ m) (hlen:((es.drop l).take (h - l)).length = h - l) (hml:m ≤ es.length) :
  SKok G (k.lim (m == h)) ((es.drop l).take (h - l)) (if m = l then a else a.map (·.add (l * size))) (m - l):=by
 have hsome:a.isSome = true → (if m = l then a else a.map (·.add (l * size))).isSome = true:=fun h => by split <;> simp [h]
 have hh1:=SKok.cases hk
 by_cases e:k = .nil
 ·subst e
  obtain ⟨rfl,rfl,rfl⟩:=hh1.1 rfl
  simp only [List.length_nil,Nat.le_zero] at hh hml
  subst hh hml
  simp only [Nat.le_zero] at hl
  subst hl
  exact ⟨rfl,rfl,rfl⟩
 ·obtain ⟨q,hq⟩:=hh1.2 e
  have hs:=hsome (by rw [hq]; rfl)
  have:k.lim (m == h) = if (m == h) = true then .exact else .open_:=by cases k <;> first | exact absurd rfl e | rfl
  rw [this]
  by_cases hmh:m = h
  ·rw [if_pos (by simpa using hmh)]
   exact ⟨hs,by rw [hlen,hmh]⟩
  ·rw [if_neg (by simpa using hmh)]
   exact ⟨hs,by rw [hlen]; omega⟩
theorem sk_cut {k:SK} {es:List AV} {a:Option Addr} {cap size:Nat} (hk:SKok G k es a cap) (hz:sized size es = true) {l h:Nat} (hl:l ≤ h) (hh:h ≤ es.length) (hlen:((es.drop l).take (h - l)).length = h - l) :
  SKok G (k.cut (h == es.length)) ((es.drop l).take (h - l)) (if cap = l then a else a.map (·.add (l * size))) (cap - l) ∧ es.length ≤ cap:=by
 have hsome:a.isSome = true → (if cap = l then a else a.map (·.add (l * size))).isSome = true:=fun h => by split <;> simp [h]
 cases k with
 | nil =>
  obtain ⟨rfl,rfl,rfl⟩:=hk
  simp only [List.length_nil,Nat.le_zero] at hh
  subst hh
  simp only [Nat.le_zero] at hl
  subst hl
  exact ⟨⟨rfl,rfl,rfl⟩,Nat.le_refl _⟩
 | exact =>
  obtain ⟨h1,rfl⟩:=hk
  refine ⟨?_,Nat.le_refl _⟩
  by_cases e:h = es.length
  ·simp only [SK.cut,e,BEq.rfl,if_true]
   exact ⟨hsome h1,by rw [← e,hlen]⟩
  ·simp only [SK.cut,beq_eq_false_iff_ne.2 e,Bool.false_eq_true,if_false]
   exact ⟨hsome h1,by rw [hlen]; omega⟩
 | open_ =>
  obtain ⟨h1,h2⟩:=hk
  refine ⟨?_,h2⟩
  by_cases e:h = es.length
  ·simp only [SK.cut,e,BEq.rfl,if_true]
   exact ⟨hsome h1,by rw [← e,hlen]; omega⟩
  ·simp only [SK.cut,beq_eq_false_iff_ne.2 e,Bool.false_eq_true,if_false]
   exact ⟨hsome h1,by rw [hlen]; omega⟩
 | tok t sz =>
  obtain ⟨L,h0,h1,h2,h3,h4,h5⟩:=hk
  refine ⟨?_,h2⟩
  by_cases e:h = es.length
  ·subst e
   simp only [SK.cut,BEq.rfl,if_true]
   refine ⟨L,h0,hsome h1,by rw [hlen]; omega,h3,fun x hx => h4 x (List.mem_of_mem_drop (List.mem_of_mem_take hx)),?_⟩
   have hs:l ≠ 0 → size = sz:=fun hl0 => by
    cases es with
    | nil => simp only [List.length_nil,Nat.le_zero] at hl; exact absurd hl hl0
    | cons x es => rw [← sized_mem hz (e:=x) (by simp),h4 x (by simp)]
   by_cases ec:cap = l
   ·exact .inl (by omega)
   ·rcases h5 with h5 | ⟨o,rfl,h6,h7⟩
    ·exact .inl (by omega)
    ·refine .inr ⟨o + l * size,by rw [if_neg ec,Option.map_some,add_none],?_,?_⟩
     ·rw [hlen]
      by_cases hl0:l = 0
      ·subst hl0; simpa using h6
      ·have:=hs hl0; subst this
       rw [Nat.add_assoc,← Nat.add_mul,show l + (es.length - l) = es.length by omega]; exact h6
     ·by_cases hl0:l = 0
      ·subst hl0; simpa using h7
      ·have:=hs hl0; subst this
       rw [Nat.add_assoc,← Nat.add_mul,show l + (cap - l) = cap by omega]; exact h7
  ·simp only [SK.cut,beq_eq_false_iff_ne.2 e,Bool.false_eq_true,if_false]
   exact ⟨hsome h1,by rw [hlen]; omega⟩
theorem sized_all {sz:Nat} {es:List AV} (h:sized sz es = true) {size:Nat} (hh:sizedH size es = true):sized size es = true:=by
 cases es with
 | nil => rfl
 | cons e es =>
  have:e.cells.length = sz:=sized_mem h (by simp)
  simp only [sizedH,beq_iff_eq] at hh
  rw [← hh,this]; exact h
theorem VR.sized {k:SK} {es:List AV} {v:Value} (hx:VR G w (.slice k es) v) {size:Nat} (hh:sizedH size es = true):sized size es = true:=by
 cases hx with
 | slice _ _ a cap vals hk hc hv hz => obtain ⟨sz,hz⟩:=hz; exact sized_all hz hh
theorem sliceC_sound {k:SK} {es:List AV} {size:Nat} {v:Value} (hx:VR G w (.slice k es) v) (hz:sized size es = true) {lo hi mx:Option Nat} {r:AV} (h:sliceC k es lo hi mx = some r) :
  ∃ a cap,v = .slice a es.length cap ∧ lo.getD 0 ≤ hi.getD es.length ∧ hi.getD es.length ≤ mx.getD cap ∧ mx.getD cap ≤ cap ∧
   VR G w r (.slice (if mx.getD cap = lo.getD 0 then a else a.map (·.add (lo.getD 0 * size))) (hi.getD es.length - lo.getD 0) (mx.getD cap - lo.getD 0)):=by
 cases hx with
 | slice _ _ a cap vals hk hc hv _ =>
  refine ⟨a,cap,rfl,?_⟩
  simp only [sliceC] at h
  split at h
  ·rename_i hb
   obtain ⟨hl,hh⟩:=hb
   have hlen:((es.drop (lo.getD 0)).take (hi.getD es.length - lo.getD 0)).length = hi.getD es.length - lo.getD 0:=by simp; omega
   cases mx with
   | none =>
    simp only [Option.some.injEq] at h
    subst h
    obtain ⟨e1,e2⟩:=sk_cut hk hz hl hh hlen
    simp only [Option.getD_none]
    exact ⟨hl,by omega,Nat.le_refl _,sub_konst (k:=k) (cap:=cap) hz hc hv hl hh (by omega) e1⟩
   | some m =>
    simp only at h
    split at h
    ·rename_i hm
     cases h
     have hcap:es.length ≤ cap:=by
      obtain ⟨_,e2⟩:=sk_cut hk hz (l:=0) (h:=0) (Nat.le_refl _) (Nat.zero_le _) (by simp)
      exact e2
     simp only [Option.getD_some]
     exact ⟨hl,hm.1,by omega,sub_konst (k:=k) (cap:=cap) hz hc hv hl hh hm.1 (sk_lim hk hl hh hm.1 hlen hm.2)⟩
    ·cases h
  ·cases h
end
end Go.AE

namespace Go.AE
open Go
section
variable {C:Ctx} {G:Gh} {w:World}
theorem limOk_le {lim:Option Nat} {n cap:Nat} (h:limOk lim n = true) (hm:∀ c,lim = some c → cap = c):lim = none ∨ n ≤ cap:=by
 cases lim with
 | none => exact .inl rfl
 | some c => right; rw [hm c rfl]; simpa [limOk] using h
theorem sub_row {l off:Nat} {lim:Option Nat} {L:Loc} {a:Addr} {cap:Nat} (h:G.loc l = some L) (hs:0 < L.sz) (ha:cap = 0 ∨ a = ⟨L.blk,L.dl + off,none⟩)
  (ht:L.dl + off + cap * L.sz ≤ L.tot) (hn:lim = none → L.dl + off + cap * L.sz = L.tot) {b hh m:Nat} (h1:b ≤ hh) (h2:hh ≤ m) (h3:m ≤ cap) {lim':Option Nat} (hl1:∀ c,lim' = some c → m - b = c) (hl2:lim' = none → lim = none ∧ m = cap) :
  VR G w (.row l (off + b * L.sz) (hh - b) lim') (.slice (some (if m = b then a else a.add (b * L.sz))) (hh - b) (m - b)):=by
 have e1:L.dl + (off + b * L.sz) + (m - b) * L.sz = L.dl + off + m * L.sz:=by
  rw [show L.dl + (off + b * L.sz) = L.dl + off + b * L.sz by omega,Nat.add_assoc,← Nat.add_mul,show b + (m - b) = m by omega]
 have e2:m * L.sz ≤ cap * L.sz:=Nat.mul_le_mul_right _ h3
 refine .row l (off + b * L.sz) (hh - b) lim' L _ (m - b) h (by omega) hs ?_ (by rw [e1]; omega) hl1 (fun hz => ?_)
 ·by_cases e:m = b
  ·exact .inl (by omega)
  ·rw [if_neg e]
   rcases ha with ha | ha
   ·exact .inl (by omega)
   ·right; rw [ha,add_none,Nat.add_assoc]
 ·obtain ⟨z1,rfl⟩:=hl2 hz
  rw [e1]
  exact hn z1
theorem sliceR_sound {l off len:Nat} {lim:Option Nat} {v:Value} {cells:List AV} {L:Loc} (hx:VR G w (.row l off len lim) v) (hL:G.loc l = some L) (hroom:L.dl + cells.length ≤ L.tot)
  {lo hi mx:Option Nat} {r:AV} (h:sliceR l off len lim L.sz cells.length lo hi mx = some r) :
  ∃ a cap,v = .slice (some a) len cap ∧ lo.getD 0 ≤ hi.getD len ∧ hi.getD len ≤ mx.getD cap ∧ mx.getD cap ≤ cap ∧
   VR G w r (.slice (some (if mx.getD cap = lo.getD 0 then a else a.add (lo.getD 0 * L.sz))) (hi.getD len - lo.getD 0) (mx.getD cap - lo.getD 0)):=by
 cases hx with
 | row _ _ _ _ L' a cap hl hle hs ha ht hm hn =>
  rw [hL] at hl; cases hl
  refine ⟨a,cap,rfl,?_⟩
  have hcap:∀ n,off + n * L.sz ≤ cells.length → limOk lim n = true → n ≤ cap:=fun n h1 h2 => by
   rcases limOk_le h2 hm with e | e
   ·have:=hn e
    have h3:n * L.sz ≤ cap * L.sz:=by omega
    exact Nat.le_of_mul_le_mul_right h3 hs
   ·exact e
  simp only [sliceR] at h
  split at h
  ·rename_i hb
   obtain ⟨hb1,hb2,hb3⟩:=hb
   have hh:=hcap _ hb2 hb3
   cases mx with
   | none =>
    simp only [Option.some.injEq] at h
    subst h
    simp only [Option.getD_none]
    refine ⟨hb1,hh,Nat.le_refl _,sub_row hL hs ha ht hn hb1 hh (Nat.le_refl _) (fun c hc => ?_) (fun hc => ?_)⟩
    ·cases lim with
     | none => cases hc
     | some c0 => simp at hc; rw [hm c0 rfl,hc]
    ·cases lim with
     | none => exact ⟨rfl,rfl⟩
     | some c0 => cases hc
   | some m =>
    simp only at h
    split at h
    ·rename_i hm'
     obtain ⟨hm1,hm2,hm3⟩:=hm'
     cases h
     simp only [Option.getD_some]
     exact ⟨hb1,hm1,hcap _ hm2 hm3,sub_row hL hs ha ht hn hb1 hm1 (hcap _ hm2 hm3) (fun c hc => by cases hc; rfl) (fun hc => by cases hc)⟩
    ·cases h
  ·cases h
theorem sliceStr_sound {s:List Nat} {v:Value} (hx:VR G w (.str s) v) {lo hi:Option Nat} {r:AV} (h:sliceStr s lo hi = some r) :
  ∃ bs:ByteArray,v = .string bs ∧ lo.getD 0 ≤ hi.getD bs.size ∧ hi.getD bs.size ≤ bs.size ∧ VR G w r (.string (bs.extract (lo.getD 0) (hi.getD bs.size))):=by
 cases hx with
 | str bs =>
  refine ⟨bs,rfl,?_⟩
  simp only [sliceStr] at h
  rw [size_map] at h
  split at h
  ·rename_i hb
   cases h
   exact ⟨hb.1,hb.2,str_mk _ _ _ _ (by rw [Lib.extract_data,List.map_take,List.map_drop])⟩
  ·cases h
theorem sliceA_sound (hC:CtxOk C) {st:St} (hr:Rel C G st w) {t:TypeId} {x r:AV} {u:Value} (hx:VR G w x u) {lo hi mx:Option Nat} {lov hiv mxv:Option Value} (h1:OptRel lo lov) (h2:OptRel hi hiv) (h3:OptRel mx mxv)
  (h:sliceA C st t x lo hi mx = some r):∃ q,(Instr.sliceAt t u lov hiv mxv).run C.P w = .ok q w ∧ VR G w r q:=by
 unfold sliceA at h
 split at h
 ·rename_i s1 s2 s3 s4 s5 heq
  have hu:=hC.und t _ heq
  split at h
  ·rename_i s
   obtain ⟨bs,rfl,e1,e2,e3⟩:=sliceStr_sound hx h
   have hmx:mxv = none:=by cases mxv <;> first | rfl | exact h3.elim
   subst hmx
   have hb:=run_bounds (C:=C) (w:=w) (isSlice:=false) (len:=bs.size) (cap:=bs.size) (mx:=none) (mxv:=none) h1 h2 trivial (by simp) e1 (by simpa using e2) (by simp)
   refine ⟨_,?_,e3⟩
   simp only [Instr.sliceAt,Instr.slice,Sem.run_bind,run_underlying hu,Result.andThen_ok,Option.isSome_none,Bool.false_eq_true,if_false]
   rw [hb]
   rfl
  ·cases h
 ·rename_i e s1 s2 s3 s4 s5 heq
  have hu:=hC.und t _ heq
  split at h
  ·cases h
  ·rename_i hnone
   have hn:¬ (hi = none ∧ mx.isSome = true):=fun ⟨a,b⟩ => hnone (by subst a; simp [b])
   cases hte:C.ty e with
   | none => simp [sizeIs,hte] at h
   | some ei =>
    have hsz:=run_size (w:=w) hC hte
    simp only [sizeIs,hte,Option.map_some] at h
    split at h
    ·rename_i k es
     split at h
     ·rename_i hz0
      have hz:=hx.sized hz0
      obtain ⟨a,cap,rfl,e1,e2,e3,e4⟩:=sliceC_sound hx hz h
      have hb:=run_bounds (C:=C) (w:=w) (isSlice:=true) (len:=es.length) (cap:=cap) h1 h2 h3 hn e1 e2 e3
      refine ⟨_,?_,e4⟩
      simp only [Instr.sliceAt,Instr.slice,Sem.run_bind,run_underlying hu,Result.andThen_ok]
      rw [hb]
      simp only [Result.andThen_ok,Sem.run_bind,hsz,Sem.run_pure]
     ·cases h
    ·rename_i l off len lim
     split at h
     ·rename_i e' cells full fz ho
      split at h
      ·rename_i hee
       obtain ⟨rfl,hpos⟩:=hee
       cases hL:G.loc l with
       | none => cases hx with | row _ _ _ _ L a cap hl => rw [hL] at hl; cases hl
       | some L =>
        have hob:=(hr.obj l L hL).2.2.2
        rw [ho] at hob
        obtain ⟨c,fr,_,_,hroom,_,_,_,hLs,_⟩:=hob
        have hse:L.sz = ei.size:=by rw [hLs]; simp [sizeIs,hte]
        rw [← hse] at h
        obtain ⟨a,cap,rfl,e1,e2,e3,e4⟩:=sliceR_sound hx hL hroom h
        have hb:=run_bounds (C:=C) (w:=w) (isSlice:=true) (len:=len) (cap:=cap) h1 h2 h3 hn e1 e2 e3
        rw [hse] at e4
        refine ⟨_,?_,e4⟩
        simp only [Instr.sliceAt,Instr.slice,Sem.run_bind,run_underlying hu,Result.andThen_ok]
        rw [hb]
        simp only [Result.andThen_ok,Sem.run_bind,hsz,Sem.run_pure]
        congr 2
        by_cases em:mx.getD cap = lo.getD 0
        ·rw [if_pos em,if_pos em]
        ·rw [if_neg em,if_neg em]; rfl
      ·cases h
     ·cases h
    ·cases h
 ·cases h
theorem flat_at {size:Nat} {es:List AV} (hz:∀ e ∈ es,e.cells.length = size) {i:Nat} {v:AV} (hi:es[i]? = some v):∀ j,j < size → (flat es).getD (i * size + j) .any = v.cells.getD j .any ∧ i * size + j < (flat es).length:=by
 induction es generalizing i with
 | nil => cases hi
 | cons e es ih =>
  intro j hj
  have he:=hz e (by simp)
  cases i with
  | zero =>
   simp at hi; subst hi
   rw [flat_cons,Nat.zero_mul,Nat.zero_add,List.getD_eq_getElem?_getD,List.getElem?_append_left (by omega),← List.getD_eq_getElem?_getD]
   exact ⟨rfl,by simp; omega⟩
  | succ i =>
   simp only [List.getElem?_cons_succ] at hi
   obtain ⟨h1,h2⟩:=ih (fun x hx => hz x (by simp [hx])) hi j hj
   rw [flat_cons,List.getD_eq_getElem?_getD,List.getElem?_append_right (by rw [he,Nat.succ_mul]; omega),he,Nat.succ_mul,show i * size + size + j - size = i * size + j by omega,← List.getD_eq_getElem?_getD]
   exact ⟨h1,by simp; omega⟩
theorem run_idx {t:TypeId} {k:IntKind} {i:Nat} {e:TypeId} {a:Addr} {len cap size:Nat} (hu:C.P.underlying t = some (.slice e)) (hs:(sizeOf e).run C.P w = .ok size w) (hi:i < len) :
  (Instr.indexAt t (.slice (some a) len cap) (.int k (.ofNat i))).run C.P w = .ok (.pointer (some (a.add (i * size)))) w:=by
 simp only [Instr.indexAt,Sem.run_bind,asIntOf,Sem.run_pure,Result.andThen_ok,run_underlying hu]
 have:(0:Int) ≤ (Int.ofNat i) ∧ (Int.ofNat i) < (len:Int):=⟨by simp,by simpa using hi⟩
 rw [if_pos this]
 simp [hs]
theorem indexAddrA_sound (hC:CtxOk C) {st:St} (hr:Rel C G st w) {t:TypeId} {x r:AV} {u:Value} (hx:VR G w x u) {i:Nat} {k:IntKind} (h:indexAddrA C t x i = some r) :
  ∃ q,(Instr.indexAt t u (.int k (.ofNat i))).run C.P w = .ok q w ∧ VR G w r q:=by
 unfold indexAddrA at h
 split at h
 ·rename_i e s1 s2 s3 s4 s5 heq
  have hu:=hC.und t _ heq
  cases hte:C.ty e with
  | none => simp [sizeIs,hte] at h
  | some ei =>
   have hsz:=run_size (w:=w) hC hte
   simp only [sizeIs,hte,Option.map_some] at h
   split at h
   ·rename_i sk es
    cases hi:es[i]? with
    | none => simp [hi] at h
    | some v =>
     simp only [hi] at h
     split at h
     ·rename_i hvl
      cases h
      cases hx with
      | slice _ _ a cap vals hk hc hv hz =>
       obtain ⟨sz,hz⟩:=hz
       have hmem:v ∈ es:=List.mem_of_getElem? hi
       have hsz':sz = ei.size:=by rw [← sized_mem hz hmem,hvl]
       subst hsz'
       have hlt:i < es.length:=(List.getElem?_eq_some_iff.1 hi).1
       have hat:=flat_at (fun e he => sized_mem hz he) hi
       obtain ⟨q,rfl⟩:∃ q,a = some q:=by
        have:=SKok.cases hk
        by_cases e0:sk = .nil
        ·obtain ⟨_,_,rfl⟩:=this.1 e0; simp at hlt
        ·exact this.2 e0
       refine ⟨_,run_idx hu hsz hlt,?_⟩
       have hn:i * ei.size + ei.size ≤ (flat es).length:=by
        rw [flat_length hz,← Nat.succ_mul]; exact Nat.mul_le_mul_right _ hlt
       have hk2:=hc.part (s:=i * ei.size) (k:=ei.size) hn
       rw [← hvl] at hk2
       refine .cptr v.cells _ _ (by simpa [hvl] using hk2) fun j hj => ?_
       rw [hvl] at hj
       have:=hv (i * ei.size + j) (hat j hj).2
       rwa [(hat j hj).1] at this
     ·cases h
   ·rename_i l off len lim
    split at h
    ·rename_i hlt
     cases h
     cases hx with
     | row _ _ _ _ L a cap hl hle hs ha ht hm hn =>
      have hcap:¬ cap = 0:=by omega
      have hae:=ha.resolve_left hcap
      subst hae
      refine ⟨_,run_idx hu hsz hlt,?_⟩
      rw [add_none,Nat.add_assoc]
      exact .ptr l _ L hl
    ·cases h
   ·cases h
 ·rename_i n e s1 s2 s3 s4 s5 heq
  have hu:=hC.und t _ heq
  cases hte:C.ty e with
  | none => simp [sizeIs,hte] at h
  | some ei =>
   have hsz:=run_size (w:=w) hC hte
   simp only [sizeIs,hte,Option.map_some] at h
   have arr:∀ (p:Addr),i < n → (Instr.indexAt t (.pointer (some p)) (.int k (.ofNat i))).run C.P w = .ok (.pointer (some (p.add (i * ei.size)))) w:=fun p hlt => by
    simp only [Instr.indexAt,Sem.run_bind,asIntOf,Sem.run_pure,Result.andThen_ok,run_underlying hu,Instr.sureAddr]
    have:(0:Int) ≤ (Int.ofNat i) ∧ (Int.ofNat i) < (n:Int):=⟨by simp,by simpa using hlt⟩
    rw [if_pos this]
    simp [hsz]
   split at h
   ·split at h
    ·rename_i l off hlt
     cases h
     cases hx with
     | ptr _ _ L hl =>
      refine ⟨_,arr _ hlt,?_⟩
      rw [add_none,Nat.add_assoc]
      exact .ptr l _ L hl
    ·cases h
   ·split at h
    ·rename_i cells hlt
     cases h
     cases hx with
     | cptr _ a vals hc hv =>
      refine ⟨_,arr _ hlt,.cptr _ _ (fun j => vals (i * ei.size + j)) ?_ fun j hj => ?_⟩
      ·have:i * ei.size + (cells.drop (i * ei.size)).length ≤ cells.length ∨ cells.length < i * ei.size:=by simp; omega
       rcases this with h' | h'
       ·simpa using hc.part h'
       ·rw [List.drop_eq_nil_of_le (by omega)]
        intro j hj; simp at hj
      ·simp only [List.length_drop] at hj
       have:=hv (i * ei.size + j) (by omega)
       rwa [List.getD_eq_getElem?_getD,List.getElem?_drop,← List.getD_eq_getElem?_getD]
    ·cases h
   ·cases h
 ·cases h
theorem part_val (hC:CtxOk C) {t:TypeId} {ti:TI} (ht:C.ty t = some ti) {xs:List AV} {cs:Array Value} {off:Nat} (hx:VRs G w xs cs.toList) {v:AV} (h:ti.part (xs.drop off) = some v) :
  ∃ u,(part t cs off).run C.P w = .ok u w ∧ VR G w v u:=by
 unfold TI.part at h
 simp only [part,Sem.run_bind,run_isAgg hC ht,Result.andThen_ok]
 have hd:=VRs.drop off hx
 by_cases hagg:ti.isAgg = true
 ·rw [if_pos hagg] at h ⊢
  split at h
  ·rename_i hlen
   cases h
   simp only [Sem.run_bind,run_size hC ht,Result.andThen_ok,Sem.run_pure]
   refine ⟨_,rfl,VR.mkAgg ?_⟩
   have:=VRs.take ti.size hd
   have e:(cs.extract off (off + ti.size)).toList = (cs.toList.drop off).take ti.size:=by
    rw [Array.toList_extract,List.extract_eq_take_drop,Nat.add_sub_cancel_left]
   rw [e]; exact this
  ·cases h
 ·rw [if_neg hagg] at h ⊢
  obtain ⟨u,hu,hr⟩:=VRs.head hd h
  rw [List.head?_drop,Array.getElem?_toList] at hu
  rw [hu]
  exact ⟨u,rfl,hr⟩
theorem fieldPl_ctx (hC:CtxOk C) {t:TypeId} {f off:Nat} {fi:TI} (h:fieldPl C t f = some (off,fi)):∃ fs fd,C.P.underlying t = some (.struct fs) ∧ fs[f]? = some fd ∧ C.ty fd.type = some fi ∧ fd.offset = off:=by
 unfold fieldPl at h
 split at h
 ·rename_i fs s1 s2 s3 s4 s5 heq
  cases hf:fs[f]? with
  | none => simp [hf] at h
  | some fd =>
   simp only [hf] at h
   cases ht:C.ty fd.type with
   | none => simp [ht] at h
   | some fi' =>
    simp only [ht,Option.map_some,Option.some.injEq,Prod.mk.injEq] at h
    obtain ⟨rfl,rfl⟩:=h
    exact ⟨fs,fd,hC.und t _ heq,hf,ht,rfl⟩
 ·cases h
theorem fieldAddrA_sound (hC:CtxOk C) {t:TypeId} {x r:AV} {u:Value} {f:Nat} (hx:VR G w x u) (h:fieldAddrA C t x f = some r):∃ q,(Instr.fieldAt t u f).run C.P w = .ok q w ∧ VR G w r q:=by
 unfold fieldAddrA at h
 split at h
 ·rename_i off fi hp
  obtain ⟨fs,fd,hu,hf,ht,rfl⟩:=fieldPl_ctx hC hp
  split at h
  ·cases h
  ·rename_i hs0
   have hsz:=run_size (w:=w) hC ht
   have hfp:∀ a:Addr,(fieldPlace a fd).run C.P w = .ok (a.add fd.offset) w:=fun a => by
    simp only [fieldPlace,Sem.run_bind,hsz,Result.andThen_ok]
    rw [if_neg hs0]; rfl
   have go:∀ a:Addr,(Instr.fieldAt t (.pointer (some a)) f).run C.P w = .ok (.pointer (some (a.add fd.offset))) w:=fun a => by
    simp only [Instr.fieldAt,Sem.run_bind,run_underlying hu,Result.andThen_ok,hf,Instr.sureAddr,Sem.run_pure,hfp]
   split at h
   ·cases h
    cases hx with
    | ptr _ _ L hl => exact ⟨_,go _,by rw [add_none,Nat.add_assoc]; exact .ptr _ _ L hl⟩
   ·rename_i cells
    cases h
    cases hx with
    | cptr _ a vals hc hv =>
     refine ⟨_,go _,.cptr _ _ (fun j => vals (fd.offset + j)) ?_ fun j hj => ?_⟩
     ·have:fd.offset + (cells.drop fd.offset).length ≤ cells.length ∨ cells.length < fd.offset:=by simp; omega
      rcases this with h' | h'
      ·simpa using hc.part h'
      ·rw [List.drop_eq_nil_of_le (by omega)]
       intro j hj; simp at hj
     ·simp only [List.length_drop] at hj
      have:=hv (fd.offset + j) (by omega)
      rwa [List.getD_eq_getElem?_getD,List.getElem?_drop,← List.getD_eq_getElem?_getD]
   ·cases h
 ·cases h
theorem fieldA_sound (hC:CtxOk C) {t:TypeId} {x r:AV} {u:Value} {f:Nat} (hx:VR G w x u) (h:fieldA C t x f = some r):∃ q,(Instr.field t u f).run C.P w = .ok q w ∧ VR G w r q:=by
 unfold fieldA at h
 split at h
 ·rename_i off fi cs hp
  obtain ⟨fs,fd,hu,hf,ht,rfl⟩:=fieldPl_ctx hC hp
  cases hx with
  | agg _ vs h1 h2 =>
   obtain ⟨q,e1,e2⟩:=part_val hC ht (VRs.of_array h1 h2) h
   exact ⟨q,by simp only [Instr.field,Sem.run_bind,run_underlying hu,Result.andThen_ok,hf,asAgg,Sem.run_pure,e1],e2⟩
 ·cases h
theorem indexA_sound (hC:CtxOk C) {t:TypeId} {x r:AV} {u:Value} {i:Nat} {k:IntKind} (hx:VR G w x u) (h:indexA C t x i = some r):∃ q,(Instr.index t u (.int k (.ofNat i))).run C.P w = .ok q w ∧ VR G w r q:=by
 unfold indexA at h
 split at h
 ·rename_i s1 s2 s3 s4 s5 s heq
  have hu:=hC.und t _ heq
  cases hx with
  | str bs =>
   cases hb:(bs.data.toList.map (·.toNat))[i]? with
   | none => rw [hb] at h; cases h
   | some b =>
    rw [hb] at h
    cases h
    have hlt:i < bs.size:=by
     have:=(List.getElem?_eq_some_iff.1 hb).1
     rwa [size_map] at this
    have hget:(bs[i]).toNat = b:=by
     have:=(List.getElem?_eq_some_iff.1 hb).2
     simp only [List.getElem_map] at this
     rw [← this]
     rfl
    refine ⟨.int .u8 (.ofNat b),?_,.int _ _⟩
    simp only [Instr.index,Sem.run_bind,asIntOf,Sem.run_pure,Result.andThen_ok,run_underlying hu]
    have h0:(0:Int) ≤ Int.ofNat i:=by simp
    rw [if_pos h0]
    have:bs[(Int.ofNat i).toNat]? = some bs[i]:=by simp [hlt]
    rw [this]
    simp [hget]
 ·rename_i n e s1 s2 s3 s4 s5 cs heq
  have hu:=hC.und t _ heq
  cases hte:C.ty e with
  | none => simp [hte] at h
  | some ei =>
   simp only [hte] at h
   split at h
   ·rename_i hlt
    cases hx with
    | agg _ vs h1 h2 =>
     obtain ⟨q,e1,e2⟩:=part_val hC hte (VRs.of_array h1 h2) h
     refine ⟨q,?_,e2⟩
     simp only [Instr.index,Sem.run_bind,asIntOf,Sem.run_pure,Result.andThen_ok,run_underlying hu]
     have:(0:Int) ≤ (Int.ofNat i) ∧ (Int.ofNat i) < (n:Int):=⟨by simp,by simpa using hlt⟩
     rw [if_pos this]
     simp only [Sem.run_bind,run_size hC hte,Result.andThen_ok]
     exact e1
   ·cases h
 ·cases h
end
end Go.AE

namespace Go.AE
open Go
def ValR (C:Ctx) (G:Gh) (st:St) (w:World) (s:Sem Value) (v:AV) (st':St):Prop :=
 ∃ u w' G' ls,s.run C.P w = .ok u w' ∧ Ok C G st w ls G' st' w' ∧ st'.log = ls ++ st.log ∧ VR G' w' v u
section
variable {C:Ctx} {G:Gh} {w:World}
theorem ValR.quiet {st:St} (hr:Rel C G st w) {s:Sem Value} {v:AV} (h:∃ u,s.run C.P w = .ok u w ∧ VR G w v u):ValR C G st w s v st:=by
 obtain ⟨u,h1,h2⟩:=h
 exact ⟨u,w,G,[],h1,Ok.refl hr,rfl,h2⟩
theorem vrs_cells {cells:List AV} {cs:Array Value} {n:Nat} (hv:VRs G w cells (cs.toList.take n)):CellRel G w cs 0 cells:=fun i hi => by
 have hl:=hv.length
 have hg:=hv.get i hi
 have hi2:i < (cs.toList.take n).length:=by omega
 rw [List.getD_eq_getElem?_getD (l:=cs.toList.take n),List.getElem?_eq_getElem hi2] at hg
 have:i < cs.size:=by simp at hi2; omega
 refine ⟨cs[i],by simp [this],by simpa using hg⟩
theorem push_mem {st:St} (hr:Rel C G st w) {e:TypeId} {cells:List AV} {cs:Array Value} (full:Bool) (hv:VRs G w cells (cs.toList.take cells.length)) (hfull:full = true → cells.length = cs.size) :
  Ok C G st w [] (G.addLoc st.next ⟨w.heap.size,0,cs.size,(sizeIs C e).getD 0⟩) (st.push (.mem e cells full 0)) { w with heap:=w.heap.push (.cells cs e) }:=by
 have hl:=hv.length
 refine Ok.push hr _ _ _ rfl fun he => ⟨cs,(0,0),heap_push_new,rfl,?_,fun hf => ⟨rfl,hfull hf⟩,(vrs_cells hv).ext he,Nat.zero_le _,rfl,Nat.zero_le _,fun o _ hk => ?_⟩
 ·simp at hl ⊢; omega
 ·have:=hr.kold _ _ (show G.K _ _ from hk)
  simp at this
end
theorem Gh.addLoc_get {G:Gh} {l:Nat} {L:Loc}:(G.addLoc l L).loc l = some L:=by simp [Gh.addLoc,upd_same]
section
variable {C:Ctx} {G:Gh} {w:World}
theorem alloc_sound (hC:CtxOk C) {st:St} (hr:Rel C G st w) {e:TypeId} {ei:TI} (ht:C.ty e = some ei) :
  ValR C G st w (Instr.alloc e true (.tuple #[])) (.ptr st.next 0) (st.push (.mem e ei.zero true 0)):=by
 obtain ⟨i,z,h1,h2,h3,h4,h5,h6⟩:=zero_sound hC ht
 have hv:=h6 G w
 have hl:=hv.length
 have hk:=push_mem (e:=e) hr (cells:=ei.zero) (cs:=z.cells) true (by rw [hl,List.take_length]; exact hv) (fun _ => by simpa using hl)
 refine ⟨_,_,_,[],?_,hk,rfl,by simpa using VR.ptr st.next 0 _ Gh.addLoc_get⟩
 simp [Instr.alloc,zeroValue,typeInfo,h1,h4,newVar,newRow]
theorem box_sound {st:St} (hr:Rel C G st w) {e:TypeId} {x:AV} {u:Value} (hx:VR G w x u) (ha:x.isAny = false) :
  ValR C G st w (Instr.box e u) (.ptr st.next 0) (st.push (.mem e x.cells true 0)):=by
 have hv:=hx.cells (isAny_ne ha)
 have hl:=hv.length
 have hk:=push_mem (e:=e) hr (cells:=x.cells) (cs:=u.cells) true (by rw [hl,List.take_length]; exact hv) (fun _ => by simpa using hl)
 refine ⟨_,_,_,[],?_,hk,rfl,by simpa using VR.ptr st.next 0 _ Gh.addLoc_get⟩
 simp [Instr.box,newVar,newRow]
theorem makeMap_sound {st:St} (hr:Rel C G st w) {t:TypeId}:ValR C G st w (Instr.makeMap t none) (.map st.next) (st.push (.amap [] 0)):=by
 have hk:=Ok.push hr (.map #[] 0) (.amap [] 0) ⟨w.heap.size,0,0,0⟩ rfl fun he => ⟨#[],heap_push_new,[],.refl _,trivial,rfl⟩
 refine ⟨_,_,_,[],?_,hk,rfl,VR.map st.next _ Gh.addLoc_get⟩
 simp [Instr.makeMap]
theorem range_sound (hC:CtxOk C) {st:St} (hr:Rel C G st w) {t:TypeId} {ti:TI} (ht:C.ty t = some ti) (hu:ti.und = .string) {s:List Nat} {u:Value} (hx:VR G w (.str s) u) :
  ValR C G st w (Instr.range t u) (.ptr st.next 0) (st.push (.siter s 0)):=by
 cases hx with
 | str bs =>
  have hk:=Ok.push hr (.stringIter bs 0) (.siter (bs.data.toList.map (·.toNat)) 0) ⟨w.heap.size,0,0,0⟩ rfl fun he => ⟨rfl,bs,heap_push_new,rfl⟩
  refine ⟨_,_,_,[],?_,hk,rfl,by simpa using VR.ptr st.next 0 _ Gh.addLoc_get⟩
  have:=hC.und t ti ht
  simp [Instr.range,underlying,this,hu]
theorem konst_row {st:St} (hr:Rel C G st w) {e:TypeId} {es:List AV} {cs:Array Value} (hv:VRs G w (flat es) (cs.toList.take (flat es).length)) :
  let G':=G.addK fun b _ => b = w.heap.size
  let w':={ w with heap:=w.heap.push (.cells cs e) }
  Ok C G st w [] G' st w' ∧ Konst G' w' (some ⟨w.heap.size,0,none⟩) (flat es).length (fun i => cs.getD i undef) ∧ ∀ i,i < (flat es).length → VR G' w' ((flat es).getD i .any) (cs.getD i undef):=by
 have hk:=Ok.konst (C:=C) hr (.cells cs e)
 have hcr:=vrs_cells hv
 refine ⟨hk,fun i hi => ⟨_,_,rfl,.inr rfl,?_⟩,fun i hi => ?_⟩
 ·obtain ⟨v,h1,_⟩:=hcr i hi
  simp only [Nat.zero_add] at h1 ⊢
  have:i < cs.size:=by
   rcases Nat.lt_or_ge i cs.size with h | h
   ·exact h
   ·rw [Array.getElem?_eq_none h] at h1; cases h1
  simp [World.cell?,this,Array.getD_eq_getD_getElem?]
 ·obtain ⟨v,h1,h2⟩:=hcr i hi
  simp only [Nat.zero_add] at h1
  rw [Array.getD_eq_getD_getElem?,h1]
  exact h2.ext hk.ext
end
end Go.AE

namespace Go.AE
open Go
section
variable {C:Ctx} {G:Gh} {w:World}
theorem fill_elems {size:Nat}:∀ {parts:List (Nat × AV)} {pv:List (Nat × Value)} {j:Nat} {es:List AV} {cv:Array Value},elemsA size j parts = some es → PartsRel G w parts pv → cv.size = (j + parts.length) * size →
  ∃ rv,Instr.fill (fun i => some (i * size,size)) cv pv = some rv ∧ rv.size = cv.size ∧ (∀ i,i < j * size → rv[i]? = cv[i]?) ∧ VRs G w (flat es) (rv.toList.drop (j * size)) ∧ es.length = parts.length ∧ sized size es = true
 | [],[],j,es,cv,h,_,hs => by
  simp only [elemsA,Option.some.injEq] at h; subst h
  refine ⟨cv,rfl,rfl,fun _ _ => rfl,?_,rfl,rfl⟩
  rw [List.drop_eq_nil_of_le (by simp [hs])]
  trivial
 | (i,x) :: parts,(k,v) :: pv,j,es,cv,h,hp,hs => by
  obtain ⟨hik,hx,hp⟩:=hp
  simp only at hik
  subst hik
  simp only [elemsA] at h
  split at h
  ·rename_i hcond
   obtain ⟨hij,ha,hsz⟩:=hcond
   subst hij
   cases hr:elemsA size (i + 1) parts with
   | none => simp [hr] at h
   | some r =>
    simp only [hr,Option.map_some,Option.some.injEq] at h
    subst h
    have hxc:=hx.cells (isAny_ne ha)
    have hxl:=hxc.length
    simp only [Array.length_toList] at hxl
    simp only [List.length_cons] at hs
    have hroom:i * size + v.cells.size ≤ cv.size:=by rw [hs,← hxl,hsz,← Nat.succ_mul]; exact Nat.mul_le_mul_right _ (by omega)
    have hfold:=fun q => fold_get (i * size) v.cells.toList 0 cv q (by simp only [Array.length_toList,Nat.add_zero]; omega)
    have hA:(v.cells.zipIdx.foldl (fun cs (x:Value × Nat) => cs.setIfInBounds (i * size + x.2) x.1) cv) = ((v.cells.toList.zipIdx 0).foldl (fun cs (x:Value × Nat) => cs.setIfInBounds (i * size + x.2) x.1) cv):=by
     rw [← Array.foldl_toList,Array.toList_zipIdx]
    obtain ⟨rv,e1,e2,e3,e4,e5,e6⟩:=fill_elems hr hp (cv:=(v.cells.toList.zipIdx 0).foldl (fun cs (x:Value × Nat) => cs.setIfInBounds (i * size + x.2) x.1) cv) (by rw [(hfold 0).1,hs]; congr 1; omega)
    have hmul:(i + 1) * size = i * size + size:=Nat.succ_mul _ _
    refine ⟨rv,?_,e2.trans (hfold 0).1,fun q hq => ?_,?_,by simp [e5],by simp only [sized,List.all_cons,Bool.and_eq_true]; exact ⟨by simpa using hsz,e6⟩⟩
    ·simp only [Instr.fill]
     have hnot:¬ ((decide (v.cells.size ≠ size) || decide (i * size + v.cells.size > cv.size)) = true):=by simp; omega
     rw [if_neg hnot,hA]
     exact e1
    ·rw [e3 q (by omega),(hfold q).2,if_neg (by omega)]
    ·rw [flat_cons,show rv.toList.drop (i * size) = (rv.toList.drop (i * size)).take size ++ rv.toList.drop ((i + 1) * size) by rw [hmul,← List.drop_drop,List.take_append_drop]]
     refine VRs.append ?_ e4
     have:(rv.toList.drop (i * size)).take size = v.cells.toList:=by
      apply List.ext_getElem?
      intro q
      rw [List.getElem?_take]
      split
      ·rename_i hq
       rw [List.getElem?_drop,Array.getElem?_toList,e3 _ (by omega),(hfold _).2,if_pos (by simp only [Array.length_toList]; omega)]
       congr 1; omega
      ·rw [List.getElem?_eq_none (by simp only [Array.length_toList]; omega)]
     rw [this]
     exact hxc
  ·cases h
theorem flat_replicate {size m:Nat} {v:AV} (hv:v.cells.length = size) (i:Nat) (hi:i < m * size):(flat (List.replicate m v)).getD i .any = v.cells.getD (i % size) .any:=by
 have hs:0 < size:=by
  rcases Nat.eq_zero_or_pos size with h | h
  ·rw [h] at hi; simp at hi
  ·exact h
 have hd:i / size < m:=Nat.div_lt_of_lt_mul (by rwa [Nat.mul_comm])
 have:=(flat_at (es:=List.replicate m v) (size:=size) (fun e he => by rw [List.eq_of_mem_replicate he]; exact hv) (i:=i / size) (v:=v) (by simp [hd]) (i % size) (Nat.mod_lt _ hs)).1
 rw [show i / size * size + i % size = i by rw [Nat.mul_comm]; exact Nat.div_add_mod i size] at this
 exact this
theorem flat_replicate_length {m:Nat} {v:AV}:(flat (List.replicate m v)).length = m * v.cells.length:=by
 rw [flat_length (size:=v.cells.length) (by simp [sized])]; simp
theorem zeros_sound {zv:AV} {zero:Array Value} (hz:VRs G w zv.cells zero.toList) (m n:Nat) (hn:n = m * zv.cells.length):VRs G w (flat (List.replicate m zv)) ((Array.range n).map (fun i => zero[i % zero.size]!)).toList:=by
 have hl:=hz.length
 simp only [Array.length_toList] at hl
 refine VRs.mk (by rw [flat_replicate_length]; simp [hn]) fun i hi => ?_
 rw [flat_replicate_length] at hi
 rw [flat_replicate rfl i hi]
 have hs:0 < zv.cells.length:=by
  rcases Nat.eq_zero_or_pos zv.cells.length with h | h
  ·rw [h] at hi; simp at hi
  ·exact h
 have hlt:i % zv.cells.length < zv.cells.length:=Nat.mod_lt _ hs
 have hg:=hz.get (i % zv.cells.length) hlt
 have e:((Array.range n).map (fun i => zero[i % zero.size]!)).toList.getD i undef = zero.toList.getD (i % zv.cells.length) undef:=by
  rw [List.getD_eq_getElem?_getD,Array.getElem?_toList]
  simp only [Array.getElem?_map,Array.getElem?_range,hn,hi,if_true,Option.map_some,Option.getD_some,← hl]
  rw [List.getD_eq_getElem?_getD,Array.getElem?_toList,getElem!_pos zero _ (by omega),Array.getElem?_eq_getElem (by omega)]
  rfl
 rw [e]
 exact hg
theorem elemTI_ctx {t e:TypeId} {ei:TI} (h:elemTI C t = some (e,ei)):∃ ti,C.ty t = some ti ∧ ti.und = .slice e ∧ C.ty e = some ei:=by
 unfold elemTI at h
 split at h
 ·rename_i e' s b a z p heq
  cases he:C.ty e' with
  | none => simp [he] at h
  | some x => simp [he] at h; obtain ⟨rfl,rfl⟩:=h; exact ⟨_,heq,rfl,he⟩
 ·cases h
theorem run_zero (hC:CtxOk C) {t:TypeId} {ti:TI} (ht:C.ty t = some ti):∃ z,(zeroValue t).run C.P w = .ok z w ∧ z.cells.size = ti.size ∧ (∀ G w,VRs G w ti.zeroV.cells z.cells.toList) ∧ (∀ G w,VR G w ti.zeroV z):=by
 obtain ⟨i,z,h1,h2,h3,h4,h5,h6⟩:=zero_sound hC ht
 obtain ⟨k1,k2⟩:=hC.zv t ti ht
 refine ⟨z,by simp [zeroValue,typeInfo,h1,h4],h5,fun G w => by rw [k1]; exact h6 G w,fun G w => k2 i z h1 h4 G w⟩
theorem run_bytes (hC:CtxOk C) {t:TypeId} {ti:TI} (ht:C.ty t = some ti):∃ i,(typeInfo t).run C.P w = .ok i w ∧ i.bytes = ti.bytes ∧ i.size = ti.size:=by
 obtain ⟨i,z,h1,h2,h3,h4,h5,h6⟩:=zero_sound hC ht
 exact ⟨i,by simp [typeInfo,h1],h3,h2⟩
theorem zero_length (hC:CtxOk C) {t:TypeId} {ti:TI} (ht:C.ty t = some ti):ti.zeroV.cells.length = ti.size:=by
 obtain ⟨z,_,h2,h3,_⟩:=run_zero (w:=default) hC ht
 have:=(h3 ⟨fun _ => none,fun _ _ => False,0⟩ default).length
 simpa [h2] using this
theorem buildSlice_sound (hC:CtxOk C) {st:St} (hr:Rel C G st w) {mu:Bool} {t:TypeId} {len:Nat} {parts:List (Nat × AV)} {pv:List (Nat × Value)} (hp:PartsRel G w parts pv) {v:AV} {st':St} (h:buildSliceA C mu st t len parts = some (v,st')) :
  ValR C G st w (Instr.buildSlice t len pv.toArray) v st':=by
 unfold buildSliceA at h
 cases he:elemTI C t with
 | none => simp [he] at h
 | some ee =>
  obtain ⟨e,ei⟩:=ee
  obtain ⟨ti,h1,h2,h3⟩:=elemTI_ctx he
  simp only [he] at h
  split at h
  ·rename_i hcond
   obtain ⟨hlen,hroom⟩:=hcond
   cases hes:elemsA ei.size 0 parts with
   | none => simp [hes] at h
   | some es =>
    simp only [hes] at h
    obtain ⟨z,hz1,hz2,hz3,_⟩:=run_zero (w:=w) hC h3
    have hsz:=run_size (w:=w) hC h3
    have hu:(underlying t).run C.P w = .ok (.slice e) w:=by rw [run_und hC h1,h2]
    have key:∃ cs:Array Value,(Instr.buildSlice t len pv.toArray).run C.P w = .ok (.slice (some ⟨w.heap.size,0,none⟩) len len) { w with heap:=w.heap.push (.cells cs e) } ∧ VRs G w (flat es) cs.toList ∧ es.length = len ∧ sized ei.size es = true ∧ cs.size = len * ei.size:=by
     have:¬ (len * ei.size > 2 ^ 24):=by omega
     by_cases h0:len * ei.size = 0
     ·obtain ⟨rv,e1,e2,e3,e4,e5,e6⟩:=fill_elems (cv:=(Array.range (len * ei.size)).map (fun i => (#[]:Array Value)[i % (#[]:Array Value).size]!)) hes hp (by simp [hlen])
      simp only [Nat.zero_mul,List.drop_zero] at e4
      refine ⟨rv,?_,e4,e5.trans hlen,e6,by simpa using e2⟩
      simp only [Instr.buildSlice,Sem.run_bind,hu,Result.andThen_ok,hsz,if_neg this,if_pos h0,Sem.run_pure,e1,newRow,run_newObj]
     ·obtain ⟨rv,e1,e2,e3,e4,e5,e6⟩:=fill_elems (cv:=(Array.range (len * ei.size)).map (fun i => z.cells[i % z.cells.size]!)) hes hp (by simp [hlen])
      simp only [Nat.zero_mul,List.drop_zero] at e4
      refine ⟨rv,?_,e4,e5.trans hlen,e6,by simpa using e2⟩
      simp only [Instr.buildSlice,Sem.run_bind,hu,Result.andThen_ok,hsz,if_neg this,if_neg h0,hz1,Sem.run_pure,e1,newRow,run_newObj]
    obtain ⟨cs,r1,r2,r3,r4,r5⟩:=key
    have hcl:(flat es).length = cs.size:=by simpa using r2.length
    split at h
    ·split at h
     ·rename_i hpos
      cases h
      have hk:=push_mem (e:=e) hr (cells:=flat es) (cs:=cs) true (by rw [hcl,← Array.length_toList,List.take_length]; exact r2) (fun _ => hcl)
      refine ⟨_,_,_,[],r1,hk,rfl,?_⟩
      refine VR.row st.next 0 len none _ _ len Gh.addLoc_get (Nat.le_refl _) ?_ (.inr rfl) ?_ (fun c hc => by cases hc) (fun _ => ?_)
      ·simpa [sizeIs,h3] using hpos
      ·simp [sizeIs,h3,r5]
      ·simp [sizeIs,h3,r5]
     ·cases h
    ·cases h
     obtain ⟨k1,k2,k3⟩:=konst_row (e:=e) (C:=C) hr (es:=es) (cs:=cs) (by rw [hcl,← Array.length_toList,List.take_length]; exact r2)
     refine ⟨_,_,_,[],r1,k1,rfl,?_⟩
     have:=VR.slice .exact es _ len _ ⟨rfl,r3.symm⟩ k2 k3 ⟨_,r4⟩
     rwa [r3] at this
  ·cases h
theorem natOf_pos {x:AV} {v:Value} {n:Nat} (hx:VR G w x v) (h:natOf x = some n):(asInt v).run C.P w = .ok (n:Int) w:=by
 obtain ⟨k,rfl⟩:=natOf_sound hx h
 rfl
theorem roomy_le {len bytes:Nat} (h:roomy len bytes = true):len * bytes ≤ 1099511627776 ∧ bytes ≤ 1048576 ∧ len ≤ 1099511627776:=by
 simp only [roomy,Bool.and_eq_true,decide_eq_true_eq] at h
 exact ⟨h.1.1,h.1.2,h.2⟩
theorem wrap_small {n:Nat} (h:n ≤ 1099511627776):IntKind.i64.wrap (n:Int) = n:=by
 simp only [IntKind.wrap,IntKind.bits,IntKind.signed]
 have:((n:Int)) % 2 ^ 64 = n:=Int.emod_eq_of_lt (by omega) (by omega)
 simp [this]
 omega
theorem makeSlice_sound (hC:CtxOk C) {st:St} (hr:Rel C G st w) {t:TypeId} {l c:AV} {lv cv:Value} (hl:VR G w l lv) (hc:VR G w c cv) {v:AV} {st':St} (h:makeSliceA C st t l c = some (v,st')) :
  ValR C G st w (Instr.makeSlice t lv cv) v st':=by
 unfold makeSliceA at h
 split at h
 ·rename_i e ei n m he hln hcn
  obtain ⟨ti,h1,h2,h3⟩:=elemTI_ctx he
  split at h
  ·rename_i hcond
   obtain ⟨hnm,hroom,hm,hpos⟩:=hcond
   cases h
   obtain ⟨z,hz1,hz2,hz3,_⟩:=run_zero (w:=w) hC h3
   obtain ⟨i,hi1,hi2,_⟩:=run_bytes (w:=w) hC h3
   obtain ⟨r1,r2,r3⟩:=roomy_le hroom
   have hsz:=run_size (w:=w) hC h3
   have hu:(underlying t).run C.P w = .ok (.slice e) w:=by rw [run_und hC h1,h2]
   have a1:=natOf_pos (C:=C) hl hln
   have a2:=natOf_pos (C:=C) hc hcn
   have w1:=wrap_small (n:=n) (by omega)
   have w2:=wrap_small (n:=m) (by omega)
   have hzc:=zeros_sound (hz3 G w) m (m * ei.size) (by rw [zero_length hC h3])
   have hrun:(Instr.makeSlice t lv cv).run C.P w = .ok (.slice (some ⟨w.heap.size,0,none⟩) n m) { w with heap:=w.heap.push (.cells ((Array.range (m * ei.size)).map fun i => z.cells[i % z.cells.size]!) e) }:=by
    have hb:¬ ((ei.bytes:Int) * (m:Int) > 2 ^ 48):=by
     have:((ei.bytes * m:Nat):Int) ≤ 1099511627776:=by rw [Nat.mul_comm]; exact Int.ofNat_le.2 r1
     rw [Int.natCast_mul] at this
     omega
    simp only [Instr.makeSlice,Sem.run_bind,hu,Result.andThen_ok,a1,a2,hi1,hi2,w1,w2]
    have hc1:¬ ((decide ((m:Int) < 0) || decide ((ei.bytes:Int) * (m:Int) > 2 ^ 48) || decide ((n:Int) < 0) || decide ((n:Int) > (m:Int))) = true):=by
     simp only [Bool.or_eq_true,decide_eq_true_eq]; omega
    rw [if_neg hc1]
    simp only [Sem.run_bind,run_askRoom,Result.andThen_ok,hsz,Int.toNat_natCast]
    by_cases h0:m * ei.size = 0
    ·have hm0:m = 0:=by
      rcases Nat.mul_eq_zero.1 h0 with h | h
      ·exact h
      ·omega
     subst hm0
     simp only [if_pos h0,Sem.run_bind,Sem.run_pure,Result.andThen_ok,newRow,run_newObj,Nat.zero_mul,show Array.range 0 = #[] from rfl,Array.map_empty]
     rfl
    ·simp only [if_neg h0,Sem.run_bind,hz1,Result.andThen_ok,Sem.run_pure,newRow,run_newObj]
   have hlen:(flat (List.replicate m ei.zeroV)).length = m * ei.size:=by rw [flat_replicate_length,zero_length hC h3]
   have hk:=push_mem (e:=e) hr (cells:=flat (List.replicate m ei.zeroV)) (cs:=(Array.range (m * ei.size)).map fun i => z.cells[i % z.cells.size]!) true (by
    rw [hzc.length,List.take_length]; exact hzc) (fun _ => by rw [hlen]; simp)
   refine ⟨_,_,_,[],hrun,hk,rfl,?_⟩
   refine VR.row st.next 0 n none _ _ m Gh.addLoc_get hnm ?_ (.inr rfl) ?_ (fun c hc => by cases hc) (fun _ => ?_)
   ·simpa [sizeIs,h3] using hpos
   ·simp [sizeIs,h3]
   ·simp [sizeIs,h3]
  ·cases h
 ·cases h
end
end Go.AE

namespace Go.AE
open Go
def UnitR (C:Ctx) (G:Gh) (st:St) (w:World) (s:Sem Unit) (st':St):Prop :=
 ∃ w' G' ls,s.run C.P w = .ok () w' ∧ Ok C G st w ls G' st' w' ∧ st'.log = ls ++ st.log
section
variable {C:Ctx} {G:Gh} {w:World}
theorem store_sound (hC:CtxOk C) {st st':St} (hr:Rel C G st w) {t:TypeId} {size l off:Nat} (hs:sizeIs C t = some size) {u av:Value} (ha:VR G w (.ptr l off) av) {x:AV} (hx:VR G w x u) (hlen:x.cells.length = size) (h:sto st l off x.cells = some st') :
  UnitR C G st w (Instr.storeAt t av u) st':=by
 cases ht:C.ty t with
 | none => simp [sizeIs,ht] at hs
 | some ti =>
  simp only [sizeIs,ht,Option.map_some,Option.some.injEq] at hs
  have hany:x ≠ .any ∨ x = .any:=by cases x <;> simp
  rcases hany with hany | hany
  ·have hc:=hx.cells hany
   have hl:=hc.length
   simp only [Array.length_toList] at hl
   cases ha with
   | ptr _ _ L hL =>
    obtain ⟨w',ls,h1,h2,h3⟩:=sto_sound hr hL hc h
    refine ⟨w',G,ls,?_,h2,h3⟩
    have hsz:=run_size (w:=w) hC ht
    simp only [Instr.storeAt,Instr.sureAddr,Sem.run_bind,Sem.run_pure,Result.andThen_ok,storeVar,hsz]
    rw [if_neg (by simp; omega)]
    exact h1
  ·subst hany
   change sto st l off [AV.any] = some st' at h
   simp only [sto] at h
   split at h
   ·split at h
    ·rename_i hc
     exact absurd hc.2.2 (by simp [AV.isCell])
    ·cases h
   ·cases h
theorem entRel_perm {es es':List Ent} (hp:es'.Perm es) {k:AV} {kt:TypeId} (h:∀ x ∈ es,keyEq C kt k x.1 = some false):∀ x ∈ es',keyEq C kt k x.1 = some false:=fun x hx => h x (hp.mem_iff.1 hx)
theorem perm_split {α:Type} {l1 l2:List α} {x:α} {es':List α} (hp:es'.Perm (l1 ++ x :: l2)):∃ m1 m2,es' = m1 ++ x :: m2 ∧ (m1 ++ m2).Perm (l1 ++ l2):=by
 obtain ⟨m1,m2,rfl⟩:=List.append_of_mem (hp.mem_iff.2 (by simp:x ∈ l1 ++ x :: l2))
 refine ⟨m1,m2,rfl,?_⟩
 have:=(List.perm_middle.symm.trans hp).trans List.perm_middle
 exact this.cons_inv
theorem find_sound (hC:CtxOk C) {kt:TypeId} {k:AV} {u:Value} (hk:VR G w k u) (hw:(keyEq C kt k k).isSome = true) {es:List Ent} {res:List MapEntry} (hm:MapRel G w es res) {i0:Nat} {r:Option (Nat × AV)} (h:findA C kt k es i0 = some r) :
  match r with
  | none => (Instr.findKey kt u res).run C.P w = .ok none w
  | some (_,v) => ∃ i m,(Instr.findKey kt u res).run C.P w = .ok (some (i,m)) w ∧ VR G w v m:=by
 obtain ⟨es',hp,hm,_⟩:=hm
 cases r with
 | none => exact findKey_none hC hk hw hm (entRel_perm hp ((findA_none es i0).1 h))
 | some jv =>
  obtain ⟨j,v⟩:=jv
  obtain ⟨l1,e,b,l2,rfl,_,h3,h4⟩:=findA_some es i0 h
  obtain ⟨m1,m2,rfl,hp'⟩:=perm_split hp
  obtain ⟨r1,m,r2,_,_,_,_,h8,_,h9⟩:=findKey_some hC hk hm h3 (entRel_perm hp' h4)
  exact ⟨_,_,h9,h8⟩
theorem run_getObj {r:Nat} {o:Obj} (h:w.heap[r]? = some o) (hc:∀ c t f,o ≠ .cells c t f):(getObj r).run C.P w = .ok o w:=by
 simp only [getObj,Sem.run,h]
theorem run_setObj {r:Nat} {o:Obj} (o':Obj) (h:w.heap[r]? = some o) (hc:∀ c t f,o ≠ .cells c t f):(setObj r o').run C.P w = .ok () { w with heap:=w.heap.setIfInBounds r o' }:=by
 simp only [setObj,Sem.run,h]
theorem unz_zer:∀ es:List (AV × AV),unz (zer es) = es
 | [] => rfl
 | (k,v) :: es => by have:=unz_zer es; simp only [unz,zer,List.map_cons] at this ⊢; rw [this]
theorem findA_unz {kt:TypeId} {k:AV}:∀ {a b:List Ent} (i:Nat),unz a = unz b → findA C kt k a i = findA C kt k b i
 | [],[],_,_ => rfl
 | [],_ :: _,_,h => by simp [unz] at h
 | _ :: _,[],_,h => by simp [unz] at h
 | (e,v,n) :: a,(e',v',n') :: b,i,h => by
  simp only [unz,List.map_cons,List.cons.injEq,Prod.mk.injEq] at h
  obtain ⟨⟨rfl,rfl⟩,h⟩:=h
  simp only [findA,findA_unz (i + 1) h]
theorem setAt_unz {k v:AV}:∀ {a b:List Ent} (i:Nat),unz a = unz b → unz (setAt k v i a) = unz (setAt k v i b)
 | [],[],_,_ => by simp [setAt]
 | [],_ :: _,_,h => by simp [unz] at h
 | _ :: _,[],_,h => by simp [unz] at h
 | (e,u,n) :: a,(e',u',n') :: b,i,h => by
  simp only [unz,List.map_cons,List.cons.injEq,Prod.mk.injEq] at h
  obtain ⟨⟨rfl,rfl⟩,h⟩:=h
  cases i with
  | zero => simp only [setAt,unz,List.map_cons,h]
  | succ i =>
   have:=setAt_unz (k:=k) (v:=v) i h
   simp only [unz] at this
   simp only [setAt,unz,List.map_cons,this]
theorem lookup_sound (hC:CtxOk C) {st:St} (hr:Rel C G st w) {t:TypeId} {x k r:AV} {xv kv:Value} (hx:VR G w x xv) (hk:VR G w k kv) {ok:Bool} (h:lookupA C st t x k ok = some r) :
  ∃ q,(Instr.lookup t xv kv ok).run C.P w = .ok q w ∧ VR G w r q:=by
 unfold lookupA at h
 split at h
 ·rename_i kt et s b a z p heq
  have hu:(underlying t).run C.P w = .ok (.map kt et) w:=run_und hC heq
  cases het:C.ty et with
  | none => simp [het] at h
  | some ei =>
   simp only [het] at h
   split at h
   ·rename_i hw
    obtain ⟨zz,hz1,_,_,hz4⟩:=run_zero (w:=w) hC het
    have tail:∀ es (res:Array MapEntry),MapRel G w es res.toList → (match findA C kt k es 0 with
       | some (some (_,v)) => some (if ok then .tuple [v,.bool true] else v)
       | some none => some (if ok then .tuple [ei.zeroV,.bool false] else ei.zeroV)
       | none => none) = some r → ∃ q,VR G w r q ∧ ((∃ i m,(Instr.findKey kt kv res.toList).run C.P w = .ok (some (i,m)) w ∧ q = if ok then .tuple #[m,.bool true] else m) ∨
        ((Instr.findKey kt kv res.toList).run C.P w = .ok none w ∧ q = if ok then .tuple #[zz,.bool false] else zz)):=by
     intro es res e2 e3
     cases hf:findA C kt k es 0 with
     | none => simp [hf] at e3
     | some f =>
      have hfs:=find_sound hC hk hw e2 hf
      cases f with
      | none =>
       simp only [hf,Option.some.injEq] at e3
       refine ⟨_,?_,.inr ⟨hfs,rfl⟩⟩
       subst e3
       cases ok
       ·simpa using hz4 G w
       ·exact VR.mkTuple ⟨hz4 G w,.bool _,trivial⟩
      | some iv =>
       obtain ⟨i,v⟩:=iv
       simp only [hf,Option.some.injEq] at e3
       obtain ⟨i',m,hfs,hv⟩:=hfs
       refine ⟨_,?_,.inl ⟨i',m,hfs,rfl⟩⟩
       subst e3
       cases ok
       ·simpa using hv
       ·exact VR.mkTuple ⟨hv,.bool _,trivial⟩
    cases hx with
    | nilmap =>
     obtain ⟨q,hq,hs⟩:=tail [] #[] ⟨[],.refl _,trivial,rfl⟩ h
     refine ⟨q,?_,hq⟩
     have hck:=checkKey_sound (w:=w) hC hk hw (#[]:Array MapEntry).isEmpty
     rcases hs with ⟨i,m,h1,rfl⟩ | ⟨h1,rfl⟩
     ·simp only [Instr.lookup,Sem.run_bind,hu,Result.andThen_ok,Sem.run_pure,hck,h1]
     ·simp only [Instr.lookup,Sem.run_bind,hu,Result.andThen_ok,Sem.run_pure,hck,h1,hz1]
    | map l L hL =>
     simp only at h
     cases ho:st.heap l with
     | amap es cl =>
      rw [ho] at h
      have hob:=(hr.obj l L hL).2.2.2
      rw [ho] at hob
      obtain ⟨res,h1,h2⟩:=hob
      obtain ⟨q,hq,hs⟩:=tail es res h2 h
      refine ⟨q,?_,hq⟩
      have hck:=checkKey_sound (w:=w) hC hk hw res.isEmpty
      have hg:=run_getObj (C:=C) h1 (fun _ _ _ => by simp)
      rcases hs with ⟨i,m,h1,rfl⟩ | ⟨h1,rfl⟩
      ·simp only [Instr.lookup,Sem.run_bind,hu,Result.andThen_ok,Sem.run_pure,hg,hck,h1]
      ·simp only [Instr.lookup,Sem.run_bind,hu,Result.andThen_ok,Sem.run_pure,hg,hck,h1,hz1]
     | lmap es =>
      rw [ho] at h
      have hob:=(hr.obj l L hL).2.2.2
      rw [ho] at hob
      obtain ⟨es',res,cl,h0,h1,h2⟩:=hob
      simp only [findA_unz (C:=C) (kt:=kt) (k:=k) (a:=zer es) (b:=es') 0 (by rw [unz_zer,h0])] at h
      obtain ⟨q,hq,hs⟩:=tail es' res h2 h
      refine ⟨q,?_,hq⟩
      have hck:=checkKey_sound (w:=w) hC hk hw res.isEmpty
      have hg:=run_getObj (C:=C) h1 (fun _ _ _ => by simp)
      rcases hs with ⟨i,m,h1,rfl⟩ | ⟨h1,rfl⟩
      ·simp only [Instr.lookup,Sem.run_bind,hu,Result.andThen_ok,Sem.run_pure,hg,hck,h1]
      ·simp only [Instr.lookup,Sem.run_bind,hu,Result.andThen_ok,Sem.run_pure,hg,hck,h1,hz1]
     | _ => rw [ho] at h; simp at h
    | _ => simp at h
   ·cases h
 ·cases h
theorem setAt_split {k v:AV}:∀ (l1:List Ent) (e v0:AV) (b:Nat) (l2:List Ent),setAt k v l1.length (l1 ++ (e,v0,b) :: l2) = l1 ++ (k,v,b) :: l2
 | [],_,_,_,_ => rfl
 | _ :: l1,e,v0,b,l2 => by simp [setAt,setAt_split l1]
theorem modify_mid {α:Type} (f:α → α):∀ (l:List α) (m:α) (r:List α),(l ++ m :: r).modify l.length f = l ++ f m :: r
 | [],_,_ => rfl
 | x :: l,m,r => by simp [modify_mid f l m r]
theorem mapUpd_sound (hC:CtxOk C) {st st':St} (hr:Rel C G st w) {t:TypeId} {x k v:AV} {xv kv vv:Value} (hx:VR G w x xv) (hk:VR G w k kv) (hv:VR G w v vv) {fresh:Bool} (h:mapUpd C st t x k v fresh = some st') :
  UnitR C G st w (Instr.mapUpdate t xv kv vv) st':=by
 unfold mapUpd at h
 split at h
 ·rename_i kt et s b a z p l heq
  have hu:(underlying t).run C.P w = .ok (.map kt et) w:=run_und hC heq
  split at h
  ·rename_i hw
   cases hx with
   | map _ L hL =>
    have hck:=checkKey_sound (w:=w) hC hk hw false
    have fin:∀ (res:Array MapEntry) (cl:Nat) (res':Array MapEntry) (c':Nat) (es':List Ent) (ob:AO),w.heap[L.blk]? = some (.map res cl) → alive (st.heap l) → st' = st.set l ob → MapRel G w es' res'.toList → (∀ G' w',w'.heap[L.blk]? = some (.map res' c') → MapRel G' w' es' res'.toList → ObjRel C G' w' L ob) →
      (Instr.mapUpdate t (.map (some L.blk)) kv vv).run C.P w = .ok () { w with heap:=w.heap.setIfInBounds L.blk (.map res' c') } → UnitR C G st w (Instr.mapUpdate t (.map (some L.blk)) kv vv) st':=by
     intro res cl res' c' es' ob h1 hal he hm hob hrun
     have hlt:=(hr.obj l L hL).2.1
     have hk:=Ok.write (C:=C) (w':={ w with heap:=w.heap.setIfInBounds L.blk (.map res' c') }) hr hL hal ob (fun _ _ => False) (fun _ _ h => h.elim)
      (by simp) (fun b hb => by simp [Array.getElem?_setIfInBounds,Ne.symm hb]) (fun i _ => by rw [World.cell?,World.cell?,h1,Array.getElem?_setIfInBounds_self_of_lt hlt]) rfl rfl rfl (fun he => hob _ _ (by simp [hlt]) (hm.ext he))
     rw [Gh.addK_none] at hk
     exact ⟨_,_,[l],hrun,by rw [he]; exact hk,by rw [he]; rfl⟩
    have core:∀ (es:List Ent) (res:Array MapEntry) (cl:Nat),w.heap[L.blk]? = some (.map res cl) → MapRel G w es res.toList → ∀ {f:Option (Nat × AV)},findA C kt k es 0 = some f →
      ∃ (res':Array MapEntry) (c':Nat) (es2:List Ent),MapRel G w es2 res'.toList ∧ (Instr.mapUpdate t (.map (some L.blk)) kv vv).run C.P w = .ok () { w with heap:=w.heap.setIfInBounds L.blk (.map res' c') } ∧
       (f = none → es2 = es ++ [(k,v,cl)] ∧ c' = cl + 1) ∧ ∀ i v0,f = some (i,v0) → es2 = setAt k v i es ∧ c' = cl:=by
     intro es res cl h1 h2 f hf
     have hg:=run_getObj (C:=C) h1 (fun _ _ _ => by simp)
     cases f with
     | none =>
      have hfs:=find_sound hC hk hw h2 hf
      obtain ⟨es',hp,hm,hbn⟩:=h2
      refine ⟨res.push { key:=kv,val:=vv,born:=cl },cl + 1,es ++ [(k,v,cl)],⟨es' ++ [(k,v,cl)],hp.append_right _,?_,?_⟩,?_,fun _ => ⟨rfl,rfl⟩,fun _ _ h => by cases h⟩
      ·rw [Array.toList_push]
       exact hm.append ⟨hk,hv,trivial⟩
      ·rw [Array.toList_push,List.map_append,List.map_append,hbn]; rfl
      ·simp only at hfs
       simp only [Instr.mapUpdate,Sem.run_bind,hu,Result.andThen_ok,hg,hck,hfs,run_setObj _ h1 (fun _ _ _ => by simp)]
     | some iv =>
      obtain ⟨i,v0⟩:=iv
      obtain ⟨l1,e,b0,l2,rfl,hi,h3,h4⟩:=findA_some es 0 hf
      simp only [Nat.zero_add] at hi
      subst hi
      obtain ⟨es',hp,hm,hbn⟩:=h2
      obtain ⟨m1,m2,rfl,hp'⟩:=perm_split hp
      obtain ⟨r1,m,r2,e1,e2,e3,e4,e5,e6,e7⟩:=findKey_some hC hk hm h3 (entRel_perm hp' h4)
      have hres:res = (r1 ++ m :: r2).toArray:=by rw [← e1]
      refine ⟨(r1 ++ { m with key:=kv,val:=vv } :: r2).toArray,cl,l1 ++ (k,v,b0) :: l2,⟨m1 ++ (k,v,b0) :: m2,?_,?_,?_⟩,?_,(fun h => by cases h),fun i' v0' h => by cases h; exact ⟨(setAt_split _ _ _ _ _).symm,rfl⟩⟩
      ·exact List.perm_middle.trans ((hp'.cons _).trans List.perm_middle.symm)
      ·exact e3.append ⟨hk,hv,e4⟩
      ·rw [hres] at hbn; simpa using hbn
      ·have hget:res[m1.length]? = some m:=by rw [hres,List.getElem?_toArray,← e2,List.getElem?_append_right (Nat.le_refl _),Nat.sub_self]; rfl
       have hmod:res.modify m1.length (fun e => { e with key:=kv,val:=vv }) = (r1 ++ { m with key:=kv,val:=vv } :: r2).toArray:=by
        apply Array.ext'
        rw [hres,Array.toList_modify,← e2]
        simpa using modify_mid _ r1 m r2
       simp only [Instr.mapUpdate,Sem.run_bind,hu,Result.andThen_ok,hg,hck,e7,Instr.keyThatStays,hget,Option.map_some,Option.getD_some,e6,if_true,Sem.run_pure,hmod,run_setObj _ h1 (fun _ _ _ => by simp)]
    cases ho:st.heap l with
    | amap es cl =>
     simp only [ho] at h
     have hob:=(hr.obj l L hL).2.2.2
     rw [ho] at hob
     obtain ⟨res,h1,h2⟩:=hob
     cases hf:findA C kt k es 0 with
     | none => simp [hf] at h
     | some f =>
      obtain ⟨res',c',es2,g1,g2,g3,g4⟩:=core es res cl h1 h2 hf
      cases f with
      | none =>
       obtain ⟨rfl,rfl⟩:=g3 rfl
       simp only [hf] at h
       cases fresh with
       | true =>
        simp only [if_true] at h
        split at h
        ·rename_i hc
         rw [Bool.and_eq_true,List.isEmpty_iff] at hc
         obtain ⟨rfl,_⟩:=hc
         simp only [Option.some.injEq] at h
         exact fin res cl res' _ _ _ h1 (by rw [ho]; trivial) h.symm g1 (fun G' w' e1 e2 => ⟨_,_,_,rfl,e1,e2⟩) g2
        ·cases h
       | false =>
        simp only [Bool.false_eq_true,if_false,Option.some.injEq] at h
        exact fin res cl res' _ _ _ h1 (by rw [ho]; trivial) h.symm g1 (fun G' w' e1 e2 => ⟨_,e1,e2⟩) g2
      | some iv =>
       obtain ⟨i,v0⟩:=iv
       obtain ⟨rfl,rfl⟩:=g4 i v0 rfl
       simp only [hf] at h
       split at h
       ·cases h
       simp only [Option.some.injEq] at h
       exact fin res _ res' _ _ _ h1 (by rw [ho]; trivial) h.symm g1 (fun G' w' e1 e2 => ⟨_,e1,e2⟩) g2
    | lmap es =>
     simp only [ho] at h
     have hob:=(hr.obj l L hL).2.2.2
     rw [ho] at hob
     obtain ⟨es',res,cl,h0,h1,h2⟩:=hob
     simp only [findA_unz (C:=C) (kt:=kt) (k:=k) (a:=zer es) (b:=es') 0 (by rw [unz_zer,h0])] at h
     cases hf:findA C kt k es' 0 with
     | none => simp [hf] at h
     | some f =>
      obtain ⟨res',c',es2,g1,g2,g3,g4⟩:=core es' res cl h1 h2 hf
      cases f with
      | none =>
       obtain ⟨rfl,rfl⟩:=g3 rfl
       simp only [hf] at h
       split at h
       ·cases h
       simp only [Option.some.injEq] at h
       exact fin res cl res' _ _ _ h1 (by rw [ho]; trivial) h.symm g1 (fun G' w' e1 e2 => ⟨_,_,_,by rw [← h0]; simp [unz],e1,e2⟩) g2
      | some iv =>
       obtain ⟨i,v0⟩:=iv
       obtain ⟨rfl,rfl⟩:=g4 i v0 rfl
       simp only [hf] at h
       split at h
       ·cases h
       simp only [Option.some.injEq] at h
       exact fin res _ res' _ _ _ h1 (by rw [ho]; trivial) h.symm g1 (fun G' w' e1 e2 => ⟨_,_,_,(setAt_unz i (by rw [unz_zer,h0])).symm,e1,e2⟩) g2
    | _ => simp [ho] at h
   | _ => skip
  ·cases h
 ·cases h
end
end Go.AE

namespace Go.AE
open Go
section
variable {C:Ctx} {G:Gh} {w:World} {st st':St}
theorem EntRel.get:∀ {es:List Ent} {ms:List MapEntry},EntRel G w es ms → es.length = ms.length ∧ ∀ (i:Nat) e m,es[i]? = some e → ms[i]? = some m → VR G w e.1 m.key ∧ VR G w e.2.1 m.val
 | [],[],_ => ⟨rfl,fun i e m h => by simp at h⟩
 | x :: es,y :: ms,h => by
  obtain ⟨h1,h2⟩:=EntRel.get h.2.2
  refine ⟨by simp [h1],fun i e m he hm => ?_⟩
  cases i with
  | zero => cases he; cases hm; exact ⟨h.1,h.2.1⟩
  | succ i => exact h2 i e m (by simpa using he) (by simpa using hm)
theorem MapRel.mem {es:List Ent} {res:List MapEntry} (h:MapRel G w es res) {m:MapEntry} (hm:m ∈ res):∃ e ∈ es,VR G w e.1 m.key ∧ VR G w e.2.1 m.val ∧ e.2.2 = m.born:=by
 obtain ⟨es',hp,hr,hb⟩:=h
 obtain ⟨hl,hg⟩:=hr.get
 obtain ⟨i,hi⟩:=List.getElem?_of_mem hm
 have hlt:i < es'.length:=by rw [hl]; exact (List.getElem?_eq_some_iff.1 hi).1
 have he:=List.getElem?_eq_getElem hlt
 obtain ⟨h1,h2⟩:=hg i _ m he hi
 refine ⟨es'[i],hp.mem_iff.1 (List.getElem_mem hlt),h1,h2,?_⟩
 have:=congrArg (fun l => l[i]?) hb
 simp only [List.getElem?_map,he,hi,Option.map_some,Option.some.injEq] at this
 exact this
theorem MapRel.mem' {es:List Ent} {res:List MapEntry} (h:MapRel G w es res) {e:Ent} (he:e ∈ es):∃ m ∈ res,VR G w e.1 m.key ∧ VR G w e.2.1 m.val ∧ e.2.2 = m.born:=by
 obtain ⟨es',hp,hr,hb⟩:=h
 obtain ⟨hl,hg⟩:=hr.get
 obtain ⟨i,hi⟩:=List.getElem?_of_mem (hp.mem_iff.2 he)
 have hlt:i < res.length:=by rw [← hl]; exact (List.getElem?_eq_some_iff.1 hi).1
 have hm:=List.getElem?_eq_getElem hlt
 obtain ⟨h1,h2⟩:=hg i _ _ hi hm
 refine ⟨res[i],List.getElem_mem hlt,h1,h2,?_⟩
 have:=congrArg (fun l => l[i]?) hb
 simp only [List.getElem?_map,hm,hi,Option.map_some,Option.some.injEq] at this
 exact this
theorem MapRel.empty {es:List Ent} {res:List MapEntry} (h:MapRel G w es res):es = [] ↔ res = []:=by
 constructor
 ·intro he
  rw [List.eq_nil_iff_forall_not_mem]
  intro m hm
  obtain ⟨e,h1,_⟩:=h.mem hm
  rw [he] at h1; cases h1
 ·intro he
  rw [List.eq_nil_iff_forall_not_mem]
  intro m hm
  obtain ⟨e,h1,_⟩:=h.mem' hm
  rw [he] at h1; cases h1
theorem rangeM_sound (hC:CtxOk C) (hr:Rel C G st w) {t kt et:TypeId} {ti:TI} (ht:C.ty t = some ti) (hu:ti.und = .map kt et) {x v:AV} {u:Value} (hx:VR G w x u) (h:rangeM st x = some (v,st')):ValR C G st w (Instr.range t u) v st':=by
 have hund:(underlying t).run C.P w = .ok (.map kt et) w:=by have:=run_und (w:=w) hC ht; rw [hu] at this; exact this
 unfold rangeM at h
 cases hx with
 | nilmap =>
  cases h
  have hk:=Ok.push hr (.mapIter none 0 #[] 0) (.miter none 0 [] 0) ⟨w.heap.size,0,0,0⟩ rfl fun he => ⟨rfl,heap_push_new⟩
  refine ⟨_,_,_,[],?_,hk,rfl,by simpa using VR.ptr st.next 0 _ Gh.addLoc_get⟩
  simp [Instr.range,hund]
 | map l L hL =>
  simp only at h
  split at h
  ·rename_i es clock ho
   cases h
   have hob:=(hr.obj l L hL).2.2.2
   rw [ho] at hob
   obtain ⟨res,h1,h2⟩:=hob
   have hg:=run_getObj (C:=C) h1 (fun _ _ _ => by simp)
   have hk:=Ok.push hr (.mapIter (some L.blk) clock #[] clock) (.miter (some l) clock [] clock) ⟨w.heap.size,0,0,0⟩ rfl fun he => ⟨rfl,L,he.loc _ _ hL,heap_push_new⟩
   refine ⟨_,_,_,[],?_,hk,rfl,by simpa using VR.ptr st.next 0 _ Gh.addLoc_get⟩
   simp [Instr.range,hund,hg]
  ·cases h
 | _ => cases h
theorem entryM_sound (hr:Rel C G st w) {x r:AV} {u:Value} (hx:VR G w x u) (h:entryM st x = some r):∃ q,(Instr.entry u).run C.P w = .ok q w ∧ VR G w r q:=by
 unfold entryM at h
 split at h
 ·rename_i l
  cases hx with
  | ptr _ _ L hL =>
   split at h
   ·rename_i m since seen last ho
    split at h
    ·rename_i b es clock hb hm
     split at h
     ·rename_i hc
      split at h
      ·rename_i k v b' hf
       cases h
       have hob:=(hr.obj l L hL).2.2.2
       rw [ho] at hob
       obtain ⟨h0,Lm,hLm,h1⟩:=hob
       have hom:=(hr.obj m Lm hLm).2.2.2
       rw [hm] at hom
       obtain ⟨res,h2,h3⟩:=hom
       have hg1:=run_getObj (C:=C) h1 (fun _ _ _ => by simp)
       have hg2:=run_getObj (C:=C) h2 (fun _ _ _ => by simp)
       have hin:(k,v,b') ∈ es ∧ b' = b:=by
        have:(k,v,b') ∈ es.filter (fun e => e.2.2 == b):=by rw [hf]; simp
        have:=List.mem_filter.1 this
        exact ⟨this.1,by simpa using this.2⟩
       obtain ⟨mE,hmE,hk1,hk2,hk3⟩:=h3.mem' hin.1
       have hfind:∃ mF,res.find? (fun e => e.born == b) = some mF ∧ VR G w k mF.key ∧ VR G w v mF.val:=by
        cases hq:res.find? (fun e => e.born == b) with
        | none =>
         have:=Array.find?_eq_none.1 hq mE (by simpa using hmE)
         simp only at hk3
         rw [← hk3,hin.2] at this
         simp at this
        | some mF =>
         refine ⟨mF,rfl,?_⟩
         have h5:=Array.find?_some hq
         have h6:mF ∈ res.toList:=by simpa using Array.mem_of_find?_eq_some hq
         obtain ⟨e,e1,e2,e3,e4⟩:=h3.mem h6
         have:e ∈ es.filter (fun e => e.2.2 == b):=List.mem_filter.2 ⟨e1,by simp only [beq_iff_eq] at h5 ⊢; omega⟩
         rw [hf,List.mem_singleton] at this
         subst this
         exact ⟨e2,e3⟩
       obtain ⟨mF,f1,f2,f3⟩:=hfind
       refine ⟨.tuple #[mF.key,mF.val],?_,VR.mkTuple ⟨f2,f3,trivial⟩⟩
       have hbk:seen.toArray.back? = some b:=by simpa using hb
       simp only [Instr.entry,h0,Nat.zero_add,Sem.run_bind,hg1,Result.andThen_ok,hbk,hg2,hc,bne_self_eq_false,Bool.false_eq_true,if_false,f1,Sem.run_pure]
      ·cases h
     ·cases h
    ·cases h
   ·cases h
 ·cases h
end
end Go.AE

namespace Go.AE
open Go
section
variable {C:Ctx} {G:Gh} {w:World}
theorem vr_goI (n:Nat):VR G w (goI n) (goInt n):=.int _ _
theorem lenA_sound (hC:CtxOk C) {st:St} (hr:Rel C G st w) {t:TypeId} {ts:List TypeId} {ty:TypeId} {x r:AV} {u:Value} (hx:VR G w x u) (h:lenA C st t x = some r) :
  ∃ q,(Builtin.len_ (t :: ts).toArray ty #[u]).run C.P w = .ok q w ∧ VR G w r q:=by
 unfold lenA at h
 cases ht:C.ty t with
 | none => simp [ht] at h
 | some ti =>
  simp only [ht] at h
  have hu:(underlying t).run C.P w = .ok ti.und w:=run_und hC ht
  split at h
  all_goals first | (cases h; done) | skip
  ·rename_i s hund
   cases h
   rw [hund] at hu
   cases hx with
   | str bs =>
    refine ⟨goInt bs.size,?_,?_⟩
    ·simp [Builtin.len_,hu]
    ·have e:(bs.data.toList.map (·.toNat)).length = bs.size:=by rw [List.length_map,Array.length_toList]; rfl
     rw [e]
     exact vr_goI _
  ·rename_i e k es hund
   cases h
   rw [hund] at hu
   cases hx with
   | slice _ _ a cap vals h1 h2 h3 h4 => exact ⟨goInt es.length,by simp [Builtin.len_,hu],vr_goI _⟩
  ·rename_i e l off len lim hund
   cases h
   rw [hund] at hu
   cases hx with
   | row => exact ⟨goInt len,by simp [Builtin.len_,hu],vr_goI _⟩
  ·rename_i k e hund
   cases h
   rw [hund] at hu
   cases hx with
   | nilmap => exact ⟨goInt 0,by simp [Builtin.len_,hu],vr_goI _⟩
  ·rename_i k e l hund
   rw [hund] at hu
   cases hx with
   | map _ L hL =>
    split at h
    ·rename_i es cl ho
     cases h
     have hob:=(hr.obj l L hL).2.2.2
     rw [ho] at hob
     obtain ⟨res,h1,es',hp,h2,_⟩:=hob
     have hg:=run_getObj (C:=C) h1 (fun _ _ _ => by simp)
     refine ⟨goInt res.size,by simp [Builtin.len_,hu,hg],?_⟩
     have:=h2.length
     rw [hp.length_eq] at this
     rw [this]
     simpa using vr_goI (G:=G) (w:=w) res.size
    ·cases h
theorem capA_sound (hC:CtxOk C) {st:St} (hr:Rel C G st w) {t:TypeId} {ts:List TypeId} {ty:TypeId} {x r:AV} {u:Value} (hx:VR G w x u) (h:capA C st t x = some r) :
  ∃ q,(Builtin.cap_ (t :: ts).toArray ty #[u]).run C.P w = .ok q w ∧ VR G w r q:=by
 unfold capA at h
 cases he:elemTI C t with
 | none => simp [he] at h
 | some ee =>
  obtain ⟨e,ei⟩:=ee
  simp only [he] at h
  obtain ⟨ti,h1,h2,h3⟩:=elemTI_ctx he
  have hu:(underlying t).run C.P w = .ok (.slice e) w:=by rw [run_und hC h1,h2]
  have run:∀ (a:Option Addr) (n c:Nat),(Builtin.cap_ (t :: ts).toArray ty #[.slice a n c]).run C.P w = .ok (goInt c) w:=fun a n c => by simp [Builtin.cap_,hu]
  split at h
  ·cases h
   cases hx with
   | slice _ _ a cap vals hk hc hv hz => exact ⟨_,run _ _ _,by rw [hk.2.1]; exact vr_goI _⟩
  ·cases h
   cases hx with
   | slice _ _ a cap vals hk hc hv hz => exact ⟨_,run _ _ _,by rw [hk.2]; exact vr_goI _⟩
  ·cases h
   cases hx with
   | row _ _ _ _ L a cap h1 h2 h3 h4 h5 h6 h7 => exact ⟨_,run _ _ _,by rw [h6 _ rfl]; exact vr_goI _⟩
  ·rename_i l off len
   split at h
   ·rename_i em cells fz ho
    split at h
    ·rename_i s hs
     cases h
     cases hx with
     | row _ _ _ _ L a cap hL h2 h3 h4 h5 h6 h7 =>
      have hob:=(hr.obj l L hL).2.2.2
      rw [ho] at hob
      obtain ⟨c,fr,o1,o2,o3,o4,o5,o6,o7,o8,o9⟩:=hob
      obtain ⟨d1,d2⟩:=o4 rfl
      have d3:=h7 rfl
      rw [o7,hs,Option.getD_some,d1] at d3
      refine ⟨_,run _ _ _,?_⟩
      have:(cells.length - off) / (s + 1) = cap:=by
       have d4:cells.length = off + cap * (s + 1):=by rw [d2,← d3,Nat.zero_add]
       rw [d4,Nat.add_sub_cancel_left]
       exact Nat.mul_div_cancel _ (Nat.succ_pos _)
      rw [this]
      exact vr_goI _
    ·cases h
   ·cases h
  ·cases h
theorem maxA_sound {isMax:Bool}:∀ {r:List AV} {x v:AV} {u:Value} {us:List Value},VR G w x u → VRs G w r us → maxA isMax x r = some v →
  ∃ q,(us.foldlM (if isMax then Builtin.max2 else Builtin.min2) u).run C.P w = .ok q w ∧ VR G w v q
 | [],x,v,u,[],hx,_,h => by simp [maxA] at h; subst h; exact ⟨u,rfl,hx⟩
 | y :: r,x,v,u,b :: us,hx,hy,h => by
  cases x <;> cases y <;> simp only [maxA] at h <;> first | (cases h; done) | skip
  rename_i k a k' c
  obtain ⟨hy1,hy2⟩:=hy
  cases hx
  cases hy1
  obtain ⟨q,h1,h2⟩:=maxA_sound (.int k _) hy2 h
  refine ⟨q,?_,h2⟩
  rw [List.foldlM_cons,Sem.run_bind]
  cases isMax
  ·simpa [Builtin.min2] using h1
  ·simpa [Builtin.max2] using h1
theorem sliceData_sound {ts:Array TypeId} {ty:TypeId} {l off len:Nat} {lim:Option Nat} {u:Value} (hx:VR G w (.row l off len lim) u) (hl:0 < len) :
  ∃ q,(Builtin.unsafeSliceData_ ts ty #[u]).run C.P w = .ok q w ∧ VR G w (.ptr l off) q:=by
 cases hx with
 | row _ _ _ _ L a cap h1 h2 h3 h4 h5 h6 h7 =>
  have hc:cap ≠ 0:=by omega
  refine ⟨_,Lib.run_unsafeSliceData_row w ts ty a len cap hc,?_⟩
  rcases h4 with h4 | rfl
  ·exact absurd h4 hc
  ·exact .ptr l off L h1
theorem sliceData_nil {ts:Array TypeId} {ty:TypeId} {es:List AV} {u:Value} (hx:VR G w (.slice .nil es) u) :
  ∃ q,(Builtin.unsafeSliceData_ ts ty #[u]).run C.P w = .ok q w ∧ VR G w .nilp q:=by
 cases hx with
 | slice _ _ a cap vals hk hc hv hz =>
  obtain ⟨rfl,rfl,rfl⟩:=hk
  exact ⟨_,rfl,.nilp⟩
theorem next_sound {st st':St} (hr:Rel C G st w) {x v:AV} {u:Value} {ty:TypeId} (hx:VR G w x u) (h:nextA st x = some (v,st')):ValR C G st w (Instr.next u true ty) v st':=by
 unfold nextA at h
 split at h
 ·rename_i l
  split at h
  ·rename_i s pos ho
   cases hx with
   | ptr _ _ L hL =>
    have hob:=(hr.obj l L hL).2.2.2
    have hlt:=(hr.obj l L hL).2.1
    rw [ho] at hob
    obtain ⟨h0,bs,h1,rfl⟩:=hob
    have hg:=run_getObj (C:=C) h1 (fun _ _ _ => by simp)
    simp only [h0,Nat.add_zero]
    split at h
    ·rename_i hdrop
     cases h
     refine ValR.quiet hr ⟨.tuple #[.bool false],?_,VR.mkTuple ⟨.bool _,trivial⟩⟩
     have:¬ pos < bs.size:=by
      have:=congrArg List.length hdrop
      simp only [List.length_drop,List.length_map,Array.length_toList,List.length_nil] at this
      show ¬ pos < bs.data.size
      omega
     simp [Instr.next,hg,this]
    ·rename_i b rest hdrop
     split at h
     ·rename_i hb
      simp only [Option.some.injEq,Prod.mk.injEq] at h
      obtain ⟨rfl,rfl⟩:=h
      have hp:pos < bs.size:=by
       have:=congrArg List.length hdrop
       simp only [List.length_drop,List.length_map,Array.length_toList,List.length_cons] at this
       show pos < bs.data.size
       omega
      have hbv:(bs[pos]'hp).toNat = b:=by
       have:=congrArg List.head? hdrop
       rw [List.head?_drop] at this
       simp only [List.getElem?_map,Array.getElem?_toList,List.head?_cons] at this
       rw [Array.getElem?_eq_getElem (by simpa using hp)] at this
       simp only [Option.map_some,Option.some.injEq] at this
       exact this
      have hdec:=decode_ascii bs pos hp (by omega)
      have hk:=Ok.write (C:=C) (w':={ w with heap:=w.heap.setIfInBounds L.blk (.stringIter bs (pos + 1)) }) hr hL (by rw [ho]; trivial) (.siter (bs.data.toList.map (·.toNat)) (pos + 1)) (fun _ _ => False) (fun _ _ h => h.elim)
       (by simp) (fun b hb => by simp [Array.getElem?_setIfInBounds,Ne.symm hb]) (fun i _ => by rw [World.cell?,World.cell?,h1,Array.getElem?_setIfInBounds_self_of_lt hlt]) rfl rfl rfl (fun he => ⟨h0,bs,by simp [hlt],rfl⟩)
      rw [Gh.addK_none] at hk
      refine ⟨.tuple #[.bool true,goInt pos,.int .i32 b],_,G,[l],?_,hk,rfl,VR.mkTuple ⟨.bool _,vr_goI _,.int _ _,trivial⟩⟩
      simp only [Instr.next,Sem.run_bind,hg,Result.andThen_ok,hp,if_true,hdec,run_setObj _ h1 (fun _ _ _ => by simp),Sem.run_pure,hbv]
     ·cases h
  ·cases h
 ·cases h
theorem assert_sound (hC:CtxOk C) {x r:AV} {u:Value} {xt t:TypeId} {ok:Bool} (hx:VR G w x u) (h:assertA C x t ok = some r):∃ q,(Instr.typeAssert u xt t ok).run C.P w = .ok q w ∧ VR G w r q:=by
 unfold assertA at h
 cases ht:C.ty t with
 | none => simp [ht] at h
 | some ti =>
  simp only [ht] at h
  have hu:(underlying t).run C.P w = .ok ti.und w:=run_und hC ht
  obtain ⟨z,hz1,_,_,hz4⟩:=run_zero (w:=w) hC ht
  split at h
  ·rename_i want y v hund
   split at h
   ·rename_i hw
    obtain ⟨hw,hy⟩:=hw
    obtain ⟨yi,hy⟩:=Option.isSome_iff_exists.1 hy
    obtain ⟨i,hi,_⟩:=run_bytes (w:=w) hC hy
    simp only [Option.some.injEq] at h
    rw [hund] at hu
    cases hx with
    | iface _ _ vv hv =>
     have hm:Instr.missingMethod want i.methods = none:=by simp [Instr.missingMethod,hw,Instr.least]
     cases ok
     ·refine ⟨.iface y vv,?_,by simpa [← h] using VR.iface y v vv hv⟩
      simp [Instr.typeAssert,hu,hi,hm]
     ·refine ⟨.tuple #[.iface y vv,.bool true],?_,by subst h; exact VR.mkTuple ⟨VR.iface y v vv hv,.bool _,trivial⟩⟩
      simp [Instr.typeAssert,hu,hi,hm]
   ·cases h
  ·cases h
  ·rename_i hni
   split at h
   ·rename_i hok
    subst hok
    cases h
    cases hx
    refine ⟨.tuple #[z,.bool false],?_,VR.mkTuple ⟨hz4 G w,.bool _,trivial⟩⟩
    simp only [Instr.typeAssert,Sem.run_bind,hu,Result.andThen_ok]
    cases hd:ti.und <;> simp [hz1]
   ·cases h
  ·rename_i y v hni
   cases hx with
   | iface _ _ vv hv =>
    split at h
    ·rename_i he
     subst he
     simp only [Option.some.injEq] at h
     cases ok
     ·refine ⟨vv,?_,by simpa [← h] using hv⟩
      simp only [Instr.typeAssert,Sem.run_bind,hu,Result.andThen_ok]
      cases hd:ti.und <;> simp <;> exact (hni _ hd).elim
     ·refine ⟨.tuple #[vv,.bool true],?_,by subst h; exact VR.mkTuple ⟨hv,.bool _,trivial⟩⟩
      simp only [Instr.typeAssert,Sem.run_bind,hu,Result.andThen_ok]
      cases hd:ti.und <;> simp <;> exact (hni _ hd).elim
    ·rename_i he
     split at h
     ·rename_i hok
      subst hok
      cases h
      refine ⟨.tuple #[z,.bool false],?_,VR.mkTuple ⟨hz4 G w,.bool _,trivial⟩⟩
      simp only [Instr.typeAssert,Sem.run_bind,hu,Result.andThen_ok]
      cases hd:ti.und <;> simp [he,hz1] <;> exact (hni _ hd).elim
     ·cases h
  ·cases h
end
end Go.AE

namespace Go.AE
open Go
section
variable {C:Ctx} {G:Gh} {w:World}
theorem atCells_heap {w0:World} (h:w0.heap = w.heap) {a:Addr} {vals:List Value} (k:AtCells w a vals):AtCells w0 a vals:=fun j v hj => by
 have:=k j v hj
 simpa [World.cell?,h] using this
theorem part_cells {ei:TI} {cs:List AV} {v:AV} (hok:ei.isAgg = true ∨ (ei.size = 1 ∧ cs.all AV.noAgg = true)) (h:ei.part cs = some v):v.cells = cs.take ei.size ∧ v.cells.length = ei.size:=by
 unfold TI.part at h
 by_cases ha:ei.isAgg = true
 ·rw [if_pos ha] at h
  split at h
  ·cases h; exact ⟨rfl,by assumption⟩
  ·cases h
 ·rw [if_neg ha] at h
  obtain ⟨h1,h2⟩:=hok.resolve_left ha
  cases cs with
  | nil => cases h
  | cons c r =>
   simp only [List.head?_cons,Option.some.injEq] at h
   subst h
   have:c.noAgg = true:=by simp at h2; exact h2.1
   have hc:c.cells = [c]:=by cases c <;> simp_all [AV.cells,AV.noAgg]
   rw [hc,h1]
   exact ⟨rfl,rfl⟩
theorem chunk_flat {ei:TI}:∀ {n:Nat} {cs ys:List AV},(ei.isAgg = true ∨ (ei.size = 1 ∧ cs.all AV.noAgg = true)) → cs.length = n * ei.size → chunk ei n cs = some ys → flat ys = cs ∧ ys.length = n ∧ sized ei.size ys = true
 | 0,cs,ys,_,hl,h => by
  simp only [chunk,Option.some.injEq] at h
  subst h
  rw [Nat.zero_mul] at hl
  exact ⟨(List.eq_nil_of_length_eq_zero hl).symm,rfl,rfl⟩
 | n + 1,cs,ys,hok,hl,h => by
  simp only [chunk] at h
  cases hp:ei.part cs with
  | none => simp [hp] at h
  | some v =>
   cases hr:chunk ei n (cs.drop ei.size) with
   | none => simp [hp,hr] at h
   | some r =>
    simp only [hp,hr,Option.some.injEq] at h
    subst h
    obtain ⟨h1,h2⟩:=part_cells hok hp
    have hok':ei.isAgg = true ∨ (ei.size = 1 ∧ (cs.drop ei.size).all AV.noAgg = true):=hok.imp id fun ⟨a,b⟩ => ⟨a,List.all_eq_true.2 fun x hx => List.all_eq_true.1 b x (List.mem_of_mem_drop hx)⟩
    obtain ⟨e1,e2,e3⟩:=chunk_flat hok' (by rw [List.length_drop,hl,Nat.succ_mul]; omega) hr
    refine ⟨by rw [flat_cons,e1,h1,List.take_append_drop],by simp [e2],?_⟩
    simp only [sized,List.all_cons,Bool.and_eq_true]
    exact ⟨by simpa using h2,e3⟩
theorem rowElems_flat {st:St} {ei:TI} {l off len:Nat} {ys:List AV} (h:rowElems st ei l off len = some ys) :
  ∃ e cells full fz,st.heap l = .mem e cells full fz ∧ flat ys = (cells.drop off).take (len * ei.size) ∧ (flat ys).length = len * ei.size ∧ ys.length = len ∧ sized ei.size ys = true:=by
 unfold rowElems rowCells at h
 split at h
 ·rename_i cs hcs
  split at hcs
  ·rename_i e cells full fz ho
   split at hcs
   ·rename_i hlen
    cases hcs
    split at h
    ·rename_i hok
     simp only [Bool.or_eq_true,Bool.and_eq_true,beq_iff_eq] at hok
     obtain ⟨h1,h2,h3⟩:=chunk_flat hok hlen h
     exact ⟨e,cells,full,fz,ho,h1,by rw [h1]; exact hlen,h2,h3⟩
    ·cases h
   ·cases hcs
  ·cases hcs
 ·cases h
theorem elems_sound {st:St} (hr:Rel C G st w) {ei:TI} {x:AV} {u:Value} {ys:List AV} (hx:VR G w x u) (hs:sized ei.size ys = true) (h:elemsOf st ei x = some ys) :
  (∀ w0,(Builtin.lenOf u).run C.P w0 = .ok ys.length w0) ∧
  ∀ n,n ≤ ys.length → ∃ cs:Array Value,(∀ w0:World,w0.heap = w.heap → (Builtin.firstCells ei.size n u).run C.P w0 = .ok cs w0) ∧ VRs G w (flat (ys.take n)) cs.toList:=by
 unfold elemsOf at h
 split at h
 ·rename_i k es
  cases h
  cases hx with
  | slice _ _ a cap vals hk hc hv hz =>
   refine ⟨fun _ => rfl,fun n hn => ?_⟩
   have hfl:=flat_length hs
   rw [flat_take n hs]
   cases a with
   | none =>
    have h0:(flat ys).length = 0:=by
     rcases Nat.eq_zero_or_pos (flat ys).length with h | h
     ·exact h
     ·obtain ⟨b,o,e,_⟩:=hc 0 h; cases e
    refine ⟨#[],fun _ _ => rfl,?_⟩
    rw [List.eq_nil_of_length_eq_zero h0,List.take_nil]
    trivial
   | some a =>
    have hvs:=VRs.take (n * ei.size) (vrs_range hv)
    have hat:=hc.at.take (n * ei.size)
    have hlen:(((List.range (flat ys).length).map vals).take (n * ei.size)).length = n * ei.size:=by
     have:=Nat.mul_le_mul_right ei.size hn
     simp; omega
    refine ⟨_,fun w0 h0 => ?_,(by simpa using hvs)⟩
    have:=run_loadCells_list (P:=C.P) w0 a _ (atCells_heap h0 hat)
    rw [hlen] at this
    exact this
 ·rename_i l off len lim
  obtain ⟨e,cells,full,fz,ho,h1,h2,h3,_⟩:=rowElems_flat h
  cases hx with
  | row _ _ _ _ L a cap hL g2 g3 g4 g5 g6 g7 =>
   refine ⟨fun _ => by simp [Builtin.lenOf,h3],fun n hn => ?_⟩
   have hob:=(hr.obj l L hL).2.2.2
   rw [ho] at hob
   obtain ⟨vals,hv,hat⟩:=mem_at hob
   have hle:n * ei.size ≤ len * ei.size:=Nat.mul_le_mul_right _ (by omega)
   have e1:flat (ys.take n) = (cells.drop off).take (n * ei.size):=by
    rw [flat_take n hs,h1,List.take_take,Nat.min_eq_left hle]
   rw [e1]
   have hvs:=VRs.take (n * ei.size) (VRs.drop off hv)
   have hlen:((vals.drop off).take (n * ei.size)).length = n * ei.size:=by
    rw [← hvs.length,← e1,flat_take n hs,List.length_take,h2]; omega
   refine ⟨_,fun w0 h0 => ?_,(by simpa using hvs)⟩
   rcases g4 with g4 | g4
   ·have:n * ei.size = 0:=by have:n = 0:=by omega
                             rw [this,Nat.zero_mul]
    rw [this,List.take_zero]
    show (Builtin.firstCells ei.size n (.slice (some a) len cap)).run C.P w0 = _
    simp only [Builtin.firstCells,this]
    rfl
   ·have:=run_loadCells_list (P:=C.P) w0 a _ (atCells_heap h0 (by rw [g4]; exact (hat.drop off).take (n * ei.size)))
    rw [hlen] at this
    exact this
 ·rename_i s
  cases h
  cases hx with
  | str bs =>
   refine ⟨fun w0 => ?_,fun n hn => ?_⟩
   ·simp only [Builtin.lenOf,Sem.run_pure,List.length_map,Array.length_toList]; rfl
   ·refine ⟨_,fun w0 _ => rfl,?_⟩
    have hf:∀ l:List Nat,flat (l.map fun b => AV.int .u8 (.ofNat b)) = l.map fun b => AV.int .u8 (.ofNat b):=fun l => by
     induction l with
     | nil => rfl
     | cons b l ih => rw [List.map_cons,flat_cons,ih]; rfl
    rw [← List.map_take,hf,← List.map_take,List.map_map]
    have e:((bs.extract 0 n).data.map fun b => Value.int .u8 (b.toNat:Int)).toList = (bs.data.toList.take n).map fun b => Value.int .u8 (.ofNat b.toNat):=by
     simp [ByteArray.data_extract]
    rw [e]
    exact VRs.map fun b _ => .int _ _
 ·cases h
end
end Go.AE

namespace Go.AE
open Go
section
variable {C:Ctx} {G:Gh} {w:World}
structure News (C:Ctx) (w:World) (size:Nat) (e:TypeId) (ui:TI) (x:Value) (n:Nat) (new:Array Value):Prop where
 run:((∀ k,ui.und ≠ .int k) ∧ (∀ w0,(Builtin.lenOf x).run C.P w0 = .ok n w0) ∧ ∀ w0:World,w0.heap = w.heap → (Builtin.firstCells size n x).run C.P w0 = .ok new w0) ∨
  (∃ k k' z,ui.und = .int k ∧ x = .int k' n ∧ n ≤ 1048576 ∧ (∀ w0,(zeroValue e).run C.P w0 = .ok z w0) ∧ new = if n * size = 0 then #[] else Builtin.zeroCells z.cells n)
theorem run_append_place (hC:CtxOk C) {t u e:TypeId} {ti ui ei:TI} {ts:List TypeId} {ty:TypeId} (ht:C.ty t = some ti) (hte:ti.und = .slice e) (hu:C.ty u = some ui) (he:C.ty e = some ei)
  {base:Option Addr} {sLen sCap n:Nat} {x:Value} {new:Array Value} (hb:n * ei.bytes ≤ 1099511627776) (hn:News C w ei.size e ui x n new) (hroom:sLen + n ≤ sCap) :
  (Builtin.append_ (t :: u :: ts).toArray ty #[.slice base sLen sCap,x]).run C.P w =
   ((match base with | some a => storeCells (a.add (sLen * ei.size)) new.toList | none => pure ():Sem Unit).run C.P w).andThen fun _ w' => .ok (.slice base (sLen + n) sCap) w':=by
 have h1:(underlying t).run C.P w = .ok (.slice e) w:=by rw [run_und hC ht,hte]
 have h2:(underlying u).run C.P w = .ok ui.und w:=run_und hC hu
 have h3:=run_size (w:=w) hC he
 obtain ⟨i,hi,hib,_⟩:=run_bytes (w:=w) hC he
 rcases hn.run with ⟨a1,a2,a3⟩ | ⟨k,k',z,a1,rfl,a3,a5,rfl⟩
 ·have hz:(ui.und matches .int _) = false:=by
   cases hh:ui.und <;> first | rfl | exact absurd hh (a1 _)
  have a3':=a3 w rfl
  cases base <;> simp [Builtin.append_,h1,h2,h3,hz,a2,a3',hroom]
 ·have hw:IntKind.i64.wrap (n:Int) = n:=wrap_small (by omega)
  have hneg:¬ ((n:Int) < 0):=by omega
  have hbig:¬ ((281474976710656:Int) < (n:Int) * (i.bytes:Int)):=by
   have:((n * i.bytes:Nat):Int) ≤ 1099511627776:=Int.ofNat_le.2 (by rw [hib]; exact hb)
   rw [Int.natCast_mul] at this
   omega
  by_cases h0:n * ei.size = 0
  ·cases base <;> simp only [if_pos h0] <;> simp [Builtin.append_,h1,h2,h3,a1,hi,asInt,asIntOf,hw,hneg,hbig,Nat.mul_eq_zero.1 h0,a5,hroom] <;> (intro hh; exact absurd h0 hh)
  ·have h00:=h0
   rw [Nat.mul_eq_zero] at h00
   cases base <;> simp only [if_neg h0] <;> simp [Builtin.append_,h1,h2,h3,a1,hi,asInt,asIntOf,hw,hneg,hbig,h00,a5,hroom] <;> (intro hh; exact absurd hh h0)
theorem run_append_new (hC:CtxOk C) {t u e:TypeId} {ti ui ei:TI} {ts:List TypeId} {ty:TypeId} (ht:C.ty t = some ti) (hte:ti.und = .slice e) (hu:C.ty u = some ui) (he:C.ty e = some ei)
  {base:Option Addr} {sLen sCap n:Nat} {x:Value} {new old:Array Value} (hroomy:roomy (sLen + n) ei.bytes = true) (hpos:0 < ei.size) (hn0:0 < n) (hn:News C w ei.size e ui x n new) (hroom:sCap < sLen + n)
  (hold:∀ w0:World,w0.heap = w.heap → (Builtin.firstCells ei.size sLen (.slice base sLen sCap)).run C.P w0 = .ok old w0) :
  ∃ (cap:Nat) (rest:Array Value) (w':World),(Builtin.append_ (t :: u :: ts).toArray ty #[.slice base sLen sCap,x]).run C.P w = .ok (.slice (some ⟨w.heap.size,0,none⟩) (sLen + n) cap) w' ∧
   sLen + n ≤ cap ∧ w'.heap = w.heap.push (.cells (old ++ new ++ rest) e) ∧ w'.tape = w.tape ∧ w'.os = w.os ∧ w'.output = w.output ∧ rest.size = (cap - (sLen + n)) * ei.size:=by
 have h1:(underlying t).run C.P w = .ok (.slice e) w:=by rw [run_und hC ht,hte]
 have h2:(underlying u).run C.P w = .ok ui.und w:=run_und hC hu
 have h3:=run_size (w:=w) hC he
 have hbt:∀ w0:World,∃ i,(typeInfo e).run C.P w0 = .ok i w0 ∧ i.bytes = ei.bytes ∧ i.size = ei.size:=fun w0 => run_bytes (w:=w0) hC he
 obtain ⟨i,zz,j1,j2,j3,j4,j5,_⟩:=zero_sound hC he
 have hi:∀ w0:World,(typeInfo e).run C.P w0 = .ok i w0:=fun w0 => by simp [typeInfo,j1]
 have hzv:∀ w0:World,(zeroValue e).run C.P w0 = .ok zz w0:=fun w0 => by simp [zeroValue,typeInfo,j1,j4]
 obtain ⟨r1,r2,r3⟩:=roomy_le hroomy
 have hno:¬ (sLen + n ≤ sCap):=by omega
 have h63:¬ ((9223372036854775807:Int) < ((sLen:Int) + (n:Int))):=by omega
 have hfit:¬ (281474976710656 < Builtin.nextslicecap (sLen + n) sCap * i.bytes):=by
  have:=growslice_fits (bytes:=i.bytes) hroom (by rw [j3]; omega)
  omega
 have hd:=hold w.drew rfl
 have hcap:sLen + n ≤ grownCap w (sLen + n) sCap e:=by simp [grownCap,Question.cut]
 refine ⟨grownCap w (sLen + n) sCap e,Builtin.zeroCells zz.cells (grownCap w (sLen + n) sCap e - (sLen + n)),w.drew.alloc (.cells (old ++ new ++ Builtin.zeroCells zz.cells (grownCap w (sLen + n) sCap e - (sLen + n))) e),?_,hcap,rfl,rfl,rfl,rfl,by rw [size_zeroCells,j5]⟩
 rcases hn.run with ⟨a1,a2,a3⟩ | ⟨k,k',z,a1,rfl,a3,a5,rfl⟩
 ·have hz:(ui.und matches .int _) = false:=by
   cases hh:ui.und <;> first | rfl | exact absurd hh (a1 _)
  have a3':=a3 w.drew rfl
  simp [Builtin.append_,h1,h2,h3,hz,a2,a3',hno,hi,h63,hfit,Question.forced,hd,hzv,newRow,grownCap]
 ·have hw:IntKind.i64.wrap (n:Int) = n:=wrap_small (by omega)
  have hneg:¬ ((n:Int) < 0):=by omega
  have hbig:¬ ((281474976710656:Int) < (n:Int) * (i.bytes:Int)):=by
   have:n * i.bytes ≤ 1048576 * 1048576:=Nat.mul_le_mul a3 (by omega)
   have:((n * i.bytes:Nat):Int) ≤ 1099511627776:=Int.ofNat_le.2 this
   rw [Int.natCast_mul] at this
   omega
  have hzz:z = zz:=by have:=(a5 w).symm.trans (hzv w); simpa using this
  subst hzz
  have h0:¬ n * ei.size = 0:=by rw [Nat.mul_eq_zero]; omega
  have h00:=h0
  rw [Nat.mul_eq_zero] at h00
  simp only [if_neg h0]
  simp [Builtin.append_,h1,h2,h3,a1,hi,asInt,asIntOf,hw,hneg,hbig,h00,hno,h63,hfit,Question.forced,hd,hzv,newRow,grownCap]
  intro hh; exact absurd hh h0
end
end Go.AE

namespace Go.AE
open Go
theorem upd_twice {α:Type} (f:Nat → α) (n:Nat) (v u:α):upd (upd f n v) n u = upd f n u:=by
 funext m; unfold upd; split <;> rfl
section
variable {C:Ctx} {G:Gh} {w w':World} {st:St}
theorem Ok.fin {w1:World} {G':Gh} {st':St} {ls:List Nat} (h:Ok C G st w ls G' st' w1) (hh:w'.heap = w1.heap) (htape:w'.tape = w1.tape) (hos:w'.os = w1.os) (hout:w'.output = w1.output):Ok C G st w ls G' st' w':=by
 have:=h.trans (Ok.same h.rel hh htape hos hout)
 rwa [List.append_nil] at this
theorem loc_next (hr:Rel C G st w):G.loc st.next = none:=by
 cases h:G.loc st.next with
 | none => rfl
 | some L0 => exact absurd (hr.obj _ _ h).1 (Nat.lt_irrefl _)
theorem Ok.move (hr:Rel C G st w) {l:Nat} {L:Loc} (hl:G.loc l = some L) (hal:alive (st.heap l)) (o:AO) (L':Loc) (hb:L'.blk = L.blk) (Q:Nat → Nat → Prop) (hQ:∀ b i,Q b i → b = L.blk)
  (hsz:w'.heap.size = w.heap.size) (hother:∀ b,b ≠ L.blk → w'.heap[b]? = w.heap[b]?) (hcell:∀ i,G.K L.blk i → w'.cell? ⟨L.blk,i,none⟩ = w.cell? ⟨L.blk,i,none⟩)
  (htape:w'.tape = w.tape) (hos:w'.os = w.os) (hout:w'.output = w.output)
  (ho:Ext G w ((G.addK Q).addLoc st.next L') w' → ObjRel C ((G.addK Q).addLoc st.next L') w' L' o):Ok C G st w [l] ((G.addK Q).addLoc st.next L') ((st.set l .dead).push o) w':=by
 have hlt:=hr.obj l L hl
 have hfree:=loc_next hr
 have hne:l ≠ st.next:=by have:=hlt.1; omega
 have he:Ext G w ((G.addK Q).addLoc st.next L') w':=⟨fun l0 L0 h => by
   simp only [Gh.addLoc]
   rw [upd_ne _ _ (fun e => by subst e; rw [hfree] at h; cases h)]
   exact h,fun _ _ h => .inl h,fun b i h => by
  by_cases e:b = L.blk
  ·subst e; exact hcell i h
  ·simp [World.cell?,hother b e]⟩
 have htouch:∀ b,b = L.blk → Touches G [l] b:=fun b e => ⟨l,L,by simp,hl,e.symm⟩
 have hloc:∀ l' L0,((G.addK Q).addLoc st.next L').loc l' = some L0 → (l' = st.next ∧ L0 = L') ∨ (l' ≠ st.next ∧ G.loc l' = some L0):=fun l' L0 h => by
  by_cases e:l' = st.next
  ·subst e; simp [Gh.addLoc,upd_same] at h; exact .inl ⟨rfl,h.symm⟩
  ·simp only [Gh.addLoc] at h
   rw [upd_ne _ _ e] at h
   exact .inr ⟨e,h⟩
 have hheap:∀ l',((st.set l .dead).push o).heap l' = if l' = st.next then o else if l' = l then .dead else st.heap l':=fun l' => rfl
 refine Ok.intro hr he rfl (Nat.le_succ _) (Nat.le_of_eq hsz.symm) (fun l' h1 h2 => ?_) (fun b _ hn => hother b fun e => hn (htouch b e)) (fun l' L0 h1 h2 => ?_)
  (fun b i h => h.imp id fun h => .inr (htouch b (hQ b i h))) htape hos hout (fun l' h => by simp at h; subst h; exact hal) (fun l' L0 h1 h2 => ?_) (fun l1 l2 L1 L2 h1 h2 a1 a2 h3 hbe => ?_) (fun b i h => ?_)
 ·rw [hheap,if_neg (by omega),if_neg (by simpa using h2)]
 ·rcases hloc _ _ h2 with ⟨rfl,rfl⟩ | ⟨_,h⟩
  ·exact ⟨Nat.le_refl _,.inr (htouch _ hb)⟩
  ·rw [h] at h1; cases h1
 ·rcases hloc _ _ h1 with ⟨rfl,rfl⟩ | ⟨hn,h⟩
  ·refine ⟨Nat.lt_succ_self _,by rw [hb,hsz]; exact hlt.2.1,by rw [hb]; exact hlt.2.2.1,?_⟩
   rw [hheap,if_pos rfl]
   exact ho he
  ·rcases h2 with h2 | h2
   ·simp at h2; subst h2
    rw [hl] at h; cases h
    refine ⟨Nat.lt_succ_of_lt hlt.1,by rw [hsz]; exact hlt.2.1,hlt.2.2.1,?_⟩
    rw [hheap,if_neg hn,if_pos rfl]
    trivial
   ·rw [h2] at h; cases h
 ·rw [hheap] at a1 a2
  rcases hloc _ _ h1 with ⟨rfl,rfl⟩ | ⟨hn1,g1⟩
  ·rcases hloc _ _ h2 with ⟨rfl,rfl⟩ | ⟨hn2,g2⟩
   ·rfl
   ·rw [if_neg hn2] at a2
    split at a2
    ·exact a2.elim
    ·rename_i hnl
     exact absurd (hr.sep l l2 _ _ hl g2 hal a2 (by rw [← hb]; exact hbe)).symm hnl
  ·rcases h3 with h3 | h3
   ·simp at h3; subst h3
    rw [if_neg hn1,if_pos rfl] at a1
    exact a1.elim
   ·rw [h3] at g1; cases g1
 ·rw [hsz]
  rcases h with h | h
  ·exact hr.kold b i h
  ·rw [hQ b i h]; exact hlt.2.1
theorem fresh_const (hr:Rel C G st w) {e:TypeId} {es:List AV} {cs:Array Value} (hv:VRs G w (flat es) (cs.toList.take (flat es).length)) {sz:Nat} (hsz:0 < sz) (hs:sized sz es = true) {cap:Nat} (hlen:es.length ≤ cap) (hcs:cs.size = cap * sz) :
  ∃ G',Ok C G st w [] G' (st.push .tok) { w with heap:=w.heap.push (.cells cs e) } ∧ VR G' { w with heap:=w.heap.push (.cells cs e) } (.slice (.tok st.next sz) es) (.slice (some ⟨w.heap.size,0,none⟩) es.length cap):=by
 have hfl:=flat_length hs
 have hle:=Nat.mul_le_mul_right sz hlen
 have hk:=Ok.push hr (.cells cs e) .tok ⟨w.heap.size,es.length * sz,cs.size,0⟩ rfl fun he => ⟨cs,e,(0,0),heap_push_new,rfl,by simp; omega,Nat.zero_le _,fun o _ hk => by
  have:=hr.kold _ _ (show G.K _ _ from hk)
  simp at this⟩
 have hk2:=Ok.write (C:=C) (w':={ w with heap:=w.heap.push (.cells cs e) }) hk.rel (l:=st.next) Gh.addLoc_get (by simp [St.push,upd_same,alive]) .tok (fun b i => b = w.heap.size ∧ i < es.length * sz) (fun _ _ h => h.1) rfl (fun _ _ => rfl) (fun _ _ => rfl) rfl rfl rfl
  (fun he => ⟨cs,e,(0,0),heap_push_new,rfl,by simp; omega,Nat.zero_le _,fun o ho hk => by
   rcases hk with hk | hk
   ·have:=hr.kold _ _ (show G.K _ _ from hk)
    simp at this
   ·simp only at ho
    omega⟩)
 have hk3:=(hk.trans hk2).filter hr
 simp only [List.nil_append] at hk3
 have hf:[st.next].filter (· < st.next) = []:=by simp
 rw [hf] at hk3
 have hst:St.set (st.push .tok) st.next .tok = ⟨(st.push .tok).heap,st.next + 1,st.next :: st.log⟩:=by
  simp only [St.set,St.push,upd_twice]
 rw [hst] at hk3
 have hk4:=hk3.log st.log st.log
 refine ⟨_,hk4,?_⟩
 have hcr:=vrs_cells hv
 refine VR.slice (.tok st.next sz) es _ cap (fun i => cs.getD i undef) ⟨_,(Gh.addLoc_get:(G.addLoc st.next _).loc st.next = some _),rfl,hlen,hsz,fun x hx => sized_mem hs hx,.inr ⟨0,rfl,by simp,by simp [hcs]⟩⟩ (fun i hi => ⟨_,_,rfl,.inr ⟨rfl,?_⟩,?_⟩) (fun i hi => ?_) ⟨sz,hs⟩
 ·rw [← hfl]; simpa using hi
 ·obtain ⟨v,h1,_⟩:=hcr i hi
  simp only [Nat.zero_add] at h1 ⊢
  have:i < cs.size:=by
   rcases Nat.lt_or_ge i cs.size with h | h
   ·exact h
   ·rw [Array.getElem?_eq_none h] at h1; cases h1
  simp [World.cell?,this,Array.getD_eq_getD_getElem?]
 ·obtain ⟨v,h1,h2⟩:=hcr i hi
  simp only [Nat.zero_add] at h1
  rw [Array.getD_eq_getD_getElem?,h1]
  exact h2.ext hk4.ext
theorem fresh_sound (hr:Rel C G st w) {mu:Bool} {e:TypeId} {ei:TI} (he:C.ty e = some ei) {es:List AV} (hpos:0 < ei.size) (hs:sized ei.size es = true) {old new rest:Array Value} {cap:Nat} (hv:VRs G w (flat es) (old ++ new).toList)
  (hlen:es.length ≤ cap) (hrest:rest.size = (cap - es.length) * ei.size) (hh:w'.heap = w.heap.push (.cells (old ++ new ++ rest) e)) (htape:w'.tape = w.tape) (hos:w'.os = w.os) (hout:w'.output = w.output) {v:AV} {st':St} (h:fresh mu e ei st es = (v,st')) :
  ∃ G',Ok C G st w [] G' st' w' ∧ st'.log = st.log ∧ VR G' w' v (.slice (some ⟨w.heap.size,0,none⟩) es.length cap):=by
 have hfl:=flat_length hs
 have hvl:(flat es).length = (old ++ new).size:=by rw [hv.length,Array.length_toList]
 have htk:((old ++ new ++ rest).toList.take (flat es).length) = (old ++ new).toList:=by
  rw [Array.toList_append,List.take_append_of_le_length (Nat.le_of_eq hv.length),hv.length,List.take_length]
 have hcs:(old ++ new ++ rest).size = cap * ei.size:=by
  rw [Array.size_append,← hvl,hrest,hfl,← Nat.add_mul]; congr 1; omega
 unfold fresh at h
 by_cases hmu:mu = true
 ·rw [if_pos hmu] at h
  cases h
  have hk:=push_mem (e:=e) hr (cells:=flat es) (cs:=old ++ new ++ rest) false (by rw [htk]; exact hv) (fun h => by cases h)
  have hk':=hk.fin hh htape hos hout
  refine ⟨_,hk',rfl,?_⟩
  refine VR.row st.next 0 es.length none _ _ cap Gh.addLoc_get hlen ?_ (.inr rfl) ?_ (fun c hc => by cases hc) (fun _ => ?_)
  ·simpa [sizeIs,he] using hpos
  ·simp only [sizeIs,he,Option.map_some,Option.getD_some,hcs]; omega
  ·simp only [sizeIs,he,Option.map_some,Option.getD_some,hcs]; omega
 ·rw [if_neg hmu] at h
  cases h
  obtain ⟨G',h1,h2⟩:=fresh_const (e:=e) hr (es:=es) (cs:=old ++ new ++ rest) (by rw [htk]; exact hv) hpos hs hlen hcs
  have h3:=h1.fin hh htape hos hout
  exact ⟨G',h3,rfl,h2.ext (Ok.same h1.rel hh htape hos hout).ext⟩
end
end Go.AE

namespace Go.AE
open Go
section
variable {C:Ctx} {G:Gh} {w:World} {st st':St}
theorem roomy_mul {m n bytes:Nat} (h:roomy (m + n) bytes = true):n * bytes ≤ 1099511627776:=by
 have h1:=(roomy_le h).1
 have h2:n * bytes ≤ (m + n) * bytes:=Nat.mul_le_mul_right _ (by omega)
 omega
theorem append_none (hC:CtxOk C) (hr:Rel C G st w) {t u e:TypeId} {ti ui ei:TI} {ts:List TypeId} {ty:TypeId} (ht:C.ty t = some ti) (hte:ti.und = .slice e) (hu:C.ty u = some ui) (he:C.ty e = some ei)
  {s:AV} {base:Option Addr} {sLen sCap:Nat} {xv:Value} {new:Array Value} (hs:VR G w s (.slice base sLen sCap)) (hc:sLen ≤ sCap) (hn:News C w ei.size e ui xv 0 new) (hv:new = #[]) :
  ValR C G st w (Builtin.append_ (t :: u :: ts).toArray ty #[.slice base sLen sCap,xv]) s st:=by
 refine ValR.quiet hr ⟨.slice base sLen sCap,?_,hs⟩
 rw [run_append_place hC ht hte hu he (by simp) hn hc]
 subst hv
 cases base <;> rfl
theorem slice_parts {k:SK} {es:List AV} {v:Value} (hx:VR G w (.slice k es) v):∃ a cap,v = .slice a es.length cap ∧ es.length ≤ cap:=by
 cases hx with
 | slice _ _ a cap vals hk hc hv hz =>
  refine ⟨a,cap,rfl,?_⟩
  cases k with
  | nil => obtain ⟨_,rfl,rfl⟩:=hk; simp
  | exact => exact Nat.le_of_eq hk.2.symm
  | open_ => exact hk.2
  | tok t sz => obtain ⟨L,_,_,h,_⟩:=hk; exact h
theorem append_grow (hC:CtxOk C) (hr:Rel C G st w) {t u e:TypeId} {ti ui ei:TI} {ts:List TypeId} {ty:TypeId} (ht:C.ty t = some ti) (hte:ti.und = .slice e) (hu:C.ty u = some ui) (he:C.ty e = some ei) {mu:Bool}
  {es ys:List AV} {base:Option Addr} {sCap:Nat} {xv:Value} {old new:Array Value} (hroomy:roomy (es.length + ys.length) ei.bytes = true) (hpos:0 < ei.size) (hy0:0 < ys.length)
  (hn:News C w ei.size e ui xv ys.length new) (hv:VRs G w (flat ys) new.toList) (hsy:sized ei.size ys = true) (hse:sized ei.size es = true) (hgrow:sCap < es.length + ys.length)
  (hold:∀ w0:World,w0.heap = w.heap → (Builtin.firstCells ei.size es.length (.slice base es.length sCap)).run C.P w0 = .ok old w0) (hvo:VRs G w (flat es) old.toList)
  {v:AV} (h:fresh mu e ei st (es ++ ys) = (v,st')):ValR C G st w (Builtin.append_ (t :: u :: ts).toArray ty #[.slice base es.length sCap,xv]) v st':=by
 obtain ⟨cap,rest,w',h1,h2,h3,h4,h5,h6,h7⟩:=run_append_new (ts:=ts) (ty:=ty) hC ht hte hu he hroomy hpos hy0 hn hgrow hold
 obtain ⟨G',k1,k2,k3⟩:=fresh_sound hr he hpos (sized_append.2 ⟨hse,hsy⟩) (old:=old) (new:=new) (rest:=rest) (cap:=cap) (by rw [flat_append,Array.toList_append]; exact hvo.append hv) (by simpa using h2) (by simpa using h7) h3 h4 h5 h6 h
 refine ⟨_,w',G',[],h1,k1,k2,?_⟩
 simpa using k3
theorem appendSlice_sound (hC:CtxOk C) (hr:Rel C G st w) {t u e:TypeId} {ti ui ei:TI} {ts:List TypeId} {ty:TypeId} (ht:C.ty t = some ti) (hte:ti.und = .slice e) (hu:C.ty u = some ui) (he:C.ty e = some ei) {mu:Bool}
  {k:SK} {es ys:List AV} {sv xv:Value} {new:Array Value} (hs:VR G w (.slice k es) sv) (hroomy:roomy (es.length + ys.length) ei.bytes = true) (hpos:0 < ei.size) (hy0:0 < ys.length) (hcell:(flat ys).all AV.isCell = true)
  (hn:News C w ei.size e ui xv ys.length new) (hv:VRs G w (flat ys) new.toList) (hsy:sized ei.size ys = true) (hsh:sizedH ei.size es = true) {v:AV}
  (h:appendSl mu st e ei k es ys = some (v,st')):ValR C G st w (Builtin.append_ (t :: u :: ts).toArray ty #[sv,xv]) v st':=by
 unfold appendSl at h
 have hse:=hs.sized hsh
 obtain ⟨_,hel⟩:=elems_sound hr hs hse rfl
 obtain ⟨old,hold,hvo⟩:=hel es.length (Nat.le_refl _)
 rw [List.take_length] at hvo
 have hs':=hs
 cases hs with
 | slice _ _ a cap vals hk hc hv' hz =>
  cases k with
  | open_ => cases h
  | nil =>
   simp only [Option.some.injEq] at h
   exact append_grow hC hr ht hte hu he hroomy hpos hy0 hn hv hsy hse (by rw [hk.2.1]; omega) hold hvo h
  | exact =>
   simp only [Option.some.injEq] at h
   exact append_grow hC hr ht hte hu he hroomy hpos hy0 hn hv hsy hse (by rw [hk.2]; omega) hold hvo h
  | tok tt sz =>
   simp only at h
   split at h
   ·rename_i ho
    split at h
    ·rename_i hcond
     obtain ⟨rfl,rfl⟩:=hcond
     simp only [Option.some.injEq] at h
     obtain ⟨L,hL,k2,k3,k4,k5,k6⟩:=hk
     rcases Nat.lt_or_ge cap (es.length + ys.length) with hg | hg
     ·
      have hw0:=Ok.write (C:=C) (w':=w) hr hL (by rw [ho]; trivial) .dead (fun _ _ => False) (fun _ _ h => h.elim) rfl (fun _ _ => rfl) (fun _ _ => rfl) rfl rfl rfl (fun _ => trivial)
      rw [Gh.addK_none] at hw0
      obtain ⟨q,w',G',ls,e1,e2,e3,e4⟩:=append_grow (ts:=ts) (ty:=ty) hC hw0.rel ht hte hu he hroomy hpos hy0 hn hv hsy hse hg hold hvo h
      exact ⟨q,w',G',ls ++ [tt],e1,(hw0.trans e2).mono (fun l hl => by
       simp only [List.mem_append] at hl ⊢
       exact hl.symm),by rw [e3,List.append_assoc]; rfl,e4⟩
     ·
      have hcap:cap ≠ 0:=by omega
      obtain ⟨o,ha,ho1,ho2⟩:=k6.resolve_left hcap
      cases ha
      simp only [fresh,Bool.false_eq_true,if_false,Prod.mk.injEq] at h
      obtain ⟨rfl,rfl⟩:=h
      have hob:=(hr.obj tt L hL).2.2.2
      rw [ho] at hob
      obtain ⟨c,el,fr,b1,b2,b3,b4,b5⟩:=hob
      have hvl:=hv.length
      have hfl:=flat_length hsy
      have hmul:(es.length + ys.length) * ei.size = es.length * ei.size + ys.length * ei.size:=Nat.add_mul _ _ _
      have hle:=Nat.mul_le_mul_right ei.size hg
      have hfit:L.dl + new.toList.length ≤ c.size:=by omega
      have hst:=run_storeCells_atF C.P L.blk L.dl el fr new.toList 0 c w b1 (by unfold unfrozenFrom at b4; omega) (by simpa using hfit) (isCell_all hv hcell)
      simp only [Nat.add_zero] at hst
      have hrun:=run_append_place (ts:=ts) (ty:=ty) hC ht hte hu he (roomy_mul hroomy) hn hg (base:=some ⟨L.blk,o,none⟩)
      simp only [add_none,ho1] at hrun
      rw [hst] at hrun
      have hblk:=(hr.obj tt L hL).2.1
      have hh:(w.setRow L.blk (c.toList.take L.dl ++ new.toList ++ c.toList.drop (L.dl + new.toList.length)).toArray).heap[L.blk]? = some (.cells (c.toList.take L.dl ++ new.toList ++ c.toList.drop (L.dl + new.toList.length)).toArray el fr):=by
       simp [World.setRow,Array.getElem?_modify,b1]
      have hmv:=Ok.move (C:=C) (w':=w.setRow L.blk (c.toList.take L.dl ++ new.toList ++ c.toList.drop (L.dl + new.toList.length)).toArray) hr hL (by rw [ho]; trivial) .tok ⟨L.blk,L.dl + ys.length * ei.size,L.tot,0⟩ rfl
       (fun b i => b = L.blk ∧ L.dl ≤ i ∧ i < L.dl + ys.length * ei.size) (fun _ _ h => h.1) (by simp [World.setRow]) (fun b hb => by simp [World.setRow,Array.getElem?_modify,Ne.symm hb]) (fun i hi => by
        have hi':i < L.dl:=by
         rcases Nat.lt_or_ge i L.dl with h' | h'
         ·exact h'
         ·exact absurd hi (b5 i h')
        simp only [World.cell?,hh,b1,Option.isSome_none,Bool.false_eq_true,if_false]
        rw [row_get hfit,if_neg (by omega)]) rfl rfl rfl (fun he => ⟨_,el,fr,hh,by rw [row_size hfit]; exact b2,by simp only; omega,by unfold unfrozenFrom at b4 ⊢; simp only; omega,fun i hi hk => by
         rcases hk with hk | hk
         ·exact b5 i (by simp only at hi; omega) hk
         ·simp only at hi; omega⟩)
      refine ⟨_,_,_,[tt],hrun,hmv,rfl,?_⟩
      have hext:=hmv.ext
      have hfe:=flat_length hse
      have hl1:(es ++ ys).length = es.length + ys.length:=List.length_append
      rw [show es.length + ys.length = (es ++ ys).length from hl1.symm]
      refine VR.slice (.tok st.next ei.size) (es ++ ys) _ cap (fun i => if i < es.length * ei.size then vals i else new.toList.getD (i - es.length * ei.size) undef)
       ⟨_,(Gh.addLoc_get:((G.addK _).addLoc st.next _).loc st.next = some _),rfl,by rw [hl1]; exact hg,hpos,fun x hx => ?_,.inr ⟨o,rfl,?_,ho2⟩⟩ (fun i hi => ?_) (fun i hi => ?_) ⟨ei.size,sized_append.2 ⟨hse,hsy⟩⟩
      ·rcases List.mem_append.1 hx with hx | hx
       ·exact sized_mem hse hx
       ·exact sized_mem hsy hx
      ·rw [hl1]; simp only; omega
      ·rw [flat_append,List.length_append] at hi
       simp only
       by_cases hi1:i < es.length * ei.size
       ·rw [if_pos hi1]
        obtain ⟨b',o',e1,e2,e3⟩:=hc i (by omega)
        cases e1
        exact ⟨_,_,rfl,.inl e2,(hext.cell _ _ e2).trans e3⟩
       ·rw [if_neg hi1]
        refine ⟨_,_,rfl,.inr ⟨rfl,by omega,by omega⟩,?_⟩
        simp only [World.cell?,hh,Option.isSome_none,Bool.false_eq_true,if_false]
        rw [row_get hfit,if_pos (by omega),show o + i - L.dl = i - es.length * ei.size by omega,List.getD_eq_getElem?_getD,List.getElem?_eq_getElem (by omega)]
        rfl
      ·rw [flat_append,List.length_append] at hi
       rw [flat_append]
       by_cases hi1:i < es.length * ei.size
       ·rw [if_pos hi1,List.getD_eq_getElem?_getD,List.getElem?_append_left (by omega),← List.getD_eq_getElem?_getD]
        exact (hv' i (by omega)).ext hext
       ·rw [if_neg hi1,List.getD_eq_getElem?_getD,List.getElem?_append_right (by omega),← List.getD_eq_getElem?_getD,hfe]
        exact (hv.get _ (by omega)).ext hext
    ·cases h
   ·cases h
end
end Go.AE

namespace Go.AE
open Go
section
variable {C:Ctx} {G:Gh} {w:World} {st st':St}
theorem appendRow_sound (hC:CtxOk C) (hr:Rel C G st w) {t u e:TypeId} {ti ui ei:TI} {ts:List TypeId} {ty:TypeId} (ht:C.ty t = some ti) (hte:ti.und = .slice e) (hu:C.ty u = some ui) (he:C.ty e = some ei) {mu:Bool}
  {l off len:Nat} {lim:Option Nat} {ys:List AV} {sv xv:Value} {new:Array Value} (hs:VR G w (.row l off len lim) sv) (hroomy:roomy (len + ys.length) ei.bytes = true) (hpos:0 < ei.size) (hy0:0 < ys.length) (hcell:(flat ys).all AV.isCell = true)
  (hn:News C w ei.size e ui xv ys.length new) (hv:VRs G w (flat ys) new.toList) (hsy:sized ei.size ys = true) {v:AV}
  (h:appendRow mu st e ei l off len lim ys = some (v,st')):ValR C G st w (Builtin.append_ (t :: u :: ts).toArray ty #[sv,xv]) v st':=by
 unfold appendRow at h
 split at h
 ·rename_i e' cells full fz ho
  split at h
  ·cases h
  rename_i hee
  simp only [ne_eq,Classical.not_not] at hee
  subst hee
  have hs':=hs
  cases hs with
  | row _ _ _ _ L a cap hL g2 g3 g4 g5 g6 g7 =>
   have hobj:=hr.obj l L hL
   have hob:=hobj.2.2.2
   rw [ho] at hob
   have hob':=hob
   obtain ⟨c,fr,b1,b2,b3,b4,b5,b6,b7,b8,b9⟩:=hob
   have hsz:L.sz = ei.size:=by simp [b7,sizeIs,he]
   rw [hsz] at g5 g7
   have hvl:=hv.length
   have hfl:=flat_length hsy
   have hmul:(len + ys.length) * ei.size = len * ei.size + ys.length * ei.size:=Nat.add_mul _ _ _
   have hny:ei.size ≤ ys.length * ei.size:=by have:=Nat.mul_le_mul_right ei.size hy0; omega
   have room_of:∀ n,n * ei.size ≤ cap * ei.size → n ≤ cap:=fun n hn => Nat.le_of_mul_le_mul_right hn hpos
   have copied:∀ es,rowElems st ei l off len = some es → cap < len + ys.length → some (fresh mu e' ei st (es ++ ys)) = some (v,st') →
     ValR C G st w (Builtin.append_ (t :: u :: ts).toArray ty #[.slice (some a) len cap,xv]) v st':=fun es hes hg h => by
    obtain ⟨_,_,_,_,_,_,_,hlen,hse⟩:=rowElems_flat hes
    obtain ⟨_,hel⟩:=elems_sound (ei:=ei) hr hs' hse hes
    obtain ⟨old,hold,hvo⟩:=hel len (by omega)
    rw [← hlen,List.take_length] at hvo
    simp only [Option.some.injEq] at h
    have:=append_grow (ts:=ts) (ty:=ty) (es:=es) (old:=old) (base:=some a) (sCap:=cap) hC hr ht hte hu he (by rw [hlen]; exact hroomy) hpos hy0 hn hv hsy hse (by rw [hlen]; exact hg) (by rw [hlen]; exact hold) hvo h
    rwa [hlen] at this
   split at h
   ·rename_i hlim
    split at h
    ·
     rename_i hfit
     have hcap:len + ys.length ≤ cap:=by
      rcases limOk_le hlim g6 with hl | hl
      ·have:=g7 hl
       exact room_of _ (by omega)
      ·exact hl
     have ha:=g4.resolve_left (by omega)
     subst ha
     cases hst:sto st l (off + len * ei.size) (flat ys) with
     | none => simp [hst] at h
     | some st1 =>
      simp only [hst,Option.map_some,Option.some.injEq,Prod.mk.injEq] at h
      obtain ⟨rfl,rfl⟩:=h
      obtain ⟨w',ls,h1,h2,h3⟩:=sto_sound hr hL hv hst
      have hrun:=run_append_place (ts:=ts) (ty:=ty) hC ht hte hu he (roomy_mul hroomy) hn hcap (base:=some ⟨L.blk,L.dl + off,none⟩)
      simp only [add_none,Nat.add_assoc] at hrun
      rw [h1] at hrun
      refine ⟨_,w',G,ls,hrun,h2,h3,?_⟩
      exact VR.row l off _ lim L _ cap hL hcap g3 (.inr rfl) (by rw [hsz]; exact g5) g6 (by rw [hsz]; exact g7)
    ·rename_i hnofit
     split at h
     ·
      rename_i hfull
      obtain ⟨d1,d2⟩:=b4 hfull
      cases hes:rowElems st ei l off len with
      | none => simp [hes] at h
      | some es =>
       simp only [hes,Option.map_some] at h
       refine copied es hes ?_ h
       rcases Nat.lt_or_ge cap (len + ys.length) with hg | hg
       ·exact hg
       ·have:=Nat.mul_le_mul_right ei.size hg
        omega
     ·split at h
      ·rename_i hend
       simp only [Option.some.injEq,Prod.mk.injEq] at h
       obtain ⟨rfl,rfl⟩:=h
       obtain ⟨vals,hvc,hat⟩:=mem_at hob'
       have hvcl:=hvc.length
       rcases Nat.lt_or_ge cap (len + ys.length) with hg | hg
       ·
        have hlimn:lim = none:=by
         rcases limOk_le hlim g6 with hl | hl
         ·exact hl
         ·omega
        subst hlimn
        have hdl:(vals.drop off).length = len * ei.size:=by rw [List.length_drop]; omega
        have hold:∀ w0:World,w0.heap = w.heap → (Builtin.firstCells ei.size len (.slice (some a) len cap)).run C.P w0 = .ok (vals.drop off).toArray w0:=fun w0 h0 => by
         rcases g4 with g4 | g4
         ·have hl0:len = 0:=by omega
          subst hl0
          rw [Nat.zero_mul] at hdl
          rw [List.eq_nil_of_length_eq_zero hdl]
          simp only [Builtin.firstCells,Nat.zero_mul]
          rfl
         ·have:=run_loadCells_list (P:=C.P) w0 a _ (atCells_heap h0 (by rw [g4]; exact hat.drop off))
          rw [hdl] at this
          exact this
        obtain ⟨cap',rest,w',h1,h2,h3,h4,h5,h6,h7⟩:=run_append_new (ts:=ts) (ty:=ty) hC ht hte hu he hroomy hpos hy0 hn hg hold
        have hw0:=Ok.write (C:=C) (w':=w) hr hL (by rw [ho]; trivial) .dead (fun _ _ => False) (fun _ _ h => h.elim) rfl (fun _ _ => rfl) (fun _ _ => rfl) rfl rfl rfl (fun _ => trivial)
        rw [Gh.addK_none] at hw0
        have hvn:VRs G w (cells.drop off ++ flat ys) ((vals.drop off).toArray ++ new).toList:=by
         rw [Array.toList_append]
         exact (VRs.drop off hvc).append hv
        have hcsz:((vals.drop off).toArray ++ new ++ rest).size = cap' * ei.size:=by
         have:(cap' - (len + ys.length)) * ei.size = cap' * ei.size - (len + ys.length) * ei.size:=Nat.sub_mul _ _ _
         have h8:=Nat.mul_le_mul_right ei.size h2
         have:new.size = ys.length * ei.size:=by rw [← Array.length_toList,← hvl,hfl]
         rw [Array.size_append,Array.size_append,List.size_toArray,hdl,h7]
         omega
        have hlen2:(cells.drop off ++ flat ys).length = (len + ys.length) * ei.size:=by rw [List.length_append,List.length_drop,hfl]; omega
        have hk:=Ok.push (C:=C) hw0.rel (.cells ((vals.drop off).toArray ++ new ++ rest) e') (.mem e' (cells.drop off ++ flat ys) false (fz - off)) ⟨w.heap.size,0,((vals.drop off).toArray ++ new ++ rest).size,ei.size⟩ rfl fun he' =>
         ⟨_,(0,0),heap_push_new,rfl,by
          simp only [Nat.zero_add]
          rw [hlen2,hcsz]
          exact Nat.mul_le_mul_right _ h2,fun h => (by cases h),(vrs_cells (by
           rw [Array.toList_append,List.take_append_of_le_length (Nat.le_of_eq hvn.length),hvn.length,List.take_length]
           exact hvn)).ext he',Nat.zero_le _,by simp [sizeIs,he],by
          simp only [List.length_append,List.length_drop]; omega,fun o _ hk => by
          have:=hr.kold _ _ (show G.K _ _ from hk)
          simp at this⟩
        have hk2:=(hw0.trans hk).fin h3 h4 h5 h6
        refine ⟨_,w',_,[l] ++ [],h1,hk2,rfl,?_⟩
        exact VR.row st.next 0 _ none _ _ cap' Gh.addLoc_get h2 hpos (.inr rfl) (by simp only; rw [hcsz]; omega) (fun c hc => by cases hc) (fun _ => by simp only; rw [hcsz]; omega)
       ·
        have ha:=g4.resolve_left (by omega)
        subst ha
        have hle:=Nat.mul_le_mul_right ei.size hg
        have hfit:L.dl + cells.length + new.toList.length ≤ c.size:=by omega
        have hst:=run_storeCells_atF C.P L.blk (L.dl + cells.length) e' fr new.toList 0 c w b1 (by unfold unfrozenFrom at b6; omega) (by simpa using hfit) (isCell_all hv hcell)
        simp only [Nat.add_zero] at hst
        have hrun:=run_append_place (ts:=ts) (ty:=ty) hC ht hte hu he (roomy_mul hroomy) hn hg (base:=some ⟨L.blk,L.dl + off,none⟩)
        simp only [add_none,show L.dl + off + len * ei.size = L.dl + cells.length by omega] at hrun
        rw [hst] at hrun
        have hh:(w.setRow L.blk (c.toList.take (L.dl + cells.length) ++ new.toList ++ c.toList.drop (L.dl + cells.length + new.toList.length)).toArray).heap[L.blk]? = some (.cells (c.toList.take (L.dl + cells.length) ++ new.toList ++ c.toList.drop (L.dl + cells.length + new.toList.length)).toArray e' fr):=by
         simp [World.setRow,Array.getElem?_modify,b1]
        have hmv:=Ok.move (C:=C) (w':=w.setRow L.blk (c.toList.take (L.dl + cells.length) ++ new.toList ++ c.toList.drop (L.dl + cells.length + new.toList.length)).toArray) hr hL (by rw [ho]; trivial)
         (.mem e' (cells.drop off ++ flat ys) false (fz - off)) ⟨L.blk,L.dl + off,L.tot,ei.size⟩ rfl (fun _ _ => False) (fun _ _ h => h.elim) (by simp [World.setRow]) (fun b hb => by simp [World.setRow,Array.getElem?_modify,Ne.symm hb]) (fun i hi => by
          have hi':i < L.dl:=by
           rcases Nat.lt_or_ge i L.dl with h' | h'
           ·exact h'
           ·exact absurd hi (b9 i h')
          simp only [World.cell?,hh,b1,Option.isSome_none,Bool.false_eq_true,if_false]
          rw [row_get hfit,if_neg (by omega)]) rfl rfl rfl (fun he' => ⟨_,fr,hh,by rw [row_size hfit]; exact b2,by
           simp only [List.length_append,List.length_drop]; omega,fun h => (by cases h),fun i hi => ?_,by unfold unfrozenFrom at b6 ⊢; simp only; omega,by simp [sizeIs,he],by
           simp only [List.length_append,List.length_drop]; omega,fun o ho hk => by
           rcases hk with hk | hk
           ·exact b9 o (by simp only at ho; omega) hk
           ·exact hk⟩)
        ·refine ⟨_,_,_,[l],hrun,hmv,rfl,?_⟩
         exact VR.row st.next 0 _ lim _ _ cap Gh.addLoc_get hg hpos (.inr rfl) (by simp only; omega) g6 (fun hl => by have:=g7 hl; simp only; omega)
        ·simp only [List.length_append,List.length_drop] at hi
         simp only
         rw [row_get hfit]
         by_cases hi1:i < cells.length - off
         ·rw [if_neg (by omega)]
          obtain ⟨q,e1,e2⟩:=b5 (off + i) (by omega)
          refine ⟨q,by rw [← e1]; congr 1; omega,?_⟩
          rw [List.getD_eq_getElem?_getD,List.getElem?_append_left (by rw [List.length_drop]; exact hi1),List.getElem?_drop,← List.getD_eq_getElem?_getD]
          exact e2.ext he'
         ·rw [if_pos (by omega)]
          have hlt:L.dl + off + i - (L.dl + cells.length) < new.toList.length:=by omega
          refine ⟨new.toList[L.dl + off + i - (L.dl + cells.length)],List.getElem?_eq_getElem hlt,?_⟩
          rw [List.getD_eq_getElem?_getD,List.getElem?_append_right (by rw [List.length_drop]; omega),List.length_drop,← List.getD_eq_getElem?_getD]
          have:=hv.get (i - (cells.length - off)) (by omega)
          rw [List.getD_eq_getElem?_getD (l:=new.toList),List.getElem?_eq_getElem (by omega)] at this
          have e:L.dl + off + i - (L.dl + cells.length) = i - (cells.length - off):=by omega
          simp only [e]
          exact this.ext he'
      ·cases h
   ·
    rename_i hlim
    have hg:cap < len + ys.length:=by
     cases lim with
     | none => simp [limOk] at hlim
     | some c0 =>
      simp only [limOk,decide_eq_true_eq] at hlim
      rw [g6 c0 rfl]; omega
    cases hes:rowElems st ei l off len with
    | none => simp [hes] at h
    | some es =>
     simp only [hes,Option.map_some] at h
     exact copied es hes hg h
 ·cases h
end
end Go.AE
