/- An abstract interpreter over a loaded program and its soundness against the model, part 3: for every context that fits the program. -/
import Derived.Test.YtdlahjpoiichkaaGreatDoorE2
import Derived.Defers
set_option linter.unusedVariables false
set_option linter.unusedSimpArgs false
set_option linter.unusedSectionVars false
namespace Go.AE
open Go
section
variable {C:Ctx} {G:Gh} {w:World} {st st':St}
theorem appendA_sound (hC:CtxOk C) (hr:Rel C G st w) {t u e:TypeId} {ti ui ei:TI} {ts:List TypeId} {ty:TypeId} (ht:C.ty t = some ti) (hte:ti.und = .slice e) (hu:C.ty u = some ui) (he:C.ty e = some ei) {mu:Bool}
  {s:AV} {ys:List AV} {sv xv:Value} {new:Array Value} (hs:VR G w s sv) (hn:News C w ei.size e ui xv ys.length new) (hv:VRs G w (flat ys) new.toList) {v:AV}
  (h:appendA mu st e ei s ys = some (v,st')):ValR C G st w (Builtin.append_ (t :: u :: ts).toArray ty #[sv,xv]) v st':=by
 unfold appendA at h
 split at h
 ·have hnew:new = #[]:=by
   have:=hv.length
   simp [flat] at this
   exact Array.eq_empty_of_size_eq_zero this.symm
  split at h
  ·cases h
   obtain ⟨a,cap,rfl,hle⟩:=slice_parts hs
   exact append_none hC hr ht hte hu he hs hle hn hnew
  ·cases h
   have hs':=hs
   cases hs with
   | row _ _ _ _ L a cap hL g2 g3 g4 g5 g6 g7 => exact append_none hC hr ht hte hu he hs' g2 hn hnew
  ·cases h
 ·rename_i y ys
  split at h
  ·rename_i hcond
   obtain ⟨hsy,hpos,hcell⟩:=hcond
   split at h
   ·rename_i k es
    split at h
    ·rename_i hc2
     exact appendSlice_sound hC hr ht hte hu he hs hc2.2 hpos (by simp) hcell hn hv hsy hc2.1 h
    ·cases h
   ·split at h
    ·rename_i hc2
     exact appendRow_sound hC hr ht hte hu he hs hc2 hpos (by simp) hcell hn hv hsy h
    ·cases h
   ·cases h
  ·cases h
theorem builtinAppend_sound (hC:CtxOk C) (hr:Rel C G st w) {mu:Bool} {t u:TypeId} {ts:List TypeId} {ty:TypeId} {s x:AV} {sv xv:Value} (hs:VR G w s sv) (hx:VR G w x xv) {v:AV}
  (h:builtinAppend C mu st t u s x = some (v,st')):ValR C G st w (Builtin.append_ (t :: u :: ts).toArray ty #[sv,xv]) v st':=by
 unfold builtinAppend at h
 split at h
 ·rename_i e ei ui het hu
  obtain ⟨ti,ht,hte,he⟩:=elemTI_ctx het
  split at h
  ·rename_i k hk
   split at h
   ·rename_i n hnx
    split at h
    ·rename_i hn
     obtain ⟨k',rfl⟩:=natOf_sound hx hnx
     obtain ⟨z,hz1,hz2,hz3,_⟩:=run_zero (w:=w) hC he
     have hzv:∀ w0:World,(zeroValue e).run C.P w0 = .ok z w0:=fun w0 => by
      obtain ⟨i,zz,j1,j2,j3,j4,j5,_⟩:=zero_sound hC he
      have:(zeroValue e).run C.P w = .ok zz w:=by simp [zeroValue,typeInfo,j1,j4]
      rw [hz1] at this
      cases this
      simp [zeroValue,typeInfo,j1,j4]
     have hzs:=zeros_sound (hz3 G w) n (n * ei.size) (by rw [zero_length hC he])
     refine appendA_sound (new:=if n * ei.size = 0 then #[] else Builtin.zeroCells z.cells n) hC hr ht hte hu he hs ⟨.inr ⟨k,k',z,hk,by simp,by simpa using hn,hzv,by simp⟩⟩ ?_ h
     by_cases h0:n * ei.size = 0
     ·rw [if_pos h0]
      have:(flat (List.replicate n ei.zeroV)) = []:=List.eq_nil_of_length_eq_zero (by rw [flat_replicate_length,zero_length hC he,h0])
      rw [this]
      trivial
     ·rw [if_neg h0]
      unfold Builtin.zeroCells
      rw [hz2]
      rw [hz2] at hzs
      exact hzs
    ·cases h
   ·cases h
  ·rename_i hnk
   cases hes:elemsOf st ei x with
   | none => simp [hes] at h
   | some ys =>
    simp only [hes,Option.bind_some] at h
    have hsy:sized ei.size ys = true:=by
     cases ys with
     | nil => rfl
     | cons y ys =>
      simp only [appendA] at h
      split at h
      ·rename_i hc; exact hc.1
      ·cases h
    obtain ⟨e1,e2⟩:=elems_sound hr hx hsy hes
    obtain ⟨new,e3,e4⟩:=e2 ys.length (Nat.le_refl _)
    rw [List.take_length] at e4
    exact appendA_sound hC hr ht hte hu he hs ⟨.inl ⟨hnk,e1,e3⟩⟩ e4 h
 ·cases h
theorem row_sto {l off len:Nat} {lim:Option Nat} {a:Option Addr} {n cap:Nat} (hs:VR G w (.row l off len lim) (.slice a n cap)) (hr:Rel C G st w) {new:List AV} {vs:List Value} (hv:VRs G w new vs) (h:sto st l off new = some st') (hne:len = 0 → new = []) :
  ∃ b,a = some b ∧ ∃ w' ls,(storeCells b vs).run C.P w = .ok () w' ∧ Ok C G st w ls G st' w' ∧ st'.log = ls ++ st.log:=by
 cases hs with
 | row _ _ _ _ L b cap hL g2 g3 g4 g5 g6 g7 =>
  refine ⟨b,rfl,?_⟩
  rcases g4 with g4 | rfl
  ·have:=hne (by omega)
   subst this
   have:=hv.length
   have:vs = []:=List.eq_nil_of_length_eq_zero (by simpa using this.symm)
   subst this
   simp only [sto,Option.some.injEq] at h
   subst h
   exact ⟨w,[],rfl,Ok.refl hr,rfl⟩
  ·exact sto_sound hr hL hv h
theorem sized_of_head {size:Nat} {ys:List AV} {n:Nat} (hn:0 < n) (h:sizedH size (ys.take n) = true):sizedH size ys = true:=by
 cases ys with
 | nil => rfl
 | cons y ys =>
  cases n with
  | zero => omega
  | succ n => simpa [sizedH] using h
theorem elems_take (hr:Rel C G st w) {ei:TI} {x:AV} {u:Value} {ys:List AV} (hx:VR G w x u) (h:elemsOf st ei x = some ys) {n:Nat} (hn:n ≤ ys.length) (hs:sizedH ei.size (ys.take n) = true) :
  (∀ w0,(Builtin.lenOf u).run C.P w0 = .ok ys.length w0) ∧ ∃ cs:Array Value,(Builtin.firstCells ei.size n u).run C.P w = .ok cs w ∧ VRs G w (flat (ys.take n)) cs.toList:=by
 have hx0:=hx
 have key:sized ei.size ys = true → (∀ w0,(Builtin.lenOf u).run C.P w0 = .ok ys.length w0) ∧ ∃ cs:Array Value,(Builtin.firstCells ei.size n u).run C.P w = .ok cs w ∧ VRs G w (flat (ys.take n)) cs.toList:=fun hsz => by
  obtain ⟨e1,e2⟩:=elems_sound hr hx hsz h
  obtain ⟨cs,e3,e4⟩:=e2 n hn
  exact ⟨e1,cs,e3 w rfl,e4⟩
 unfold elemsOf at h
 split at h
 ·rename_i k es
  cases h
  rcases Nat.eq_zero_or_pos n with h0 | h0
  ·subst h0
   cases hx0 with
   | slice _ _ a cap vals hk hc hv hz =>
    refine ⟨fun _ => rfl,#[],?_,trivial⟩
    cases a with
    | none => rfl
    | some a => simp only [Builtin.firstCells,Nat.zero_mul]; rfl
  ·exact key (hx.sized (sized_of_head h0 hs))
 ·obtain ⟨_,_,_,_,_,_,_,_,h5⟩:=rowElems_flat h
  exact key h5
 ·rename_i s
  cases h
  rcases Nat.eq_zero_or_pos n with h0 | h0
  ·subst h0
   cases hx0 with
   | str bs =>
    refine ⟨fun w0 => ?_,(bs.extract 0 0).data.map fun b => .int .u8 b.toNat,rfl,?_⟩
    ·simp only [Builtin.lenOf,Sem.run_pure,List.length_map,Array.length_toList]; rfl
    ·simp [ByteArray.data_extract,flat,VRs]
  ·refine key ?_
   cases s with
   | nil => rfl
   | cons b s =>
    have:=sized_of_head h0 hs
    simp only [List.map_cons,sizedH,AV.cells,List.length_singleton,beq_iff_eq] at this
    rw [← this]
    simp [sized,AV.cells]
 ·cases h
theorem builtinCopy_sound (hC:CtxOk C) (hr:Rel C G st w) {t:TypeId} {ts:List TypeId} {ty:TypeId} {d s:AV} {dv sv:Value} (hd:VR G w d dv) (hs:VR G w s sv) {v:AV}
  (h:builtinCopy C st t d s = some (v,st')):ValR C G st w (Builtin.copy_ (t :: ts).toArray ty #[dv,sv]) v st':=by
 unfold builtinCopy at h
 split at h
 ·rename_i e ei het
  obtain ⟨ti,ht,hte,he⟩:=elemTI_ctx het
  have hu:(underlying t).run C.P w = .ok (.slice e) w:=by rw [run_und hC ht,hte]
  have hsz:=run_size (w:=w) hC he
  split at h
  ·rename_i ys l off len lim hes
   split at h
   ·rename_i hc
    obtain ⟨hsh,hpos⟩:=hc
    cases hst:sto st l off (flat (ys.take len)) with
    | none => simp [hst] at h
    | some st1 =>
     simp only [hst,Option.map_some,Option.some.injEq,Prod.mk.injEq] at h
     obtain ⟨rfl,rfl⟩:=h
     have htk:ys.take (Nat.min ys.length len) = ys.take len:=by
      show ys.take (min ys.length len) = _
      rcases Nat.le_total ys.length len with hl | hl
      ·rw [Nat.min_eq_left hl,List.take_length,List.take_of_length_le hl]
      ·rw [Nat.min_eq_right hl]
     obtain ⟨e1,cs,e2,e3⟩:=elems_take (n:=Nat.min ys.length len) hr hs hes (Nat.min_le_left _ _) (by rw [htk]; exact hsh)
     rw [htk] at e3
     have hd0:=hd
     cases hd with
     | row _ _ _ _ L a cap hL g2 g3 g4 g5 g6 g7 =>
      obtain ⟨b,hb,w',ls,h1,h2,h3⟩:=row_sto hd0 hr e3 hst (fun h0 => by subst h0; rfl)
      cases hb
      refine ⟨goInt (Nat.min ys.length len),w',G,ls,?_,h2,h3,?_⟩
      ·simp [Builtin.copy_,hu,hsz,e1 w,e2,h1]
      ·have:(ys.take len).length = Nat.min ys.length len:=by rw [← htk,List.length_take,Nat.min_eq_left (Nat.min_le_left _ _)]
       rw [this]
       exact vr_goI _
   ·cases h
  ·rename_i ys k es hes
   split at h
   ·rename_i hc
    simp only [Option.some.injEq,Prod.mk.injEq] at h
    obtain ⟨rfl,rfl⟩:=h
    obtain ⟨a,cap,rfl,hle⟩:=slice_parts hd
    have h0:Nat.min ys.length es.length = 0:=by
     rcases hc with rfl | rfl
     ·exact Nat.zero_min _
     ·exact Nat.min_zero _
    obtain ⟨e1,cs,e2,e3⟩:=elems_take (n:=0) hr hs hes (Nat.zero_le _) rfl
    have hcs:cs = #[]:=by
     have:=e3.length
     simp [flat] at this
     exact Array.eq_empty_of_size_eq_zero this.symm
    subst hcs
    refine ValR.quiet hr ⟨goInt 0,?_,vr_goI 0⟩
    cases a <;> simp [Builtin.copy_,hu,hsz,e1 w,h0,e2,storeCells]
   ·cases h
  ·cases h
 ·cases h
theorem builtinClear_sound (hC:CtxOk C) (hr:Rel C G st w) {t:TypeId} {ts:List TypeId} {ty:TypeId} {x:AV} {u:Value} (hx:VR G w x u) {v:AV} (h:builtinClear C st t x = some (v,st')) :
  ValR C G st w (Builtin.clear_ (t :: ts).toArray ty #[u]) v st':=by
 unfold builtinClear at h
 cases ht:C.ty t with
 | none => simp [ht] at h
 | some ti =>
  simp only [ht] at h
  have hu:(underlying t).run C.P w = .ok ti.und w:=run_und hC ht
  split at h
  ·rename_i hund
   cases h
   rw [hund] at hu
   cases hx
   exact ValR.quiet hr ⟨undef,by simp [Builtin.clear_,hu,undef],VR.undef⟩
  ·rename_i k e l hund
   rw [hund] at hu
   cases hx with
   | map _ L hL =>
    split at h
    ·rename_i es cl ho
     cases h
     have hob:=(hr.obj l L hL).2.2.2
     have hlt:=(hr.obj l L hL).2.1
     rw [ho] at hob
     obtain ⟨res,h1,h2⟩:=hob
     have hg:=run_getObj (C:=C) h1 (fun _ _ _ => by simp)
     have hk:=Ok.write (C:=C) (w':={ w with heap:=w.heap.setIfInBounds L.blk (.map #[] cl) }) hr hL (by rw [ho]; trivial) (.amap [] cl) (fun _ _ => False) (fun _ _ h => h.elim)
      (by simp) (fun b hb => by simp [Array.getElem?_setIfInBounds,Ne.symm hb]) (fun i _ => by rw [World.cell?,World.cell?,h1,Array.getElem?_setIfInBounds_self_of_lt hlt]) rfl rfl rfl (fun he => ⟨#[],by simp [hlt],[],.refl _,trivial,rfl⟩)
     rw [Gh.addK_none] at hk
     refine ⟨undef,_,G,[l],?_,hk,rfl,VR.undef⟩
     simp [Builtin.clear_,hu,hg,run_setObj _ h1 (fun _ _ _ => by simp),undef]
    ·cases h
  ·rename_i e k hund
   cases h
   rw [hund] at hu
   obtain ⟨a,cap,rfl,hle⟩:=slice_parts hx
   refine ValR.quiet hr ⟨undef,?_,VR.undef⟩
   cases a <;> simp [Builtin.clear_,hu,undef]
  ·rename_i e l off len lim hund
   rw [hund] at hu
   cases he:C.ty e with
   | none => simp [he] at h
   | some ei =>
    simp only [he] at h
    cases hst:sto st l off (flat (List.replicate len ei.zeroV)) with
    | none => simp [hst] at h
    | some st1 =>
     simp only [hst,Option.map_some,Option.some.injEq,Prod.mk.injEq] at h
     obtain ⟨rfl,rfl⟩:=h
     obtain ⟨z,hz1,hz2,hz3,_⟩:=run_zero (w:=w) hC he
     have hzs:=zeros_sound (hz3 G w) len (len * ei.size) (by rw [zero_length hC he])
     have hzc:VRs G w (flat (List.replicate len ei.zeroV)) (Builtin.zeroCells z.cells len).toList:=by
      unfold Builtin.zeroCells
      rw [hz2]
      rw [hz2] at hzs
      exact hzs
     have hx0:=hx
     cases hx with
     | row _ _ _ _ L a cap hL g2 g3 g4 g5 g6 g7 =>
      obtain ⟨b,hb,w',ls,h1,h2,h3⟩:=row_sto hx0 hr hzc hst (fun h0 => by subst h0; rfl)
      cases hb
      refine ⟨undef,w',G,ls,?_,h2,h3,VR.undef⟩
      cases len with
      | zero =>
       have:(Builtin.zeroCells z.cells 0) = #[]:=by simp [Builtin.zeroCells]
       rw [this] at h1
       cases h1
       simp [Builtin.clear_,hu,undef]
      | succ n => simp [Builtin.clear_,hu,hz1,h1,undef]
  ·cases h
end
end Go.AE

namespace Go.AE
open Go
section
variable {C:Ctx} {G:Gh} {w:World} {st st':St}
theorem liesAt_off {P:Program} {e:TypeId} (hc:P.cellsOf e = 1) (count off n:Nat) (hn:off + n ≤ count):liesAt P P.depth e count off e n = true:=by
 have hd:P.depth = (2 * (P.types.size + Made.depth) + 1) + 1:=rfl
 rw [hd]
 simp only [liesAt,Bool.or_eq_true]
 left
 rw [hd]
 simp [rowAt,hc,hn,sameLayout,Nat.mod_one]
theorem bytes_u8 (l:List Nat) (h:∀ n ∈ l,n < 256):l.map (fun n => Value.int .u8 (.ofNat n)) = (l.map UInt8.ofNat).map fun b => Value.int .u8 (b.toNat:Int):=by
 rw [List.map_map]
 refine List.map_congr_left fun n hn => ?_
 have:=h n hn
 simp [UInt8.toNat_ofNat,Nat.mod_eq_of_lt this]
theorem unsafeStr_sound (hC:CtxOk C) (hr:Rel C G st w) {t:TypeId} {ts:List TypeId} {ty:TypeId} {p x:AV} {pv xv:Value} (hp:VR G w p pv) (hx:VR G w x xv) {n:Nat} (hn:natOf x = some n) {v:AV}
  (h:unsafeStr C st t p n = some (v,st')):ValR C G st w (Builtin.unsafeString_ (t :: ts).toArray ty #[pv,xv]) v st':=by
 obtain ⟨k,rfl⟩:=natOf_sound hx hn
 have ha:∀ q:Nat,(asInt (Value.int k (.ofNat q))).run C.P w = .ok (q:Int) w:=fun _ => rfl
 have zero:∀ q:Option Addr,n = 0 → (Builtin.unsafeString_ (t :: ts).toArray ty #[.pointer q,.int k (.ofNat n)]).run C.P w = .ok (.string .empty) w:=fun q h0 => by
  subst h0
  cases q with
  | none =>
   rw [show Builtin.unsafeString_ (t :: ts).toArray ty #[.pointer none,.int k (.ofNat 0)] = Bind.bind (asInt (.int k (.ofNat 0))) _ from rfl]
   simp only [Sem.run_bind,ha,Result.andThen_ok]
   simp [IntKind.max,IntKind.bits,IntKind.signed]
  | some a =>
   rw [show Builtin.unsafeString_ (t :: ts).toArray ty #[.pointer (some a),.int k (.ofNat 0)] = Bind.bind (asInt (.int k (.ofNat 0))) _ from rfl]
   simp only [Sem.run_bind,ha,Result.andThen_ok]
   simp [IntKind.max,IntKind.bits,IntKind.signed]
 unfold unsafeStr at h
 split at h
 ·split at h
  ·rename_i h0
   cases h
   cases hp
   exact ValR.quiet hr ⟨_,zero none h0,str_mk _ _ _ _ rfl⟩
  ·cases h
 ·rename_i l off
  split at h
  ·rename_i h0
   cases h
   cases hp
   exact ValR.quiet hr ⟨_,zero _ h0,str_mk _ _ _ _ rfl⟩
  ·rename_i h0
   split at h
   ·rename_i u s b a z pl e cells full fz heq ho
    split at h
    ·rename_i s2 b2 z2 p2 heq2
     split at h
     ·rename_i hc
      obtain ⟨rfl,hlen,hbig⟩:=hc
      cases hby:bytesOf? ((cells.drop off).take n) with
      | none => simp [hby] at h
      | some l8 =>
       simp only [hby,Option.map_some,Option.some.injEq,Prod.mk.injEq] at h
       obtain ⟨rfl,rfl⟩:=h
       obtain ⟨f1,f2,f3⟩:=flat_bytes hby
       cases hp with
       | ptr _ _ L hL =>
        have hob:=(hr.obj _ L hL).2.2.2
        have hlt:=(hr.obj _ L hL).2.1
        rw [ho] at hob
        have hsh:=mem_shape hob
        obtain ⟨vals,hvc,hat⟩:=mem_at hob
        obtain ⟨c,fr,b1,b2,b3,b4,b5,b6,b7,b8,b9⟩:=hob
        have hvs:=VRs.take n (VRs.drop off hvc)
        rw [f2] at hvs
        have hvals:=bytes_vals hvs
        have hl8:l8.length = n:=by
         have:=congrArg List.length f2
         simp at this; omega
        have hat2:=(hat.drop off).take n
        rw [hvals,bytes_u8 l8 f3] at hat2
        have hcells:C.P.cellsOf e = 1:=by
         obtain ⟨i,hi,hi2,_⟩:=hC.info e _ heq2
         simp [Program.cellsOf,hi,hi2]
        have hlb:=Lib.run_loadBytes (P:=C.P) w (l8.map UInt8.ofNat) ⟨L.blk,L.dl + off,none⟩ .empty (fun j x hj => hat2 j _ (by rw [List.getElem?_map,hj]; rfl))
        have hlies:=liesAt_off (P:=C.P) hcells (L.tot / C.P.cellsOf e) (L.dl + off) n (by rw [hcells,Nat.div_one]; omega)
        have hpt:(elemOf t).run C.P w = .ok e w:=by simp [elemOf,run_und hC heq]
        have hneg:¬ ((n:Int) < 0):=by omega
        have hmax:¬ ((9223372036854775807:Int) < (n:Int)):=by omega
        have hmax':IntKind.i64.max = 9223372036854775807:=rfl
        have hrun:(Builtin.unsafeString_ (t :: ts).toArray ty #[.pointer (some ⟨L.blk,L.dl + off,none⟩),.int k (.ofNat n)]).run C.P w = .ok (.string ⟨(l8.map UInt8.ofNat).toArray⟩) (w.freeze ⟨L.blk,L.dl + off,none⟩ n):=by
         rw [show Builtin.unsafeString_ (t :: ts).toArray ty #[.pointer (some ⟨L.blk,L.dl + off,none⟩),.int k (.ofNat n)] = Bind.bind (asInt (.int k (.ofNat n))) _ from rfl]
         rw [List.length_map,hl8] at hlb
         simp only [Sem.run_bind,ha,Result.andThen_ok]
         simp [hneg,hmax,hmax',h0,hpt,variablesAt,hsh,hlies,hlb]
        have hsize:(w.freeze ⟨L.blk,L.dl + off,none⟩ n).heap.size = w.heap.size:=by unfold World.freeze; rw [if_neg h0]; simp
        have hother:∀ b,b ≠ L.blk → (w.freeze ⟨L.blk,L.dl + off,none⟩ n).heap[b]? = w.heap[b]?:=fun b hb => by unfold World.freeze; rw [if_neg h0]; simp [Array.getElem?_modify,Ne.symm hb]
        have hfz:∃ q,(w.freeze ⟨L.blk,L.dl + off,none⟩ n).heap[L.blk]? = some (.cells c e q) ∧ q.2 ≤ L.dl + max fz (off + n):=by
         obtain ⟨lo,hi⟩:=fr
         refine ⟨if lo == hi then (L.dl + off,L.dl + off + n) else (min lo (L.dl + off),max hi (L.dl + off + n)),by unfold World.freeze; rw [if_neg h0]; simp [Array.getElem?_modify,b1],?_⟩
         unfold unfrozenFrom at b6
         simp only at b6
         split <;> simp only <;> omega
        obtain ⟨q,hq1,hq2⟩:=hfz
        have hk:=Ok.write (C:=C) (w':=w.freeze ⟨L.blk,L.dl + off,none⟩ n) hr hL (by rw [ho]; trivial) (.mem e cells full (max fz (off + n))) (fun _ _ => False) (fun _ _ h => h.elim)
         hsize hother (fun i _ => by simp only [World.cell?,hq1,b1]) (by unfold World.freeze; rw [if_neg h0]) (by unfold World.freeze; rw [if_neg h0]) (by unfold World.freeze; rw [if_neg h0])
         (fun he => ⟨c,q,hq1,b2,b3,b4,b5.ext he,hq2,b7,by omega,fun o ho hk => by
          rcases hk with hk | hk
          ·exact b9 o ho hk
          ·exact hk⟩)
        rw [Gh.addK_none] at hk
        exact ⟨_,_,G,[l],hrun,hk,rfl,str_mk _ _ _ _ (by simpa using bytes_str l8 f3)⟩
     ·cases h
    ·cases h
   ·cases h
 ·cases h
theorem freezeV_sound (hC:CtxOk C) (hr:Rel C G st w) {x v:AV} {u:Value} (hx:VR G w x u) (h:freezeV C st x = some (v,st')):∃ G' ls,Ok C G st w ls G' st' w ∧ st'.log = ls ++ st.log ∧ VR G' w v u:=by
 unfold freezeV at h
 split at h
 ·rename_i l off len lim
  split at h
  ·rename_i e cells full fz ho
   cases he:C.ty e with
   | none => simp [he] at h
   | some ei =>
    simp only [he] at h
    cases hes:rowElems st ei l off len with
    | none => simp [hes] at h
    | some es =>
     simp only [hes,Option.map_some,Option.some.injEq,Prod.mk.injEq] at h
     obtain ⟨rfl,rfl⟩:=h
     obtain ⟨e',cells',full',fz',ho',h1,h2,h3,h4⟩:=rowElems_flat hes
     rw [ho] at ho'
     cases ho'
     cases hx with
     | row _ _ _ _ L a cap hL g2 g3 g4 g5 g6 g7 =>
      have hob:=(hr.obj l L hL).2.2.2
      rw [ho] at hob
      have hk:=Ok.write (C:=C) (w':=w) hr hL (by rw [ho]; trivial) .dead (fun b _ => b = L.blk) (fun _ _ h => h) rfl (fun _ _ => rfl) (fun _ _ => rfl) rfl rfl rfl (fun _ => trivial)
      refine ⟨_,[l],hk,rfl,?_⟩
      obtain ⟨vals,hvc,hat⟩:=mem_at hob
      have hvs:=VRs.take (len * ei.size) (VRs.drop off hvc)
      have hat2:=(hat.drop off).take (len * ei.size)
      rw [← h1] at hvs
      have hvl:=hvs.length
      subst h3
      refine VR.slice _ es (some a) cap (fun i => ((vals.drop off).take (es.length * ei.size)).getD i undef) ?_ (fun i hi => ?_) (fun i hi => (hvs.get i hi).ext hk.ext) ⟨_,h4⟩
      ·split
       ·rename_i hl
        exact ⟨rfl,g6 _ hl⟩
       ·exact ⟨rfl,g2⟩
      ·have hlen:0 < es.length:=by
        rcases Nat.eq_zero_or_pos es.length with h | h
        ·rw [List.eq_nil_of_length_eq_zero h] at hi; simp [flat] at hi
        ·exact h
       have ha:=g4.resolve_left (by omega)
       subst ha
       refine ⟨_,_,rfl,.inr rfl,?_⟩
       have hlt:i < ((vals.drop off).take (es.length * ei.size)).length:=by omega
       have:=hat2 i _ (List.getElem?_eq_getElem hlt)
       rw [add_none] at this
       rw [this]
       simp only
       rw [List.getD_eq_getElem?_getD,List.getElem?_eq_getElem hlt]
       rfl
  ·cases h
 ·cases h
  exact ⟨G,[],Ok.refl hr,rfl,hx⟩
theorem freezeVs_sound (hC:CtxOk C):∀ {xs vs:List AV} {us:List Value} {G:Gh} {st st':St},Rel C G st w → VRs G w xs us → freezeVs C st xs = some (vs,st') → ∃ G' ls,Ok C G st w ls G' st' w ∧ st'.log = ls ++ st.log ∧ VRs G' w vs us
 | [],vs,[],G,st,st',hr,_,h => by
  simp only [freezeVs,Option.some.injEq,Prod.mk.injEq] at h
  obtain ⟨rfl,rfl⟩:=h
  exact ⟨G,[],Ok.refl hr,rfl,trivial⟩
 | x :: xs,vs,u :: us,G,st,st',hr,hx,h => by
  simp only [freezeVs] at h
  split at h
  ·rename_i v st1 h1
   split at h
   ·rename_i r st2 h2
    cases h
    obtain ⟨G1,l1,a1,a2,a3⟩:=freezeV_sound hC hr hx.1 h1
    obtain ⟨G2,l2,b1,b2,b3⟩:=freezeVs_sound hC a1.rel (hx.2.ext a1.ext) h2
    exact ⟨G2,l2 ++ l1,(a1.trans b1).mono (fun l hl => by simp only [List.mem_append] at hl ⊢; exact hl.symm),by rw [b2,a2,List.append_assoc],a3.ext b1.ext,b3⟩
   ·cases h
  ·cases h
theorem freezeR_sound (hC:CtxOk C) (hr:Rel C G st w) {x v:AV} {u:Value} (hx:VR G w x u) (h:freezeR C st x = some (v,st')):∃ G' ls,Ok C G st w ls G' st' w ∧ st'.log = ls ++ st.log ∧ VR G' w v u:=by
 unfold freezeR at h
 split at h
 ·rename_i xs
  cases hf:freezeVs C st xs with
  | none => simp [hf] at h
  | some r =>
   simp only [hf,Option.map_some,Option.some.injEq,Prod.mk.injEq] at h
   obtain ⟨rfl,rfl⟩:=h
   cases hx with
   | tuple _ vs h1 h2 =>
    obtain ⟨G',ls,a1,a2,a3⟩:=freezeVs_sound hC hr (VRs.of_array h1 h2) hf
    exact ⟨G',ls,a1,a2,VR.mkTuple a3⟩
 ·rename_i xs
  cases hf:freezeVs C st xs with
  | none => simp [hf] at h
  | some r =>
   simp only [hf,Option.map_some,Option.some.injEq,Prod.mk.injEq] at h
   obtain ⟨rfl,rfl⟩:=h
   cases hx with
   | agg _ vs h1 h2 =>
    obtain ⟨G',ls,a1,a2,a3⟩:=freezeVs_sound hC hr (VRs.of_array h1 h2) hf
    exact ⟨G',ls,a1,a2,VR.mkAgg a3⟩
 ·exact freezeV_sound hC hr hx h
end
end Go.AE

namespace Go.AE
open Go
def DefRel (G:Gh) (w:World) (d:ADef) (dd:Deferred):Prop :=
 match d.fn with
 | some f => ∃ cap,dd.target = .fn (.func f) cap ∧ VRs G w d.args (dd.args ++ cap).toList
 | none => ∃ L,G.loc d.at_ = some L ∧ dd.target = .collected L.blk
theorem DefRel.ext {G G':Gh} {w w':World} (h:Ext G w G' w') {d:ADef} {dd:Deferred} (k:DefRel G w d dd):DefRel G' w' d dd:=by
 unfold DefRel at k ⊢
 split at k
 ·obtain ⟨cap,h1,h2⟩:=k
  simp only [*]
  exact ⟨cap,rfl,h2.ext h⟩
 ·obtain ⟨L,h1,h2⟩:=k
  simp only [*]
  exact ⟨L,h.loc _ _ h1,rfl⟩
def Gives (fr:Fr) (n:Next) (u:Value):Prop:=n = .value u ∨ (n = .skip ∧ u = Go.undef) ∨ (n = .recover ∧ fr.pv = none ∧ u = .nilIface)
def OprR (C:Ctx) (G:Gh) (st:St) (w:World) (ro:Bool) (fr:Fr) (s:Sem Next):OPR → Prop
 | .val v st' => ∃ n u w' G' ls,s.run C.P w = .ok n w' ∧ Gives fr n u ∧ (n = .recover → ro = false) ∧ Ok C G st w ls G' st' w' ∧ st'.log = ls ++ st.log ∧ VR G' w' v u
 | .pan v st' => st' = st ∧ ∃ u,s.run C.P w = .halt (.panic u) w ∧ VR G w v u
 | .dfr d st' => st' = st ∧ ro = false ∧ ∃ dd,s.run C.P w = .ok (.defer dd) w ∧ DefRel G w d dd
 | .rcv => s.run C.P w = .ok .recover w ∧ ro = false
section
variable {C:Ctx} {G:Gh} {w:World} {st:St} {ro:Bool}
theorem ValR.opr {fr:Fr} {s:Sem Value} {v:AV} {st':St} (h:ValR C G st w s v st'):OprR C G st w ro fr (do pure (.value (← s))) (.val v st'):=by
 obtain ⟨u,w',G',ls,h1,h2,h3,h4⟩:=h
 exact ⟨.value u,u,w',G',ls,by simp [h1],.inl rfl,(by simp),h2,h3,h4⟩
theorem UnitR.opr {fr:Fr} {s:Sem Unit} {st':St} (h:UnitR C G st w s st'):OprR C G st w ro fr (do s; pure .skip) (.val undefA st'):=by
 obtain ⟨w',G',ls,h1,h2,h3⟩:=h
 exact ⟨.skip,Go.undef,w',G',ls,by simp [h1],.inr (.inl ⟨rfl,rfl⟩),(by simp),h2,h3,VR.undef⟩
theorem quiet_opr (hr:Rel C G st w) {fr:Fr} {s:Sem Value} {v:AV} (h:∃ u,s.run C.P w = .ok u w ∧ VR G w v u):OprR C G st w ro fr (do pure (.value (← s))) (.val v st):=(ValR.quiet hr h).opr
theorem ov_opr (hr:Rel C G st w) {fr:Fr} {s:Sem Value} {r:Option AV} {q:OPR} (hq:ov st r = some q) (h:∀ v,r = some v → ∃ u,s.run C.P w = .ok u w ∧ VR G w v u):OprR C G st w ro fr (do pure (.value (← s))) q:=by
 cases r with
 | none => cases hq
 | some v => cases hq; exact quiet_opr hr (h v rfl)
theorem ovs_opr {fr:Fr} {s:Sem Value} {r:Option (AV × St)} {q:OPR} (hq:ovs r = some q) (h:∀ v st',r = some (v,st') → ValR C G st w s v st'):OprR C G st w ro fr (do pure (.value (← s))) q:=by
 cases r with
 | none => cases hq
 | some x => obtain ⟨v,st'⟩:=x; cases hq; exact (h v st' rfl).opr
theorem builtin_shape {ρ:Operand → Value} {o:Oper} {c:Call} {b:Builtin} (ho:o.op = .call c) (hc:c.callee = .builtin b) :
  ∃ consts,∀ w,(execOp ρ o).run C.P w = (builtin b c.argTypes o.type consts (c.args.map ρ)).run C.P w :=
 ⟨_,fun w => by simp only [execOp,ho,Sem.run_bind,resolve,hc,Sem.run_pure,Result.andThen_ok,invoke]; rfl⟩
theorem arr2 {α:Type} {xs:Array α} {a b:α} (h:xs.toList = [a,b]):xs = #[a,b]:=by
 apply Array.ext'; simpa using h
theorem arr1 {α:Type} {xs:Array α} {a:α} (h:xs.toList = [a]):xs = #[a]:=by
 apply Array.ext'; simpa using h
theorem builtinA_sound (hC:CtxOk C) (hr:Rel C G st w) {mu:Bool} {fr:Fr} {a:Act} (hf:FrRel G w fr a.tmps) {o:Oper} {c:Call} {b:Builtin} (ho:o.op = .call c) (hc:c.callee = .builtin b) {q:OPR}
  (h:builtinA C mu ro fr st b c.argTypes.toList (c.args.toList.map (oval C fr)) = some q):OprR C G st w ro fr (execOp a.eval o) q:=by
 have hargs:∀ x,VR G w (oval C fr x) (a.eval x):=oval_sound hr hf
 have conv:∀ {s:Sem Next},OprR C G st w ro fr s q → (∀ w0,(execOp a.eval o).run C.P w0 = s.run C.P w0) → OprR C G st w ro fr (execOp a.eval o) q:=fun {s} hs he => by
  cases q <;> simp only [OprR,he] at hs ⊢ <;> exact hs
 have hts:∀ {t:TypeId} {l:List TypeId},c.argTypes.toList = t :: l → c.argTypes = (t :: l).toArray:=fun h => by apply Array.ext'; simpa using h
 obtain ⟨consts,hsh⟩:=builtin_shape (C:=C) (ρ:=a.eval) ho hc
 have one:∀ {x:AV},c.args.toList.map (oval C fr) = [x] → ∃ y,c.args = #[y] ∧ oval C fr y = x:=fun {x} hx => by
  cases hl:c.args.toList with
  | nil => rw [hl] at hx; cases hx
  | cons y l =>
   rw [hl] at hx
   cases l with
   | nil => simp at hx; exact ⟨y,arr1 hl,hx⟩
   | cons _ _ => simp at hx
 have two:∀ {x y:AV},c.args.toList.map (oval C fr) = [x,y] → ∃ p q,c.args = #[p,q] ∧ oval C fr p = x ∧ oval C fr q = y:=fun {x y} hx => by
  cases hl:c.args.toList with
  | nil => rw [hl] at hx; cases hx
  | cons p l =>
   rw [hl] at hx
   cases l with
   | nil => simp at hx
   | cons q l =>
    cases l with
    | nil => simp at hx; exact ⟨p,q,arr2 hl,hx.1,hx.2⟩
    | cons _ _ => simp at hx
 unfold builtinA at h
 split at h
 ·rename_i x hx
  obtain ⟨y,hy,rfl⟩:=one hx
  split at h
  ·rename_i t l ht
   refine conv (ov_opr hr h fun v hv => lenA_sound (ts:=l) (ty:=o.type) hC hr (hargs y) hv) fun w0 => ?_
   rw [hsh,hts ht,hy]
   simp [builtin]
  ·cases h
 ·rename_i x hx
  obtain ⟨y,hy,rfl⟩:=one hx
  split at h
  ·rename_i t l ht
   refine conv (ov_opr hr h fun v hv => capA_sound (ts:=l) (ty:=o.type) hC hr (hargs y) hv) fun w0 => ?_
   rw [hsh,hts ht,hy]
   simp [builtin]
  ·cases h
 ·rename_i s x hx
  obtain ⟨y,z,hy,rfl,rfl⟩:=two hx
  split at h
  ·rename_i t u l ht
   refine conv (ovs_opr h fun v st' hv => builtinAppend_sound (ts:=l) (ty:=o.type) hC hr (hargs y) (hargs z) hv) fun w0 => ?_
   rw [hsh,hts ht,hy]
   simp [builtin]
  ·cases h
 ·rename_i s x hx
  obtain ⟨y,z,hy,rfl,rfl⟩:=two hx
  split at h
  ·rename_i t l ht
   refine conv (ovs_opr h fun v st' hv => builtinCopy_sound (ts:=l) (ty:=o.type) hC hr (hargs y) (hargs z) hv) fun w0 => ?_
   rw [hsh,hts ht,hy]
   simp [builtin]
  ·cases h
 ·rename_i x hx
  obtain ⟨y,hy,rfl⟩:=one hx
  split at h
  ·rename_i t l ht
   refine conv (ovs_opr h fun v st' hv => builtinClear_sound (ts:=l) (ty:=o.type) hC hr (hargs y) hv) fun w0 => ?_
   rw [hsh,hts ht,hy]
   simp [builtin]
  ·cases h
 ·rename_i x r hx
  have hv:=ovals_sound hr hf c.args.toList
  rw [hx] at hv
  cases hl:c.args.toList.map a.eval with
  | nil => rw [hl] at hv; exact hv.elim
  | cons u us =>
   rw [hl] at hv
   have hl':c.args.map a.eval = (u :: us).toArray:=by apply Array.ext'; simpa using hl
   refine conv (ov_opr hr h fun v hm => maxA_sound hv.1 hv.2 hm) fun w0 => ?_
   rw [hsh,hl']
   simp [builtin,Builtin.max_]
 ·rename_i x r hx
  have hv:=ovals_sound hr hf c.args.toList
  rw [hx] at hv
  cases hl:c.args.toList.map a.eval with
  | nil => rw [hl] at hv; exact hv.elim
  | cons u us =>
   rw [hl] at hv
   have hl':c.args.map a.eval = (u :: us).toArray:=by apply Array.ext'; simpa using hl
   refine conv (ov_opr hr h fun v hm => maxA_sound hv.1 hv.2 hm) fun w0 => ?_
   rw [hsh,hl']
   simp [builtin,Builtin.min_]
 ·rename_i x hx
  obtain ⟨y,hy,rfl⟩:=one hx
  refine conv (ov_opr hr h fun v hv => ?_) (s:=do pure (.value (← Builtin.unsafeSliceData_ c.argTypes o.type #[a.eval y]))) fun w0 => ?_
  ·have hyv:=hargs y
   split at hv
   ·rename_i heq
    cases hv
    rw [heq] at hyv
    exact sliceData_nil hyv
   ·rename_i heq
    split at hv
    ·rename_i hl
     cases hv
     rw [heq] at hyv
     exact sliceData_sound hyv hl
    ·cases hv
   ·cases hv
  ·rw [hsh,hy]
   simp [builtin]
 ·rename_i p x hx
  obtain ⟨y,z,hy,rfl,rfl⟩:=two hx
  split at h
  ·rename_i n t l hn ht
   refine conv (ovs_opr h fun v st' hv => unsafeStr_sound (ts:=l) (ty:=o.type) hC hr (hargs y) (hargs z) hn hv) fun w0 => ?_
   rw [hsh,hts ht,hy]
   simp [builtin]
  ·cases h
 ·rename_i hx
  split at h
  ·cases h
  ·rename_i hro
   have hrun:(execOp a.eval o).run C.P w = .ok .recover w:=by rw [hsh]; rfl
   split at h
   ·cases h
    exact ⟨hrun,by simpa using hro⟩
   ·rename_i hpv
    cases h
    exact ⟨.recover,.nilIface,w,G,[],hrun,.inr (.inr ⟨rfl,hpv,rfl⟩),(fun _ => by simpa using hro),Ok.refl hr,rfl,.nilif⟩
 ·cases h
end
end Go.AE

namespace Go.AE
open Go
section
variable {C:Ctx} {G:Gh} {w:World} {st:St} {ro:Bool}
theorem vrs_arrays {fr:Fr} {a:Act} (hr:Rel C G st w) (hf:FrRel G w fr a.tmps) (xs:Array Operand):VRs G w (xs.toList.map (oval C fr)) (xs.map a.eval).toList:=by
 rw [Array.toList_map]; exact ovals_sound hr hf _
theorem asBool_vr {b:Bool} {u:Value} (h:VR G w (.bool b) u):(asBool u).run C.P w = .ok b w:=by cases h; rfl
theorem opA_sound (hC:CtxOk C) (hr:Rel C G st w) {mu:Bool} {fr:Fr} {a:Act} (hf:FrRel G w fr a.tmps) {o:Oper} {q:OPR} (h:opA C mu ro fr st o = some q):OprR C G st w ro fr (execOp a.eval o) q:=by
 have hv:∀ x,VR G w (oval C fr x) (a.eval x):=oval_sound hr hf
 have conv:∀ {s:Sem Next},OprR C G st w ro fr s q → execOp a.eval o = s → OprR C G st w ro fr (execOp a.eval o) q:=fun {s} hs he => he ▸ hs
 have plain:∀ {x:AV} {u:Value},VR G w x u → OprR C G st w ro fr (pure (.value u)) (.val x st):=fun {x u} hx => ⟨.value u,u,w,G,[],rfl,.inl rfl,(by simp),Ok.refl hr,rfl,hx⟩
 unfold opA at h
 cases hop:o.op <;> simp only [hop] at h <;> (try (cases h; done))
 case move x => cases h; exact conv (plain (hv x)) (by simp [execOp,hop])
 case assign x => cases h; exact conv (plain (hv x)) (by simp [execOp,hop])
 case pick c x y =>
  split at h
  ·rename_i b hb
   cases h
   have hc:=hv c
   rw [hb] at hc
   have hab:=asBool_vr (C:=C) hc
   refine ⟨.value (if b then a.eval x else a.eval y),_,w,G,[],?_,.inl rfl,(by simp),Ok.refl hr,rfl,?_⟩
   ·simp only [execOp,hop,Sem.run_bind,hab,Result.andThen_ok,Sem.run_pure]
   ·cases b
    ·exact hv y
    ·exact hv x
  ·cases h
 case alloc e =>
  cases he:C.ty e with
  | none => simp [he] at h
  | some ei =>
   simp only [he,Option.map_some,Option.some.injEq] at h
   subst h
   exact conv (alloc_sound hC hr he).opr (by simp [execOp,hop])
 case box e x =>
  split at h
  ·cases h
  ·rename_i ha
   cases h
   exact conv (box_sound hr (e:=e) (hv x) (by simpa using ha)).opr (by simp [execOp,hop])
 case build t parts =>
  refine conv (ov_opr hr h fun v hb => build_sound (pv:=parts.toList.map fun p => (p.1,a.eval p.2)) hC (parts_sound hr hf parts.toList) hb) ?_
  have e:(parts.toList.map fun p => (p.1,a.eval p.2)).toArray = parts.map fun p => (p.1,a.eval p.2):=by apply Array.ext'; simp
  simp only [execOp,hop,e]
 case buildSlice t len parts =>
  refine conv (ovs_opr h fun v st' hb => buildSlice_sound (pv:=parts.toList.map fun p => (p.1,a.eval p.2)) hC hr (parts_sound hr hf parts.toList) hb) ?_
  have e:(parts.toList.map fun p => (p.1,a.eval p.2)).toArray = parts.map fun p => (p.1,a.eval p.2):=by apply Array.ext'; simp
  simp only [execOp,hop,e]
 case insert t m k x =>
  cases hm:mapUpd C st t (oval C fr m) (oval C fr k) (oval C fr x) true with
  | none => simp [hm] at h
  | some st1 =>
   simp only [hm,Option.map_some,Option.some.injEq] at h
   subst h
   exact conv (mapUpd_sound hC hr (hv m) (hv k) (hv x) hm).opr (by simp [execOp,hop])
 case load t x =>
  refine conv (ov_opr hr h fun v hl => ld_sound hC hr (hv x) hl) ?_
  simp [execOp,hop]
 case store t p x =>
  split at h
  ·rename_i size l off hs hp
   split at h
   ·rename_i hlen
    cases hst:sto st l off (oval C fr x).cells with
    | none => simp [hst] at h
    | some st1 =>
     simp only [hst,Option.map_some,Option.some.injEq] at h
     subst h
     have hpv:=hv p
     rw [hp] at hpv
     exact conv (store_sound hC hr hs hpv (hv x) hlen hst).opr (by simp [execOp,hop])
   ·cases h
  ·cases h
 case nilCheck x =>
  have hx:=hv x
  split at h
  ·rename_i l off heq
   cases h
   rw [heq] at hx
   generalize hu:a.eval x = u at hx
   have hx0:=hx
   cases hx
   exact conv (plain hx0) (by simp [execOp,hop,hu])
  ·rename_i cs heq
   cases h
   rw [heq] at hx
   generalize hu:a.eval x = u at hx
   have hx0:=hx
   cases hx
   exact conv (plain hx0) (by simp [execOp,hop,hu])
  ·rename_i f xs ys heq
   cases h
   rw [heq] at hx
   generalize hu:a.eval x = u at hx
   have hx0:=hx
   cases hx
   exact conv (plain hx0) (by simp [execOp,hop,hu])
  ·cases h
 case binOp op t x y yt =>
  refine conv (ov_opr hr h fun v hb => binA_sound hC (hv x) (hv y) hb) ?_
  simp [execOp,hop]
 case unOp op t x =>
  refine conv (ov_opr hr h fun v hb => unA_sound (hv x) hb) ?_
  simp [execOp,hop]
 case convert s d x =>
  refine conv (ov_opr hr h fun v hb => convA_sound hC hr (hv x) hb) ?_
  simp [execOp,hop]
 case makeInterface t x =>
  split at h
  ·cases h
  ·rename_i ti hni ht
   cases h
   refine conv (s:=do pure (.value (← Instr.makeInterface t (a.eval x)))) (quiet_opr hr ⟨.iface t (a.eval x),?_,.iface t _ _ (hv x)⟩) (by simp [execOp,hop])
   have:=run_und (w:=w) hC ht
   simp only [Instr.makeInterface,Sem.run_bind,this,Result.andThen_ok]
   cases hd:ti.und <;> simp
   rename_i ms
   exact absurd ht (by
    intro hh
    obtain ⟨u,s,b,ag,z,pl⟩:=ti
    simp only at hd
    subst hd
    exact hni _ _ _ _ _ _ rfl)
  ·cases h
 case makeFunc fn first captured =>
  split at h
  ·rename_i f
   cases h
   have h1:=(vrs_arrays hr hf first).to_array
   have h2:=(vrs_arrays hr hf captured).to_array
   refine conv (s:=do pure (.value (← Instr.makeFunc (.func f) (first.map a.eval) (captured.map a.eval)))) (quiet_opr hr ⟨_,rfl,.func f _ _ _ _ h1.1 h2.1 h1.2 h2.2⟩) (by simp [execOp,hop])
  ·cases h
 case makeMap t r =>
  split at h
  ·cases h
  ·rename_i hr0
   cases h
   have:r = none:=by cases r <;> simp_all
   subst this
   exact conv (makeMap_sound hr (t:=t)).opr (by simp [execOp,hop])
 case makeSlice t l c =>
  refine conv (ovs_opr h fun v st' hb => makeSlice_sound hC hr (hv l) (hv c) hb) ?_
  simp [execOp,hop]
 case slice t x lo hi mx =>
  split at h
  ·rename_i lo' hi' mx' h1 h2 h3
   refine conv (ov_opr hr h fun v hb => sliceA_sound hC hr (hv x) (boundA_sound hr hf h1) (boundA_sound hr hf h2) (boundA_sound hr hf h3) hb) ?_
   simp [execOp,hop]
  ·cases h
 case fieldAddr t x f =>
  refine conv (ov_opr hr h fun v hb => fieldAddrA_sound hC (hv x) hb) ?_
  simp [execOp,hop]
 case field t x f =>
  refine conv (ov_opr hr h fun v hb => fieldA_sound hC (hv x) hb) ?_
  simp [execOp,hop]
 case indexAddr t x i =>
  split at h
  ·rename_i n hn
   obtain ⟨k,hk⟩:=natOf_sound (hv i) hn
   refine conv (ov_opr hr h fun v hb => indexAddrA_sound (k:=k) hC hr (hv x) hb) ?_
   simp [execOp,hop,hk]
  ·cases h
 case index t x i =>
  split at h
  ·rename_i n hn
   obtain ⟨k,hk⟩:=natOf_sound (hv i) hn
   refine conv (ov_opr hr h fun v hb => indexA_sound (k:=k) hC (hv x) hb) ?_
   simp [execOp,hop,hk]
  ·cases h
 case lookup t x i ok =>
  refine conv (ov_opr hr h fun v hb => lookup_sound hC hr (hv x) (hv i) hb) ?_
  simp [execOp,hop]
 case mapUpdate t m k x =>
  cases hm:mapUpd C st t (oval C fr m) (oval C fr k) (oval C fr x) false with
  | none => simp [hm] at h
  | some st1 =>
   simp only [hm,Option.map_some,Option.some.injEq] at h
   subst h
   exact conv (mapUpd_sound hC hr (hv m) (hv k) (hv x) hm).opr (by simp [execOp,hop])
 case range t x =>
  split at h
  ·rename_i s s1 s2 s3 s4 s5 ht hx
   cases h
   have hxv:=hv x
   rw [hx] at hxv
   exact conv (range_sound hC hr ht rfl hxv).opr (by simp [execOp,hop])
  ·rename_i kt et s1 s2 s3 s4 s5 ht
   exact conv (ovs_opr h fun v st' hb => rangeM_sound hC hr ht rfl (hv x) hb) (by simp [execOp,hop])
  ·cases h
 case entry it => exact conv (ov_opr hr h fun v hb => entryM_sound hr (hv it) hb) (by simp [execOp,hop])
 case next it isString =>
  split at h
  ·rename_i hs
   subst hs
   refine conv (ovs_opr h fun v st' hb => next_sound (ty:=o.type) hr (hv it) hb) ?_
   simp [execOp,hop]
  ·cases h
 case typeAssert x xt t ok =>
  refine conv (ov_opr hr h fun v hb => assert_sound (xt:=xt) hC (hv x) hb) ?_
  simp [execOp,hop]
 case extract x i =>
  split at h
  ·rename_i vs heq
   have hx:=hv x
   rw [heq] at hx
   generalize hu:a.eval x = u at hx
   cases hx with
   | tuple _ us h1 h2 =>
    refine conv (s:=do pure (.value (← Instr.extract (.tuple us) i))) (ov_opr hr h fun v hb => ?_) (by simp [execOp,hop,hu])
    obtain ⟨q,hq1,hq2⟩:=(VRs.of_array h1 h2).getElem? hb
    refine ⟨q,?_,hq2⟩
    rw [Array.getElem?_toList] at hq1
    simp [Instr.extract,hq1]
  ·cases h
 case call c =>
  split at h
  ·rename_i b hc
   exact builtinA_sound hC hr hf hop hc h
  ·cases h
 case defer c =>
  split at h
  ·cases h
  ·rename_i hro
   split at h
   ·rename_i f hc
    split at h
    ·rename_i g first captured heq
     cases h
     have hx:=hv f
     rw [heq] at hx
     generalize hu:a.eval f = u at hx
     cases hx with
     | func _ _ _ vs us h1 h2 h3 h4 =>
      refine ⟨rfl,by simpa using hro,{ target:=.fn (.func g) us,args:=vs ++ c.args.map a.eval },?_,us,rfl,?_⟩
      ·simp [execOp,hop,resolve,hc,Deferred.ofValue,hu]
      ·simp only [Array.toList_append]
       exact ((VRs.of_array h1 h3).append (vrs_arrays hr hf c.args)).append (VRs.of_array h2 h4)
    ·cases h
   ·cases h
 case panic x =>
  split at h
  ·rename_i t v heq
   cases h
   have hx:=hv x
   rw [heq] at hx
   generalize hu:a.eval x = u at hx
   have hx0:=hx
   cases hx with
   | iface _ _ vv hvv => exact ⟨rfl,.iface t vv,by simp [execOp,hop,hu,Instr.panic],hx0⟩
  ·cases h
end
end Go.AE

namespace Go.AE
open Go
def fa (b:Frame) (a:Act) (todo:List Item):Frame:={ fn:=b.fn,tmps:=a.tmps,todo,defers:=a.defers,mode:=.run,kind:=b.kind,roundOf:=b.roundOf }
theorem fa_eval (b:Frame) (a:Act) (todo:List Item):(fa b a todo).eval = a.eval:=by
 funext x; cases x <;> rfl
section
variable {P:Program} {b:Frame} {a:Act} {k:List Item} {cs:List Frame} {w w':World} {ops:Array Oper}
theorem fa_skip:Steps P (lone (fa b a (.code .skip :: k)) cs w) (lone (fa b a k) cs w):=.one (step_lone_go (by simp [stepG,stepG.exec,fa]))
theorem fa_label {l:Nat}:Steps P (lone (fa b a (.code (.label l) :: k)) cs w) (lone (fa b a k) cs w):=.one (step_lone_go (by simp [stepG,stepG.exec,fa]))
theorem fa_inBlock {id:Nat}:Steps P (lone (fa b a (.inBlock id :: k)) cs w) (lone (fa b a k) cs w):=.one (step_lone_go (by simp [stepG,stepG.exec,fa]))
theorem fa_seq {x y:Code}:Steps P (lone (fa b a (.code (.seq x y) :: k)) cs w) (lone (fa b a (.code x :: .code y :: k)) cs w):=.one (step_lone_go (by simp [stepG,stepG.exec,fa]))
theorem fa_cond {c:Operand} {x y:Code} {t:Bool} (h:a.eval c = .bool t):Steps P (lone (fa b a (.code (.cond c x y) :: k)) cs w) (lone (fa b a (.code (if t then x else y) :: k)) cs w) :=
 .one (step_lone_go (by
  have:=congrFun (fa_eval b a (.code (.cond c x y) :: k)) c
  simp only [fa] at this
  simp [stepG,stepG.exec,fa,this,h]))
theorem fa_block {id:Nat} {c:Code}:Steps P (lone (fa b a (.code (.block id c) :: k)) cs w) (lone (fa b a (.code c :: .inBlock id :: k)) cs w):=.one (step_lone_go (by simp [stepG,stepG.exec,fa]))
theorem fa_loop {c:Code}:Steps P (lone (fa b a (.code (.loop c) :: k)) cs w) (lone (fa b a (.code c :: .inLoop c :: k)) cs w):=.one (step_lone_go (by simp [stepG,stepG.exec,fa]))
theorem fa_inLoop {c:Code}:Steps P (lone (fa b a (.inLoop c :: k)) cs w) (lone (fa b a (.code c :: .inLoop c :: k)) cs w):=.one (step_lone_go (by simp [stepG,stepG.exec,fa]))
theorem fa_exit {id:Nat} {k':List Item} (h:exitTo id k = some k'):Steps P (lone (fa b a (.code (.exit id) :: k)) cs w) (lone (fa b a k') cs w):=.one (step_lone_go (by simp [stepG,stepG.exec,fa,h]))
theorem fa_region {id:Nat}:Steps P (lone (fa b a (.code (.region id ops false) :: k)) cs w) (lone (fa b a (.inRegion ops (List.range ops.size) :: k)) cs w):=.one (step_lone_go (by simp [stepG,stepG.exec,fa]))
theorem fa_region_draw {id:Nat}:Steps P (lone (fa b a (.code (.region id ops true) :: k)) cs w)
  (lone (fa b a (.inRegion ops (Region.schedule (P.follows .mixedOrders) ops (w.tape w.drawn (.order b.fn id))) :: k)) cs { w with drawn:=w.drawn + 1 }) :=
 .one (step_lone_go (by simp [stepG,stepG.exec,fa,choose,Sem.run,Question.forced,Question.cut]))
theorem fa_region_end:Steps P (lone (fa b a (.inRegion ops [] :: k)) cs w) (lone (fa b a k) cs w):=.one (step_lone_go (by simp [stepG,stepG.exec,fa]))
theorem fa_finish {i:Nat} {rest:List Nat} {o:Oper} (ho:ops[i]? = some o) (v:Value):(fa b a (.inRegion ops (i :: rest) :: k)).finish v = fa b (a.put o.dst v) (.inRegion ops rest :: k):=by
 simp only [Frame.finish,fa,ho,Option.bind_some,Act.put]
 cases o.dst <;> rfl
theorem fa_op_skip {i:Nat} {rest:List Nat} {o:Oper} (ho:ops[i]? = some o) (h:Region.wanted o (yielded ops a.tmps) = false) :
  Steps P (lone (fa b a (.inRegion ops (i :: rest) :: k)) cs w) (lone (fa b (a.put o.dst undef) (.inRegion ops rest :: k)) cs w):=by
 rw [← fa_finish ho]
 exact .one (step_lone_go (by
  have h':((ops[i]?).map (Region.wanted · (yielded ops a.tmps))).getD false = false:=by rw [ho]; exact h
  simp only [fa] at *
  simp [stepG,stepG.exec,h']))
theorem fa_op {i:Nat} {rest:List Nat} {o:Oper} (ho:ops[i]? = some o) (hw:Region.wanted o (yielded ops a.tmps) = true) (hd:b.roundOf = none ∨ ∀ c,o.op ≠ .defer c) :
  stepG P true { frame:=fa b a (.inRegion ops (i :: rest) :: k),callers:=cs,status:=.running,dying:=none } w =
   stepG.apply P true (fa b a (.inRegion ops (i :: rest) :: k)) cs none (execOp a.eval o) w:=by
 have he:=fa_eval b a (.inRegion ops (i :: rest) :: k)
 simp only [fa] at he
 rcases hd with hd | hd
 ·rw [hd] at he
  simp [stepG,stepG.exec,stepG.oper,Frame.oper?,fa,ho,hw,he,hd]
 ·cases hb:b.roundOf with
  | none =>
   rw [hb] at he
   simp [stepG,stepG.exec,stepG.oper,Frame.oper?,fa,ho,hw,he,hb]
  | some l =>
   rw [hb] at he
   simp only [stepG,stepG.exec,stepG.oper,Frame.oper?,fa,ho,hw,he,hb,Option.map_some,Option.getD_some,if_true]
   cases hop:o.op <;> first | rfl | exact absurd hop (hd _)
section
variable {i:Nat} {rest:List Nat} {o:Oper} (ho:ops[i]? = some o) (hw:Region.wanted o (yielded ops a.tmps) = true) (hd:b.roundOf = none ∨ ∀ c,o.op ≠ .defer c)
include ho hw hd
theorem fa_value {v:Value} (hr:(execOp a.eval o).run P w = .ok (.value v) w'):Steps P (lone (fa b a (.inRegion ops (i :: rest) :: k)) cs w) (lone (fa b (a.put o.dst v) (.inRegion ops rest :: k)) cs w'):=by
 rw [← fa_finish ho]
 exact .one (step_lone_go (by rw [fa_op ho hw hd]; simp [stepG.apply,hr]))
theorem fa_skipped (hr:(execOp a.eval o).run P w = .ok .skip w'):Steps P (lone (fa b a (.inRegion ops (i :: rest) :: k)) cs w) (lone (fa b (a.put o.dst undef) (.inRegion ops rest :: k)) cs w'):=by
 rw [← fa_finish ho]
 exact .one (step_lone_go (by rw [fa_op ho hw hd]; simp [stepG.apply,hr]))
theorem fa_defer {d:Deferred} (hr:(execOp a.eval o).run P w = .ok (.defer d) w') :
  Steps P (lone (fa b a (.inRegion ops (i :: rest) :: k)) cs w) (lone (fa b ({ a with defers:=d :: a.defers }.put o.dst undef) (.inRegion ops rest :: k)) cs w'):=by
 have:({ fa b a (.inRegion ops (i :: rest) :: k) with defers:=d :: a.defers }:Frame).finish undef = fa b ({ a with defers:=d :: a.defers }.put o.dst undef) (.inRegion ops rest :: k) :=
  fa_finish (b:=b) (a:={ a with defers:=d :: a.defers }) ho undef
 refine .one (step_lone_go ?_)
 rw [fa_op ho hw hd]
 simp only [stepG.apply,Sem.runT_eq,hr,GStep.bare_after]
 exact congrArg (fun fr => GStep.go { frame:=fr,callers:=cs,status:=.running,dying:=none } w') this
theorem fa_panic {v:Value} (hr:(execOp a.eval o).run P w = .halt (.panic v) w') :
  Steps P (lone (fa b a (.inRegion ops (i :: rest) :: k)) cs w) (lone { fa b a (.inRegion ops (i :: rest) :: k) with mode:=.panicking [{ v,recovered:=false }] } cs w') :=
 .one (step_lone_go (by rw [fa_op ho hw hd]; simp [stepG.apply,hr,Frame.raise,fa]))
theorem fa_enter {f:FuncId} {args:Array Value} (hr:(execOp a.eval o).run P w = .ok (.enter f args) w') :
  Steps P (lone (fa b a (.inRegion ops (i :: rest) :: k)) cs w) (lone (Frame.enter P f args .normal) (fa b a (.inRegion ops (i :: rest) :: k) :: cs) w') :=
 .one (step_lone_go (by rw [fa_op ho hw hd]; simp [stepG.apply,hr,fa]))
theorem fa_round {l:Nat} {f:FuncId} {tmps:Array Value} {as bd:Code} (hr:(execOp a.eval o).run P w = .ok (.round l f tmps as bd) w') :
  Steps P (lone (fa b a (.inRegion ops (i :: rest) :: k)) cs w) (lone (Frame.round l f tmps as bd .normal) (fa b a (.inRegion ops (i :: rest) :: k) :: cs) w') :=
 .one (step_lone_go (by rw [fa_op ho hw hd]; simp [stepG.apply,hr,fa]))
theorem fa_recover_none (hb:b.roundOf = none) (hr:(execOp a.eval o).run P w = .ok .recover w') (ht:tryRecover (fa b a (.inRegion ops (i :: rest) :: k)) cs = none) :
  Steps P (lone (fa b a (.inRegion ops (i :: rest) :: k)) cs w) (lone (fa b (a.put o.dst .nilIface) (.inRegion ops rest :: k)) cs w'):=by
 rw [← fa_finish ho]
 refine .one (step_lone_go ?_)
 rw [fa_op ho hw hd]
 have hb':(fa b a (.inRegion ops (i :: rest) :: k)).roundOf = none:=hb
 simp [stepG.apply,hr,hb',ht]
theorem fa_recover_some {v:Value} {cs':List Frame} (hb:b.roundOf = none) (hr:(execOp a.eval o).run P w = .ok .recover w') (ht:tryRecover (fa b a (.inRegion ops (i :: rest) :: k)) cs = some (v,cs')) :
  Steps P (lone (fa b a (.inRegion ops (i :: rest) :: k)) cs w) (lone (fa b (a.put o.dst v) (.inRegion ops rest :: k)) cs' w'):=by
 rw [← fa_finish ho]
 refine .one (step_lone_go ?_)
 rw [fa_op ho hw hd]
 have hb':(fa b a (.inRegion ops (i :: rest) :: k)).roundOf = none:=hb
 simp [stepG.apply,hr,hb',ht]
end
end
end Go.AE

namespace Go.AE
open Go
def DefsRel (G:Gh) (w:World):List ADef → List Deferred → Prop
 | [],[] => True
 | x :: xs,d :: ds => DefRel G w x d ∧ DefsRel G w xs ds
 | _,_ => False
theorem DefsRel.ext {G G':Gh} {w w':World} (h:Ext G w G' w'):∀ {xs:List ADef} {ds:List Deferred},DefsRel G w xs ds → DefsRel G' w' xs ds
 | [],[],_ => trivial
 | _ :: _,_ :: _,k => ⟨k.1.ext h,DefsRel.ext h k.2⟩
def CtOk (b:Frame) (K:FrameMode → List Frame):Prop:=b.kind = .normal ∨ (b.kind = .deferred ∧ ∃ (c:Frame) (cs0:List Frame),∀ u,K u = { c with mode:=u } :: cs0)
def PvRel (G:Gh) (w:World) (kind:CallKind) (pv:Option AV) (u:FrameMode):Prop :=
 match pv with
 | some v => kind = .deferred ∧ ∃ v',u = .panicking [{ v:=v',recovered:=false }] ∧ VR G w v v'
 | none => kind = .normal ∨ u = .returning ∨ ∃ v',u = .panicking [{ v:=v',recovered:=true }]
theorem PvRel.ext {G G':Gh} {w w':World} (h:Ext G w G' w') {kind:CallKind} {pv:Option AV} {u:FrameMode} (k:PvRel G w kind pv u):PvRel G' w' kind pv u:=by
 cases pv with
 | none => exact k
 | some v => obtain ⟨h1,v',h2,h3⟩:=k; exact ⟨h1,v',h2,h3.ext h⟩
def RoRel (G:Gh) (b:Frame):Option Nat → Prop
 | none => b.roundOf = none
 | some l => ∃ L,G.loc l = some L ∧ b.roundOf = some L.blk
theorem RoRel.ext {G G':Gh} {w w':World} (h:Ext G w G' w') {b:Frame} {ro:Option Nat} (k:RoRel G b ro):RoRel G' b ro:=by
 cases ro with
 | none => exact k
 | some l => obtain ⟨L,h1,h2⟩:=k; exact ⟨L,h.loc _ _ h1,h2⟩
structure Sit (C:Ctx) (G:Gh) (st:St) (w:World) (b:Frame) (fr:Fr) (a:Act) (u:FrameMode):Prop where
 rel:Rel C G st w
 frs:FrRel G w fr a.tmps
 dfs:DefsRel G w fr.defs a.defers
 pvs:PvRel G w b.kind fr.pv u
def LandR (G:Gh) (w:World) (b:Frame) (a:Act) (k:List Item) (e:EX) (f:Frame):Prop :=
 match e with
 | .norm => f = fa b a k
 | .exit id => ∃ k1,f = fa b a (.code (.exit id) :: k1) ∧ exitTo id k1 = exitTo id k
 | .goto l => ∃ k1,f = fa b a (.code (.goto l) :: k1) ∧ gotoIn l k1 = gotoIn l k
 | .ret => ∃ k1,f = fa b a (.code .ret :: k1)
 | .pan v => ∃ todo v',f = { fa b a todo with mode:=.panicking [{ v:=v',recovered:=false }] } ∧ VR G w v v'
def Goes (C:Ctx) (b:Frame) (K:FrameMode → List Frame) (k:List Item) (G:Gh) (st:St) (w:World) (m:Machine) (out:Out):Prop :=
 ∃ a' u' w' G' ls f,Ok C G st w ls G' out.2.2 w' ∧ out.2.2.log = ls ++ st.log ∧ Sit C G' out.2.2 w' b out.2.1 a' u' ∧ LandR G' w' b a' k out.1 f ∧ Steps C.P m (lone f (K u') w')
section
variable {C:Ctx} {b:Frame} {K:FrameMode → List Frame} {k:List Item} {G:Gh} {st:St} {w:World} {m m':Machine} {out:Out}
theorem Goes.head (h:Steps C.P m m') (g:Goes C b K k G st w m' out):Goes C b K k G st w m out:=by
 obtain ⟨a',u',w',G',ls,f,h1,h2,h3,h4,h5⟩:=g
 exact ⟨a',u',w',G',ls,f,h1,h2,h3,h4,h.trans h5⟩
theorem Goes.here {fr:Fr} {a:Act} {u:FrameMode} (hs:Sit C G st w b fr a u):Goes C b K k G st w (lone (fa b a k) (K u) w) (.norm,fr,st) :=
 ⟨a,u,w,G,[],_,Ok.refl hs.rel,rfl,hs,rfl,.refl _ _⟩
theorem Goes.bind {G1:Gh} {st1:St} {w1:World} {ls:List Nat} (h:Ok C G st w ls G1 st1 w1) (hl:st1.log = ls ++ st.log) (g:Goes C b K k G1 st1 w1 m out):Goes C b K k G st w m out:=by
 obtain ⟨a',u',w',G',ls',f,h1,h2,h3,h4,h5⟩:=g
 exact ⟨a',u',w',G',ls' ++ ls,f,(h.trans h1).mono (fun l hl => by simp only [List.mem_append] at hl ⊢; exact hl.symm),by rw [h2,hl,List.append_assoc],h3,h4,h5⟩
theorem Sit.log {fr:Fr} {a:Act} {u:FrameMode} (hs:Sit C G st w b fr a u) (lg:List Nat):Sit C G ⟨st.heap,st.next,lg⟩ w b fr a u:=⟨hs.rel.log lg,hs.frs,hs.dfs,hs.pvs⟩
end
def EndRel (G:Gh) (w:World) (r:CR) (e:Ending):Prop :=
 match r,e with
 | .ret v,.returned v' => VR G w v v'
 | .pan v,.panicked [{ v:=v',recovered:=false,goexit:=false }] => VR G w v v'
 | _,_ => False
def FnCall (P:Program) (f:FuncId) (vals:Array Value) (w:World) (R:Ending → World → Prop):Prop :=
 (∃ fn, P.funcs[f]? = some fn ∧ fn.body.isSome = true ∧ (fn.name == "runtime.NumGoroutine") = false ∧ Calls P f vals w R) ∨
 (∃ v w',(callFunc f vals).run P w = .ok (.value v) w' ∧ R (.returned v) w')
def CallOk (C:Ctx) (tgt:Tgt) (args:List AV) (kd:Knd) (st:St) (r:CR × St × Option AV):Prop :=
 match tgt,kd with
 | .fn f,.normal => ∀ G w vals,Rel C G st w → VRs G w args vals →
   FnCall C.P f vals.toArray w fun e w' => ∃ G' ls,Ok C G st w ls G' r.2.1 w' ∧ r.2.1.log = ls ++ st.log ∧ EndRel G' w' r.1 e
 | .fn f,.deferred pv => ∀ G w vals u,Rel C G st w → VRs G w args vals → PvRel G w .deferred pv u →
   (∃ fn, C.P.funcs[f]? = some fn ∧ fn.body.isSome = true ∧ (fn.name == "runtime.NumGoroutine") = false) ∧
   CallsD C.P f vals.toArray u w fun e u' w' => ∃ G' ls,Ok C G st w ls G' r.2.1 w' ∧ r.2.1.log = ls ++ st.log ∧ EndRel G' w' r.1 e ∧ PvRel G' w' .deferred r.2.2 u'
 | .yield l,.normal => ∀ G w vals L,Rel C G st w → VRs G w args vals → G.loc l = some L → ∃ lp,w.heap[L.blk]? = some (.loop lp) ∧ vals.length = lp.params.size ∧ ∀ c cs,
   ∃ w' G' ls,Ok C G st w ls G' r.2.1 w' ∧ r.2.1.log = ls ++ st.log ∧
    (match r.1 with
    | .ret v => ∃ v',VR G' w' v v' ∧ Steps C.P (lone (Frame.round L.blk lp.fn ((lp.params.zip vals.toArray).foldl (fun tmps (t,a) => tmps.setIfInBounds t a) lp.tmps) lp.assign lp.body .normal) (c :: cs) w) (lone (c.finish v') cs w')
    | .pan v => ∃ v',VR G' w' v v' ∧ Steps C.P (lone (Frame.round L.blk lp.fn ((lp.params.zip vals.toArray).foldl (fun tmps (t,a) => tmps.setIfInBounds t a) lp.tmps) lp.assign lp.body .normal) (c :: cs) w) (lone (c.raise [{ v:=v',recovered:=false }]) cs w'))
 | .yield _,.deferred _ => True
def CallsOk (C:Ctx) (call:CallF):Prop:=∀ tgt args kd st r,call tgt args kd st = some r → CallOk C tgt args kd st r
section
variable {C:Ctx} {b:Frame} {K:FrameMode → List Frame} {k:List Item} {G:Gh} {st:St} {w:World} {u:FrameMode} {fr:Fr} {a:Act}
theorem put_defers {v:Value} {d:Option Tmp}:(a.put d v).defers = a.defers:=by cases d <;> rfl
theorem frput_defs {v:AV} {d:Option Tmp}:(fr.put d v).defs = fr.defs ∧ (fr.put d v).pv = fr.pv:=by
 cases d with
 | none => exact ⟨rfl,rfl⟩
 | some d => simp only [Fr.put]; split <;> exact ⟨rfl,rfl⟩
theorem Sit.put (hs:Sit C G st w b fr a u) {v:AV} {q:Value} (hv:VR G w v q) (d:Option Tmp):Sit C G st w b (fr.put d v) (a.put d q) u :=
 ⟨hs.rel,hs.frs.put hv d,by rw [put_defers,frput_defs.1]; exact hs.dfs,by rw [frput_defs.2]; exact hs.pvs⟩
theorem Sit.ext {G':Gh} {st':St} {w':World} {ls:List Nat} (hs:Sit C G st w b fr a u) (h:Ok C G st w ls G' st' w'):Sit C G' st' w' b fr a u :=
 ⟨h.rel,hs.frs.ext h.ext,hs.dfs.ext h.ext,hs.pvs.ext h.ext⟩
theorem tryRecover_none (hct:CtOk b K) (h:PvRel G w b.kind none u) (todo:List Item):tryRecover (fa b a todo) (K u) = none:=by
 rcases hct with hk | ⟨hk,c,cs0,hK⟩
 ·simp [tryRecover,fa,hk]
 ·rcases h with h | h | ⟨v',h⟩
  ·rw [hk] at h; cases h
  ·simp [tryRecover,fa,hk,hK,h]
  ·simp [tryRecover,fa,hk,hK,h]
theorem tryRecover_some (hct:CtOk b K) {v:AV} (h:PvRel G w b.kind (some v) u) (todo:List Item):∃ v' u',tryRecover (fa b a todo) (K u) = some (v',K u') ∧ VR G w v v' ∧ PvRel G w b.kind none u':=by
 obtain ⟨h1,v',h2,h3⟩:=h
 rcases hct with hk | ⟨hk,c,cs0,hK⟩
 ·rw [hk] at h1; cases h1
 ·subst h2
  refine ⟨v',.panicking [{ v:=v',recovered:=true }],?_,h3,.inr (.inr ⟨v',rfl⟩)⟩
  simp [tryRecover,fa,hk,hK]
theorem runOp_sound (hC:CtxOk C) {call:CallF} (hcall:CallsOk C call) (hct:CtOk b K) {ro:Option Nat} {mu:Bool} {ops:Array Oper} {i:Nat} {rest:List Nat} {o:Oper} (ho:ops[i]? = some o)
  (hw:Region.wanted o (yielded ops a.tmps) = true) (hs:Sit C G st w b fr a u) (hro:RoRel G b ro) {out:Out} (h:runOp call C mu ro.isSome o fr st = some out) :
  Goes C b K (.inRegion ops rest :: k) G st w (lone (fa b a (.inRegion ops (i :: rest) :: k)) (K u) w) out:=by
 have hb:ro.isSome = false → b.roundOf = none:=fun hh => by cases ro with
  | none => exact hro
  | some l => cases hh
 unfold runOp at h
 cases hop:opA C mu ro.isSome fr st o with
 | some q =>
  have hsound:=opA_sound hC hs.rel hs.frs hop
  have hnd:∀ v st',q = .val v st' → (b.roundOf = none ∨ ∀ c,o.op ≠ .defer c):=fun v st' hq => by
   subst hq
   by_cases hr:ro.isSome = true
   ·refine .inr fun c hc => ?_
    simp only [opA,hc,hr,if_true] at hop
    cases hop
   ·exact .inl (hb (by simpa using hr))
  cases q with
  | val v st' =>
   simp only [hop,Option.some.injEq] at h
   subst h
   obtain ⟨n,q,w',G',ls,h1,h2,h3,h4,h5,h6⟩:=hsound
   have hs':=(hs.ext h4).put h6 o.dst
   rcases h2 with rfl | ⟨rfl,rfl⟩ | ⟨rfl,hpv,rfl⟩
   ·exact ⟨_,u,w',G',ls,_,h4,h5,hs',rfl,fa_value ho hw (hnd _ _ rfl) h1⟩
   ·exact ⟨_,u,w',G',ls,_,h4,h5,hs',rfl,fa_skipped ho hw (hnd _ _ rfl) h1⟩
   ·have hpv':=hs.pvs
    rw [hpv] at hpv'
    exact ⟨_,u,w',G',ls,_,h4,h5,hs',rfl,fa_recover_none ho hw (hnd _ _ rfl) (hb (h3 rfl)) h1 (tryRecover_none hct hpv' _)⟩
  | pan v st' =>
   simp only [hop,Option.some.injEq] at h
   subst h
   obtain ⟨rfl,q,h1,h2⟩:=hsound
   have hnd':b.roundOf = none ∨ ∀ c,o.op ≠ .defer c:=by
    by_cases hr:ro.isSome = true
    ·refine .inr fun c hc => ?_
     simp only [opA,hc,hr,if_true] at hop
     cases hop
    ·exact .inl (hb (by simpa using hr))
   exact ⟨a,u,w,G,[],_,Ok.refl hs.rel,rfl,hs,⟨_,q,rfl,h2⟩,fa_panic ho hw hnd' h1⟩
  | dfr d st' =>
   simp only [hop,Option.some.injEq] at h
   subst h
   obtain ⟨rfl,hr,dd,h1,h2⟩:=hsound
   have hs':Sit C G st' w b { fr with defs:=d :: fr.defs } { a with defers:=dd :: a.defers } u:=⟨hs.rel,⟨hs.frs.size,hs.frs.val⟩,⟨h2,hs.dfs⟩,hs.pvs⟩
   exact ⟨_,u,w,G,[],_,Ok.refl hs.rel,rfl,hs'.put VR.undef o.dst,rfl,fa_defer ho hw (.inl (hb hr)) h1⟩
  | rcv =>
   simp only [hop] at h
   obtain ⟨h1,hr⟩:=hsound
   cases hpv:fr.pv with
   | none => simp [hpv] at h
   | some v =>
    simp only [hpv,Option.some.injEq] at h
    subst h
    have hpv':=hs.pvs
    rw [hpv] at hpv'
    obtain ⟨v',u',e1,e2,e3⟩:=tryRecover_some (a:=a) hct hpv' (.inRegion ops (i :: rest) :: k)
    have hs':Sit C G st w b { fr with pv:=none } a u':=⟨hs.rel,⟨hs.frs.size,hs.frs.val⟩,hs.dfs,e3⟩
    exact ⟨_,u',w,G,[],_,Ok.refl hs.rel,rfl,hs'.put e2 o.dst,rfl,fa_recover_some ho hw (.inl (hb hr)) (hb hr) h1 e1⟩
 | none =>
  simp only [hop] at h
  unfold callA at h
  split at h
  ·rename_i c hc
   have hnd:b.roundOf = none ∨ ∀ c,o.op ≠ .defer c:=.inr fun c' h' => by rw [hc] at h'; cases h'
   split at h
   ·rename_i tgt args hcal
    unfold calleeA at hcal
    split at hcal
    ·rename_i f hf
     have hfv:=oval_sound hs.rel hs.frs f
     split at hcal
     ·
      rename_i g first captured heq
      cases hcal
      rw [heq] at hfv
      generalize hu:a.eval f = fv at hfv
      cases hfv with
      | func _ _ _ vs us h1 h2 h3 h4 =>
       have hargs:=((VRs.of_array h1 h3).append (vrs_arrays hs.rel hs.frs c.args)).append (VRs.of_array h2 h4)
       have hrun:(execOp a.eval o).run C.P w = (callFunc g (vs ++ c.args.map a.eval ++ us)).run C.P w:=by
        simp [execOp,hc,resolve,hf,Deferred.ofValue,hu,invoke]
       have harr:(vs.toList ++ (c.args.map a.eval).toList ++ us.toList).toArray = vs ++ c.args.map a.eval ++ us:=by simp
       have key:∀ r,call (.fn g) (first ++ c.args.toList.map (oval C fr) ++ captured) .normal st = some r →
         ∃ e w' G' ls,Ok C G st w ls G' r.2.1 w' ∧ r.2.1.log = ls ++ st.log ∧ EndRel G' w' r.1 e ∧
          (match e with
          | .returned v' => Steps C.P (lone (fa b a (.inRegion ops (i :: rest) :: k)) (K u) w) (lone (fa b (a.put o.dst v') (.inRegion ops rest :: k)) (K u) w')
          | .panicked chain => Steps C.P (lone (fa b a (.inRegion ops (i :: rest) :: k)) (K u) w) (lone { fa b a (.inRegion ops (i :: rest) :: k) with mode:=.panicking chain } (K u) w')
          | .outgrown => True):=fun r hr => by
        have hq:=hcall _ _ _ _ _ hr G w _ hs.rel hargs
        rw [harr] at hq
        rcases hq with ⟨fn,q1,q2,q3,q4⟩ | ⟨v,w',q1,G',ls,q2,q3,q4⟩
        ·have hent:(execOp a.eval o).run C.P w = .ok (.enter g (vs ++ c.args.map a.eval ++ us)) w:=by
          rw [hrun]
          have:fn.body.isNone = false:=by cases hbd:fn.body <;> simp_all
          simp only [callFunc,Sem.run_bind,run_program,Result.andThen_ok,q1,q3,this,Bool.false_eq_true,if_false,Sem.run_pure]
         obtain ⟨e,w',frE,⟨G',ls,r1,r2,r3⟩,r4,_,r5⟩:=q4 (fa b a (.inRegion ops (i :: rest) :: k) :: K u)
         refine ⟨e,w',G',ls,r1,r2,r3,?_⟩
         have henter:=fa_enter (k:=k) (cs:=K u) (rest:=rest) ho hw hnd hent
         cases e with
         | returned v' =>
          simp only
          rw [← fa_finish ho]
          exact henter.trans (Steps.trans r4 (.one (step_leave_returned r5)))
         | panicked chain =>
          simp only
          have:=henter.trans (Steps.trans r4 (.one (step_leave_panicked r5)))
          rwa [show (fa b a (.inRegion ops (i :: rest) :: k)).raise chain = { fa b a (.inRegion ops (i :: rest) :: k) with mode:=.panicking chain } from by simp [Frame.raise,fa]] at this
         | outgrown => trivial
        ·exact ⟨.returned v,w',G',ls,q2,q3,q4,fa_value ho hw hnd (by rw [hrun]; exact q1)⟩
       split at h
       ·rename_i v st1 _ hcl
        cases h
        obtain ⟨e,w',G',ls,r1,r2,r3,r4⟩:=key _ hcl
        cases e with
        | returned v' => exact ⟨_,u,w',G',ls,_,r1,r2,(hs.ext r1).put r3 o.dst,rfl,r4⟩
        | panicked chain => exact r3.elim
        | outgrown => exact r3.elim
       ·rename_i v st1 _ hcl
        cases h
        obtain ⟨e,w',G',ls,r1,r2,r3,r4⟩:=key _ hcl
        cases e with
        | returned v' => exact r3.elim
        | panicked chain =>
         unfold EndRel at r3
         split at r3
         ·rename_i e1 e2; cases e2
         ·rename_i v0 v' e1 e2
          cases e1
          cases e2
          exact ⟨a,u,w',G',ls,_,r1,r2,hs.ext r1,⟨_,v',rfl,r3⟩,r4⟩
         ·exact r3.elim
        | outgrown => exact r3.elim
       ·cases h
     ·
      rename_i l heq
      cases hcal
      rw [heq] at hfv
      generalize hu:a.eval f = fv at hfv
      cases hfv with
      | yield _ L hL =>
       have hargs:=vrs_arrays hs.rel hs.frs c.args
       have key:∀ r,call (.yield l) (c.args.toList.map (oval C fr)) .normal st = some r →
         ∃ w' G' ls,Ok C G st w ls G' r.2.1 w' ∧ r.2.1.log = ls ++ st.log ∧
          (match r.1 with
          | .ret v => ∃ v',VR G' w' v v' ∧ Steps C.P (lone (fa b a (.inRegion ops (i :: rest) :: k)) (K u) w) (lone (fa b (a.put o.dst v') (.inRegion ops rest :: k)) (K u) w')
          | .pan v => ∃ v',VR G' w' v v' ∧ Steps C.P (lone (fa b a (.inRegion ops (i :: rest) :: k)) (K u) w) (lone { fa b a (.inRegion ops (i :: rest) :: k) with mode:=.panicking [{ v:=v',recovered:=false }] } (K u) w')):=fun r hr => by
        obtain ⟨lp,p1,p2,p3⟩:=hcall _ _ _ _ _ hr G w _ L hs.rel hargs hL
        obtain ⟨w',G',ls,r1,r2,r3⟩:=p3 (fa b a (.inRegion ops (i :: rest) :: k)) (K u)
        have hg:=run_getObj (C:=C) p1 (fun _ _ _ => by simp)
        have hent:(execOp a.eval o).run C.P w = .ok (.round L.blk lp.fn ((lp.params.zip (c.args.map a.eval)).foldl (fun tmps (t,a) => tmps.setIfInBounds t a) lp.tmps) lp.assign lp.body) w:=by
         have hsz:¬ ((c.args.map a.eval).size ≠ lp.params.size):=by simpa using p2
         simp only [execOp,hc,Sem.run_bind,resolve,hf,Deferred.ofValue,hu,Sem.run_pure,Result.andThen_ok,invoke,Instr.yield,Instr.getLoop,hg,Array.empty_append]
         rw [if_neg hsz]
         rfl
        have hround:=fa_round (k:=k) (cs:=K u) (rest:=rest) ho hw hnd hent
        refine ⟨w',G',ls,r1,r2,?_⟩
        split at r3
        ·obtain ⟨v',e1,e2⟩:=r3
         refine ⟨v',e1,?_⟩
         rw [fa_finish ho] at e2
         rw [Array.toArray_toList] at e2
         exact hround.trans e2
        ·obtain ⟨v',e1,e2⟩:=r3
         refine ⟨v',e1,?_⟩
         rw [show (fa b a (.inRegion ops (i :: rest) :: k)).raise [{ v:=v',recovered:=false }] = { fa b a (.inRegion ops (i :: rest) :: k) with mode:=.panicking [{ v:=v',recovered:=false }] } from by simp [Frame.raise,fa]] at e2
         rw [Array.toArray_toList] at e2
         exact hround.trans e2
       split at h
       ·rename_i v st1 _ hcl
        cases h
        obtain ⟨w',G',ls,r1,r2,v',r3,r4⟩:=key _ hcl
        exact ⟨_,u,w',G',ls,_,r1,r2,(hs.ext r1).put r3 o.dst,rfl,r4⟩
       ·rename_i v st1 _ hcl
        cases h
        obtain ⟨w',G',ls,r1,r2,v',r3,r4⟩:=key _ hcl
        exact ⟨a,u,w',G',ls,_,r1,r2,hs.ext r1,⟨_,v',rfl,r3⟩,r4⟩
       ·cases h
     ·cases hcal
    ·cases hcal
   ·cases h
  ·cases h
end
end Go.AE

namespace Go.AE
open Go
section
variable {C:Ctx} {b:Frame} {K:FrameMode → List Frame} {k:List Item} {G:Gh} {st:St} {w:World} {u:FrameMode} {fr:Fr} {a:Act}
theorem vr_bool {x:AV} {v:Value} (h:VR G w x v) {t:Bool} (hv:v = .bool t):x = .any ∨ x = .bool t:=by
 subst hv; cases h <;> simp
theorem wanted_sound {ops:Array Oper} {o:Oper} (hf:FrRel G w fr a.tmps) {t:Bool} (h:wantedA ops fr o = some t):Region.wanted o (yielded ops a.tmps) = t:=by
 unfold wantedA at h
 unfold Region.wanted
 cases hg:o.guard with
 | none => simp [hg] at h; simp [h]
 | some jw =>
  obtain ⟨j,want⟩:=jw
  simp only [hg] at h
  simp only [yielded]
  cases hd:(ops[j]?).bind (·.dst) with
  | none => simp [hd] at h; subst h; simp
  | some d =>
   simp only [hd] at h
   have hv:=hf.val d
   cases hx:a.tmps[d]? with
   | none =>
    rw [Array.getD_eq_getD_getElem?,hx] at hv
    simp only [Option.bind_some,hx]
    cases hq:fr.tmps d <;> rw [hq] at hv h <;> simp at h <;> first | (subst h; rfl) | cases hv
   | some v =>
    rw [Array.getD_eq_getD_getElem?,hx,Option.getD_some] at hv
    simp only [Option.bind_some,hx]
    cases hq:fr.tmps d with
    | bool c =>
     rw [hq] at hv h
     cases hv
     simp at h
     subst h
     cases c <;> cases want <;> rfl
    | any => simp [hq] at h
    | _ =>
     rw [hq] at hv h
     simp at h
     subst h
     cases v <;> first | rfl | (rename_i c; rcases vr_bool hv rfl with h | h <;> cases h)
theorem LandR.region {ops:Array Oper} {rest:List Nat} {e:EX} {f:Frame} (hn:e ≠ .norm) (h:LandR G w b a (.inRegion ops rest :: k) e f):LandR G w b a k e f:=by
 cases e with
 | norm => exact absurd rfl hn
 | _ => exact h
theorem Goes.region {ops:Array Oper} {rest:List Nat} {m:Machine} {e:EX} {fr':Fr} {st':St} (hn:e ≠ .norm) (h:Goes C b K (.inRegion ops rest :: k) G st w m (e,fr',st')):Goes C b K k G st w m (e,fr',st'):=by
 obtain ⟨a',u',w',G',ls,f,h1,h2,h3,h4,h5⟩:=h
 exact ⟨a',u',w',G',ls,f,h1,h2,h3,LandR.region hn h4,h5⟩
theorem Goes.then {m:Machine} {k1:List Item} {fr1:Fr} {st1:St} {out:Out} (h:Goes C b K k1 G st w m (.norm,fr1,st1))
  (g:∀ G1 w1 a1 u1,Sit C G1 st1 w1 b fr1 a1 u1 → (∀ ro,RoRel G b ro → RoRel G1 b ro) → Goes C b K k G1 st1 w1 (lone (fa b a1 k1) (K u1) w1) out):Goes C b K k G st w m out:=by
 obtain ⟨a',u',w',G',ls,f,h1,h2,h3,h4,h5⟩:=h
 cases h4
 exact Goes.bind h1 h2 (Goes.head h5 (g G' w' a' u' h3 fun ro hro => hro.ext h1.ext))
theorem runOps_sound (hC:CtxOk C) {call:CallF} (hcall:CallsOk C call) (hct:CtOk b K) {ro:Option Nat} {mu:Bool} {ops:Array Oper}:∀ (l:List Oper) (i:Nat) (G:Gh) (st:St) (w:World) (u:FrameMode) (fr:Fr) (a:Act),ops.toList.drop i = l →
  Sit C G st w b fr a u → RoRel G b ro → ∀ out,runOps call C mu ro.isSome ops l fr st = some out → Goes C b K k G st w (lone (fa b a (.inRegion ops (List.range' i l.length) :: k)) (K u) w) out
 | [],i,G,st,w,u,fr,a,_,hs,_,out,h => by
  simp only [runOps,Option.some.injEq] at h
  subst h
  exact Goes.head fa_region_end (Goes.here hs)
 | o :: l,i,G,st,w,u,fr,a,hl,hs,hro,out,h => by
  have ho:ops[i]? = some o:=by
   have:=congrArg List.head? hl
   rw [List.head?_drop,Array.getElem?_toList] at this
   simpa using this
  have hl':ops.toList.drop (i + 1) = l:=by
   have:=congrArg List.tail hl
   rw [List.tail_drop] at this
   simpa using this
  simp only [List.length_cons,List.range'_succ]
  simp only [runOps] at h
  split at h
  ·cases h
  ·rename_i hw
   exact Goes.head (fa_op_skip ho (wanted_sound hs.frs hw)) (runOps_sound hC hcall hct l (i + 1) G st w u _ _ hl' (hs.put VR.undef o.dst) hro out h)
  ·rename_i hw
   have hw':=wanted_sound hs.frs hw
   split at h
   ·rename_i fr1 st1 h1
    exact Goes.then (runOp_sound hC hcall hct ho hw' hs hro h1) fun G1 w1 a1 u1 hs1 hro1 => runOps_sound hC hcall hct l (i + 1) G1 st1 w1 u1 fr1 a1 hl' hs1 (hro1 ro hro) out h
   ·rename_i hne
    cases h0:runOp call C mu ro.isSome o fr st with
    | none => rw [h0] at h; cases h
    | some out0 =>
     obtain ⟨e,fr1,st1⟩:=out0
     have hne':e ≠ .norm:=fun he => by subst he; exact hne _ _ h0
     have hout:out = (e,fr1,st1):=by
      rw [h0] at h
      cases e with
      | norm => exact absurd rfl hne'
      | _ => exact (Option.some.inj h).symm
     subst hout
     have:=runOp_sound (k:=k) (rest:=List.range' (i + 1) l.length) hC hcall hct ho hw' hs hro h0
     exact Goes.region hne' this
theorem region_seq_sound (hC:CtxOk C) {call:CallF} (hcall:CallsOk C call) (hct:CtOk b K) {ro:Option Nat} {mu:Bool} {ops:Array Oper} {id:Nat} (hs:Sit C G st w b fr a u) (hro:RoRel G b ro) {out:Out}
  (h:region call C mu ro.isSome ops false fr st = some out):Goes C b K k G st w (lone (fa b a (.code (.region id ops false) :: k)) (K u) w) out:=by
 refine Goes.head fa_region ?_
 rw [List.range_eq_range']
 have:=runOps_sound (k:=k) hC hcall hct (ro:=ro) ops.toList 0 G st w u fr a rfl hs hro out (by simpa [region] using h)
 rwa [Array.length_toList] at this
end
end Go.AE

namespace Go.AE
open Go
section
variable {C:Ctx} {b:Frame} {K:FrameMode → List Frame} {k:List Item} {G:Gh} {st:St} {w:World} {u:FrameMode} {fr:Fr} {a:Act}
theorem Goes.plain {x:Item} (hx:∀ id l,exitTo id (x :: k) = exitTo id k ∧ gotoIn l (x :: k) = gotoIn l k) {m:Machine} {e:EX} {fr':Fr} {st':St} (hn:e ≠ .norm) (h:Goes C b K (x :: k) G st w m (e,fr',st')):Goes C b K k G st w m (e,fr',st'):=by
 obtain ⟨a',u',w',G',ls,f,h1,h2,h3,h4,h5⟩:=h
 refine ⟨a',u',w',G',ls,f,h1,h2,h3,?_,h5⟩
 cases e with
 | norm => exact absurd rfl hn
 | exit id => obtain ⟨k1,e1,e2⟩:=h4; exact ⟨k1,e1,e2.trans (hx id 0).1⟩
 | goto l => obtain ⟨k1,e1,e2⟩:=h4; exact ⟨k1,e1,e2.trans (hx 0 l).2⟩
 | _ => exact h4
theorem plain_code {c:Code}:∀ id l,exitTo id (.code c :: k) = exitTo id k ∧ gotoIn l (.code c :: k) = gotoIn l k:=fun _ _ => ⟨rfl,rfl⟩
theorem plain_loop {c:Code}:∀ id l,exitTo id (.inLoop c :: k) = exitTo id k ∧ gotoIn l (.inLoop c :: k) = gotoIn l k:=fun _ _ => ⟨rfl,rfl⟩
def Does (C:Ctx) (b:Frame) (c:Code) (ro:Option Nat) (f:Fr → St → Option Out):Prop :=
 ∀ K k G st w u fr a out,CtOk b K → Sit C G st w b fr a u → RoRel G b ro → f fr st = some out → Goes C b K k G st w (lone (fa b a (.code c :: k)) (K u) w) out
theorem does_seq {x y:Code} {ro:Option Nat} {f g:Fr → St → Option Out} (hx:Does C b x ro f) (hy:Does C b y ro g) :
  Does C b (.seq x y) ro (fun fr st => match f fr st with | some (.norm,fr,st) => g fr st | r => r):=by
 intro K k G st w u fr a out hct hs hro h
 try dsimp only at h
 refine Goes.head fa_seq ?_
 cases hf:f fr st with
 | none => rw [hf] at h; cases h
 | some o1 =>
  obtain ⟨e,fr1,st1⟩:=o1
  have g1:=hx K (.code y :: k) G st w u fr a _ hct hs hro hf
  rw [hf] at h
  by_cases he:e = .norm
  ·subst he
   exact Goes.then g1 fun G1 w1 a1 u1 hs1 hro1 => hy K k G1 st1 w1 u1 fr1 a1 out hct hs1 (hro1 ro hro) h
  ·have:out = (e,fr1,st1):=by
    cases e with
    | norm => exact absurd rfl he
    | _ => exact (Option.some.inj h).symm
   subst this
   exact Goes.plain plain_code he g1
theorem does_block {x:Code} {id:Nat} {ro:Option Nat} {f:Fr → St → Option Out} (hx:Does C b x ro f) :
  Does C b (.block id x) ro (fun fr st => match f fr st with | some (.exit i,fr,st) => if i = id then some (.norm,fr,st) else some (.exit i,fr,st) | r => r):=by
 intro K k G st w u fr a out hct hs hro h
 try dsimp only at h
 refine Goes.head fa_block ?_
 cases hf:f fr st with
 | none => rw [hf] at h; cases h
 | some o1 =>
  obtain ⟨e,fr1,st1⟩:=o1
  have g1:=hx K (.inBlock id :: k) G st w u fr a _ hct hs hro hf
  rw [hf] at h
  obtain ⟨a',u',w',G',ls,f',h1,h2,h3,h4,h5⟩:=g1
  cases e with
  | norm =>
   cases h
   cases h4
   exact ⟨a',u',w',G',ls,_,h1,h2,h3,rfl,h5.trans fa_inBlock⟩
  | exit i =>
   obtain ⟨k1,e1,e2⟩:=h4
   simp only at h
   split at h
   ·rename_i hi
    subst hi
    cases h
    have e3:exitTo i k1 = some k:=by rw [e2]; simp [exitTo]
    subst e1
    exact ⟨a',u',w',G',ls,_,h1,h2,h3,rfl,h5.trans (fa_exit e3)⟩
   ·rename_i hi
    cases h
    refine ⟨a',u',w',G',ls,_,h1,h2,h3,⟨k1,e1,e2.trans ?_⟩,h5⟩
    have:(id == i) = false:=by simpa using fun h => hi h.symm
    simp [exitTo,this]
  | goto l => cases h; obtain ⟨k1,e1,e2⟩:=h4; exact ⟨a',u',w',G',ls,_,h1,h2,h3,⟨k1,e1,e2⟩,h5⟩
  | ret => cases h; exact ⟨a',u',w',G',ls,_,h1,h2,h3,h4,h5⟩
  | pan v => cases h; exact ⟨a',u',w',G',ls,_,h1,h2,h3,h4,h5⟩
theorem iter_sound {x:Code} {ro:Option Nat} {f:Fr → St → Option Out} (hx:Does C b x ro f):∀ (n:Nat) K k G st w u fr a out,CtOk b K → Sit C G st w b fr a u → RoRel G b ro → iter f n fr st = some out →
  Goes C b K k G st w (lone (fa b a (.code x :: .inLoop x :: k)) (K u) w) out
 | 0,_,_,_,_,_,_,_,_,_,_,_,_,h => by cases h
 | n + 1,K,k,G,st,w,u,fr,a,out,hct,hs,hro,h => by
  simp only [iter] at h
  cases hf:f fr st with
  | none => rw [hf] at h; cases h
  | some o1 =>
   obtain ⟨e,fr1,st1⟩:=o1
   have g1:=hx K (.inLoop x :: k) G st w u fr a _ hct hs hro hf
   rw [hf] at h
   by_cases he:e = .norm
   ·subst he
    exact Goes.then g1 fun G1 w1 a1 u1 hs1 hro1 => Goes.head fa_inLoop (iter_sound hx n K k G1 st1 w1 u1 fr1 a1 out hct hs1 (hro1 ro hro) h)
   ·have:out = (e,fr1,st1):=by
     cases e with
     | norm => exact absurd rfl he
     | _ => exact (Option.some.inj h).symm
    subst this
    exact Goes.plain plain_loop he g1
theorem iterW_some {f:Fr → St → Option Out} {fr:Fr} {st:St} {out:Out} (h:iterW f fr st = some out):∃ n,iter f n fr st = some out:=by
 unfold iterW at h
 split at h
 ·rename_i hx
  cases h
  exact hx.choose_spec
 ·cases h
theorem does_loop {x:Code} {ro:Option Nat} {f:Fr → St → Option Out} (hx:Does C b x ro f) (n:Option Nat):Does C b (.loop x) ro (iterO f n):=by
 intro K k G st w u fr a out hct hs hro h
 cases n with
 | some n => exact Goes.head fa_loop (iter_sound hx n K k G st w u fr a out hct hs hro h)
 | none =>
  obtain ⟨n,h⟩:=iterW_some (show iterW f fr st = some out from h)
  exact Goes.head fa_loop (iter_sound hx n K k G st w u fr a out hct hs hro h)
theorem does_cond {x y:Code} {c:Operand} {ro:Option Nat} {f g:Fr → St → Option Out} (hx:Does C b x ro f) (hy:Does C b y ro g) :
  Does C b (.cond c x y) ro (fun fr st => match oval C fr c with | .bool t => if t then f fr st else g fr st | _ => none):=by
 intro K k G st w u fr a out hct hs hro h
 try dsimp only at h
 have hc:=oval_sound hs.rel hs.frs c
 split at h
 ·rename_i t ht
  rw [ht] at hc
  generalize hq:a.eval c = q at hc
  cases hc
  refine Goes.head (fa_cond hq) ?_
  cases t
  ·exact hy K k G st w u fr a out hct hs hro h
  ·exact hx K k G st w u fr a out hct hs hro h
 ·cases h
end
end Go.AE

namespace Go.AE
open Go
section
variable {C:Ctx} {b:Frame} {K:FrameMode → List Frame} {k:List Item} {G:Gh} {st:St} {w w':World} {u:FrameMode} {fr:Fr} {a:Act}
theorem jump_land {pending:Option Code} {e:EX} (h:jumpEx pending = some e):LandR G w b a k e (fa b a ((pending.map Item.code).toList ++ k)):=by
 unfold jumpEx at h
 split at h
 ·cases h; rfl
 ·cases h; exact ⟨k,rfl⟩
 ·cases h; exact ⟨k,rfl,rfl⟩
 ·cases h; exact ⟨k,rfl,rfl⟩
 ·cases h
theorem fa_endRange {blk:Nat} {lp:Loop} (h1:w.heap[blk]? = some (.loop lp)) (hb:(lp.state == .busy) = false) :
  Steps C.P (lone (fa b a (.endRangeFunc blk :: k)) (K u) w) (lone (fa b a ((lp.pending.map Item.code).toList ++ k)) (K u) { w with heap:=w.heap.setIfInBounds blk (.loop { lp with state:=.exhausted }) }):=by
 have hg:=run_getObj (C:=C) h1 (fun _ _ _ => by simp)
 have hrun:(Instr.endLoop blk).run C.P w = .ok lp.pending { w with heap:=w.heap.setIfInBounds blk (.loop { lp with state:=.exhausted }) }:=by
  simp only [Instr.endLoop,Instr.getLoop,Sem.run_bind,hg,Result.andThen_ok,Sem.run_pure,hb,Bool.false_eq_true,if_false,run_setObj _ h1 (fun _ _ _ => by simp)]
 refine .one (step_lone_go ?_)
 simp only [stepG,stepG.exec,fa,Sem.runT_eq,hrun,GStep.bare_after]
 rfl
theorem callFunc_enter (hC : CtxOk C) {g : FuncId} (hg : (C.fn g).isNone = false) (args : Array Value) : (callFunc g args).run C.P w = .ok (.enter g args) w ∧ ∃ fn, C.P.funcs[g]? = some fn ∧ fn.body.isSome = true ∧ (fn.name == "runtime.NumGoroutine") = false := by
 cases hf:C.fn g with
 | none => rw [hf] at hg; cases hg
 | some fi =>
  obtain ⟨fn,h1,h2,h3,h4,h5⟩:=hC.fn g fi hf
  refine ⟨?_,fn,h1,by rw [h2]; rfl,h5⟩
  simp only [callFunc,Sem.run_bind,run_program,Result.andThen_ok,h1,h5,h2,Option.isNone_some,Bool.false_eq_true,if_false,Sem.run_pure]
theorem rangeLoop_sound (hC:CtxOk C) {call:CallF} (hcall:CallsOk C call) {self g:FuncId} (hgs:(C.fn g).isNone = false) {first captured:List AV} {params:List Tmp} {assign body:Code} {d:Nat} {Ld:Loc} {vs us:Array Value}
  (hs:Sit C G st w b fr a u) (hd:G.loc d = some Ld) (h1:VRs G w first vs.toList) (h2:VRs G w captured us.toList) {out:Out}
  (h:rangeLoop call self g first captured params assign body d fr st = some out) :
  Goes C b K k G st w (lone (Frame.enter C.P g (vs ++ #[.func (.yield w.heap.size) #[] #[]] ++ us) .normal) (fa b a (.inRangeFunc w.heap.size :: k) :: K u)
   { w with heap:=w.heap.push (.loop { state:=.ready,pending:=none,fn:=self,tmps:=a.tmps,params:=params.toArray,assign:=assign,body:=body,defers:=Ld.blk }) }) out:=by
 unfold rangeLoop at h
 have hk:=Ok.push (C:=C) hs.rel (.loop { state:=.ready,pending:=none,fn:=self,tmps:=a.tmps,params:=params.toArray,assign:=assign,body:=body,defers:=Ld.blk })
  (.loop self fr.tmps fr.n params assign body .ready none d) ⟨w.heap.size,0,0,0⟩ rfl fun he => ⟨a.tmps,Ld.blk,Ld,heap_push_new,hs.frs.size,fun i => (hs.frs.val i).ext he,he.loc _ _ hd,rfl⟩
 have hargs:VRs (G.addLoc st.next ⟨w.heap.size,0,0,0⟩) { w with heap:=w.heap.push (.loop { state:=.ready,pending:=none,fn:=self,tmps:=a.tmps,params:=params.toArray,assign:=assign,body:=body,defers:=Ld.blk }) }
   (first ++ [.func (.yield st.next) [] []] ++ captured) (vs.toList ++ [.func (.yield w.heap.size) #[] #[]] ++ us.toList) :=
  ((h1.ext hk.ext).append (show VRs _ _ [_] [_] from ⟨.yield st.next _ Gh.addLoc_get,trivial⟩)).append (h2.ext hk.ext)
 have harr:(vs.toList ++ [Value.func (.yield w.heap.size) #[] #[]] ++ us.toList).toArray = vs ++ #[.func (.yield w.heap.size) #[] #[]] ++ us:=by simp
 cases hcl:call (.fn g) (first ++ [.func (.yield st.next) [] []] ++ captured) .normal (st.push (.loop self fr.tmps fr.n params assign body .ready none d)) with
 | none => rw [hcl] at h; cases h
 | some r =>
  have hq:=hcall _ _ _ _ _ hcl _ _ _ hk.rel hargs
  rw [harr] at hq
  rcases hq with ⟨fn,q1,q2,q3,q4⟩ | ⟨v,w',q1,_⟩
  ·obtain ⟨e,w',frE,⟨G',ls,r1,r2,r3⟩,r4,_,r5⟩:=q4 (fa b a (.inRangeFunc w.heap.size :: k) :: K u)
   have hk1:=hk.trans r1
   simp only [List.nil_append] at hk1
   have hs':=hs.ext hk1
   have hloc:G'.loc st.next = some ⟨w.heap.size,0,0,0⟩:=r1.ext.loc _ _ Gh.addLoc_get
   obtain ⟨rr,st2,recd⟩:=r
   rw [hcl] at h
   cases e with
   | returned v' =>
    have hst:=Steps.trans r4 (.one (step_leave_returned r5))
    rw [show (fa b a (.inRangeFunc w.heap.size :: k)).finish v' = fa b a (.endRangeFunc w.heap.size :: k) from rfl] at hst
    cases rr with
    | pan v => exact r3.elim
    | ret v =>
     simp only at h
     split at h
     ·rename_i s t m p a0 b0 state pending d0 ho
      split at h
      ·cases h
      ·rename_i hbusy
       cases hj:jumpEx pending with
       | none => rw [hj] at h; cases h
       | some ex =>
        rw [hj] at h
        simp only [Option.map_some,Option.some.injEq] at h
        subst h
        have hob:=(r1.rel.obj _ _ hloc).2.2.2
        have hlt:=(r1.rel.obj _ _ hloc).2.1
        simp only at hlt
        rw [ho] at hob
        obtain ⟨rt,rd,Ld',o1,o2,o3,o4,o5⟩:=hob
        simp only at o1
        have hend:=fa_endRange (C:=C) (K:=K) (u:=u) (b:=b) (a:=a) (k:=k) o1 (by simpa using hbusy)
        have hk2:=Ok.write (C:=C) (w':={ w' with heap:=w'.heap.setIfInBounds w.heap.size (.loop ⟨.exhausted,pending,s,rt,p.toArray,a0,b0,rd⟩) }) r1.rel hloc (by rw [ho]; trivial) (.loop s t m p a0 b0 .exhausted pending d0) (fun _ _ => False) (fun _ _ h => h.elim)
         (by simp) (fun b hb => by simp [Array.getElem?_setIfInBounds,Ne.symm hb]) (fun i _ => by rw [World.cell?,World.cell?,o1,Array.getElem?_setIfInBounds_self_of_lt hlt]) rfl rfl rfl
         (fun he => ⟨rt,rd,Ld',by simp [hlt],o2,fun i => (o3 i).ext he,he.loc _ _ o4,o5⟩)
        rw [Gh.addK_none] at hk2
        have hk3:=(hk1.trans hk2)
        have hk4:Ok C G st w ([st.next] ++ ls) G' (st2.set st.next (.loop s t m p a0 b0 .exhausted pending d0)) _:=hk3.mono fun l hl => by
         simp only [List.mem_append] at hl ⊢
         exact hl.symm
        exact ⟨a,u,_,G',_,_,hk4,by simp only [St.set]; rw [show st2.log = ls ++ st.log from r2]; rfl,hs.ext hk4,jump_land hj,hst.trans hend⟩
     ·cases h
   | panicked chain =>
    have hst:=Steps.trans r4 (.one (step_leave_panicked r5))
    cases rr with
    | ret v => exact r3.elim
    | pan v =>
     simp only [Option.some.injEq] at h
     subst h
     unfold EndRel at r3
     split at r3
     ·rename_i e1 e2; cases e2
     ·rename_i v0 v' e1 e2
      cases e1
      cases e2
      exact ⟨a,u,w',G',ls,_,hk1,r2,hs',⟨.inRangeFunc w.heap.size :: k,v',by simp [Frame.raise,fa],r3⟩,hst⟩
     ·exact r3.elim
   | outgrown => cases rr <;> exact r3.elim
  ·have:=(callFunc_enter (w:={ w with heap:=w.heap.push (.loop { state:=.ready,pending:=none,fn:=self,tmps:=a.tmps,params:=params.toArray,assign:=assign,body:=body,defers:=Ld.blk }) }) hC hgs (vs ++ #[.func (.yield w.heap.size) #[] #[]] ++ us)).1
   rw [this] at q1
   cases q1
end
end Go.AE

namespace Go.AE
open Go
section
variable {C:Ctx} {b:Frame} {K:FrameMode → List Frame} {k:List Item} {G:Gh} {st:St} {w w':World} {u:FrameMode} {fr:Fr} {a:Act}
def DrawOk (C:Ctx) (call:CallF):Prop:=∀ (b:Frame) (mu:Bool) (ro:Option Nat) (id:Nat) (ops:Array Oper),Does C b (.region id ops true) ro (region call C mu ro.isSome ops true)
theorem eval_const (v:Value):a.eval (.const v) = v:=rfl
theorem fa_rangeFunc (hC:CtxOk C) {f:Operand} {params:Array Tmp} {assign body:Code} {g:FuncId} {vs us:Array Value} (hf:a.eval f = .func (.func g) vs us) (hg:(C.fn g).isNone = false) (hb:b.roundOf = none) :
  Steps C.P (lone (fa b a (.code (.rangeFunc f params assign body) :: k)) (K u) w)
   (lone (Frame.enter C.P g (vs ++ #[.func (.yield (w.heap.size + 1)) #[] #[]] ++ us) .normal)
    (fa b { a with defers:={ target:=.collected w.heap.size,args:=#[] } :: a.defers } (.inRangeFunc (w.heap.size + 1) :: k) :: K u)
    { w with heap:=(w.heap.push (.deferred (some []))).push (.loop { state:=.ready,pending:=none,fn:=b.fn,tmps:=a.tmps,params:=params,assign:=assign,body:=body,defers:=w.heap.size }) }):=by
 refine .one (step_lone_go ?_)
 have he:=fa_eval b { a with defers:={ target:=.collected w.heap.size,args:=#[] } :: a.defers } (.inRangeFunc (w.heap.size + 1) :: k)
 have hev:({ a with defers:={ target:=.collected w.heap.size,args:=#[] } :: a.defers }:Act).eval = a.eval:=by funext x; cases x <;> rfl
 rw [hev] at he
 simp only [fa,hb] at he
 have hen:(Instr.enterLoop b.fn a.tmps params assign body none).run C.P w = .ok (w.heap.size + 1,[{ target:=.collected w.heap.size,args:=#[] }])
   { w with heap:=(w.heap.push (.deferred (some []))).push (.loop { state:=.ready,pending:=none,fn:=b.fn,tmps:=a.tmps,params:=params,assign:=assign,body:=body,defers:=w.heap.size }) }:=by
  simp [Instr.enterLoop]
  rfl
 have hcf:=(callFunc_enter (w:={ w with heap:=(w.heap.push (.deferred (some []))).push (.loop { state:=.ready,pending:=none,fn:=b.fn,tmps:=a.tmps,params:=params,assign:=assign,body:=body,defers:=w.heap.size }) }) hC hg (vs ++ #[.func (.yield (w.heap.size + 1)) #[] #[]] ++ us)).1
 simp only [stepG,stepG.exec,fa,hb,Sem.runT_eq,hen,GStep.bare_after,List.singleton_append,stepG.apply,he,if_true]
 simp only [resolve,hf,Deferred.ofValue,Sem.run_bind,Sem.run_pure,Result.andThen_ok,invoke,List.map_toArray,List.map_cons,List.map_nil,eval_const,hcf]
 rfl
theorem fa_rangeFunc_in (hC:CtxOk C) {f:Operand} {params:Array Tmp} {assign body:Code} {g:FuncId} {vs us:Array Value} {blk:Nat} {lp:Loop} (hf:a.eval f = .func (.func g) vs us) (hg:(C.fn g).isNone = false) (hb:b.roundOf = some blk) (hl:w.heap[blk]? = some (.loop lp)) :
  Steps C.P (lone (fa b a (.code (.rangeFunc f params assign body) :: k)) (K u) w)
   (lone (Frame.enter C.P g (vs ++ #[.func (.yield w.heap.size) #[] #[]] ++ us) .normal) (fa b a (.inRangeFunc w.heap.size :: k) :: K u)
    { w with heap:=w.heap.push (.loop { state:=.ready,pending:=none,fn:=b.fn,tmps:=a.tmps,params:=params,assign:=assign,body:=body,defers:=lp.defers }) }):=by
 refine .one (step_lone_go ?_)
 have he:=fa_eval b a (.inRangeFunc w.heap.size :: k)
 simp only [fa,hb] at he
 have hgo:=run_getObj (C:=C) hl (fun _ _ _ => by simp)
 have hen:(Instr.enterLoop b.fn a.tmps params assign body (some blk)).run C.P w = .ok (w.heap.size,[])
   { w with heap:=w.heap.push (.loop { state:=.ready,pending:=none,fn:=b.fn,tmps:=a.tmps,params:=params,assign:=assign,body:=body,defers:=lp.defers }) }:=by
  simp [Instr.enterLoop,Instr.getLoop,hgo]
 have hcf:=(callFunc_enter (w:={ w with heap:=w.heap.push (.loop { state:=.ready,pending:=none,fn:=b.fn,tmps:=a.tmps,params:=params,assign:=assign,body:=body,defers:=lp.defers }) }) hC hg (vs ++ #[.func (.yield w.heap.size) #[] #[]] ++ us)).1
 simp only [stepG,stepG.exec,fa,hb,Sem.runT_eq,hen,GStep.bare_after,List.nil_append,stepG.apply,he,if_true]
 simp only [resolve,hf,Deferred.ofValue,Sem.run_bind,Sem.run_pure,Result.andThen_ok,invoke,List.map_toArray,List.map_cons,List.map_nil,eval_const,hcf]
 rfl
theorem does_rangeFunc (hC:CtxOk C) {call:CallF} (hcall:CallsOk C call) {n:Option Nat} {self:FuncId} (hself:b.fn = self) {ro:Option Nat} {f:Operand} {params:Array Tmp} {assign body:Code} :
  Does C b (.rangeFunc f params assign body) ro (exec call C n self ro (.rangeFunc f params assign body)):=by
 intro K k G st w u fr a out hct hs hro h
 simp only [exec] at h
 have hfv:=oval_sound hs.rel hs.frs f
 split at h
 ·rename_i g first captured heq
  split at h
  ·cases h
  rename_i hgs
  have hgs:=Bool.eq_false_iff.2 hgs
  rw [heq] at hfv
  generalize hu:a.eval f = fv at hfv
  cases hfv with
  | func _ _ _ vs us h1 h2 h3 h4 =>
   have v1:=VRs.of_array h1 h3
   have v2:=VRs.of_array h2 h4
   split at h
   ·
    have hb:b.roundOf = none:=hro
    refine Goes.head (fa_rangeFunc hC hu hgs hb) ?_
    have hk:=Ok.push (C:=C) hs.rel (.deferred (some [])) .dfr ⟨w.heap.size,0,0,0⟩ rfl fun he => heap_push_new
    have hs1:Sit C (G.addLoc st.next ⟨w.heap.size,0,0,0⟩) (st.push .dfr) { w with heap:=w.heap.push (.deferred (some [])) } b { fr with defs:=⟨none,st.next,[]⟩ :: fr.defs } { a with defers:={ target:=.collected w.heap.size,args:=#[] } :: a.defers } u :=
     ⟨hk.rel,⟨hs.frs.size,fun i => (hs.frs.val i).ext hk.ext⟩,⟨⟨_,Gh.addLoc_get,rfl⟩,hs.dfs.ext hk.ext⟩,hs.pvs.ext hk.ext⟩
    refine Goes.bind hk rfl ?_
    have:=rangeLoop_sound (K:=K) (k:=k) hC hcall hgs hs1 (Gh.addLoc_get:(G.addLoc st.next _).loc st.next = some _) (v1.ext hk.ext) (v2.ext hk.ext) h
    simp only [Array.size_push,Array.toArray_toList] at this
    rw [hself]
    exact this
   ·
    rename_i l0
    obtain ⟨L0,hL0,hb⟩:=hro
    split at h
    ·rename_i s0 t0 m0 p0 a0 b0 state0 pe0 d0 ho
     have hob:=(hs.rel.obj _ _ hL0).2.2.2
     rw [ho] at hob
     obtain ⟨rt,rd,Ld,o1,o2,o3,o4,o5⟩:=hob
     refine Goes.head (fa_rangeFunc_in hC hu hgs hb o1) ?_
     have:=rangeLoop_sound (K:=K) (k:=k) hC hcall hgs hs o4 v1 v2 h
     simp only [Array.toArray_toList] at this
     rw [hself,← o5]
     exact this
    ·cases h
 ·cases h
theorem exec_sound (hC:CtxOk C) {call:CallF} (hcall:CallsOk C call) (hdraw:DrawOk C call) {n:Option Nat} {self:FuncId} (hself:b.fn = self) (ro:Option Nat):∀ c:Code,Does C b c ro (exec call C n self ro c):=by
 intro c
 induction c with
 | skip => intro K k G st w u fr a out hct hs hro h; simp only [exec,Option.some.injEq] at h; subst h; exact Goes.head fa_skip (Goes.here hs)
 | label l => intro K k G st w u fr a out hct hs hro h; simp only [exec,Option.some.injEq] at h; subst h; exact Goes.head fa_label (Goes.here hs)
 | region id ops draw =>
  cases draw with
  | false => intro K k G st w u fr a out hct hs hro h; exact region_seq_sound hC hcall hct hs hro h
  | true => exact hdraw b (C.mu self) ro id ops
 | seq x y hx hy => exact does_seq hx hy
 | cond c x y hx hy => exact does_cond hx hy
 | block id x hx => exact does_block hx
 | loop x hx => exact does_loop hx n
 | rangeFunc f params assign body => exact does_rangeFunc hC hcall hself
 | exit id =>
  intro K k G st w u fr a out hct hs hro h
  simp only [exec,Option.some.injEq] at h; subst h
  exact ⟨a,u,w,G,[],_,Ok.refl hs.rel,rfl,hs,⟨k,rfl,rfl⟩,.refl _ _⟩
 | goto l =>
  intro K k G st w u fr a out hct hs hro h
  simp only [exec,Option.some.injEq] at h; subst h
  exact ⟨a,u,w,G,[],_,Ok.refl hs.rel,rfl,hs,⟨k,rfl,rfl⟩,.refl _ _⟩
 | ret =>
  intro K k G st w u fr a out hct hs hro h
  simp only [exec,Option.some.injEq] at h; subst h
  exact ⟨a,u,w,G,[],_,Ok.refl hs.rel,rfl,hs,⟨k,rfl⟩,.refl _ _⟩
 | scope x => intro K k G st w u fr a out hct hs hro h; cases h
 | refuse x => intro K k G st w u fr a out hct hs hro h; cases h
end
end Go.AE

namespace Go.AE
open Go
def MdRel (G:Gh) (w:World) (pv:Option AV) (m:FrameMode):Prop :=
 match pv with
 | none => m = .returning
 | some v => ∃ v',m = .panicking [{ v:=v',recovered:=false }] ∧ VR G w v v'
theorem MdRel.ext {G G':Gh} {w w':World} (h:Ext G w G' w') {pv:Option AV} {m:FrameMode} (k:MdRel G w pv m):MdRel G' w' pv m:=by
 cases pv with
 | none => exact k
 | some v => obtain ⟨v',h1,h2⟩:=k; exact ⟨v',h1,h2.ext h⟩
theorem MdRel.ne_run {G:Gh} {w:World} {pv:Option AV} {m:FrameMode} (k:MdRel G w pv m):m ≠ .run:=by
 cases pv with
 | none => rw [show m = .returning from k]; simp
 | some v => obtain ⟨v',h1,h2⟩:=k; rw [h1]; simp
section
variable {C:Ctx} {G:Gh} {st st':St} {w w':World}
theorem step_collected {F:Frame} {cs:List Frame} {blk:Nat} {da:Array Value} {ds:List Deferred} (hm:F.mode ≠ .run) (hd:F.defers = { target:=.collected blk,args:=da } :: ds) (h1:w.heap[blk]? = some (.deferred (some []))) :
  Steps C.P (lone F cs w) (lone { F with defers:=ds } cs { w with heap:=w.heap.setIfInBounds blk (.deferred none) }):=by
 have hg:=run_getObj (C:=C) h1 (fun _ _ _ => by simp)
 have hrun:(Instr.takeDeferred blk).run C.P w = .ok [] { w with heap:=w.heap.setIfInBounds blk (.deferred none) }:=by
  simp only [Instr.takeDeferred,Sem.run_bind,hg,Result.andThen_ok,Sem.run_pure,run_setObj _ h1 (fun _ _ _ => by simp)]
 refine .one (step_lone_go ?_)
 cases hmode:F.mode with
 | run => exact absurd hmode hm
 | returning =>
  simp only [stepG,unwind,hmode,hd,Sem.runT_eq,hrun,GStep.bare_after,List.nil_append]
  rfl
 | panicking chain =>
  simp only [stepG,unwind,hmode,hd,Sem.runT_eq,hrun,GStep.bare_after,List.nil_append]
  rfl
theorem runDefs_sound (hC:CtxOk C) {call:CallF} (hcall:CallsOk C call):∀ (ds:List ADef) (defers:List Deferred) (pv:Option AV) (G:Gh) (st:St) (w:World) (F:Frame) (cs:List Frame) (pv':Option AV) (st':St),Rel C G st w → DefsRel G w ds defers → MdRel G w pv F.mode → F.defers = defers →
  runDefs call ds pv st = some (pv',st') → ∃ w' G' ls m',Ok C G st w ls G' st' w' ∧ st'.log = ls ++ st.log ∧ MdRel G' w' pv' m' ∧ Steps C.P (lone F cs w) (lone { F with defers:=[],mode:=m' } cs w'):=by
 intro ds
 induction ds with
 | nil =>
  intro defers pv G st w F cs pv' st' hr hds hm hd h
  cases defers with
  | cons _ _ => exact hds.elim
  | nil =>
   simp only [runDefs,Option.some.injEq,Prod.mk.injEq] at h
   obtain ⟨rfl,rfl⟩:=h
   refine ⟨w,G,[],F.mode,Ok.refl hr,rfl,hm,?_⟩
   have:({ F with defers:=[],mode:=F.mode }:Frame) = F:=by rw [← hd]
   rw [this]
   exact .refl _ _
 | cons x ds ih =>
  intro defers pv G st w F cs pv' st' hr hds hm hd h
  cases defers with
  | nil => exact hds.elim
  | cons d defers =>
  obtain ⟨xf,l,da⟩:=x
  cases xf with
  | none =>
   obtain ⟨⟨L,hL,ht⟩,hds⟩:=hds
   simp only at hL
   simp only [runDefs] at h
   split at h
   ·rename_i ho
    have hob:=(hr.obj l L hL).2.2.2
    have hlt:=(hr.obj l L hL).2.1
    rw [ho] at hob
    have hob':w.heap[L.blk]? = some (.deferred (some [])):=hob
    have hk:=Ok.write (C:=C) (w':={ w with heap:=w.heap.setIfInBounds L.blk (.deferred none) }) hr hL (by rw [ho]; trivial) .dead (fun _ _ => False) (fun _ _ h => h.elim)
     (by simp) (fun b hb => by simp [Array.getElem?_setIfInBounds,Ne.symm hb]) (fun i _ => by rw [World.cell?,World.cell?,hob',Array.getElem?_setIfInBounds_self_of_lt hlt]) rfl rfl rfl (fun he => trivial)
    rw [Gh.addK_none] at hk
    obtain ⟨w',G',ls,m',r1,r2,r3,r4⟩:=ih defers pv G _ _ { F with defers:=defers } cs pv' st' hk.rel (hds.ext hk.ext) (hm.ext hk.ext) rfl h
    refine ⟨w',G',ls ++ [l],m',(hk.trans r1).mono (fun q hq => by simp only [List.mem_append] at hq ⊢; exact hq.symm),by rw [r2,List.append_assoc]; rfl,r3,Steps.trans ?_ r4⟩
    obtain ⟨dt,dargs⟩:=d
    simp only at ht
    subst ht
    exact step_collected hm.ne_run hd hob'
   ·cases h
  | some f =>
   obtain ⟨⟨cap,ht,hargs⟩,hds⟩:=hds
   simp only [runDefs] at h
   split at h
   ·rename_i v st1 recd hcl
    have hpv:PvRel G w .deferred pv F.mode:=by
     cases pv with
     | none => exact .inr (.inl hm)
     | some v => obtain ⟨v',e1,e2⟩:=hm; exact ⟨rfl,v',e1,e2⟩
    obtain ⟨⟨fn,q1,q2,q3⟩,hq⟩:=hcall _ _ _ _ _ hcl G w _ F.mode hr hargs hpv
    rw [Array.toArray_toList] at hq
    obtain ⟨e,u',w1,frE,⟨G1,ls1,r1,r2,r3,r4⟩,r5,r6,r7⟩:=hq { F with defers:=defers } cs rfl
    have hinv:(invoke d.target d.args).run C.P w = .ok (.enter f (d.args ++ cap)) w:=by
     have:fn.body.isNone = false:=by cases hbd:fn.body <;> simp_all
     simp only [ht,invoke,callFunc,Sem.run_bind,run_program,Result.andThen_ok,q1,q3,this,Bool.false_eq_true,if_false,Sem.run_pure]
    have hdef:=step_defer (cs:=cs) hm.ne_run hd ht hinv
    cases e with
    | returned v' =>
     have hback:=step_going_returned (c:={ F with defers:=defers,mode:=u' }) (cs:=cs) r6 r7
     have hmode:MdRel G1 w1 recd (settle u'):=by
      simp only at r4
      cases recd with
      | none =>
       rcases r4 with r4 | r4 | ⟨v',r4⟩
       ·cases r4
       ·rw [r4]; rfl
       ·rw [r4]; rfl
      | some v => obtain ⟨_,v',e1,e2⟩:=r4; exact ⟨v',by rw [e1]; rfl,e2⟩
     obtain ⟨w',G',ls,m',s1,s2,s3,s4⟩:=ih defers _ G1 st1 w1 { F with defers:=defers,mode:=settle u' } cs pv' st' r1.rel (hds.ext r1.ext) hmode rfl h
     exact ⟨w',G',ls ++ ls1,m',(r1.trans s1).mono (fun q hq => by simp only [List.mem_append] at hq ⊢; exact hq.symm),by rw [s2,r2,List.append_assoc],s3,Steps.head hdef (Steps.trans r5 (Steps.head hback s4))⟩
    | panicked chain => exact r3.elim
    | outgrown => exact r3.elim
   ·cases h
theorem results_sound (hC:CtxOk C) (hr:Rel C G st w) {fr:Fr} {tmps:Array Value} (hf:FrRel G w fr tmps):∀ {rs:List ResultVar} {vs:List AV},resultsA C st fr.tmps rs = some vs →
  ∃ us:List Value,(rs.mapM (fun (r:ResultVar) => match r with
   | .tmp t => (pure (tmps.getD t undef):Sem Value)
   | .cell a t => do loadVar t (← asAddr (tmps.getD a undef)))).run C.P w = .ok us w ∧ VRs G w vs us
 | [],vs,h => by simp only [resultsA,Option.some.injEq] at h; subst h; exact ⟨[],rfl,trivial⟩
 | .tmp t :: rs,vs,h => by
  simp only [resultsA] at h
  cases hrest:resultsA C st fr.tmps rs with
  | none => rw [hrest] at h; cases h
  | some r =>
   rw [hrest] at h
   simp only [Option.map_some,Option.some.injEq] at h
   subst h
   obtain ⟨us,h1,h2⟩:=results_sound hC hr hf hrest
   refine ⟨tmps.getD t undef :: us,?_,hf.val t,h2⟩
   simp only [List.mapM_cons,Sem.run_bind,Sem.run_pure,Result.andThen_ok,h1]
 | .cell x t :: rs,vs,h => by
  simp only [resultsA] at h
  split at h
  ·rename_i v l hl hrest
   cases h
   obtain ⟨us,h1,h2⟩:=results_sound hC hr hf hrest
   obtain ⟨q,h3,h4⟩:=ld_sound hC hr (hf.val x) hl
   refine ⟨q :: us,?_,h4,h2⟩
   have h5:(do loadVar t (← asAddr (tmps.getD x undef)):Sem Value).run C.P w = .ok q w:=by
    generalize tmps.getD x undef = va at h3
    cases va with
    | pointer p => cases p with
     | none => cases h3
     | some p => exact h3
    | _ => cases h3
   simp only [List.mapM_cons]
   rw [Sem.run_bind,h5]
   simp only [Result.andThen_ok,Sem.run_bind,h1,Sem.run_pure]
  ·cases h
end
end Go.AE

namespace Go.AE
open Go
section
variable {C:Ctx} {G:Gh} {st st':St} {w w':World} {b:Frame} {a:Act} {k:List Item} {K:FrameMode → List Frame} {u:FrameMode}
theorem fa_leave_end (hb:b.roundOf = none) {cs:List Frame}:Steps C.P (lone (fa b a []) cs w) (lone { fa b a [] with mode:=.returning } cs w):=.one (step_lone_go (by simp [stepG,stepG.exec,fa,hb]))
theorem fa_leave_ret (hb:b.roundOf = none) {cs:List Frame}:Steps C.P (lone (fa b a (.code .ret :: k)) cs w) (lone { fa b a (.code .ret :: k) with mode:=.returning } cs w):=.one (step_lone_go (by simp [stepG,stepG.exec,fa,hb]))
def packV:List Value → Value | [v] => v | us => .tuple us.toArray
theorem mapM_results {fn:Func} {tmps:Array Value} {us:List Value} (h:(fn.results.toList.mapM (fun (r:ResultVar) => match r with
   | .tmp t => (pure (tmps.getD t undef):Sem Value)
   | .cell a t => do loadVar t (← asAddr (tmps.getD a undef)))).run C.P w = .ok us w):(results fn tmps).run C.P w = .ok (packV us) w:=by
 have e:results fn tmps = (fn.results.mapM (fun (r:ResultVar) => match r with
   | .tmp t => (pure (tmps.getD t undef):Sem Value)
   | .cell a t => do loadVar t (← asAddr (tmps.getD a undef)))) >>= fun vs => pure (if h:vs.size = 1 then vs[0] else .tuple vs):=rfl
 rw [e,Array.mapM_eq_mapM_toList]
 simp only [Sem.run_bind,map_eq_pure_bind,h,Result.andThen_ok,Sem.run_pure]
 cases us with
 | nil => rfl
 | cons x us => cases us with
  | nil => rfl
  | cons y us => simp [packV]
theorem argTmps_rel {args:List AV} {vals:List Value} (hv:VRs G w args vals) (n:Nat):FrRel G w ⟨argTmps args,max n args.length,[],none⟩ (vals.toArray ++ Array.replicate (n - vals.toArray.size) undef):=by
 have hl:=hv.length
 refine ⟨by simp; omega,fun i => ?_⟩
 simp only [argTmps]
 by_cases hi:i < args.length
 ·have h1:=hv.get i hi
  have e1:args.getD i undefA = args.getD i .any:=by simp [List.getD_eq_getElem?_getD,hi]
  have e2:(vals.toArray ++ Array.replicate (n - vals.toArray.size) undef).getD i undef = vals.getD i undef:=by
   rw [Array.getD_eq_getD_getElem?,Array.getElem?_append_left (by simp; omega)]
   simp [List.getD_eq_getElem?_getD]
  rw [e1,e2]; exact h1
 ·have e1:args.getD i undefA = undefA:=by simp [List.getD_eq_getElem?_getD,List.getElem?_eq_none (Nat.le_of_not_lt hi)]
  have e2:(vals.toArray ++ Array.replicate (n - vals.toArray.size) undef).getD i undef = undef:=by
   rw [Array.getD_eq_getD_getElem?,Array.getElem?_append_right (by simp; omega),Array.getElem?_replicate]
   split <;> rfl
  rw [e1,e2]; exact VR.undef
theorem untokL_map:∀ xs:List AV,untok.untokL xs = xs.map untok
 | [] => rfl
 | x :: xs => by rw [untok.untokL,untokL_map xs]; rfl
theorem untok_cells (x:AV):(untok x).cells = x.cells.map untok:=by
 cases x <;> simp [untok,AV.cells,untokL_map]
theorem flat_untok:∀ es:List AV,flat (es.map untok) = (flat es).map untok
 | [] => rfl
 | e :: es => by
  have:=flat_untok es
  simp only [flat] at this ⊢
  simp [untok_cells,this]
theorem getD_untok (xs:List AV) (i:Nat):(xs.map untok).getD i .any = untok (xs.getD i .any):=by
 simp only [List.getD_eq_getElem?_getD,List.getElem?_map]
 cases xs[i]? <;> rfl
theorem VR.untok {G:Gh} {w:World} {x:AV} {v:Value} (h:VR G w x v):VR G w (AE.untok x) v:=by
 induction h with
 | any v => exact .any v
 | bool b => exact .bool b
 | int k n => exact .int k n
 | str s => exact .str s
 | nilp => exact .nilp
 | ptr l off L h => exact .ptr l off L h
 | cptr cells a vals hc hv _ => exact .cptr cells a vals hc hv
 | slice k es a cap vals hk hc hv hz ih =>
  have e:AE.untok (.slice k es) = .slice k.forget (es.map AE.untok):=by rw [AE.untok,untokL_map]
  rw [e]
  have hk2:SKok G k.forget (es.map AE.untok) a cap:=by
   cases k with
   | nil => obtain ⟨h1,h2,h3⟩:=hk; exact ⟨h1,h2,by simp [h3]⟩
   | exact => obtain ⟨h1,h2⟩:=hk; exact ⟨h1,by simpa using h2⟩
   | open_ => obtain ⟨h1,h2⟩:=hk; exact ⟨h1,by simpa using h2⟩
   | tok t sz => obtain ⟨L,h0,h1,h2,_⟩:=hk; exact ⟨h1,by simpa using h2⟩
  have:=VR.slice (G:=G) (w:=w) k.forget (es.map AE.untok) a cap vals hk2
   (by rw [flat_untok,List.length_map]; exact hc)
   (by rw [flat_untok,List.length_map]; intro i hi; rw [getD_untok]; exact ih i hi)
   (by
    obtain ⟨sz,hz⟩:=hz
    refine ⟨sz,?_⟩
    refine List.all_eq_true.2 fun e he => ?_
    obtain ⟨e0,he0,rfl⟩:=List.mem_map.1 he
    rw [untok_cells,List.length_map]
    exact List.all_eq_true.1 hz e0 he0)
  simpa using this
 | row l off len lim L a cap h h1 h2 h3 h4 h5 h6 => exact .row l off len lim L a cap h h1 h2 h3 h4 h5 h6
 | nilmap => exact .nilmap
 | map l L h => exact .map l L h
 | func f xs ys vs us h1 h2 h3 h4 _ _ => exact .func f xs ys vs us h1 h2 h3 h4
 | yield l L h => exact .yield l L h
 | nilfn => exact .nilfn
 | iface t x v _ ih => exact .iface t _ v ih
 | nilif => exact .nilif
 | agg xs vs h1 _ ih => rw [AE.untok,untokL_map]; exact .agg _ vs (by simpa using h1) fun i hi => by rw [getD_untok]; exact ih i (by simpa using hi)
 | tuple xs vs h1 _ ih => rw [AE.untok,untokL_map]; exact .tuple _ vs (by simpa using h1) fun i hi => by rw [getD_untok]; exact ih i (by simpa using hi)
theorem PvRel.leave {G G':Gh} {w:World} {kind:CallKind} {pv:Option AV} {u:FrameMode} (k:PvRel G w kind pv u) (h:∀ v,pv = some v → ∀ q,VR G w v q → VR G' w v q):PvRel G' w kind pv u:=by
 cases pv with
 | none => exact k
 | some v => obtain ⟨h1,v',h2,h3⟩:=k; exact ⟨h1,v',h2,h v rfl _ h3⟩
theorem belowL_mem {n:Nat}:∀ {xs:List AV},belowA.belowL n xs = true → ∀ x ∈ xs,belowA n x = true
 | [],_,_,hx => nomatch hx
 | y :: ys,h,x,hx => by
  rw [belowA.belowL,Bool.and_eq_true] at h
  rcases List.mem_cons.1 hx with rfl | hx
  ·exact h.1
  ·exact belowL_mem h.2 x hx
theorem belowL_get {n:Nat} {xs:List AV} (h:belowA.belowL n xs = true) (i:Nat):belowA n (xs.getD i .any) = true:=by
 rw [List.getD_eq_getElem?_getD]
 cases hx:xs[i]? with
 | none => simp [belowA]
 | some x => exact belowL_mem h x (List.mem_of_getElem? hx)
theorem belowL_flat {n:Nat} {es:List AV} (h:belowA.belowL n es = true) (i:Nat):belowA n ((flat es).getD i .any) = true:=by
 rw [List.getD_eq_getElem?_getD]
 cases hx:(flat es)[i]? with
 | none => simp [belowA]
 | some x =>
  obtain ⟨e,he,hxe⟩:=List.mem_flatMap.1 (List.mem_of_getElem? hx)
  have hb:=belowL_mem h e he
  cases e <;> simp only [AV.cells,List.mem_singleton] at hxe <;> first | (subst hxe; exact hb) | skip
  rw [belowA] at hb
  exact belowL_mem hb x hxe
theorem VR.belowKeep {G G':Gh} {w:World} {n:Nat} (hl:∀ l L,l < n → G.loc l = some L → G'.loc l = some L) (hK:∀ b o,G.K b o → G'.K b o) {x:AV} {v:Value} (h:VR G w x v):belowA n x = true → VR G' w x v:=by
 have kon:∀ {a:Option Addr} {m:Nat} {vals:Nat → Value},Konst G w a m vals → Konst G' w a m vals:=fun hc i hi => by
  obtain ⟨b,o,e,k,c⟩:=hc i hi
  exact ⟨b,o,e,hK _ _ k,c⟩
 induction h with
 | any v => exact fun _ => .any v
 | bool b => exact fun _ => .bool b
 | int k n => exact fun _ => .int k n
 | str s => exact fun _ => .str s
 | nilp => exact fun _ => .nilp
 | ptr l off L h => intro hb; rw [belowA,decide_eq_true_eq] at hb; exact .ptr l off L (hl _ _ hb h)
 | cptr cells a vals hc _ ih => intro hb; rw [belowA] at hb; exact .cptr cells a vals (kon hc) fun i hi => ih i hi (belowL_get hb i)
 | slice k es a cap vals hk hc _ hz ih =>
  intro hb
  cases k with
  | tok t sz =>
   rw [belowA,Bool.and_eq_true,decide_eq_true_eq] at hb
   obtain ⟨L,k1,k2⟩:=hk
   exact .slice _ es a cap vals ⟨L,hl _ _ hb.1 k1,k2⟩ (kon hc) (fun i hi => ih i hi (belowL_flat hb.2 i)) hz
  | nil =>
   have hb2:belowA.belowL n es = true:=by simpa only [belowA] using hb
   exact .slice _ es a cap vals hk (kon hc) (fun i hi => ih i hi (belowL_flat hb2 i)) hz
  | exact =>
   have hb2:belowA.belowL n es = true:=by simpa only [belowA] using hb
   exact .slice _ es a cap vals hk (kon hc) (fun i hi => ih i hi (belowL_flat hb2 i)) hz
  | open_ =>
   have hb2:belowA.belowL n es = true:=by simpa only [belowA] using hb
   exact .slice _ es a cap vals hk (kon hc) (fun i hi => ih i hi (belowL_flat hb2 i)) hz
 | row l off len lim L a cap h h1 h2 h3 h4 h5 h6 => intro hb; rw [belowA,decide_eq_true_eq] at hb; exact .row l off len lim L a cap (hl _ _ hb h) h1 h2 h3 h4 h5 h6
 | nilmap => exact fun _ => .nilmap
 | map l L h => intro hb; rw [belowA,decide_eq_true_eq] at hb; exact .map l L (hl _ _ hb h)
 | func f xs ys vs us h1 h2 _ _ ihx ihy =>
  intro hb
  have hb2:belowA.belowL n xs = true ∧ belowA.belowL n ys = true:=by simpa only [belowA,Bool.and_eq_true] using hb
  exact .func f xs ys vs us h1 h2 (fun i hi => ihx i hi (belowL_get hb2.1 i)) fun i hi => ihy i hi (belowL_get hb2.2 i)
 | yield l L h => intro hb; rw [belowA,decide_eq_true_eq] at hb; exact .yield l L (hl _ _ hb h)
 | nilfn => exact fun _ => .nilfn
 | iface t x v _ ih => intro hb; rw [belowA] at hb; exact .iface t x v (ih hb)
 | nilif => exact fun _ => .nilif
 | agg xs vs h1 _ ih => intro hb; rw [belowA] at hb; exact .agg xs vs h1 fun i hi => ih i hi (belowL_get hb i)
 | tuple xs vs h1 _ ih => intro hb; rw [belowA] at hb; exact .tuple xs vs h1 fun i hi => ih i hi (belowL_get hb i)
theorem leave_ok {G3:Gh} {st3:St} (hr:Rel C G st w) (hk:Ok C G ⟨st.heap,st.next,[]⟩ w st3.log G3 st3 w') (vs:List AV) :
  ∃ G' ls,Ok C G st w ls G' (leaveSt st vs st3) w' ∧ (leaveSt st vs st3).log = ls ++ st.log ∧ ∀ v ∈ vs,∀ q,VR G3 w' v q → VR G' w' v q:=by
 unfold leaveSt
 split
 ·rename_i hc
  rw [Bool.and_eq_true,List.all_eq_true] at hc
  obtain ⟨hlog,hbel⟩:=hc
  have hnt:∀ b,¬ Touches G st3.log b:=fun b ⟨l0,L0,m,hL,_⟩ => by
   have h1:=of_decide_eq_true (hlog l0 m)
   have h2:=(hr.obj l0 L0 hL).1
   omega
  have hback:∀ l L,l < st.next → G3.loc l = some L → G.loc l = some L:=fun l L h1 h2 => by
   cases hg:G.loc l with
   | none => have:=(hk.newloc l L hg h2).1; exact absurd this (by simp only; omega)
   | some L0 => have:=hk.ext.loc l L0 hg; rw [h2] at this; exact this.symm
  have hext:Ext G w ⟨G.loc,G3.K,G.base⟩ w':=⟨fun _ _ h => h,hk.ext.K,hk.ext.cell⟩
  have hblk:∀ b,b < w.heap.size → w'.heap[b]? = w.heap[b]?:=fun b hb => hk.frame b hb (hnt b)
  have hKold:∀ b,b < w.heap.size → ∀ o,G3.K b o → G.K b o:=fun b hb o h => by
   rcases hk.newK b o h with h1 | h1 | h1
   ·exact h1
   ·omega
   ·exact absurd h1 (hnt b)
  refine ⟨⟨G.loc,G3.K,G.base⟩,[],?_,rfl,fun v hv q h => VR.belowKeep (G':=⟨G.loc,G3.K,G.base⟩) (n:=st.next) hback (fun _ _ h => h) h (belowL_mem hbel v hv)⟩
  exact {
   ext:=hext
   rel:={
    obj:=fun l L h => by
     obtain ⟨a1,a2,a3,a4⟩:=hr.obj l L h
     exact ⟨a1,Nat.lt_of_lt_of_le a2 hk.size,a3,a4.keep hext (hblk _ a2) (hKold _ a2)⟩
    sep:=hr.sep
    kold:=hk.rel.kold
    glob:=fun g cs h => (hr.glob g cs h).ext hext
    low:=Nat.le_trans hr.low hk.size }
   base:=rfl
   next:=Nat.le_refl _
   size:=hk.size
   keep:=fun _ _ _ => rfl
   frame:=fun b hb _ => hblk b hb
   newloc:=fun l L h1 h2 => by rw [show Gh.loc ⟨G.loc,G3.K,G.base⟩ l = G.loc l from rfl,h1] at h2; cases h2
   newK:=fun b o h => by
    rcases hk.newK b o h with h1 | h1 | h1
    ·exact .inl h1
    ·exact .inr (.inl h1)
    ·exact absurd h1 (hnt b)
   tape:=hk.tape
   os:=hk.os
   output:=hk.output }
 ·exact ⟨G3,_,(hk.filter (hr.log [])).log st.log (st3.log.filter (· < st.next) ++ st.log),rfl,fun v _ q h => h⟩
theorem finish_sound (hC:CtxOk C) {call:CallF} (hcall:CallsOk C call) {f:FuncId} {fi:FI} (hfi:C.fn f = some fi) {vals:List Value} {kd:Knd} {kind:CallKind} {r:CR × St × Option AV}
  (hr:Rel C G st w) {e:EX} {fr:Fr} {st1:St} (hgo:Goes C (Frame.enter C.P f vals.toArray kind) K [] G ⟨st.heap,st.next,[]⟩ w (lone (Frame.enter C.P f vals.toArray kind) (K u) w) (e,fr,st1)) (h:finishFn call C f fi kd st e fr st1 = some r) :
  ∃ (fn:Func) (w':World) (G':Gh) (ls:List Nat) (u':FrameMode) (F:Frame),C.P.funcs[f]? = some fn ∧ F.fn = f ∧ F.kind = kind ∧ F.defers = [] ∧ Ok C G st w ls G' r.2.1 w' ∧ r.2.1.log = ls ++ st.log ∧ PvRel G' w' kind r.2.2 u' ∧
   Steps C.P (lone (Frame.enter C.P f vals.toArray kind) (K u) w) (lone F (K u') w') ∧
   (match r.1 with
   | .ret v => ∃ v',VR G' w' v v' ∧ F.mode = .returning ∧ (results fn F.tmps).run C.P w' = .ok v' w'
   | .pan v => ∃ v',VR G' w' v v' ∧ F.mode = .panicking [{ v:=v',recovered:=false }]):=by
 obtain ⟨fn,f1,f2,f3,f4,f5⟩:=hC.fn f fi hfi
 obtain ⟨a',u',w1,G1,ls,F0,g1,g2,g3,g4,g5⟩:=hgo
 unfold finishFn at h
 cases he:endOf e with
 | none => rw [he] at h; cases h
 | some pv =>
  rw [he] at h
  simp only at h
  have leave:∃ F1:Frame,F1.fn = f ∧ F1.kind = kind ∧ F1.defers = a'.defers ∧ F1.tmps = a'.tmps ∧ MdRel G1 w1 pv F1.mode ∧ Steps C.P (lone (Frame.enter C.P f vals.toArray kind) (K u) w) (lone F1 (K u') w1):=by
   cases e with
   | norm => cases he; cases g4; exact ⟨{ fa (Frame.enter C.P f vals.toArray kind) a' [] with mode:=.returning },rfl,rfl,rfl,rfl,(show MdRel _ _ none _ from rfl),g5.trans (fa_leave_end rfl)⟩
   | ret => cases he; obtain ⟨k1,rfl⟩:=g4; exact ⟨{ fa (Frame.enter C.P f vals.toArray kind) a' (.code .ret :: k1) with mode:=.returning },rfl,rfl,rfl,rfl,(show MdRel _ _ none _ from rfl),g5.trans (fa_leave_ret rfl)⟩
   | pan v => cases he; obtain ⟨todo,v',rfl,q⟩:=g4; exact ⟨_,rfl,rfl,rfl,rfl,⟨v',rfl,q⟩,g5⟩
   | exit id => cases he
   | goto l => cases he
  obtain ⟨F1,k1,k2,k3,k4,k5,k6⟩:=leave
  cases hrd:runDefs call fr.defs pv st1 with
  | none => rw [hrd] at h; cases h
  | some x =>
   obtain ⟨pv',st2⟩:=x
   rw [hrd] at h
   obtain ⟨w2,G2,ls2,m',d1,d2,d3,d4⟩:=runDefs_sound hC hcall fr.defs a'.defers pv G1 st1 w1 F1 (K u') pv' st2 g3.rel g3.dfs k5 k3 hrd
   have hk:=g1.trans d1
   have hlog:st2.log = ls2 ++ ls:=by rw [d2,g2,List.append_nil]
   have hk':Ok C G ⟨st.heap,st.next,[]⟩ w (ls2 ++ ls) G2 st2 w2:=hk.mono fun q hq => by simp only [List.mem_append] at hq ⊢; exact hq.symm
   have hpv2:=g3.pvs.ext d1.ext
   cases pv' with
   | some v =>
    simp only [Option.some.injEq] at h
    subst h
    obtain ⟨v',e1,e2⟩:=d3
    have hk2:Ok C G ⟨st.heap,st.next,[]⟩ w st2.log G2 st2 w2:=by rw [hlog]; exact hk'
    obtain ⟨G',ls',q1,q2,q3⟩:=leave_ok hr hk2 (v :: fr.pv.toList)
    refine ⟨fn,w2,G',_,u',{ F1 with defers:=[],mode:=m' },f1,k1,k2,rfl,q1,q2,?_,k6.trans d4,v',q3 v (by simp) _ e2,e1⟩
    exact hpv2.leave fun v' hv' q hq => q3 v' (by rw [hv']; simp) q hq
   | none =>
    simp only at h
    cases hres:resultsA C st2 fr.tmps fi.results with
    | none => rw [hres] at h; cases h
    | some vs =>
     rw [hres] at h
     simp only at h
     have hfr2:=g3.frs.ext d1.ext
     obtain ⟨us,s1,s2⟩:=results_sound hC d1.rel hfr2 hres
     rw [← f3] at s1
     have s3:=mapM_results s1
     have hpack:VR G2 w2 (packA vs) (packV us):=by
      cases vs with
      | nil => cases us with
       | nil => exact VR.mkTuple (vs:=#[]) trivial
       | cons _ _ => exact s2.elim
      | cons x vs =>
       cases us with
       | nil => exact s2.elim
       | cons y us =>
        cases vs with
        | nil => cases us with
         | nil => exact s2.1
         | cons _ _ => exact s2.2.elim
        | cons x2 vs =>
         cases us with
         | nil => exact s2.2.elim
         | cons y2 us => exact VR.mkTuple (by simpa using s2)
     have fz:∀ v st3,(if C.frz f then (freezeR C st2 (packA vs)).map (fun x => (untok x.1,x.2)) else some (packA vs,st2)) = some (v,st3) → ∃ G' ls',Ok C G2 st2 w2 ls' G' st3 w2 ∧ st3.log = ls' ++ st2.log ∧ VR G' w2 v (packV us):=fun v st3 hq => by
      split at hq
      ·cases hfz:freezeR C st2 (packA vs) with
       | none => rw [hfz] at hq; cases hq
       | some x =>
        obtain ⟨v0,st0⟩:=x
        rw [hfz] at hq
        simp only [Option.map_some,Option.some.injEq,Prod.mk.injEq] at hq
        obtain ⟨rfl,rfl⟩:=hq
        obtain ⟨G',ls',y1,y2,y3⟩:=freezeR_sound hC d1.rel hpack hfz
        exact ⟨G',ls',y1,y2,y3.untok⟩
      ·cases hq; exact ⟨G2,[],Ok.refl d1.rel,rfl,hpack⟩
     split at h
     ·rename_i v st3 hq
      simp only [Option.some.injEq] at h
      subst h
      obtain ⟨G3,ls3,z1,z2,z3⟩:=fz v st3 hq
      have hk3:=hk'.trans z1
      have hlog3:st3.log = ls3 ++ (ls2 ++ ls):=by rw [z2,hlog]
      have hk4:Ok C G ⟨st.heap,st.next,[]⟩ w st3.log G3 st3 w2:=hk3.mono fun q hq => by rw [hlog3]; simp only [List.mem_append] at hq ⊢; exact hq.symm
      obtain ⟨G',ls',q1,q2,q3⟩:=leave_ok hr hk4 (v :: fr.pv.toList)
      refine ⟨fn,w2,G',_,u',{ F1 with defers:=[],mode:=m' },f1,k1,k2,rfl,q1,q2,(hpv2.ext z1.ext).leave fun v' hv' q hq => q3 v' (by rw [hv']; simp) q hq,k6.trans d4,_,q3 v (by simp) _ z3,d3,?_⟩
      simp only [k4]
      exact s3
     ·cases h
theorem enterFn_sound (hC:CtxOk C) {call:CallF} (hcall:CallsOk C call) (hdraw:DrawOk C call) {n:Option Nat} {f:FuncId} {fi:FI} (hfi:C.fn f = some fi) {args:List AV} {vals:List Value} {kd:Knd} {kind:CallKind} {r:CR × St × Option AV}
  (hkind:kind = .normal ∨ kind = .deferred) (hK:CtOk (Frame.enter C.P f vals.toArray kind) K) (hr:Rel C G st w) (hv:VRs G w args vals) (hpv:PvRel G w kind kd.pv u) (h:enterFn call C n f fi args kd st = some r) :
  ∃ (fn:Func) (w':World) (G':Gh) (ls:List Nat) (u':FrameMode) (F:Frame),C.P.funcs[f]? = some fn ∧ F.fn = f ∧ F.kind = kind ∧ F.defers = [] ∧ Ok C G st w ls G' r.2.1 w' ∧ r.2.1.log = ls ++ st.log ∧ PvRel G' w' kind r.2.2 u' ∧
   Steps C.P (lone (Frame.enter C.P f vals.toArray kind) (K u) w) (lone F (K u') w') ∧
   (match r.1 with
   | .ret v => ∃ v',VR G' w' v v' ∧ F.mode = .returning ∧ (results fn F.tmps).run C.P w' = .ok v' w'
   | .pan v => ∃ v',VR G' w' v v' ∧ F.mode = .panicking [{ v:=v',recovered:=false }]):=by
 obtain ⟨fn,f1,f2,f3,f4,f5⟩:=hC.fn f fi hfi
 unfold enterFn at h
 cases hx:exec call C n f none fi.body ⟨argTmps args,max fi.ntmps args.length,[],kd.pv⟩ ⟨st.heap,st.next,[]⟩ with
 | none => rw [hx] at h; cases h
 | some o1 =>
  obtain ⟨e,fr,st1⟩:=o1
  rw [hx] at h
  simp only at h
  have hfr:=argTmps_rel hv fi.ntmps
  have hent:Frame.enter C.P f vals.toArray kind = fa (Frame.enter C.P f vals.toArray kind) ⟨vals.toArray ++ Array.replicate (fi.ntmps - vals.toArray.size) undef,[]⟩ [.code fi.body]:=by
   simp [Frame.enter,fa,f1,f2,f4]
  have hs:Sit C G ⟨st.heap,st.next,[]⟩ w (Frame.enter C.P f vals.toArray kind) ⟨argTmps args,max fi.ntmps args.length,[],kd.pv⟩ ⟨vals.toArray ++ Array.replicate (fi.ntmps - vals.toArray.size) undef,[]⟩ u :=
   ⟨hr.log [],⟨hfr.size,hfr.val⟩,trivial,hpv⟩
  have hgo:=exec_sound hC hcall hdraw (b:=Frame.enter C.P f vals.toArray kind) (self:=f) rfl none fi.body K [] G _ w u _ _ _ hK hs rfl hx
  rw [← hent] at hgo
  exact finish_sound hC hcall hfi hr hgo h
end
end Go.AE

namespace Go.AE
open Go
section
variable {C:Ctx} {G:Gh} {st st':St} {w w':World} {b:Frame} {a:Act} {k:List Item} {K:FrameMode → List Frame} {u:FrameMode}
theorem setParams_rel:∀ (ps:List Tmp) (args:List AV) (vals:List Value) (n:Nat) (t:Nat → AV) (rt:Array Value),VRs G w args vals → ps.length = args.length → rt.size = n → (∀ i,VR G w (t i) (rt.getD i undef)) →
  (((ps.zip vals).foldl (fun tmps (x:Tmp × Value) => tmps.setIfInBounds x.1 x.2) rt).size = n ∧ ∀ i,VR G w (setParams (ps.zip args) n t i) (((ps.zip vals).foldl (fun tmps (x:Tmp × Value) => tmps.setIfInBounds x.1 x.2) rt).getD i undef))
 | [],_,_,n,t,rt,_,_,hs,ht => by
  simp only [List.zip_nil_left,List.foldl_nil,setParams]
  exact ⟨hs,ht⟩
 | d :: ps,[],_,n,t,rt,_,hl,_,_ => by simp at hl
 | d :: ps,x :: args,[],n,t,rt,hv,_,_,_ => hv.elim
 | d :: ps,x :: args,v :: vals,n,t,rt,hv,hl,hs,ht => by
  simp only [List.zip_cons_cons,List.foldl_cons,setParams]
  have hp:=FrRel.put (a:=⟨rt,[]⟩) (fr:=⟨t,n,[],none⟩) ⟨hs,ht⟩ hv.1 (some d)
  simp only [Fr.put,Act.put] at hp
  by_cases hd:d < n
  ·rw [if_pos hd] at hp ⊢
   exact setParams_rel ps args vals n _ _ hv.2 (by simpa using hl) hp.size hp.val
  ·rw [if_neg hd] at hp ⊢
   exact setParams_rel ps args vals n _ _ hv.2 (by simpa using hl) hp.size hp.val
theorem fa_beginRound {blk:Nat} {lp:Loop} {cs:List Frame} (hb:b.roundOf = some blk) (h1:w.heap[blk]? = some (.loop lp)) (hst:lp.state = .ready) :
  Steps C.P (lone (fa b a (.beginRound :: k)) cs w) (lone (fa b a k) cs { w with heap:=w.heap.setIfInBounds blk (.loop { lp with state:=.busy }) }):=by
 have hg:=run_getObj (C:=C) h1 (fun _ _ _ => by simp)
 have hrun:(Instr.beginRound blk).run C.P w = .ok () { w with heap:=w.heap.setIfInBounds blk (.loop { lp with state:=.busy }) }:=by
  simp only [Instr.beginRound,Instr.getLoop,Sem.run_bind,hg,Result.andThen_ok,Sem.run_pure,run_setObj _ h1 (fun _ _ _ => by simp),hst]
 refine .one (step_lone_go ?_)
 simp only [stepG,stepG.exec,fa,hb,Option.elim_some,stepG.apply,Sem.runT_eq,Sem.run_bind,hrun,Result.andThen_ok,Sem.run_pure,if_true,GStep.bare_after]
 rfl
theorem round_leave {blk:Nat} {lp:Loop} {c:Frame} {cs:List Frame} (hb:b.roundOf = some blk) (hkind:b.kind = .normal) (h1:w.heap[blk]? = some (.loop lp)) {e:EX} {jump:Option Code} (hj:exJump e = some jump) {f:Frame} (hl:LandR G w b a [] e f) :
  Steps C.P (lone f (c :: cs) w) (lone (c.finish (.bool jump.isNone)) cs { w with heap:=w.heap.setIfInBounds blk (.loop { lp with state:=if jump.isNone then .ready else .done,pending:=jump }) }):=by
 have hg:=run_getObj (C:=C) h1 (fun _ _ _ => by simp)
 have hrun:(Instr.endRound blk jump).run C.P w = .ok (.bool jump.isNone) { w with heap:=w.heap.setIfInBounds blk (.loop { lp with state:=if jump.isNone then .ready else .done,pending:=jump }) }:=by
  simp only [Instr.endRound,Instr.getLoop,Sem.run_bind,hg,Result.andThen_ok,Sem.run_pure,run_setObj _ h1 (fun _ _ _ => by simp)]
 refine .one (step_lone_go ?_)
 cases e with
 | norm =>
  cases hj; cases hl
  simp only [stepG,stepG.exec,fa,hb,Sem.runT_eq,hrun,GStep.bare_after,doReturn,hkind]
  rfl
 | ret =>
  cases hj; obtain ⟨k1,rfl⟩:=hl
  simp only [stepG,stepG.exec,fa,hb,Sem.runT_eq,hrun,GStep.bare_after,doReturn,hkind]
  rfl
 | exit id =>
  cases hj; obtain ⟨k1,rfl,h2⟩:=hl
  have h3:exitTo id k1 = none:=h2
  simp only [stepG,stepG.exec,fa,hb,h3,Option.elim_none,Sem.runT_eq,hrun,GStep.bare_after,doReturn,hkind]
  rfl
 | goto l =>
  cases hj; obtain ⟨k1,rfl,h2⟩:=hl
  have h3:gotoIn l k1 = none:=h2
  simp only [stepG,stepG.exec,fa,hb,h3,Option.elim_none,Sem.runT_eq,hrun,GStep.bare_after,doReturn,hkind]
  rfl
 | pan v => cases hj
theorem loop_write (hr:Rel C G st w) {l:Nat} {L:Loc} (hL:G.loc l = some L) {s:FuncId} {t:Nat → AV} {m:Nat} {p:List Tmp} {a0 b0:Code} {state state':LoopState} {pe pe':Option Code} {d:Nat} (ho:st.heap l = .loop s t m p a0 b0 state pe d) :
  ∃ rt rd,w.heap[L.blk]? = some (.loop ⟨state,pe,s,rt,p.toArray,a0,b0,rd⟩) ∧ Ok C G st w [l] G (st.set l (.loop s t m p a0 b0 state' pe' d)) { w with heap:=w.heap.setIfInBounds L.blk (.loop ⟨state',pe',s,rt,p.toArray,a0,b0,rd⟩) }:=by
 have hob:=(hr.obj l L hL).2.2.2
 have hlt:=(hr.obj l L hL).2.1
 rw [ho] at hob
 obtain ⟨rt,rd,Ld,o1,o2,o3,o4,o5⟩:=hob
 refine ⟨rt,rd,o1,?_⟩
 have hk:=Ok.write (C:=C) (w':={ w with heap:=w.heap.setIfInBounds L.blk (.loop ⟨state',pe',s,rt,p.toArray,a0,b0,rd⟩) }) hr hL (by rw [ho]; trivial) (.loop s t m p a0 b0 state' pe' d) (fun _ _ => False) (fun _ _ h => h.elim)
  (by simp) (fun b hb => by simp [Array.getElem?_setIfInBounds,Ne.symm hb]) (fun i _ => by rw [World.cell?,World.cell?,o1,Array.getElem?_setIfInBounds_self_of_lt hlt]) rfl rfl rfl
  (fun he => ⟨rt,rd,Ld,by simp [hlt],o2,fun i => (o3 i).ext he,he.loc _ _ o4,o5⟩)
 rwa [Gh.addK_none] at hk
theorem roundA_sound (hC:CtxOk C) {call:CallF} (hcall:CallsOk C call) (hdraw:DrawOk C call) {n:Option Nat} {l:Nat} {L:Loc} {self:FuncId} {t:Nat → AV} {m:Nat} {p:List Tmp} {assign body:Code} {state:LoopState} {pe:Option Code} {d:Nat} {args:List AV} {vals:List Value} {r:CR × St × Option AV}
  (hr:Rel C G st w) (hv:VRs G w args vals) (hL:G.loc l = some L) (ho:st.heap l = .loop self t m p assign body state pe d) (h:roundA call C n l self t m p assign body args st = some r) :
  ∃ lp,w.heap[L.blk]? = some (.loop lp) ∧ vals.length = lp.params.size ∧ ∀ c cs,∃ w' G' ls,Ok C G st w ls G' r.2.1 w' ∧ r.2.1.log = ls ++ st.log ∧
    (match r.1 with
    | .ret v => ∃ v',VR G' w' v v' ∧ Steps C.P (lone (Frame.round L.blk lp.fn ((lp.params.zip vals.toArray).foldl (fun tmps (t,a) => tmps.setIfInBounds t a) lp.tmps) lp.assign lp.body .normal) (c :: cs) w) (lone (c.finish v') cs w')
    | .pan v => ∃ v',VR G' w' v v' ∧ Steps C.P (lone (Frame.round L.blk lp.fn ((lp.params.zip vals.toArray).foldl (fun tmps (t,a) => tmps.setIfInBounds t a) lp.tmps) lp.assign lp.body .normal) (c :: cs) w) (lone (c.raise [{ v:=v',recovered:=false }]) cs w')):=by
 have hob:=(hr.obj l L hL).2.2.2
 rw [ho] at hob
 obtain ⟨rt,rd,Ld,o1,o2,o3,o4,o5⟩:=hob
 unfold roundA at h
 split at h
 ·rename_i hcond
  obtain ⟨hlen,hself⟩:=hcond
  refine ⟨_,o1,by rw [← hv.length,hlen]; simp,fun c cs => ?_⟩
  obtain ⟨p1,p2⟩:=setParams_rel p args vals m t rt hv hlen.symm o2 o3
  have htmps:(p.toArray.zip vals.toArray).foldl (fun tmps (t,a) => tmps.setIfInBounds t a) rt = (p.zip vals).foldl (fun tmps (x:Tmp × Value) => tmps.setIfInBounds x.1 x.2) rt:=by
   rw [List.zip_toArray,List.foldl_toArray]
  simp only [htmps]
  generalize htr:(p.zip vals).foldl (fun tmps (x:Tmp × Value) => tmps.setIfInBounds x.1 x.2) rt = tr at p1 p2
  cases hx:exec call C n self (some l) assign ⟨setParams (p.zip args) m t,m,[],none⟩ st with
  | none => rw [hx] at h; cases h
  | some o1' =>
   obtain ⟨e1,fr1,st1⟩:=o1'
   rw [hx] at h
   cases e1 with
   | norm =>
    simp only at h
    have hs:Sit C G st w (Frame.round L.blk self tr assign body .normal) ⟨setParams (p.zip args) m t,m,[],none⟩ ⟨tr,[]⟩ .returning:=⟨hr,⟨p1,p2⟩,trivial,.inl rfl⟩
    have hct:CtOk (Frame.round L.blk self tr assign body .normal) (fun _ => c :: cs):=.inl rfl
    obtain ⟨a1,u1,w1,G1,ls1,f1,q1,q2,q3,q4,q5⟩:=exec_sound hC hcall hdraw (b:=Frame.round L.blk self tr assign body .normal) (self:=self) rfl (some l) assign (fun _ => c :: cs) [.beginRound,.code body] G st w .returning _ _ _ hct hs ⟨L,hL,rfl⟩ hx
    cases q4
    split at h
    ·rename_i s t' m' p' a0 b0 pe0 d0 ho1
     obtain ⟨rt1,rd1,z1,z2⟩:=loop_write (state':=.busy) (pe':=pe0) q1.rel (q1.ext.loc _ _ hL) ho1
     have hbeg:=fa_beginRound (C:=C) (b:=Frame.round L.blk self tr assign body .normal) (a:=a1) (k:=[.code body]) (cs:=c :: cs) rfl z1 rfl
     have hs2:=q3.ext z2
     cases hx2:exec call C n self (some l) body fr1 (st1.set l (.loop s t' m' p' a0 b0 .busy pe0 d0)) with
     | none => rw [hx2] at h; cases h
     | some o2' =>
      obtain ⟨e2,fr2,st3⟩:=o2'
      rw [hx2] at h
      obtain ⟨a3,u3,w3,G3,ls3,f3,y1,y2,y3,y4,y5⟩:=exec_sound hC hcall hdraw (b:=Frame.round L.blk self tr assign body .normal) (self:=self) rfl (some l) body (fun _ => c :: cs) [] G1 _ _ u1 _ _ _ hct hs2 ⟨L,z2.ext.loc _ _ (q1.ext.loc _ _ hL),rfl⟩ hx2
      have hk:=(q1.trans z2).trans y1
      have hL3:G3.loc l = some L:=y1.ext.loc _ _ (z2.ext.loc _ _ (q1.ext.loc _ _ hL))
      have hsteps:=(show Steps C.P (lone (Frame.round L.blk self tr assign body .normal) (c :: cs) w) _ from q5).trans (hbeg.trans y5)
      have hlog:st3.log = ls3 ++ ([l] ++ (ls1 ++ st.log)):=by rw [y2]; simp only [St.set]; rw [show st1.log = ls1 ++ st.log from q2]; rfl
      have done:∀ jump,exJump e2 = some jump → ∀ s t m' p a0 b0 stt pe d,st3.heap l = .loop s t m' p a0 b0 stt pe d → r = (.ret (.bool jump.isNone),st3.set l (.loop s t m' p a0 b0 (if jump.isNone then .ready else .done) jump d),none) →
        ∃ w' G' ls,Ok C G st w ls G' r.2.1 w' ∧ r.2.1.log = ls ++ st.log ∧
        (match r.1 with
        | .ret v => ∃ v',VR G' w' v v' ∧ Steps C.P (lone (Frame.round L.blk self tr assign body .normal) (c :: cs) w) (lone (c.finish v') cs w')
        | .pan v => ∃ v',VR G' w' v v' ∧ Steps C.P (lone (Frame.round L.blk self tr assign body .normal) (c :: cs) w) (lone (c.raise [{ v:=v',recovered:=false }]) cs w')):=by
       intro jump hj s t m' p a0 b0 stt pe d ho3 hrr
       subst hrr
       obtain ⟨rt3,rd3,x1,x2⟩:=loop_write (state':=if jump.isNone then .ready else .done) (pe':=jump) y1.rel hL3 ho3
       have hlv:=round_leave (C:=C) (c:=c) (cs:=cs) (b:=Frame.round L.blk self tr assign body .normal) (a:=a3) rfl rfl x1 hj y4
       refine ⟨_,G3,[l] ++ (ls3 ++ ([l] ++ ls1)),(hk.trans x2).mono (fun q hq => ?_),?_,.bool jump.isNone,.bool _,hsteps.trans hlv⟩
       ·simp only [List.mem_append,List.mem_singleton] at hq ⊢
        rcases hq with ((hq | hq) | hq) | hq <;> simp [hq]
       ·simp only [St.set]; rw [hlog]; simp
      cases e2 with
      | pan v =>
       simp only at h
       split at h
       ·rename_i hdefs
        cases h
        obtain ⟨todo,v',rfl,hvv⟩:=y4
        have hd0:a3.defers = []:=by
         have:=y3.dfs
         rw [hdefs] at this
         cases hq:a3.defers with
         | nil => rfl
         | cons _ _ => rw [hq] at this; exact this.elim
        obtain ⟨fn,g1,_⟩:=(callFunc_enter (w:=w) hC hself #[]).2
        refine ⟨w3,G3,ls3 ++ ([l] ++ ls1),hk.mono (fun q hq => ?_),by rw [hlog]; simp,v',hvv,hsteps.trans (.one (step_leave_panicked ⟨rfl,hd0,fn,g1⟩))⟩
        simp only [List.mem_append,List.mem_singleton] at hq ⊢
        rcases hq with (hq | hq) | hq <;> simp [hq]
       ·cases h
      | _ =>
       simp only [exJump] at h
       split at h
       ·rename_i s3 t3 m3 p3 a3' b3 stt3 pe3 d3 jump3 ho3 hj3
        cases hj3
        exact done _ rfl _ _ _ _ _ _ _ _ _ ho3 (Option.some.inj h).symm
       ·cases h
    ·cases h
   | _ => cases h
 ·cases h
end
end Go.AE

namespace Go.AE
open Go
def XOk (C:Ctx):Prop:=∀ f args st v st',C.X f args st = some (v,st') → CallOk C (.fn f) args .normal st (.ret v,st',none)
section
variable {C:Ctx}
theorem enter_normal (hC:CtxOk C) {call:CallF} (hcall:CallsOk C call) (hdraw:DrawOk C call) {n:Option Nat} {f:FuncId} {fi:FI} (hfi:C.fn f = some fi) {args:List AV} {st:St} {r:CR × St × Option AV} (h:enterFn call C n f fi args .normal st = some r) :
  CallOk C (.fn f) args .normal st r:=by
 intro G w vals hr hv
 obtain ⟨fn,f1,f2,f3,f4,f5⟩:=hC.fn f fi hfi
 refine .inl ⟨fn,f1,by rw [f2]; rfl,f5,fun cs => ?_⟩
 obtain ⟨fn',w',G',ls,u',F,e1,e2,e3,e4,e5,e6,e7,e8,e9⟩:=enterFn_sound (K:=fun _ => cs) (u:=.returning) (kind:=.normal) (kd:=.normal) hC hcall hdraw hfi (.inl rfl) (.inl rfl) hr hv (.inl rfl) h
 rw [f1] at e1
 cases e1
 obtain ⟨r1,r2,r3⟩:=r
 cases r1 with
 | ret v =>
  obtain ⟨v',k1,k2,k3⟩:=e9
  exact ⟨.returned v',w',F,⟨G',ls,e5,e6,k1⟩,e8,e2,k2,e4,e3,fn,by rw [e2]; exact f1,k3⟩
 | pan v =>
  obtain ⟨v',k1,k2⟩:=e9
  exact ⟨.panicked [{ v:=v',recovered:=false }],w',F,⟨G',ls,e5,e6,k1⟩,e8,e2,k2,e4,fn,by rw [e2]; exact f1⟩
theorem enter_deferred (hC:CtxOk C) {call:CallF} (hcall:CallsOk C call) (hdraw:DrawOk C call) {n:Option Nat} {f:FuncId} {fi:FI} (hfi:C.fn f = some fi) {args:List AV} {st:St} {pv:Option AV} {r:CR × St × Option AV} (h:enterFn call C n f fi args (.deferred pv) st = some r) :
  CallOk C (.fn f) args (.deferred pv) st r:=by
 intro G w vals u hr hv hpv
 obtain ⟨fn,f1,f2,f3,f4,f5⟩:=hC.fn f fi hfi
 refine ⟨⟨fn,f1,by rw [f2]; rfl,f5⟩,fun c cs hc => ?_⟩
 subst hc
 obtain ⟨fn',w',G',ls,u',F,e1,e2,e3,e4,e5,e6,e7,e8,e9⟩:=enterFn_sound (K:=fun u => { c with mode:=u } :: cs) (u:=c.mode) (kind:=.deferred) (kd:=.deferred pv) hC hcall hdraw hfi (.inr rfl) (.inr ⟨rfl,c,cs,fun _ => rfl⟩) hr hv hpv h
 rw [f1] at e1
 cases e1
 obtain ⟨r1,r2,r3⟩:=r
 cases r1 with
 | ret v =>
  obtain ⟨v',k1,k2,k3⟩:=e9
  exact ⟨.returned v',u',w',F,⟨G',ls,e5,e6,k1,e7⟩,e8,e3,k2,e4,fn,by rw [e2]; exact f1,k3⟩
 | pan v =>
  obtain ⟨v',k1,k2⟩:=e9
  exact ⟨.panicked [{ v:=v',recovered:=false }],u',w',F,⟨G',ls,e5,e6,k1,e7⟩,e8,e3,k2,e4,fn,by rw [e2]; exact f1⟩
theorem callN_sound (hC:CtxOk C) (hX:XOk C) (hdraw:∀ call,CallsOk C call → DrawOk C call) (lp:Nat → Option Nat):∀ n,CallsOk C (callN C lp n):=by
 intro n
 induction n with
 | zero => intro tgt args kd st r h; simp [callN] at h
 | succ n ih =>
  intro tgt args kd st r h
  cases tgt with
  | fn f =>
   simp only [callN] at h
   cases kd with
   | normal =>
    simp only at h
    cases hx:C.X f args st with
    | some x =>
     obtain ⟨v,st'⟩:=x
     rw [hx] at h
     simp only [Option.some.injEq] at h
     subst h
     exact hX f args st v st' hx
    | none =>
     rw [hx] at h
     cases hfi:C.fn f with
     | none => rw [hfi] at h; cases h
     | some fi =>
      rw [hfi] at h
      exact enter_normal hC ih (hdraw _ ih) hfi h
   | deferred pv =>
    simp only at h
    cases hfi:C.fn f with
    | none => rw [hfi] at h; cases h
    | some fi =>
     rw [hfi] at h
     exact enter_deferred hC ih (hdraw _ ih) hfi h
  | yield l =>
   cases kd with
   | deferred pv => trivial
   | normal =>
    simp only [callN] at h
    split at h
    ·rename_i self t m p assign body s0 pe0 d0 _ ho
     intro G w vals L hr hv hL
     exact roundA_sound hC ih (hdraw _ ih) hr hv hL ho h
    ·cases h
end
end Go.AE
