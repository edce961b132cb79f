/- strconv.Itoa from 0 to 100000 by the contract of the shelf; the law returns true. -/
import Derived.Test.YtdlahjpoiichkaaGreatDoorT1
import Derived.Shelf.Strconv.Itoa3
set_option linter.unusedVariables false
set_option linter.unusedSimpArgs false
set_option linter.unusedSectionVars false
namespace Go.Proofs
open Go.Shelf
def Tryz.lays171_ren:Go.Shelf.Ren:=⟨fun | 171 => 241 | 243 => 305 | 246 => 338 | 283 => 358 | 284 => 359 | 285 => 360 | 286 => 361 | 129 => 383 | 317 => 382 | 318 => 384 | 319 => 385 | 320 => 386 | 337 => 395 | 338 => 396 | n => n,fun | 3 => 3 | 9 => 9 | 2 => 2 | 4 => 4 | 171 => 350 | 0 => 0 | 53 => 351 | 37 => 94 | 5 => 5 | 173 => 354 | 212 => 374 | 51 => 375 | 20 => 20 | 213 => 376 | 46 => 377 | 232 => 384 | 233 => 385 | n => n,fun | 17 => 1 | 18 => 2 | 19 => 3 | n => n⟩
theorem Tryz.lays171:Go.Proofs.LaysM.n171 Tryz.prog Tryz.lays171_ren where
 mixed:=by kernel_rfl
 f129:=Tryz.func383.trans (congrArg some (by kernel_rfl))
 f171:=Tryz.func241.trans (congrArg some (by kernel_rfl))
 f243:=Tryz.func305.trans (congrArg some (by kernel_rfl))
 f246:=Tryz.func338.trans (congrArg some (by kernel_rfl))
 f283:=Tryz.func358.trans (congrArg some (by kernel_rfl))
 f284:=Tryz.func359.trans (congrArg some (by kernel_rfl))
 f285:=Tryz.func360.trans (congrArg some (by kernel_rfl))
 f286:=Tryz.func361.trans (congrArg some (by kernel_rfl))
 f317:=Tryz.func382.trans (congrArg some (by kernel_rfl))
 f318:=Tryz.func384.trans (congrArg some (by kernel_rfl))
 f319:=Tryz.func385.trans (congrArg some (by kernel_rfl))
 f320:=Tryz.func386.trans (congrArg some (by kernel_rfl))
 f337:=Tryz.func395.trans (congrArg some (by kernel_rfl))
 f338:=Tryz.func396.trans (congrArg some (by kernel_rfl))
 t0:=Tryz.underlying0
 a0:=Tryz.isAgg0
 z0:=Tryz.sizeOf0
 v0:=Tryz.zeroValue0
 t2:=Tryz.underlying2
 a2:=Tryz.isAgg2
 z2:=Tryz.sizeOf2
 v2:=Tryz.zeroValue2
 t3:=Tryz.underlying3
 a3:=Tryz.isAgg3
 z3:=Tryz.sizeOf3
 v3:=Tryz.zeroValue3
 t4:=Tryz.underlying4
 a4:=Tryz.isAgg4
 z4:=Tryz.sizeOf4
 v4:=Tryz.zeroValue4
 t5:=Tryz.underlying5
 a5:=Tryz.isAgg5
 z5:=Tryz.sizeOf5
 v5:=Tryz.zeroValue5
 t9:=Tryz.underlying9
 a9:=Tryz.isAgg9
 z9:=Tryz.sizeOf9
 v9:=Tryz.zeroValue9
 t20:=Tryz.underlying20
 a20:=Tryz.isAgg20
 z20:=Tryz.sizeOf20
 v20:=Tryz.zeroValue20
 t37:=Tryz.underlying94
 a37:=Tryz.isAgg94
 z37:=Tryz.sizeOf94
 v37:=Tryz.zeroValue94
 t46:=Tryz.underlying377
 a46:=Tryz.isAgg377
 z46:=Tryz.sizeOf377
 v46:=Tryz.zeroValue377
 t51:=Tryz.underlying375
 a51:=Tryz.isAgg375
 z51:=Tryz.sizeOf375
 v51:=Tryz.zeroValue375
 t53:=Tryz.underlying351
 a53:=Tryz.isAgg351
 z53:=Tryz.sizeOf351
 v53:=Tryz.zeroValue351
 t171:=Tryz.underlying350
 a171:=Tryz.isAgg350
 z171:=Tryz.sizeOf350
 v171:=Tryz.zeroValue350
 t173:=Tryz.underlying354
 a173:=Tryz.isAgg354
 z173:=Tryz.sizeOf354
 v173:=Tryz.zeroValue354
 t212:=Tryz.underlying374
 a212:=Tryz.isAgg374
 z212:=Tryz.sizeOf374
 v212:=Tryz.zeroValue374
 t213:=Tryz.underlying376
 a213:=Tryz.isAgg376
 z213:=Tryz.sizeOf376
 t232:=Tryz.underlying384
 a232:=Tryz.isAgg384
 z232:=Tryz.sizeOf384
 v232:=Tryz.zeroValue384
 t233:=Tryz.underlying385
 a233:=Tryz.isAgg385
 z233:=Tryz.sizeOf385
 v233:=Tryz.zeroValue385
 g17:=by kernel_rfl
 g18:=by kernel_rfl
 g19:=by kernel_rfl
 i0:=by kernel_rfl
 i2:=by kernel_rfl
 i3:=by kernel_rfl
 i4:=by kernel_rfl
 i5:=by kernel_rfl
 i9:=by kernel_rfl
 i20:=by kernel_rfl
 i37:=by kernel_rfl
 i46:=by kernel_rfl
 i51:=by kernel_rfl
 i53:=by kernel_rfl
 i171:=by kernel_rfl
 i173:=by kernel_rfl
 i212:=by kernel_rfl
 i232:=by kernel_rfl
 i233:=by kernel_rfl
 m17:=by kernel_rfl
 m18:=by kernel_rfl
 m19:=by kernel_rfl
end Go.Proofs
namespace Go.Proofs.L06
open Go Go.AE
theorem dig_itoa (n:Nat):(Lib.decDigits n).map (·.toNat) = dig n:=by
 induction n using Nat.strongRecOn with
 | _ n ih =>
  rw [Lib.decDigits,dig]
  by_cases h:n < 10
  ·rw [dif_pos h,dif_pos h]
   simp only [List.map_cons,List.map_nil,List.cons.injEq,and_true]
   rw [UInt8.toNat_ofNat']; omega
  ·rw [dif_neg h,dif_neg h,List.map_append,ih _ (by omega)]
   simp only [List.map_cons,List.map_nil]
   rw [UInt8.toNat_ofNat',Nat.mod_eq_of_lt (by omega)]
theorem pow_tab:pow10 = Lib.pow10Tab.map fun n => AV.int .u64 n:=by kernel_rfl
theorem gn1 : Tryz.prog.globalNamed "internal/strconv.uint64pow10" = some 1 := by kernel_rfl
theorem tab_len:Lib.pow10Tab.length = 20:=by kernel_rfl
theorem tab_is {G : Gh} {w : World} (h : GOk G w 1 pow10) : Lib.TabIs Tryz.prog w "internal/strconv.uint64pow10" .u64 Lib.pow10Tab := by
 have hK:=h.fin
 rw [show pow10.length = 20 by kernel_rfl] at hK
 have hv:∀ i (hi:i < 20),w.cell? ⟨1,i,none⟩ = some (.int .u64 (Lib.pow10Tab[i]'(by rw [tab_len]; exact hi))):=by
  intro i hi
  have hV:=h.vr
  rw [pow_tab] at hV
  cases hV with
  | cptr _ a vals hc hv =>
   obtain ⟨b,o,e,_,hcell⟩:=hc i (by rw [List.length_map,tab_len]; exact hi)
   cases e
   have h2:=hv i (by rw [List.length_map,tab_len]; exact hi)
   have h3:(Lib.pow10Tab.map fun n => AV.int .u64 n).getD i .any = .int .u64 (Lib.pow10Tab[i]'(by rw [tab_len]; exact hi)):=by
    rw [List.getD_eq_getElem?_getD,List.getElem?_map,List.getElem?_eq_getElem (by rw [tab_len]; exact hi)]; rfl
   rw [h3] at h2
   generalize vals i = x at *
   cases h2
   rw [Nat.zero_add] at hcell
   exact hcell
 unfold Lib.TabIs World.var?
 rw [gn1,Option.bind_some]
 have h0:=hv 0 (by omega)
 unfold World.cell? at h0 hK hv
 simp only [Option.isSome_none,Bool.false_eq_true,if_false] at h0 hK hv
 cases hh:w.heap[1]? with
 | none => rw [hh] at h0; cases h0
 | some o =>
  cases o with
  | cells cs a b =>
   simp only [hh] at hK hv ⊢
   congr 1
   apply Array.ext'
   apply List.ext_getElem?
   intro i
   rw [Array.getElem?_toList]
   by_cases hi:i < 20
   ·rw [hv i hi,List.getElem?_map,List.getElem?_eq_getElem (by rw [tab_len]; exact hi)]; rfl
   ·rw [Array.getElem?_eq_none (by rw [Array.getElem?_eq_none_iff] at hK; omega),List.getElem?_eq_none (by rw [List.length_map,tab_len]; omega)]
  | _ => simp [hh] at h0
theorem ok_grow {C:Ctx} {G:Gh} {st:St} {w:World} (hr:Rel C G st w) (k:Nat) (os:Array Obj):Ok C G st w [] G st (Sort.grow (w.drewN k) os):=by
 have hold:∀ b,b < w.heap.size → (Sort.grow (w.drewN k) os).heap[b]? = w.heap[b]?:=fun b hb => by
  show (w.heap ++ os)[b]? = w.heap[b]?
  rw [Array.getElem?_append_left hb]
 have hsz:w.heap.size ≤ (Sort.grow (w.drewN k) os).heap.size:=by
  show w.heap.size ≤ (w.heap ++ os).size
  rw [Array.size_append]; omega
 have he:Ext G w G (Sort.grow (w.drewN k) os):=⟨fun _ _ h => h,fun _ _ h => h,fun b o h => by
  unfold World.cell?
  simp only
  rw [hold b (hr.kold b o h)]⟩
 exact Ok.intro hr he rfl (Nat.le_refl _) hsz (fun _ _ _ => rfl) (fun b hb _ => hold b hb) (fun l L h1 h2 => by rw [h2] at h1; cases h1) (fun _ _ h => .inl h) rfl rfl rfl
  (fun _ h => by cases h) (fun l L h1 h2 => (no_new h1 h2).elim)
  (fun l1 l2 L1 L2 h1 _ _ _ h2 _ => (no_new h1 h2).elim) (fun b o h => Nat.lt_of_lt_of_le (hr.kold b o h) hsz)
theorem cP {X:XF}:(C.withX X).P = Tryz.prog:=rfl
theorem itoa_ok {X:XF} {n:Int} (h0:0 ≤ n) (h1:n ≤ 100000) (st:St):CallOk (C.withX X) (.fn 241) [.int .i64 n] .normal st (.ret (.str (dig n.toNat)),st,none):=by
 intro G w vals hr hv
 obtain ⟨v,rfl,hv1⟩:∃ v,vals = [v] ∧ VR G w (.int .i64 n) v:=by
  match vals,hv with
  | [v],hv => exact ⟨v,rfl,hv.1⟩
 cases hv1
 refine .inl ⟨Tryz.f241,Tryz.func241,by kernel_rfl,by kernel_rfl,?_⟩
 have hg:=hr.glob 1 pow10 rfl
 have h2:=Any.strconv_Itoa Tryz.lays171 n (by omega) (by omega) w (tab_is hg)
 rw [show Tryz.lays171_ren.f 171 = 241 by kernel_rfl] at h2
 have h3:=h2.mono (R':=fun e w' => ∃ G' ls,Ok (C.withX X) G st w ls G' st w' ∧ st.log = ls ++ st.log ∧ EndRel G' w' (.ret (.str (dig n.toNat))) e) (by
  rintro e w' ⟨rfl,k,os,rfl⟩
  refine ⟨G,[],ok_grow hr k os,rfl,?_⟩
  have:dig n.toNat = (⟨(Lib.itoa n).toArray⟩:ByteArray).data.toList.map (·.toNat):=by
   simp only
   rw [Lib.itoa,if_neg (by omega),dig_itoa]
  show VR G _ (.str (dig n.toNat)) (.string ⟨(Lib.itoa n).toArray⟩)
  rw [this]
  exact .str _)
 rw [← cP (X:=X)] at h3
 exact h3
end Go.Proofs.L06

namespace Go.Proofs.L06
open Go Go.AE
def X4:XF:=fun f args st =>
 if Nat.beq f 6 then (match args with | [] => some (.bool true,st) | _ => none)
 else if Nat.beq f 241 then (match args with | [.int .i64 n] => if 0 ≤ n ∧ n ≤ 100000 then some (.str (dig n.toNat),st) else none | _ => none)
 else X0 f args st
theorem xOk4:XOk (C.withX X4):=fun f args st v st' h => by
 change X4 f args st = some (v,st') at h
 unfold X4 at h
 split at h
 ·rename_i hf
  rw [Nat.eq_of_beq_eq_true hf]
  split at h
  ·cases h
   exact upX (X:=X3) (sane_ok st)
  ·cases h
 ·split at h
  ·rename_i hf
   rw [Nat.eq_of_beq_eq_true hf]
   split at h
   ·split at h
    ·rename_i hn
     cases h
     exact itoa_ok hn.1 hn.2 st
    ·cases h
   ·cases h
  ·exact upX (X:=X0) (xOkX0 f args st v st' h)
theorem kX4:K (C.withX X4):=⟨⟨X4,rfl⟩,fun f args st h => by
 show X4 f args st = none
 have h0:X0 f args st = none:=kC0.nx f args st h
 rw [known,Bool.or_eq_false_iff,Bool.or_eq_false_iff,Bool.or_eq_false_iff,Bool.or_eq_false_iff] at h
 unfold X4
 rw [h.1,h.2.2.2.2,h0]
 rfl,fun a b st => kC0.x243 a b st,fun s c st h0 h1 => kC0.x399 s c st h0 h1,fun v st => kC0.x304 v st⟩
theorem itoa_r (n:Int) (h0:0 ≤ n) (h1:n ≤ 100000):Ret (C.withX X4) 241 [.int .i64 n] (.str (dig n.toNat)):=fun st => callW_X (by
 show X4 241 [.int .i64 n] st = _
 unfold X4
 rw [if_neg (by decide),if_pos (by decide)]
 show (if 0 ≤ n ∧ n ≤ 100000 then some (AV.str (dig n.toNat),st) else none) = _
 rw [if_pos ⟨h0,h1⟩])
theorem sane_r:Ret (C.withX X4) 6 [] (.bool true):=fun st => callW_X (by
 show X4 6 [] st = _
 unfold X4
 rw [if_pos (by decide)])
theorem law_raws {f g:Fo} (hf:f.Ok) (hg:g.Ok) (hw:f.wt ≤ 1048576) {W:World} {v0 v1:Value} (hG:GOk (Gin W) W 1 pow10) (h0:VR (Gin W) W f.av v0) (h1:VR (Gin W) W g.av v1) :
  Calls Tryz.prog 3 #[v0,v1] W fun e W' => e = .returned (.bool true) ∧ RowKit.Below W.heap.size W W':=by
 have hc:=raws_c kX4 sane_r itoa_r hf hg (by have:=Fo.txt_le f hf; omega) st00
 exact law_calls (C:=C.withX X4) (ctxOk_withX ctxOk0) xOk4 (fun g cs e => by
  change gl06 g = some cs at e
  unfold gl06 at e
  split at e
  ·rename_i hb
   rw [Nat.eq_of_beq_eq_true hb]
   cases e
   exact hG
  ·cases e) (f:=3) (fi:=F3) (ok3 kX4).fn (args:=[f.av,g.av]) (vals:=[v0,v1]) (W:=W) ⟨h0,h1,trivial⟩ hc
end Go.Proofs.L06
