/- FormulaRaws returns true at every input of bulk at most 1048576 and leaves its arguments as they were: the tied card of the second form as given, no further condition. -/
import Derived.Test.YtdlahjpoiichkaaGreatDoorT2
import Derived.Test.YtdlahjpoiichkaaGreatDoorR0
import Derived.Test.YtdlahjpoiichkaaGreatDoorR1
import Derived.Test.YtdlahjpoiichkaaGreatDoorR2
import Derived.Test.YtdlahjpoiichkaaGreatDoorR3
import Derived.Test.YtdlahjpoiichkaaGreatDoorR4
import Derived.Test.YtdlahjpoiichkaaGreatDoorR5
import Derived.Test.YtdlahjpoiichkaaGreatDoorR6
import Derived.Test.YtdlahjpoiichkaaGreatDoorR7
import Derived.Deep.DeepHandedRow
import Derived.Test.YtdlahjpoiichkaaGreatDoorRows
import Derived.WalkKit
import Derived.ProofKit
import Derived.OpenShut
import Derived.ShutString
import Derived.ChangeOld
import Derived.Below
import Derived.Carry
import Derived.SizedLaws
import Derived.LaidLaws
import Derived.JoinedOf
import Derived.Stop.Joined
import Derived.Stop.LaidErr
import Derived.Test.YtdlahjpoiichkaaGreatDoorCards
import Derived.Test.YtdlahjpoiichkaaGreatDoorTie
import Derived.SevenTiedAt
set_option linter.unusedVariables false
set_option linter.unusedSimpArgs false
set_option linter.unusedSectionVars false
namespace Go.Proofs.YtdlahjpoiichkaaGreatDoor.formulaRaws
open Go Go.AE Go.Proofs.L06 Go.ChangeShapes Go.WideShapes Go.ChangeAt Go.RowKit
open Go.ChangeMaps (open_string shut_string)
theorem own:ownKnob Tryz.prog.godebug = none:=by kernel_rfl
theorem laidOut:laidOutB Tryz.prog = true:=by kernel_rfl
theorem und4:Tryz.prog.underlying 4 = some .bool:=by kernel_rfl
theorem und351:Tryz.prog.underlying 351 = some (.int .u64):=by kernel_rfl
theorem und374:Tryz.prog.underlying 374 = some (.array 20 351):=by kernel_rfl
theorem ce351:Tryz.prog.cellsOf 351 = 1:=by kernel_rfl
theorem ce374:Tryz.prog.cellsOf 374 = 20:=by kernel_rfl
theorem gty1:(Tryz.prog.globals[1]?).map (·.type) = some 374:=by kernel_rfl
theorem lay_pow:(Rows.laid_internal_strconv_uint64pow10:DataW Unit) = Lib.tabData .u64 Lib.pow10Tab:=by kernel_rfl
theorem tab_of {W : World} (h : laidMetH Tryz.prog Rows.formulaRawsUptoRow.laid W) : Lib.TabIs Tryz.prog W "internal/strconv.uint64pow10" .u64 Lib.pow10Tab := by
 have h1 : laidMet Tryz.prog [("math/bits.deBruijn32tab", Rows.laid_math_bits_deBruijn32tab), ("math/bits.deBruijn64tab", Rows.laid_math_bits_deBruijn64tab), ("internal/strconv.uint64pow10", Rows.laid_internal_strconv_uint64pow10)] W := h
 have h2:=h1.tail.tail
 rw [lay_pow] at h2
 exact Lib.tabIs_of_head gn1 gty1 und374 und351 ce351 ce374 h2
theorem gok_of {W : World} (h : Lib.TabIs Tryz.prog W "internal/strconv.uint64pow10" .u64 Lib.pow10Tab) : GOk (Gin W) W 1 pow10 := by
 have hc:=fun i hi => h.cell gn1 i hi
 have hlt:(1:Nat) < W.heap.size:=by
  have:=hc 0 (by rw [tab_len]; omega)
  unfold World.cell? at this
  by_cases hb:1 < W.heap.size
  ·exact hb
  ·rw [Array.getElem?_eq_none (by simp only; omega)] at this; cases this
 rw [pow_tab]
 refine ⟨.cptr _ _ (fun i => .int .u64 (Lib.pow10Tab.getD i 0)) (fun i hi => ?_) (fun i hi => ?_),hlt,?_⟩
 ·rw [List.length_map] at hi
  exact ⟨1,0,rfl,hlt,by rw [Nat.zero_add]; exact hc i hi⟩
 ·rw [List.length_map] at hi
  rw [List.getD_eq_getElem?_getD,List.getElem?_map,List.getElem?_eq_getElem hi]
  have:Lib.pow10Tab.getD i 0 = Lib.pow10Tab[i]:=by rw [List.getD_eq_getElem?_getD,List.getElem?_eq_getElem hi]; rfl
  rw [this]
  exact .int _ _
 ·rw [List.length_map]
  have:=World.var?_cell gn1 h Lib.pow10Tab.length
  rw [this]
  simp
def litV:DataW Unit → Value | .lit (.int k z) => .int k z | _ => .bool false
def cellsV:DataW Unit → Array Value | .agg l => (l.map litV).toArray | _ => #[]
def setCells (cs:Array Value):Obj → Obj
 | .cells _ t frozen => .cells cs t frozen
 | o => o
noncomputable def laidWorld (os:Os):World :=
 { World.holding Tryz.prog os ⟨#[],#[],[]⟩ with heap:=(((World.holding Tryz.prog os ⟨#[],#[],[]⟩).heap.modify 1 (setCells (cellsV Rows.laid_internal_strconv_uint64pow10))).modify 2 (setCells (cellsV Rows.laid_math_bits_deBruijn32tab))).modify 3 (setCells (cellsV Rows.laid_math_bits_deBruijn64tab)) }
theorem laidWorld_met (os:Os) (args:Array Value):laidMetH Tryz.prog Rows.formulaRawsUptoRow.laid ((laidWorld os).forCall (fun _ _ => 0) ⟨#[],args,[]⟩).memory :=
 (show laidMet Tryz.prog Rows.formulaRawsUptoRow.laid ((laidWorld os).forCall (fun _ _ => 0) ⟨#[],args,[]⟩).memory from laidMet_of_run' 8 (by kernel_rfl) (by kernel_rfl))
noncomputable def zf:Value:=.agg #[.int .i64 0,.string ⟨#[]⟩,.slice none 0 0,.string ⟨#[]⟩,.slice none 0 0,.slice none 0 0]
theorem reads (os:Os) {H:Type} (enc:TypeId × Value → H):∃ places,DataW.whole enc Tryz.prog ((laidWorld os).forCall (fun _ _ => 0) ⟨#[],#[zf,zf],[]⟩).memory Tryz.f3.params.toList Rows.formulaRawsSpec.vars false #[zf,zf].toList 8 =
  some ([.agg [.lit (.int .i64 0),.lit (.string []),.nil,.agg [.lit (.string []),.nil],.nil],.agg [.lit (.int .i64 0),.lit (.string []),.nil,.agg [.lit (.string []),.nil],.nil]],[],places) :=
 ⟨[],by kernel_rfl⟩
set_option maxRecDepth 100000 in
theorem lifted (os:Os) (started:os.Started) (H:Type) (enc:TypeId × Value → H) (F:Stop.Interp) :
  ReturnsInHanded {} Tryz.checked os 3 .any ((Rows.OpenSpec.upto Rows.formulaRawsSpec).preRow enc Tryz.prog Tryz.f3 Rows.formulaRawsUptoRow.domain false Rows.formulaRawsUptoRow.laid) (((Rows.OpenSpec.upto Rows.formulaRawsSpec).at F).post enc Tryz.prog Tryz.f3 false true false false):=by
 obtain ⟨places,hx⟩:=reads os enc
 refine returnsInHanded_of_row (C:=Tryz.checked) (s:=Rows.OpenSpec.upto Rows.formulaRawsSpec) own started (by kernel_rfl) Tryz.func3
  (witness_row_at (enc:=enc) (C:=Tryz.checked) false (laidWorld os) #[zf,zf] rfl (by kernel_rfl) (by kernel_rfl) (by kernel_rfl)
   (OpenSpec.preRow_of_cond 8 hx (by kernel_rfl) (fun k hk => by cases hk; kernel_rfl) (by kernel_rfl) (laidWorld_met os _))) ?_
 intro W base args ds gs before hval0 hW _ hk _ hL _ _
 have hval:∀ (j:Nat) t v,Tryz.f3.params[j]? = some t → args[j]? = some v → Value.okWide Tryz.prog W .any base t v:=hval0
 have hW':=hW
 obtain ⟨p,q,hA0,hV,rfl,hfz,hnd⟩:=hW
 have hA:DataW.TrodAll enc Tryz.prog W 0 (fun _ => true) true Tryz.f3.params.toList args.toList ds p:=hA0
 rw [Tryz.params3] at hA hval
 obtain ⟨v0,vs0,d0,ds0,p0,q0,hargs,rfl,rfl,h0,r0⟩:=trodAll_cons hA
 obtain ⟨v1,vs1,d1,ds1,p1,q1,rfl,rfl,rfl,h1,r1⟩:=trodAll_cons r0
 obtain ⟨rfl,rfl,rfl⟩:=trodAll_nil r1
 obtain rfl:args = #[v0,v1]:=by cases args; simp_all
 obtain ⟨rfl,rfl⟩:=trodVars_none hV
 have hb:Rows.uptoBulk d0 ≤ 1048576:=by
  have h:=of_decide_eq_true (hk _ rfl)
  simp only [List.append_nil,Rows.uptoBulkAll] at h
  omega
 have k0:=h0
 have k1:=h1
 have lt0:∀ x ∈ p0,x.block < W.heap.size:=by obtain ⟨m,hm⟩:=k0; exact DataW.trod_lt m _ _ _ hm
 have lt1:∀ x ∈ p1,x.block < W.heap.size:=by obtain ⟨m,hm⟩:=k1; exact DataW.trod_lt m _ _ _ hm
 obtain ⟨f,of,wf,a0⟩:∃ f:Fo,f.Ok ∧ f.wt ≤ Rows.uptoBulk d0 ∧ VR (Gin W) W f.av v0:=by
  obtain ⟨m,hm⟩:=h0
  obtain ⟨xs,⟨a,ha,rfl,hw⟩,hx⟩:=opb28 _ _ _ _ hm
  refine ⟨a,ha,hw,?_⟩
  have:=arg_agg ⟨_,rund28⟩ (hval 0 28 v0 rfl rfl) hx
  obtain ⟨x1,x2,x3,x4,x5,x6,x7⟩:=a
  exact this
 obtain ⟨g,og,a1⟩:∃ f:Fo,f.Ok ∧ VR (Gin W) W f.av v1:=by
  obtain ⟨m,hm⟩:=h1
  obtain ⟨xs,⟨a,ha,rfl,_⟩,hx⟩:=opb28 _ _ _ _ hm
  refine ⟨a,ha,?_⟩
  have:=arg_agg ⟨_,rund28⟩ (hval 1 28 v1 rfl rfl) hx
  obtain ⟨x1,x2,x3,x4,x5,x6,x7⟩:=a
  exact this
 refine (law_raws of og (by omega) (gok_of (tab_of hL)) a0 a1).mono fun e W' ⟨he,bel⟩ => ?_
 subst he
 exact ⟨_,rfl,_,_,_,[],_,[],hW',trodAll_mk1 (shut_bool und4 _),
  (trodAll_cons_mk (Below.trod laidOut (by kernel_rfl) (of_decide_eq_true (by kernel_rfl)) k0 bel lt0) (trodAll_cons_mk (Below.trod laidOut (by kernel_rfl) (of_decide_eq_true (by kernel_rfl)) k1 bel lt1) trodAll_mk0)),rfl,bel.frame _,fun h => by cases h⟩
end Go.Proofs.YtdlahjpoiichkaaGreatDoor.formulaRaws

namespace Go.Proofs.YtdlahjpoiichkaaGreatDoor.formulaRaws
open Go Go.AE Go.Proofs.L06 Go.ChangeShapes Go.WideShapes Go.ChangeAt Go.RowKit
theorem andT {a b:Bool} (h:a = true) (k:b = true):(a && b) = true:=by rw [h,k]; rfl
theorem jf_of {P:Program} {f:FuncId} {fn:Func} {s:ChangeSpec} {c:OpenClaim} (h0:c.wf (OpenSpec.ofChange s) = true)
  (h1:laidOutB P = true)
  (h2:mapsRowed P = true)
  (h3:fn.params.all (P.readableRec ·) = true)
  (h4:namedTie P c.named s.vars = true)
  (h5:(c.stops == []) = true)
  (h6:(P.stops == []) = true)
  (h7:(c.knobs == []) = true)
  (h8:(P.stopKnobs == []) = true)
  (h9:(c.inPlace == P.inPlace f) = true)
  (h10:(c.unfollowed == P.unfollowed f) = true)
  (h11:(c.recurses == P.recurses f) = true)
  (h12:(c.named == P.varsNamed f) = true)
  (h13:(c.maps == (fn.params.toList ++ s.plain.varTypes P).any (P.mapsRec ·)) = true)
  (h14:(c.ifaces == (fn.params.toList ++ s.plain.varTypes P).any (P.ifacesRec ·)) = true)
  (h15:(c.mapsOut == P.mapsAmong fn.resultTypes.toList) = true)
  (h16:(c.loops == (fn.params.toList ++ s.plain.varTypes P).any (P.loopsFrom ·)) = true)
  (h17:(c.wideKeys == (fn.params.toList ++ s.plain.varTypes P ++ fn.resultTypes.toList).any (P.wideKeysFrom ·)) = true)
  (h18:s.vars.all (P.varReadable ·) = true)
  (h19:fn.resultTypes.all (fun t => P.readableRec t && decide (t < P.types.size)) = true)
  (h20:(c.ifacesOut == fn.resultTypes.toList.any (P.ifacesRec ·)) = true)
  (h21:(c.loopsOut == fn.resultTypes.toList.any (P.loopsFrom ·)) = true)
  (h22:(c.plainKeys == P.plainKeys) = true)
  (h23:c.shortTexts.isNone = true)
  (h24:P.stopsHeard = true)
  (h25:P.mayEnter = true)
  (h26:(c.lifted == P.liftsFinal) = true)
  (h27:(P.make == some c.make) = true)
  (h28:(c.kinds == (if c.domain.isEmpty then [] else fn.params.toList.map fun t => match P.underlying t with | some (.int k) => some k | _ => none)) = true)
  (h29:(c.pinned == c.pinnedBy) = true)
  (h30:(c.veiled == (fn.params.toList ++ s.plain.varTypes P ++ fn.resultTypes.toList).any (P.veiledRec ·)) = true)
  (h31:c.veiledFits P fn.params.toList (fn.params.toList ++ s.plain.varTypes P ++ fn.resultTypes.toList) = true):joinedFacts P f fn s c = true:=by
 unfold joinedFacts
 exact (andT (andT (andT (andT (andT (andT (andT (andT (andT (andT (andT (andT (andT (andT (andT (andT (andT (andT (andT (andT (andT (andT (andT (andT (andT (andT (andT (andT (andT (andT (andT h0 h1) h2) h3) h4) h5) h6) h7) h8) h9) h10) h11) h12) h13) h14) h15) h16) h17) h18) h19) h20) h21) h22) h23) h24) h25) h26) h27) h28) h29) h30) h31)
set_option maxRecDepth 100000 in
theorem jf:joinedFacts Tryz.pinned.checked.prog 3 Tryz.f3 (Rows.OpenSpec.upto Rows.formulaRawsSpec).bare Rows.formulaRawsUptoRow = true :=
 @jf_of Tryz.pinned.checked.prog 3 Tryz.f3 (Rows.OpenSpec.upto Rows.formulaRawsSpec).bare Rows.formulaRawsUptoRow jf0 jf1 jf2 jf3 jf4 jf5 jf6 jf7 jf8 jf9 jf10 jf11 jf12 jf13 jf14 jf15 jf16 jf17 jf18 jf19 jf20 jf21 jf22 jf23 jf24 jf25 jf26 jf27 jf28 jf29 jf30 jf31
theorem over:Rows.FormulaRawsUptoSaid :=
 OpenClaim.holds_of_cond 3 Tryz.f3 rfl rfl rfl rfl rfl rfl rfl ⟨rfl,rfl,rfl,rfl,rfl⟩ rfl rfl rfl rfl rfl jn Tryz.func3 jf
  (of_decide_eq_true (by kernel_rfl)) (by unfold Func.isWrapper; first | (rw [if_pos (by decide +kernel)]; kernel_rfl) | (rw [if_neg (by decide +kernel)]; exact ⟨rfl,rfl⟩))
  (fun os started H enc _ F => by rw [OpenClaim.pre_eq_preRow]; exact lifted os started H enc F)
theorem card:Rows.FormulaRawsUptoCardSaid :=
 Claim7.holds_tied_plain_at .later [] [.data, .data, .data] true (true, "53c5f695c884b1b452e8f2e73227ce86b02727ad5e531ddb74c5ff9f2191b0c3") true
  over (fun _ h => by cases h) jc1 (fun _ h => by cases h) formulaRawsUpto_row_tie rfl ⟨rfl,rfl⟩ jc2 rfl
  (fun f fn hf hfn => by
   obtain rfl : f = 3 := Option.some.inj ((show Tryz.prog.funcNamed "peculium/peculiumlaw06.FormulaRaws" = some 3 from jn).symm.trans hf) |>.symm
   obtain rfl:fn = Tryz.f3:=(Option.some.inj (Tryz.func3.symm.trans hfn)).symm
   exact ⟨jc3,fun j t ht => by
    rw [Tryz.params3] at ht
    have h3:t = 28:=by
     rcases j with _ | _ | j
     ·simpa using ht.symm
     ·simpa using ht.symm
     ·simp at ht
    subst h3
    exact jc4⟩)
  jc5
#print axioms card
end Go.Proofs.YtdlahjpoiichkaaGreatDoor.formulaRaws
namespace Go.Proofs.YtdlahjpoiichkaaGreatDoor
theorem formulaRaws_holds:Rows.FormulaRawsUptoCardSaid:=formulaRaws.card
end Go.Proofs.YtdlahjpoiichkaaGreatDoor
