/- LibraryValues returns true at every input and leaves its arguments as they were: the statement as given, no further condition. -/
import Derived.Test.YtmdakabianfbkaaGreatL6
import Derived.Test.YtmdakabianfbkaaGreatRows
import Derived.WalkKit
import Derived.ProofKit
import Derived.OpenShut
import Derived.ShutString
import Derived.ChangeOld
import Derived.Below
import Derived.Carry
import Derived.SizedLaws
set_option linter.unusedVariables false
set_option linter.unusedSimpArgs false
/- The row LibraryBack. -/
namespace Go.Proofs.YtmdakabianfbkaaGreat.libraryBack
open Go Go.AE Go.Proofs.L31 Go.ChangeShapes Go.WideShapes Go.ChangeAt Go.RowKit
open Go.ChangeMaps (open_string shut_string)
set_option linter.unusedVariables false

theorem und3 : Tryz.prog.underlying 3 = some (.int .i64) := by kernel_rfl
theorem und4 : Tryz.prog.underlying 4 = some .bool := by kernel_rfl
theorem und9 : Tryz.prog.underlying 9 = some .string := by kernel_rfl
theorem und22 : Tryz.prog.underlying 22 = some (.slice 3) := by kernel_rfl
theorem und36 : Tryz.prog.underlying 36 = some (.slice 38) := by kernel_rfl
noncomputable def fs38 : Array Field := match Tryz.prog.underlying 38 with | some (.struct fs) => fs | _ => #[]
theorem und38 : Tryz.prog.underlying 38 = some (.struct fs38) := by kernel_rfl
theorem ce3 : Tryz.prog.cellsOf 3 = 1 := by kernel_rfl
theorem ce9 : Tryz.prog.cellsOf 9 = 1 := by kernel_rfl
theorem ce36 : Tryz.prog.cellsOf 36 = 1 := by kernel_rfl
theorem ce38 : Tryz.prog.cellsOf 38 = 4 := by kernel_rfl
theorem lay38 : ∃ f0 f1 f2 f3 : Field, fs38.toList = [f0, f1, f2, f3] ∧ f0.offset = 0 ∧ f0.type = 3 ∧ f1.offset = 1 ∧ f1.type = 3 ∧ f2.offset = 2 ∧ f2.type = 9 ∧ f3.offset = 3 ∧ f3.type = 36 :=
  ⟨fs38.toList.getD 0 default, fs38.toList.getD 1 default, fs38.toList.getD 2 default, fs38.toList.getD 3 default, by kernel_rfl, by kernel_rfl, by kernel_rfl, by kernel_rfl, by kernel_rfl, by kernel_rfl, by kernel_rfl, by kernel_rfl, by kernel_rfl⟩

section
variable {H : Type} {enc : TypeId × Value → H} {w : World} {B : Nat}
def E38 (xs : List AV) : Prop := ∃ t, TmV (.agg xs) t
theorem E38.shape {xs : List AV} (h : E38 xs) : shapeOk true 4 xs := by
  obtain ⟨t, h⟩ := h
  obtain ⟨_, _, _, _, _, _, e, _⟩ := h.shape
  injection e with e
  rw [e]
  exact ⟨rfl, .inl rfl⟩
theorem pick_tms : ∀ (es : List AV), (∀ x ∈ es, ∃ t, TmV x t) → ∃ ts : List Tm, es.length = ts.length ∧ ∀ (i : Nat) e t, es[i]? = some e → ts[i]? = some t → TmV e t
  | [], _ => ⟨[], rfl, fun i e t h => by simp at h⟩
  | x :: es, h => by
    obtain ⟨t, ht⟩ := h x (by simp)
    obtain ⟨ts, h1, h2⟩ := pick_tms es fun y hy => h y (by simp [hy])
    refine ⟨t :: ts, by simp [h1], fun i e t' a b => ?_⟩
    cases i with
    | zero => simp at a b; subst a b; exact ht
    | succ i => exact h2 i e t' (by simpa using a) (by simpa using b)
theorem opn38 : ∀ fuel, Opn enc Tryz.prog w B fuel 38 E38 := by
  intro fuel
  induction fuel using Nat.strongRecOn with
  | ind fuel ih =>
    cases fuel with
    | zero => exact Opn.zero
    | succ fuel =>
      obtain ⟨f0, f1, f2, f3, e, o0, t0, o1, t1, o2, t2, o3, t3⟩ := lay38
      have h36 : Opn enc Tryz.prog w B fuel 36 (fun xs => ∃ k es, xs = [.slice k es] ∧ noTok k ∧ ∀ x ∈ es, ∃ t, TmV x t) := by
        cases fuel with
        | zero => exact Opn.zero
        | succ f =>
          refine (opn_slice (agg := true) (sz := 4) und36 ce38 (by omega) (ih f (by omega)) (fun xs h => h.shape)).mono fun xs h => ?_
          obtain ⟨k, es, h1, h2, _, _, h3⟩ := h
          refine ⟨k, es, h1, ?_, fun x hx => ?_⟩
          · rcases h2 with ⟨rfl, _⟩ | rfl <;> trivial
          · obtain ⟨⟨t, ht⟩, h4⟩ := h3 x hx
            exact ⟨t, by rw [h4]; exact ht⟩
      refine (opn_struct (Es := [_, _, _, _]) und38 (by
        rw [e, ce38]
        refine ⟨o0, by rw [t0]; exact opn_int und3, ?_⟩
        rw [t0, ce3]
        refine ⟨o1, by rw [t1]; exact opn_int und3, ?_⟩
        rw [t1, ce3]
        refine ⟨o2, by rw [t2]; exact opn_str und9, ?_⟩
        rw [t2, ce9]
        refine ⟨o3, by rw [t3]; exact h36, ?_⟩
        rw [t3, ce36]
        rfl)).mono fun xs h => ?_
      obtain ⟨a, b, rfl, ⟨k, _, _, rfl⟩, c, d, rfl, ⟨n, _, _, rfl⟩, e', f', rfl, ⟨s, _, _, _, rfl⟩, g', h', rfl, ⟨sk, es, rfl, hk, hes⟩, rfl⟩ := h
      obtain ⟨ts, l1, l2⟩ := pick_tms es hes
      exact ⟨.mk k n s ts, .mk k n s sk es ts hk l1 l2⟩
theorem opn22 : ∀ fuel, Opn enc Tryz.prog w B fuel 22 (fun xs => ∃ k l, xs = [.slice k (intsA l)])
  | 0 => Opn.zero
  | fuel + 1 => (opn_slice (agg := false) (sz := 1) und22 ce3 (by omega) (opn_int (fuel := fuel) und3) (fun xs ⟨n, _, _, h⟩ => by subst h; exact ⟨rfl, .inr ⟨_, rfl, rfl⟩⟩)).mono fun xs h => by
    obtain ⟨k, es, h1, _, _, _, h3⟩ := h
    have : ∀ es : List AV, (∀ x ∈ es, ∃ n, x = .int .i64 n) → ∃ l, es = intsA l := fun es => by
      induction es with
      | nil => exact fun _ => ⟨[], rfl⟩
      | cons x es ih =>
        intro h
        obtain ⟨n, rfl⟩ := h x (by simp)
        obtain ⟨l, rfl⟩ := ih fun y hy => h y (by simp [hy])
        exact ⟨n :: l, rfl⟩
    obtain ⟨l, rfl⟩ := this es fun x hx => by
      obtain ⟨⟨n, _, _, h4⟩, h5⟩ := h3 x hx
      rw [h4] at h5
      exact ⟨n, h5⟩
    exact ⟨k, l, h1⟩
end
end Go.Proofs.YtmdakabianfbkaaGreat.libraryBack

/- The row LibraryValues: the row's frame. -/
namespace Go.Proofs.YtmdakabianfbkaaGreat.libraryValues
open Go Go.AE Go.Proofs.L31 Go.Proofs.YtmdakabianfbkaaGreat.libraryBack Go.ChangeShapes Go.WideShapes Go.ChangeAt Go.RowKit
open Go.ChangeMaps (open_string shut_string)
set_option linter.unusedVariables false
theorem own : ownKnob Tryz.prog.godebug = none := by kernel_rfl
theorem laidOut : laidOutB Tryz.prog = true := by kernel_rfl
theorem cP : L31.C.P = Tryz.prog := rfl
theorem cGlob (g : Nat) : L31.C.glob g = none := rfl
theorem walk {n : Int} {l : List Int} {k : SK} {x : AV} {t : Tm} (hv : TmV x t) {W : World} {v0 v1 v2 : Value} (h0 : VR (Gin W) W (.int .i64 n) v0) (h1 : VR (Gin W) W (.slice k (intsA l)) v1) (h2 : VR (Gin W) W x v2) :
    Calls Tryz.prog 4 #[v0, v1, v2] W fun e W' => e = .returned (.bool true) ∧ Below W.heap.size W W' := by
  have h := law_calls (C := L31.C) ctxOk xOk cGlob (f := 4) (fi := F4) fn4 (args := [.int .i64 n, .slice k (intsA l), x]) (vals := [v0, v1, v2]) (W := W) ⟨h0, h1, h2, trivial⟩ (vals_c hv)
  rw [cP] at h
  exact h
set_option maxRecDepth 100000 in
theorem lifted (os : Os) (started : os.Started) (H : Type) (enc : TypeId × Value → H) :
    ReturnsInHanded {} Tryz.checked os 4 .any (Rows.libraryValuesSpec.pre6 enc Tryz.prog Tryz.f4 Rows.libraryValuesRow.domain false) (Rows.libraryValuesSpec.post enc Tryz.prog Tryz.f4 false true false false) := by
  refine returnsInHanded_of_change_sized (C := Tryz.checked) own started (by kernel_rfl) Tryz.func4
    (ChangeSpec.witness6 (enc := enc) (C := Tryz.checked) false ⟨#[], #[.int .i64 0, .slice none 0 0, .agg #[.int .i64 0, .int .i64 0, .string ByteArray.empty, .slice none 0 0]], []⟩ 8 (by kernel_rfl) (by kernel_rfl) (by kernel_rfl) (by kernel_rfl)) ?_
  intro W base args ds gs before hval0 hW hcnd hsz0 _
  have hval : ∀ (j : Nat) t v, Tryz.f4.params[j]? = some t → args[j]? = some v → Value.okWide Tryz.prog W .any base t v := hval0
  have hW' := hW
  obtain ⟨p, q, hA0, hV, rfl, hfz, hnd⟩ := hW
  have hA : DataW.TrodAll enc Tryz.prog W 0 (fun _ => true) true Tryz.f4.params.toList args.toList ds p := hA0
  rw [Tryz.params4] at hA hval
  obtain ⟨v0, vs0, d0, ds0, p0, q0, hargs, rfl, rfl, h0, r0⟩ := trodAll_cons hA
  obtain ⟨v1, vs1, d1, ds1, p1, q1, rfl, rfl, rfl, h1, r1⟩ := trodAll_cons r0
  obtain ⟨v2, vs2, d2, ds2, p2, q2, rfl, rfl, rfl, h2, r2⟩ := trodAll_cons r1
  obtain ⟨rfl, rfl, rfl⟩ := trodAll_nil r2
  obtain rfl : args = #[v0, v1, v2] := by cases args; simp_all
  obtain ⟨rfl, rfl⟩ := trodVars_none hV
  have k0 := h0
  have k1 := h1
  have k2 := h2
  have lt0 : ∀ x ∈ p0, x.block < W.heap.size := by obtain ⟨m, hm⟩ := k0; exact DataW.trod_lt m _ _ _ hm
  have lt1 : ∀ x ∈ p1, x.block < W.heap.size := by obtain ⟨m, hm⟩ := k1; exact DataW.trod_lt m _ _ _ hm
  have lt2 : ∀ x ∈ p2, x.block < W.heap.size := by obtain ⟨m, hm⟩ := k2; exact DataW.trod_lt m _ _ _ hm
  obtain ⟨n, a0⟩ : ∃ n, VR (Gin W) W (.int .i64 n) v0 := by
    obtain ⟨m, hm⟩ := h0
    obtain ⟨xs, ⟨n, _, _, rfl⟩, hx⟩ := opn_int und3 (B := bk d0) _ _ _ hm (Nat.le_refl _)
    exact ⟨n, arg_int und3 (hval 0 3 v0 rfl rfl) hx⟩
  obtain ⟨k, l, a1⟩ : ∃ k l, VR (Gin W) W (.slice k (intsA l)) v1 := by
    obtain ⟨m, hm⟩ := h1
    obtain ⟨xs, ⟨k, l, rfl⟩, hx⟩ := opn22 (B := bk d1) _ _ _ _ hm (Nat.le_refl _)
    exact ⟨k, l, arg_slice und22 (hval 1 22 v1 rfl rfl) hx⟩
  obtain ⟨x, t, hv, a2⟩ : ∃ x t, TmV x t ∧ VR (Gin W) W x v2 := by
    obtain ⟨m, hm⟩ := h2
    obtain ⟨xs, ⟨t, ht⟩, hx⟩ := opn38 (B := bk d2) _ _ _ _ hm (Nat.le_refl _)
    exact ⟨.agg xs, t, ht, arg_agg ⟨_, und38⟩ (hval 2 38 v2 rfl rfl) hx⟩
  refine (walk hv a0 a1 a2).mono fun e W' ⟨he, bel⟩ => ?_
  subst he
  exact ⟨_, rfl, _, _, _, [], _, [], hW', trodAll_mk1 (shut_bool und4 _),
    (trodAll_cons_mk (Below.trod laidOut (by kernel_rfl) (of_decide_eq_true (by kernel_rfl)) k0 bel lt0) (trodAll_cons_mk (Below.trod laidOut (by kernel_rfl) (of_decide_eq_true (by kernel_rfl)) k1 bel lt1) (trodAll_cons_mk (Below.trod laidOut (by kernel_rfl) (of_decide_eq_true (by kernel_rfl)) k2 bel lt2) trodAll_mk0))), rfl, bel.frame _, fun h => by cases h⟩
theorem over : Rows.libraryValuesRow.holds Tryz.pinned (OpenSpec.ofChange Rows.libraryValuesSpec) :=
  OpenClaim.holds_of_wide 4 Tryz.f4 rfl rfl rfl rfl rfl rfl rfl ⟨rfl, rfl, rfl, rfl, rfl⟩ rfl rfl rfl rfl rfl (by kernel_rfl) Tryz.func4 (by kernel_rfl)
    (of_decide_eq_true (by kernel_rfl)) (by unfold Func.isWrapper; first | (rw [if_pos (by decide +kernel)]; kernel_rfl) | (rw [if_neg (by decide +kernel)]; exact ⟨rfl, rfl⟩))
    (fun os started H enc _ => lifted os started H enc)
theorem proved : Rows.LibraryValuesSaid := over
#print axioms proved
end Go.Proofs.YtmdakabianfbkaaGreat.libraryValues
namespace Go.Proofs.YtmdakabianfbkaaGreat
theorem libraryValues_holds : Rows.LibraryValuesSaid := libraryValues.proved
end Go.Proofs.YtmdakabianfbkaaGreat
