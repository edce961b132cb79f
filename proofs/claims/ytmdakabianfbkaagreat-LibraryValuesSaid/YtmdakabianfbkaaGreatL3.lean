/- sane returns true, by evaluation. -/
import Derived.Test.YtmdakabianfbkaaGreatL2
set_option linter.unusedVariables false
set_option linter.unusedSimpArgs false
/- sane, evaluated. -/
namespace Go.Proofs.L31
open Go Go.AE
theorem fn73_0 : C0.fn 73 = some F73 := by kernel_rfl
theorem code73_0 : codeOf C0 73 F73 = x73 := (codeW (C := C0) (X := X2)).symm.trans code73
theorem mu73 : C0.mu 73 = true := by kernel_rfl
theorem n73 : max F73.ntmps rIn.length = 64 := by kernel_rfl
theorem rIn_clean : ∀ a ∈ rIn, CleanV a := fun a ha => by
  have : rIn = [rIn.head (by simp [rIn])] := rfl
  rw [this, List.mem_singleton] at ha
  subst ha
  show belowA 0 _ = true
  kernel_rfl
theorem glob0 (g : Nat) : C0.glob g = none := rfl
theorem reach_ok (st : St) : CallOk C0 (.fn 73) rIn .normal st (.ret (rV.av st.next), pushL st (rOs.map (TO.ao st.next)), none) := by
  have h := callOk_outs (C := C0) ctxOk0 xOk0 glob0 (f := 73) (fi := F73) (x := x73) (args := rIn) (mu := true) (N := 64) (m := 50) (n := 50) (lp := fun _ => some 50) (v := rV) (os := rOs) fn73_0 code73_0 mu73 n73 rIn_clean reach_chk st
  exact h
/-- What is known of `reach`. -/
noncomputable def X1 : FuncId → List AV → St → Option (AV × St) := fun f args st => if Nat.beq f 73 && eqAs args rIn then some (rV.av st.next, pushL st (rOs.map (TO.ao st.next))) else none
noncomputable def C1 : Ctx := C0.withX X1
theorem ctxOk1 : CtxOk C1 := ctxOk_withX ctxOk0
theorem xOk1 : XOk C1 := fun f args st v st' h => by
  change X1 f args st = some (v, st') at h
  unfold X1 at h
  split at h
  · rename_i hc
    rw [Bool.and_eq_true, Nat.beq_eq] at hc
    obtain ⟨h1, h2⟩ := hc
    subst h1
    rw [eqAs_spec _ _ h2]
    cases h
    exact callOk_withX (reach_ok st)
  · cases h
noncomputable def isTrueR : Option (CR × St × Option AV) → Bool
  | some (.ret (.bool true), _, _) => true
  | _ => false
theorem sane_chk : isTrueR (callN C1 (fun _ => some 60) 60 (.fn 6) [] .normal st00) = true := by kernel_rfl
theorem isTrueR_spec {r : Option (CR × St × Option AV)} (h : isTrueR r = true) : ∃ st p, r = some (.ret (.bool true), st, p) := by
  unfold isTrueR at h
  split at h
  · exact ⟨_, _, rfl⟩
  · cases h
theorem sane_ok (st : St) : CallOk C1 (.fn 6) [] .normal st (.ret (.bool true), st, none) := by
  obtain ⟨st', p, h⟩ := isTrueR_spec sane_chk
  have h1 := callW_eval h
  exact callOk_eval ctxOk1 xOk1 (fun g => glob0 g) h1 (fun a ha => by cases ha) (show belowA 0 _ = true by kernel_rfl) st
end Go.Proofs.L31

/- The context in which sane is known. -/
namespace Go.Proofs.L31
open Go Go.AE
theorem withX_withX {C : Ctx} {X Y : FuncId → List AV → St → Option (AV × St)} : (C.withX X).withX Y = C.withX Y := rfl
theorem c12 : C1.withX X2 = C := withX_withX
theorem xOk : XOk C := fun f args st v st' h => by
  change X2 f args st = some (v, st') at h
  unfold X2 at h
  split at h
  · split at h
    · rename_i hc
      rw [Nat.beq_eq] at hc
      subst hc
      cases h
      rw [← c12]
      exact callOk_withX (sane_ok st)
    · cases h
  · cases h
end Go.Proofs.L31
