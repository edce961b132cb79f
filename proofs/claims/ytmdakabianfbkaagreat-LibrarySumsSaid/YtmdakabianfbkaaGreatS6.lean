/- sane, and find at seven names, by evaluation. -/
import Derived.Test.YtmdakabianfbkaaGreatS5
set_option linter.unusedVariables false
set_option linter.unusedSimpArgs false
set_option linter.unusedSectionVars false
namespace Go.Proofs.P31
open Go Go.AE
def nnum (n : Int) : TO := ⟨24, [.flat (.bool false), .flat (.int .i64 n), .flat (.slice .nil [])], true, 0⟩
def rIn : List AV := [.slice .exact [.agg [.bool false, .int .i64 0, .slice .nil []], .agg [.bool true, .int .i64 0, .slice .exact [.int .i64 0, .int .i64 1, .int .i64 1, .int .i64 2, .int .i64 3, .int .i64 4]]]]
def rV : TV := .ref 3 0 3 none
def rOs : List TO := [nnum 0, nnum 1, nnum 2, ⟨33, [.ref 0 0 1 none, .ref 1 0 1 none, .ref 2 0 1 none], false, 0⟩]
theorem reach_chk : outsChk (callN C (fun _ => some 50) 50) C true 50 73 F73 x73 rIn 64 rV rOs = true := by kernel_rfl
end Go.Proofs.P31

namespace Go.Proofs.P31
open Go Go.AE
theorem xOk0 : XOk C := fun f args st v st' h => by cases h
theorem fn73_0 : C.fn 73 = some F73 := by kernel_rfl
theorem code73_0 : codeOf C 73 F73 = x73 := code73
theorem mu73 : C.mu 73 = true := by kernel_rfl
theorem n73 : max F73.ntmps rIn.length = 64 := by kernel_rfl
theorem rIn_clean : ∀ a ∈ rIn, CleanV a := fun a ha => by
  have : rIn = [rIn.head (by simp [rIn])] := rfl
  rw [this, List.mem_singleton] at ha
  subst ha
  show belowA 0 _ = true
  kernel_rfl
theorem glob0 (g : Nat) : C.glob g = none := rfl
theorem reach_ok (st : St) : CallOk C (.fn 73) rIn .normal st (.ret (rV.av st.next), pushL st (rOs.map (TO.ao st.next)), none) := by
  have h := callOk_outs (C := C) ctxOk0 xOk0 glob0 (f := 73) (fi := F73) (x := x73) (args := rIn) (mu := true) (N := 64) (m := 50) (n := 50) (lp := fun _ => some 50) (v := rV) (os := rOs) fn73_0 code73_0 mu73 n73 rIn_clean reach_chk st
  exact h
noncomputable def X1 : FuncId → List AV → St → Option (AV × St) := fun f args st => if Nat.beq f 73 && eqAs args rIn then some (rV.av st.next, pushL st (rOs.map (TO.ao st.next))) else none
noncomputable def C1 : Ctx := C.withX X1
theorem ctxOk1 : CtxOk C1 := ctxOk_withX ctxOk0
theorem xOk1 : XOk C1 := fun f args st v st' h => by
  change X1 f args st = some (v, st') at h
  unfold X1 at h
  split at h
  · rename_i hc
    rw [Bool.and_eq_true, Nat.beq_eq] at hc
    obtain ⟨h1, h2⟩ := hc
    subst h1
    rw [eqAs_spec _ _ h2]
    cases h
    exact callOk_withX (reach_ok st)
  · cases h
noncomputable def isTrueR : Option (CR × St × Option AV) → Bool
  | some (.ret (.bool true), _, _) => true
  | _ => false
theorem sane_chk : isTrueR (callN C1 (fun _ => some 60) 60 (.fn 6) [] .normal st00) = true := by kernel_rfl
theorem isTrueR_spec {r : Option (CR × St × Option AV)} (h : isTrueR r = true) : ∃ st p, r = some (.ret (.bool true), st, p) := by
  unfold isTrueR at h
  split at h
  · exact ⟨_, _, rfl⟩
  · cases h
theorem sane_ok (st : St) : CallOk C1 (.fn 6) [] .normal st (.ret (.bool true), st, none) := by
  obtain ⟨st', p, h⟩ := isTrueR_spec sane_chk
  have h1 := callW_eval h
  exact callOk_eval ctxOk1 xOk1 (fun g => glob0 g) h1 (fun a ha => by cases ha) (show belowA 0 _ = true by kernel_rfl) st
end Go.Proofs.P31

namespace Go.Proofs.P31
open Go Go.AE
structure Fnd where
  nm : List Nat
  ar : List Nat
  few : Bool
  f : Nat
def Fnd.av (x : Fnd) : AV := .tuple [.agg [.str x.nm, .str x.ar, .int .i64 0, .bool x.few, .func (.func x.f) [] []], .bool true]
def fPlus : Fnd := ⟨[112, 108, 117, 115, 64, 110, 97, 116], [110, 110, 78], false, 51⟩
def fTimes : Fnd := ⟨[116, 105, 109, 101, 115, 64, 110, 97, 116], [110, 110, 78], false, 54⟩
def fAppend : Fnd := ⟨[97, 112, 112, 101, 110, 100, 64, 108, 105, 115, 116], [108, 108, 76], false, 57⟩
def fSplit : Fnd := ⟨[115, 112, 108, 105, 116, 64, 108, 105, 115, 116], [108, 76, 76], false, 60⟩
def fPerm : Fnd := ⟨[112, 101, 114, 109, 64, 108, 105, 115, 116], [108, 76], true, 66⟩
def fSorted : Fnd := ⟨[115, 111, 114, 116, 101, 100, 64, 108, 105, 115, 116], [108], false, 68⟩
def fSort : Fnd := ⟨[115, 111, 114, 116, 64, 108, 105, 115, 116], [108, 76], true, 70⟩
def isFnd (x : Fnd) : Option (CR × St × Option AV) → Bool
  | some (.ret (.tuple [.agg [.str a, .str b, .int .i64 c, .bool d, .func (.func f) [] []], .bool true]), _, _) => a == x.nm && (b == x.ar && (decide (c = 0) && (d == x.few && Nat.beq f x.f)))
  | _ => false
theorem isFnd_spec {x : Fnd} {r : Option (CR × St × Option AV)} (h : isFnd x r = true) : ∃ st p, r = some (.ret x.av, st, p) := by
  unfold isFnd at h
  split at h
  · simp only [Bool.and_eq_true, beq_iff_eq, decide_eq_true_eq, Nat.beq_eq] at h
    obtain ⟨rfl, rfl, rfl, rfl, rfl⟩ := h
    exact ⟨_, _, rfl⟩
  · cases h
theorem plus_chk : isFnd fPlus (callN C (fun _ => some 60) 60 (.fn 38) [.str fPlus.nm] .normal st00) = true := by kernel_rfl
theorem times_chk : isFnd fTimes (callN C (fun _ => some 60) 60 (.fn 38) [.str fTimes.nm] .normal st00) = true := by kernel_rfl
theorem append_chk : isFnd fAppend (callN C (fun _ => some 60) 60 (.fn 38) [.str fAppend.nm] .normal st00) = true := by kernel_rfl
theorem split_chk : isFnd fSplit (callN C (fun _ => some 60) 60 (.fn 38) [.str fSplit.nm] .normal st00) = true := by kernel_rfl
theorem perm_chk : isFnd fPerm (callN C (fun _ => some 60) 60 (.fn 38) [.str fPerm.nm] .normal st00) = true := by kernel_rfl
theorem sorted_chk : isFnd fSorted (callN C (fun _ => some 60) 60 (.fn 38) [.str fSorted.nm] .normal st00) = true := by kernel_rfl
theorem sort_chk : isFnd fSort (callN C (fun _ => some 60) 60 (.fn 38) [.str fSort.nm] .normal st00) = true := by kernel_rfl
def fnds : List Fnd := [fPlus, fTimes, fAppend, fSplit, fPerm, fSorted, fSort]
theorem fnd_chk : ∀ x ∈ fnds, isFnd x (callN C (fun _ => some 60) 60 (.fn 38) [.str x.nm] .normal st00) = true := by
  intro x hx
  simp only [fnds, List.mem_cons, List.not_mem_nil, or_false] at hx
  rcases hx with rfl | rfl | rfl | rfl | rfl | rfl | rfl
  · exact plus_chk
  · exact times_chk
  · exact append_chk
  · exact split_chk
  · exact perm_chk
  · exact sorted_chk
  · exact sort_chk
theorem fnd_ok {x : Fnd} (hx : x ∈ fnds) (st : St) : CallOk C (.fn 38) [.str x.nm] .normal st (.ret x.av, st, none) := by
  obtain ⟨st', p, h⟩ := isFnd_spec (fnd_chk x hx)
  exact callOk_eval ctxOk0 xOk0 (fun g => glob0 g) (callW_eval h) (fun a ha => by
    rw [List.mem_singleton] at ha
    subst ha
    rfl) rfl st
def X3 : FuncId → List AV → St → Option (AV × St) := fun f args st => match args with
  | [] => if Nat.beq f 6 then some (.bool true, st) else none
  | [.str s] => if Nat.beq f 38 then (match fnds.find? fun x => x.nm == s with | some x => some (x.av, st) | none => none) else none
  | _ => none
noncomputable def C3 : Ctx := C.withX X3
theorem ctxOk3 : CtxOk C3 := ctxOk_withX ctxOk0
theorem withX_withX {C : Ctx} {X Y : FuncId → List AV → St → Option (AV × St)} : (C.withX X).withX Y = C.withX Y := rfl
theorem c13 : C1.withX X3 = C3 := withX_withX
theorem xOk3 : XOk C3 := fun f args st v st' h => by
  change X3 f args st = some (v, st') at h
  unfold X3 at h
  split at h
  · split at h
    · rename_i hc
      rw [Nat.beq_eq] at hc
      subst hc
      cases h
      rw [← c13]
      exact callOk_withX (sane_ok st)
    · cases h
  · split at h
    · rename_i s hc
      rw [Nat.beq_eq] at hc
      subst hc
      split at h
      · rename_i x hx
        cases h
        have h1 := List.find?_some hx
        rw [beq_iff_eq] at h1
        subst h1
        exact callOk_withX (fnd_ok (List.mem_of_find?_eq_some hx) st)
      · cases h
    · cases h
  · cases h
structure K3 (Q : Ctx) : Prop extends K Q where
  x6 : ∀ st, Q.X 6 [] st = some (.bool true, st)
  x38 : ∀ x ∈ fnds, ∀ st, Q.X 38 [.str x.nm] st = some (x.av, st)
theorem kC3 : K3 C3 := ⟨⟨⟨X3, rfl⟩, fun f args st h => by
  show X3 f args st = none
  rw [known, Bool.or_eq_false_iff] at h
  unfold X3
  split
  · rw [h.1]; rfl
  · rw [h.2]; rfl
  · rfl⟩, fun st => rfl, fun x hx st => by
  simp only [fnds, List.mem_cons, List.not_mem_nil, or_false] at hx
  rcases hx with rfl | rfl | rfl | rfl | rfl | rfl | rfl <;> rfl⟩
end Go.Proofs.P31
