/- The contexts of law 31 and its types. -/
import Derived.Test.YtmdakabianfbkaaGreatE7
import Derived.Test.YtmdakabianfbkaaGreatRows
set_option linter.unusedVariables false
set_option linter.unusedSimpArgs false
set_option linter.unusedSectionVars false
namespace Go.Proofs.P31
open Go Go.AE
abbrev XF := FuncId → List AV → St → Option (AV × St)
def muL : List Nat := [62,52,56,60,37,51,54,55,57,61,64,65,66,68,70,73,74,96,71,98,107,59,92]
noncomputable def C : Ctx := ctxOf Tryz.prog (fun _ _ _ => none) (fun f => muL.any (Nat.beq f)) (fun f => !(muL.any (Nat.beq f)))
theorem ctxOk0 : CtxOk C := ctxOf_ok (by kernel_rfl)
def known (f : Nat) : Bool := Nat.beq f 6 || Nat.beq f 38
structure K (Q : Ctx) : Prop where
  ex : ∃ X : XF, Q = C.withX X
  nx : ∀ f args st, known f = false → Q.X f args st = none
section
variable {D : Ctx} {X : XF}
theorem wx_ty {t : Nat} {ti : TI} (e : D.ty t = some ti) : (D.withX X).ty t = some ti := e
theorem wx_ok {f : FuncId} {fi : FI} {x : XC} {mu : Bool} (e : FnOk D f fi x mu) : FnOk (D.withX X) f fi x mu := ⟨e.fn, codeW.trans e.code, e.mu, e.draws⟩
theorem wx_frz {f : FuncId} {b : Bool} (e : D.frz f = b) : (D.withX X).frz f = b := e
end
theorem K.ty_ {Q : Ctx} (h : K Q) {t : Nat} {ti : TI} (e : C.ty t = some ti) : Q.ty t = some ti := by
  obtain ⟨X, rfl⟩ := h.ex
  exact wx_ty e
theorem K.ok_ {Q : Ctx} (h : K Q) {f : FuncId} {fi : FI} {x : XC} {mu : Bool} (e : FnOk C f fi x mu) : FnOk Q f fi x mu := by
  obtain ⟨X, rfl⟩ := h.ex
  exact wx_ok e
theorem K.frz_ {Q : Ctx} (h : K Q) {f : FuncId} {b : Bool} (e : C.frz f = b) : Q.frz f = b := by
  obtain ⟨X, rfl⟩ := h.ex
  exact wx_frz e
abbrev Ret (Q : Ctx) (f : FuncId) (args : List AV) (v : AV) : Prop := ∀ st, callW Q (.fn f) args .normal st = some (.ret v, st, none)
end Go.Proofs.P31

namespace Go.Proofs.P31
open Go Go.AE
noncomputable def T2 : TI := ⟨(.int .i64), 1, 8, false, [(.int .i64 0)], []⟩
noncomputable def T3 : TI := ⟨(.int .i64), 1, 8, false, [(.int .i64 0)], []⟩
theorem ty3 : C.ty 3 = some T3 := by kernel_rfl
theorem tw3 {Q : Ctx} (hK : K Q) : Q.ty 3 = some T3 := hK.ty_ ty3
noncomputable def T4 : TI := ⟨.bool, 1, 1, false, [(.bool false)], []⟩
theorem ty4 : C.ty 4 = some T4 := by kernel_rfl
theorem tw4 {Q : Ctx} (hK : K Q) : Q.ty 4 = some T4 := hK.ty_ ty4
noncomputable def T5 : TI := ⟨(.int .u8), 1, 1, false, [(.int .u8 0)], []⟩
theorem ty5 : C.ty 5 = some T5 := by kernel_rfl
theorem tw5 {Q : Ctx} (hK : K Q) : Q.ty 5 = some T5 := hK.ty_ ty5
noncomputable def T9 : TI := ⟨.string, 1, 16, false, [(.str [])], []⟩
theorem ty9 : C.ty 9 = some T9 := by kernel_rfl
theorem tw9 {Q : Ctx} (hK : K Q) : Q.ty 9 = some T9 := hK.ty_ ty9
noncomputable def T21 : TI := ⟨(.int .i32), 1, 4, false, [(.int .i32 0)], []⟩
noncomputable def T22 : TI := ⟨(.slice 3), 1, 24, false, [(.slice .nil [])], []⟩
theorem ty22 : C.ty 22 = some T22 := by kernel_rfl
theorem tw22 {Q : Ctx} (hK : K Q) : Q.ty 22 = some T22 := hK.ty_ ty22
noncomputable def T24 : TI := ⟨Tryz.t23.desc, 3, 40, true, [(.bool false), (.int .i64 0), (.slice .nil [])], [(0, 1), (1, 1), (2, 1)]⟩
theorem ty24 : C.ty 24 = some T24 := by kernel_rfl
theorem tw24 {Q : Ctx} (hK : K Q) : Q.ty 24 = some T24 := hK.ty_ ty24
noncomputable def T28 : TI := ⟨(.slice 33), 1, 24, false, [(.slice .nil [])], []⟩
theorem ty28 : C.ty 28 = some T28 := by kernel_rfl
theorem tw28 {Q : Ctx} (hK : K Q) : Q.ty 28 = some T28 := hK.ty_ ty28
noncomputable def T33 : TI := ⟨(.slice 24), 1, 24, false, [(.slice .nil [])], []⟩
theorem ty33 : C.ty 33 = some T33 := by kernel_rfl
theorem tw33 {Q : Ctx} (hK : K Q) : Q.ty 33 = some T33 := hK.ty_ ty33
noncomputable def T65 : TI := ⟨Tryz.t64.desc, 5, 56, true, [(.str []), (.str []), (.int .i64 0), (.bool false), .nilfn], [(0, 1), (1, 1), (2, 1), (3, 1), (4, 1)]⟩
theorem ty65 : C.ty 65 = some T65 := by kernel_rfl
theorem tw65 {Q : Ctx} (hK : K Q) : Q.ty 65 = some T65 := hK.ty_ ty65
noncomputable def T85 : TI := ⟨(.int .u64), 1, 8, false, [(.int .u64 0)], []⟩
theorem ty85 : C.ty 85 = some T85 := by kernel_rfl
theorem tw85 {Q : Ctx} (hK : K Q) : Q.ty 85 = some T85 := hK.ty_ ty85
noncomputable def T121 : TI := ⟨(.int .u64), 1, 8, false, [(.int .u64 0)], []⟩
theorem ty121 : C.ty 121 = some T121 := by kernel_rfl
theorem tw121 {Q : Ctx} (hK : K Q) : Q.ty 121 = some T121 := hK.ty_ ty121
noncomputable def T132 : TI := ⟨(.int .u64), 1, 8, false, [(.int .u64 0)], []⟩
theorem ty132 : C.ty 132 = some T132 := by kernel_rfl
theorem tw132 {Q : Ctx} (hK : K Q) : Q.ty 132 = some T132 := hK.ty_ ty132
end Go.Proofs.P31
