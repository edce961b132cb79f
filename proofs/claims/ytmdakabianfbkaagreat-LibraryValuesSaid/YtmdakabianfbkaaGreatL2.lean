/- All outcomes of reach at the one call that sane makes. -/
import Derived.Test.YtmdakabianfbkaaGreatL1
set_option linter.unusedVariables false
set_option linter.unusedSimpArgs false
/- reach, at the one call that sane makes. -/
namespace Go.Proofs.L31
open Go Go.AE
def nnum (n : Int) : TO := ⟨24, [.flat (.bool false), .flat (.int .i64 n), .flat (.slice .nil [])], true, 0⟩
def rIn : List AV := [.slice .exact [.agg [.bool false, .int .i64 0, .slice .nil []], .agg [.bool true, .int .i64 0, .slice .exact [.int .i64 0, .int .i64 1, .int .i64 1, .int .i64 2, .int .i64 3, .int .i64 4]]]]
def rV : TV := .ref 3 0 3 none
def rOs : List TO := [nnum 0, nnum 1, nnum 2, ⟨33, [.ref 0 0 1 none, .ref 1 0 1 none, .ref 2 0 1 none], false, 0⟩]
theorem reach_chk : outsChk (callN C0 (fun _ => some 50) 50) C0 true 50 73 F73 x73 rIn 64 rV rOs = true := by kernel_rfl
end Go.Proofs.L31
