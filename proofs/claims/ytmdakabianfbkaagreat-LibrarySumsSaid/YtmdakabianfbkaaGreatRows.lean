/-
  NARROWER THAN 'FOR EVERY INPUT', by the rows' own cells (each row's printed sentence says how): LibraryValues: loops · LibraryBack: loops.
  DERIVED. THE GIVEN ROWS OF THIS SEAT. 3 by the template 'for every input the law returns true; each argument reads behind the call as it read before'; 0 by the template 'total and deterministic' (their statements: YtmdakabianfbkaaGreatTotals.lean).
  GIVEN WITH THE SEED: the statements are not yours to turn. If you find one false, say at which input.
  Laid BY PROGRAM, IN A SANDBOX (cutbox-rows.mjs): the forced cells as the released guide's own fill.sh prints them over the translation 7e0e41beeb4e060e… (all of the seat's roots in one cut). By AI agents, Wed Nov 11 2026. No macro, syntax, notation, axiom, sorry.
-/
import Derived.Test.YtmdakabianfbkaaGreatChecked
import GoSem.Claim
import GoSem.ClaimJoined
import GoSem.ClaimMapViews
import Derived.JoinedTies
import Derived.KernelRfl
namespace Go.Proofs.YtmdakabianfbkaaGreat
/- THE CELL 'sum', in the pinned program and in every row, IS THE sha256 OF THE DUMP (.gsa) THAT YtmdakabianfbkaaGreatProg.lean LOADS. Nothing in Lean hashes anything: it is a label: what it is worth is what the hold of that sum in a sandbox is worth. -/
noncomputable def Tryz.pinned : Pinned := { name := "ytmdakabianfbkaagreat", sum := "7e0e41beeb4e060e531aac5040421d311d127c25b6a721c7ae529fa00718b810", checked := Tryz.checked }
namespace Rows
def none {H : Type} : Left H := { results := [], args := [] }

/-- 'peculiumlaw31.LibrarySums': WHATEVER THE INPUT: true; the input reads as it did. -/
def librarySumsSpec : ChangeSpec := { name := "librarySums", fn := fun _ => fun
  | [d1, d2, d3] => { results := [.lit (.bool true)], args := [d1, d2, d3] }
  | _ => none }
def librarySumsRow : OpenClaim := { program := "ytmdakabianfbkaagreat", sum := "7e0e41beeb4e060e531aac5040421d311d127c25b6a721c7ae529fa00718b810", func := "peculium/peculiumlaw31.LibrarySums", spec := "librarySums", unfollowed := true, recurses := true, plainKeys := false, apart := false }
def LibrarySumsSaid : Prop := librarySumsRow.holds Tryz.pinned (OpenSpec.ofChange librarySumsSpec)

/-- ITS FALSE NEIGHBOUR: 'it returns false'. Refute it at one input. -/
def librarySumsWrong : ChangeSpec := { name := "librarySums", fn := fun _ => fun
  | [d1, d2, d3] => { results := [.lit (.bool false)], args := [d1, d2, d3] }
  | _ => none }
def LibrarySumsWrongFalsely : Prop := librarySumsRow.holds Tryz.pinned (OpenSpec.ofChange librarySumsWrong)

/-- 'peculiumlaw31.LibraryValues': WHATEVER THE INPUT: true; the input reads as it did. -/
def libraryValuesSpec : ChangeSpec := { name := "libraryValues", fn := fun _ => fun
  | [d1, d2, d3] => { results := [.lit (.bool true)], args := [d1, d2, d3] }
  | _ => none }
def libraryValuesRow : OpenClaim := { program := "ytmdakabianfbkaagreat", sum := "7e0e41beeb4e060e531aac5040421d311d127c25b6a721c7ae529fa00718b810", func := "peculium/peculiumlaw31.LibraryValues", spec := "libraryValues", unfollowed := true, recurses := true, loops := true, plainKeys := false, apart := false }
def LibraryValuesSaid : Prop := libraryValuesRow.holds Tryz.pinned (OpenSpec.ofChange libraryValuesSpec)

/-- ITS FALSE NEIGHBOUR: 'it returns false'. Refute it at one input. -/
def libraryValuesWrong : ChangeSpec := { name := "libraryValues", fn := fun _ => fun
  | [d1, d2, d3] => { results := [.lit (.bool false)], args := [d1, d2, d3] }
  | _ => none }
def LibraryValuesWrongFalsely : Prop := libraryValuesRow.holds Tryz.pinned (OpenSpec.ofChange libraryValuesWrong)

/-- 'peculiumlaw31.LibraryBack': WHATEVER THE INPUT: true; the input reads as it did. -/
def libraryBackSpec : ChangeSpec := { name := "libraryBack", fn := fun _ => fun
  | [d1, d2, d3] => { results := [.lit (.bool true)], args := [d1, d2, d3] }
  | _ => none }
def libraryBackRow : OpenClaim := { program := "ytmdakabianfbkaagreat", sum := "7e0e41beeb4e060e531aac5040421d311d127c25b6a721c7ae529fa00718b810", func := "peculium/peculiumlaw31.LibraryBack", spec := "libraryBack", unfollowed := true, recurses := true, loops := true, plainKeys := false, apart := false }
def LibraryBackSaid : Prop := libraryBackRow.holds Tryz.pinned (OpenSpec.ofChange libraryBackSpec)

/-- ITS FALSE NEIGHBOUR: 'it returns false'. Refute it at one input. -/
def libraryBackWrong : ChangeSpec := { name := "libraryBack", fn := fun _ => fun
  | [d1, d2, d3] => { results := [.lit (.bool false)], args := [d1, d2, d3] }
  | _ => none }
def LibraryBackWrongFalsely : Prop := libraryBackRow.holds Tryz.pinned (OpenSpec.ofChange libraryBackWrong)

/- THE SECOND FORM. 'bulk': how many values and letters a reading holds, each counted each time it is reached (what is shared counts as often as it is met; a slice's spare places count too). A statement '..UptoSaid' is the law's where the arguments, and the package variables that the reading takes, are together of bulk at most 1048576: NARROWER than '..Said'. Prove '..Said' where nothing that the law and all that it calls make is longer than what came in: it says more and counts as full. Else prove '..UptoSaid'. A law counts once. -/
mutual
def uptoBulk {H : Type} : DataW H → Nat
  | .lit (.string bytes) => bytes.length + 1
  | .lit _ => 1
  | .nil => 1
  | .ptr d => uptoBulk d + 1
  | .slice elems spare => uptoBulkAll elems + uptoBulkAll spare + 1
  | .agg parts => uptoBulkAll parts + 1
  | .iface _ d => uptoBulk d + 1
  | .map entries => uptoBulkEntries entries + 1
  | .held _ => 1
def uptoBulkAll {H : Type} : List (DataW H) → Nat
  | [] => 0
  | d :: r => uptoBulk d + uptoBulkAll r
def uptoBulkEntries {H : Type} : List (Lit × DataW H) → Nat
  | [] => 0
  | x :: r => uptoBulkEntry x + uptoBulkEntries r
def uptoBulkEntry {H : Type} : Lit × DataW H → Nat
  | (.string bytes, d) => bytes.length + uptoBulk d + 1
  | (_, d) => uptoBulk d + 1
 end
def uptoSmall : (H : Type) → List (DataW H) → Bool := fun _ ds => decide (uptoBulkAll ds ≤ 1048576)
def OpenSpec.upto (s : _root_.Go.ChangeSpec) : _root_.Go.OpenSpec := { _root_.Go.OpenSpec.ofChange s with cond := some uptoSmall }

/-- 'peculiumlaw31.LibrarySums', WHERE WHAT IT READS IS OF BULK AT MOST 1048576: true; the input reads as it did. -/
def librarySumsUptoRow : OpenClaim := { program := "ytmdakabianfbkaagreat", sum := "7e0e41beeb4e060e531aac5040421d311d127c25b6a721c7ae529fa00718b810", func := "peculium/peculiumlaw31.LibrarySums", spec := "librarySums", unfollowed := true, recurses := true, plainKeys := false, apart := false, narrowed := true }
def LibrarySumsUptoSaid : Prop := librarySumsUptoRow.holds Tryz.pinned (OpenSpec.upto librarySumsSpec)

/-- 'peculiumlaw31.LibraryValues', WHERE WHAT IT READS IS OF BULK AT MOST 1048576: true; the input reads as it did. -/
def libraryValuesUptoRow : OpenClaim := { program := "ytmdakabianfbkaagreat", sum := "7e0e41beeb4e060e531aac5040421d311d127c25b6a721c7ae529fa00718b810", func := "peculium/peculiumlaw31.LibraryValues", spec := "libraryValues", unfollowed := true, recurses := true, loops := true, plainKeys := false, apart := false, narrowed := true }
def LibraryValuesUptoSaid : Prop := libraryValuesUptoRow.holds Tryz.pinned (OpenSpec.upto libraryValuesSpec)

/-- 'peculiumlaw31.LibraryBack', WHERE WHAT IT READS IS OF BULK AT MOST 1048576: true; the input reads as it did. -/
def libraryBackUptoRow : OpenClaim := { program := "ytmdakabianfbkaagreat", sum := "7e0e41beeb4e060e531aac5040421d311d127c25b6a721c7ae529fa00718b810", func := "peculium/peculiumlaw31.LibraryBack", spec := "libraryBack", unfollowed := true, recurses := true, loops := true, plainKeys := false, apart := false, narrowed := true }
def LibraryBackUptoSaid : Prop := libraryBackUptoRow.holds Tryz.pinned (OpenSpec.upto libraryBackSpec)

end Rows
end Go.Proofs.YtmdakabianfbkaaGreat
