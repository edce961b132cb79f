/- The compiled code of the functions that the law FormulaOrder calls. -/
import Derived.Test.YtdlahjpoiichkaaGreatDoorS1
set_option linter.unusedVariables false
set_option linter.unusedSimpArgs false
set_option linter.unusedSectionVars false
namespace Go.Proofs.L06
open Go Go.AE
noncomputable def b3:Code:=Tryz.f3.body.getD .skip
noncomputable def d3_0:Array Oper:=(drawsOf b3).getD 0 #[]
noncomputable def d3_1:Array Oper:=(drawsOf b3).getD 1 #[]
noncomputable def x3:XC :=
 (.seq (.ops [oM 2 (.box 28 (.t 0)),
 oM 3 (.box 28 (.t 1)),
 oM 4 (.mv (.c (.bool false)))])
 (.seq (.ops [oM 7 (.call (.c (.func (.func 6) [] [])) []),
 oM 5 (.mv (.t 7))])
 (.seq (.draw d3_0 [oM 8 (.load true 6 (.t 2)),
 oM 9 (.call (.c (.func (.func 7) [] [])) [(.t 8)]),
 oM 10 (.load true 6 (.t 2)),
 oM 11 (.call (.c (.func (.func 8) [] [])) [(.t 10)]),
 oM 12 (.binI .eql 30 (.tmp 9) (.tmp 11) (.t 9) (.t 11)),
 oM 13 (.mv (.t 12)),
 ⟨some 14,.load true 6 (.t 2),(some (some 13,true))⟩,
 ⟨some 15,.call (.c (.func (.func 9) [] [])) [(.t 14)],(some (some 13,true))⟩,
 ⟨some 16,.load true 6 (.t 2),(some (some 13,true))⟩,
 ⟨some 17,.call (.c (.func (.func 10) [] [])) [(.t 16)],(some (some 13,true))⟩,
 ⟨some 18,.binI .eql 3 (.tmp 15) (.tmp 17) (.t 15) (.t 17),(some (some 13,true))⟩,
 oM 19 (.pick (.t 13) (.t 18) (.c (.bool false))),
 oM 20 (.mv (.t 19)),
 ⟨some 21,.load true 6 (.t 2),(some (some 20,true))⟩,
 ⟨some 22,.call (.c (.func (.func 11) [] [])) [(.t 21)],(some (some 20,true))⟩,
 ⟨some 23,.load true 6 (.t 2),(some (some 20,true))⟩,
 ⟨some 24,.call (.c (.func (.func 12) [] [])) [(.t 23)],(some (some 20,true))⟩,
 ⟨some 25,.binS .eql 9 (.tmp 22) (.tmp 24) (.t 22) (.t 24),(some (some 20,true))⟩,
 oM 26 (.pick (.t 20) (.t 25) (.c (.bool false))),
 oM 6 (.mv (.t 26))])
 (.seq (.draw d3_1 [oM 27 (.mv (.t 5)),
 oM 28 (.mv (.t 27)),
 ⟨some 29,.mv (.t 6),(some (some 28,true))⟩,
 oM 30 (.pick (.t 28) (.t 29) (.c (.bool false))),
 oM 31 (.mv (.t 30)),
 ⟨some 32,.load true 6 (.t 2),(some (some 31,true))⟩,
 ⟨some 33,.load true 6 (.t 3),(some (some 31,true))⟩,
 ⟨some 34,.call (.c (.func (.func 13) [] [])) [(.t 32),(.t 33)],(some (some 31,true))⟩,
 ⟨some 35,.load true 6 (.t 2),(some (some 31,true))⟩,
 ⟨some 36,.load true 6 (.t 3),(some (some 31,true))⟩,
 ⟨some 37,.call (.c (.func (.func 14) [] [])) [(.t 35),(.t 36)],(some (some 31,true))⟩,
 ⟨some 38,.gen ⟨some 38,.binOp .eql 4 (.tmp 34) (.tmp 37) 4,0,"",#[],none⟩,(some (some 31,true))⟩,
 oM 39 (.pick (.t 31) (.t 38) (.c (.bool false))),
 oM 40 (.mv (.t 39)),
 ⟨some 41,.load true 6 (.t 2),(some (some 40,true))⟩,
 ⟨some 42,.load true 6 (.t 3),(some (some 40,true))⟩,
 ⟨some 43,.call (.c (.func (.func 15) [] [])) [(.t 41),(.t 42)],(some (some 40,true))⟩,
 ⟨some 44,.load true 6 (.t 2),(some (some 40,true))⟩,
 ⟨some 45,.load true 6 (.t 3),(some (some 40,true))⟩,
 ⟨some 46,.call (.c (.func (.func 16) [] [])) [(.t 44),(.t 45)],(some (some 40,true))⟩,
 ⟨some 47,.binI .eql 3 (.tmp 43) (.tmp 46) (.t 43) (.t 46),(some (some 40,true))⟩,
 oM 48 (.pick (.t 40) (.t 47) (.c (.bool false))),
 oM 4 (.mv (.t 48))])
 .ret))))
noncomputable def b4:Code:=Tryz.f4.body.getD .skip
noncomputable def F4:FI:=⟨112,[.tmp 6],b4⟩
theorem fn4:C.fn 4 = some F4:=by kernel_rfl
noncomputable def x4:XC :=
 (.seq (.ops [oM 3 (.box 28 (.t 0)),
 oM 4 (.box 28 (.t 1)),
 oM 5 (.box 28 (.t 2)),
 oM 6 (.mv (.c (.bool false)))])
 (.seq (.ops [oM 13 (.call (.c (.func (.func 6) [] [])) []),
 oM 7 (.mv (.t 13))])
 (.seq (.seq (.ops [oM 14 (.load true 6 (.t 3)),
 oM 15 (.call (.c (.func (.func 7) [] [])) [(.t 14)]),
 oM 16 (.binI .neq 30 (.tmp 15) (.const (.int .i64 0)) (.t 15) (.c (.int .i64 0))),
 oM 17 (.mv (.t 16)),
 ⟨some 18,.load true 6 (.t 4),(some (some 17,false))⟩,
 ⟨some 19,.call (.c (.func (.func 7) [] [])) [(.t 18)],(some (some 17,false))⟩,
 ⟨some 20,.binI .neq 30 (.tmp 19) (.const (.int .i64 0)) (.t 19) (.c (.int .i64 0)),(some (some 17,false))⟩,
 oM 21 (.pick (.t 17) (.c (.bool true)) (.t 20)),
 oM 22 (.mv (.t 21)),
 ⟨some 23,.load true 6 (.t 5),(some (some 22,false))⟩,
 ⟨some 24,.call (.c (.func (.func 7) [] [])) [(.t 23)],(some (some 22,false))⟩,
 ⟨some 25,.binI .neq 30 (.tmp 24) (.const (.int .i64 0)) (.t 24) (.c (.int .i64 0)),(some (some 22,false))⟩,
 oM 26 (.pick (.t 22) (.c (.bool true)) (.t 25))])
 (.cond (.t 26)
  (.seq (.ops [oM 27 (.mv (.t 7)),
 oM 6 (.mv (.t 27))])
  .ret)
  .skip))
 (.seq (.ops [oM 28 (.load true 6 (.t 3)),
 oM 29 (.load true 6 (.t 4)),
 oM 30 (.call (.c (.func (.func 15) [] [])) [(.t 28),(.t 29)]),
 oM 8 (.mv (.t 30))])
 (.seq (.ops [oM 31 (.load true 6 (.t 4)),
 oM 32 (.load true 6 (.t 5)),
 oM 33 (.call (.c (.func (.func 15) [] [])) [(.t 31),(.t 32)]),
 oM 9 (.mv (.t 33))])
 (.seq (.ops [oM 34 (.load true 6 (.t 3)),
 oM 35 (.load true 6 (.t 5)),
 oM 36 (.call (.c (.func (.func 15) [] [])) [(.t 34),(.t 35)]),
 oM 10 (.mv (.t 36))])
 (.seq (.seq (.ops [oM 37 (.mv (.t 8)),
 oM 38 (.load true 6 (.t 4)),
 oM 39 (.load true 6 (.t 3)),
 oM 40 (.call (.c (.func (.func 15) [] [])) [(.t 38),(.t 39)]),
 oM 41 (.un .neg (.t 40)),
 oM 42 (.binI .neq 3 (.tmp 37) (.tmp 41) (.t 37) (.t 41)),
 oM 43 (.mv (.t 42)),
 ⟨some 44,.load true 6 (.t 3),(some (some 43,false))⟩,
 ⟨some 45,.load true 6 (.t 3),(some (some 43,false))⟩,
 ⟨some 46,.call (.c (.func (.func 15) [] [])) [(.t 44),(.t 45)],(some (some 43,false))⟩,
 ⟨some 47,.binI .neq 3 (.tmp 46) (.const (.int .i64 0)) (.t 46) (.c (.int .i64 0)),(some (some 43,false))⟩,
 oM 48 (.pick (.t 43) (.c (.bool true)) (.t 47)),
 oM 49 (.mv (.t 48)),
 ⟨some 50,.mv (.t 8),(some (some 49,false))⟩,
 ⟨some 51,.binI .eql 3 (.tmp 50) (.const (.int .i64 0)) (.t 50) (.c (.int .i64 0)),(some (some 49,false))⟩,
 ⟨some 52,.load true 6 (.t 3),(some (some 49,false))⟩,
 ⟨some 53,.load true 6 (.t 4),(some (some 49,false))⟩,
 ⟨some 54,.call (.c (.func (.func 13) [] [])) [(.t 52),(.t 53)],(some (some 49,false))⟩,
 ⟨some 55,.gen ⟨some 55,.binOp .neq 4 (.tmp 51) (.tmp 54) 4,0,"",#[],none⟩,(some (some 49,false))⟩,
 oM 56 (.pick (.t 49) (.c (.bool true)) (.t 55)),
 oM 57 (.mv (.t 56)),
 ⟨some 58,.mv (.t 8),(some (some 57,false))⟩,
 ⟨some 59,.binI .leq 3 (.tmp 58) (.const (.int .i64 0)) (.t 58) (.c (.int .i64 0)),(some (some 57,false))⟩,
 ⟨some 60,.mv (.t 59),(some (some 57,false))⟩,
 ⟨some 61,.mv (.t 9),(some (some 60,true))⟩,
 ⟨some 62,.binI .leq 3 (.tmp 61) (.const (.int .i64 0)) (.t 61) (.c (.int .i64 0)),(some (some 60,true))⟩,
 ⟨some 63,.pick (.t 60) (.t 62) (.c (.bool false)),(some (some 57,false))⟩,
 ⟨some 64,.mv (.t 63),(some (some 57,false))⟩,
 ⟨some 65,.mv (.t 10),(some (some 64,true))⟩,
 ⟨some 66,.binI .gtr 3 (.tmp 65) (.const (.int .i64 0)) (.t 65) (.c (.int .i64 0)),(some (some 64,true))⟩,
 ⟨some 67,.pick (.t 64) (.t 66) (.c (.bool false)),(some (some 57,false))⟩,
 oM 68 (.pick (.t 57) (.c (.bool true)) (.t 67)),
 oM 69 (.mv (.t 68)),
 ⟨some 70,.mv (.t 8),(some (some 69,false))⟩,
 ⟨some 71,.binI .geq 3 (.tmp 70) (.const (.int .i64 0)) (.t 70) (.c (.int .i64 0)),(some (some 69,false))⟩,
 ⟨some 72,.mv (.t 71),(some (some 69,false))⟩,
 ⟨some 73,.mv (.t 9),(some (some 72,true))⟩,
 ⟨some 74,.binI .geq 3 (.tmp 73) (.const (.int .i64 0)) (.t 73) (.c (.int .i64 0)),(some (some 72,true))⟩,
 ⟨some 75,.pick (.t 72) (.t 74) (.c (.bool false)),(some (some 69,false))⟩,
 ⟨some 76,.mv (.t 75),(some (some 69,false))⟩,
 ⟨some 77,.mv (.t 10),(some (some 76,true))⟩,
 ⟨some 78,.binI .lss 3 (.tmp 77) (.const (.int .i64 0)) (.t 77) (.c (.int .i64 0)),(some (some 76,true))⟩,
 ⟨some 79,.pick (.t 76) (.t 78) (.c (.bool false)),(some (some 69,false))⟩,
 oM 80 (.pick (.t 69) (.c (.bool true)) (.t 79))])
 (.cond (.t 80)
  (.seq (.ops [oM 6 (.mv (.c (.bool false)))])
  .ret)
  .skip))
 (.seq (.seq (.ops [oM 81 (.load true 6 (.t 3)),
 oM 82 (.call (.c (.func (.func 17) [] [])) [(.t 81)]),
 oM 83 (.un .not (.t 82)),
 oM 84 (.mv (.t 83)),
 ⟨some 85,.load true 6 (.t 4),(some (some 84,false))⟩,
 ⟨some 86,.call (.c (.func (.func 17) [] [])) [(.t 85)],(some (some 84,false))⟩,
 ⟨some 87,.un .not (.t 86),(some (some 84,false))⟩,
 oM 88 (.pick (.t 84) (.c (.bool true)) (.t 87))])
 (.cond (.t 88)
  (.seq (.ops [oM 89 (.mv (.t 7)),
 oM 6 (.mv (.t 89))])
  .ret)
  .skip))
 (.seq (.ops [oM 90 (.load true 6 (.t 3)),
 oM 91 (.call (.c (.func (.func 11) [] [])) [(.t 90)]),
 oM 11 (.mv (.t 91))])
 (.seq (.ops [oM 92 (.load true 6 (.t 4)),
 oM 93 (.call (.c (.func (.func 11) [] [])) [(.t 92)]),
 oM 12 (.mv (.t 93))])
 (.seq (.ops [oM 94 (.mv (.t 7)),
 oM 95 (.mv (.t 94)),
 ⟨some 96,.mv (.t 11),(some (some 95,true))⟩,
 ⟨some 97,.binS .eql 9 (.tmp 96) (.const (.string ⟨#[]⟩)) (.t 96) (.c (.str [])),(some (some 95,true))⟩,
 ⟨some 98,.mv (.t 97),(some (some 95,true))⟩,
 ⟨some 99,.mv (.t 12),(some (some 98,false))⟩,
 ⟨some 100,.binS .eql 9 (.tmp 99) (.const (.string ⟨#[]⟩)) (.t 99) (.c (.str [])),(some (some 98,false))⟩,
 ⟨some 101,.pick (.t 98) (.c (.bool true)) (.t 100),(some (some 95,true))⟩,
 ⟨some 102,.mv (.t 101),(some (some 95,true))⟩,
 ⟨some 103,.mv (.t 11),(some (some 102,false))⟩,
 ⟨some 104,.mv (.t 12),(some (some 102,false))⟩,
 ⟨some 105,.binS .eql 9 (.tmp 103) (.tmp 104) (.t 103) (.t 104),(some (some 102,false))⟩,
 ⟨some 106,.load true 6 (.t 3),(some (some 102,false))⟩,
 ⟨some 107,.load true 6 (.t 4),(some (some 102,false))⟩,
 ⟨some 108,.call (.c (.func (.func 13) [] [])) [(.t 106),(.t 107)],(some (some 102,false))⟩,
 ⟨some 109,.gen ⟨some 109,.binOp .eql 4 (.tmp 105) (.tmp 108) 4,0,"",#[],none⟩,(some (some 102,false))⟩,
 ⟨some 110,.pick (.t 102) (.c (.bool true)) (.t 109),(some (some 95,true))⟩,
 oM 111 (.pick (.t 95) (.t 110) (.c (.bool false))),
 oM 6 (.mv (.t 111))])
 .ret)))))))))))
theorem code4:codeOf C 4 F4 = x4:=by kernel_rfl
theorem ok4 {Q:Ctx} (hK:K Q):FnOk Q 4 F4 x4 false:=hK.ok_ ⟨fn4,code4,by kernel_rfl,by kernel_rfl⟩
noncomputable def b7:Code:=Tryz.f7.body.getD .skip
noncomputable def F7:FI:=⟨14,[.tmp 2],b7⟩
theorem fn7:C.fn 7 = some F7:=by kernel_rfl
noncomputable def x7:XC :=
 (.seq (.ops [oM 1 (.box 28 (.t 0)),
 oM 2 (.mv (.c (.int .i64 0)))])
 (.seq (.block 0
  (.seq (.ops [oM 4 (.load true 6 (.t 1)),
 oM 5 (.call (.c (.func (.func 9) [] [])) [(.t 4)]),
 oM 6 (.binI .gtr 3 (.tmp 5) (.const (.int .i64 4000)) (.t 5) (.c (.int .i64 4000))),
 oM 3 (.mv (.t 6))])
  (.cond (.t 3)
   (.seq (.ops [oM 2 (.mv (.c (.int .i64 2)))])
   .ret)
   (.seq (.ops [oM 8 (.load true 6 (.t 1)),
 oM 9 (.call (.c (.func (.func 39) [] [])) [(.t 8),(.c (.int .i64 100))]),
 oM 7 (.mv (.t 9))])
   (.cond (.t 7)
    (.seq (.ops [oM 2 (.mv (.c (.int .i64 5)))])
    .ret)
    (.seq (.ops [oM 11 (.load true 6 (.t 1)),
 oM 12 (.call (.c (.func (.func 40) [] [])) [(.t 11)]),
 oM 13 (.un .not (.t 12)),
 oM 10 (.mv (.t 13))])
    (.cond (.t 10)
     (.seq (.ops [oM 2 (.mv (.c (.int .i64 6)))])
     .ret)
     .skip)))))))
 (.seq (.ops [oM 2 (.mv (.c (.int .i64 0)))])
 .ret)))
theorem code7:codeOf C 7 F7 = x7:=by kernel_rfl
theorem ok7 {Q:Ctx} (hK:K Q):FnOk Q 7 F7 x7 false:=hK.ok_ ⟨fn7,code7,by kernel_rfl,by kernel_rfl⟩
noncomputable def b9:Code:=Tryz.f9.body.getD .skip
noncomputable def F9:FI:=⟨14,[.cell 2 3],b9⟩
theorem fn9:C.fn 9 = some F9:=by kernel_rfl
noncomputable def x9:XC :=
 (.seq (.ops [oM 1 (.box 28 (.t 0)),
 oM 2 (.alloc 3 [(.int .i64 0)])])
 (.seq (.ops [oM 4 (.build [(.int .i64 0)] [(0,1)] []),
 oM 5 (.box 88 (.t 4)),
 oM 3 (.mv (.t 5))])
 (.seq (.ops [oM 6 (.mkFunc 44 [] [(.t 2)]),
 ⟨none,.gen ⟨none,.defer { callee:=.value (.tmp 6),args:=#[],argTypes:=#[] },0,"",#[],none⟩,none⟩])
 (.seq (.ops [oM 7 (.mv (.t 3)),
 oM 8 (.load true 6 (.t 1)),
 oM 9 (.call (.c (.func (.func 45) [] [])) [(.t 7),(.t 8)])])
 (.seq (.ops [oM 10 (.mv (.t 3)),
 oM 11 (.gen ⟨some 11,.nilCheck (.tmp 10),0,"",#[],none⟩),
 oM 12 (.fieldAddr 0 (.t 11)),
 oM 13 (.load false 1 (.t 12)),
 ⟨none,.store 1 (.t 2) (.t 13),none⟩])
 .ret)))))
theorem code9:codeOf C 9 F9 = x9:=by kernel_rfl
theorem ok9 {Q:Ctx} (hK:K Q):FnOk Q 9 F9 x9 false:=hK.ok_ ⟨fn9,code9,by kernel_rfl,by kernel_rfl⟩
noncomputable def b11:Code:=Tryz.f11.body.getD .skip
noncomputable def F11:FI:=⟨21,[.tmp 2],b11⟩
theorem fn11:C.fn 11 = some F11:=by kernel_rfl
noncomputable def x11:XC :=
 (.seq (.ops [oM 1 (.box 28 (.t 0)),
 oM 2 (.mv (.c (.str [])))])
 (.seq (.seq (.ops [oM 4 (.load true 6 (.t 1)),
 oM 5 (.call (.c (.func (.func 7) [] [])) [(.t 4)]),
 oM 6 (.binI .neq 30 (.tmp 5) (.const (.int .i64 0)) (.t 5) (.c (.int .i64 0)))])
 (.cond (.t 6)
  (.seq (.ops [oM 2 (.mv (.c (.str [])))])
  .ret)
  .skip))
 (.seq (.ops [oM 7 (.build [.nilp,(.slice .nil [])] [(0,2)] []),
 oM 8 (.box 98 (.t 7)),
 oM 3 (.mv (.t 8))])
 (.seq (.ops [oM 9 (.mv (.t 3)),
 oM 10 (.load true 6 (.t 1)),
 oM 11 (.call (.c (.func (.func 46) [] [])) [(.t 9),(.t 10)])])
 (.seq (.seq (.ops [oM 12 (.mv (.t 3)),
 oM 13 (.gen ⟨some 13,.nilCheck (.tmp 12),0,"",#[],none⟩),
 oM 14 (.fieldAddr 0 (.t 13)),
 oM 15 (.call (.c (.func (.func 47) [] [])) [(.t 14)]),
 oM 16 (.binI .gtr 3 (.tmp 15) (.const (.int .i64 20000)) (.t 15) (.c (.int .i64 20000)))])
 (.cond (.t 16)
  (.seq (.ops [oM 2 (.mv (.c (.str [])))])
  .ret)
  .skip))
 (.seq (.ops [oM 17 (.mv (.t 3)),
 oM 18 (.gen ⟨some 18,.nilCheck (.tmp 17),0,"",#[],none⟩),
 oM 19 (.fieldAddr 0 (.t 18)),
 oM 20 (.call (.c (.func (.func 48) [] [])) [(.t 19)]),
 oM 2 (.mv (.t 20))])
 .ret))))))
theorem code11:codeOf C 11 F11 = x11:=by kernel_rfl
theorem ok11 {Q:Ctx} (hK:K Q):FnOk Q 11 F11 x11 false:=hK.ok_ ⟨fn11,code11,by kernel_rfl,by kernel_rfl⟩
noncomputable def b13:Code:=Tryz.f13.body.getD .skip
noncomputable def F13:FI:=⟨19,[.tmp 4],b13⟩
theorem fn13:C.fn 13 = some F13:=by kernel_rfl
noncomputable def x13:XC :=
 (.seq (.ops [oM 2 (.box 28 (.t 0)),
 oM 3 (.box 28 (.t 1)),
 oM 4 (.mv (.c (.bool false)))])
 (.seq (.ops [oM 5 (.load true 6 (.t 2)),
 oM 6 (.call (.c (.func (.func 7) [] [])) [(.t 5)]),
 oM 7 (.binI .eql 30 (.tmp 6) (.const (.int .i64 0)) (.t 6) (.c (.int .i64 0))),
 oM 8 (.mv (.t 7)),
 ⟨some 9,.load true 6 (.t 3),(some (some 8,true))⟩,
 ⟨some 10,.call (.c (.func (.func 7) [] [])) [(.t 9)],(some (some 8,true))⟩,
 ⟨some 11,.binI .eql 30 (.tmp 10) (.const (.int .i64 0)) (.t 10) (.c (.int .i64 0)),(some (some 8,true))⟩,
 oM 12 (.pick (.t 8) (.t 11) (.c (.bool false))),
 oM 13 (.mv (.t 12)),
 ⟨some 14,.load true 6 (.t 2),(some (some 13,true))⟩,
 ⟨some 15,.load true 6 (.t 3),(some (some 13,true))⟩,
 ⟨some 16,.call (.c (.func (.func 50) [] [])) [(.t 14),(.t 15)],(some (some 13,true))⟩,
 ⟨some 17,.binI .eql 3 (.tmp 16) (.const (.int .i64 0)) (.t 16) (.c (.int .i64 0)),(some (some 13,true))⟩,
 oM 18 (.pick (.t 13) (.t 17) (.c (.bool false))),
 oM 4 (.mv (.t 18))])
 .ret))
theorem code13:codeOf C 13 F13 = x13:=by kernel_rfl
theorem ok13 {Q:Ctx} (hK:K Q):FnOk Q 13 F13 x13 false:=hK.ok_ ⟨fn13,code13,by kernel_rfl,by kernel_rfl⟩
noncomputable def b15:Code:=Tryz.f15.body.getD .skip
noncomputable def F15:FI:=⟨26,[.tmp 4],b15⟩
theorem fn15:C.fn 15 = some F15:=by kernel_rfl
noncomputable def d15_0:Array Oper:=(drawsOf b15).getD 0 #[]
theorem kd15_0:drawCr d15_0 = [none,(some ([none,none,none,(some none),none,none,none,none],[true,false,false,false,false,false,false,false])),none,none,(some ([none,none,none,none,none,none,none,none],[true,true,false,true,false,false,false,false])),none,none,none]:=by kernel_rfl
noncomputable def x15:XC :=
 (.seq (.ops [oM 2 (.box 28 (.t 0)),
 oM 3 (.box 28 (.t 1)),
 oM 4 (.mv (.c (.int .i64 0)))])
 (.seq (.draw d15_0 [oM 7 (.load true 6 (.t 2)),
 oM 8 (.call (.c (.func (.func 7) [] [])) [(.t 7)]),
 oM 9 (.binI .eql 30 (.tmp 8) (.const (.int .i64 0)) (.t 8) (.c (.int .i64 0))),
 oM 10 (.load true 6 (.t 3)),
 oM 11 (.call (.c (.func (.func 7) [] [])) [(.t 10)]),
 oM 12 (.binI .eql 30 (.tmp 11) (.const (.int .i64 0)) (.t 11) (.c (.int .i64 0))),
 oM 5 (.mv (.t 9)),
 oM 6 (.mv (.t 12))])
 (.seq (.block 0
  (.seq (.ops [oM 14 (.mv (.t 5)),
 oM 15 (.mv (.t 14)),
 ⟨some 16,.mv (.t 6),(some (some 15,true))⟩,
 oM 17 (.pick (.t 15) (.t 16) (.c (.bool false))),
 oM 13 (.mv (.t 17))])
  (.cond (.t 13)
   (.seq (.ops [oM 18 (.load true 6 (.t 2)),
 oM 19 (.load true 6 (.t 3)),
 oM 20 (.call (.c (.func (.func 50) [] [])) [(.t 18),(.t 19)]),
 oM 21 (.call (.c (.func (.func 52) [] [])) [(.t 20)]),
 oM 4 (.mv (.t 21))])
   .ret)
   (.seq (.ops [oM 23 (.mv (.t 5)),
 oM 22 (.mv (.t 23))])
   (.cond (.t 22)
    (.seq (.ops [oM 4 (.mv (.c (.int .i64 1)))])
    .ret)
    (.seq (.ops [oM 25 (.mv (.t 6)),
 oM 24 (.mv (.t 25))])
    (.cond (.t 24)
     (.seq (.ops [oM 4 (.mv (.c (.int .i64 (-1))))])
     .ret)
     .skip)))))))
 (.seq (.ops [oM 4 (.mv (.c (.int .i64 0)))])
 .ret))))
theorem code15:codeOf C 15 F15 = x15:=by kernel_rfl
theorem ok15 {Q:Ctx} (hK:K Q):FnOk Q 15 F15 x15 false:=hK.ok_ ⟨fn15,code15,by kernel_rfl,by kernel_rfl⟩
noncomputable def b17:Code:=Tryz.f17.body.getD .skip
noncomputable def F17:FI:=⟨32,[.tmp 2],b17⟩
theorem fn17:C.fn 17 = some F17:=by kernel_rfl
noncomputable def l17_0:XC :=
 (.seq (.seq (.ops [oM 18 (.mv (.t 3)),
 oM 19 (.fieldAddr 5 (.t 1)),
 oM 20 (.load false 1 (.t 19)),
 oM 21 (.lenS (.t 20)),
 oM 22 (.binI .lss 3 (.tmp 18) (.tmp 21) (.t 18) (.t 21))])
 (.cond (.t 22)
  .skip
  (.exit 0)))
 (.seq (.block 1
  (.seq (.ops [oM 25 (.fieldAddr 5 (.t 1)),
 oM 26 (.load false 1 (.t 25)),
 oM 27 (.mv (.t 3)),
 oM 28 (.idxS 6 (.t 26) (.t 27)),
 oM 29 (.load true 6 (.t 28)),
 oM 30 (.call (.c (.func (.func 17) [] [])) [(.t 29)]),
 oM 31 (.un .not (.t 30))])
  (.cond (.t 31)
   (.seq (.ops [oM 2 (.mv (.c (.bool false)))])
   .ret)
   .skip)))
 (.ops [oM 23 (.mv (.t 3)),
 oM 24 (.binI .add 3 (.tmp 23) (.const (.int .i64 1)) (.t 23) (.c (.int .i64 1))),
 oM 3 (.mv (.t 24))])))
noncomputable def x17:XC :=
 (.seq (.ops [oM 1 (.box 28 (.t 0)),
 oM 2 (.mv (.c (.bool false)))])
 (.seq (.seq (.ops [oM 4 (.fieldAddr 0 (.t 1)),
 oM 5 (.load false 1 (.t 4)),
 oM 6 (.binI .eql 3 (.tmp 5) (.const (.int .i64 10)) (.t 5) (.c (.int .i64 10))),
 oM 7 (.mv (.t 6)),
 ⟨some 8,.fieldAddr 0 (.t 1),(some (some 7,false))⟩,
 ⟨some 9,.load false 1 (.t 8),(some (some 7,false))⟩,
 ⟨some 10,.binI .eql 3 (.tmp 9) (.const (.int .i64 11)) (.t 9) (.c (.int .i64 11)),(some (some 7,false))⟩,
 oM 11 (.pick (.t 7) (.c (.bool true)) (.t 10)),
 oM 12 (.mv (.t 11)),
 ⟨some 13,.fieldAddr 3 (.t 1),(some (some 12,true))⟩,
 ⟨some 14,.load true 2 (.t 13),(some (some 12,true))⟩,
 ⟨some 15,.call (.c (.func (.func 54) [] [])) [(.t 14)],(some (some 12,true))⟩,
 ⟨some 16,.un .not (.t 15),(some (some 12,true))⟩,
 oM 17 (.pick (.t 12) (.t 16) (.c (.bool false)))])
 (.cond (.t 17)
  (.seq (.ops [oM 2 (.mv (.c (.bool false)))])
  .ret)
  .skip))
 (.seq (.seq (.ops [oM 3 (.mv (.c (.int .i64 0)))])
 (.block 0
  (.loop l17_0)))
 (.seq (.ops [oM 2 (.mv (.c (.bool true)))])
 .ret))))
theorem code17:codeOf C 17 F17 = x17:=by kernel_rfl
theorem ok17 {Q:Ctx} (hK:K Q):FnOk Q 17 F17 x17 false:=hK.ok_ ⟨fn17,code17,by kernel_rfl,by kernel_rfl⟩
noncomputable def b39:Code:=Tryz.f39.body.getD .skip
noncomputable def F39:FI:=⟨17,[.tmp 4],b39⟩
theorem fn39:C.fn 39 = some F39:=by kernel_rfl
noncomputable def x39:XC :=
 (.seq (.ops [oM 2 (.box 28 (.t 0)),
 oM 3 (.box 3 (.t 1)),
 oM 4 (.mv (.c (.bool false)))])
 (.seq (.seq (.ops [oM 5 (.load false 1 (.t 3)),
 oM 6 (.binI .eql 3 (.tmp 5) (.const (.int .i64 0)) (.t 5) (.c (.int .i64 0)))])
 (.cond (.t 6)
  (.seq (.ops [oM 4 (.mv (.c (.bool true)))])
  .ret)
  .skip))
 (.seq (.ops [oM 7 (.fieldAddr 2 (.t 2)),
 oM 8 (.load false 1 (.t 7)),
 oM 9 (.mkFunc 88 [] [(.t 3)]),
 oM 10 (.call (.c (.func (.func 87) [] [])) [(.t 8),(.t 9)]),
 oM 11 (.mv (.t 10)),
 ⟨some 12,.fieldAddr 5 (.t 2),(some (some 11,false))⟩,
 ⟨some 13,.load false 1 (.t 12),(some (some 11,false))⟩,
 ⟨some 14,.mkFunc 91 [] [(.t 3)],(some (some 11,false))⟩,
 ⟨some 15,.call (.c (.func (.func 90) [] [])) [(.t 13),(.t 14)],(some (some 11,false))⟩,
 oM 16 (.pick (.t 11) (.c (.bool true)) (.t 15)),
 oM 4 (.mv (.t 16))])
 .ret)))
theorem code39:codeOf C 39 F39 = x39:=by kernel_rfl
theorem ok39 {Q:Ctx} (hK:K Q):FnOk Q 39 F39 x39 false:=hK.ok_ ⟨fn39,code39,by kernel_rfl,by kernel_rfl⟩
noncomputable def b40:Code:=Tryz.f40.body.getD .skip
noncomputable def F40:FI:=⟨76,[.tmp 2],b40⟩
theorem fn40:C.fn 40 = some F40:=by kernel_rfl
noncomputable def d40_0:Array Oper:=(drawsOf b40).getD 0 #[]
theorem kd40_0:drawCr d40_0 = [none,none,(some ([none,none,none,none,(some none),(some (some [false,false,false,true,true,false,false])),none],[true,true,false,false,false,false,false])),none,none,none,none]:=by kernel_rfl
noncomputable def x40:XC :=
 (.seq (.ops [oM 1 (.box 28 (.t 0)),
 oM 2 (.mv (.c (.bool false)))])
 (.seq (.seq (.draw d40_0 [oM 3 (.fieldAddr 0 (.t 1)),
 oM 4 (.load false 1 (.t 3)),
 oM 5 (.call (.c (.func (.func 92) [] [])) [(.t 4)]),
 oM 6 (.fieldAddr 5 (.t 1)),
 oM 7 (.load false 1 (.t 6)),
 oM 8 (.lenS (.t 7)),
 oM 9 (.binI .neq 3 (.tmp 5) (.tmp 8) (.t 5) (.t 8))])
 (.cond (.t 9)
  (.seq (.ops [oM 2 (.mv (.c (.bool false)))])
  .ret)
  .skip))
 (.seq (.block 0
  (.seq (.ops [oM 11 (.fieldAddr 0 (.t 1)),
 oM 12 (.load false 1 (.t 11)),
 oM 13 (.binI .eql 3 (.tmp 12) (.const (.int .i64 1)) (.t 12) (.c (.int .i64 1))),
 oM 10 (.mv (.t 13))])
  (.cond (.t 10)
   (.seq (.ops [oM 14 (.fieldAddr 1 (.t 1)),
 oM 15 (.load false 1 (.t 14)),
 oM 16 (.call (.c (.func (.func 93) [] [])) [(.t 15)]),
 oM 17 (.un .not (.t 16)),
 oM 18 (.mv (.t 17)),
 ⟨some 19,.fieldAddr 2 (.t 1),(some (some 18,false))⟩,
 ⟨some 20,.load false 1 (.t 19),(some (some 18,false))⟩,
 ⟨some 21,.lenS (.t 20),(some (some 18,false))⟩,
 ⟨some 22,.binI .gtr 3 (.tmp 21) (.const (.int .i64 8)) (.t 21) (.c (.int .i64 8)),(some (some 18,false))⟩,
 oM 23 (.pick (.t 18) (.c (.bool true)) (.t 22)),
 oM 24 (.mv (.t 23)),
 ⟨some 25,.fieldAddr 2 (.t 1),(some (some 24,false))⟩,
 ⟨some 26,.load false 1 (.t 25),(some (some 24,false))⟩,
 ⟨some 27,.call (.c (.func (.func 87) [] [])) [(.t 26),(.c (.func (.func 94) [] []))],(some (some 24,false))⟩,
 oM 28 (.pick (.t 24) (.c (.bool true)) (.t 27))])
   (.cond (.t 28)
    (.seq (.ops [oM 2 (.mv (.c (.bool false)))])
    .ret)
    .skip))
   (.seq (.seq (.ops [oM 30 (.fieldAddr 2 (.t 1)),
 oM 31 (.load false 1 (.t 30)),
 oM 32 (.lenS (.t 31)),
 oM 33 (.binI .gtr 3 (.tmp 32) (.const (.int .i64 0)) (.t 32) (.c (.int .i64 0))),
 oM 29 (.mv (.t 33))])
   (.cond (.t 29)
    .skip
    (.seq (.ops [oM 34 (.load true 6 (.t 1)),
 oM 35 (.call (.c (.func (.func 57) [] [])) [(.t 34)]),
 oM 36 (.un .not (.t 35)),
 oM 37 (.mv (.t 36)),
 ⟨some 38,.fieldAddr 1 (.t 1),(some (some 37,true))⟩,
 ⟨some 39,.load false 1 (.t 38),(some (some 37,true))⟩,
 ⟨some 40,.binS .neq 9 (.tmp 39) (.const (.string ⟨#[]⟩)) (.t 39) (.c (.str [])),(some (some 37,true))⟩,
 oM 41 (.pick (.t 37) (.t 40) (.c (.bool false))),
 oM 29 (.mv (.t 41))])
    (.cond (.t 29)
     .skip
     (.ops [oM 42 (.load true 6 (.t 1)),
 oM 43 (.call (.c (.func (.func 57) [] [])) [(.t 42)]),
 oM 44 (.mv (.t 43)),
 ⟨some 45,.fieldAddr 1 (.t 1),(some (some 44,true))⟩,
 ⟨some 46,.load false 1 (.t 45),(some (some 44,true))⟩,
 ⟨some 47,.call (.c (.func (.func 62) [] [])) [(.t 46)],(some (some 44,true))⟩,
 ⟨some 48,.un .not (.t 47),(some (some 44,true))⟩,
 ⟨some 49,.mv (.t 48),(some (some 44,true))⟩,
 ⟨some 50,.fieldAddr 3 (.t 1),(some (some 49,false))⟩,
 ⟨some 51,.load true 2 (.t 50),(some (some 49,false))⟩,
 ⟨some 52,.call (.c (.func (.func 63) [] [])) [(.t 51)],(some (some 49,false))⟩,
 ⟨some 53,.un .not (.t 52),(some (some 49,false))⟩,
 ⟨some 54,.pick (.t 49) (.c (.bool true)) (.t 53),(some (some 44,true))⟩,
 oM 55 (.pick (.t 44) (.t 54) (.c (.bool false))),
 oM 29 (.mv (.t 55))])))))
   (.cond (.t 29)
    (.seq (.ops [oM 2 (.mv (.c (.bool false)))])
    .ret)
    .skip)))))
 (.seq (.seq (.ops [oM 56 (.load true 6 (.t 1)),
 oM 57 (.call (.c (.func (.func 57) [] [])) [(.t 56)]),
 oM 58 (.un .not (.t 57)),
 oM 59 (.mv (.t 58)),
 ⟨some 60,.fieldAddr 3 (.t 1),(some (some 59,true))⟩,
 ⟨some 61,.fieldAddr 0 (.t 60),(some (some 59,true))⟩,
 ⟨some 62,.load false 1 (.t 61),(some (some 59,true))⟩,
 ⟨some 63,.binS .neq 9 (.tmp 62) (.const (.string ⟨#[]⟩)) (.t 62) (.c (.str [])),(some (some 59,true))⟩,
 ⟨some 64,.mv (.t 63),(some (some 59,true))⟩,
 ⟨some 65,.fieldAddr 3 (.t 1),(some (some 64,false))⟩,
 ⟨some 66,.fieldAddr 1 (.t 65),(some (some 64,false))⟩,
 ⟨some 67,.load false 1 (.t 66),(some (some 64,false))⟩,
 ⟨some 68,.lenS (.t 67),(some (some 64,false))⟩,
 ⟨some 69,.binI .gtr 3 (.tmp 68) (.const (.int .i64 0)) (.t 68) (.c (.int .i64 0)),(some (some 64,false))⟩,
 ⟨some 70,.pick (.t 64) (.c (.bool true)) (.t 69),(some (some 59,true))⟩,
 oM 71 (.pick (.t 59) (.t 70) (.c (.bool false)))])
 (.cond (.t 71)
  (.seq (.ops [oM 2 (.mv (.c (.bool false)))])
  .ret)
  .skip))
 (.seq (.ops [oM 72 (.fieldAddr 5 (.t 1)),
 oM 73 (.load false 1 (.t 72)),
 oM 74 (.call (.c (.func (.func 90) [] [])) [(.t 73),(.c (.func (.func 95) [] []))]),
 oM 75 (.un .not (.t 74)),
 oM 2 (.mv (.t 75))])
 .ret)))))
theorem code40:codeOf C 40 F40 = x40:=by kernel_rfl
theorem ok40 {Q:Ctx} (hK:K Q):FnOk Q 40 F40 x40 false:=hK.ok_ ⟨fn40,code40,by kernel_rfl,by kernel_rfl⟩
noncomputable def b44:Code:=Tryz.f44.body.getD .skip
noncomputable def F44:FI:=⟨10,[],b44⟩
theorem fn44:C.fn 44 = some F44:=by kernel_rfl
noncomputable def x44:XC :=
 (.seq (.ops [oM 4 (.gen ⟨some 4,.call { callee:=.builtin .recover,args:=#[],argTypes:=#[] },0,"",#[],none⟩)])
 (.block 0
  (.seq (.ops [oM 6 (.gen ⟨some 6,.binOp .eql 20 (.tmp 4) (.const .nilIface) 20,0,"",#[],none⟩)])
  (.cond (.t 6)
   (.ops [oM 1 (.mv (.t 4))])
   (.seq (.ops [oM 7 (.gen ⟨some 7,.typeAssert (.tmp 4) 20 90 true,0,"",#[],none⟩),
 oM 8 (.extract (.t 7) 1),
 oM 9 (.extract (.t 7) 0)])
   (.cond (.t 8)
    (.seq (.ops [oM 2 (.alloc 90 []),
 ⟨none,.store 0 (.t 2) (.t 9),none⟩])
    (.ops [⟨none,.store 1 (.t 0) (.c (.int .i64 4001)),none⟩]))
    (.seq (.ops [oM 3 (.mv (.t 4))])
    (.ops [oM 5 (.mv (.t 3)),
 ⟨none,.gen ⟨none,.panic (.tmp 5),0,"",#[],none⟩,none⟩]))))))))
theorem code44:codeOf C 44 F44 = x44:=by kernel_rfl
theorem ok44 {Q:Ctx} (hK:K Q):FnOk Q 44 F44 x44 false:=hK.ok_ ⟨fn44,code44,by kernel_rfl,by kernel_rfl⟩
noncomputable def b45:Code:=Tryz.f45.body.getD .skip
noncomputable def F45:FI:=⟨44,[],b45⟩
theorem fn45:C.fn 45 = some F45:=by kernel_rfl
noncomputable def l45_0:XC :=
 (.seq (.ops [oM 26 (.binI .lss 3 (.tmp 25) (.tmp 24) (.t 25) (.t 24))])
 (.seq (.cond (.t 26)
  .skip
  (.exit 0))
 (.seq (.block 1
  (.seq (.ops [oM 27 (.idxS 4 (.t 23) (.t 25)),
 oM 28 (.load true 4 (.t 27)),
 oM 5 (.alloc 39 [(.int .i64 0),(.int .i64 0),(.str []),(.slice .nil [])]),
 ⟨none,.store 4 (.t 5) (.t 28),none⟩])
  (.ops [oM 29 (.mv (.t 0)),
 oM 30 (.load true 4 (.t 5)),
 oM 31 (.call (.c (.func (.func 100) [] [])) [(.t 29),(.t 30)])])))
 (.ops [oM 32 (.binI .add 3 (.tmp 25) (.const (.int .i64 1)) (.t 25) (.c (.int .i64 1))),
 oM 25 (.mv (.t 32))]))))
noncomputable def l45_1:XC :=
 (.seq (.ops [oM 37 (.binI .lss 3 (.tmp 36) (.tmp 35) (.t 36) (.t 35))])
 (.seq (.cond (.t 37)
  .skip
  (.exit 2))
 (.seq (.block 3
  (.seq (.ops [oM 38 (.idxS 6 (.t 34) (.t 36)),
 oM 39 (.load true 6 (.t 38)),
 oM 7 (.alloc 28 [(.int .i64 0),(.str []),(.slice .nil []),(.str []),(.slice .nil []),(.slice .nil [])]),
 ⟨none,.store 6 (.t 7) (.t 39),none⟩])
  (.ops [oM 40 (.mv (.t 0)),
 oM 41 (.load true 6 (.t 7)),
 oM 42 (.call (.c (.func (.func 45) [] [])) [(.t 40),(.t 41)])])))
 (.ops [oM 43 (.binI .add 3 (.tmp 36) (.const (.int .i64 1)) (.t 36) (.c (.int .i64 1))),
 oM 36 (.mv (.t 43))]))))
noncomputable def x45:XC :=
 (.seq (.ops [oM 3 (.box 28 (.t 1))])
 (.seq (.seq (.ops [oM 8 (.mv (.t 0)),
 oM 9 (.gen ⟨some 9,.nilCheck (.tmp 8),0,"",#[],none⟩),
 oM 10 (.fieldAddr 0 (.t 9)),
 oM 11 (.load false 1 (.t 10)),
 oM 12 (.binI .add 3 (.tmp 11) (.const (.int .i64 1)) (.t 11) (.c (.int .i64 1))),
 oM 13 (.gen ⟨some 13,.nilCheck (.tmp 8),0,"",#[],none⟩),
 oM 14 (.fieldAddr 0 (.t 13)),
 ⟨none,.store 1 (.t 14) (.t 12),none⟩])
 (.seq (.ops [oM 15 (.mv (.t 0)),
 oM 16 (.gen ⟨some 16,.nilCheck (.tmp 15),0,"",#[],none⟩),
 oM 17 (.fieldAddr 0 (.t 16)),
 oM 18 (.load false 1 (.t 17)),
 oM 19 (.binI .gtr 3 (.tmp 18) (.const (.int .i64 4000)) (.t 18) (.c (.int .i64 4000)))])
 (.cond (.t 19)
  (.ops [oM 20 (.build [] [] []),
 oM 21 (.gen ⟨some 21,.makeInterface 90 (.tmp 20),0,"",#[],none⟩),
 ⟨none,.gen ⟨none,.panic (.tmp 21),0,"",#[],none⟩,none⟩])
  .skip)))
 (.seq (.seq (.ops [oM 22 (.fieldAddr 2 (.t 3)),
 oM 23 (.load false 1 (.t 22)),
 oM 24 (.lenS (.t 23)),
 oM 25 (.mv (.c (.int .i64 0)))])
 (.block 0
  (.loop l45_0)))
 (.seq (.ops [oM 33 (.fieldAddr 5 (.t 3)),
 oM 34 (.load false 1 (.t 33)),
 oM 35 (.lenS (.t 34)),
 oM 36 (.mv (.c (.int .i64 0)))])
 (.block 2
  (.loop l45_1))))))
theorem code45:codeOf C 45 F45 = x45:=by kernel_rfl
theorem ok45 {Q:Ctx} (hK:K Q):FnOk Q 45 F45 x45 false:=hK.ok_ ⟨fn45,code45,by kernel_rfl,by kernel_rfl⟩
noncomputable def b46:Code:=Tryz.f46.body.getD .skip
noncomputable def F46:FI:=⟨102,[],b46⟩
theorem fn46:C.fn 46 = some F46:=by kernel_rfl
noncomputable def x46:XC :=
 (.seq (.ops [oM 3 (.box 28 (.t 1))])
 (.seq (.ops [oM 4 (.fieldAddr 0 (.t 3)),
 oM 5 (.load false 1 (.t 4))])
 (.block 0
  (.seq (.ops [oM 33 (.binI .eql 3 (.tmp 5) (.const (.int .i64 1)) (.t 5) (.c (.int .i64 1))),
 oM 32 (.mv (.t 33))])
  (.cond (.t 32)
   (.seq (.ops [oM 34 (.mv (.t 0)),
 oM 35 (.fieldAddr 1 (.t 3)),
 oM 36 (.load false 1 (.t 35)),
 oM 37 (.buildS false 9 1 1 [(0,(.t 36))]),
 oM 38 (.call (.c (.func (.func 101) [] [])) [(.t 34),(.t 37)])])
   (.ops [oM 39 (.mv (.t 0)),
 oM 40 (.fieldAddr 2 (.t 3)),
 oM 41 (.load false 1 (.t 40)),
 oM 42 (.call (.c (.func (.func 102) [] [])) [(.t 39),(.t 41)])]))
   (.seq (.ops [oM 44 (.binI .eql 3 (.tmp 5) (.const (.int .i64 2)) (.t 5) (.c (.int .i64 2))),
 oM 43 (.mv (.t 44))])
   (.cond (.t 43)
    (.ops [oM 45 (.mv (.t 0)),
 oM 46 (.buildS false 9 1 1 [(0,(.c (.str [111,110,101])))]),
 oM 47 (.call (.c (.func (.func 101) [] [])) [(.t 45),(.t 46)])])
    (.seq (.ops [oM 49 (.binI .eql 3 (.tmp 5) (.const (.int .i64 3)) (.t 5) (.c (.int .i64 3))),
 oM 48 (.mv (.t 49))])
    (.cond (.t 48)
     (.ops [oM 50 (.mv (.t 0)),
 oM 51 (.buildS false 9 1 1 [(0,(.c (.str [116,111,112])))]),
 oM 52 (.call (.c (.func (.func 101) [] [])) [(.t 50),(.t 51)])])
     (.seq (.ops [oM 54 (.binI .eql 3 (.tmp 5) (.const (.int .i64 9)) (.t 5) (.c (.int .i64 9))),
 oM 53 (.mv (.t 54))])
     (.cond (.t 53)
      (.seq (.ops [oM 55 (.mv (.t 0)),
 oM 56 (.buildS false 9 1 1 [(0,(.c (.str [33])))]),
 oM 57 (.call (.c (.func (.func 101) [] [])) [(.t 55),(.t 56)])])
      (.ops [oM 58 (.mv (.t 0)),
 oM 59 (.fieldAddr 5 (.t 3)),
 oM 60 (.load false 1 (.t 59)),
 oM 61 (.idxS 6 (.t 60) (.c (.int .i64 0))),
 oM 62 (.load true 6 (.t 61)),
 oM 63 (.call (.c (.func (.func 46) [] [])) [(.t 58),(.t 62)])]))
      (.seq (.ops [oM 65 (.binI .eql 3 (.tmp 5) (.const (.int .i64 12)) (.t 5) (.c (.int .i64 12))),
 oM 64 (.mv (.t 65))])
      (.cond (.t 64)
       (.seq (.ops [oM 66 (.mv (.t 0)),
 oM 67 (.buildS false 9 1 1 [(0,(.c (.str [123])))]),
 oM 68 (.call (.c (.func (.func 101) [] [])) [(.t 66),(.t 67)])])
       (.seq (.ops [oM 69 (.mv (.t 0)),
 oM 70 (.fieldAddr 5 (.t 3)),
 oM 71 (.load false 1 (.t 70)),
 oM 72 (.idxS 6 (.t 71) (.c (.int .i64 0))),
 oM 73 (.load true 6 (.t 72)),
 oM 74 (.call (.c (.func (.func 46) [] [])) [(.t 69),(.t 73)])])
       (.ops [oM 75 (.mv (.t 0)),
 oM 76 (.buildS false 9 1 1 [(0,(.c (.str [125])))]),
 oM 77 (.call (.c (.func (.func 101) [] [])) [(.t 75),(.t 76)])])))
       (.seq (.seq (.ops [oM 79 (.binI .eql 3 (.tmp 5) (.const (.int .i64 10)) (.t 5) (.c (.int .i64 10))),
 oM 78 (.mv (.t 79))])
       (.cond (.t 78)
        .skip
        (.ops [oM 80 (.binI .eql 3 (.tmp 5) (.const (.int .i64 11)) (.t 5) (.c (.int .i64 11))),
 oM 78 (.mv (.t 80))])))
       (.cond (.t 78)
        (.seq (.ops [oM 81 (.mv (.t 0)),
 oM 82 (.gen ⟨some 82,.makeMap 151 none,0,"",#[],none⟩),
 ⟨none,.gen ⟨none,.insert 151 (.tmp 82) (.const (.int .i64 10)) (.const (.string ⟨#[97,108,108]⟩)),0,"",#[],none⟩,none⟩,
 ⟨none,.gen ⟨none,.insert 151 (.tmp 82) (.const (.int .i64 11)) (.const (.string ⟨#[101,120]⟩)),0,"",#[],none⟩,none⟩,
 oM 83 (.mv (.t 82)),
 oM 84 (.fieldAddr 0 (.t 3)),
 oM 85 (.load false 1 (.t 84)),
 oM 86 (.gen ⟨some 86,.lookup 151 (.tmp 83) (.tmp 85) false,0,"",#[],none⟩),
 oM 87 (.buildS false 9 1 2 [(0,(.t 86)),(1,(.c (.str [58])))]),
 oM 88 (.call (.c (.func (.func 101) [] [])) [(.t 81),(.t 87)])])
        (.seq (.ops [oM 89 (.mv (.t 0)),
 oM 90 (.fieldAddr 3 (.t 3)),
 oM 91 (.load true 2 (.t 90)),
 oM 92 (.call (.c (.func (.func 103) [] [])) [(.t 89),(.t 91)])])
        (.seq (.ops [oM 93 (.mv (.t 0)),
 oM 94 (.buildS false 9 1 1 [(0,(.c (.str [46])))]),
 oM 95 (.call (.c (.func (.func 101) [] [])) [(.t 93),(.t 94)])])
        (.ops [oM 96 (.mv (.t 0)),
 oM 97 (.fieldAddr 5 (.t 3)),
 oM 98 (.load false 1 (.t 97)),
 oM 99 (.idxS 6 (.t 98) (.c (.int .i64 0))),
 oM 100 (.load true 6 (.t 99)),
 oM 101 (.call (.c (.func (.func 46) [] [])) [(.t 96),(.t 100)])]))))
        (.seq (.ops [oM 6 (.mv (.t 0)),
 oM 7 (.buildS false 9 1 1 [(0,(.c (.str [40])))]),
 oM 8 (.call (.c (.func (.func 101) [] [])) [(.t 6),(.t 7)])])
        (.seq (.ops [oM 9 (.mv (.t 0)),
 oM 10 (.fieldAddr 5 (.t 3)),
 oM 11 (.load false 1 (.t 10)),
 oM 12 (.idxS 6 (.t 11) (.c (.int .i64 0))),
 oM 13 (.load true 6 (.t 12)),
 oM 14 (.call (.c (.func (.func 46) [] [])) [(.t 9),(.t 13)])])
        (.seq (.ops [oM 15 (.mv (.t 0)),
 oM 16 (.gen ⟨some 16,.makeMap 151 none,0,"",#[],none⟩),
 ⟨none,.gen ⟨none,.insert 151 (.tmp 16) (.const (.int .i64 4)) (.const (.string ⟨#[42]⟩)),0,"",#[],none⟩,none⟩,
 ⟨none,.gen ⟨none,.insert 151 (.tmp 16) (.const (.int .i64 5)) (.const (.string ⟨#[38]⟩)),0,"",#[],none⟩,none⟩,
 ⟨none,.gen ⟨none,.insert 151 (.tmp 16) (.const (.int .i64 6)) (.const (.string ⟨#[43]⟩)),0,"",#[],none⟩,none⟩,
 ⟨none,.gen ⟨none,.insert 151 (.tmp 16) (.const (.int .i64 7)) (.const (.string ⟨#[45,111]⟩)),0,"",#[],none⟩,none⟩,
 ⟨none,.gen ⟨none,.insert 151 (.tmp 16) (.const (.int .i64 8)) (.const (.string ⟨#[61,62]⟩)),0,"",#[],none⟩,none⟩,
 oM 17 (.mv (.t 16)),
 oM 18 (.fieldAddr 0 (.t 3)),
 oM 19 (.load false 1 (.t 18)),
 oM 20 (.gen ⟨some 20,.lookup 151 (.tmp 17) (.tmp 19) false,0,"",#[],none⟩),
 oM 21 (.buildS false 9 1 1 [(0,(.t 20))]),
 oM 22 (.call (.c (.func (.func 101) [] [])) [(.t 15),(.t 21)])])
        (.seq (.ops [oM 23 (.mv (.t 0)),
 oM 24 (.fieldAddr 5 (.t 3)),
 oM 25 (.load false 1 (.t 24)),
 oM 26 (.idxS 6 (.t 25) (.c (.int .i64 1))),
 oM 27 (.load true 6 (.t 26)),
 oM 28 (.call (.c (.func (.func 46) [] [])) [(.t 23),(.t 27)])])
        (.ops [oM 29 (.mv (.t 0)),
 oM 30 (.buildS false 9 1 1 [(0,(.c (.str [41])))]),
 oM 31 (.call (.c (.func (.func 101) [] [])) [(.t 29),(.t 30)])]))))))))))))))))))))
theorem code46:codeOf C 46 F46 = x46:=by kernel_rfl
theorem ok46 {Q:Ctx} (hK:K Q):FnOk Q 46 F46 x46 false:=hK.ok_ ⟨fn46,code46,by kernel_rfl,by kernel_rfl⟩
noncomputable def b47:Code:=Tryz.f47.body.getD .skip
noncomputable def F47:FI:=⟨8,[.tmp 2],b47⟩
theorem fn47:C.fn 47 = some F47:=by kernel_rfl
noncomputable def x47:XC :=
 (.seq (.ops [oM 2 (.mv (.c (.int .i64 0)))])
 (.seq (.ops [oM 3 (.mv (.t 0)),
 oM 4 (.gen ⟨some 4,.nilCheck (.tmp 3),0,"",#[],none⟩),
 oM 5 (.fieldAddr 1 (.t 4)),
 oM 6 (.load false 1 (.t 5)),
 oM 7 (.lenS (.t 6)),
 oM 2 (.mv (.t 7))])
 .ret))
theorem code47:codeOf C 47 F47 = x47:=by kernel_rfl
theorem ok47 {Q:Ctx} (hK:K Q):FnOk Q 47 F47 x47 false:=hK.ok_ ⟨fn47,code47,by kernel_rfl,by kernel_rfl⟩
noncomputable def b48:Code:=Tryz.f48.body.getD .skip
noncomputable def F48:FI:=⟨14,[.tmp 2],b48⟩
theorem fn48:C.fn 48 = some F48:=by kernel_rfl
noncomputable def d48_0:Array Oper:=(drawsOf b48).getD 0 #[]
theorem kd48_0:drawCr d48_0 = [none,none,none,none,(some ([none,none,none,none,none,none,none,none,(some none),(some (some [false,false,false,false,false,true,true,true,true,false,false,false])),none,none],[true,true,true,true,false,false,false,false,false,false,false,false])),none,none,none,none,none,(some ([none,none,none,none,none,none,none,none,none,none,none,none],[true,true,true,true,true,true,true,true,true,true,false,false])),none]:=by kernel_rfl
noncomputable def x48:XC :=
 (.seq (.ops [oM 2 (.mv (.c (.str [])))])
 (.seq (.draw d48_0 [oM 3 (.mv (.t 0)),
 oM 4 (.gen ⟨some 4,.nilCheck (.tmp 3),0,"",#[],none⟩),
 oM 5 (.fieldAddr 1 (.t 4)),
 oM 6 (.load false 1 (.t 5)),
 oM 7 (.gen ⟨some 7,.call { callee:=.builtin .unsafeSliceData,args:=#[(.tmp 6)],argTypes:=#[94] },0,"",#[],none⟩),
 oM 8 (.mv (.t 0)),
 oM 9 (.gen ⟨some 9,.nilCheck (.tmp 8),0,"",#[],none⟩),
 oM 10 (.fieldAddr 1 (.t 9)),
 oM 11 (.load false 1 (.t 10)),
 oM 12 (.lenS (.t 11)),
 oM 13 (.gen ⟨some 13,.call { callee:=.builtin .unsafeString,args:=#[(.tmp 7),(.tmp 12)],argTypes:=#[153,3] },0,"",#[],none⟩),
 oM 2 (.mv (.t 13))])
 .ret))
theorem code48:codeOf C 48 F48 = x48:=by kernel_rfl
theorem ok48 {Q:Ctx} (hK:K Q):FnOk Q 48 F48 x48 false:=hK.ok_ ⟨fn48,code48,by kernel_rfl,by kernel_rfl⟩
noncomputable def b50:Code:=Tryz.f50.body.getD .skip
noncomputable def F50:FI:=⟨57,[.tmp 4],b50⟩
theorem fn50:C.fn 50 = some F50:=by kernel_rfl
noncomputable def x50:XC :=
 (.seq (.ops [oM 2 (.box 28 (.t 0)),
 oM 3 (.box 28 (.t 1)),
 oM 4 (.mv (.c (.int .i64 0)))])
 (.seq (.seq (.ops [oM 8 (.fieldAddr 0 (.t 2)),
 oM 9 (.load false 1 (.t 8)),
 oM 10 (.fieldAddr 0 (.t 3)),
 oM 11 (.load false 1 (.t 10)),
 oM 12 (.binI .neq 3 (.tmp 9) (.tmp 11) (.t 9) (.t 11))])
 (.cond (.t 12)
  (.seq (.ops [oM 13 (.fieldAddr 0 (.t 2)),
 oM 14 (.load false 1 (.t 13)),
 oM 15 (.fieldAddr 0 (.t 3)),
 oM 16 (.load false 1 (.t 15)),
 oM 17 (.binI .sub 3 (.tmp 14) (.tmp 16) (.t 14) (.t 16)),
 oM 4 (.mv (.t 17))])
  .ret)
  .skip))
 (.seq (.seq (.ops [oM 18 (.fieldAddr 0 (.t 2)),
 oM 19 (.load false 1 (.t 18)),
 oM 20 (.binI .eql 3 (.tmp 19) (.const (.int .i64 1)) (.t 19) (.c (.int .i64 1)))])
 (.cond (.t 20)
  (.seq (.seq (.ops [oM 21 (.fieldAddr 1 (.t 2)),
 oM 22 (.load false 1 (.t 21)),
 oM 23 (.fieldAddr 1 (.t 3)),
 oM 24 (.load false 1 (.t 23)),
 oM 25 (.call (.c (.func (.func 107) [] [])) [(.t 22),(.t 24)]),
 oM 5 (.mv (.t 25))])
  (.seq (.ops [oM 26 (.mv (.t 5)),
 oM 27 (.binI .neq 3 (.tmp 26) (.const (.int .i64 0)) (.t 26) (.c (.int .i64 0)))])
  (.cond (.t 27)
   (.seq (.ops [oM 28 (.mv (.t 5)),
 oM 4 (.mv (.t 28))])
   .ret)
   .skip)))
  (.seq (.seq (.ops [oM 29 (.fieldAddr 2 (.t 2)),
 oM 30 (.load false 1 (.t 29)),
 oM 31 (.lenS (.t 30)),
 oM 32 (.fieldAddr 2 (.t 3)),
 oM 33 (.load false 1 (.t 32)),
 oM 34 (.lenS (.t 33)),
 oM 35 (.binI .sub 3 (.tmp 31) (.tmp 34) (.t 31) (.t 34)),
 oM 6 (.mv (.t 35))])
  (.seq (.ops [oM 36 (.mv (.t 6)),
 oM 37 (.binI .neq 3 (.tmp 36) (.const (.int .i64 0)) (.t 36) (.c (.int .i64 0)))])
  (.cond (.t 37)
   (.seq (.ops [oM 38 (.mv (.t 6)),
 oM 4 (.mv (.t 38))])
   .ret)
   .skip)))
  (.seq (.ops [oM 39 (.fieldAddr 2 (.t 2)),
 oM 40 (.load false 1 (.t 39)),
 oM 41 (.fieldAddr 2 (.t 3)),
 oM 42 (.load false 1 (.t 41)),
 oM 43 (.call (.c (.func (.func 108) [] [])) [(.t 40),(.t 42),(.c (.func (.func 109) [] []))]),
 oM 4 (.mv (.t 43))])
  .ret)))
  .skip))
 (.seq (.seq (.ops [oM 44 (.fieldAddr 3 (.t 2)),
 oM 45 (.load true 2 (.t 44)),
 oM 46 (.fieldAddr 3 (.t 3)),
 oM 47 (.load true 2 (.t 46)),
 oM 48 (.call (.c (.func (.func 110) [] [])) [(.t 45),(.t 47)]),
 oM 7 (.mv (.t 48))])
 (.seq (.ops [oM 49 (.mv (.t 7)),
 oM 50 (.binI .neq 3 (.tmp 49) (.const (.int .i64 0)) (.t 49) (.c (.int .i64 0)))])
 (.cond (.t 50)
  (.seq (.ops [oM 51 (.mv (.t 7)),
 oM 4 (.mv (.t 51))])
  .ret)
  .skip)))
 (.seq (.ops [oM 52 (.fieldAddr 5 (.t 2)),
 oM 53 (.load false 1 (.t 52)),
 oM 54 (.fieldAddr 5 (.t 3)),
 oM 55 (.load false 1 (.t 54)),
 oM 56 (.call (.c (.func (.func 111) [] [])) [(.t 53),(.t 55),(.c (.func (.func 50) [] []))]),
 oM 4 (.mv (.t 56))])
 .ret)))))
theorem code50:codeOf C 50 F50 = x50:=by kernel_rfl
theorem ok50 {Q:Ctx} (hK:K Q):FnOk Q 50 F50 x50 false:=hK.ok_ ⟨fn50,code50,by kernel_rfl,by kernel_rfl⟩
noncomputable def b52:Code:=Tryz.f52.body.getD .skip
noncomputable def F52:FI:=⟨6,[.tmp 2],b52⟩
theorem fn52:C.fn 52 = some F52:=by kernel_rfl
noncomputable def x52:XC :=
 (.seq (.ops [oM 2 (.mv (.c (.int .i64 0)))])
 (.seq (.ops [oM 3 (.mv (.t 0)),
 oM 4 (.gen ⟨some 4,.call { callee:=.builtin .min,args:=#[(.const (.int .i64 1)),(.tmp 3)],argTypes:=#[3,3] },0,"",#[],none⟩),
 oM 5 (.gen ⟨some 5,.call { callee:=.builtin .max,args:=#[(.const (.int .i64 (-1))),(.tmp 4)],argTypes:=#[3,3] },0,"",#[],none⟩),
 oM 2 (.mv (.t 5))])
 .ret))
theorem code52:codeOf C 52 F52 = x52:=by kernel_rfl
theorem ok52 {Q:Ctx} (hK:K Q):FnOk Q 52 F52 x52 false:=hK.ok_ ⟨fn52,code52,by kernel_rfl,by kernel_rfl⟩
noncomputable def b54:Code:=Tryz.f54.body.getD .skip
noncomputable def F54:FI:=⟨25,[.tmp 2],b54⟩
theorem fn54:C.fn 54 = some F54:=by kernel_rfl
noncomputable def l54_0:XC :=
 (.seq (.seq (.ops [oM 11 (.mv (.t 3)),
 oM 12 (.fieldAddr 1 (.t 1)),
 oM 13 (.load false 1 (.t 12)),
 oM 14 (.lenS (.t 13)),
 oM 15 (.binI .lss 3 (.tmp 11) (.tmp 14) (.t 11) (.t 14))])
 (.cond (.t 15)
  .skip
  (.exit 0)))
 (.seq (.block 1
  (.seq (.ops [oM 18 (.fieldAddr 1 (.t 1)),
 oM 19 (.load false 1 (.t 18)),
 oM 20 (.mv (.t 3)),
 oM 21 (.idxS 2 (.t 19) (.t 20)),
 oM 22 (.load true 2 (.t 21)),
 oM 23 (.call (.c (.func (.func 54) [] [])) [(.t 22)]),
 oM 24 (.un .not (.t 23))])
  (.cond (.t 24)
   (.seq (.ops [oM 2 (.mv (.c (.bool false)))])
   .ret)
   .skip)))
 (.ops [oM 16 (.mv (.t 3)),
 oM 17 (.binI .add 3 (.tmp 16) (.const (.int .i64 1)) (.t 16) (.c (.int .i64 1))),
 oM 3 (.mv (.t 17))])))
noncomputable def x54:XC :=
 (.seq (.ops [oM 1 (.box 25 (.t 0)),
 oM 2 (.mv (.c (.bool false)))])
 (.seq (.seq (.ops [oM 4 (.fieldAddr 1 (.t 1)),
 oM 5 (.load false 1 (.t 4)),
 oM 6 (.lenS (.t 5)),
 oM 7 (.binI .eql 3 (.tmp 6) (.const (.int .i64 0)) (.t 6) (.c (.int .i64 0)))])
 (.cond (.t 7)
  (.seq (.ops [oM 8 (.fieldAddr 0 (.t 1)),
 oM 9 (.load false 1 (.t 8)),
 oM 10 (.call (.c (.func (.func 99) [] [])) [(.t 9)]),
 oM 2 (.mv (.t 10))])
  .ret)
  .skip))
 (.seq (.seq (.ops [oM 3 (.mv (.c (.int .i64 0)))])
 (.block 0
  (.loop l54_0)))
 (.seq (.ops [oM 2 (.mv (.c (.bool true)))])
 .ret))))
theorem code54:codeOf C 54 F54 = x54:=by kernel_rfl
theorem ok54 {Q:Ctx} (hK:K Q):FnOk Q 54 F54 x54 false:=hK.ok_ ⟨fn54,code54,by kernel_rfl,by kernel_rfl⟩
noncomputable def b56:Code:=Tryz.f56.body.getD .skip
noncomputable def F56:FI:=⟨11,[.tmp 2],b56⟩
theorem fn56:C.fn 56 = some F56:=by kernel_rfl
noncomputable def x56:XC :=
 (.seq (.ops [oM 1 (.box 39 (.t 0)),
 oM 2 (.mv (.c (.int .i64 0)))])
 (.seq (.seq (.ops [oM 4 (.load true 4 (.t 1)),
 oM 5 (.call (.c (.func (.func 118) [] [])) [(.t 4),(.c (.func (.func 119) [] []))]),
 oM 3 (.mv (.t 5))])
 (.seq (.ops [oM 6 (.mv (.t 3)),
 oM 7 (.binI .neq 30 (.tmp 6) (.const (.int .i64 0)) (.t 6) (.c (.int .i64 0)))])
 (.cond (.t 7)
  (.seq (.ops [oM 8 (.mv (.t 3)),
 oM 2 (.mv (.t 8))])
  .ret)
  .skip)))
 (.seq (.ops [oM 9 (.mkFunc 121 [] [(.t 1)]),
 oM 10 (.call (.c (.func (.func 120) [] [])) [(.t 9)]),
 oM 2 (.mv (.t 10))])
 .ret)))
theorem code56:codeOf C 56 F56 = x56:=by kernel_rfl
theorem ok56 {Q:Ctx} (hK:K Q):FnOk Q 56 F56 x56 false:=hK.ok_ ⟨fn56,code56,by kernel_rfl,by kernel_rfl⟩
noncomputable def b57:Code:=Tryz.f57.body.getD .skip
noncomputable def F57:FI:=⟨11,[.tmp 2],b57⟩
theorem fn57:C.fn 57 = some F57:=by kernel_rfl
noncomputable def x57:XC :=
 (.seq (.ops [oM 1 (.box 28 (.t 0)),
 oM 2 (.mv (.c (.bool false)))])
 (.seq (.ops [oM 3 (.fieldAddr 0 (.t 1)),
 oM 4 (.load false 1 (.t 3)),
 oM 5 (.binI .eql 3 (.tmp 4) (.const (.int .i64 10)) (.t 4) (.c (.int .i64 10))),
 oM 6 (.mv (.t 5)),
 ⟨some 7,.fieldAddr 0 (.t 1),(some (some 6,false))⟩,
 ⟨some 8,.load false 1 (.t 7),(some (some 6,false))⟩,
 ⟨some 9,.binI .eql 3 (.tmp 8) (.const (.int .i64 11)) (.t 8) (.c (.int .i64 11)),(some (some 6,false))⟩,
 oM 10 (.pick (.t 6) (.c (.bool true)) (.t 9)),
 oM 2 (.mv (.t 10))])
 .ret))
theorem code57:codeOf C 57 F57 = x57:=by kernel_rfl
theorem ok57 {Q:Ctx} (hK:K Q):FnOk Q 57 F57 x57 false:=hK.ok_ ⟨fn57,code57,by kernel_rfl,by kernel_rfl⟩
noncomputable def b62:Code:=Tryz.f62.body.getD .skip
noncomputable def F62:FI:=⟨9,[.tmp 2],b62⟩
theorem fn62:C.fn 62 = some F62:=by kernel_rfl
noncomputable def x62:XC :=
 (.seq (.ops [oM 2 (.mv (.c (.bool false)))])
 (.seq (.ops [oM 3 (.mv (.t 0)),
 oM 4 (.call (.c (.func (.func 93) [] [])) [(.t 3)]),
 oM 5 (.mv (.t 4)),
 ⟨some 6,.mv (.t 0),(some (some 5,false))⟩,
 ⟨some 7,.call (.c (.func (.func 130) [] [])) [(.t 6)],(some (some 5,false))⟩,
 oM 8 (.pick (.t 5) (.c (.bool true)) (.t 7)),
 oM 2 (.mv (.t 8))])
 .ret))
theorem code62:codeOf C 62 F62 = x62:=by kernel_rfl
theorem ok62 {Q:Ctx} (hK:K Q):FnOk Q 62 F62 x62 false:=hK.ok_ ⟨fn62,code62,by kernel_rfl,by kernel_rfl⟩
noncomputable def b63:Code:=Tryz.f63.body.getD .skip
noncomputable def F63:FI:=⟨13,[.tmp 2],b63⟩
theorem fn63:C.fn 63 = some F63:=by kernel_rfl
noncomputable def x63:XC :=
 (.seq (.ops [oM 1 (.box 25 (.t 0)),
 oM 2 (.mv (.c (.bool false)))])
 (.seq (.ops [oM 4 (.build [(.slice .nil []),(.slice .nil []),(.slice .nil []),(.slice .nil []),(.slice .nil [])] [(0,1),(1,1),(2,1),(3,1),(4,1)] []),
 oM 5 (.load true 2 (.t 1)),
 oM 6 (.call (.c (.func (.func 131) [] [])) [(.t 4),(.t 5)]),
 oM 3 (.mv (.t 6))])
 (.seq (.ops [oM 7 (.mv (.t 3)),
 oM 8 (.binI .eql 30 (.tmp 7) (.const (.int .i64 0)) (.t 7) (.c (.int .i64 0))),
 oM 9 (.mv (.t 8)),
 ⟨some 10,.mv (.t 3),(some (some 9,false))⟩,
 ⟨some 11,.binI .eql 30 (.tmp 10) (.const (.int .i64 40)) (.t 10) (.c (.int .i64 40)),(some (some 9,false))⟩,
 oM 12 (.pick (.t 9) (.c (.bool true)) (.t 11)),
 oM 2 (.mv (.t 12))])
 .ret)))
theorem code63:codeOf C 63 F63 = x63:=by kernel_rfl
theorem ok63 {Q:Ctx} (hK:K Q):FnOk Q 63 F63 x63 false:=hK.ok_ ⟨fn63,code63,by kernel_rfl,by kernel_rfl⟩
noncomputable def b87:Code:=Tryz.f87.body.getD .skip
noncomputable def F87:FI:=⟨9,[.tmp 4],b87⟩
theorem fn87:C.fn 87 = some F87:=by kernel_rfl
noncomputable def x87:XC :=
 (.seq (.ops [oM 4 (.mv (.c (.bool false)))])
 (.seq (.ops [oM 5 (.mv (.t 0)),
 oM 6 (.mv (.t 1)),
 oM 7 (.call (.c (.func (.func 168) [] [])) [(.t 5),(.t 6)]),
 oM 8 (.binI .geq 3 (.tmp 7) (.const (.int .i64 0)) (.t 7) (.c (.int .i64 0))),
 oM 4 (.mv (.t 8))])
 .ret))
theorem code87:codeOf C 87 F87 = x87:=by kernel_rfl
theorem ok87 {Q:Ctx} (hK:K Q):FnOk Q 87 F87 x87 false:=hK.ok_ ⟨fn87,code87,by kernel_rfl,by kernel_rfl⟩
noncomputable def b88:Code:=Tryz.f88.body.getD .skip
noncomputable def F88:FI:=⟨8,[.tmp 3],b88⟩
theorem fn88:C.fn 88 = some F88:=by kernel_rfl
noncomputable def x88:XC :=
 (.seq (.ops [oM 2 (.box 39 (.t 0)),
 oM 3 (.mv (.c (.bool false)))])
 (.seq (.ops [oM 4 (.load true 4 (.t 2)),
 oM 5 (.load false 1 (.t 1)),
 oM 6 (.binI .sub 3 (.tmp 5) (.const (.int .i64 1)) (.t 5) (.c (.int .i64 1))),
 oM 7 (.call (.c (.func (.func 89) [] [])) [(.t 4),(.t 6)]),
 oM 3 (.mv (.t 7))])
 .ret))
theorem code88:codeOf C 88 F88 = x88:=by kernel_rfl
theorem ok88 {Q:Ctx} (hK:K Q):FnOk Q 88 F88 x88 false:=hK.ok_ ⟨fn88,code88,by kernel_rfl,by kernel_rfl⟩
noncomputable def b89:Code:=Tryz.f89.body.getD .skip
noncomputable def F89:FI:=⟨13,[.tmp 4],b89⟩
theorem fn89:C.fn 89 = some F89:=by kernel_rfl
noncomputable def x89:XC :=
 (.seq (.ops [oM 2 (.box 39 (.t 0)),
 oM 3 (.box 3 (.t 1)),
 oM 4 (.mv (.c (.bool false)))])
 (.seq (.ops [oM 5 (.load false 1 (.t 3)),
 oM 6 (.binI .eql 3 (.tmp 5) (.const (.int .i64 0)) (.t 5) (.c (.int .i64 0))),
 oM 7 (.mv (.t 6)),
 ⟨some 8,.fieldAddr 3 (.t 2),(some (some 7,false))⟩,
 ⟨some 9,.load false 1 (.t 8),(some (some 7,false))⟩,
 ⟨some 10,.mkFunc 169 [] [(.t 3)],(some (some 7,false))⟩,
 ⟨some 11,.call (.c (.func (.func 87) [] [])) [(.t 9),(.t 10)],(some (some 7,false))⟩,
 oM 12 (.pick (.t 7) (.c (.bool true)) (.t 11)),
 oM 4 (.mv (.t 12))])
 .ret))
theorem code89:codeOf C 89 F89 = x89:=by kernel_rfl
theorem ok89 {Q:Ctx} (hK:K Q):FnOk Q 89 F89 x89 false:=hK.ok_ ⟨fn89,code89,by kernel_rfl,by kernel_rfl⟩
noncomputable def b90:Code:=Tryz.f90.body.getD .skip
noncomputable def F90:FI:=⟨9,[.tmp 4],b90⟩
theorem fn90:C.fn 90 = some F90:=by kernel_rfl
noncomputable def x90:XC :=
 (.seq (.ops [oM 4 (.mv (.c (.bool false)))])
 (.seq (.ops [oM 5 (.mv (.t 0)),
 oM 6 (.mv (.t 1)),
 oM 7 (.call (.c (.func (.func 170) [] [])) [(.t 5),(.t 6)]),
 oM 8 (.binI .geq 3 (.tmp 7) (.const (.int .i64 0)) (.t 7) (.c (.int .i64 0))),
 oM 4 (.mv (.t 8))])
 .ret))
theorem code90:codeOf C 90 F90 = x90:=by kernel_rfl
theorem ok90 {Q:Ctx} (hK:K Q):FnOk Q 90 F90 x90 false:=hK.ok_ ⟨fn90,code90,by kernel_rfl,by kernel_rfl⟩
noncomputable def b91:Code:=Tryz.f91.body.getD .skip
noncomputable def F91:FI:=⟨8,[.tmp 3],b91⟩
theorem fn91:C.fn 91 = some F91:=by kernel_rfl
noncomputable def x91:XC :=
 (.seq (.ops [oM 2 (.box 28 (.t 0)),
 oM 3 (.mv (.c (.bool false)))])
 (.seq (.ops [oM 4 (.load true 6 (.t 2)),
 oM 5 (.load false 1 (.t 1)),
 oM 6 (.binI .sub 3 (.tmp 5) (.const (.int .i64 1)) (.t 5) (.c (.int .i64 1))),
 oM 7 (.call (.c (.func (.func 39) [] [])) [(.t 4),(.t 6)]),
 oM 3 (.mv (.t 7))])
 .ret))
theorem code91:codeOf C 91 F91 = x91:=by kernel_rfl
theorem ok91 {Q:Ctx} (hK:K Q):FnOk Q 91 F91 x91 false:=hK.ok_ ⟨fn91,code91,by kernel_rfl,by kernel_rfl⟩
noncomputable def b92:Code:=Tryz.f92.body.getD .skip
noncomputable def F92:FI:=⟨14,[.tmp 2],b92⟩
theorem fn92:C.fn 92 = some F92:=by kernel_rfl
noncomputable def x92:XC :=
 (.seq (.ops [oM 2 (.mv (.c (.int .i64 0)))])
 (.seq (.ops [oM 4 (.gen ⟨some 4,.build 203 #[(0,(.const (.int .i64 (-1)))),(1,(.const (.int .i64 0))),(2,(.const (.int .i64 0))),(3,(.const (.int .i64 0))),(4,(.const (.int .i64 2))),(5,(.const (.int .i64 2))),(6,(.const (.int .i64 2))),(7,(.const (.int .i64 2))),(8,(.const (.int .i64 2))),(9,(.const (.int .i64 1))),(10,(.const (.int .i64 1))),(11,(.const (.int .i64 1))),(12,(.const (.int .i64 1)))],0,"",#[],none⟩),
 oM 3 (.alloc 203 [(.int .i64 0),(.int .i64 0),(.int .i64 0),(.int .i64 0),(.int .i64 0),(.int .i64 0),(.int .i64 0),(.int .i64 0),(.int .i64 0),(.int .i64 0),(.int .i64 0),(.int .i64 0),(.int .i64 0)]),
 ⟨none,.store 13 (.t 3) (.t 4),none⟩])
 (.seq (.seq (.ops [oM 5 (.mv (.t 0)),
 oM 6 (.binI .lss 3 (.tmp 5) (.const (.int .i64 0)) (.t 5) (.c (.int .i64 0))),
 oM 7 (.mv (.t 6)),
 ⟨some 8,.mv (.t 0),(some (some 7,false))⟩,
 ⟨some 9,.binI .geq 3 (.tmp 8) (.const (.int .i64 13)) (.t 8) (.c (.int .i64 13)),(some (some 7,false))⟩,
 oM 10 (.pick (.t 7) (.c (.bool true)) (.t 9))])
 (.cond (.t 10)
  (.seq (.ops [oM 2 (.mv (.c (.int .i64 (-1))))])
  .ret)
  .skip))
 (.seq (.ops [oM 11 (.mv (.t 0)),
 oM 12 (.gen ⟨some 12,.indexAddr 203 (.tmp 3) (.tmp 11),0,"",#[],none⟩),
 oM 13 (.load false 1 (.t 12)),
 oM 2 (.mv (.t 13))])
 .ret))))
theorem code92:codeOf C 92 F92 = x92:=by kernel_rfl
theorem ok92 {Q:Ctx} (hK:K Q):FnOk Q 92 F92 x92 false:=hK.ok_ ⟨fn92,code92,by kernel_rfl,by kernel_rfl⟩
noncomputable def b93:Code:=Tryz.f93.body.getD .skip
noncomputable def F93:FI:=⟨5,[.tmp 2],b93⟩
theorem fn93:C.fn 93 = some F93:=by kernel_rfl
noncomputable def x93:XC :=
 (.seq (.ops [oM 2 (.mv (.c (.bool false)))])
 (.seq (.ops [oM 3 (.mv (.t 0)),
 oM 4 (.call (.c (.func (.func 171) [] [])) [(.t 3),(.c (.int .i64 1))]),
 oM 2 (.mv (.t 4))])
 .ret))
theorem code93:codeOf C 93 F93 = x93:=by kernel_rfl
theorem ok93 {Q:Ctx} (hK:K Q):FnOk Q 93 F93 x93 false:=hK.ok_ ⟨fn93,code93,by kernel_rfl,by kernel_rfl⟩
noncomputable def b94:Code:=Tryz.f94.body.getD .skip
noncomputable def F94:FI:=⟨6,[.tmp 2],b94⟩
theorem fn94:C.fn 94 = some F94:=by kernel_rfl
noncomputable def x94:XC :=
 (.seq (.ops [oM 1 (.box 39 (.t 0)),
 oM 2 (.mv (.c (.bool false)))])
 (.seq (.ops [oM 3 (.load true 4 (.t 1)),
 oM 4 (.call (.c (.func (.func 56) [] [])) [(.t 3)]),
 oM 5 (.binI .neq 30 (.tmp 4) (.const (.int .i64 0)) (.t 4) (.c (.int .i64 0))),
 oM 2 (.mv (.t 5))])
 .ret))
theorem code94:codeOf C 94 F94 = x94:=by kernel_rfl
theorem ok94 {Q:Ctx} (hK:K Q):FnOk Q 94 F94 x94 false:=hK.ok_ ⟨fn94,code94,by kernel_rfl,by kernel_rfl⟩
noncomputable def b95:Code:=Tryz.f95.body.getD .skip
noncomputable def F95:FI:=⟨6,[.tmp 2],b95⟩
theorem fn95:C.fn 95 = some F95:=by kernel_rfl
noncomputable def x95:XC :=
 (.seq (.ops [oM 1 (.box 28 (.t 0)),
 oM 2 (.mv (.c (.bool false)))])
 (.seq (.ops [oM 3 (.load true 6 (.t 1)),
 oM 4 (.call (.c (.func (.func 40) [] [])) [(.t 3)]),
 oM 5 (.un .not (.t 4)),
 oM 2 (.mv (.t 5))])
 .ret))
theorem code95:codeOf C 95 F95 = x95:=by kernel_rfl
theorem ok95 {Q:Ctx} (hK:K Q):FnOk Q 95 F95 x95 false:=hK.ok_ ⟨fn95,code95,by kernel_rfl,by kernel_rfl⟩
noncomputable def b99:Code:=Tryz.f99.body.getD .skip
noncomputable def F99:FI:=⟨7,[.tmp 2],b99⟩
theorem fn99:C.fn 99 = some F99:=by kernel_rfl
noncomputable def x99:XC :=
 (.seq (.ops [oM 2 (.mv (.c (.bool false)))])
 (.seq (.ops [oM 3 (.mv (.t 0)),
 oM 4 (.build [(.int .i64 0),(.str []),(.int .i64 0)] [(0,1),(1,1),(2,1)] [(0,(.c (.int .i64 1))),(1,(.t 3))]),
 oM 5 (.call (.c (.func (.func 173) [] [])) [(.t 4)]),
 oM 6 (.binI .eql 30 (.tmp 5) (.const (.int .i64 0)) (.t 5) (.c (.int .i64 0))),
 oM 2 (.mv (.t 6))])
 .ret))
theorem code99:codeOf C 99 F99 = x99:=by kernel_rfl
theorem ok99 {Q:Ctx} (hK:K Q):FnOk Q 99 F99 x99 false:=hK.ok_ ⟨fn99,code99,by kernel_rfl,by kernel_rfl⟩
noncomputable def b100:Code:=Tryz.f100.body.getD .skip
noncomputable def F100:FI:=⟨31,[],b100⟩
theorem fn100:C.fn 100 = some F100:=by kernel_rfl
noncomputable def l100_0:XC :=
 (.seq (.ops [oM 24 (.binI .lss 3 (.tmp 23) (.tmp 22) (.t 23) (.t 22))])
 (.seq (.cond (.t 24)
  .skip
  (.exit 0))
 (.seq (.block 1
  (.seq (.ops [oM 25 (.idxS 4 (.t 21) (.t 23)),
 oM 26 (.load true 4 (.t 25)),
 oM 5 (.alloc 39 [(.int .i64 0),(.int .i64 0),(.str []),(.slice .nil [])]),
 ⟨none,.store 4 (.t 5) (.t 26),none⟩])
  (.ops [oM 27 (.mv (.t 0)),
 oM 28 (.load true 4 (.t 5)),
 oM 29 (.call (.c (.func (.func 100) [] [])) [(.t 27),(.t 28)])])))
 (.ops [oM 30 (.binI .add 3 (.tmp 23) (.const (.int .i64 1)) (.t 23) (.c (.int .i64 1))),
 oM 23 (.mv (.t 30))]))))
noncomputable def x100:XC :=
 (.seq (.ops [oM 3 (.box 39 (.t 1))])
 (.seq (.seq (.ops [oM 6 (.mv (.t 0)),
 oM 7 (.gen ⟨some 7,.nilCheck (.tmp 6),0,"",#[],none⟩),
 oM 8 (.fieldAddr 0 (.t 7)),
 oM 9 (.load false 1 (.t 8)),
 oM 10 (.binI .add 3 (.tmp 9) (.const (.int .i64 1)) (.t 9) (.c (.int .i64 1))),
 oM 11 (.gen ⟨some 11,.nilCheck (.tmp 6),0,"",#[],none⟩),
 oM 12 (.fieldAddr 0 (.t 11)),
 ⟨none,.store 1 (.t 12) (.t 10),none⟩])
 (.seq (.ops [oM 13 (.mv (.t 0)),
 oM 14 (.gen ⟨some 14,.nilCheck (.tmp 13),0,"",#[],none⟩),
 oM 15 (.fieldAddr 0 (.t 14)),
 oM 16 (.load false 1 (.t 15)),
 oM 17 (.binI .gtr 3 (.tmp 16) (.const (.int .i64 4000)) (.t 16) (.c (.int .i64 4000)))])
 (.cond (.t 17)
  (.ops [oM 18 (.build [] [] []),
 oM 19 (.gen ⟨some 19,.makeInterface 90 (.tmp 18),0,"",#[],none⟩),
 ⟨none,.gen ⟨none,.panic (.tmp 19),0,"",#[],none⟩,none⟩])
  .skip)))
 (.seq (.ops [oM 20 (.fieldAddr 3 (.t 3)),
 oM 21 (.load false 1 (.t 20)),
 oM 22 (.lenS (.t 21)),
 oM 23 (.mv (.c (.int .i64 0)))])
 (.block 0
  (.loop l100_0)))))
theorem code100:codeOf C 100 F100 = x100:=by kernel_rfl
theorem ok100 {Q:Ctx} (hK:K Q):FnOk Q 100 F100 x100 false:=hK.ok_ ⟨fn100,code100,by kernel_rfl,by kernel_rfl⟩
noncomputable def b101:Code:=Tryz.f101.body.getD .skip
noncomputable def F101:FI:=⟨27,[],b101⟩
theorem fn101:C.fn 101 = some F101:=by kernel_rfl
noncomputable def l101_0:XC :=
 (.seq (.ops [oM 9 (.binI .lss 3 (.tmp 8) (.tmp 7) (.t 8) (.t 7))])
 (.seq (.cond (.t 9)
  .skip
  (.exit 0))
 (.seq (.block 1
  (.seq (.ops [oM 10 (.idxS 1 (.t 6) (.t 8)),
 oM 11 (.load false 1 (.t 10)),
 oM 5 (.mv (.t 11))])
  (.seq (.seq (.ops [oM 12 (.mv (.t 0)),
 oM 13 (.gen ⟨some 13,.nilCheck (.tmp 12),0,"",#[],none⟩),
 oM 14 (.fieldAddr 0 (.t 13)),
 oM 15 (.call (.c (.func (.func 47) [] [])) [(.t 14)]),
 oM 16 (.binI .gtr 3 (.tmp 15) (.const (.int .i64 0)) (.t 15) (.c (.int .i64 0)))])
  (.cond (.t 16)
   (.ops [oM 17 (.mv (.t 0)),
 oM 18 (.gen ⟨some 18,.nilCheck (.tmp 17),0,"",#[],none⟩),
 oM 19 (.fieldAddr 0 (.t 18)),
 oM 20 (.call (.c (.func (.func 174) [] [])) [(.t 19),(.c (.str [32]))])])
   .skip))
  (.ops [oM 21 (.mv (.t 0)),
 oM 22 (.gen ⟨some 22,.nilCheck (.tmp 21),0,"",#[],none⟩),
 oM 23 (.fieldAddr 0 (.t 22)),
 oM 24 (.mv (.t 5)),
 oM 25 (.call (.c (.func (.func 174) [] [])) [(.t 23),(.t 24)])]))))
 (.ops [oM 26 (.binI .add 3 (.tmp 8) (.const (.int .i64 1)) (.t 8) (.c (.int .i64 1))),
 oM 8 (.mv (.t 26))]))))
noncomputable def x101:XC :=
 (.seq (.ops [oM 6 (.mv (.t 1)),
 oM 7 (.lenS (.t 6)),
 oM 8 (.mv (.c (.int .i64 0)))])
 (.block 0
  (.loop l101_0)))
theorem code101:codeOf C 101 F101 = x101:=by kernel_rfl
theorem ok101 {Q:Ctx} (hK:K Q):FnOk Q 101 F101 x101 false:=hK.ok_ ⟨fn101,code101,by kernel_rfl,by kernel_rfl⟩
noncomputable def b102:Code:=Tryz.f102.body.getD .skip
noncomputable def F102:FI:=⟨29,[],b102⟩
theorem fn102:C.fn 102 = some F102:=by kernel_rfl
noncomputable def l102_0:XC :=
 (.seq (.ops [oM 9 (.binI .lss 3 (.tmp 8) (.tmp 7) (.t 8) (.t 7))])
 (.seq (.cond (.t 9)
  .skip
  (.exit 0))
 (.seq (.block 1
  (.seq (.ops [oM 10 (.idxS 4 (.t 6) (.t 8)),
 oM 11 (.load true 4 (.t 10)),
 oM 5 (.alloc 39 [(.int .i64 0),(.int .i64 0),(.str []),(.slice .nil [])]),
 ⟨none,.store 4 (.t 5) (.t 11),none⟩])
  (.seq (.seq (.ops [oM 12 (.fieldAddr 3 (.t 5)),
 oM 13 (.load false 1 (.t 12)),
 oM 14 (.lenS (.t 13)),
 oM 15 (.binI .eql 3 (.tmp 14) (.const (.int .i64 0)) (.t 14) (.c (.int .i64 0)))])
  (.cond (.t 15)
   (.seq (.ops [oM 16 (.mv (.t 0)),
 oM 17 (.load true 4 (.t 5)),
 oM 18 (.call (.c (.func (.func 175) [] [])) [(.t 16),(.t 17)])])
   (.exit 1))
   .skip))
  (.seq (.ops [oM 19 (.mv (.t 0)),
 oM 20 (.buildS false 9 1 1 [(0,(.c (.str [40])))]),
 oM 21 (.call (.c (.func (.func 101) [] [])) [(.t 19),(.t 20)])])
  (.seq (.ops [oM 22 (.mv (.t 0)),
 oM 23 (.load true 4 (.t 5)),
 oM 24 (.call (.c (.func (.func 175) [] [])) [(.t 22),(.t 23)])])
  (.ops [oM 25 (.mv (.t 0)),
 oM 26 (.buildS false 9 1 1 [(0,(.c (.str [41])))]),
 oM 27 (.call (.c (.func (.func 101) [] [])) [(.t 25),(.t 26)])]))))))
 (.ops [oM 28 (.binI .add 3 (.tmp 8) (.const (.int .i64 1)) (.t 8) (.c (.int .i64 1))),
 oM 8 (.mv (.t 28))]))))
noncomputable def x102:XC :=
 (.seq (.ops [oM 6 (.mv (.t 1)),
 oM 7 (.lenS (.t 6)),
 oM 8 (.mv (.c (.int .i64 0)))])
 (.block 0
  (.loop l102_0)))
theorem code102:codeOf C 102 F102 = x102:=by kernel_rfl
theorem ok102 {Q:Ctx} (hK:K Q):FnOk Q 102 F102 x102 false:=hK.ok_ ⟨fn102,code102,by kernel_rfl,by kernel_rfl⟩
noncomputable def b103:Code:=Tryz.f103.body.getD .skip
noncomputable def F103:FI:=⟨34,[],b103⟩
theorem fn103:C.fn 103 = some F103:=by kernel_rfl
noncomputable def x103:XC :=
 (.seq (.ops [oM 3 (.box 25 (.t 1))])
 (.seq (.seq (.ops [oM 4 (.fieldAddr 1 (.t 3)),
 oM 5 (.load false 1 (.t 4)),
 oM 6 (.lenS (.t 5)),
 oM 7 (.binI .neq 3 (.tmp 6) (.const (.int .i64 2)) (.t 6) (.c (.int .i64 2)))])
 (.cond (.t 7)
  (.seq (.ops [oM 8 (.mv (.t 0)),
 oM 9 (.fieldAddr 0 (.t 3)),
 oM 10 (.load false 1 (.t 9)),
 oM 11 (.buildS false 9 1 1 [(0,(.t 10))]),
 oM 12 (.call (.c (.func (.func 101) [] [])) [(.t 8),(.t 11)])])
  .ret)
  .skip))
 (.seq (.ops [oM 13 (.mv (.t 0)),
 oM 14 (.buildS false 9 1 1 [(0,(.c (.str [40])))]),
 oM 15 (.call (.c (.func (.func 101) [] [])) [(.t 13),(.t 14)])])
 (.seq (.ops [oM 16 (.mv (.t 0)),
 oM 17 (.fieldAddr 1 (.t 3)),
 oM 18 (.load false 1 (.t 17)),
 oM 19 (.idxS 2 (.t 18) (.c (.int .i64 0))),
 oM 20 (.load true 2 (.t 19)),
 oM 21 (.call (.c (.func (.func 103) [] [])) [(.t 16),(.t 20)])])
 (.seq (.ops [oM 22 (.mv (.t 0)),
 oM 23 (.buildS false 9 1 1 [(0,(.c (.str [45,62])))]),
 oM 24 (.call (.c (.func (.func 101) [] [])) [(.t 22),(.t 23)])])
 (.seq (.ops [oM 25 (.mv (.t 0)),
 oM 26 (.fieldAddr 1 (.t 3)),
 oM 27 (.load false 1 (.t 26)),
 oM 28 (.idxS 2 (.t 27) (.c (.int .i64 1))),
 oM 29 (.load true 2 (.t 28)),
 oM 30 (.call (.c (.func (.func 103) [] [])) [(.t 25),(.t 29)])])
 (.ops [oM 31 (.mv (.t 0)),
 oM 32 (.buildS false 9 1 1 [(0,(.c (.str [41])))]),
 oM 33 (.call (.c (.func (.func 101) [] [])) [(.t 31),(.t 32)])])))))))
theorem code103:codeOf C 103 F103 = x103:=by kernel_rfl
theorem ok103 {Q:Ctx} (hK:K Q):FnOk Q 103 F103 x103 false:=hK.ok_ ⟨fn103,code103,by kernel_rfl,by kernel_rfl⟩
noncomputable def b107:Code:=Tryz.f107.body.getD .skip
noncomputable def F107:FI:=⟨8,[.tmp 4],b107⟩
theorem fn107:C.fn 107 = some F107:=by kernel_rfl
noncomputable def x107:XC :=
 (.seq (.ops [oM 4 (.mv (.c (.int .i64 0)))])
 (.seq (.ops [oM 5 (.mv (.t 0)),
 oM 6 (.mv (.t 1)),
 oM 7 (.call (.c (.func (.func 177) [] [])) [(.t 5),(.t 6)]),
 oM 4 (.mv (.t 7))])
 .ret))
theorem code107:codeOf C 107 F107 = x107:=by kernel_rfl
theorem ok107 {Q:Ctx} (hK:K Q):FnOk Q 107 F107 x107 false:=hK.ok_ ⟨fn107,code107,by kernel_rfl,by kernel_rfl⟩
noncomputable def b108:Code:=Tryz.f108.body.getD .skip
noncomputable def F108:FI:=⟨36,[.tmp 6],b108⟩
theorem fn108:C.fn 108 = some F108:=by kernel_rfl
noncomputable def d108_0:Array Oper:=(drawsOf b108).getD 0 #[]
theorem kd108_0:drawCr d108_0 = [none,none,none,none,none,none,none,none,none,(some ([none,none,none,none,none,none,none,none,none,none,none],[true,true,true,true,true,true,true,true,true,false,false])),none]:=by kernel_rfl
noncomputable def l108_0:XC :=
 (.seq (.ops [oM 15 (.binI .lss 3 (.tmp 14) (.tmp 13) (.t 14) (.t 13))])
 (.seq (.cond (.t 15)
  .skip
  (.exit 0))
 (.seq (.block 1
  (.seq (.ops [oM 16 (.mv (.t 14)),
 oM 7 (.mv (.t 16))])
  (.seq (.draw d108_0 [oM 17 (.mv (.t 2)),
 oM 18 (.mv (.t 0)),
 oM 19 (.mv (.t 7)),
 oM 20 (.idxS 4 (.t 18) (.t 19)),
 oM 21 (.load true 4 (.t 20)),
 oM 22 (.mv (.t 1)),
 oM 23 (.mv (.t 7)),
 oM 24 (.idxS 4 (.t 22) (.t 23)),
 oM 25 (.load true 4 (.t 24)),
 oM 26 (.call (.t 17) [(.t 21),(.t 25)]),
 oM 8 (.mv (.t 26))])
  (.seq (.ops [oM 27 (.mv (.t 8)),
 oM 28 (.binI .neq 3 (.tmp 27) (.const (.int .i64 0)) (.t 27) (.c (.int .i64 0)))])
  (.cond (.t 28)
   (.seq (.ops [oM 29 (.mv (.t 8)),
 oM 6 (.mv (.t 29))])
   .ret)
   .skip)))))
 (.ops [oM 30 (.binI .add 3 (.tmp 14) (.const (.int .i64 1)) (.t 14) (.c (.int .i64 1))),
 oM 14 (.mv (.t 30))]))))
noncomputable def x108:XC :=
 (.seq (.ops [oM 6 (.mv (.c (.int .i64 0)))])
 (.seq (.seq (.ops [oM 9 (.mv (.t 0)),
 oM 10 (.lenS (.t 9)),
 oM 11 (.mv (.t 1)),
 oM 12 (.lenS (.t 11)),
 oM 13 (.gen ⟨some 13,.call { callee:=.builtin .min,args:=#[(.tmp 10),(.tmp 12)],argTypes:=#[3,3] },0,"",#[],none⟩),
 oM 14 (.mv (.c (.int .i64 0)))])
 (.block 0
  (.loop l108_0)))
 (.seq (.ops [oM 31 (.mv (.t 0)),
 oM 32 (.lenS (.t 31)),
 oM 33 (.mv (.t 1)),
 oM 34 (.lenS (.t 33)),
 oM 35 (.binI .sub 3 (.tmp 32) (.tmp 34) (.t 32) (.t 34)),
 oM 6 (.mv (.t 35))])
 .ret)))
theorem code108:codeOf C 108 F108 = x108:=by kernel_rfl
theorem ok108 {Q:Ctx} (hK:K Q):FnOk Q 108 F108 x108 false:=hK.ok_ ⟨fn108,code108,by kernel_rfl,by kernel_rfl⟩
noncomputable def b109:Code:=Tryz.f109.body.getD .skip
noncomputable def F109:FI:=⟨25,[.tmp 4],b109⟩
theorem fn109:C.fn 109 = some F109:=by kernel_rfl
noncomputable def d109_0:Array Oper:=(drawsOf b109).getD 0 #[]
theorem kd109_0:drawCr d109_0 = [none,(some ([none,none,none,(some none),none,none,none,none],[true,false,false,false,false,false,false,false])),none,none,(some ([none,none,none,none,none,none,none,none],[true,true,false,true,false,false,false,false])),none,none,none]:=by kernel_rfl
noncomputable def x109:XC :=
 (.seq (.ops [oM 2 (.box 39 (.t 0)),
 oM 3 (.box 39 (.t 1)),
 oM 4 (.mv (.c (.int .i64 0)))])
 (.seq (.draw d109_0 [oM 7 (.load true 4 (.t 2)),
 oM 8 (.call (.c (.func (.func 56) [] [])) [(.t 7)]),
 oM 9 (.binI .eql 30 (.tmp 8) (.const (.int .i64 0)) (.t 8) (.c (.int .i64 0))),
 oM 10 (.load true 4 (.t 3)),
 oM 11 (.call (.c (.func (.func 56) [] [])) [(.t 10)]),
 oM 12 (.binI .eql 30 (.tmp 11) (.const (.int .i64 0)) (.t 11) (.c (.int .i64 0))),
 oM 5 (.mv (.t 9)),
 oM 6 (.mv (.t 12))])
 (.seq (.block 0
  (.seq (.ops [oM 14 (.mv (.t 5)),
 oM 15 (.mv (.t 14)),
 ⟨some 16,.mv (.t 6),(some (some 15,true))⟩,
 oM 17 (.pick (.t 15) (.t 16) (.c (.bool false))),
 oM 13 (.mv (.t 17))])
  (.cond (.t 13)
   (.seq (.ops [oM 18 (.load true 4 (.t 2)),
 oM 19 (.load true 4 (.t 3)),
 oM 20 (.call (.c (.func (.func 178) [] [])) [(.t 18),(.t 19)]),
 oM 4 (.mv (.t 20))])
   .ret)
   (.seq (.ops [oM 22 (.mv (.t 5)),
 oM 21 (.mv (.t 22))])
   (.cond (.t 21)
    (.seq (.ops [oM 4 (.mv (.c (.int .i64 1)))])
    .ret)
    (.seq (.ops [oM 24 (.mv (.t 6)),
 oM 23 (.mv (.t 24))])
    (.cond (.t 23)
     (.seq (.ops [oM 4 (.mv (.c (.int .i64 (-1))))])
     .ret)
     .skip)))))))
 (.seq (.ops [oM 4 (.mv (.c (.int .i64 0)))])
 .ret))))
theorem code109:codeOf C 109 F109 = x109:=by kernel_rfl
theorem ok109 {Q:Ctx} (hK:K Q):FnOk Q 109 F109 x109 false:=hK.ok_ ⟨fn109,code109,by kernel_rfl,by kernel_rfl⟩
noncomputable def b110:Code:=Tryz.f110.body.getD .skip
noncomputable def F110:FI:=⟨30,[.tmp 4],b110⟩
theorem fn110:C.fn 110 = some F110:=by kernel_rfl
noncomputable def x110:XC :=
 (.seq (.ops [oM 2 (.box 25 (.t 0)),
 oM 3 (.box 25 (.t 1)),
 oM 4 (.mv (.c (.int .i64 0)))])
 (.seq (.seq (.ops [oM 7 (.fieldAddr 0 (.t 2)),
 oM 8 (.load false 1 (.t 7)),
 oM 9 (.fieldAddr 0 (.t 3)),
 oM 10 (.load false 1 (.t 9)),
 oM 11 (.call (.c (.func (.func 107) [] [])) [(.t 8),(.t 10)]),
 oM 5 (.mv (.t 11))])
 (.seq (.ops [oM 12 (.mv (.t 5)),
 oM 13 (.binI .neq 3 (.tmp 12) (.const (.int .i64 0)) (.t 12) (.c (.int .i64 0)))])
 (.cond (.t 13)
  (.seq (.ops [oM 14 (.mv (.t 5)),
 oM 4 (.mv (.t 14))])
  .ret)
  .skip)))
 (.seq (.seq (.ops [oM 15 (.fieldAddr 1 (.t 2)),
 oM 16 (.load false 1 (.t 15)),
 oM 17 (.lenS (.t 16)),
 oM 18 (.fieldAddr 1 (.t 3)),
 oM 19 (.load false 1 (.t 18)),
 oM 20 (.lenS (.t 19)),
 oM 21 (.binI .sub 3 (.tmp 17) (.tmp 20) (.t 17) (.t 20)),
 oM 6 (.mv (.t 21))])
 (.seq (.ops [oM 22 (.mv (.t 6)),
 oM 23 (.binI .neq 3 (.tmp 22) (.const (.int .i64 0)) (.t 22) (.c (.int .i64 0)))])
 (.cond (.t 23)
  (.seq (.ops [oM 24 (.mv (.t 6)),
 oM 4 (.mv (.t 24))])
  .ret)
  .skip)))
 (.seq (.ops [oM 25 (.fieldAddr 1 (.t 2)),
 oM 26 (.load false 1 (.t 25)),
 oM 27 (.fieldAddr 1 (.t 3)),
 oM 28 (.load false 1 (.t 27)),
 oM 29 (.call (.c (.func (.func 179) [] [])) [(.t 26),(.t 28),(.c (.func (.func 110) [] []))]),
 oM 4 (.mv (.t 29))])
 .ret))))
theorem code110:codeOf C 110 F110 = x110:=by kernel_rfl
theorem ok110 {Q:Ctx} (hK:K Q):FnOk Q 110 F110 x110 false:=hK.ok_ ⟨fn110,code110,by kernel_rfl,by kernel_rfl⟩
noncomputable def b111:Code:=Tryz.f111.body.getD .skip
noncomputable def F111:FI:=⟨36,[.tmp 6],b111⟩
theorem fn111:C.fn 111 = some F111:=by kernel_rfl
noncomputable def d111_0:Array Oper:=(drawsOf b111).getD 0 #[]
theorem kd111_0:drawCr d111_0 = [none,none,none,none,none,none,none,none,none,(some ([none,none,none,none,none,none,none,none,none,none,none],[true,true,true,true,true,true,true,true,true,false,false])),none]:=by kernel_rfl
noncomputable def l111_0:XC :=
 (.seq (.ops [oM 15 (.binI .lss 3 (.tmp 14) (.tmp 13) (.t 14) (.t 13))])
 (.seq (.cond (.t 15)
  .skip
  (.exit 0))
 (.seq (.block 1
  (.seq (.ops [oM 16 (.mv (.t 14)),
 oM 7 (.mv (.t 16))])
  (.seq (.draw d111_0 [oM 17 (.mv (.t 2)),
 oM 18 (.mv (.t 0)),
 oM 19 (.mv (.t 7)),
 oM 20 (.idxS 6 (.t 18) (.t 19)),
 oM 21 (.load true 6 (.t 20)),
 oM 22 (.mv (.t 1)),
 oM 23 (.mv (.t 7)),
 oM 24 (.idxS 6 (.t 22) (.t 23)),
 oM 25 (.load true 6 (.t 24)),
 oM 26 (.call (.t 17) [(.t 21),(.t 25)]),
 oM 8 (.mv (.t 26))])
  (.seq (.ops [oM 27 (.mv (.t 8)),
 oM 28 (.binI .neq 3 (.tmp 27) (.const (.int .i64 0)) (.t 27) (.c (.int .i64 0)))])
  (.cond (.t 28)
   (.seq (.ops [oM 29 (.mv (.t 8)),
 oM 6 (.mv (.t 29))])
   .ret)
   .skip)))))
 (.ops [oM 30 (.binI .add 3 (.tmp 14) (.const (.int .i64 1)) (.t 14) (.c (.int .i64 1))),
 oM 14 (.mv (.t 30))]))))
noncomputable def x111:XC :=
 (.seq (.ops [oM 6 (.mv (.c (.int .i64 0)))])
 (.seq (.seq (.ops [oM 9 (.mv (.t 0)),
 oM 10 (.lenS (.t 9)),
 oM 11 (.mv (.t 1)),
 oM 12 (.lenS (.t 11)),
 oM 13 (.gen ⟨some 13,.call { callee:=.builtin .min,args:=#[(.tmp 10),(.tmp 12)],argTypes:=#[3,3] },0,"",#[],none⟩),
 oM 14 (.mv (.c (.int .i64 0)))])
 (.block 0
  (.loop l111_0)))
 (.seq (.ops [oM 31 (.mv (.t 0)),
 oM 32 (.lenS (.t 31)),
 oM 33 (.mv (.t 1)),
 oM 34 (.lenS (.t 33)),
 oM 35 (.binI .sub 3 (.tmp 32) (.tmp 34) (.t 32) (.t 34)),
 oM 6 (.mv (.t 35))])
 .ret)))
theorem code111:codeOf C 111 F111 = x111:=by kernel_rfl
theorem ok111 {Q:Ctx} (hK:K Q):FnOk Q 111 F111 x111 false:=hK.ok_ ⟨fn111,code111,by kernel_rfl,by kernel_rfl⟩
noncomputable def b118:Code:=Tryz.f118.body.getD .skip
noncomputable def F118:FI:=⟨19,[.tmp 4],b118⟩
theorem fn118:C.fn 118 = some F118:=by kernel_rfl
noncomputable def x118:XC :=
 (.seq (.ops [oM 2 (.box 39 (.t 0)),
 oM 4 (.mv (.c (.int .i64 0)))])
 (.seq (.ops [oM 8 (.load true 4 (.t 2)),
 oM 9 (.mv (.t 1)),
 oM 10 (.call (.c (.func (.func 182) [] [])) [(.t 8),(.t 9)]),
 oM 7 (.mv (.t 10)),
 oM 11 (.extract (.t 7) 0),
 oM 12 (.extract (.t 7) 1),
 oM 5 (.mv (.t 11)),
 oM 6 (.mv (.t 12))])
 (.seq (.block 0
  (.seq (.ops [oM 14 (.mv (.t 5)),
 oM 15 (.binI .gtr 3 (.tmp 14) (.const (.int .i64 4000)) (.t 14) (.c (.int .i64 4000))),
 oM 13 (.mv (.t 15))])
  (.cond (.t 13)
   (.seq (.ops [oM 4 (.mv (.c (.int .i64 2)))])
   .ret)
   (.seq (.ops [oM 17 (.mv (.t 6)),
 oM 18 (.binI .gtr 3 (.tmp 17) (.const (.int .i64 100)) (.t 17) (.c (.int .i64 100))),
 oM 16 (.mv (.t 18))])
   (.cond (.t 16)
    (.seq (.ops [oM 4 (.mv (.c (.int .i64 5)))])
    .ret)
    .skip)))))
 (.seq (.ops [oM 4 (.mv (.c (.int .i64 0)))])
 .ret))))
theorem code118:codeOf C 118 F118 = x118:=by kernel_rfl
theorem ok118 {Q:Ctx} (hK:K Q):FnOk Q 118 F118 x118 false:=hK.ok_ ⟨fn118,code118,by kernel_rfl,by kernel_rfl⟩
noncomputable def b119:Code:=Tryz.f119.body.getD .skip
noncomputable def F119:FI:=⟨5,[.tmp 2],b119⟩
theorem fn119:C.fn 119 = some F119:=by kernel_rfl
noncomputable def x119:XC :=
 (.seq (.ops [oM 1 (.box 39 (.t 0)),
 oM 2 (.mv (.c (.slice .nil [])))])
 (.seq (.ops [oM 3 (.fieldAddr 3 (.t 1)),
 oM 4 (.load false 1 (.t 3)),
 oM 2 (.mv (.t 4))])
 .ret))
theorem code119:codeOf C 119 F119 = x119:=by kernel_rfl
theorem ok119 {Q:Ctx} (hK:K Q):FnOk Q 119 F119 x119 false:=hK.ok_ ⟨fn119,code119,by kernel_rfl,by kernel_rfl⟩
noncomputable def b120:Code:=Tryz.f120.body.getD .skip
noncomputable def F120:FI:=⟨6,[.cell 2 30],b120⟩
theorem fn120:C.fn 120 = some F120:=by kernel_rfl
noncomputable def x120:XC :=
 (.seq (.ops [oM 2 (.alloc 30 [(.int .i64 0)])])
 (.seq (.ops [oM 3 (.mkFunc 183 [] [(.t 2)]),
 ⟨none,.gen ⟨none,.defer { callee:=.value (.tmp 3),args:=#[],argTypes:=#[] },0,"",#[],none⟩,none⟩])
 (.seq (.ops [oM 4 (.mv (.t 0)),
 oM 5 (.call (.t 4) [])])
 (.seq (.ops [⟨none,.store 1 (.t 2) (.c (.int .i64 0)),none⟩])
 .ret))))
theorem code120:codeOf C 120 F120 = x120:=by kernel_rfl
theorem ok120 {Q:Ctx} (hK:K Q):FnOk Q 120 F120 x120 false:=hK.ok_ ⟨fn120,code120,by kernel_rfl,by kernel_rfl⟩
noncomputable def b121:Code:=Tryz.f121.body.getD .skip
noncomputable def F121:FI:=⟨6,[],b121⟩
theorem fn121:C.fn 121 = some F121:=by kernel_rfl
noncomputable def x121:XC :=
 (.seq (.ops [oM 1 (.alloc 148 [.nilfn])])
 (.seq (.ops [oM 2 (.mkFunc 122 [] [(.t 1)]),
 ⟨none,.store 1 (.t 1) (.t 2),none⟩])
 (.ops [oM 3 (.load false 1 (.t 1)),
 oM 4 (.load true 4 (.t 0)),
 oM 5 (.call (.t 3) [(.t 4)])])))
theorem code121:codeOf C 121 F121 = x121:=by kernel_rfl
theorem ok121 {Q:Ctx} (hK:K Q):FnOk Q 121 F121 x121 false:=hK.ok_ ⟨fn121,code121,by kernel_rfl,by kernel_rfl⟩
noncomputable def b122:Code:=Tryz.f122.body.getD .skip
noncomputable def F122:FI:=⟨19,[],b122⟩
theorem fn122:C.fn 122 = some F122:=by kernel_rfl
noncomputable def l122_0:XC :=
 (.seq (.ops [oM 12 (.binI .lss 3 (.tmp 11) (.tmp 10) (.t 11) (.t 10))])
 (.seq (.cond (.t 12)
  .skip
  (.exit 0))
 (.seq (.block 1
  (.seq (.ops [oM 13 (.idxS 4 (.t 9) (.t 11)),
 oM 14 (.load true 4 (.t 13)),
 oM 4 (.alloc 39 [(.int .i64 0),(.int .i64 0),(.str []),(.slice .nil [])]),
 ⟨none,.store 4 (.t 4) (.t 14),none⟩])
  (.ops [oM 15 (.load false 1 (.t 1)),
 oM 16 (.load true 4 (.t 4)),
 oM 17 (.call (.t 15) [(.t 16)])])))
 (.ops [oM 18 (.binI .add 3 (.tmp 11) (.const (.int .i64 1)) (.t 11) (.c (.int .i64 1))),
 oM 11 (.mv (.t 18))]))))
noncomputable def x122:XC :=
 (.seq (.ops [oM 2 (.box 39 (.t 0))])
 (.seq (.ops [oM 5 (.load true 4 (.t 2)),
 oM 6 (.call (.c (.func (.func 124) [] [])) [(.t 5)]),
 oM 7 (.call (.c (.func (.func 123) [] [])) [(.t 6),(.c (.int .i64 6))])])
 (.seq (.ops [oM 8 (.fieldAddr 3 (.t 2)),
 oM 9 (.load false 1 (.t 8)),
 oM 10 (.lenS (.t 9)),
 oM 11 (.mv (.c (.int .i64 0)))])
 (.block 0
  (.loop l122_0)))))
theorem code122:codeOf C 122 F122 = x122:=by kernel_rfl
theorem ok122 {Q:Ctx} (hK:K Q):FnOk Q 122 F122 x122 false:=hK.ok_ ⟨fn122,code122,by kernel_rfl,by kernel_rfl⟩
noncomputable def b123:Code:=Tryz.f123.body.getD .skip
noncomputable def F123:FI:=⟨9,[],b123⟩
theorem fn123:C.fn 123 = some F123:=by kernel_rfl
noncomputable def x123:XC :=
 (.seq (.ops [oM 4 (.mv (.t 0)),
 oM 5 (.un .not (.t 4))])
 (.cond (.t 5)
  (.ops [oM 6 (.mv (.t 1)),
 oM 7 (.build [(.int .i64 0)] [(0,1)] [(0,(.t 6))]),
 oM 8 (.gen ⟨some 8,.makeInterface 217 (.tmp 7),0,"",#[],none⟩),
 ⟨none,.gen ⟨none,.panic (.tmp 8),0,"",#[],none⟩,none⟩])
  .skip))
theorem code123:codeOf C 123 F123 = x123:=by kernel_rfl
theorem ok123 {Q:Ctx} (hK:K Q):FnOk Q 123 F123 x123 false:=hK.ok_ ⟨fn123,code123,by kernel_rfl,by kernel_rfl⟩
noncomputable def b124:Code:=Tryz.f124.body.getD .skip
noncomputable def F124:FI:=⟨63,[.tmp 2],b124⟩
theorem fn124:C.fn 124 = some F124:=by kernel_rfl
noncomputable def x124:XC :=
 (.seq (.ops [oM 1 (.box 39 (.t 0)),
 oM 2 (.mv (.c (.bool false)))])
 (.seq (.seq (.ops [oM 3 (.fieldAddr 0 (.t 1)),
 oM 4 (.load false 1 (.t 3))])
 (.block 0
  (.seq (.ops [oM 6 (.binI .eql 3 (.tmp 4) (.const (.int .i64 1)) (.t 4) (.c (.int .i64 1))),
 oM 5 (.mv (.t 6))])
  (.cond (.t 5)
   (.seq (.ops [oM 7 (.fieldAddr 1 (.t 1)),
 oM 8 (.load false 1 (.t 7)),
 oM 9 (.binI .eql 3 (.tmp 8) (.const (.int .i64 0)) (.t 8) (.c (.int .i64 0))),
 oM 10 (.mv (.t 9)),
 ⟨some 11,.fieldAddr 2 (.t 1),(some (some 10,true))⟩,
 ⟨some 12,.load false 1 (.t 11),(some (some 10,true))⟩,
 ⟨some 13,.call (.c (.func (.func 184) [] [])) [(.t 12)],(some (some 10,true))⟩,
 oM 14 (.pick (.t 10) (.t 13) (.c (.bool false))),
 oM 15 (.mv (.t 14)),
 ⟨some 16,.fieldAddr 3 (.t 1),(some (some 15,true))⟩,
 ⟨some 17,.load false 1 (.t 16),(some (some 15,true))⟩,
 ⟨some 18,.lenS (.t 17),(some (some 15,true))⟩,
 ⟨some 19,.binI .leq 3 (.tmp 18) (.const (.int .i64 8)) (.t 18) (.c (.int .i64 8)),(some (some 15,true))⟩,
 oM 20 (.pick (.t 15) (.t 19) (.c (.bool false))),
 oM 2 (.mv (.t 20))])
   .ret)
   (.seq (.seq (.ops [oM 22 (.binI .eql 3 (.tmp 4) (.const (.int .i64 2)) (.t 4) (.c (.int .i64 2))),
 oM 21 (.mv (.t 22))])
   (.cond (.t 21)
    .skip
    (.seq (.ops [oM 23 (.binI .eql 3 (.tmp 4) (.const (.int .i64 3)) (.t 4) (.c (.int .i64 3))),
 oM 21 (.mv (.t 23))])
    (.cond (.t 21)
     .skip
     (.ops [oM 24 (.binI .eql 3 (.tmp 4) (.const (.int .i64 4)) (.t 4) (.c (.int .i64 4))),
 oM 21 (.mv (.t 24))])))))
   (.cond (.t 21)
    (.seq (.ops [oM 25 (.fieldAddr 1 (.t 1)),
 oM 26 (.load false 1 (.t 25)),
 oM 27 (.binI .geq 3 (.tmp 26) (.const (.int .i64 0)) (.t 26) (.c (.int .i64 0))),
 oM 28 (.mv (.t 27)),
 ⟨some 29,.fieldAddr 1 (.t 1),(some (some 28,true))⟩,
 ⟨some 30,.load false 1 (.t 29),(some (some 28,true))⟩,
 ⟨some 31,.binI .leq 3 (.tmp 30) (.const (.int .i64 100000)) (.t 30) (.c (.int .i64 100000)),(some (some 28,true))⟩,
 oM 32 (.pick (.t 28) (.t 31) (.c (.bool false))),
 oM 33 (.mv (.t 32)),
 ⟨some 34,.fieldAddr 2 (.t 1),(some (some 33,true))⟩,
 ⟨some 35,.load false 1 (.t 34),(some (some 33,true))⟩,
 ⟨some 36,.binS .eql 9 (.tmp 35) (.const (.string ⟨#[]⟩)) (.t 35) (.c (.str [])),(some (some 33,true))⟩,
 oM 37 (.pick (.t 33) (.t 36) (.c (.bool false))),
 oM 38 (.mv (.t 37)),
 ⟨some 39,.fieldAddr 3 (.t 1),(some (some 38,true))⟩,
 ⟨some 40,.load false 1 (.t 39),(some (some 38,true))⟩,
 ⟨some 41,.lenS (.t 40),(some (some 38,true))⟩,
 ⟨some 42,.binI .leq 3 (.tmp 41) (.const (.int .i64 8)) (.t 41) (.c (.int .i64 8)),(some (some 38,true))⟩,
 oM 43 (.pick (.t 38) (.t 42) (.c (.bool false))),
 oM 2 (.mv (.t 43))])
    .ret)
    .skip))))))
 (.seq (.ops [oM 44 (.fieldAddr 0 (.t 1)),
 oM 45 (.load false 1 (.t 44)),
 oM 46 (.binI .eql 3 (.tmp 45) (.const (.int .i64 5)) (.t 45) (.c (.int .i64 5))),
 oM 47 (.mv (.t 46)),
 ⟨some 48,.fieldAddr 1 (.t 1),(some (some 47,true))⟩,
 ⟨some 49,.load false 1 (.t 48),(some (some 47,true))⟩,
 ⟨some 50,.binI .eql 3 (.tmp 49) (.const (.int .i64 0)) (.t 49) (.c (.int .i64 0)),(some (some 47,true))⟩,
 oM 51 (.pick (.t 47) (.t 50) (.c (.bool false))),
 oM 52 (.mv (.t 51)),
 ⟨some 53,.fieldAddr 2 (.t 1),(some (some 52,true))⟩,
 ⟨some 54,.load false 1 (.t 53),(some (some 52,true))⟩,
 ⟨some 55,.binS .eql 9 (.tmp 54) (.const (.string ⟨#[]⟩)) (.t 54) (.c (.str [])),(some (some 52,true))⟩,
 oM 56 (.pick (.t 52) (.t 55) (.c (.bool false))),
 oM 57 (.mv (.t 56)),
 ⟨some 58,.fieldAddr 3 (.t 1),(some (some 57,true))⟩,
 ⟨some 59,.load false 1 (.t 58),(some (some 57,true))⟩,
 ⟨some 60,.lenS (.t 59),(some (some 57,true))⟩,
 ⟨some 61,.binI .eql 3 (.tmp 60) (.const (.int .i64 1)) (.t 60) (.c (.int .i64 1)),(some (some 57,true))⟩,
 oM 62 (.pick (.t 57) (.t 61) (.c (.bool false))),
 oM 2 (.mv (.t 62))])
 .ret)))
theorem code124:codeOf C 124 F124 = x124:=by kernel_rfl
theorem ok124 {Q:Ctx} (hK:K Q):FnOk Q 124 F124 x124 false:=hK.ok_ ⟨fn124,code124,by kernel_rfl,by kernel_rfl⟩
noncomputable def b130:Code:=Tryz.f130.body.getD .skip
noncomputable def F130:FI:=⟨5,[.tmp 2],b130⟩
theorem fn130:C.fn 130 = some F130:=by kernel_rfl
noncomputable def x130:XC :=
 (.seq (.ops [oM 2 (.mv (.c (.bool false)))])
 (.seq (.ops [oM 3 (.mv (.t 0)),
 oM 4 (.call (.c (.func (.func 171) [] [])) [(.t 3),(.c (.int .i64 2))]),
 oM 2 (.mv (.t 4))])
 .ret))
theorem code130:codeOf C 130 F130 = x130:=by kernel_rfl
theorem ok130 {Q:Ctx} (hK:K Q):FnOk Q 130 F130 x130 false:=hK.ok_ ⟨fn130,code130,by kernel_rfl,by kernel_rfl⟩
noncomputable def b131:Code:=Tryz.f131.body.getD .skip
noncomputable def F131:FI:=⟨19,[.tmp 4],b131⟩
theorem fn131:C.fn 131 = some F131:=by kernel_rfl
noncomputable def x131:XC :=
 (.seq (.ops [oM 2 (.box 61 (.t 0)),
 oM 3 (.box 25 (.t 1)),
 oM 4 (.mv (.c (.int .i64 0)))])
 (.seq (.seq (.ops [oM 8 (.load true 2 (.t 3)),
 oM 9 (.call (.c (.func (.func 192) [] [])) [(.t 8),(.c (.func (.func 193) [] []))]),
 oM 5 (.mv (.t 9))])
 (.seq (.ops [oM 10 (.mv (.t 5)),
 oM 11 (.binI .neq 30 (.tmp 10) (.const (.int .i64 0)) (.t 10) (.c (.int .i64 0)))])
 (.cond (.t 11)
  (.seq (.ops [oM 12 (.mv (.t 5)),
 oM 4 (.mv (.t 12))])
  .ret)
  .skip)))
 (.seq (.ops [oM 6 (.alloc 30 [(.int .i64 0)]),
 ⟨none,.store 1 (.t 6) (.c (.int .i64 0)),none⟩])
 (.seq (.ops [oM 13 (.mkFunc 194 [] [(.t 2),(.t 6),(.t 3)]),
 oM 14 (.call (.c (.func (.func 120) [] [])) [(.t 13)]),
 oM 7 (.mv (.t 14))])
 (.seq (.seq (.ops [oM 15 (.mv (.t 7)),
 oM 16 (.binI .neq 30 (.tmp 15) (.const (.int .i64 0)) (.t 15) (.c (.int .i64 0)))])
 (.cond (.t 16)
  (.seq (.ops [oM 17 (.mv (.t 7)),
 oM 4 (.mv (.t 17))])
  .ret)
  .skip))
 (.seq (.ops [oM 18 (.load false 1 (.t 6)),
 oM 4 (.mv (.t 18))])
 .ret))))))
theorem code131:codeOf C 131 F131 = x131:=by kernel_rfl
theorem ok131 {Q:Ctx} (hK:K Q):FnOk Q 131 F131 x131 false:=hK.ok_ ⟨fn131,code131,by kernel_rfl,by kernel_rfl⟩
noncomputable def b168:Code:=Tryz.f168.body.getD .skip
noncomputable def F168:FI:=⟨19,[.tmp 4],b168⟩
theorem fn168:C.fn 168 = some F168:=by kernel_rfl
noncomputable def l168_0:XC :=
 (.seq (.ops [oM 9 (.binI .lss 3 (.tmp 8) (.tmp 7) (.t 8) (.t 7))])
 (.seq (.cond (.t 9)
  .skip
  (.exit 0))
 (.seq (.block 1
  (.seq (.ops [oM 10 (.mv (.t 8)),
 oM 5 (.mv (.t 10))])
  (.seq (.ops [oM 11 (.mv (.t 1)),
 oM 12 (.mv (.t 0)),
 oM 13 (.mv (.t 5)),
 oM 14 (.idxS 4 (.t 12) (.t 13)),
 oM 15 (.load true 4 (.t 14)),
 oM 16 (.call (.t 11) [(.t 15)])])
  (.cond (.t 16)
   (.seq (.ops [oM 17 (.mv (.t 5)),
 oM 4 (.mv (.t 17))])
   .ret)
   .skip))))
 (.ops [oM 18 (.binI .add 3 (.tmp 8) (.const (.int .i64 1)) (.t 8) (.c (.int .i64 1))),
 oM 8 (.mv (.t 18))]))))
noncomputable def x168:XC :=
 (.seq (.ops [oM 4 (.mv (.c (.int .i64 0)))])
 (.seq (.seq (.ops [oM 6 (.mv (.t 0)),
 oM 7 (.lenS (.t 6)),
 oM 8 (.mv (.c (.int .i64 0)))])
 (.block 0
  (.loop l168_0)))
 (.seq (.ops [oM 4 (.mv (.c (.int .i64 (-1))))])
 .ret)))
theorem code168:codeOf C 168 F168 = x168:=by kernel_rfl
theorem ok168 {Q:Ctx} (hK:K Q):FnOk Q 168 F168 x168 false:=hK.ok_ ⟨fn168,code168,by kernel_rfl,by kernel_rfl⟩
noncomputable def b169:Code:=Tryz.f169.body.getD .skip
noncomputable def F169:FI:=⟨8,[.tmp 3],b169⟩
theorem fn169:C.fn 169 = some F169:=by kernel_rfl
noncomputable def x169:XC :=
 (.seq (.ops [oM 2 (.box 39 (.t 0)),
 oM 3 (.mv (.c (.bool false)))])
 (.seq (.ops [oM 4 (.load true 4 (.t 2)),
 oM 5 (.load false 1 (.t 1)),
 oM 6 (.binI .sub 3 (.tmp 5) (.const (.int .i64 1)) (.t 5) (.c (.int .i64 1))),
 oM 7 (.call (.c (.func (.func 89) [] [])) [(.t 4),(.t 6)]),
 oM 3 (.mv (.t 7))])
 .ret))
theorem code169:codeOf C 169 F169 = x169:=by kernel_rfl
theorem ok169 {Q:Ctx} (hK:K Q):FnOk Q 169 F169 x169 false:=hK.ok_ ⟨fn169,code169,by kernel_rfl,by kernel_rfl⟩
noncomputable def b170:Code:=Tryz.f170.body.getD .skip
noncomputable def F170:FI:=⟨19,[.tmp 4],b170⟩
theorem fn170:C.fn 170 = some F170:=by kernel_rfl
noncomputable def l170_0:XC :=
 (.seq (.ops [oM 9 (.binI .lss 3 (.tmp 8) (.tmp 7) (.t 8) (.t 7))])
 (.seq (.cond (.t 9)
  .skip
  (.exit 0))
 (.seq (.block 1
  (.seq (.ops [oM 10 (.mv (.t 8)),
 oM 5 (.mv (.t 10))])
  (.seq (.ops [oM 11 (.mv (.t 1)),
 oM 12 (.mv (.t 0)),
 oM 13 (.mv (.t 5)),
 oM 14 (.idxS 6 (.t 12) (.t 13)),
 oM 15 (.load true 6 (.t 14)),
 oM 16 (.call (.t 11) [(.t 15)])])
  (.cond (.t 16)
   (.seq (.ops [oM 17 (.mv (.t 5)),
 oM 4 (.mv (.t 17))])
   .ret)
   .skip))))
 (.ops [oM 18 (.binI .add 3 (.tmp 8) (.const (.int .i64 1)) (.t 8) (.c (.int .i64 1))),
 oM 8 (.mv (.t 18))]))))
noncomputable def x170:XC :=
 (.seq (.ops [oM 4 (.mv (.c (.int .i64 0)))])
 (.seq (.seq (.ops [oM 6 (.mv (.t 0)),
 oM 7 (.lenS (.t 6)),
 oM 8 (.mv (.c (.int .i64 0)))])
 (.block 0
  (.loop l170_0)))
 (.seq (.ops [oM 4 (.mv (.c (.int .i64 (-1))))])
 .ret)))
theorem code170:codeOf C 170 F170 = x170:=by kernel_rfl
theorem ok170 {Q:Ctx} (hK:K Q):FnOk Q 170 F170 x170 false:=hK.ok_ ⟨fn170,code170,by kernel_rfl,by kernel_rfl⟩
noncomputable def b171:Code:=Tryz.f171.body.getD .skip
noncomputable def F171:FI:=⟨10,[.tmp 4],b171⟩
theorem fn171:C.fn 171 = some F171:=by kernel_rfl
noncomputable def x171:XC :=
 (.seq (.ops [oM 4 (.mv (.c (.bool false)))])
 (.seq (.ops [oM 5 (.mv (.t 1)),
 oM 6 (.mv (.t 0)),
 oM 7 (.build [(.int .i64 0),(.str []),(.int .i64 0)] [(0,1),(1,1),(2,1)] [(0,(.t 5)),(1,(.t 6))]),
 oM 8 (.call (.c (.func (.func 237) [] [])) [(.t 7)]),
 oM 9 (.binI .eql 30 (.tmp 8) (.const (.int .i64 0)) (.t 8) (.c (.int .i64 0))),
 oM 4 (.mv (.t 9))])
 .ret))
theorem code171:codeOf C 171 F171 = x171:=by kernel_rfl
theorem ok171 {Q:Ctx} (hK:K Q):FnOk Q 171 F171 x171 false:=hK.ok_ ⟨fn171,code171,by kernel_rfl,by kernel_rfl⟩
end Go.Proofs.L06

namespace Go.Proofs.L06
open Go Go.AE
noncomputable def b173:Code:=Tryz.f173.body.getD .skip
noncomputable def F173:FI:=⟨48,[.tmp 2],b173⟩
theorem fn173:C.fn 173 = some F173:=by kernel_rfl
noncomputable def x173:XC :=
 (.seq (.ops [oM 1 (.box 207 (.t 0)),
 oM 2 (.mv (.c (.int .i64 0)))])
 (.seq (.seq (.ops [oM 5 (.fieldAddr 1 (.t 1)),
 oM 6 (.load false 1 (.t 5)),
 oM 7 (.lenStr (.t 6)),
 oM 8 (.binI .eql 3 (.tmp 7) (.const (.int .i64 0)) (.t 7) (.c (.int .i64 0))),
 oM 9 (.mv (.t 8)),
 ⟨some 10,.fieldAddr 1 (.t 1),(some (some 9,false))⟩,
 ⟨some 11,.load false 1 (.t 10),(some (some 9,false))⟩,
 ⟨some 12,.lenStr (.t 11),(some (some 9,false))⟩,
 ⟨some 13,.binI .gtr 3 (.tmp 12) (.const (.int .i64 40)) (.t 12) (.c (.int .i64 40)),(some (some 9,false))⟩,
 oM 14 (.pick (.t 9) (.c (.bool true)) (.t 13)),
 oM 15 (.mv (.t 14)),
 ⟨some 16,.fieldAddr 1 (.t 1),(some (some 15,false))⟩,
 ⟨some 17,.load false 1 (.t 16),(some (some 15,false))⟩,
 ⟨some 18,.idxStr (.t 17) (.c (.int .i64 0)),(some (some 15,false))⟩,
 ⟨some 19,.call (.c (.func (.func 238) [] [])) [(.t 18)],(some (some 15,false))⟩,
 oM 20 (.pick (.t 15) (.c (.bool true)) (.t 19)),
 oM 21 (.mv (.t 20)),
 ⟨some 22,.fieldAddr 1 (.t 1),(some (some 21,false))⟩,
 ⟨some 23,.load false 1 (.t 22),(some (some 21,false))⟩,
 ⟨some 24,.idxStr (.t 23) (.c (.int .i64 0)),(some (some 21,false))⟩,
 ⟨some 25,.binI .eql 5 (.tmp 24) (.const (.int .u8 37)) (.t 24) (.c (.int .u8 37)),(some (some 21,false))⟩,
 oM 26 (.pick (.t 21) (.c (.bool true)) (.t 25))])
 (.cond (.t 26)
  (.seq (.ops [oM 2 (.mv (.c (.int .i64 12)))])
  .ret)
  .skip))
 (.seq (.ops [oM 28 (.fieldAddr 1 (.t 1)),
 oM 29 (.load false 1 (.t 28)),
 oM 30 (.call (.c (.func (.func 239) [] [])) [(.t 29),(.c (.int .i64 0))]),
 oM 27 (.mv (.t 30)),
 oM 31 (.extract (.t 27) 0),
 oM 32 (.extract (.t 27) 1),
 oM 3 (.mv (.t 31)),
 oM 4 (.mv (.t 32))])
 (.seq (.seq (.ops [oM 33 (.mv (.t 3)),
 oM 34 (.fieldAddr 0 (.t 1)),
 oM 35 (.load false 1 (.t 34)),
 oM 36 (.binI .neq 3 (.tmp 33) (.tmp 35) (.t 33) (.t 35)),
 oM 37 (.mv (.t 36)),
 ⟨some 38,.mv (.t 4),(some (some 37,false))⟩,
 ⟨some 39,.fieldAddr 1 (.t 1),(some (some 37,false))⟩,
 ⟨some 40,.load false 1 (.t 39),(some (some 37,false))⟩,
 ⟨some 41,.lenStr (.t 40),(some (some 37,false))⟩,
 ⟨some 42,.binI .neq 3 (.tmp 38) (.tmp 41) (.t 38) (.t 41),(some (some 37,false))⟩,
 oM 43 (.pick (.t 37) (.c (.bool true)) (.t 42)),
 oM 44 (.mv (.t 43)),
 ⟨some 45,.mv (.t 3),(some (some 44,false))⟩,
 ⟨some 46,.binI .eql 3 (.tmp 45) (.const (.int .i64 0)) (.t 45) (.c (.int .i64 0)),(some (some 44,false))⟩,
 oM 47 (.pick (.t 44) (.c (.bool true)) (.t 46))])
 (.cond (.t 47)
  (.seq (.ops [oM 2 (.mv (.c (.int .i64 12)))])
  .ret)
  .skip))
 (.seq (.ops [oM 2 (.mv (.c (.int .i64 0)))])
 .ret)))))
theorem code173:codeOf C 173 F173 = x173:=by kernel_rfl
theorem ok173 {Q:Ctx} (hK:K Q):FnOk Q 173 F173 x173 false:=hK.ok_ ⟨fn173,code173,by kernel_rfl,by kernel_rfl⟩
noncomputable def b174:Code:=Tryz.f174.body.getD .skip
noncomputable def F174:FI:=⟨19,[.tmp 4,.tmp 5],b174⟩
theorem fn174:C.fn 174 = some F174:=by kernel_rfl
noncomputable def x174:XC :=
 (.seq (.ops [oM 4 (.mv (.c (.int .i64 0))),
 oM 5 (.mv (.c .nilif))])
 (.seq (.ops [oM 6 (.mv (.t 0)),
 oM 7 (.call (.c (.func (.func 240) [] [])) [(.t 6)])])
 (.seq (.ops [oM 8 (.mv (.t 0)),
 oM 9 (.mv (.t 0)),
 oM 10 (.gen ⟨some 10,.nilCheck (.tmp 9),0,"",#[],none⟩),
 oM 11 (.fieldAddr 1 (.t 10)),
 oM 12 (.load false 1 (.t 11)),
 oM 13 (.mv (.t 1)),
 oM 14 (.app true 5 T5 (.t 12) (.t 13)),
 oM 15 (.gen ⟨some 15,.nilCheck (.tmp 8),0,"",#[],none⟩),
 oM 16 (.fieldAddr 1 (.t 15)),
 ⟨none,.store 1 (.t 16) (.t 14),none⟩])
 (.seq (.ops [oM 17 (.mv (.t 1)),
 oM 18 (.lenStr (.t 17)),
 oM 4 (.mv (.t 18)),
 oM 5 (.mv (.c .nilif))])
 .ret))))
theorem code174:codeOf C 174 F174 = x174:=by kernel_rfl
theorem ok174 {Q:Ctx} (hK:K Q):FnOk Q 174 F174 x174 true:=hK.ok_ ⟨fn174,code174,by kernel_rfl,by kernel_rfl⟩
noncomputable def b175:Code:=Tryz.f175.body.getD .skip
noncomputable def F175:FI:=⟨40,[],b175⟩
theorem fn175:C.fn 175 = some F175:=by kernel_rfl
noncomputable def d175_0:Array Oper:=(drawsOf b175).getD 0 #[]
theorem kd175_0:drawCr d175_0 = [none,none,(some ([none,none,none,none,none,none,none,(some none),none,none,(some none),(some (some [false,false,false,false,false,false,false,false,false,true,true,false,false,false,false])),none,none,none],[false,true,false,false,false,false,false,false,false,false,false,false,false,false,false])),(some ([none,none,none,none,none,none,none,(some none),none,none,(some none),(some (some [false,false,false,false,false,false,false,false,false,true,true,false,false,false,false])),none,none,none],[false,true,false,false,false,false,false,false,false,false,false,false,false,false,false])),(some ([none,none,none,none,none,none,none,(some none),none,none,(some none),(some (some [false,false,false,false,false,false,false,false,false,true,true,false,false,false,false])),none,none,none],[false,true,false,false,false,false,false,false,false,false,false,false,false,false,false])),none,none,none,none,none,none,(some ([none,none,(some none),(some none),(some none),none,none,(some none),(some none),none,none,none,none,none,none],[false,false,false,false,false,false,false,false,false,true,true,false,false,false,false])),none,none,(some ([none,none,none,none,none,none,none,none,none,none,none,none,none,none,none],[true,true,true,true,true,true,true,true,true,true,true,true,true,true,false]))]:=by kernel_rfl
noncomputable def x175:XC :=
 (.seq (.ops [oM 3 (.box 39 (.t 1))])
 (.seq (.seq (.ops [oM 4 (.fieldAddr 0 (.t 3)),
 oM 5 (.load false 1 (.t 4))])
 (.block 0
  (.seq (.ops [oM 19 (.binI .eql 3 (.tmp 5) (.const (.int .i64 5)) (.t 5) (.c (.int .i64 5))),
 oM 18 (.mv (.t 19))])
  (.cond (.t 18)
   (.seq (.ops [oM 20 (.mv (.t 0)),
 oM 21 (.buildS false 9 1 2 [(0,(.c (.str [92]))),(1,(.c (.str [46])))]),
 oM 22 (.call (.c (.func (.func 101) [] [])) [(.t 20),(.t 21)])])
   (.seq (.ops [oM 23 (.mv (.t 0)),
 oM 24 (.fieldAddr 3 (.t 3)),
 oM 25 (.load false 1 (.t 24)),
 oM 26 (.idxS 4 (.t 25) (.c (.int .i64 0))),
 oM 27 (.load true 4 (.t 26)),
 oM 28 (.call (.c (.func (.func 175) [] [])) [(.t 23),(.t 27)])])
   .ret))
   (.seq (.ops [oM 30 (.binI .eql 3 (.tmp 5) (.const (.int .i64 1)) (.t 5) (.c (.int .i64 1))),
 oM 29 (.mv (.t 30))])
   (.cond (.t 29)
    (.ops [oM 31 (.mv (.t 0)),
 oM 32 (.fieldAddr 2 (.t 3)),
 oM 33 (.load false 1 (.t 32)),
 oM 34 (.buildS false 9 1 1 [(0,(.t 33))]),
 oM 35 (.call (.c (.func (.func 101) [] [])) [(.t 31),(.t 34)])])
    (.draw d175_0 [oM 6 (.mv (.t 0)),
 oM 7 (.gen ⟨some 7,.makeMap 151 none,0,"",#[],none⟩),
 ⟨none,.gen ⟨none,.insert 151 (.tmp 7) (.const (.int .i64 2)) (.const (.string ⟨#[66]⟩)),0,"",#[],none⟩,none⟩,
 ⟨none,.gen ⟨none,.insert 151 (.tmp 7) (.const (.int .i64 3)) (.const (.string ⟨#[80]⟩)),0,"",#[],none⟩,none⟩,
 ⟨none,.gen ⟨none,.insert 151 (.tmp 7) (.const (.int .i64 4)) (.const (.string ⟨#[86]⟩)),0,"",#[],none⟩,none⟩,
 oM 8 (.mv (.t 7)),
 oM 9 (.fieldAddr 0 (.t 3)),
 oM 10 (.load false 1 (.t 9)),
 oM 11 (.gen ⟨some 11,.lookup 151 (.tmp 8) (.tmp 10) false,0,"",#[],none⟩),
 oM 12 (.fieldAddr 1 (.t 3)),
 oM 13 (.load false 1 (.t 12)),
 oM 14 (.call (.c (.func (.func 241) [] [])) [(.t 13)]),
 oM 15 (.binS .add 9 (.tmp 11) (.tmp 14) (.t 11) (.t 14)),
 oM 16 (.buildS false 9 1 1 [(0,(.t 15))]),
 oM 17 (.call (.c (.func (.func 101) [] [])) [(.t 6),(.t 16)])])))))))
 (.ops [oM 36 (.mv (.t 0)),
 oM 37 (.fieldAddr 3 (.t 3)),
 oM 38 (.load false 1 (.t 37)),
 oM 39 (.call (.c (.func (.func 102) [] [])) [(.t 36),(.t 38)])])))
theorem code175:codeOf C 175 F175 = x175:=by kernel_rfl
theorem ok175 {Q:Ctx} (hK:K Q):FnOk Q 175 F175 x175 false:=hK.ok_ ⟨fn175,code175,by kernel_rfl,by kernel_rfl⟩
noncomputable def b177:Code:=Tryz.f177.body.getD .skip
noncomputable def F177:FI:=⟨8,[.tmp 4],b177⟩
theorem fn177:C.fn 177 = some F177:=by kernel_rfl
noncomputable def x177:XC :=
 (.seq (.ops [oM 4 (.mv (.c (.int .i64 0)))])
 (.seq (.ops [oM 5 (.mv (.t 0)),
 oM 6 (.mv (.t 1)),
 oM 7 (.call (.c (.func (.func 243) [] [])) [(.t 5),(.t 6)]),
 oM 4 (.mv (.t 7))])
 .ret))
theorem code177:codeOf C 177 F177 = x177:=by kernel_rfl
theorem ok177 {Q:Ctx} (hK:K Q):FnOk Q 177 F177 x177 false:=hK.ok_ ⟨fn177,code177,by kernel_rfl,by kernel_rfl⟩
noncomputable def b178:Code:=Tryz.f178.body.getD .skip
noncomputable def F178:FI:=⟨38,[.tmp 4],b178⟩
theorem fn178:C.fn 178 = some F178:=by kernel_rfl
noncomputable def d178_0:Array Oper:=(drawsOf b178).getD 0 #[]
theorem kd178_0:drawCr d178_0 = [none,none,none,none,(some ([none,none,none,none,none,none,(some none),none,(some none),none,none,(some none),none,(some none),none,none,(some none),(some (some [false,false,false,false,false,false,false,false,false,false,false,false,false,false,false,true,true,false,false,false,false,false,false,false,false])),none,(some none),(some (some [false,false,false,false,false,false,false,false,false,false,false,false,false,false,false,false,false,false,true,true,false,false,false,false,false])),none,none,none,none],[true,true,true,true,false,false,false,false,false,false,false,false,false,false,false,false,false,false,false,false,false,false,false,false,false])),none,none,none,none,(some ([none,none,none,none,none,none,none,none,none,none,none,(some none),none,(some none),none,none,(some none),(some (some [false,false,false,false,false,false,false,false,false,false,false,false,false,false,false,true,true,false,false,false,false,false,false,false,false])),none,(some none),(some (some [false,false,false,false,false,false,false,false,false,false,false,false,false,false,false,false,false,false,true,true,false,false,false,false,false])),none,none,none,none],[true,true,true,true,true,true,true,true,true,false,false,false,false,false,false,false,false,false,false,false,false,false,false,false,false])),none,none,none,none,(some ([none,none,none,none,none,none,none,none,none,none,none,none,none,none,none,none,(some none),(some (some [false,false,false,false,false,false,false,false,false,false,false,false,false,false,false,true,true,false,false,false,false,false,false,false,false])),none,(some none),(some (some [false,false,false,false,false,false,false,false,false,false,false,false,false,false,false,false,false,false,true,true,false,false,false,false,false])),none,none,none,none],[true,true,true,true,true,true,true,true,true,true,true,true,true,true,false,false,false,false,false,false,false,false,false,false,false])),none,none,none,none,none,none,(some ([none,none,none,none,none,none,none,none,none,none,none,none,none,none,none,none,none,none,none,none,none,none,none,none,none],[true,true,true,true,true,true,true,true,true,true,true,true,true,true,true,true,true,true,true,true,true,false,false,false,false])),none,(some ([none,none,none,none,none,none,none,none,none,none,none,none,none,none,none,none,none,none,none,none,none,none,none,none,none],[true,true,true,true,true,true,true,true,true,true,true,true,true,true,true,true,true,true,true,true,true,true,true,false,false])),none]:=by kernel_rfl
noncomputable def x178:XC :=
 (.seq (.ops [oM 2 (.box 39 (.t 0)),
 oM 3 (.box 39 (.t 1)),
 oM 4 (.mv (.c (.int .i64 0)))])
 (.seq (.seq (.draw d178_0 [oM 6 (.fieldAddr 0 (.t 2)),
 oM 7 (.load false 1 (.t 6)),
 oM 8 (.fieldAddr 0 (.t 3)),
 oM 9 (.load false 1 (.t 8)),
 oM 10 (.call (.c (.func (.func 245) [] [])) [(.t 7),(.t 9)]),
 oM 11 (.fieldAddr 1 (.t 2)),
 oM 12 (.load false 1 (.t 11)),
 oM 13 (.fieldAddr 1 (.t 3)),
 oM 14 (.load false 1 (.t 13)),
 oM 15 (.call (.c (.func (.func 245) [] [])) [(.t 12),(.t 14)]),
 oM 16 (.fieldAddr 2 (.t 2)),
 oM 17 (.load false 1 (.t 16)),
 oM 18 (.fieldAddr 2 (.t 3)),
 oM 19 (.load false 1 (.t 18)),
 oM 20 (.call (.c (.func (.func 107) [] [])) [(.t 17),(.t 19)]),
 oM 21 (.fieldAddr 3 (.t 2)),
 oM 22 (.load false 1 (.t 21)),
 oM 23 (.lenS (.t 22)),
 oM 24 (.fieldAddr 3 (.t 3)),
 oM 25 (.load false 1 (.t 24)),
 oM 26 (.lenS (.t 25)),
 oM 27 (.call (.c (.func (.func 245) [] [])) [(.t 23),(.t 26)]),
 oM 28 (.buildS false 3 1 4 [(0,(.t 10)),(1,(.t 15)),(2,(.t 20)),(3,(.t 27))]),
 oM 29 (.call (.c (.func (.func 244) [] [])) [(.t 28)]),
 oM 5 (.mv (.t 29))])
 (.seq (.ops [oM 30 (.mv (.t 5)),
 oM 31 (.binI .neq 3 (.tmp 30) (.const (.int .i64 0)) (.t 30) (.c (.int .i64 0)))])
 (.cond (.t 31)
  (.seq (.ops [oM 32 (.mv (.t 5)),
 oM 4 (.mv (.t 32))])
  .ret)
  .skip)))
 (.seq (.ops [oM 33 (.fieldAddr 3 (.t 2)),
 oM 34 (.load false 1 (.t 33)),
 oM 35 (.fieldAddr 3 (.t 3)),
 oM 36 (.load false 1 (.t 35)),
 oM 37 (.call (.c (.func (.func 246) [] [])) [(.t 34),(.t 36),(.c (.func (.func 178) [] []))]),
 oM 4 (.mv (.t 37))])
 .ret)))
theorem code178:codeOf C 178 F178 = x178:=by kernel_rfl
theorem ok178 {Q:Ctx} (hK:K Q):FnOk Q 178 F178 x178 false:=hK.ok_ ⟨fn178,code178,by kernel_rfl,by kernel_rfl⟩
noncomputable def b179:Code:=Tryz.f179.body.getD .skip
noncomputable def F179:FI:=⟨36,[.tmp 6],b179⟩
theorem fn179:C.fn 179 = some F179:=by kernel_rfl
noncomputable def d179_0:Array Oper:=(drawsOf b179).getD 0 #[]
theorem kd179_0:drawCr d179_0 = [none,none,none,none,none,none,none,none,none,(some ([none,none,none,none,none,none,none,none,none,none,none],[true,true,true,true,true,true,true,true,true,false,false])),none]:=by kernel_rfl
noncomputable def l179_0:XC :=
 (.seq (.ops [oM 15 (.binI .lss 3 (.tmp 14) (.tmp 13) (.t 14) (.t 13))])
 (.seq (.cond (.t 15)
  .skip
  (.exit 0))
 (.seq (.block 1
  (.seq (.ops [oM 16 (.mv (.t 14)),
 oM 7 (.mv (.t 16))])
  (.seq (.draw d179_0 [oM 17 (.mv (.t 2)),
 oM 18 (.mv (.t 0)),
 oM 19 (.mv (.t 7)),
 oM 20 (.idxS 2 (.t 18) (.t 19)),
 oM 21 (.load true 2 (.t 20)),
 oM 22 (.mv (.t 1)),
 oM 23 (.mv (.t 7)),
 oM 24 (.idxS 2 (.t 22) (.t 23)),
 oM 25 (.load true 2 (.t 24)),
 oM 26 (.call (.t 17) [(.t 21),(.t 25)]),
 oM 8 (.mv (.t 26))])
  (.seq (.ops [oM 27 (.mv (.t 8)),
 oM 28 (.binI .neq 3 (.tmp 27) (.const (.int .i64 0)) (.t 27) (.c (.int .i64 0)))])
  (.cond (.t 28)
   (.seq (.ops [oM 29 (.mv (.t 8)),
 oM 6 (.mv (.t 29))])
   .ret)
   .skip)))))
 (.ops [oM 30 (.binI .add 3 (.tmp 14) (.const (.int .i64 1)) (.t 14) (.c (.int .i64 1))),
 oM 14 (.mv (.t 30))]))))
noncomputable def x179:XC :=
 (.seq (.ops [oM 6 (.mv (.c (.int .i64 0)))])
 (.seq (.seq (.ops [oM 9 (.mv (.t 0)),
 oM 10 (.lenS (.t 9)),
 oM 11 (.mv (.t 1)),
 oM 12 (.lenS (.t 11)),
 oM 13 (.gen ⟨some 13,.call { callee:=.builtin .min,args:=#[(.tmp 10),(.tmp 12)],argTypes:=#[3,3] },0,"",#[],none⟩),
 oM 14 (.mv (.c (.int .i64 0)))])
 (.block 0
  (.loop l179_0)))
 (.seq (.ops [oM 31 (.mv (.t 0)),
 oM 32 (.lenS (.t 31)),
 oM 33 (.mv (.t 1)),
 oM 34 (.lenS (.t 33)),
 oM 35 (.binI .sub 3 (.tmp 32) (.tmp 34) (.t 32) (.t 34)),
 oM 6 (.mv (.t 35))])
 .ret)))
theorem code179:codeOf C 179 F179 = x179:=by kernel_rfl
theorem ok179 {Q:Ctx} (hK:K Q):FnOk Q 179 F179 x179 false:=hK.ok_ ⟨fn179,code179,by kernel_rfl,by kernel_rfl⟩
noncomputable def b182:Code:=Tryz.f182.body.getD .skip
noncomputable def F182:FI:=⟨14,[.cell 4 3,.cell 5 3],b182⟩
theorem fn182:C.fn 182 = some F182:=by kernel_rfl
noncomputable def d182_0:Array Oper:=(drawsOf b182).getD 0 #[]
theorem kd182_0:drawCr d182_0 = [none,none,(some ([none,(some none),none,none],[true,false,false,false])),(some ([none,none,none,none],[true,true,true,false]))]:=by kernel_rfl
noncomputable def x182:XC :=
 (.seq (.ops [oM 2 (.box 39 (.t 0)),
 oM 3 (.box 165 (.t 1)),
 oM 4 (.alloc 3 [(.int .i64 0)]),
 oM 5 (.alloc 3 [(.int .i64 0)])])
 (.seq (.seq (.ops [oM 6 (.mkFunc 247 [] [(.t 4),(.t 5),(.t 3),(.t 2)]),
 oM 7 (.call (.c (.func (.func 120) [] [])) [(.t 6)]),
 oM 8 (.binI .neq 30 (.tmp 7) (.const (.int .i64 0)) (.t 7) (.c (.int .i64 0)))])
 (.cond (.t 8)
  (.ops [oM 9 (.load true 4 (.t 2)),
 oM 10 (.load false 1 (.t 3)),
 oM 11 (.call (.c (.func (.func 249) [] [])) [(.t 9),(.t 10)]),
 ⟨none,.store 1 (.t 5) (.t 11),none⟩])
  .skip))
 (.seq (.draw d182_0 [oM 12 (.load false 1 (.t 4)),
 oM 13 (.load false 1 (.t 5)),
 ⟨none,.store 1 (.t 4) (.t 12),none⟩,
 ⟨none,.store 1 (.t 5) (.t 13),none⟩])
 .ret)))
theorem code182:codeOf C 182 F182 = x182:=by kernel_rfl
theorem ok182 {Q:Ctx} (hK:K Q):FnOk Q 182 F182 x182 false:=hK.ok_ ⟨fn182,code182,by kernel_rfl,by kernel_rfl⟩
noncomputable def b183:Code:=Tryz.f183.body.getD .skip
noncomputable def F183:FI:=⟨17,[],b183⟩
theorem fn183:C.fn 183 = some F183:=by kernel_rfl
noncomputable def x183:XC :=
 (.seq (.ops [oM 4 (.gen ⟨some 4,.call { callee:=.builtin .recover,args:=#[],argTypes:=#[] },0,"",#[],none⟩),
 oM 1 (.mv (.t 4))])
 (.seq (.ops [oM 5 (.mv (.t 1)),
 oM 6 (.gen ⟨some 6,.binOp .neq 20 (.tmp 5) (.const .nilIface) 20,0,"",#[],none⟩)])
 (.cond (.t 6)
  (.seq (.ops [oM 8 (.mv (.t 1)),
 oM 9 (.gen ⟨some 9,.typeAssert (.tmp 8) 20 217 true,0,"",#[],none⟩),
 oM 7 (.mv (.t 9)),
 oM 10 (.extract (.t 7) 0),
 oM 11 (.extract (.t 7) 1),
 oM 2 (.alloc 217 [(.int .i64 0)]),
 ⟨none,.store 1 (.t 2) (.t 10),none⟩,
 oM 3 (.mv (.t 11))])
  (.seq (.seq (.ops [oM 12 (.mv (.t 3)),
 oM 13 (.un .not (.t 12))])
  (.cond (.t 13)
   (.ops [oM 14 (.mv (.t 1)),
 ⟨none,.gen ⟨none,.panic (.tmp 14),0,"",#[],none⟩,none⟩])
   .skip))
  (.ops [oM 15 (.fieldAddr 0 (.t 2)),
 oM 16 (.load false 1 (.t 15)),
 ⟨none,.store 1 (.t 0) (.t 16),none⟩])))
  .skip)))
theorem code183:codeOf C 183 F183 = x183:=by kernel_rfl
theorem ok183 {Q:Ctx} (hK:K Q):FnOk Q 183 F183 x183 false:=hK.ok_ ⟨fn183,code183,by kernel_rfl,by kernel_rfl⟩
noncomputable def b184:Code:=Tryz.f184.body.getD .skip
noncomputable def F184:FI:=⟨5,[.tmp 2],b184⟩
theorem fn184:C.fn 184 = some F184:=by kernel_rfl
noncomputable def x184:XC :=
 (.seq (.ops [oM 2 (.mv (.c (.bool false)))])
 (.seq (.ops [oM 3 (.mv (.t 0)),
 oM 4 (.call (.c (.func (.func 93) [] [])) [(.t 3)]),
 oM 2 (.mv (.t 4))])
 .ret))
theorem code184:codeOf C 184 F184 = x184:=by kernel_rfl
theorem ok184 {Q:Ctx} (hK:K Q):FnOk Q 184 F184 x184 false:=hK.ok_ ⟨fn184,code184,by kernel_rfl,by kernel_rfl⟩
noncomputable def b192:Code:=Tryz.f192.body.getD .skip
noncomputable def F192:FI:=⟨19,[.tmp 4],b192⟩
theorem fn192:C.fn 192 = some F192:=by kernel_rfl
noncomputable def x192:XC :=
 (.seq (.ops [oM 2 (.box 25 (.t 0)),
 oM 4 (.mv (.c (.int .i64 0)))])
 (.seq (.ops [oM 8 (.load true 2 (.t 2)),
 oM 9 (.mv (.t 1)),
 oM 10 (.call (.c (.func (.func 257) [] [])) [(.t 8),(.t 9)]),
 oM 7 (.mv (.t 10)),
 oM 11 (.extract (.t 7) 0),
 oM 12 (.extract (.t 7) 1),
 oM 5 (.mv (.t 11)),
 oM 6 (.mv (.t 12))])
 (.seq (.block 0
  (.seq (.ops [oM 14 (.mv (.t 5)),
 oM 15 (.binI .gtr 3 (.tmp 14) (.const (.int .i64 4000)) (.t 14) (.c (.int .i64 4000))),
 oM 13 (.mv (.t 15))])
  (.cond (.t 13)
   (.seq (.ops [oM 4 (.mv (.c (.int .i64 2)))])
   .ret)
   (.seq (.ops [oM 17 (.mv (.t 6)),
 oM 18 (.binI .gtr 3 (.tmp 17) (.const (.int .i64 100)) (.t 17) (.c (.int .i64 100))),
 oM 16 (.mv (.t 18))])
   (.cond (.t 16)
    (.seq (.ops [oM 4 (.mv (.c (.int .i64 5)))])
    .ret)
    .skip)))))
 (.seq (.ops [oM 4 (.mv (.c (.int .i64 0)))])
 .ret))))
theorem code192:codeOf C 192 F192 = x192:=by kernel_rfl
theorem ok192 {Q:Ctx} (hK:K Q):FnOk Q 192 F192 x192 false:=hK.ok_ ⟨fn192,code192,by kernel_rfl,by kernel_rfl⟩
noncomputable def b193:Code:=Tryz.f193.body.getD .skip
noncomputable def F193:FI:=⟨5,[.tmp 2],b193⟩
theorem fn193:C.fn 193 = some F193:=by kernel_rfl
noncomputable def x193:XC :=
 (.seq (.ops [oM 1 (.box 25 (.t 0)),
 oM 2 (.mv (.c (.slice .nil [])))])
 (.seq (.ops [oM 3 (.fieldAddr 1 (.t 1)),
 oM 4 (.load false 1 (.t 3)),
 oM 2 (.mv (.t 4))])
 .ret))
theorem code193:codeOf C 193 F193 = x193:=by kernel_rfl
theorem ok193 {Q:Ctx} (hK:K Q):FnOk Q 193 F193 x193 false:=hK.ok_ ⟨fn193,code193,by kernel_rfl,by kernel_rfl⟩
noncomputable def b194:Code:=Tryz.f194.body.getD .skip
noncomputable def F194:FI:=⟨8,[],b194⟩
theorem fn194:C.fn 194 = some F194:=by kernel_rfl
noncomputable def x194:XC :=
 (.seq (.ops [oM 3 (.alloc 152 [.nilfn])])
 (.seq (.ops [oM 4 (.mkFunc 195 [] [(.t 0),(.t 1),(.t 3)]),
 ⟨none,.store 1 (.t 3) (.t 4),none⟩])
 (.ops [oM 5 (.load false 1 (.t 3)),
 oM 6 (.load true 2 (.t 2)),
 oM 7 (.call (.t 5) [(.t 6)])])))
theorem code194:codeOf C 194 F194 = x194:=by kernel_rfl
theorem ok194 {Q:Ctx} (hK:K Q):FnOk Q 194 F194 x194 false:=hK.ok_ ⟨fn194,code194,by kernel_rfl,by kernel_rfl⟩
noncomputable def b195:Code:=Tryz.f195.body.getD .skip
noncomputable def F195:FI:=⟨49,[],b195⟩
theorem fn195:C.fn 195 = some F195:=by kernel_rfl
noncomputable def l195_0:XC :=
 (.seq (.ops [oM 42 (.binI .lss 3 (.tmp 41) (.tmp 40) (.t 41) (.t 40))])
 (.seq (.cond (.t 42)
  .skip
  (.exit 0))
 (.seq (.block 1
  (.seq (.ops [oM 43 (.idxS 2 (.t 39) (.t 41)),
 oM 44 (.load true 2 (.t 43)),
 oM 6 (.alloc 25 [(.str []),(.slice .nil [])]),
 ⟨none,.store 2 (.t 6) (.t 44),none⟩])
  (.ops [oM 45 (.load false 1 (.t 3)),
 oM 46 (.load true 2 (.t 6)),
 oM 47 (.call (.t 45) [(.t 46)])])))
 (.ops [oM 48 (.binI .add 3 (.tmp 41) (.const (.int .i64 1)) (.t 41) (.c (.int .i64 1))),
 oM 41 (.mv (.t 48))]))))
noncomputable def x195:XC :=
 (.seq (.ops [oM 4 (.box 25 (.t 0))])
 (.seq (.ops [oM 7 (.fieldAddr 0 (.t 4)),
 oM 8 (.load false 1 (.t 7)),
 oM 9 (.binS .eql 9 (.tmp 8) (.const (.string ⟨#[45,62]⟩)) (.t 8) (.c (.str [45,62]))),
 oM 10 (.fieldAddr 1 (.t 4)),
 oM 11 (.load false 1 (.t 10)),
 oM 12 (.lenS (.t 11)),
 oM 13 (.binI .eql 3 (.tmp 12) (.const (.int .i64 2)) (.t 12) (.c (.int .i64 2))),
 oM 14 (.gen ⟨some 14,.binOp .eql 4 (.tmp 9) (.tmp 13) 4,0,"",#[],none⟩),
 oM 15 (.mv (.t 14)),
 ⟨some 16,.fieldAddr 0 (.t 4),(some (some 15,true))⟩,
 ⟨some 17,.load false 1 (.t 16),(some (some 15,true))⟩,
 ⟨some 18,.binS .eql 9 (.tmp 17) (.const (.string ⟨#[45,62]⟩)) (.t 17) (.c (.str [45,62])),(some (some 15,true))⟩,
 ⟨some 19,.mv (.t 18),(some (some 15,true))⟩,
 ⟨some 20,.fieldAddr 1 (.t 4),(some (some 19,false))⟩,
 ⟨some 21,.load false 1 (.t 20),(some (some 19,false))⟩,
 ⟨some 22,.lenS (.t 21),(some (some 19,false))⟩,
 ⟨some 23,.binI .eql 3 (.tmp 22) (.const (.int .i64 0)) (.t 22) (.c (.int .i64 0)),(some (some 19,false))⟩,
 ⟨some 24,.pick (.t 19) (.c (.bool true)) (.t 23),(some (some 15,true))⟩,
 oM 25 (.pick (.t 15) (.t 24) (.c (.bool false))),
 oM 26 (.call (.c (.func (.func 123) [] [])) [(.t 25),(.c (.int .i64 6))])])
 (.seq (.seq (.ops [oM 27 (.fieldAddr 0 (.t 4)),
 oM 28 (.load false 1 (.t 27)),
 oM 29 (.binS .neq 9 (.tmp 28) (.const (.string ⟨#[45,62]⟩)) (.t 28) (.c (.str [45,62]))),
 oM 30 (.mv (.t 29)),
 ⟨some 31,.fieldAddr 0 (.t 1),(some (some 30,true))⟩,
 ⟨some 32,.load false 1 (.t 31),(some (some 30,true))⟩,
 ⟨some 33,.fieldAddr 0 (.t 4),(some (some 30,true))⟩,
 ⟨some 34,.load false 1 (.t 33),(some (some 30,true))⟩,
 ⟨some 35,.call (.c (.func (.func 196) [] [])) [(.t 32),(.t 34)],(some (some 30,true))⟩,
 ⟨some 36,.un .not (.t 35),(some (some 30,true))⟩,
 oM 37 (.pick (.t 30) (.t 36) (.c (.bool false)))])
 (.cond (.t 37)
  (.ops [⟨none,.store 1 (.t 2) (.c (.int .i64 40)),none⟩])
  .skip))
 (.seq (.ops [oM 38 (.fieldAddr 1 (.t 4)),
 oM 39 (.load false 1 (.t 38)),
 oM 40 (.lenS (.t 39)),
 oM 41 (.mv (.c (.int .i64 0)))])
 (.block 0
  (.loop l195_0))))))
theorem code195:codeOf C 195 F195 = x195:=by kernel_rfl
theorem ok195 {Q:Ctx} (hK:K Q):FnOk Q 195 F195 x195 false:=hK.ok_ ⟨fn195,code195,by kernel_rfl,by kernel_rfl⟩
noncomputable def b196:Code:=Tryz.f196.body.getD .skip
noncomputable def F196:FI:=⟨9,[.tmp 4],b196⟩
theorem fn196:C.fn 196 = some F196:=by kernel_rfl
noncomputable def x196:XC :=
 (.seq (.ops [oM 4 (.mv (.c (.bool false)))])
 (.seq (.ops [oM 5 (.mv (.t 0)),
 oM 6 (.mv (.t 1)),
 oM 7 (.call (.c (.func (.func 258) [] [])) [(.t 5),(.t 6)]),
 oM 8 (.binI .geq 3 (.tmp 7) (.const (.int .i64 0)) (.t 7) (.c (.int .i64 0))),
 oM 4 (.mv (.t 8))])
 .ret))
theorem code196:codeOf C 196 F196 = x196:=by kernel_rfl
theorem ok196 {Q:Ctx} (hK:K Q):FnOk Q 196 F196 x196 false:=hK.ok_ ⟨fn196,code196,by kernel_rfl,by kernel_rfl⟩
noncomputable def b237:Code:=Tryz.f237.body.getD .skip
noncomputable def F237:FI:=⟨38,[.tmp 2],b237⟩
theorem fn237:C.fn 237 = some F237:=by kernel_rfl
noncomputable def d237_0:Array Oper:=(drawsOf b237).getD 0 #[]
theorem kd237_0:drawCr d237_0 = [none,none,none,none,none,none,none,none,none,none,none,none,none,none,none,none,none,none,none,none,none,none,none,none,none]:=by kernel_rfl
noncomputable def x237:XC :=
 (.seq (.ops [oM 1 (.box 207 (.t 0)),
 oM 2 (.mv (.c (.int .i64 0)))])
 (.seq (.ops [oM 7 (.fieldAddr 1 (.t 1)),
 oM 8 (.load false 1 (.t 7)),
 oM 9 (.call (.c (.func (.func 295) [] [])) [(.t 8)]),
 oM 6 (.mv (.t 9)),
 oM 10 (.extract (.t 6) 0),
 oM 11 (.extract (.t 6) 1),
 oM 12 (.extract (.t 6) 2),
 oM 3 (.mv (.t 10)),
 oM 4 (.mv (.t 11)),
 oM 5 (.mv (.t 12))])
 (.seq (.seq (.draw d237_0 [oM 13 (.mv (.t 5)),
 oM 14 (.binI .neq 30 (.tmp 13) (.const (.int .i64 0)) (.t 13) (.c (.int .i64 0))),
 oM 15 (.mv (.t 14)),
 ⟨some 16,.mv (.t 3),(some (some 15,false))⟩,
 ⟨some 17,.lenS (.t 16),(some (some 15,false))⟩,
 ⟨some 18,.binI .neq 3 (.tmp 17) (.const (.int .i64 1)) (.t 17) (.c (.int .i64 1)),(some (some 15,false))⟩,
 oM 19 (.pick (.t 15) (.c (.bool true)) (.t 18)),
 oM 20 (.mv (.t 19)),
 ⟨some 21,.mv (.t 3),(some (some 20,false))⟩,
 ⟨some 22,.idxS 3 (.t 21) (.c (.int .i64 0)),(some (some 20,false))⟩,
 ⟨some 23,.fieldAddr 0 (.t 22),(some (some 20,false))⟩,
 ⟨some 24,.load false 1 (.t 23),(some (some 20,false))⟩,
 ⟨some 25,.fieldAddr 0 (.t 1),(some (some 20,false))⟩,
 ⟨some 26,.load false 1 (.t 25),(some (some 20,false))⟩,
 ⟨some 27,.binI .neq 3 (.tmp 24) (.tmp 26) (.t 24) (.t 26),(some (some 20,false))⟩,
 oM 28 (.pick (.t 20) (.c (.bool true)) (.t 27)),
 oM 29 (.mv (.t 28)),
 ⟨some 30,.mv (.t 3),(some (some 29,false))⟩,
 ⟨some 31,.idxS 3 (.t 30) (.c (.int .i64 0)),(some (some 29,false))⟩,
 ⟨some 32,.fieldAddr 1 (.t 31),(some (some 29,false))⟩,
 ⟨some 33,.load false 1 (.t 32),(some (some 29,false))⟩,
 ⟨some 34,.fieldAddr 1 (.t 1),(some (some 29,false))⟩,
 ⟨some 35,.load false 1 (.t 34),(some (some 29,false))⟩,
 ⟨some 36,.binS .neq 9 (.tmp 33) (.tmp 35) (.t 33) (.t 35),(some (some 29,false))⟩,
 oM 37 (.pick (.t 29) (.c (.bool true)) (.t 36))])
 (.cond (.t 37)
  (.seq (.ops [oM 2 (.mv (.c (.int .i64 12)))])
  .ret)
  .skip))
 (.seq (.ops [oM 2 (.mv (.c (.int .i64 0)))])
 .ret))))
theorem code237:codeOf C 237 F237 = x237:=by kernel_rfl
theorem ok237 {Q:Ctx} (hK:K Q):FnOk Q 237 F237 x237 false:=hK.ok_ ⟨fn237,code237,by kernel_rfl,by kernel_rfl⟩
noncomputable def b238:Code:=Tryz.f238.body.getD .skip
noncomputable def F238:FI:=⟨13,[.tmp 2],b238⟩
theorem fn238:C.fn 238 = some F238:=by kernel_rfl
noncomputable def x238:XC :=
 (.seq (.ops [oM 2 (.mv (.c (.bool false)))])
 (.seq (.ops [oM 3 (.mv (.t 0)),
 oM 4 (.binI .eql 5 (.tmp 3) (.const (.int .u8 32)) (.t 3) (.c (.int .u8 32))),
 oM 5 (.mv (.t 4)),
 ⟨some 6,.mv (.t 0),(some (some 5,false))⟩,
 ⟨some 7,.binI .eql 5 (.tmp 6) (.const (.int .u8 9)) (.t 6) (.c (.int .u8 9)),(some (some 5,false))⟩,
 oM 8 (.pick (.t 5) (.c (.bool true)) (.t 7)),
 oM 9 (.mv (.t 8)),
 ⟨some 10,.mv (.t 0),(some (some 9,false))⟩,
 ⟨some 11,.binI .eql 5 (.tmp 10) (.const (.int .u8 10)) (.t 10) (.c (.int .u8 10)),(some (some 9,false))⟩,
 oM 12 (.pick (.t 9) (.c (.bool true)) (.t 11)),
 oM 2 (.mv (.t 12))])
 .ret))
theorem code238:codeOf C 238 F238 = x238:=by kernel_rfl
theorem ok238 {Q:Ctx} (hK:K Q):FnOk Q 238 F238 x238 false:=hK.ok_ ⟨fn238,code238,by kernel_rfl,by kernel_rfl⟩
noncomputable def b239:Code:=Tryz.f239.body.getD .skip
noncomputable def F239:FI:=⟨104,[.tmp 4,.tmp 5],b239⟩
theorem fn239:C.fn 239 = some F239:=by kernel_rfl
noncomputable def d239_0:Array Oper:=(drawsOf b239).getD 0 #[]
theorem kd239_0:drawCr d239_0 = [(some ([none,none,none,none,(some (some [false,true,true,true,false,false,false])),none,none],[false,false,false,false,false,false,false])),none,none,none,none,(some ([none,none,none,none,none,none,none],[true,true,true,true,true,false,false])),none]:=by kernel_rfl
noncomputable def d239_1:Array Oper:=(drawsOf b239).getD 1 #[]
theorem kd239_1:drawCr d239_1 = [none,none,none,none,none,none,none,none,none]:=by kernel_rfl
noncomputable def l239_0:XC :=
 (.seq (.seq (.ops [oM 84 (.mv (.t 8)),
 oM 85 (.mv (.t 7)),
 oM 86 (.lenS (.t 85)),
 oM 87 (.binI .lss 3 (.tmp 84) (.tmp 86) (.t 84) (.t 86))])
 (.cond (.t 87)
  .skip
  (.exit 0)))
 (.seq (.block 1
  (.seq (.ops [oM 90 (.mv (.t 0)),
 oM 91 (.mv (.t 1)),
 oM 92 (.mv (.t 7)),
 oM 93 (.mv (.t 8)),
 oM 94 (.idxS 1 (.t 92) (.t 93)),
 oM 95 (.load false 1 (.t 94)),
 oM 96 (.call (.c (.func (.func 299) [] [])) [(.t 90),(.t 91),(.t 95)])])
  (.cond (.t 96)
   (.seq (.draw d239_1 [oM 97 (.mv (.t 1)),
 oM 98 (.mv (.t 7)),
 oM 99 (.mv (.t 8)),
 oM 100 (.idxS 1 (.t 98) (.t 99)),
 oM 101 (.load false 1 (.t 100)),
 oM 102 (.lenStr (.t 101)),
 oM 103 (.binI .add 3 (.tmp 97) (.tmp 102) (.t 97) (.t 102)),
 oM 4 (.mv (.c (.int .i64 3))),
 oM 5 (.mv (.t 103))])
   .ret)
   .skip)))
 (.ops [oM 88 (.mv (.t 8)),
 oM 89 (.binI .add 3 (.tmp 88) (.const (.int .i64 1)) (.t 88) (.c (.int .i64 1))),
 oM 8 (.mv (.t 89))])))
noncomputable def x239:XC :=
 (.seq (.ops [oM 4 (.mv (.c (.int .i64 0))),
 oM 5 (.mv (.c (.int .i64 0)))])
 (.seq (.seq (.ops [oM 9 (.mv (.t 0)),
 oM 10 (.mv (.t 1)),
 oM 11 (.idxStr (.t 9) (.t 10)),
 oM 12 (.call (.c (.func (.func 296) [] [])) [(.t 11)])])
 (.cond (.t 12)
  (.seq (.ops [oM 13 (.mv (.t 0)),
 oM 14 (.mv (.t 1)),
 oM 15 (.call (.c (.func (.func 297) [] [])) [(.t 13),(.t 14)]),
 oM 4 (.mv (.c (.int .i64 2))),
 oM 5 (.mv (.t 15))])
  .ret)
  .skip))
 (.seq (.seq (.ops [oM 16 (.mv (.t 0)),
 oM 17 (.mv (.t 1)),
 oM 18 (.idxStr (.t 16) (.t 17)),
 oM 19 (.call (.c (.func (.func 298) [] [])) [(.t 18)])])
 (.cond (.t 19)
  (.seq (.ops [oM 20 (.mv (.t 0)),
 oM 21 (.mv (.t 1)),
 oM 22 (.call (.c (.func (.func 297) [] [])) [(.t 20),(.t 21)]),
 oM 6 (.mv (.t 22))])
  (.seq (.seq (.ops [oM 23 (.mv (.t 6)),
 oM 24 (.binI .add 3 (.tmp 23) (.const (.int .i64 1)) (.t 23) (.c (.int .i64 1))),
 oM 25 (.mv (.t 0)),
 oM 26 (.lenStr (.t 25)),
 oM 27 (.binI .lss 3 (.tmp 24) (.tmp 26) (.t 24) (.t 26)),
 oM 28 (.mv (.t 27)),
 ⟨some 29,.mv (.t 0),(some (some 28,true))⟩,
 ⟨some 30,.mv (.t 6),(some (some 28,true))⟩,
 ⟨some 31,.idxStr (.t 29) (.t 30),(some (some 28,true))⟩,
 ⟨some 32,.binI .eql 5 (.tmp 31) (.const (.int .u8 64)) (.t 31) (.c (.int .u8 64)),(some (some 28,true))⟩,
 oM 33 (.pick (.t 28) (.t 32) (.c (.bool false))),
 oM 34 (.mv (.t 33)),
 ⟨some 35,.mv (.t 0),(some (some 34,true))⟩,
 ⟨some 36,.mv (.t 6),(some (some 34,true))⟩,
 ⟨some 37,.binI .add 3 (.tmp 36) (.const (.int .i64 1)) (.t 36) (.c (.int .i64 1)),(some (some 34,true))⟩,
 ⟨some 38,.idxStr (.t 35) (.t 37),(some (some 34,true))⟩,
 ⟨some 39,.call (.c (.func (.func 298) [] [])) [(.t 38)],(some (some 34,true))⟩,
 oM 40 (.pick (.t 34) (.t 39) (.c (.bool false)))])
  (.cond (.t 40)
   (.ops [oM 41 (.mv (.t 0)),
 oM 42 (.mv (.t 6)),
 oM 43 (.binI .add 3 (.tmp 42) (.const (.int .i64 1)) (.t 42) (.c (.int .i64 1))),
 oM 44 (.call (.c (.func (.func 297) [] [])) [(.t 41),(.t 43)]),
 oM 6 (.mv (.t 44))])
   .skip))
  (.seq (.seq (.ops [oM 45 (.mv (.t 0)),
 oM 46 (.mv (.t 1)),
 oM 47 (.mv (.t 6)),
 oM 48 (.gen ⟨some 48,.slice 9 (.tmp 45) (some (.tmp 46)) (some (.tmp 47)) none,0,"",#[],none⟩),
 oM 49 (.binS .eql 9 (.tmp 48) (.const (.string ⟨#[111]⟩)) (.t 48) (.c (.str [111]))),
 oM 50 (.mv (.t 49)),
 ⟨some 51,.mv (.t 0),(some (some 50,true))⟩,
 ⟨some 52,.mv (.t 6),(some (some 50,true))⟩,
 ⟨some 53,.call (.c (.func (.func 299) [] [])) [(.t 51),(.t 52),(.c (.str [45]))],(some (some 50,true))⟩,
 oM 54 (.pick (.t 50) (.t 53) (.c (.bool false)))])
  (.cond (.t 54)
   (.seq (.ops [oM 55 (.mv (.t 6)),
 oM 56 (.binI .add 3 (.tmp 55) (.const (.int .i64 1)) (.t 55) (.c (.int .i64 1))),
 oM 4 (.mv (.c (.int .i64 3))),
 oM 5 (.mv (.t 56))])
   .ret)
   .skip))
  (.seq (.seq (.draw d239_0 [oM 57 (.call (.c (.func (.func 301) [] [])) []),
 oM 58 (.mv (.t 0)),
 oM 59 (.mv (.t 1)),
 oM 60 (.mv (.t 6)),
 oM 61 (.gen ⟨some 61,.slice 9 (.tmp 58) (some (.tmp 59)) (some (.tmp 60)) none,0,"",#[],none⟩),
 oM 62 (.call (.c (.func (.func 300) [] [])) [(.t 57),(.t 61)]),
 oM 63 (.binI .geq 3 (.tmp 62) (.const (.int .i64 0)) (.t 62) (.c (.int .i64 0)))])
  (.cond (.t 63)
   (.seq (.ops [oM 64 (.mv (.t 6)),
 oM 4 (.mv (.c (.int .i64 4))),
 oM 5 (.mv (.t 64))])
   .ret)
   .skip))
  (.seq (.ops [oM 65 (.mv (.t 6)),
 oM 4 (.mv (.c (.int .i64 1))),
 oM 5 (.mv (.t 65))])
  .ret)))))
  .skip))
 (.seq (.seq (.ops [oM 66 (.mv (.t 0)),
 oM 67 (.mv (.t 1)),
 oM 68 (.call (.c (.func (.func 299) [] [])) [(.t 66),(.t 67),(.c (.str [45,111]))])])
 (.cond (.t 68)
  (.seq (.seq (.ops [oM 69 (.mv (.t 1)),
 oM 70 (.binI .add 3 (.tmp 69) (.const (.int .i64 2)) (.t 69) (.c (.int .i64 2))),
 oM 71 (.mv (.t 0)),
 oM 72 (.lenStr (.t 71)),
 oM 73 (.binI .lss 3 (.tmp 70) (.tmp 72) (.t 70) (.t 72)),
 oM 74 (.mv (.t 73)),
 ⟨some 75,.mv (.t 0),(some (some 74,true))⟩,
 ⟨some 76,.mv (.t 1),(some (some 74,true))⟩,
 ⟨some 77,.binI .add 3 (.tmp 76) (.const (.int .i64 2)) (.t 76) (.c (.int .i64 2)),(some (some 74,true))⟩,
 ⟨some 78,.idxStr (.t 75) (.t 77),(some (some 74,true))⟩,
 ⟨some 79,.call (.c (.func (.func 302) [] [])) [(.t 78)],(some (some 74,true))⟩,
 oM 80 (.pick (.t 74) (.t 79) (.c (.bool false)))])
  (.cond (.t 80)
   (.seq (.ops [oM 4 (.mv (.c (.int .i64 0))),
 oM 5 (.mv (.c (.int .i64 0)))])
   .ret)
   .skip))
  (.seq (.ops [oM 81 (.mv (.t 1)),
 oM 82 (.binI .add 3 (.tmp 81) (.const (.int .i64 2)) (.t 81) (.c (.int .i64 2))),
 oM 4 (.mv (.c (.int .i64 3))),
 oM 5 (.mv (.t 82))])
  .ret))
  .skip))
 (.seq (.ops [oM 83 (.call (.c (.func (.func 303) [] [])) []),
 oM 7 (.mv (.t 83))])
 (.seq (.seq (.ops [oM 8 (.mv (.c (.int .i64 2)))])
 (.block 0
  (.loop l239_0)))
 (.seq (.ops [oM 4 (.mv (.c (.int .i64 0))),
 oM 5 (.mv (.c (.int .i64 0)))])
 .ret)))))))
theorem code239:codeOf C 239 F239 = x239:=by kernel_rfl
theorem ok239 {Q:Ctx} (hK:K Q):FnOk Q 239 F239 x239 false:=hK.ok_ ⟨fn239,code239,by kernel_rfl,by kernel_rfl⟩
noncomputable def b240:Code:=Tryz.f240.body.getD .skip
noncomputable def F240:FI:=⟨20,[],b240⟩
theorem fn240:C.fn 240 = some F240:=by kernel_rfl
noncomputable def x240:XC :=
 (.seq (.ops [oM 2 (.mv (.t 0)),
 oM 3 (.gen ⟨some 3,.nilCheck (.tmp 2),0,"",#[],none⟩),
 oM 4 (.fieldAddr 0 (.t 3)),
 oM 5 (.load false 1 (.t 4)),
 oM 6 (.gen ⟨some 6,.binOp .eql 93 (.tmp 5) (.const (.pointer none)) 93,0,"",#[],none⟩)])
 (.cond (.t 6)
  (.ops [oM 7 (.mv (.t 0)),
 oM 8 (.mv (.t 0)),
 oM 9 (.gen ⟨some 9,.convert 93 307 (.tmp 8),0,"",#[],none⟩),
 oM 10 (.call (.c (.func (.func 304) [] [])) [(.t 9)]),
 oM 11 (.gen ⟨some 11,.convert 307 93 (.tmp 10),0,"",#[],none⟩),
 oM 12 (.gen ⟨some 12,.nilCheck (.tmp 7),0,"",#[],none⟩),
 oM 13 (.fieldAddr 0 (.t 12)),
 ⟨none,.store 1 (.t 13) (.t 11),none⟩])
  (.seq (.ops [oM 14 (.mv (.t 0)),
 oM 15 (.gen ⟨some 15,.nilCheck (.tmp 14),0,"",#[],none⟩),
 oM 16 (.fieldAddr 0 (.t 15)),
 oM 17 (.load false 1 (.t 16)),
 oM 18 (.mv (.t 0)),
 oM 19 (.gen ⟨some 19,.binOp .neq 93 (.tmp 17) (.tmp 18) 93,0,"",#[],none⟩)])
  (.cond (.t 19)
   .bad
   .skip))))
theorem code240:codeOf C 240 F240 = x240:=by kernel_rfl
theorem ok240 {Q:Ctx} (hK:K Q):FnOk Q 240 F240 x240 false:=hK.ok_ ⟨fn240,code240,by kernel_rfl,by kernel_rfl⟩
noncomputable def b244:Code:=Tryz.f244.body.getD .skip
noncomputable def F244:FI:=⟨18,[.tmp 2],b244⟩
theorem fn244:C.fn 244 = some F244:=by kernel_rfl
noncomputable def l244_0:XC :=
 (.seq (.ops [oM 9 (.binI .lss 3 (.tmp 8) (.tmp 7) (.t 8) (.t 7))])
 (.seq (.cond (.t 9)
  .skip
  (.exit 0))
 (.seq (.block 1
  (.seq (.ops [oM 10 (.idxS 1 (.t 6) (.t 8)),
 oM 11 (.load false 1 (.t 10)),
 oM 5 (.mv (.t 11))])
  (.seq (.ops [oM 12 (.mv (.t 5)),
 oM 13 (.mv (.t 3)),
 oM 14 (.binI .neq 3 (.tmp 12) (.tmp 13) (.t 12) (.t 13))])
  (.cond (.t 14)
   (.seq (.ops [oM 15 (.mv (.t 5)),
 oM 2 (.mv (.t 15))])
   .ret)
   .skip))))
 (.ops [oM 16 (.binI .add 3 (.tmp 8) (.const (.int .i64 1)) (.t 8) (.c (.int .i64 1))),
 oM 8 (.mv (.t 16))]))))
noncomputable def x244:XC :=
 (.seq (.ops [oM 2 (.mv (.c (.int .i64 0)))])
 (.seq (.ops [oM 3 (.mv (.c (.int .i64 0)))])
 (.seq (.seq (.ops [oM 6 (.mv (.t 0)),
 oM 7 (.lenS (.t 6)),
 oM 8 (.mv (.c (.int .i64 0)))])
 (.block 0
  (.loop l244_0)))
 (.seq (.ops [oM 17 (.mv (.t 3)),
 oM 2 (.mv (.t 17))])
 .ret))))
theorem code244:codeOf C 244 F244 = x244:=by kernel_rfl
theorem ok244 {Q:Ctx} (hK:K Q):FnOk Q 244 F244 x244 false:=hK.ok_ ⟨fn244,code244,by kernel_rfl,by kernel_rfl⟩
noncomputable def b245:Code:=Tryz.f245.body.getD .skip
noncomputable def F245:FI:=⟨20,[.tmp 4],b245⟩
theorem fn245:C.fn 245 = some F245:=by kernel_rfl
noncomputable def x245:XC :=
 (.seq (.ops [oM 4 (.mv (.c (.int .i64 0)))])
 (.seq (.ops [oM 7 (.mv (.t 0)),
 oM 8 (.call (.c (.func (.func 306) [] [])) [(.t 7)]),
 oM 5 (.mv (.t 8))])
 (.seq (.ops [oM 9 (.mv (.t 1)),
 oM 10 (.call (.c (.func (.func 306) [] [])) [(.t 9)]),
 oM 6 (.mv (.t 10))])
 (.seq (.seq (.ops [oM 11 (.mv (.t 5))])
 (.cond (.t 11)
  (.seq (.seq (.ops [oM 12 (.mv (.t 6))])
  (.cond (.t 12)
   (.seq (.ops [oM 4 (.mv (.c (.int .i64 0)))])
   .ret)
   .skip))
  (.seq (.ops [oM 4 (.mv (.c (.int .i64 (-1))))])
  .ret))
  .skip))
 (.seq (.seq (.ops [oM 13 (.mv (.t 6))])
 (.cond (.t 13)
  (.seq (.ops [oM 4 (.mv (.c (.int .i64 1)))])
  .ret)
  .skip))
 (.seq (.seq (.ops [oM 14 (.mv (.t 0)),
 oM 15 (.mv (.t 1)),
 oM 16 (.binI .lss 3 (.tmp 14) (.tmp 15) (.t 14) (.t 15))])
 (.cond (.t 16)
  (.seq (.ops [oM 4 (.mv (.c (.int .i64 (-1))))])
  .ret)
  .skip))
 (.seq (.seq (.ops [oM 17 (.mv (.t 0)),
 oM 18 (.mv (.t 1)),
 oM 19 (.binI .gtr 3 (.tmp 17) (.tmp 18) (.t 17) (.t 18))])
 (.cond (.t 19)
  (.seq (.ops [oM 4 (.mv (.c (.int .i64 1)))])
  .ret)
  .skip))
 (.seq (.ops [oM 4 (.mv (.c (.int .i64 0)))])
 .ret))))))))
theorem code245:codeOf C 245 F245 = x245:=by kernel_rfl
theorem ok245 {Q:Ctx} (hK:K Q):FnOk Q 245 F245 x245 false:=hK.ok_ ⟨fn245,code245,by kernel_rfl,by kernel_rfl⟩
noncomputable def b246:Code:=Tryz.f246.body.getD .skip
noncomputable def F246:FI:=⟨39,[.tmp 6],b246⟩
theorem fn246:C.fn 246 = some F246:=by kernel_rfl
noncomputable def l246_0:XC :=
 (.seq (.ops [oM 14 (.binI .lss 3 (.tmp 13) (.tmp 12) (.t 13) (.t 12))])
 (.seq (.cond (.t 14)
  .skip
  (.exit 0))
 (.seq (.block 1
  (.seq (.ops [oM 15 (.mv (.t 13)),
 oM 16 (.idxS 4 (.t 11) (.t 13)),
 oM 17 (.load true 4 (.t 16)),
 oM 8 (.alloc 39 [(.int .i64 0),(.int .i64 0),(.str []),(.slice .nil [])]),
 oM 7 (.mv (.t 15)),
 ⟨none,.store 4 (.t 8) (.t 17),none⟩])
  (.seq (.seq (.ops [oM 18 (.mv (.t 7)),
 oM 19 (.mv (.t 1)),
 oM 20 (.lenS (.t 19)),
 oM 21 (.binI .geq 3 (.tmp 18) (.tmp 20) (.t 18) (.t 20))])
  (.cond (.t 21)
   (.seq (.ops [oM 6 (.mv (.c (.int .i64 1)))])
   .ret)
   .skip))
  (.seq (.ops [oM 22 (.mv (.t 1)),
 oM 23 (.mv (.t 7)),
 oM 24 (.idxS 4 (.t 22) (.t 23)),
 oM 25 (.load true 4 (.t 24)),
 oM 9 (.alloc 39 [(.int .i64 0),(.int .i64 0),(.str []),(.slice .nil [])]),
 ⟨none,.store 4 (.t 9) (.t 25),none⟩])
  (.seq (.ops [oM 26 (.mv (.t 2)),
 oM 27 (.load true 4 (.t 8)),
 oM 28 (.load true 4 (.t 9)),
 oM 29 (.call (.t 26) [(.t 27),(.t 28)]),
 oM 10 (.mv (.t 29))])
  (.seq (.ops [oM 30 (.mv (.t 10)),
 oM 31 (.binI .neq 3 (.tmp 30) (.const (.int .i64 0)) (.t 30) (.c (.int .i64 0)))])
  (.cond (.t 31)
   (.seq (.ops [oM 32 (.mv (.t 10)),
 oM 6 (.mv (.t 32))])
   .ret)
   .skip)))))))
 (.ops [oM 33 (.binI .add 3 (.tmp 13) (.const (.int .i64 1)) (.t 13) (.c (.int .i64 1))),
 oM 13 (.mv (.t 33))]))))
noncomputable def x246:XC :=
 (.seq (.ops [oM 6 (.mv (.c (.int .i64 0)))])
 (.seq (.seq (.ops [oM 11 (.mv (.t 0)),
 oM 12 (.lenS (.t 11)),
 oM 13 (.mv (.c (.int .i64 0)))])
 (.block 0
  (.loop l246_0)))
 (.seq (.seq (.ops [oM 34 (.mv (.t 0)),
 oM 35 (.lenS (.t 34)),
 oM 36 (.mv (.t 1)),
 oM 37 (.lenS (.t 36)),
 oM 38 (.binI .lss 3 (.tmp 35) (.tmp 37) (.t 35) (.t 37))])
 (.cond (.t 38)
  (.seq (.ops [oM 6 (.mv (.c (.int .i64 (-1))))])
  .ret)
  .skip))
 (.seq (.ops [oM 6 (.mv (.c (.int .i64 0)))])
 .ret))))
theorem code246:codeOf C 246 F246 = x246:=by kernel_rfl
theorem ok246 {Q:Ctx} (hK:K Q):FnOk Q 246 F246 x246 false:=hK.ok_ ⟨fn246,code246,by kernel_rfl,by kernel_rfl⟩
noncomputable def b247:Code:=Tryz.f247.body.getD .skip
noncomputable def F247:FI:=⟨9,[],b247⟩
theorem fn247:C.fn 247 = some F247:=by kernel_rfl
noncomputable def x247:XC :=
 (.seq (.ops [oM 4 (.alloc 258 [.nilfn])])
 (.seq (.ops [oM 5 (.mkFunc 248 [] [(.t 0),(.t 1),(.t 2),(.t 4)]),
 ⟨none,.store 1 (.t 4) (.t 5),none⟩])
 (.ops [oM 6 (.load false 1 (.t 4)),
 oM 7 (.load true 4 (.t 3)),
 oM 8 (.call (.t 6) [(.t 7),(.c (.int .i64 1))])])))
theorem code247:codeOf C 247 F247 = x247:=by kernel_rfl
theorem ok247 {Q:Ctx} (hK:K Q):FnOk Q 247 F247 x247 false:=hK.ok_ ⟨fn247,code247,by kernel_rfl,by kernel_rfl⟩
noncomputable def b248:Code:=Tryz.f248.body.getD .skip
noncomputable def F248:FI:=⟨34,[],b248⟩
theorem fn248:C.fn 248 = some F248:=by kernel_rfl
noncomputable def l248_0:XC :=
 (.seq (.ops [oM 25 (.binI .lss 3 (.tmp 24) (.tmp 23) (.t 24) (.t 23))])
 (.seq (.cond (.t 25)
  .skip
  (.exit 0))
 (.seq (.block 1
  (.seq (.ops [oM 26 (.idxS 4 (.t 22) (.t 24)),
 oM 27 (.load true 4 (.t 26)),
 oM 9 (.alloc 39 [(.int .i64 0),(.int .i64 0),(.str []),(.slice .nil [])]),
 ⟨none,.store 4 (.t 9) (.t 27),none⟩])
  (.ops [oM 28 (.load false 1 (.t 5)),
 oM 29 (.load true 4 (.t 9)),
 oM 30 (.mv (.t 1)),
 oM 31 (.binI .add 3 (.tmp 30) (.const (.int .i64 1)) (.t 30) (.c (.int .i64 1))),
 oM 32 (.call (.t 28) [(.t 29),(.t 31)])])))
 (.ops [oM 33 (.binI .add 3 (.tmp 24) (.const (.int .i64 1)) (.t 24) (.c (.int .i64 1))),
 oM 24 (.mv (.t 33))]))))
noncomputable def x248:XC :=
 (.seq (.ops [oM 6 (.box 39 (.t 0))])
 (.seq (.ops [oM 10 (.load false 1 (.t 2)),
 oM 11 (.binI .add 3 (.tmp 10) (.const (.int .i64 1)) (.t 10) (.c (.int .i64 1))),
 ⟨none,.store 1 (.t 2) (.t 11),none⟩])
 (.seq (.ops [oM 12 (.load false 1 (.t 2)),
 oM 13 (.binI .leq 3 (.tmp 12) (.const (.int .i64 4000)) (.t 12) (.c (.int .i64 4000))),
 oM 14 (.call (.c (.func (.func 123) [] [])) [(.t 13),(.c (.int .i64 2))])])
 (.seq (.ops [oM 15 (.load false 1 (.t 3)),
 oM 16 (.mv (.t 1)),
 oM 17 (.gen ⟨some 17,.call { callee:=.builtin .max,args:=#[(.tmp 15),(.tmp 16)],argTypes:=#[3,3] },0,"",#[],none⟩),
 ⟨none,.store 1 (.t 3) (.t 17),none⟩])
 (.seq (.ops [oM 18 (.mv (.t 1)),
 oM 19 (.binI .leq 3 (.tmp 18) (.const (.int .i64 100)) (.t 18) (.c (.int .i64 100)))])
 (.cond (.t 19)
  (.seq (.ops [oM 20 (.load false 1 (.t 4)),
 oM 21 (.load true 4 (.t 6)),
 oM 22 (.call (.t 20) [(.t 21)]),
 oM 23 (.lenS (.t 22)),
 oM 24 (.mv (.c (.int .i64 0)))])
  (.block 0
   (.loop l248_0)))
  .skip))))))
theorem code248:codeOf C 248 F248 = x248:=by kernel_rfl
theorem ok248 {Q:Ctx} (hK:K Q):FnOk Q 248 F248 x248 false:=hK.ok_ ⟨fn248,code248,by kernel_rfl,by kernel_rfl⟩
noncomputable def b249:Code:=Tryz.f249.body.getD .skip
noncomputable def F249:FI:=⟨10,[.tmp 4],b249⟩
theorem fn249:C.fn 249 = some F249:=by kernel_rfl
noncomputable def x249:XC :=
 (.seq (.ops [oM 2 (.box 39 (.t 0)),
 oM 3 (.box 165 (.t 1)),
 oM 4 (.mv (.c (.int .i64 0)))])
 (.seq (.ops [oM 5 (.alloc 147 [.nilfn])])
 (.seq (.ops [oM 6 (.mkFunc 307 [] [(.t 3),(.t 5)]),
 ⟨none,.store 1 (.t 5) (.t 6),none⟩])
 (.seq (.ops [oM 7 (.load false 1 (.t 5)),
 oM 8 (.load true 4 (.t 2)),
 oM 9 (.call (.t 7) [(.t 8),(.c (.int .i64 1))]),
 oM 4 (.mv (.t 9))])
 .ret))))
theorem code249:codeOf C 249 F249 = x249:=by kernel_rfl
theorem ok249 {Q:Ctx} (hK:K Q):FnOk Q 249 F249 x249 false:=hK.ok_ ⟨fn249,code249,by kernel_rfl,by kernel_rfl⟩
noncomputable def b257:Code:=Tryz.f257.body.getD .skip
noncomputable def F257:FI:=⟨14,[.cell 4 3,.cell 5 3],b257⟩
theorem fn257:C.fn 257 = some F257:=by kernel_rfl
noncomputable def d257_0:Array Oper:=(drawsOf b257).getD 0 #[]
theorem kd257_0:drawCr d257_0 = [none,none,(some ([none,(some none),none,none],[true,false,false,false])),(some ([none,none,none,none],[true,true,true,false]))]:=by kernel_rfl
noncomputable def x257:XC :=
 (.seq (.ops [oM 2 (.box 25 (.t 0)),
 oM 3 (.box 228 (.t 1)),
 oM 4 (.alloc 3 [(.int .i64 0)]),
 oM 5 (.alloc 3 [(.int .i64 0)])])
 (.seq (.seq (.ops [oM 6 (.mkFunc 319 [] [(.t 4),(.t 5),(.t 3),(.t 2)]),
 oM 7 (.call (.c (.func (.func 120) [] [])) [(.t 6)]),
 oM 8 (.binI .neq 30 (.tmp 7) (.const (.int .i64 0)) (.t 7) (.c (.int .i64 0)))])
 (.cond (.t 8)
  (.ops [oM 9 (.load true 2 (.t 2)),
 oM 10 (.load false 1 (.t 3)),
 oM 11 (.call (.c (.func (.func 321) [] [])) [(.t 9),(.t 10)]),
 ⟨none,.store 1 (.t 5) (.t 11),none⟩])
  .skip))
 (.seq (.draw d257_0 [oM 12 (.load false 1 (.t 4)),
 oM 13 (.load false 1 (.t 5)),
 ⟨none,.store 1 (.t 4) (.t 12),none⟩,
 ⟨none,.store 1 (.t 5) (.t 13),none⟩])
 .ret)))
theorem code257:codeOf C 257 F257 = x257:=by kernel_rfl
theorem ok257 {Q:Ctx} (hK:K Q):FnOk Q 257 F257 x257 false:=hK.ok_ ⟨fn257,code257,by kernel_rfl,by kernel_rfl⟩
noncomputable def b258:Code:=Tryz.f258.body.getD .skip
noncomputable def F258:FI:=⟨19,[.tmp 4],b258⟩
theorem fn258:C.fn 258 = some F258:=by kernel_rfl
noncomputable def l258_0:XC :=
 (.seq (.ops [oM 9 (.binI .lss 3 (.tmp 8) (.tmp 7) (.t 8) (.t 7))])
 (.seq (.cond (.t 9)
  .skip
  (.exit 0))
 (.seq (.block 1
  (.seq (.ops [oM 10 (.mv (.t 8)),
 oM 5 (.mv (.t 10))])
  (.seq (.ops [oM 11 (.mv (.t 1)),
 oM 12 (.mv (.t 0)),
 oM 13 (.mv (.t 5)),
 oM 14 (.idxS 1 (.t 12) (.t 13)),
 oM 15 (.load false 1 (.t 14)),
 oM 16 (.binS .eql 9 (.tmp 11) (.tmp 15) (.t 11) (.t 15))])
  (.cond (.t 16)
   (.seq (.ops [oM 17 (.mv (.t 5)),
 oM 4 (.mv (.t 17))])
   .ret)
   .skip))))
 (.ops [oM 18 (.binI .add 3 (.tmp 8) (.const (.int .i64 1)) (.t 8) (.c (.int .i64 1))),
 oM 8 (.mv (.t 18))]))))
noncomputable def x258:XC :=
 (.seq (.ops [oM 4 (.mv (.c (.int .i64 0)))])
 (.seq (.seq (.ops [oM 6 (.mv (.t 0)),
 oM 7 (.lenS (.t 6)),
 oM 8 (.mv (.c (.int .i64 0)))])
 (.block 0
  (.loop l258_0)))
 (.seq (.ops [oM 4 (.mv (.c (.int .i64 (-1))))])
 .ret)))
theorem code258:codeOf C 258 F258 = x258:=by kernel_rfl
theorem ok258 {Q:Ctx} (hK:K Q):FnOk Q 258 F258 x258 false:=hK.ok_ ⟨fn258,code258,by kernel_rfl,by kernel_rfl⟩
noncomputable def b295:Code:=Tryz.f295.body.getD .skip
noncomputable def F295:FI:=⟨18,[.cell 2 301,.cell 3 3,.cell 4 30],b295⟩
theorem fn295:C.fn 295 = some F295:=by kernel_rfl
noncomputable def q295_0:Code × Code:=(rangesOf b295).getD 0 (.skip,.skip)
noncomputable def x295:XC :=
 (.seq (.ops [oM 2 (.alloc 301 [(.slice .nil [])]),
 oM 3 (.alloc 3 [(.int .i64 0)]),
 oM 4 (.alloc 30 [(.int .i64 0)])])
 (.seq (.seq (.ops [oM 6 (.mv (.t 0)),
 oM 7 (.lenStr (.t 6)),
 oM 8 (.binI .gtr 3 (.tmp 7) (.const (.int .i64 20000)) (.t 7) (.c (.int .i64 20000)))])
 (.cond (.t 8)
  (.seq (.ops [⟨none,.store 1 (.t 2) (.c (.slice .nil [])),none⟩,
 ⟨none,.store 1 (.t 3) (.c (.int .i64 0)),none⟩,
 ⟨none,.store 1 (.t 4) (.c (.int .i64 2)),none⟩])
  .ret)
  .skip))
 (.seq (.ops [oM 9 (.mkFunc 336 [] [(.t 2),(.t 3),(.t 4)]),
 ⟨none,.gen ⟨none,.defer { callee:=.value (.tmp 9),args:=#[],argTypes:=#[] },0,"",#[],none⟩,none⟩])
 (.seq (.seq (.ops [oM 10 (.mv (.t 0)),
 oM 11 (.call (.c (.func (.func 337) [] [])) [(.t 10)])])
 (.block 0
  (.rangeFunc (.t 11) [12] (q295_0).1 (q295_0).2)))
 (.seq (.ops [oM 17 (.load false 1 (.t 2)),
 ⟨none,.store 1 (.t 2) (.t 17),none⟩,
 ⟨none,.store 1 (.t 3) (.c (.int .i64 0)),none⟩,
 ⟨none,.store 1 (.t 4) (.c (.int .i64 0)),none⟩])
 .ret)))))
theorem code295:codeOf C 295 F295 = x295:=by kernel_rfl
theorem ok295 {Q:Ctx} (hK:K Q):FnOk Q 295 F295 x295 false:=hK.ok_ ⟨fn295,code295,by kernel_rfl,by kernel_rfl⟩
noncomputable def xa295_0:XC :=
 (.ops [oM 5 (.alloc 207 [(.int .i64 0),(.str []),(.int .i64 0)]),
 ⟨none,.store 3 (.t 5) (.t 12),none⟩])
theorem codea295_0:compC C (C.mu 295) (resolveC q295_0.1) = xa295_0:=by kernel_rfl
noncomputable def xb295_0:XC :=
 (.block 1
  (.ops [oM 13 (.load false 1 (.t 2)),
 oM 14 (.load true 3 (.t 5)),
 oM 15 (.buildS false 207 3 1 [(0,(.t 14))]),
 oM 16 (.app false 207 T207 (.t 13) (.t 15)),
 ⟨none,.store 1 (.t 2) (.t 16),none⟩]))
theorem codeb295_0:compC C (C.mu 295) (resolveC q295_0.2) = xb295_0:=by kernel_rfl
noncomputable def b296:Code:=Tryz.f296.body.getD .skip
noncomputable def F296:FI:=⟨9,[.tmp 2],b296⟩
theorem fn296:C.fn 296 = some F296:=by kernel_rfl
noncomputable def x296:XC :=
 (.seq (.ops [oM 2 (.mv (.c (.bool false)))])
 (.seq (.ops [oM 3 (.mv (.t 0)),
 oM 4 (.binI .geq 5 (.tmp 3) (.const (.int .u8 65)) (.t 3) (.c (.int .u8 65))),
 oM 5 (.mv (.t 4)),
 ⟨some 6,.mv (.t 0),(some (some 5,true))⟩,
 ⟨some 7,.binI .leq 5 (.tmp 6) (.const (.int .u8 90)) (.t 6) (.c (.int .u8 90)),(some (some 5,true))⟩,
 oM 8 (.pick (.t 5) (.t 7) (.c (.bool false))),
 oM 2 (.mv (.t 8))])
 .ret))
theorem code296:codeOf C 296 F296 = x296:=by kernel_rfl
theorem ok296 {Q:Ctx} (hK:K Q):FnOk Q 296 F296 x296 false:=hK.ok_ ⟨fn296,code296,by kernel_rfl,by kernel_rfl⟩
noncomputable def b297:Code:=Tryz.f297.body.getD .skip
noncomputable def F297:FI:=⟨18,[.tmp 4],b297⟩
theorem fn297:C.fn 297 = some F297:=by kernel_rfl
noncomputable def l297_0:XC :=
 (.seq (.seq (.ops [oM 5 (.mv (.t 1)),
 oM 6 (.mv (.t 0)),
 oM 7 (.lenStr (.t 6)),
 oM 8 (.binI .lss 3 (.tmp 5) (.tmp 7) (.t 5) (.t 7)),
 oM 9 (.mv (.t 8)),
 ⟨some 10,.mv (.t 0),(some (some 9,true))⟩,
 ⟨some 11,.mv (.t 1),(some (some 9,true))⟩,
 ⟨some 12,.idxStr (.t 10) (.t 11),(some (some 9,true))⟩,
 ⟨some 13,.call (.c (.func (.func 302) [] [])) [(.t 12)],(some (some 9,true))⟩,
 oM 14 (.pick (.t 9) (.t 13) (.c (.bool false)))])
 (.cond (.t 14)
  .skip
  (.exit 0)))
 (.block 1
  (.ops [oM 15 (.mv (.t 1)),
 oM 16 (.binI .add 3 (.tmp 15) (.const (.int .i64 1)) (.t 15) (.c (.int .i64 1))),
 oM 1 (.mv (.t 16))])))
noncomputable def x297:XC :=
 (.seq (.ops [oM 4 (.mv (.c (.int .i64 0)))])
 (.seq (.block 0
  (.loop l297_0))
 (.seq (.ops [oM 17 (.mv (.t 1)),
 oM 4 (.mv (.t 17))])
 .ret)))
theorem code297:codeOf C 297 F297 = x297:=by kernel_rfl
theorem ok297 {Q:Ctx} (hK:K Q):FnOk Q 297 F297 x297 false:=hK.ok_ ⟨fn297,code297,by kernel_rfl,by kernel_rfl⟩
noncomputable def b298:Code:=Tryz.f298.body.getD .skip
noncomputable def F298:FI:=⟨9,[.tmp 2],b298⟩
theorem fn298:C.fn 298 = some F298:=by kernel_rfl
noncomputable def x298:XC :=
 (.seq (.ops [oM 2 (.mv (.c (.bool false)))])
 (.seq (.ops [oM 3 (.mv (.t 0)),
 oM 4 (.binI .geq 5 (.tmp 3) (.const (.int .u8 97)) (.t 3) (.c (.int .u8 97))),
 oM 5 (.mv (.t 4)),
 ⟨some 6,.mv (.t 0),(some (some 5,true))⟩,
 ⟨some 7,.binI .leq 5 (.tmp 6) (.const (.int .u8 122)) (.t 6) (.c (.int .u8 122)),(some (some 5,true))⟩,
 oM 8 (.pick (.t 5) (.t 7) (.c (.bool false))),
 oM 2 (.mv (.t 8))])
 .ret))
theorem code298:codeOf C 298 F298 = x298:=by kernel_rfl
theorem ok298 {Q:Ctx} (hK:K Q):FnOk Q 298 F298 x298 false:=hK.ok_ ⟨fn298,code298,by kernel_rfl,by kernel_rfl⟩
noncomputable def b299:Code:=Tryz.f299.body.getD .skip
noncomputable def F299:FI:=⟨25,[.tmp 6],b299⟩
theorem fn299:C.fn 299 = some F299:=by kernel_rfl
noncomputable def x299:XC :=
 (.seq (.ops [oM 6 (.mv (.c (.bool false)))])
 (.seq (.ops [oM 7 (.mv (.t 1)),
 oM 8 (.mv (.t 2)),
 oM 9 (.lenStr (.t 8)),
 oM 10 (.binI .add 3 (.tmp 7) (.tmp 9) (.t 7) (.t 9)),
 oM 11 (.mv (.t 0)),
 oM 12 (.lenStr (.t 11)),
 oM 13 (.binI .leq 3 (.tmp 10) (.tmp 12) (.t 10) (.t 12)),
 oM 14 (.mv (.t 13)),
 ⟨some 15,.mv (.t 0),(some (some 14,true))⟩,
 ⟨some 16,.mv (.t 1),(some (some 14,true))⟩,
 ⟨some 17,.mv (.t 1),(some (some 14,true))⟩,
 ⟨some 18,.mv (.t 2),(some (some 14,true))⟩,
 ⟨some 19,.lenStr (.t 18),(some (some 14,true))⟩,
 ⟨some 20,.binI .add 3 (.tmp 17) (.tmp 19) (.t 17) (.t 19),(some (some 14,true))⟩,
 ⟨some 21,.gen ⟨some 21,.slice 9 (.tmp 15) (some (.tmp 16)) (some (.tmp 20)) none,0,"",#[],none⟩,(some (some 14,true))⟩,
 ⟨some 22,.mv (.t 2),(some (some 14,true))⟩,
 ⟨some 23,.binS .eql 9 (.tmp 21) (.tmp 22) (.t 21) (.t 22),(some (some 14,true))⟩,
 oM 24 (.pick (.t 14) (.t 23) (.c (.bool false))),
 oM 6 (.mv (.t 24))])
 .ret))
theorem code299:codeOf C 299 F299 = x299:=by kernel_rfl
theorem ok299 {Q:Ctx} (hK:K Q):FnOk Q 299 F299 x299 false:=hK.ok_ ⟨fn299,code299,by kernel_rfl,by kernel_rfl⟩
noncomputable def b300:Code:=Tryz.f300.body.getD .skip
noncomputable def F300:FI:=⟨19,[.tmp 4],b300⟩
theorem fn300:C.fn 300 = some F300:=by kernel_rfl
noncomputable def l300_0:XC :=
 (.seq (.seq (.ops [oM 6 (.mv (.t 5)),
 oM 7 (.mv (.t 0)),
 oM 8 (.lenS (.t 7)),
 oM 9 (.binI .lss 3 (.tmp 6) (.tmp 8) (.t 6) (.t 8))])
 (.cond (.t 9)
  .skip
  (.exit 0)))
 (.seq (.block 1
  (.seq (.ops [oM 12 (.mv (.t 0)),
 oM 13 (.mv (.t 5)),
 oM 14 (.idxS 1 (.t 12) (.t 13)),
 oM 15 (.load false 1 (.t 14)),
 oM 16 (.mv (.t 1)),
 oM 17 (.binS .eql 9 (.tmp 15) (.tmp 16) (.t 15) (.t 16))])
  (.cond (.t 17)
   (.seq (.ops [oM 18 (.mv (.t 5)),
 oM 4 (.mv (.t 18))])
   .ret)
   .skip)))
 (.ops [oM 10 (.mv (.t 5)),
 oM 11 (.binI .add 3 (.tmp 10) (.const (.int .i64 1)) (.t 10) (.c (.int .i64 1))),
 oM 5 (.mv (.t 11))])))
noncomputable def x300:XC :=
 (.seq (.ops [oM 4 (.mv (.c (.int .i64 0)))])
 (.seq (.seq (.ops [oM 5 (.mv (.c (.int .i64 0)))])
 (.block 0
  (.loop l300_0)))
 (.seq (.ops [oM 4 (.mv (.c (.int .i64 (-1))))])
 .ret)))
theorem code300:codeOf C 300 F300 = x300:=by kernel_rfl
theorem ok300 {Q:Ctx} (hK:K Q):FnOk Q 300 F300 x300 false:=hK.ok_ ⟨fn300,code300,by kernel_rfl,by kernel_rfl⟩
noncomputable def b301:Code:=Tryz.f301.body.getD .skip
noncomputable def F301:FI:=⟨2,[.tmp 0],b301⟩
theorem fn301:C.fn 301 = some F301:=by kernel_rfl
noncomputable def x301:XC :=
 (.seq (.ops [oM 0 (.mv (.c (.slice .nil [])))])
 (.seq (.ops [oM 1 (.buildS false 9 1 17 [(0,(.c (.str [116,121,112,101]))),(1,(.c (.str [99,111,110,115,116]))),(2,(.c (.str [112,114,101,100]))),(3,(.c (.str [102,97,99,116]))),(4,(.c (.str [108,97,115,116,105,110,103]))),(5,(.c (.str [109,111,100,101]))),(6,(.c (.str [114,117,108,101]))),(7,(.c (.str [111,110,99,101]))),(8,(.c (.str [109,111,115,116]))),(9,(.c (.str [113,117,101,114,121]))),(10,(.c (.str [109,111,100,117,108,101]))),(11,(.c (.str [117,115,101]))),(12,(.c (.str [101,120,112,111,114,116]))),(13,(.c (.str [97,108,108]))),(14,(.c (.str [101,120]))),(15,(.c (.str [111,110,101]))),(16,(.c (.str [116,111,112])))]),
 oM 0 (.mv (.t 1))])
 .ret))
theorem code301:codeOf C 301 F301 = x301:=by kernel_rfl
theorem ok301 {Q:Ctx} (hK:K Q):FnOk Q 301 F301 x301 false:=hK.ok_ ⟨fn301,code301,by kernel_rfl,by kernel_rfl⟩
noncomputable def b302:Code:=Tryz.f302.body.getD .skip
noncomputable def F302:FI:=⟨25,[.tmp 2],b302⟩
theorem fn302:C.fn 302 = some F302:=by kernel_rfl
noncomputable def x302:XC :=
 (.seq (.ops [oM 2 (.mv (.c (.bool false)))])
 (.seq (.ops [oM 3 (.mv (.t 0)),
 oM 4 (.call (.c (.func (.func 298) [] [])) [(.t 3)]),
 oM 5 (.mv (.t 4)),
 ⟨some 6,.mv (.t 0),(some (some 5,false))⟩,
 ⟨some 7,.call (.c (.func (.func 296) [] [])) [(.t 6)],(some (some 5,false))⟩,
 oM 8 (.pick (.t 5) (.c (.bool true)) (.t 7)),
 oM 9 (.mv (.t 8)),
 ⟨some 10,.mv (.t 0),(some (some 9,false))⟩,
 ⟨some 11,.binI .geq 5 (.tmp 10) (.const (.int .u8 48)) (.t 10) (.c (.int .u8 48)),(some (some 9,false))⟩,
 ⟨some 12,.mv (.t 11),(some (some 9,false))⟩,
 ⟨some 13,.mv (.t 0),(some (some 12,true))⟩,
 ⟨some 14,.binI .leq 5 (.tmp 13) (.const (.int .u8 57)) (.t 13) (.c (.int .u8 57)),(some (some 12,true))⟩,
 ⟨some 15,.pick (.t 12) (.t 14) (.c (.bool false)),(some (some 9,false))⟩,
 oM 16 (.pick (.t 9) (.c (.bool true)) (.t 15)),
 oM 17 (.mv (.t 16)),
 ⟨some 18,.mv (.t 0),(some (some 17,false))⟩,
 ⟨some 19,.binI .eql 5 (.tmp 18) (.const (.int .u8 95)) (.t 18) (.c (.int .u8 95)),(some (some 17,false))⟩,
 oM 20 (.pick (.t 17) (.c (.bool true)) (.t 19)),
 oM 21 (.mv (.t 20)),
 ⟨some 22,.mv (.t 0),(some (some 21,false))⟩,
 ⟨some 23,.binI .eql 5 (.tmp 22) (.const (.int .u8 39)) (.t 22) (.c (.int .u8 39)),(some (some 21,false))⟩,
 oM 24 (.pick (.t 21) (.c (.bool true)) (.t 23)),
 oM 2 (.mv (.t 24))])
 .ret))
theorem code302:codeOf C 302 F302 = x302:=by kernel_rfl
theorem ok302 {Q:Ctx} (hK:K Q):FnOk Q 302 F302 x302 false:=hK.ok_ ⟨fn302,code302,by kernel_rfl,by kernel_rfl⟩
noncomputable def b303:Code:=Tryz.f303.body.getD .skip
noncomputable def F303:FI:=⟨2,[.tmp 0],b303⟩
theorem fn303:C.fn 303 = some F303:=by kernel_rfl
noncomputable def x303:XC :=
 (.seq (.ops [oM 0 (.mv (.c (.slice .nil [])))])
 (.seq (.ops [oM 1 (.buildS false 9 1 17 [(0,(.c (.str [45,111]))),(1,(.c (.str [111,45]))),(2,(.c (.str [61,62]))),(3,(.c (.str [60,61]))),(4,(.c (.str [45,62]))),(5,(.c (.str [42]))),(6,(.c (.str [38]))),(7,(.c (.str [43]))),(8,(.c (.str [33]))),(9,(.c (.str [123]))),(10,(.c (.str [125]))),(11,(.c (.str [40]))),(12,(.c (.str [41]))),(13,(.c (.str [46]))),(14,(.c (.str [44]))),(15,(.c (.str [58]))),(16,(.c (.str [92])))]),
 oM 0 (.mv (.t 1))])
 .ret))
theorem code303:codeOf C 303 F303 = x303:=by kernel_rfl
theorem ok303 {Q:Ctx} (hK:K Q):FnOk Q 303 F303 x303 false:=hK.ok_ ⟨fn303,code303,by kernel_rfl,by kernel_rfl⟩
noncomputable def b306:Code:=Tryz.f306.body.getD .skip
noncomputable def F306:FI:=⟨6,[.tmp 2],b306⟩
theorem fn306:C.fn 306 = some F306:=by kernel_rfl
noncomputable def x306:XC :=
 (.seq (.ops [oM 2 (.mv (.c (.bool false)))])
 (.seq (.ops [oM 3 (.mv (.t 0)),
 oM 4 (.mv (.t 0)),
 oM 5 (.binI .neq 3 (.tmp 3) (.tmp 4) (.t 3) (.t 4)),
 oM 2 (.mv (.t 5))])
 .ret))
theorem code306:codeOf C 306 F306 = x306:=by kernel_rfl
theorem ok306 {Q:Ctx} (hK:K Q):FnOk Q 306 F306 x306 false:=hK.ok_ ⟨fn306,code306,by kernel_rfl,by kernel_rfl⟩
noncomputable def b307:Code:=Tryz.f307.body.getD .skip
noncomputable def F307:FI:=⟨30,[.tmp 6],b307⟩
theorem fn307:C.fn 307 = some F307:=by kernel_rfl
noncomputable def l307_0:XC :=
 (.seq (.ops [oM 18 (.binI .lss 3 (.tmp 17) (.tmp 16) (.t 17) (.t 16))])
 (.seq (.cond (.t 18)
  .skip
  (.exit 0))
 (.seq (.block 1
  (.seq (.ops [oM 19 (.idxS 4 (.t 15) (.t 17)),
 oM 20 (.load true 4 (.t 19)),
 oM 9 (.alloc 39 [(.int .i64 0),(.int .i64 0),(.str []),(.slice .nil [])]),
 ⟨none,.store 4 (.t 9) (.t 20),none⟩])
  (.ops [oM 21 (.mv (.t 7)),
 oM 22 (.load false 1 (.t 3)),
 oM 23 (.load true 4 (.t 9)),
 oM 24 (.mv (.t 1)),
 oM 25 (.binI .add 3 (.tmp 24) (.const (.int .i64 1)) (.t 24) (.c (.int .i64 1))),
 oM 26 (.call (.t 22) [(.t 23),(.t 25)]),
 oM 27 (.gen ⟨some 27,.call { callee:=.builtin .max,args:=#[(.tmp 21),(.tmp 26)],argTypes:=#[3,3] },0,"",#[],none⟩),
 oM 7 (.mv (.t 27))])))
 (.ops [oM 28 (.binI .add 3 (.tmp 17) (.const (.int .i64 1)) (.t 17) (.c (.int .i64 1))),
 oM 17 (.mv (.t 28))]))))
noncomputable def x307:XC :=
 (.seq (.ops [oM 4 (.box 39 (.t 0)),
 oM 6 (.mv (.c (.int .i64 0)))])
 (.seq (.ops [oM 10 (.mv (.t 1)),
 oM 7 (.mv (.t 10))])
 (.seq (.seq (.ops [oM 11 (.mv (.t 1)),
 oM 12 (.binI .leq 3 (.tmp 11) (.const (.int .i64 100)) (.t 11) (.c (.int .i64 100)))])
 (.cond (.t 12)
  (.seq (.ops [oM 13 (.load false 1 (.t 2)),
 oM 14 (.load true 4 (.t 4)),
 oM 15 (.call (.t 13) [(.t 14)]),
 oM 16 (.lenS (.t 15)),
 oM 17 (.mv (.c (.int .i64 0)))])
  (.block 0
   (.loop l307_0)))
  .skip))
 (.seq (.ops [oM 29 (.mv (.t 7)),
 oM 6 (.mv (.t 29))])
 .ret))))
theorem code307:codeOf C 307 F307 = x307:=by kernel_rfl
theorem ok307 {Q:Ctx} (hK:K Q):FnOk Q 307 F307 x307 false:=hK.ok_ ⟨fn307,code307,by kernel_rfl,by kernel_rfl⟩
noncomputable def b319:Code:=Tryz.f319.body.getD .skip
noncomputable def F319:FI:=⟨9,[],b319⟩
theorem fn319:C.fn 319 = some F319:=by kernel_rfl
noncomputable def x319:XC :=
 (.seq (.ops [oM 4 (.alloc 319 [.nilfn])])
 (.seq (.ops [oM 5 (.mkFunc 320 [] [(.t 0),(.t 1),(.t 2),(.t 4)]),
 ⟨none,.store 1 (.t 4) (.t 5),none⟩])
 (.ops [oM 6 (.load false 1 (.t 4)),
 oM 7 (.load true 2 (.t 3)),
 oM 8 (.call (.t 6) [(.t 7),(.c (.int .i64 1))])])))
theorem code319:codeOf C 319 F319 = x319:=by kernel_rfl
theorem ok319 {Q:Ctx} (hK:K Q):FnOk Q 319 F319 x319 false:=hK.ok_ ⟨fn319,code319,by kernel_rfl,by kernel_rfl⟩
noncomputable def b320:Code:=Tryz.f320.body.getD .skip
noncomputable def F320:FI:=⟨34,[],b320⟩
theorem fn320:C.fn 320 = some F320:=by kernel_rfl
noncomputable def l320_0:XC :=
 (.seq (.ops [oM 25 (.binI .lss 3 (.tmp 24) (.tmp 23) (.t 24) (.t 23))])
 (.seq (.cond (.t 25)
  .skip
  (.exit 0))
 (.seq (.block 1
  (.seq (.ops [oM 26 (.idxS 2 (.t 22) (.t 24)),
 oM 27 (.load true 2 (.t 26)),
 oM 9 (.alloc 25 [(.str []),(.slice .nil [])]),
 ⟨none,.store 2 (.t 9) (.t 27),none⟩])
  (.ops [oM 28 (.load false 1 (.t 5)),
 oM 29 (.load true 2 (.t 9)),
 oM 30 (.mv (.t 1)),
 oM 31 (.binI .add 3 (.tmp 30) (.const (.int .i64 1)) (.t 30) (.c (.int .i64 1))),
 oM 32 (.call (.t 28) [(.t 29),(.t 31)])])))
 (.ops [oM 33 (.binI .add 3 (.tmp 24) (.const (.int .i64 1)) (.t 24) (.c (.int .i64 1))),
 oM 24 (.mv (.t 33))]))))
noncomputable def x320:XC :=
 (.seq (.ops [oM 6 (.box 25 (.t 0))])
 (.seq (.ops [oM 10 (.load false 1 (.t 2)),
 oM 11 (.binI .add 3 (.tmp 10) (.const (.int .i64 1)) (.t 10) (.c (.int .i64 1))),
 ⟨none,.store 1 (.t 2) (.t 11),none⟩])
 (.seq (.ops [oM 12 (.load false 1 (.t 2)),
 oM 13 (.binI .leq 3 (.tmp 12) (.const (.int .i64 4000)) (.t 12) (.c (.int .i64 4000))),
 oM 14 (.call (.c (.func (.func 123) [] [])) [(.t 13),(.c (.int .i64 2))])])
 (.seq (.ops [oM 15 (.load false 1 (.t 3)),
 oM 16 (.mv (.t 1)),
 oM 17 (.gen ⟨some 17,.call { callee:=.builtin .max,args:=#[(.tmp 15),(.tmp 16)],argTypes:=#[3,3] },0,"",#[],none⟩),
 ⟨none,.store 1 (.t 3) (.t 17),none⟩])
 (.seq (.ops [oM 18 (.mv (.t 1)),
 oM 19 (.binI .leq 3 (.tmp 18) (.const (.int .i64 100)) (.t 18) (.c (.int .i64 100)))])
 (.cond (.t 19)
  (.seq (.ops [oM 20 (.load false 1 (.t 4)),
 oM 21 (.load true 2 (.t 6)),
 oM 22 (.call (.t 20) [(.t 21)]),
 oM 23 (.lenS (.t 22)),
 oM 24 (.mv (.c (.int .i64 0)))])
  (.block 0
   (.loop l320_0)))
  .skip))))))
theorem code320:codeOf C 320 F320 = x320:=by kernel_rfl
theorem ok320 {Q:Ctx} (hK:K Q):FnOk Q 320 F320 x320 false:=hK.ok_ ⟨fn320,code320,by kernel_rfl,by kernel_rfl⟩
noncomputable def b321:Code:=Tryz.f321.body.getD .skip
noncomputable def F321:FI:=⟨10,[.tmp 4],b321⟩
theorem fn321:C.fn 321 = some F321:=by kernel_rfl
noncomputable def x321:XC :=
 (.seq (.ops [oM 2 (.box 25 (.t 0)),
 oM 3 (.box 228 (.t 1)),
 oM 4 (.mv (.c (.int .i64 0)))])
 (.seq (.ops [oM 5 (.alloc 172 [.nilfn])])
 (.seq (.ops [oM 6 (.mkFunc 350 [] [(.t 3),(.t 5)]),
 ⟨none,.store 1 (.t 5) (.t 6),none⟩])
 (.seq (.ops [oM 7 (.load false 1 (.t 5)),
 oM 8 (.load true 2 (.t 2)),
 oM 9 (.call (.t 7) [(.t 8),(.c (.int .i64 1))]),
 oM 4 (.mv (.t 9))])
 .ret))))
theorem code321:codeOf C 321 F321 = x321:=by kernel_rfl
theorem ok321 {Q:Ctx} (hK:K Q):FnOk Q 321 F321 x321 false:=hK.ok_ ⟨fn321,code321,by kernel_rfl,by kernel_rfl⟩
noncomputable def b336:Code:=Tryz.f336.body.getD .skip
noncomputable def F336:FI:=⟨21,[],b336⟩
theorem fn336:C.fn 336 = some F336:=by kernel_rfl
noncomputable def d336_0:Array Oper:=(drawsOf b336).getD 0 #[]
theorem kd336_0:drawCr d336_0 = [none,none,none,none,(some ([none,(some none),none,(some none),none,none,none],[false,false,false,false,false,false,false])),(some ([none,none,none,(some none),none,none,none],[true,true,false,false,true,false,false])),(some ([none,none,none,none,none,none,none],[true,true,true,true,true,true,false]))]:=by kernel_rfl
noncomputable def x336:XC :=
 (.seq (.ops [oM 6 (.gen ⟨some 6,.call { callee:=.builtin .recover,args:=#[],argTypes:=#[] },0,"",#[],none⟩),
 oM 3 (.mv (.t 6))])
 (.seq (.ops [oM 7 (.mv (.t 3)),
 oM 8 (.gen ⟨some 8,.binOp .neq 20 (.tmp 7) (.const .nilIface) 20,0,"",#[],none⟩)])
 (.cond (.t 8)
  (.seq (.ops [oM 10 (.mv (.t 3)),
 oM 11 (.gen ⟨some 11,.typeAssert (.tmp 10) 20 333 true,0,"",#[],none⟩),
 oM 9 (.mv (.t 11)),
 oM 12 (.extract (.t 9) 0),
 oM 13 (.extract (.t 9) 1),
 oM 4 (.alloc 333 [(.int .i64 0),(.int .i64 0)]),
 ⟨none,.store 2 (.t 4) (.t 12),none⟩,
 oM 5 (.mv (.t 13))])
  (.seq (.seq (.ops [oM 14 (.mv (.t 5)),
 oM 15 (.un .not (.t 14))])
  (.cond (.t 15)
   (.ops [oM 16 (.mv (.t 3)),
 ⟨none,.gen ⟨none,.panic (.tmp 16),0,"",#[],none⟩,none⟩])
   .skip))
  (.draw d336_0 [oM 17 (.fieldAddr 0 (.t 4)),
 oM 18 (.load false 1 (.t 17)),
 oM 19 (.fieldAddr 1 (.t 4)),
 oM 20 (.load false 1 (.t 19)),
 ⟨none,.store 1 (.t 0) (.c (.slice .nil [])),none⟩,
 ⟨none,.store 1 (.t 1) (.t 18),none⟩,
 ⟨none,.store 1 (.t 2) (.t 20),none⟩])))
  .skip)))
theorem code336:codeOf C 336 F336 = x336:=by kernel_rfl
theorem ok336 {Q:Ctx} (hK:K Q):FnOk Q 336 F336 x336 false:=hK.ok_ ⟨fn336,code336,by kernel_rfl,by kernel_rfl⟩
noncomputable def b337:Code:=Tryz.f337.body.getD .skip
noncomputable def F337:FI:=⟨4,[.tmp 2],b337⟩
theorem fn337:C.fn 337 = some F337:=by kernel_rfl
noncomputable def x337:XC :=
 (.seq (.ops [oM 1 (.box 9 (.t 0)),
 oM 2 (.mv (.c .nilfn))])
 (.seq (.ops [oM 3 (.mkFunc 355 [] [(.t 1)]),
 oM 2 (.mv (.t 3))])
 .ret))
theorem code337:codeOf C 337 F337 = x337:=by kernel_rfl
theorem ok337 {Q:Ctx} (hK:K Q):FnOk Q 337 F337 x337 false:=hK.ok_ ⟨fn337,code337,by kernel_rfl,by kernel_rfl⟩
noncomputable def b350:Code:=Tryz.f350.body.getD .skip
noncomputable def F350:FI:=⟨30,[.tmp 6],b350⟩
theorem fn350:C.fn 350 = some F350:=by kernel_rfl
noncomputable def l350_0:XC :=
 (.seq (.ops [oM 18 (.binI .lss 3 (.tmp 17) (.tmp 16) (.t 17) (.t 16))])
 (.seq (.cond (.t 18)
  .skip
  (.exit 0))
 (.seq (.block 1
  (.seq (.ops [oM 19 (.idxS 2 (.t 15) (.t 17)),
 oM 20 (.load true 2 (.t 19)),
 oM 9 (.alloc 25 [(.str []),(.slice .nil [])]),
 ⟨none,.store 2 (.t 9) (.t 20),none⟩])
  (.ops [oM 21 (.mv (.t 7)),
 oM 22 (.load false 1 (.t 3)),
 oM 23 (.load true 2 (.t 9)),
 oM 24 (.mv (.t 1)),
 oM 25 (.binI .add 3 (.tmp 24) (.const (.int .i64 1)) (.t 24) (.c (.int .i64 1))),
 oM 26 (.call (.t 22) [(.t 23),(.t 25)]),
 oM 27 (.gen ⟨some 27,.call { callee:=.builtin .max,args:=#[(.tmp 21),(.tmp 26)],argTypes:=#[3,3] },0,"",#[],none⟩),
 oM 7 (.mv (.t 27))])))
 (.ops [oM 28 (.binI .add 3 (.tmp 17) (.const (.int .i64 1)) (.t 17) (.c (.int .i64 1))),
 oM 17 (.mv (.t 28))]))))
noncomputable def x350:XC :=
 (.seq (.ops [oM 4 (.box 25 (.t 0)),
 oM 6 (.mv (.c (.int .i64 0)))])
 (.seq (.ops [oM 10 (.mv (.t 1)),
 oM 7 (.mv (.t 10))])
 (.seq (.seq (.ops [oM 11 (.mv (.t 1)),
 oM 12 (.binI .leq 3 (.tmp 11) (.const (.int .i64 100)) (.t 11) (.c (.int .i64 100)))])
 (.cond (.t 12)
  (.seq (.ops [oM 13 (.load false 1 (.t 2)),
 oM 14 (.load true 2 (.t 4)),
 oM 15 (.call (.t 13) [(.t 14)]),
 oM 16 (.lenS (.t 15)),
 oM 17 (.mv (.c (.int .i64 0)))])
  (.block 0
   (.loop l350_0)))
  .skip))
 (.seq (.ops [oM 29 (.mv (.t 7)),
 oM 6 (.mv (.t 29))])
 .ret))))
theorem code350:codeOf C 350 F350 = x350:=by kernel_rfl
theorem ok350 {Q:Ctx} (hK:K Q):FnOk Q 350 F350 x350 false:=hK.ok_ ⟨fn350,code350,by kernel_rfl,by kernel_rfl⟩
noncomputable def b355:Code:=Tryz.f355.body.getD .skip
noncomputable def F355:FI:=⟨62,[],b355⟩
theorem fn355:C.fn 355 = some F355:=by kernel_rfl
noncomputable def l355_0:XC :=
 (.seq (.seq (.ops [oM 9 (.mv (.t 4)),
 oM 10 (.load false 1 (.t 1)),
 oM 11 (.lenStr (.t 10)),
 oM 12 (.binI .lss 3 (.tmp 9) (.tmp 11) (.t 9) (.t 11))])
 (.cond (.t 12)
  .skip
  (.exit 0)))
 (.block 1
  (.seq (.ops [oM 14 (.load false 1 (.t 1)),
 oM 15 (.mv (.t 4)),
 oM 16 (.call (.c (.func (.func 357) [] [])) [(.t 14),(.t 15)]),
 oM 13 (.mv (.t 16)),
 oM 17 (.extract (.t 13) 0),
 oM 18 (.extract (.t 13) 1),
 oM 5 (.alloc 207 [(.int .i64 0),(.str []),(.int .i64 0)]),
 ⟨none,.store 3 (.t 5) (.t 17),none⟩,
 oM 6 (.mv (.t 18))])
  (.seq (.block 2
   (.seq (.ops [oM 20 (.mv (.t 6)),
 oM 21 (.un .not (.t 20)),
 oM 19 (.mv (.t 21))])
   (.cond (.t 19)
    (.ops [oM 22 (.mv (.t 4)),
 oM 23 (.build [(.int .i64 0),(.int .i64 0)] [(0,1),(1,1)] [(0,(.t 22)),(1,(.c (.int .i64 10)))]),
 oM 24 (.gen ⟨some 24,.makeInterface 333 (.tmp 23),0,"",#[],none⟩),
 ⟨none,.gen ⟨none,.panic (.tmp 24),0,"",#[],none⟩,none⟩])
    (.seq (.ops [oM 26 (.mv (.t 3)),
 oM 27 (.binI .eql 3 (.tmp 26) (.const (.int .i64 6000)) (.t 26) (.c (.int .i64 6000))),
 oM 25 (.mv (.t 27))])
    (.cond (.t 25)
     (.ops [oM 28 (.mv (.t 4)),
 oM 29 (.build [(.int .i64 0),(.int .i64 0)] [(0,1),(1,1)] [(0,(.t 28)),(1,(.c (.int .i64 2)))]),
 oM 30 (.gen ⟨some 30,.makeInterface 333 (.tmp 29),0,"",#[],none⟩),
 ⟨none,.gen ⟨none,.panic (.tmp 30),0,"",#[],none⟩,none⟩])
     (.seq (.ops [oM 32 (.fieldAddr 0 (.t 5)),
 oM 33 (.load false 1 (.t 32)),
 oM 34 (.binI .eql 3 (.tmp 33) (.const (.int .i64 1)) (.t 33) (.c (.int .i64 1))),
 oM 35 (.mv (.t 34)),
 ⟨some 36,.fieldAddr 0 (.t 5),(some (some 35,false))⟩,
 ⟨some 37,.load false 1 (.t 36),(some (some 35,false))⟩,
 ⟨some 38,.binI .eql 3 (.tmp 37) (.const (.int .i64 2)) (.t 37) (.c (.int .i64 2)),(some (some 35,false))⟩,
 oM 39 (.pick (.t 35) (.c (.bool true)) (.t 38)),
 oM 40 (.mv (.t 39)),
 ⟨some 41,.fieldAddr 1 (.t 5),(some (some 40,true))⟩,
 ⟨some 42,.load false 1 (.t 41),(some (some 40,true))⟩,
 ⟨some 43,.lenStr (.t 42),(some (some 40,true))⟩,
 ⟨some 44,.binI .gtr 3 (.tmp 43) (.const (.int .i64 40)) (.t 43) (.c (.int .i64 40)),(some (some 40,true))⟩,
 oM 45 (.pick (.t 40) (.t 44) (.c (.bool false))),
 oM 31 (.mv (.t 45))])
     (.cond (.t 31)
      (.ops [oM 46 (.mv (.t 4)),
 oM 47 (.build [(.int .i64 0),(.int .i64 0)] [(0,1),(1,1)] [(0,(.t 46)),(1,(.c (.int .i64 11)))]),
 oM 48 (.gen ⟨some 48,.makeInterface 333 (.tmp 47),0,"",#[],none⟩),
 ⟨none,.gen ⟨none,.panic (.tmp 48),0,"",#[],none⟩,none⟩])
      .skip)))))))
  (.seq (.ops [oM 49 (.mv (.t 3)),
 oM 50 (.binI .add 3 (.tmp 49) (.const (.int .i64 1)) (.t 49) (.c (.int .i64 1))),
 oM 3 (.mv (.t 50))])
  (.seq (.seq (.ops [oM 51 (.mv (.t 0)),
 oM 52 (.load true 3 (.t 5)),
 oM 53 (.call (.t 51) [(.t 52)]),
 oM 54 (.un .not (.t 53))])
  (.cond (.t 54)
   .ret
   .skip))
  (.ops [oM 55 (.load false 1 (.t 1)),
 oM 56 (.mv (.t 4)),
 oM 57 (.fieldAddr 1 (.t 5)),
 oM 58 (.load false 1 (.t 57)),
 oM 59 (.lenStr (.t 58)),
 oM 60 (.binI .add 3 (.tmp 56) (.tmp 59) (.t 56) (.t 59)),
 oM 61 (.call (.c (.func (.func 356) [] [])) [(.t 55),(.t 60)]),
 oM 4 (.mv (.t 61))])))))))
noncomputable def x355:XC :=
 (.seq (.ops [oM 3 (.mv (.c (.int .i64 0)))])
 (.seq (.ops [oM 7 (.load false 1 (.t 1)),
 oM 8 (.call (.c (.func (.func 356) [] [])) [(.t 7),(.c (.int .i64 0))]),
 oM 4 (.mv (.t 8))])
 (.block 0
  (.loop l355_0))))
theorem code355:codeOf C 355 F355 = x355:=by kernel_rfl
theorem ok355 {Q:Ctx} (hK:K Q):FnOk Q 355 F355 x355 false:=hK.ok_ ⟨fn355,code355,by kernel_rfl,by kernel_rfl⟩
noncomputable def b356:Code:=Tryz.f356.body.getD .skip
noncomputable def F356:FI:=⟨34,[.tmp 4],b356⟩
theorem fn356:C.fn 356 = some F356:=by kernel_rfl
noncomputable def l356_0:XC :=
 (.seq (.seq (.ops [oM 6 (.mv (.t 1)),
 oM 7 (.mv (.t 0)),
 oM 8 (.lenStr (.t 7)),
 oM 9 (.binI .lss 3 (.tmp 6) (.tmp 8) (.t 6) (.t 8))])
 (.cond (.t 9)
  .skip
  (.exit 0)))
 (.block 1
  (.seq (.ops [oM 10 (.mv (.t 0)),
 oM 11 (.mv (.t 1)),
 oM 12 (.idxStr (.t 10) (.t 11))])
  (.block 2
   (.seq (.seq (.ops [oM 15 (.binI .eql 5 (.tmp 12) (.const (.int .u8 32)) (.t 12) (.c (.int .u8 32))),
 oM 14 (.mv (.t 15))])
   (.cond (.t 14)
    .skip
    (.seq (.ops [oM 16 (.binI .eql 5 (.tmp 12) (.const (.int .u8 9)) (.t 12) (.c (.int .u8 9))),
 oM 14 (.mv (.t 16))])
    (.cond (.t 14)
     .skip
     (.ops [oM 17 (.binI .eql 5 (.tmp 12) (.const (.int .u8 10)) (.t 12) (.c (.int .u8 10))),
 oM 14 (.mv (.t 17))])))))
   (.cond (.t 14)
    (.ops [oM 18 (.mv (.t 1)),
 oM 19 (.binI .add 3 (.tmp 18) (.const (.int .i64 1)) (.t 18) (.c (.int .i64 1))),
 oM 1 (.mv (.t 19))])
    (.seq (.ops [oM 21 (.binI .eql 5 (.tmp 12) (.const (.int .u8 37)) (.t 12) (.c (.int .u8 37))),
 oM 20 (.mv (.t 21))])
    (.cond (.t 20)
     (.seq (.ops [oM 22 (.mv (.t 0)),
 oM 23 (.mv (.t 1)),
 oM 24 (.gen ⟨some 24,.slice 9 (.tmp 22) (some (.tmp 23)) none none,0,"",#[],none⟩),
 oM 25 (.call (.c (.func (.func 374) [] [])) [(.t 24),(.c (.int .u8 10))]),
 oM 5 (.mv (.t 25))])
     (.seq (.ops [oM 26 (.mv (.t 5)),
 oM 27 (.binI .geq 3 (.tmp 26) (.const (.int .i64 0)) (.t 26) (.c (.int .i64 0)))])
     (.cond (.t 27)
      (.ops [oM 28 (.mv (.t 1)),
 oM 29 (.mv (.t 5)),
 oM 30 (.binI .add 3 (.tmp 28) (.tmp 29) (.t 28) (.t 29)),
 oM 1 (.mv (.t 30))])
      (.ops [oM 31 (.mv (.t 0)),
 oM 32 (.lenStr (.t 31)),
 oM 1 (.mv (.t 32))]))))
     (.seq (.ops [oM 13 (.mv (.t 1)),
 oM 4 (.mv (.t 13))])
     .ret)))))))))
noncomputable def x356:XC :=
 (.seq (.ops [oM 4 (.mv (.c (.int .i64 0)))])
 (.seq (.block 0
  (.loop l356_0))
 (.seq (.ops [oM 33 (.mv (.t 1)),
 oM 4 (.mv (.t 33))])
 .ret)))
theorem code356:codeOf C 356 F356 = x356:=by kernel_rfl
theorem ok356 {Q:Ctx} (hK:K Q):FnOk Q 356 F356 x356 false:=hK.ok_ ⟨fn356,code356,by kernel_rfl,by kernel_rfl⟩
noncomputable def b357:Code:=Tryz.f357.body.getD .skip
noncomputable def F357:FI:=⟨126,[.cell 4 207,.tmp 5],b357⟩
theorem fn357:C.fn 357 = some F357:=by kernel_rfl
noncomputable def d357_0:Array Oper:=(drawsOf b357).getD 0 #[]
theorem kd357_0:drawCr d357_0 = [(some ([none,(some none),none,(some (some [false,true,true,false,false])),none],[false,false,false,false,false])),none,none,none,(some ([none,none,none,none,none],[true,true,true,true,false]))]:=by kernel_rfl
noncomputable def x357:XC :=
 (.seq (.ops [oM 3 (.box 3 (.t 1)),
 oM 4 (.alloc 207 [(.int .i64 0),(.str []),(.int .i64 0)]),
 oM 5 (.mv (.c (.bool false)))])
 (.seq (.ops [oM 12 (.mv (.t 0)),
 oM 13 (.load false 1 (.t 3)),
 oM 14 (.gen ⟨some 14,.slice 9 (.tmp 12) (some (.tmp 13)) none none,0,"",#[],none⟩),
 oM 6 (.alloc 9 [(.str [])]),
 ⟨none,.store 1 (.t 6) (.t 14),none⟩])
 (.seq (.ops [oM 15 (.call (.c (.func (.func 375) [] [])) [(.c (.str [97,98,99,100,101,102,103,104,105,106,107,108,109,110,111,112,113,114,115,116,117,118,119,120,121,122,65,66,67,68,69,70,71,72,73,74,75,76,77,78,79,80,81,82,83,84,85,86,87,88,89,90,48,49,50,51,52,53,54,55,56,57,95,39]))]),
 oM 7 (.alloc 369 T369.zero),
 ⟨none,.store 256 (.t 7) (.t 15),none⟩])
 (.seq (.ops [oM 16 (.mkFunc 376 [] [(.t 6),(.t 7)]),
 oM 8 (.mv (.t 16))])
 (.seq (.ops [oM 17 (.mkFunc 377 [] [(.t 6),(.t 3)]),
 oM 9 (.mv (.t 17))])
 (.seq (.seq (.ops [oM 18 (.load false 1 (.t 6)),
 oM 19 (.idxStr (.t 18) (.c (.int .i64 0))),
 oM 10 (.mv (.t 19))])
 (.block 0
  (.seq (.ops [oM 21 (.mv (.t 10)),
 oM 22 (.call (.c (.func (.func 378) [] [])) [(.t 21)]),
 oM 20 (.mv (.t 22))])
  (.cond (.t 20)
   (.seq (.ops [oM 23 (.mv (.t 8)),
 oM 24 (.call (.t 23) [(.c (.int .i64 0))]),
 oM 11 (.mv (.t 24))])
   (.seq (.seq (.ops [oM 25 (.mv (.t 11)),
 oM 26 (.binI .add 3 (.tmp 25) (.const (.int .i64 1)) (.t 25) (.c (.int .i64 1))),
 oM 27 (.load false 1 (.t 6)),
 oM 28 (.lenStr (.t 27)),
 oM 29 (.binI .lss 3 (.tmp 26) (.tmp 28) (.t 26) (.t 28)),
 oM 30 (.mv (.t 29)),
 ⟨some 31,.load false 1 (.t 6),(some (some 30,true))⟩,
 ⟨some 32,.mv (.t 11),(some (some 30,true))⟩,
 ⟨some 33,.idxStr (.t 31) (.t 32),(some (some 30,true))⟩,
 ⟨some 34,.binI .eql 5 (.tmp 33) (.const (.int .u8 64)) (.t 33) (.c (.int .u8 64)),(some (some 30,true))⟩,
 oM 35 (.pick (.t 30) (.t 34) (.c (.bool false))),
 oM 36 (.mv (.t 35)),
 ⟨some 37,.load false 1 (.t 6),(some (some 36,true))⟩,
 ⟨some 38,.mv (.t 11),(some (some 36,true))⟩,
 ⟨some 39,.binI .add 3 (.tmp 38) (.const (.int .i64 1)) (.t 38) (.c (.int .i64 1)),(some (some 36,true))⟩,
 ⟨some 40,.idxStr (.t 37) (.t 39),(some (some 36,true))⟩,
 ⟨some 41,.call (.c (.func (.func 378) [] [])) [(.t 40)],(some (some 36,true))⟩,
 oM 42 (.pick (.t 36) (.t 41) (.c (.bool false)))])
   (.cond (.t 42)
    (.ops [oM 43 (.mv (.t 8)),
 oM 44 (.mv (.t 11)),
 oM 45 (.binI .add 3 (.tmp 44) (.const (.int .i64 1)) (.t 44) (.c (.int .i64 1))),
 oM 46 (.call (.t 43) [(.t 45)]),
 oM 11 (.mv (.t 46))])
    .skip))
   (.seq (.seq (.ops [oM 47 (.load false 1 (.t 6)),
 oM 48 (.mv (.t 11)),
 oM 49 (.gen ⟨some 49,.slice 9 (.tmp 47) none (some (.tmp 48)) none,0,"",#[],none⟩),
 oM 50 (.binS .eql 9 (.tmp 49) (.const (.string ⟨#[111]⟩)) (.t 49) (.c (.str [111]))),
 oM 51 (.mv (.t 50)),
 ⟨some 52,.load false 1 (.t 6),(some (some 51,true))⟩,
 ⟨some 53,.lenStr (.t 52),(some (some 51,true))⟩,
 ⟨some 54,.binI .gtr 3 (.tmp 53) (.const (.int .i64 1)) (.t 53) (.c (.int .i64 1)),(some (some 51,true))⟩,
 oM 55 (.pick (.t 51) (.t 54) (.c (.bool false))),
 oM 56 (.mv (.t 55)),
 ⟨some 57,.load false 1 (.t 6),(some (some 56,true))⟩,
 ⟨some 58,.idxStr (.t 57) (.c (.int .i64 1)),(some (some 56,true))⟩,
 ⟨some 59,.binI .eql 5 (.tmp 58) (.const (.int .u8 45)) (.t 58) (.c (.int .u8 45)),(some (some 56,true))⟩,
 oM 60 (.pick (.t 56) (.t 59) (.c (.bool false)))])
   (.cond (.t 60)
    (.seq (.ops [oM 61 (.mv (.t 9)),
 oM 62 (.call (.t 61) [(.c (.int .i64 3)),(.c (.int .i64 2))]),
 oM 63 (.extract (.t 62) 0),
 oM 64 (.extract (.t 62) 1),
 ⟨none,.store 3 (.t 4) (.t 63),none⟩,
 oM 5 (.mv (.t 64))])
    .ret)
    .skip))
   (.seq (.seq (.draw d357_0 [oM 65 (.call (.c (.func (.func 379) [] [])) []),
 oM 66 (.load false 1 (.t 6)),
 oM 67 (.mv (.t 11)),
 oM 68 (.gen ⟨some 68,.slice 9 (.tmp 66) none (some (.tmp 67)) none,0,"",#[],none⟩),
 oM 69 (.call (.c (.func (.func 196) [] [])) [(.t 65),(.t 68)])])
   (.cond (.t 69)
    (.seq (.ops [oM 70 (.mv (.t 9)),
 oM 71 (.mv (.t 11)),
 oM 72 (.call (.t 70) [(.c (.int .i64 4)),(.t 71)]),
 oM 73 (.extract (.t 72) 0),
 oM 74 (.extract (.t 72) 1),
 ⟨none,.store 3 (.t 4) (.t 73),none⟩,
 oM 5 (.mv (.t 74))])
    .ret)
    .skip))
   (.seq (.ops [oM 75 (.mv (.t 9)),
 oM 76 (.mv (.t 11)),
 oM 77 (.call (.t 75) [(.c (.int .i64 1)),(.t 76)]),
 oM 78 (.extract (.t 77) 0),
 oM 79 (.extract (.t 77) 1),
 ⟨none,.store 3 (.t 4) (.t 78),none⟩,
 oM 5 (.mv (.t 79))])
   .ret)))))
   (.seq (.ops [oM 81 (.mv (.t 10)),
 oM 82 (.call (.c (.func (.func 380) [] [])) [(.t 81)]),
 oM 80 (.mv (.t 82))])
   (.cond (.t 80)
    (.seq (.ops [oM 83 (.mv (.t 9)),
 oM 84 (.mv (.t 8)),
 oM 85 (.call (.t 84) [(.c (.int .i64 0))]),
 oM 86 (.call (.t 83) [(.c (.int .i64 2)),(.t 85)]),
 oM 87 (.extract (.t 86) 0),
 oM 88 (.extract (.t 86) 1),
 ⟨none,.store 3 (.t 4) (.t 87),none⟩,
 oM 5 (.mv (.t 88))])
    .ret)
    (.seq (.seq (.ops [oM 90 (.load false 1 (.t 6)),
 oM 91 (.call (.c (.func (.func 381) [] [])) [(.t 90),(.c (.str [45,62]))]),
 oM 89 (.mv (.t 91))])
    (.cond (.t 89)
     .skip
     (.seq (.ops [oM 92 (.load false 1 (.t 6)),
 oM 93 (.call (.c (.func (.func 381) [] [])) [(.t 92),(.c (.str [61,62]))]),
 oM 89 (.mv (.t 93))])
     (.cond (.t 89)
      .skip
      (.ops [oM 94 (.load false 1 (.t 6)),
 oM 95 (.call (.c (.func (.func 381) [] [])) [(.t 94),(.c (.str [60,61]))]),
 oM 89 (.mv (.t 95))])))))
    (.cond (.t 89)
     (.seq (.ops [oM 96 (.mv (.t 9)),
 oM 97 (.call (.t 96) [(.c (.int .i64 3)),(.c (.int .i64 2))]),
 oM 98 (.extract (.t 97) 0),
 oM 99 (.extract (.t 97) 1),
 ⟨none,.store 3 (.t 4) (.t 98),none⟩,
 oM 5 (.mv (.t 99))])
     .ret)
     (.seq (.ops [oM 101 (.load false 1 (.t 6)),
 oM 102 (.call (.c (.func (.func 381) [] [])) [(.t 101),(.c (.str [45,111]))]),
 oM 100 (.mv (.t 102))])
     (.cond (.t 100)
      (.seq (.ops [oM 103 (.load false 1 (.t 6)),
 oM 104 (.lenStr (.t 103)),
 oM 105 (.binI .eql 3 (.tmp 104) (.const (.int .i64 2)) (.t 104) (.c (.int .i64 2))),
 oM 106 (.mv (.t 105)),
 ⟨some 107,.load false 1 (.t 6),(some (some 106,false))⟩,
 ⟨some 108,.idxStr (.t 107) (.c (.int .i64 2)),(some (some 106,false))⟩,
 ⟨some 109,.gen ⟨some 109,.indexAddr 369 (.tmp 7) (.tmp 108),0,"",#[],none⟩,(some (some 106,false))⟩,
 ⟨some 110,.load false 1 (.t 109),(some (some 106,false))⟩,
 ⟨some 111,.un .not (.t 110),(some (some 106,false))⟩,
 oM 112 (.pick (.t 106) (.c (.bool true)) (.t 111))])
      (.cond (.t 112)
       (.seq (.ops [oM 113 (.mv (.t 9)),
 oM 114 (.call (.t 113) [(.c (.int .i64 3)),(.c (.int .i64 2))]),
 oM 115 (.extract (.t 114) 0),
 oM 116 (.extract (.t 114) 1),
 ⟨none,.store 3 (.t 4) (.t 115),none⟩,
 oM 5 (.mv (.t 116))])
       .ret)
       .skip))
      (.seq (.ops [oM 118 (.mv (.t 10)),
 oM 119 (.call (.c (.func (.func 374) [] [])) [(.c (.str [42,38,43,33,123,125,40,41,46,44,58,92])),(.t 118)]),
 oM 120 (.binI .geq 3 (.tmp 119) (.const (.int .i64 0)) (.t 119) (.c (.int .i64 0))),
 oM 117 (.mv (.t 120))])
      (.cond (.t 117)
       (.seq (.ops [oM 121 (.mv (.t 9)),
 oM 122 (.call (.t 121) [(.c (.int .i64 3)),(.c (.int .i64 1))]),
 oM 123 (.extract (.t 122) 0),
 oM 124 (.extract (.t 122) 1),
 ⟨none,.store 3 (.t 4) (.t 123),none⟩,
 oM 5 (.mv (.t 124))])
       .ret)
       .skip))))))))))))
 (.seq (.ops [oM 125 (.build [(.int .i64 0),(.str []),(.int .i64 0)] [(0,1),(1,1),(2,1)] []),
 ⟨none,.store 3 (.t 4) (.t 125),none⟩,
 oM 5 (.mv (.c (.bool false)))])
 .ret)))))))
theorem code357:codeOf C 357 F357 = x357:=by kernel_rfl
theorem ok357 {Q:Ctx} (hK:K Q):FnOk Q 357 F357 x357 false:=hK.ok_ ⟨fn357,code357,by kernel_rfl,by kernel_rfl⟩
noncomputable def b374:Code:=Tryz.f374.body.getD .skip
noncomputable def F374:FI:=⟨8,[.tmp 4],b374⟩
theorem fn374:C.fn 374 = some F374:=by kernel_rfl
noncomputable def x374:XC :=
 (.seq (.ops [oM 4 (.mv (.c (.int .i64 0)))])
 (.seq (.ops [oM 5 (.mv (.t 0)),
 oM 6 (.mv (.t 1)),
 oM 7 (.call (.c (.func (.func 393) [] [])) [(.t 5),(.t 6)]),
 oM 4 (.mv (.t 7))])
 .ret))
theorem code374:codeOf C 374 F374 = x374:=by kernel_rfl
theorem ok374 {Q:Ctx} (hK:K Q):FnOk Q 374 F374 x374 false:=hK.ok_ ⟨fn374,code374,by kernel_rfl,by kernel_rfl⟩
noncomputable def b375:Code:=Tryz.f375.body.getD .skip
noncomputable def F375:FI:=⟨15,[.cell 2 369],b375⟩
theorem fn375:C.fn 375 = some F375:=by kernel_rfl
noncomputable def l375_0:XC :=
 (.seq (.ops [oM 7 (.binI .lss 3 (.tmp 6) (.tmp 5) (.t 6) (.t 5))])
 (.seq (.cond (.t 7)
  .skip
  (.exit 0))
 (.seq (.block 1
  (.seq (.ops [oM 8 (.mv (.t 6)),
 oM 3 (.mv (.t 8))])
  (.ops [oM 9 (.mv (.t 0)),
 oM 10 (.mv (.t 3)),
 oM 11 (.idxStr (.t 9) (.t 10)),
 oM 12 (.gen ⟨some 12,.indexAddr 369 (.tmp 2) (.tmp 11),0,"",#[],none⟩),
 ⟨none,.store 1 (.t 12) (.c (.bool true)),none⟩])))
 (.ops [oM 13 (.binI .add 3 (.tmp 6) (.const (.int .i64 1)) (.t 6) (.c (.int .i64 1))),
 oM 6 (.mv (.t 13))]))))
noncomputable def x375:XC :=
 (.seq (.ops [oM 2 (.alloc 369 T369.zero)])
 (.seq (.seq (.ops [oM 4 (.mv (.t 0)),
 oM 5 (.lenStr (.t 4)),
 oM 6 (.mv (.c (.int .i64 0)))])
 (.block 0
  (.loop l375_0)))
 (.seq (.ops [oM 14 (.load true 256 (.t 2)),
 ⟨none,.store 256 (.t 2) (.t 14),none⟩])
 .ret)))
theorem code375:codeOf C 375 F375 = x375:=by kernel_rfl
theorem ok375 {Q:Ctx} (hK:K Q):FnOk Q 375 F375 x375 false:=hK.ok_ ⟨fn375,code375,by kernel_rfl,by kernel_rfl⟩
noncomputable def b376:Code:=Tryz.f376.body.getD .skip
noncomputable def F376:FI:=⟨19,[.tmp 4],b376⟩
theorem fn376:C.fn 376 = some F376:=by kernel_rfl
noncomputable def l376_0:XC :=
 (.seq (.seq (.ops [oM 5 (.mv (.t 0)),
 oM 6 (.load false 1 (.t 1)),
 oM 7 (.lenStr (.t 6)),
 oM 8 (.binI .lss 3 (.tmp 5) (.tmp 7) (.t 5) (.t 7)),
 oM 9 (.mv (.t 8)),
 ⟨some 10,.load false 1 (.t 1),(some (some 9,true))⟩,
 ⟨some 11,.mv (.t 0),(some (some 9,true))⟩,
 ⟨some 12,.idxStr (.t 10) (.t 11),(some (some 9,true))⟩,
 ⟨some 13,.gen ⟨some 13,.indexAddr 369 (.tmp 2) (.tmp 12),0,"",#[],none⟩,(some (some 9,true))⟩,
 ⟨some 14,.load false 1 (.t 13),(some (some 9,true))⟩,
 oM 15 (.pick (.t 9) (.t 14) (.c (.bool false)))])
 (.cond (.t 15)
  .skip
  (.exit 0)))
 (.block 1
  (.ops [oM 16 (.mv (.t 0)),
 oM 17 (.binI .add 3 (.tmp 16) (.const (.int .i64 1)) (.t 16) (.c (.int .i64 1))),
 oM 0 (.mv (.t 17))])))
noncomputable def x376:XC :=
 (.seq (.ops [oM 4 (.mv (.c (.int .i64 0)))])
 (.seq (.block 0
  (.loop l376_0))
 (.seq (.ops [oM 18 (.mv (.t 0)),
 oM 4 (.mv (.t 18))])
 .ret)))
theorem code376:codeOf C 376 F376 = x376:=by kernel_rfl
theorem ok376 {Q:Ctx} (hK:K Q):FnOk Q 376 F376 x376 false:=hK.ok_ ⟨fn376,code376,by kernel_rfl,by kernel_rfl⟩
noncomputable def b377:Code:=Tryz.f377.body.getD .skip
noncomputable def F377:FI:=⟨14,[.cell 6 207,.tmp 7],b377⟩
theorem fn377:C.fn 377 = some F377:=by kernel_rfl
noncomputable def d377_0:Array Oper:=(drawsOf b377).getD 0 #[]
theorem kd377_0:drawCr d377_0 = [none,none,none,none,none,none,(some ([none,none,none,none,none,none,none,none],[true,true,true,true,true,true,false,false])),none]:=by kernel_rfl
noncomputable def x377:XC :=
 (.seq (.ops [oM 6 (.alloc 207 [(.int .i64 0),(.str []),(.int .i64 0)]),
 oM 7 (.mv (.c (.bool false)))])
 (.seq (.draw d377_0 [oM 8 (.mv (.t 0)),
 oM 9 (.load false 1 (.t 2)),
 oM 10 (.mv (.t 1)),
 oM 11 (.gen ⟨some 11,.slice 9 (.tmp 9) none (some (.tmp 10)) none,0,"",#[],none⟩),
 oM 12 (.load false 1 (.t 3)),
 oM 13 (.build [(.int .i64 0),(.str []),(.int .i64 0)] [(0,1),(1,1),(2,1)] [(0,(.t 8)),(1,(.t 11)),(2,(.t 12))]),
 ⟨none,.store 3 (.t 6) (.t 13),none⟩,
 oM 7 (.mv (.c (.bool true)))])
 .ret))
theorem code377:codeOf C 377 F377 = x377:=by kernel_rfl
theorem ok377 {Q:Ctx} (hK:K Q):FnOk Q 377 F377 x377 false:=hK.ok_ ⟨fn377,code377,by kernel_rfl,by kernel_rfl⟩
noncomputable def b378:Code:=Tryz.f378.body.getD .skip
noncomputable def F378:FI:=⟨9,[.tmp 2],b378⟩
theorem fn378:C.fn 378 = some F378:=by kernel_rfl
noncomputable def x378:XC :=
 (.seq (.ops [oM 2 (.mv (.c (.bool false)))])
 (.seq (.ops [oM 3 (.mv (.t 0)),
 oM 4 (.binI .geq 5 (.tmp 3) (.const (.int .u8 97)) (.t 3) (.c (.int .u8 97))),
 oM 5 (.mv (.t 4)),
 ⟨some 6,.mv (.t 0),(some (some 5,true))⟩,
 ⟨some 7,.binI .leq 5 (.tmp 6) (.const (.int .u8 122)) (.t 6) (.c (.int .u8 122)),(some (some 5,true))⟩,
 oM 8 (.pick (.t 5) (.t 7) (.c (.bool false))),
 oM 2 (.mv (.t 8))])
 .ret))
theorem code378:codeOf C 378 F378 = x378:=by kernel_rfl
theorem ok378 {Q:Ctx} (hK:K Q):FnOk Q 378 F378 x378 false:=hK.ok_ ⟨fn378,code378,by kernel_rfl,by kernel_rfl⟩
noncomputable def b379:Code:=Tryz.f379.body.getD .skip
noncomputable def F379:FI:=⟨2,[.tmp 0],b379⟩
theorem fn379:C.fn 379 = some F379:=by kernel_rfl
noncomputable def x379:XC :=
 (.seq (.ops [oM 0 (.mv (.c (.slice .nil [])))])
 (.seq (.ops [oM 1 (.buildS false 9 1 17 [(0,(.c (.str [116,121,112,101]))),(1,(.c (.str [99,111,110,115,116]))),(2,(.c (.str [112,114,101,100]))),(3,(.c (.str [102,97,99,116]))),(4,(.c (.str [108,97,115,116,105,110,103]))),(5,(.c (.str [109,111,100,101]))),(6,(.c (.str [114,117,108,101]))),(7,(.c (.str [111,110,99,101]))),(8,(.c (.str [109,111,115,116]))),(9,(.c (.str [113,117,101,114,121]))),(10,(.c (.str [109,111,100,117,108,101]))),(11,(.c (.str [117,115,101]))),(12,(.c (.str [101,120,112,111,114,116]))),(13,(.c (.str [97,108,108]))),(14,(.c (.str [101,120]))),(15,(.c (.str [111,110,101]))),(16,(.c (.str [116,111,112])))]),
 oM 0 (.mv (.t 1))])
 .ret))
theorem code379:codeOf C 379 F379 = x379:=by kernel_rfl
theorem ok379 {Q:Ctx} (hK:K Q):FnOk Q 379 F379 x379 false:=hK.ok_ ⟨fn379,code379,by kernel_rfl,by kernel_rfl⟩
noncomputable def b380:Code:=Tryz.f380.body.getD .skip
noncomputable def F380:FI:=⟨9,[.tmp 2],b380⟩
theorem fn380:C.fn 380 = some F380:=by kernel_rfl
noncomputable def x380:XC :=
 (.seq (.ops [oM 2 (.mv (.c (.bool false)))])
 (.seq (.ops [oM 3 (.mv (.t 0)),
 oM 4 (.binI .geq 5 (.tmp 3) (.const (.int .u8 65)) (.t 3) (.c (.int .u8 65))),
 oM 5 (.mv (.t 4)),
 ⟨some 6,.mv (.t 0),(some (some 5,true))⟩,
 ⟨some 7,.binI .leq 5 (.tmp 6) (.const (.int .u8 90)) (.t 6) (.c (.int .u8 90)),(some (some 5,true))⟩,
 oM 8 (.pick (.t 5) (.t 7) (.c (.bool false))),
 oM 2 (.mv (.t 8))])
 .ret))
theorem code380:codeOf C 380 F380 = x380:=by kernel_rfl
theorem ok380 {Q:Ctx} (hK:K Q):FnOk Q 380 F380 x380 false:=hK.ok_ ⟨fn380,code380,by kernel_rfl,by kernel_rfl⟩
noncomputable def b381:Code:=Tryz.f381.body.getD .skip
noncomputable def F381:FI:=⟨8,[.tmp 4],b381⟩
theorem fn381:C.fn 381 = some F381:=by kernel_rfl
noncomputable def x381:XC :=
 (.seq (.ops [oM 4 (.mv (.c (.bool false)))])
 (.seq (.ops [oM 5 (.mv (.t 0)),
 oM 6 (.mv (.t 1)),
 oM 7 (.call (.c (.func (.func 394) [] [])) [(.t 5),(.t 6)]),
 oM 4 (.mv (.t 7))])
 .ret))
theorem code381:codeOf C 381 F381 = x381:=by kernel_rfl
theorem ok381 {Q:Ctx} (hK:K Q):FnOk Q 381 F381 x381 false:=hK.ok_ ⟨fn381,code381,by kernel_rfl,by kernel_rfl⟩
noncomputable def b393:Code:=Tryz.f393.body.getD .skip
noncomputable def F393:FI:=⟨8,[.tmp 4],b393⟩
theorem fn393:C.fn 393 = some F393:=by kernel_rfl
noncomputable def x393:XC :=
 (.seq (.ops [oM 4 (.mv (.c (.int .i64 0)))])
 (.seq (.ops [oM 5 (.mv (.t 0)),
 oM 6 (.mv (.t 1)),
 oM 7 (.call (.c (.func (.func 399) [] [])) [(.t 5),(.t 6)]),
 oM 4 (.mv (.t 7))])
 .ret))
theorem code393:codeOf C 393 F393 = x393:=by kernel_rfl
theorem ok393 {Q:Ctx} (hK:K Q):FnOk Q 393 F393 x393 false:=hK.ok_ ⟨fn393,code393,by kernel_rfl,by kernel_rfl⟩
noncomputable def b394:Code:=Tryz.f394.body.getD .skip
noncomputable def F394:FI:=⟨18,[.tmp 4],b394⟩
theorem fn394:C.fn 394 = some F394:=by kernel_rfl
noncomputable def x394:XC :=
 (.seq (.ops [oM 4 (.mv (.c (.bool false)))])
 (.seq (.ops [oM 5 (.mv (.t 0)),
 oM 6 (.lenStr (.t 5)),
 oM 7 (.mv (.t 1)),
 oM 8 (.lenStr (.t 7)),
 oM 9 (.binI .geq 3 (.tmp 6) (.tmp 8) (.t 6) (.t 8)),
 oM 10 (.mv (.t 9)),
 ⟨some 11,.mv (.t 0),(some (some 10,true))⟩,
 ⟨some 12,.mv (.t 1),(some (some 10,true))⟩,
 ⟨some 13,.lenStr (.t 12),(some (some 10,true))⟩,
 ⟨some 14,.gen ⟨some 14,.slice 9 (.tmp 11) none (some (.tmp 13)) none,0,"",#[],none⟩,(some (some 10,true))⟩,
 ⟨some 15,.mv (.t 1),(some (some 10,true))⟩,
 ⟨some 16,.binS .eql 9 (.tmp 14) (.tmp 15) (.t 14) (.t 15),(some (some 10,true))⟩,
 oM 17 (.pick (.t 10) (.t 16) (.c (.bool false))),
 oM 4 (.mv (.t 17))])
 .ret))
theorem code394:codeOf C 394 F394 = x394:=by kernel_rfl
theorem ok394 {Q:Ctx} (hK:K Q):FnOk Q 394 F394 x394 false:=hK.ok_ ⟨fn394,code394,by kernel_rfl,by kernel_rfl⟩
end Go.Proofs.L06
