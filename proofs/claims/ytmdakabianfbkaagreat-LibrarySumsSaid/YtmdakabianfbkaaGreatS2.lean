/- The compiled code of the functions that the law LibrarySums calls. -/
import Derived.Test.YtmdakabianfbkaaGreatS1
set_option linter.unusedVariables false
set_option linter.unusedSimpArgs false
set_option linter.unusedSectionVars false
namespace Go.Proofs.P31
open Go Go.AE
noncomputable def b3 : Code := Tryz.f3.body.getD .skip
noncomputable def F3 : FI := ⟨198, [.tmp 6], b3⟩
theorem fn3 : C.fn 3 = some F3 := by kernel_rfl
noncomputable def d3_0 : Array Oper := (drawsOf b3).getD 0 #[]
theorem kd3_0 : drawCr d3_0 = [none, none, none, none, none, none, none, none, none, none, none, (some ([none, none, none, none, none, none, none, none, none, none, none, none, none, none], [true, true, true, true, true, true, true, true, true, true, true, false, false, false])), none, none] := by kernel_rfl
noncomputable def l3_0 : XC :=
  (.seq (.seq (.ops [oM 92 (.mv (.t 18)),
 oM 93 (.mv (.t 16)),
 oM 94 (.lenS (.t 93)),
 oM 95 (.binI .lss 3 (.tmp 92) (.tmp 94) (.t 92) (.t 94)),
 oM 96 (.mv (.t 95)),
 ⟨some 97, .mv (.t 17), (some (some 96, true))⟩,
 ⟨some 98, .binI .eql 29 (.tmp 97) (.const (.int .i64 0)) (.t 97) (.c (.int .i64 0)), (some (some 96, true))⟩,
 oM 99 (.pick (.t 96) (.t 98) (.c (.bool false)))])
  (.cond (.t 99)
    .skip
    (.exit 0)))
  (.seq (.block 1
    (.seq (.ops [oM 103 (.mv (.t 16)),
 oM 104 (.mv (.t 18)),
 oM 105 (.idxS 1 (.t 103) (.t 104)),
 oM 106 (.load false 1 (.t 105)),
 oM 107 (.call (.c (.func (.func 7) [] [])) [(.c (.str [97, 112, 112, 101, 110, 100, 64, 108, 105, 115, 116])), (.t 106)]),
 oM 102 (.mv (.t 107)),
 oM 108 (.extract (.t 102) 0),
 oM 109 (.extract (.t 102) 1),
 oM 19 (.alloc 24 [(.bool false), (.int .i64 0), (.slice .nil [])]),
 ⟨none, .store 3 (.t 19) (.t 108), none⟩,
 oM 20 (.mv (.t 109))])
    (.seq (.ops [oM 110 (.mv (.t 20)),
 oM 111 (.un .not (.t 110)),
 oM 112 (.mv (.t 111)),
 ⟨some 113, .fieldAddr 2 (.t 19), (some (some 112, false))⟩,
 ⟨some 114, .load false 1 (.t 113), (some (some 112, false))⟩,
 ⟨some 115, .mv (.t 2), (some (some 112, false))⟩,
 ⟨some 116, .call (.c (.func (.func 10) [] [])) [(.t 114), (.t 115)], (some (some 112, false))⟩,
 ⟨some 117, .un .not (.t 116), (some (some 112, false))⟩,
 oM 118 (.pick (.t 112) (.c (.bool true)) (.t 117))])
    (.cond (.t 118)
      (.seq (.ops [oM 6 (.mv (.c (.bool false)))])
      .ret)
      .skip))))
  (.ops [oM 100 (.mv (.t 18)),
 oM 101 (.binI .add 3 (.tmp 100) (.const (.int .i64 1)) (.t 100) (.c (.int .i64 1))),
 oM 18 (.mv (.t 101))])))
noncomputable def l3_1 : XC :=
  (.seq (.seq (.ops [oM 147 (.mv (.t 25)),
 oM 148 (.mv (.t 23)),
 oM 149 (.lenS (.t 148)),
 oM 150 (.binI .lss 3 (.tmp 147) (.tmp 149) (.t 147) (.t 149))])
  (.cond (.t 150)
    .skip
    (.exit 2)))
  (.seq (.block 3
    (.seq (.ops [oM 154 (.mv (.t 23)),
 oM 155 (.mv (.t 25)),
 oM 156 (.idxS 1 (.t 154) (.t 155)),
 oM 157 (.load false 1 (.t 156)),
 oM 158 (.call (.c (.func (.func 7) [] [])) [(.c (.str [115, 111, 114, 116, 64, 108, 105, 115, 116])), (.t 157)]),
 oM 153 (.mv (.t 158)),
 oM 159 (.extract (.t 153) 0),
 oM 160 (.extract (.t 153) 1),
 oM 26 (.alloc 24 [(.bool false), (.int .i64 0), (.slice .nil [])]),
 ⟨none, .store 3 (.t 26) (.t 159), none⟩,
 oM 27 (.mv (.t 160))])
    (.seq (.draw d3_0 [oM 161 (.mv (.t 27)),
 oM 162 (.un .not (.t 161)),
 oM 163 (.mv (.t 162)),
 ⟨some 164, .fieldAddr 2 (.t 26), (some (some 163, false))⟩,
 ⟨some 165, .load false 1 (.t 164), (some (some 163, false))⟩,
 ⟨some 166, .mv (.t 21), (some (some 163, false))⟩,
 ⟨some 167, .idxS 1 (.t 166) (.c (.int .i64 0)), (some (some 163, false))⟩,
 ⟨some 168, .load false 1 (.t 167), (some (some 163, false))⟩,
 ⟨some 169, .idxS 3 (.t 168) (.c (.int .i64 0)), (some (some 163, false))⟩,
 ⟨some 170, .fieldAddr 2 (.t 169), (some (some 163, false))⟩,
 ⟨some 171, .load false 1 (.t 170), (some (some 163, false))⟩,
 ⟨some 172, .call (.c (.func (.func 10) [] [])) [(.t 165), (.t 171)], (some (some 163, false))⟩,
 ⟨some 173, .un .not (.t 172), (some (some 163, false))⟩,
 oM 174 (.pick (.t 163) (.c (.bool true)) (.t 173))])
    (.cond (.t 174)
      (.seq (.ops [oM 6 (.mv (.c (.bool false)))])
      .ret)
      .skip))))
  (.ops [oM 151 (.mv (.t 25)),
 oM 152 (.binI .add 3 (.tmp 151) (.const (.int .i64 1)) (.t 151) (.c (.int .i64 1))),
 oM 25 (.mv (.t 152))])))
noncomputable def x3 : XC :=
  (.seq (.ops [oM 3 (.box 24 (.t 0)),
 oM 4 (.box 24 (.t 1)),
 oM 6 (.mv (.c (.bool false)))])
  (.seq (.ops [oM 30 (.call (.c (.func (.func 6) [] [])) []),
 oM 7 (.mv (.t 30))])
  (.seq (.ops [oM 32 (.load true 3 (.t 3)),
 oM 33 (.load true 3 (.t 4)),
 oM 34 (.buildS false 24 3 2 [(0, (.t 32)), (1, (.t 33))]),
 oM 35 (.call (.c (.func (.func 7) [] [])) [(.c (.str [112, 108, 117, 115, 64, 110, 97, 116])), (.t 34)]),
 oM 31 (.mv (.t 35)),
 oM 36 (.extract (.t 31) 0),
 oM 37 (.extract (.t 31) 1),
 oM 8 (.alloc 24 [(.bool false), (.int .i64 0), (.slice .nil [])]),
 ⟨none, .store 3 (.t 8) (.t 36), none⟩,
 oM 9 (.mv (.t 37))])
  (.seq (.ops [oM 39 (.load true 3 (.t 4)),
 oM 40 (.load true 3 (.t 3)),
 oM 41 (.buildS false 24 3 2 [(0, (.t 39)), (1, (.t 40))]),
 oM 42 (.call (.c (.func (.func 7) [] [])) [(.c (.str [112, 108, 117, 115, 64, 110, 97, 116])), (.t 41)]),
 oM 38 (.mv (.t 42)),
 oM 43 (.extract (.t 38) 0),
 oM 44 (.extract (.t 38) 1),
 oM 10 (.alloc 24 [(.bool false), (.int .i64 0), (.slice .nil [])]),
 ⟨none, .store 3 (.t 10) (.t 43), none⟩,
 oM 11 (.mv (.t 44))])
  (.seq (.ops [oM 46 (.load true 3 (.t 3)),
 oM 47 (.load true 3 (.t 4)),
 oM 48 (.buildS false 24 3 2 [(0, (.t 46)), (1, (.t 47))]),
 oM 49 (.call (.c (.func (.func 7) [] [])) [(.c (.str [116, 105, 109, 101, 115, 64, 110, 97, 116])), (.t 48)]),
 oM 45 (.mv (.t 49)),
 oM 50 (.extract (.t 45) 0),
 oM 51 (.extract (.t 45) 1),
 oM 12 (.alloc 24 [(.bool false), (.int .i64 0), (.slice .nil [])]),
 ⟨none, .store 3 (.t 12) (.t 50), none⟩,
 oM 13 (.mv (.t 51))])
  (.seq (.ops [oM 53 (.load true 3 (.t 4)),
 oM 54 (.load true 3 (.t 3)),
 oM 55 (.buildS false 24 3 2 [(0, (.t 53)), (1, (.t 54))]),
 oM 56 (.call (.c (.func (.func 7) [] [])) [(.c (.str [116, 105, 109, 101, 115, 64, 110, 97, 116])), (.t 55)]),
 oM 52 (.mv (.t 56)),
 oM 57 (.extract (.t 52) 0),
 oM 58 (.extract (.t 52) 1),
 oM 14 (.alloc 24 [(.bool false), (.int .i64 0), (.slice .nil [])]),
 ⟨none, .store 3 (.t 14) (.t 57), none⟩,
 oM 15 (.mv (.t 58))])
  (.seq (.seq (.ops [oM 59 (.mv (.t 7)),
 oM 60 (.un .not (.t 59)),
 oM 61 (.mv (.t 60)),
 ⟨some 62, .mv (.t 9), (some (some 61, false))⟩,
 ⟨some 63, .mv (.t 11), (some (some 61, false))⟩,
 ⟨some 64, .gen ⟨some 64, .binOp .neq 4 (.tmp 62) (.tmp 63) 4, 0, "", #[], none⟩, (some (some 61, false))⟩,
 oM 65 (.pick (.t 61) (.c (.bool true)) (.t 64)),
 oM 66 (.mv (.t 65)),
 ⟨some 67, .mv (.t 13), (some (some 66, false))⟩,
 ⟨some 68, .mv (.t 15), (some (some 66, false))⟩,
 ⟨some 69, .gen ⟨some 69, .binOp .neq 4 (.tmp 67) (.tmp 68) 4, 0, "", #[], none⟩, (some (some 66, false))⟩,
 oM 70 (.pick (.t 66) (.c (.bool true)) (.t 69)),
 oM 71 (.mv (.t 70)),
 ⟨some 72, .fieldAddr 1 (.t 8), (some (some 71, false))⟩,
 ⟨some 73, .load false 1 (.t 72), (some (some 71, false))⟩,
 ⟨some 74, .fieldAddr 1 (.t 10), (some (some 71, false))⟩,
 ⟨some 75, .load false 1 (.t 74), (some (some 71, false))⟩,
 ⟨some 76, .binI .neq 3 (.tmp 73) (.tmp 75) (.t 73) (.t 75), (some (some 71, false))⟩,
 oM 77 (.pick (.t 71) (.c (.bool true)) (.t 76)),
 oM 78 (.mv (.t 77)),
 ⟨some 79, .fieldAddr 1 (.t 12), (some (some 78, false))⟩,
 ⟨some 80, .load false 1 (.t 79), (some (some 78, false))⟩,
 ⟨some 81, .fieldAddr 1 (.t 14), (some (some 78, false))⟩,
 ⟨some 82, .load false 1 (.t 81), (some (some 78, false))⟩,
 ⟨some 83, .binI .neq 3 (.tmp 80) (.tmp 82) (.t 80) (.t 82), (some (some 78, false))⟩,
 oM 84 (.pick (.t 78) (.c (.bool true)) (.t 83))])
  (.cond (.t 84)
    (.seq (.ops [oM 6 (.mv (.c (.bool false)))])
    .ret)
    .skip))
  (.seq (.ops [oM 86 (.mv (.t 2)),
 oM 87 (.call (.c (.func (.func 9) [] [])) [(.t 86)]),
 oM 88 (.buildS false 24 3 1 [(0, (.t 87))]),
 oM 89 (.call (.c (.func (.func 8) [] [])) [(.c (.str [115, 112, 108, 105, 116, 64, 108, 105, 115, 116])), (.t 88)]),
 oM 85 (.mv (.t 89)),
 oM 90 (.extract (.t 85) 0),
 oM 91 (.extract (.t 85) 1),
 oM 16 (.mv (.t 90)),
 oM 17 (.mv (.t 91))])
  (.seq (.seq (.ops [oM 18 (.mv (.c (.int .i64 0)))])
  (.block 0
    (.loop l3_0)))
  (.seq (.ops [oM 120 (.mv (.t 2)),
 oM 121 (.call (.c (.func (.func 9) [] [])) [(.t 120)]),
 oM 122 (.buildS false 24 3 1 [(0, (.t 121))]),
 oM 123 (.call (.c (.func (.func 8) [] [])) [(.c (.str [115, 111, 114, 116, 64, 108, 105, 115, 116])), (.t 122)]),
 oM 119 (.mv (.t 123)),
 oM 124 (.extract (.t 119) 0),
 oM 125 (.extract (.t 119) 1),
 oM 21 (.mv (.t 124)),
 oM 22 (.mv (.t 125))])
  (.seq (.ops [oM 127 (.mv (.t 2)),
 oM 128 (.call (.c (.func (.func 9) [] [])) [(.t 127)]),
 oM 129 (.buildS false 24 3 1 [(0, (.t 128))]),
 oM 130 (.call (.c (.func (.func 8) [] [])) [(.c (.str [112, 101, 114, 109, 64, 108, 105, 115, 116])), (.t 129)]),
 oM 126 (.mv (.t 130)),
 oM 131 (.extract (.t 126) 0),
 oM 132 (.extract (.t 126) 1),
 oM 23 (.mv (.t 131)),
 oM 24 (.mv (.t 132))])
  (.seq (.seq (.ops [oM 133 (.mv (.t 22)),
 oM 134 (.binI .neq 29 (.tmp 133) (.const (.int .i64 0)) (.t 133) (.c (.int .i64 0))),
 oM 135 (.mv (.t 134)),
 ⟨some 136, .mv (.t 24), (some (some 135, false))⟩,
 ⟨some 137, .binI .neq 29 (.tmp 136) (.const (.int .i64 0)) (.t 136) (.c (.int .i64 0)), (some (some 135, false))⟩,
 oM 138 (.pick (.t 135) (.c (.bool true)) (.t 137))])
  (.cond (.t 138)
    (.seq (.ops [oM 6 (.mv (.c (.bool true)))])
    .ret)
    .skip))
  (.seq (.seq (.ops [oM 139 (.mv (.t 21)),
 oM 140 (.lenS (.t 139)),
 oM 141 (.binI .neq 3 (.tmp 140) (.const (.int .i64 1)) (.t 140) (.c (.int .i64 1))),
 oM 142 (.mv (.t 141)),
 ⟨some 143, .mv (.t 23), (some (some 142, false))⟩,
 ⟨some 144, .lenS (.t 143), (some (some 142, false))⟩,
 ⟨some 145, .binI .eql 3 (.tmp 144) (.const (.int .i64 0)) (.t 144) (.c (.int .i64 0)), (some (some 142, false))⟩,
 oM 146 (.pick (.t 142) (.c (.bool true)) (.t 145))])
  (.cond (.t 146)
    (.seq (.ops [oM 6 (.mv (.c (.bool false)))])
    .ret)
    .skip))
  (.seq (.seq (.ops [oM 25 (.mv (.c (.int .i64 0)))])
  (.block 2
    (.loop l3_1)))
  (.seq (.ops [oM 176 (.mv (.t 2)),
 oM 177 (.call (.c (.func (.func 9) [] [])) [(.t 176)]),
 oM 178 (.buildS false 24 3 1 [(0, (.t 177))]),
 oM 179 (.call (.c (.func (.func 8) [] [])) [(.c (.str [115, 111, 114, 116, 101, 100, 64, 108, 105, 115, 116])), (.t 178)]),
 oM 175 (.mv (.t 179)),
 oM 180 (.extract (.t 175) 0),
 oM 181 (.extract (.t 175) 1),
 oM 28 (.mv (.t 180)),
 oM 29 (.mv (.t 181))])
  (.seq (.ops [oM 182 (.mv (.t 29)),
 oM 183 (.binI .eql 29 (.tmp 182) (.const (.int .i64 0)) (.t 182) (.c (.int .i64 0))),
 oM 184 (.mv (.t 183)),
 ⟨some 185, .mv (.t 28), (some (some 184, true))⟩,
 ⟨some 186, .lenS (.t 185), (some (some 184, true))⟩,
 ⟨some 187, .binI .eql 3 (.tmp 186) (.const (.int .i64 1)) (.t 186) (.c (.int .i64 1)), (some (some 184, true))⟩,
 ⟨some 188, .mv (.t 21), (some (some 184, true))⟩,
 ⟨some 189, .idxS 1 (.t 188) (.c (.int .i64 0)), (some (some 184, true))⟩,
 ⟨some 190, .load false 1 (.t 189), (some (some 184, true))⟩,
 ⟨some 191, .idxS 3 (.t 190) (.c (.int .i64 0)), (some (some 184, true))⟩,
 ⟨some 192, .fieldAddr 2 (.t 191), (some (some 184, true))⟩,
 ⟨some 193, .load false 1 (.t 192), (some (some 184, true))⟩,
 ⟨some 194, .mv (.t 2), (some (some 184, true))⟩,
 ⟨some 195, .call (.c (.func (.func 10) [] [])) [(.t 193), (.t 194)], (some (some 184, true))⟩,
 ⟨some 196, .gen ⟨some 196, .binOp .eql 4 (.tmp 187) (.tmp 195) 4, 0, "", #[], none⟩, (some (some 184, true))⟩,
 oM 197 (.pick (.t 184) (.t 196) (.c (.bool false))),
 oM 6 (.mv (.t 197))])
  .ret))))))))))))))))
theorem code3 : codeOf C 3 F3 = x3 := by kernel_rfl
theorem ok3 {Q : Ctx} (hK : K Q) : FnOk Q 3 F3 x3 false := hK.ok_ ⟨fn3, code3, by kernel_rfl, by kernel_rfl⟩
noncomputable def b7 : Code := Tryz.f7.body.getD .skip
noncomputable def F7 : FI := ⟨34, [.cell 4 24, .tmp 5], b7⟩
theorem fn7 : C.fn 7 = some F7 := by kernel_rfl
noncomputable def x7 : XC :=
  (.seq (.ops [oM 4 (.alloc 24 [(.bool false), (.int .i64 0), (.slice .nil [])]),
 oM 5 (.mv (.c (.bool false)))])
  (.seq (.ops [oM 9 (.mv (.t 0)),
 oM 10 (.mv (.t 1)),
 oM 11 (.call (.c (.func (.func 8) [] [])) [(.t 9), (.t 10)]),
 oM 8 (.mv (.t 11)),
 oM 12 (.extract (.t 8) 0),
 oM 13 (.extract (.t 8) 1),
 oM 6 (.mv (.t 12)),
 oM 7 (.mv (.t 13))])
  (.seq (.seq (.ops [oM 14 (.mv (.t 7)),
 oM 15 (.binI .neq 29 (.tmp 14) (.const (.int .i64 0)) (.t 14) (.c (.int .i64 0))),
 oM 16 (.mv (.t 15)),
 ⟨some 17, .mv (.t 6), (some (some 16, false))⟩,
 ⟨some 18, .lenS (.t 17), (some (some 16, false))⟩,
 ⟨some 19, .binI .neq 3 (.tmp 18) (.const (.int .i64 1)) (.t 18) (.c (.int .i64 1)), (some (some 16, false))⟩,
 oM 20 (.pick (.t 16) (.c (.bool true)) (.t 19)),
 oM 21 (.mv (.t 20)),
 ⟨some 22, .mv (.t 6), (some (some 21, false))⟩,
 ⟨some 23, .idxS 1 (.t 22) (.c (.int .i64 0)), (some (some 21, false))⟩,
 ⟨some 24, .load false 1 (.t 23), (some (some 21, false))⟩,
 ⟨some 25, .lenS (.t 24), (some (some 21, false))⟩,
 ⟨some 26, .binI .neq 3 (.tmp 25) (.const (.int .i64 1)) (.t 25) (.c (.int .i64 1)), (some (some 21, false))⟩,
 oM 27 (.pick (.t 21) (.c (.bool true)) (.t 26))])
  (.cond (.t 27)
    (.seq (.ops [oM 28 (.build [(.bool false), (.int .i64 0), (.slice .nil [])] [(0, 1), (1, 1), (2, 1)] []),
 ⟨none, .store 3 (.t 4) (.t 28), none⟩,
 oM 5 (.mv (.c (.bool false)))])
    .ret)
    .skip))
  (.seq (.ops [oM 29 (.mv (.t 6)),
 oM 30 (.idxS 1 (.t 29) (.c (.int .i64 0))),
 oM 31 (.load false 1 (.t 30)),
 oM 32 (.idxS 3 (.t 31) (.c (.int .i64 0))),
 oM 33 (.load true 3 (.t 32)),
 ⟨none, .store 3 (.t 4) (.t 33), none⟩,
 oM 5 (.mv (.c (.bool true)))])
  .ret))))
theorem code7 : codeOf C 7 F7 = x7 := by kernel_rfl
theorem ok7 {Q : Ctx} (hK : K Q) : FnOk Q 7 F7 x7 false := hK.ok_ ⟨fn7, code7, by kernel_rfl, by kernel_rfl⟩
noncomputable def b8 : Code := Tryz.f8.body.getD .skip
noncomputable def F8 : FI := ⟨26, [.tmp 4, .tmp 5], b8⟩
theorem fn8 : C.fn 8 = some F8 := by kernel_rfl
noncomputable def x8 : XC :=
  (.seq (.ops [oM 4 (.mv (.c (.slice .nil []))),
 oM 5 (.mv (.c (.int .i64 0)))])
  (.seq (.ops [oM 10 (.mv (.t 0)),
 oM 11 (.mv (.t 1)),
 oM 12 (.call (.c (.func (.func 25) [] [])) [(.t 10), (.t 11)]),
 oM 9 (.mv (.t 12)),
 oM 13 (.extract (.t 9) 0),
 oM 14 (.extract (.t 9) 1),
 oM 6 (.alloc 65 [(.str []), (.str []), (.int .i64 0), (.bool false), .nilfn]),
 ⟨none, .store 5 (.t 6) (.t 13), none⟩,
 oM 7 (.mv (.t 14))])
  (.seq (.seq (.ops [oM 15 (.mv (.t 7)),
 oM 16 (.binI .neq 29 (.tmp 15) (.const (.int .i64 0)) (.t 15) (.c (.int .i64 0)))])
  (.cond (.t 16)
    (.seq (.ops [oM 17 (.mv (.t 7)),
 oM 4 (.mv (.c (.slice .nil []))),
 oM 5 (.mv (.t 17))])
    .ret)
    .skip))
  (.seq (.ops [oM 18 (.fieldAddr 4 (.t 6)),
 oM 19 (.load false 1 (.t 18)),
 oM 20 (.mv (.t 1)),
 oM 21 (.call (.t 19) [(.t 20)]),
 oM 8 (.mv (.t 21))])
  (.seq (.ops [oM 22 (.mv (.t 8)),
 oM 23 (.call (.c (.func (.func 26) [] [])) [(.t 22), (.c (.func (.func 27) [] []))])])
  (.seq (.ops [oM 24 (.mv (.t 8)),
 oM 25 (.call (.c (.func (.func 28) [] [])) [(.t 24), (.c (.func (.func 29) [] []))]),
 oM 4 (.mv (.t 25)),
 oM 5 (.mv (.c (.int .i64 0)))])
  .ret))))))
theorem code8 : codeOf C 8 F8 = x8 := by kernel_rfl
theorem ok8 {Q : Ctx} (hK : K Q) : FnOk Q 8 F8 x8 false := hK.ok_ ⟨fn8, code8, by kernel_rfl, by kernel_rfl⟩
noncomputable def b9 : Code := Tryz.f9.body.getD .skip
noncomputable def F9 : FI := ⟨5, [.cell 2 24], b9⟩
theorem fn9 : C.fn 9 = some F9 := by kernel_rfl
noncomputable def x9 : XC :=
  (.seq (.ops [oM 2 (.alloc 24 [(.bool false), (.int .i64 0), (.slice .nil [])])])
  (.seq (.ops [oM 3 (.mv (.t 0)),
 oM 4 (.build [(.bool false), (.int .i64 0), (.slice .nil [])] [(0, 1), (1, 1), (2, 1)] [(0, (.c (.bool true))), (2, (.t 3))]),
 ⟨none, .store 3 (.t 2) (.t 4), none⟩])
  .ret))
theorem code9 : codeOf C 9 F9 = x9 := by kernel_rfl
theorem ok9 {Q : Ctx} (hK : K Q) : FnOk Q 9 F9 x9 false := hK.ok_ ⟨fn9, code9, by kernel_rfl, by kernel_rfl⟩
noncomputable def b10 : Code := Tryz.f10.body.getD .skip
noncomputable def F10 : FI := ⟨26, [.tmp 4], b10⟩
theorem fn10 : C.fn 10 = some F10 := by kernel_rfl
noncomputable def d10_0 : Array Oper := (drawsOf b10).getD 0 #[]
theorem kd10_0 : drawCr d10_0 = [none, none, none, none, none, none, none, none, none] := by kernel_rfl
noncomputable def l10_0 : XC :=
  (.seq (.seq (.ops [oM 11 (.mv (.t 5)),
 oM 12 (.mv (.t 0)),
 oM 13 (.lenS (.t 12)),
 oM 14 (.binI .lss 3 (.tmp 11) (.tmp 13) (.t 11) (.t 13))])
  (.cond (.t 14)
    .skip
    (.exit 0)))
  (.seq (.block 1
    (.seq (.draw d10_0 [oM 17 (.mv (.t 0)),
 oM 18 (.mv (.t 5)),
 oM 19 (.idxS 1 (.t 17) (.t 18)),
 oM 20 (.load false 1 (.t 19)),
 oM 21 (.mv (.t 1)),
 oM 22 (.mv (.t 5)),
 oM 23 (.idxS 1 (.t 21) (.t 22)),
 oM 24 (.load false 1 (.t 23)),
 oM 25 (.binI .neq 3 (.tmp 20) (.tmp 24) (.t 20) (.t 24))])
    (.cond (.t 25)
      (.seq (.ops [oM 4 (.mv (.c (.bool false)))])
      .ret)
      .skip)))
  (.ops [oM 15 (.mv (.t 5)),
 oM 16 (.binI .add 3 (.tmp 15) (.const (.int .i64 1)) (.t 15) (.c (.int .i64 1))),
 oM 5 (.mv (.t 16))])))
noncomputable def x10 : XC :=
  (.seq (.ops [oM 4 (.mv (.c (.bool false)))])
  (.seq (.seq (.ops [oM 6 (.mv (.t 0)),
 oM 7 (.lenS (.t 6)),
 oM 8 (.mv (.t 1)),
 oM 9 (.lenS (.t 8)),
 oM 10 (.binI .neq 3 (.tmp 7) (.tmp 9) (.t 7) (.t 9))])
  (.cond (.t 10)
    (.seq (.ops [oM 4 (.mv (.c (.bool false)))])
    .ret)
    .skip))
  (.seq (.seq (.ops [oM 5 (.mv (.c (.int .i64 0)))])
  (.block 0
    (.loop l10_0)))
  (.seq (.ops [oM 4 (.mv (.c (.bool true)))])
  .ret))))
theorem code10 : codeOf C 10 F10 = x10 := by kernel_rfl
theorem ok10 {Q : Ctx} (hK : K Q) : FnOk Q 10 F10 x10 false := hK.ok_ ⟨fn10, code10, by kernel_rfl, by kernel_rfl⟩
noncomputable def b25 : Code := Tryz.f25.body.getD .skip
noncomputable def F25 : FI := ⟨22, [.cell 4 65, .tmp 5], b25⟩
theorem fn25 : C.fn 25 = some F25 := by kernel_rfl
noncomputable def x25 : XC :=
  (.seq (.ops [oM 4 (.alloc 65 [(.str []), (.str []), (.int .i64 0), (.bool false), .nilfn]),
 oM 5 (.mv (.c (.int .i64 0)))])
  (.seq (.ops [oM 9 (.mv (.t 0)),
 oM 10 (.call (.c (.func (.func 38) [] [])) [(.t 9)]),
 oM 8 (.mv (.t 10)),
 oM 11 (.extract (.t 8) 0),
 oM 12 (.extract (.t 8) 1),
 oM 6 (.alloc 65 [(.str []), (.str []), (.int .i64 0), (.bool false), .nilfn]),
 ⟨none, .store 5 (.t 6) (.t 11), none⟩,
 oM 7 (.mv (.t 12))])
  (.seq (.seq (.ops [oM 13 (.mv (.t 7)),
 oM 14 (.un .not (.t 13))])
  (.cond (.t 14)
    (.seq (.ops [oM 15 (.build [(.str []), (.str []), (.int .i64 0), (.bool false), .nilfn] [(0, 1), (1, 1), (2, 1), (3, 1), (4, 1)] []),
 ⟨none, .store 5 (.t 4) (.t 15), none⟩,
 oM 5 (.mv (.c (.int .i64 310)))])
    .ret)
    .skip))
  (.seq (.seq (.ops [oM 16 (.load true 5 (.t 6)),
 oM 17 (.mv (.t 1)),
 oM 18 (.call (.c (.func (.func 39) [] [])) [(.t 16), (.t 17)]),
 oM 19 (.un .not (.t 18))])
  (.cond (.t 19)
    (.seq (.ops [oM 20 (.build [(.str []), (.str []), (.int .i64 0), (.bool false), .nilfn] [(0, 1), (1, 1), (2, 1), (3, 1), (4, 1)] []),
 ⟨none, .store 5 (.t 4) (.t 20), none⟩,
 oM 5 (.mv (.c (.int .i64 1)))])
    .ret)
    .skip))
  (.seq (.ops [oM 21 (.load true 5 (.t 6)),
 ⟨none, .store 5 (.t 4) (.t 21), none⟩,
 oM 5 (.mv (.c (.int .i64 0)))])
  .ret)))))
theorem code25 : codeOf C 25 F25 = x25 := by kernel_rfl
theorem ok25 {Q : Ctx} (hK : K Q) : FnOk Q 25 F25 x25 false := hK.ok_ ⟨fn25, code25, by kernel_rfl, by kernel_rfl⟩
noncomputable def b26 : Code := Tryz.f26.body.getD .skip
noncomputable def F26 : FI := ⟨14, [], b26⟩
theorem fn26 : C.fn 26 = some F26 := by kernel_rfl
noncomputable def x26 : XC :=
  (.seq (.ops [oM 5 (.mv (.t 0)),
 oM 6 (.lenS (.t 5)),
 oM 4 (.mv (.t 6))])
  (.ops [oM 7 (.mv (.t 0)),
 oM 8 (.mv (.t 4)),
 oM 9 (.mv (.t 4)),
 oM 10 (.gen ⟨some 10, .convert 3 85 (.tmp 9), 0, "", #[], none⟩),
 oM 11 (.call (.c (.func (.func 41) [] [])) [(.t 10)]),
 oM 12 (.mv (.t 1)),
 oM 13 (.call (.c (.func (.func 40) [] [])) [(.t 7), (.c (.int .i64 0)), (.t 8), (.t 11), (.t 12)])]))
theorem code26 : codeOf C 26 F26 = x26 := by kernel_rfl
theorem ok26 {Q : Ctx} (hK : K Q) : FnOk Q 26 F26 x26 false := hK.ok_ ⟨fn26, code26, by kernel_rfl, by kernel_rfl⟩
noncomputable def b27 : Code := Tryz.f27.body.getD .skip
noncomputable def F27 : FI := ⟨8, [.tmp 4], b27⟩
theorem fn27 : C.fn 27 = some F27 := by kernel_rfl
noncomputable def x27 : XC :=
  (.seq (.ops [oM 4 (.mv (.c (.int .i64 0)))])
  (.seq (.ops [oM 5 (.mv (.t 0)),
 oM 6 (.mv (.t 1)),
 oM 7 (.call (.c (.func (.func 42) [] [])) [(.t 5), (.t 6), (.c (.func (.func 43) [] []))]),
 oM 4 (.mv (.t 7))])
  .ret))
theorem code27 : codeOf C 27 F27 = x27 := by kernel_rfl
theorem ok27 {Q : Ctx} (hK : K Q) : FnOk Q 27 F27 x27 false := hK.ok_ ⟨fn27, code27, by kernel_rfl, by kernel_rfl⟩
noncomputable def b28 : Code := Tryz.f28.body.getD .skip
noncomputable def F28 : FI := ⟨66, [.tmp 4], b28⟩
theorem fn28 : C.fn 28 = some F28 := by kernel_rfl
noncomputable def d28_0 : Array Oper := (drawsOf b28).getD 0 #[]
theorem kd28_0 : drawCr d28_0 = [none, none, none, none, none, none, none, none, none, none, (some ([none, none, none, none, none, none, none, none, none, none, none], [true, true, true, true, true, true, true, true, true, true, false]))] := by kernel_rfl
noncomputable def d28_1 : Array Oper := (drawsOf b28).getD 1 #[]
theorem kd28_1 : drawCr d28_1 = [none, none, none, none, none, none, none, none, none, none, (some ([none, none, none, none, none, none, none, none, none, none, none, none], [true, true, true, true, true, true, true, true, true, true, false, false])), none] := by kernel_rfl
noncomputable def l28_0 : XC :=
  (.seq (.seq (.ops [oM 32 (.mv (.t 7)),
 oM 33 (.mv (.t 6)),
 oM 34 (.lenS (.t 33)),
 oM 35 (.binI .lss 3 (.tmp 32) (.tmp 34) (.t 32) (.t 34))])
  (.cond (.t 35)
    .skip
    (.exit 2)))
  (.seq (.block 3
    (.seq (.draw d28_1 [oM 38 (.mv (.t 1)),
 oM 39 (.mv (.t 6)),
 oM 40 (.mv (.t 7)),
 oM 41 (.idxS 1 (.t 39) (.t 40)),
 oM 42 (.load false 1 (.t 41)),
 oM 43 (.mv (.t 6)),
 oM 44 (.mv (.t 7)),
 oM 45 (.binI .sub 3 (.tmp 44) (.const (.int .i64 1)) (.t 44) (.c (.int .i64 1))),
 oM 46 (.idxS 1 (.t 43) (.t 45)),
 oM 47 (.load false 1 (.t 46)),
 oM 48 (.call (.t 38) [(.t 42), (.t 47)]),
 oM 49 (.un .not (.t 48))])
    (.cond (.t 49)
      (.seq (.ops [oM 50 (.mv (.t 0)),
 oM 51 (.mv (.t 5)),
 oM 52 (.mv (.t 6)),
 oM 53 (.mv (.t 7)),
 oM 54 (.idxS 1 (.t 52) (.t 53)),
 oM 55 (.load false 1 (.t 54)),
 oM 56 (.idxS 1 (.t 50) (.t 51)),
 ⟨none, .store 1 (.t 56) (.t 55), none⟩])
      (.ops [oM 57 (.mv (.t 5)),
 oM 58 (.binI .add 3 (.tmp 57) (.const (.int .i64 1)) (.t 57) (.c (.int .i64 1))),
 oM 5 (.mv (.t 58))]))
      .skip)))
  (.ops [oM 36 (.mv (.t 7)),
 oM 37 (.binI .add 3 (.tmp 36) (.const (.int .i64 1)) (.t 36) (.c (.int .i64 1))),
 oM 7 (.mv (.t 37))])))
noncomputable def l28_1 : XC :=
  (.seq (.seq (.ops [oM 12 (.mv (.t 5)),
 oM 13 (.mv (.t 0)),
 oM 14 (.lenS (.t 13)),
 oM 15 (.binI .lss 3 (.tmp 12) (.tmp 14) (.t 12) (.t 14))])
  (.cond (.t 15)
    .skip
    (.exit 0)))
  (.seq (.block 1
    (.seq (.draw d28_0 [oM 18 (.mv (.t 1)),
 oM 19 (.mv (.t 0)),
 oM 20 (.mv (.t 5)),
 oM 21 (.idxS 1 (.t 19) (.t 20)),
 oM 22 (.load false 1 (.t 21)),
 oM 23 (.mv (.t 0)),
 oM 24 (.mv (.t 5)),
 oM 25 (.binI .sub 3 (.tmp 24) (.const (.int .i64 1)) (.t 24) (.c (.int .i64 1))),
 oM 26 (.idxS 1 (.t 23) (.t 25)),
 oM 27 (.load false 1 (.t 26)),
 oM 28 (.call (.t 18) [(.t 22), (.t 27)])])
    (.cond (.t 28)
      (.seq (.ops [oM 29 (.mv (.t 0)),
 oM 30 (.mv (.t 5)),
 oM 31 (.gen ⟨some 31, .slice 28 (.tmp 29) (some (.tmp 30)) none none, 0, "", #[], none⟩),
 oM 6 (.mv (.t 31))])
      (.seq (.seq (.ops [oM 7 (.mv (.c (.int .i64 1)))])
      (.block 2
        (.loop l28_0)))
      (.seq (.ops [oM 59 (.mv (.t 0)),
 oM 60 (.mv (.t 5)),
 oM 61 (.gen ⟨some 61, .slice 28 (.tmp 59) (some (.tmp 60)) none none, 0, "", #[], none⟩),
 ⟨none, .gen ⟨none, .call { callee := .builtin .clear, args := #[(.tmp 61)], argTypes := #[28] }, 0, "", #[], none⟩, none⟩])
      (.seq (.ops [oM 62 (.mv (.t 0)),
 oM 63 (.mv (.t 5)),
 oM 64 (.gen ⟨some 64, .slice 28 (.tmp 62) none (some (.tmp 63)) none, 0, "", #[], none⟩),
 oM 4 (.mv (.t 64))])
      .ret))))
      .skip)))
  (.ops [oM 16 (.mv (.t 5)),
 oM 17 (.binI .add 3 (.tmp 16) (.const (.int .i64 1)) (.t 16) (.c (.int .i64 1))),
 oM 5 (.mv (.t 17))])))
noncomputable def x28 : XC :=
  (.seq (.ops [oM 4 (.mv (.c (.slice .nil [])))])
  (.seq (.seq (.ops [oM 8 (.mv (.t 0)),
 oM 9 (.lenS (.t 8)),
 oM 10 (.binI .lss 3 (.tmp 9) (.const (.int .i64 2)) (.t 9) (.c (.int .i64 2)))])
  (.cond (.t 10)
    (.seq (.ops [oM 11 (.mv (.t 0)),
 oM 4 (.mv (.t 11))])
    .ret)
    .skip))
  (.seq (.seq (.ops [oM 5 (.mv (.c (.int .i64 1)))])
  (.block 0
    (.loop l28_1)))
  (.seq (.ops [oM 65 (.mv (.t 0)),
 oM 4 (.mv (.t 65))])
  .ret))))
theorem code28 : codeOf C 28 F28 = x28 := by kernel_rfl
theorem ok28 {Q : Ctx} (hK : K Q) : FnOk Q 28 F28 x28 false := hK.ok_ ⟨fn28, code28, by kernel_rfl, by kernel_rfl⟩
noncomputable def b29 : Code := Tryz.f29.body.getD .skip
noncomputable def F29 : FI := ⟨9, [.tmp 4], b29⟩
theorem fn29 : C.fn 29 = some F29 := by kernel_rfl
noncomputable def x29 : XC :=
  (.seq (.ops [oM 4 (.mv (.c (.bool false)))])
  (.seq (.ops [oM 5 (.mv (.t 0)),
 oM 6 (.mv (.t 1)),
 oM 7 (.call (.c (.func (.func 27) [] [])) [(.t 5), (.t 6)]),
 oM 8 (.binI .eql 3 (.tmp 7) (.const (.int .i64 0)) (.t 7) (.c (.int .i64 0))),
 oM 4 (.mv (.t 8))])
  .ret))
theorem code29 : codeOf C 29 F29 = x29 := by kernel_rfl
theorem ok29 {Q : Ctx} (hK : K Q) : FnOk Q 29 F29 x29 false := hK.ok_ ⟨fn29, code29, by kernel_rfl, by kernel_rfl⟩
noncomputable def b30 : Code := Tryz.f30.body.getD .skip
noncomputable def F30 : FI := ⟨9, [.tmp 2], b30⟩
theorem fn30 : C.fn 30 = some F30 := by kernel_rfl
noncomputable def x30 : XC :=
  (.seq (.ops [oM 2 (.mv (.c (.bool false)))])
  (.seq (.ops [oM 3 (.mv (.t 0)),
 oM 4 (.binI .geq 3 (.tmp 3) (.const (.int .i64 0)) (.t 3) (.c (.int .i64 0))),
 oM 5 (.mv (.t 4)),
 ⟨some 6, .mv (.t 0), (some (some 5, true))⟩,
 ⟨some 7, .binI .leq 3 (.tmp 6) (.const (.int .i64 40)) (.t 6) (.c (.int .i64 40)), (some (some 5, true))⟩,
 oM 8 (.pick (.t 5) (.t 7) (.c (.bool false))),
 oM 2 (.mv (.t 8))])
  .ret))
theorem code30 : codeOf C 30 F30 = x30 := by kernel_rfl
theorem ok30 {Q : Ctx} (hK : K Q) : FnOk Q 30 F30 x30 false := hK.ok_ ⟨fn30, code30, by kernel_rfl, by kernel_rfl⟩
noncomputable def b32 : Code := Tryz.f32.body.getD .skip
noncomputable def F32 : FI := ⟨11, [.tmp 2], b32⟩
theorem fn32 : C.fn 32 = some F32 := by kernel_rfl
noncomputable def x32 : XC :=
  (.seq (.ops [oM 2 (.mv (.c (.bool false)))])
  (.seq (.ops [oM 3 (.mv (.t 0)),
 oM 4 (.lenS (.t 3)),
 oM 5 (.binI .leq 3 (.tmp 4) (.const (.int .i64 12)) (.t 4) (.c (.int .i64 12))),
 oM 6 (.mv (.t 5)),
 ⟨some 7, .mv (.t 0), (some (some 6, true))⟩,
 ⟨some 8, .call (.c (.func (.func 48) [] [])) [(.t 7), (.c (.func (.func 49) [] []))], (some (some 6, true))⟩,
 ⟨some 9, .un .not (.t 8), (some (some 6, true))⟩,
 oM 10 (.pick (.t 6) (.t 9) (.c (.bool false))),
 oM 2 (.mv (.t 10))])
  .ret))
theorem code32 : codeOf C 32 F32 = x32 := by kernel_rfl
theorem ok32 {Q : Ctx} (hK : K Q) : FnOk Q 32 F32 x32 false := hK.ok_ ⟨fn32, code32, by kernel_rfl, by kernel_rfl⟩
noncomputable def x38 : XC :=
  (.seq (.ops [oM 1 (.box 9 (.t 0)),
 oM 2 (.alloc 65 [(.str []), (.str []), (.int .i64 0), (.bool false), .nilfn]),
 oM 3 (.mv (.c (.bool false)))])
  (.seq (.ops [oM 6 (.call (.c (.func (.func 37) [] [])) []),
 oM 4 (.mv (.t 6))])
  (.seq (.ops [oM 7 (.mv (.t 4)),
 oM 8 (.mkFunc 76 [] [(.t 1)]),
 oM 9 (.call (.c (.func (.func 75) [] [])) [(.t 7), (.t 8)]),
 oM 5 (.mv (.t 9))])
  (.seq (.seq (.ops [oM 10 (.mv (.t 5)),
 oM 11 (.binI .lss 3 (.tmp 10) (.const (.int .i64 0)) (.t 10) (.c (.int .i64 0)))])
  (.cond (.t 11)
    (.seq (.ops [oM 12 (.build [(.str []), (.str []), (.int .i64 0), (.bool false), .nilfn] [(0, 1), (1, 1), (2, 1), (3, 1), (4, 1)] []),
 ⟨none, .store 5 (.t 2) (.t 12), none⟩,
 oM 3 (.mv (.c (.bool false)))])
    .ret)
    .skip))
  (.seq (.ops [oM 13 (.mv (.t 4)),
 oM 14 (.mv (.t 5)),
 oM 15 (.idxS 5 (.t 13) (.t 14)),
 oM 16 (.load true 5 (.t 15)),
 ⟨none, .store 5 (.t 2) (.t 16), none⟩,
 oM 3 (.mv (.c (.bool true)))])
  .ret)))))
noncomputable def b39 : Code := Tryz.f39.body.getD .skip
noncomputable def F39 : FI := ⟨115, [.tmp 4], b39⟩
theorem fn39 : C.fn 39 = some F39 := by kernel_rfl
noncomputable def d39_0 : Array Oper := (drawsOf b39).getD 0 #[]
theorem kd39_0 : drawCr d39_0 = [none, none, none, none, none, none, none, none, none, none, none, none, none, none, (some ([none, none, none, none, none, none, none, none, none, none, none, none, none, none, none, none, none, none, none, none, none, none, none, none, none, none, none, none, none], [true, true, true, true, true, true, true, true, true, true, true, true, true, true, false, false, false, false, false, false, false, false, false, false, false, false, false, false, false])), none, none, none, none, none, none, none, none, none, none, (some ([none, none, none, none, none, none, none, none, none, none, none, none, none, none, none, none, none, none, none, none, none, none, none, none, none, none, none, none, none], [true, true, true, true, true, true, true, true, true, true, true, true, true, true, true, true, true, true, true, true, true, true, true, true, true, false, false, false, false])), none, none, none] := by kernel_rfl
noncomputable def l39_0 : XC :=
  (.seq (.ops [oM 13 (.gen ⟨some 13, .next (.tmp 12) true, 0, "", #[], none⟩),
 oM 14 (.extract (.t 13) 0)])
  (.seq (.cond (.t 14)
    .skip
    (.exit 0))
  (.block 1
    (.seq (.ops [oM 15 (.extract (.t 13) 2),
 oM 7 (.mv (.t 15))])
    (.seq (.ops [oM 16 (.mv (.t 7)),
 oM 17 (.binI .eql 21 (.tmp 16) (.const (.int .i32 110)) (.t 16) (.c (.int .i32 110))),
 oM 18 (.mv (.t 17)),
 ⟨some 19, .mv (.t 7), (some (some 18, false))⟩,
 ⟨some 20, .binI .eql 21 (.tmp 19) (.const (.int .i32 108)) (.t 19) (.c (.int .i32 108)), (some (some 18, false))⟩,
 oM 21 (.pick (.t 18) (.c (.bool true)) (.t 20))])
    (.cond (.t 21)
      (.ops [oM 22 (.mv (.t 5)),
 oM 23 (.mv (.t 7)),
 oM 24 (.buildS false 21 1 1 [(0, (.t 23))]),
 oM 25 (.app false 21 T21 (.t 22) (.t 24)),
 oM 5 (.mv (.t 25))])
      .skip))))))
noncomputable def l39_1 : XC :=
  (.seq (.ops [oM 29 (.binI .lss 3 (.tmp 28) (.tmp 27) (.t 28) (.t 27))])
  (.seq (.cond (.t 29)
    .skip
    (.exit 2))
  (.seq (.block 3
    (.ops [oM 30 (.mv (.t 5)),
 oM 31 (.buildS false 21 1 1 [(0, (.c (.int .i32 108)))]),
 oM 32 (.app false 21 T21 (.t 30) (.t 31)),
 oM 5 (.mv (.t 32))]))
  (.ops [oM 33 (.binI .add 3 (.tmp 28) (.const (.int .i64 1)) (.t 28) (.c (.int .i64 1))),
 oM 28 (.mv (.t 33))]))))
noncomputable def l39_2 : XC :=
  (.seq (.ops [oM 42 (.binI .lss 3 (.tmp 41) (.tmp 40) (.t 41) (.t 40))])
  (.seq (.cond (.t 42)
    .skip
    (.exit 4))
  (.seq (.block 5
    (.seq (.ops [oM 43 (.mv (.t 41)),
 oM 44 (.idxS 3 (.t 39) (.t 41)),
 oM 45 (.load true 3 (.t 44)),
 oM 9 (.alloc 24 [(.bool false), (.int .i64 0), (.slice .nil [])]),
 oM 8 (.mv (.t 43)),
 ⟨none, .store 3 (.t 9) (.t 45), none⟩])
    (.seq (.draw d39_0 [oM 46 (.fieldAddr 0 (.t 9)),
 oM 47 (.load false 1 (.t 46)),
 oM 48 (.mv (.t 5)),
 oM 49 (.mv (.t 8)),
 oM 50 (.idxS 1 (.t 48) (.t 49)),
 oM 51 (.load false 1 (.t 50)),
 oM 52 (.binI .eql 21 (.tmp 51) (.const (.int .i32 108)) (.t 51) (.c (.int .i32 108))),
 oM 53 (.gen ⟨some 53, .binOp .neq 4 (.tmp 47) (.tmp 52) 4, 0, "", #[], none⟩),
 oM 54 (.mv (.t 53)),
 ⟨some 55, .fieldAddr 0 (.t 9), (some (some 54, false))⟩,
 ⟨some 56, .load false 1 (.t 55), (some (some 54, false))⟩,
 ⟨some 57, .mv (.t 56), (some (some 54, false))⟩,
 ⟨some 58, .fieldAddr 2 (.t 9), (some (some 57, true))⟩,
 ⟨some 59, .load false 1 (.t 58), (some (some 57, true))⟩,
 ⟨some 60, .call (.c (.func (.func 32) [] [])) [(.t 59)], (some (some 57, true))⟩,
 ⟨some 61, .un .not (.t 60), (some (some 57, true))⟩,
 ⟨some 62, .pick (.t 57) (.t 61) (.c (.bool false)), (some (some 54, false))⟩,
 oM 63 (.pick (.t 54) (.c (.bool true)) (.t 62)),
 oM 64 (.mv (.t 63)),
 ⟨some 65, .fieldAddr 0 (.t 9), (some (some 64, false))⟩,
 ⟨some 66, .load false 1 (.t 65), (some (some 64, false))⟩,
 ⟨some 67, .un .not (.t 66), (some (some 64, false))⟩,
 ⟨some 68, .mv (.t 67), (some (some 64, false))⟩,
 ⟨some 69, .fieldAddr 1 (.t 9), (some (some 68, true))⟩,
 ⟨some 70, .load false 1 (.t 69), (some (some 68, true))⟩,
 ⟨some 71, .call (.c (.func (.func 30) [] [])) [(.t 70)], (some (some 68, true))⟩,
 ⟨some 72, .un .not (.t 71), (some (some 68, true))⟩,
 ⟨some 73, .pick (.t 68) (.t 72) (.c (.bool false)), (some (some 64, false))⟩,
 oM 74 (.pick (.t 64) (.c (.bool true)) (.t 73))])
    (.cond (.t 74)
      (.seq (.ops [oM 4 (.mv (.c (.bool false)))])
      .ret)
      .skip))))
  (.ops [oM 75 (.binI .add 3 (.tmp 41) (.const (.int .i64 1)) (.t 41) (.c (.int .i64 1))),
 oM 41 (.mv (.t 75))]))))
noncomputable def x39 : XC :=
  (.seq (.ops [oM 2 (.box 65 (.t 0)),
 oM 4 (.mv (.c (.bool false)))])
  (.seq (.ops [oM 5 (.mv (.c (.slice .nil [])))])
  (.seq (.seq (.ops [oM 10 (.fieldAddr 1 (.t 2)),
 oM 11 (.load false 1 (.t 10)),
 oM 12 (.gen ⟨some 12, .range 9 (.tmp 11), 0, "", #[], none⟩)])
  (.block 0
    (.loop l39_0)))
  (.seq (.seq (.ops [oM 26 (.fieldAddr 2 (.t 2)),
 oM 27 (.load false 1 (.t 26)),
 oM 28 (.mv (.c (.int .i64 0)))])
  (.block 2
    (.loop l39_1)))
  (.seq (.seq (.ops [oM 34 (.mv (.t 1)),
 oM 35 (.lenS (.t 34)),
 oM 36 (.mv (.t 5)),
 oM 37 (.lenS (.t 36)),
 oM 38 (.binI .neq 3 (.tmp 35) (.tmp 37) (.t 35) (.t 37))])
  (.cond (.t 38)
    (.seq (.ops [oM 4 (.mv (.c (.bool false)))])
    .ret)
    .skip))
  (.seq (.seq (.ops [oM 39 (.mv (.t 1)),
 oM 40 (.lenS (.t 39)),
 oM 41 (.mv (.c (.int .i64 0)))])
  (.block 4
    (.loop l39_2)))
  (.seq (.seq (.ops [oM 76 (.fieldAddr 2 (.t 2)),
 oM 77 (.load false 1 (.t 76)),
 oM 78 (.binI .gtr 3 (.tmp 77) (.const (.int .i64 0)) (.t 77) (.c (.int .i64 0))),
 oM 79 (.mv (.t 78)),
 ⟨some 80, .mv (.t 1), (some (some 79, true))⟩,
 ⟨some 81, .mv (.t 1), (some (some 79, true))⟩,
 ⟨some 82, .lenS (.t 81), (some (some 79, true))⟩,
 ⟨some 83, .binI .sub 3 (.tmp 82) (.const (.int .i64 1)) (.t 82) (.c (.int .i64 1)), (some (some 79, true))⟩,
 ⟨some 84, .idxS 3 (.t 80) (.t 83), (some (some 79, true))⟩,
 ⟨some 85, .fieldAddr 2 (.t 84), (some (some 79, true))⟩,
 ⟨some 86, .load false 1 (.t 85), (some (some 79, true))⟩,
 ⟨some 87, .lenS (.t 86), (some (some 79, true))⟩,
 ⟨some 88, .binI .rem 3 (.tmp 87) (.const (.int .i64 2)) (.t 87) (.c (.int .i64 2)), (some (some 79, true))⟩,
 ⟨some 89, .binI .neq 3 (.tmp 88) (.const (.int .i64 0)) (.t 88) (.c (.int .i64 0)), (some (some 79, true))⟩,
 oM 90 (.pick (.t 79) (.t 89) (.c (.bool false))),
 oM 91 (.mv (.t 90)),
 ⟨some 92, .fieldAddr 2 (.t 2), (some (some 91, false))⟩,
 ⟨some 93, .load false 1 (.t 92), (some (some 91, false))⟩,
 ⟨some 94, .binI .eql 3 (.tmp 93) (.const (.int .i64 2)) (.t 93) (.c (.int .i64 2)), (some (some 91, false))⟩,
 ⟨some 95, .mv (.t 94), (some (some 91, false))⟩,
 ⟨some 96, .mv (.t 1), (some (some 95, true))⟩,
 ⟨some 97, .idxS 3 (.t 96) (.c (.int .i64 1)), (some (some 95, true))⟩,
 ⟨some 98, .fieldAddr 2 (.t 97), (some (some 95, true))⟩,
 ⟨some 99, .load false 1 (.t 98), (some (some 95, true))⟩,
 ⟨some 100, .lenS (.t 99), (some (some 95, true))⟩,
 ⟨some 101, .binI .gtr 3 (.tmp 100) (.const (.int .i64 6)) (.t 100) (.c (.int .i64 6)), (some (some 95, true))⟩,
 ⟨some 102, .pick (.t 95) (.t 101) (.c (.bool false)), (some (some 91, false))⟩,
 oM 103 (.pick (.t 91) (.c (.bool true)) (.t 102))])
  (.cond (.t 103)
    (.seq (.ops [oM 4 (.mv (.c (.bool false)))])
    .ret)
    .skip))
  (.seq (.ops [oM 104 (.fieldAddr 3 (.t 2)),
 oM 105 (.load false 1 (.t 104)),
 oM 106 (.un .not (.t 105)),
 oM 107 (.mv (.t 106)),
 ⟨some 108, .mv (.t 1), (some (some 107, false))⟩,
 ⟨some 109, .idxS 3 (.t 108) (.c (.int .i64 0)), (some (some 107, false))⟩,
 ⟨some 110, .fieldAddr 2 (.t 109), (some (some 107, false))⟩,
 ⟨some 111, .load false 1 (.t 110), (some (some 107, false))⟩,
 ⟨some 112, .lenS (.t 111), (some (some 107, false))⟩,
 ⟨some 113, .binI .leq 3 (.tmp 112) (.const (.int .i64 6)) (.t 112) (.c (.int .i64 6)), (some (some 107, false))⟩,
 oM 114 (.pick (.t 107) (.c (.bool true)) (.t 113)),
 oM 4 (.mv (.t 114))])
  .ret))))))))
theorem code39 : codeOf C 39 F39 = x39 := by kernel_rfl
theorem ok39 {Q : Ctx} (hK : K Q) : FnOk Q 39 F39 x39 false := hK.ok_ ⟨fn39, code39, by kernel_rfl, by kernel_rfl⟩
noncomputable def b40 : Code := Tryz.f40.body.getD .skip
noncomputable def F40 : FI := ⟨148, [], b40⟩
theorem fn40 : C.fn 40 = some F40 := by kernel_rfl
noncomputable def d40_0 : Array Oper := (drawsOf b40).getD 0 #[]
theorem kd40_0 : drawCr d40_0 = [none, none, none, none, none, none, none, none, none, none, none, none, none, (some ([none, none, none, none, none, none, none, none, none, none, none, none, none, none, none, none, none], [true, true, true, true, true, true, true, true, true, true, true, true, true, false, false, false, false])), none, none, none] := by kernel_rfl
noncomputable def l40_0 : XC :=
  (.block 1
    (.seq (.ops [oM 21 (.mv (.t 2)),
 oM 22 (.mv (.t 1)),
 oM 23 (.binI .sub 3 (.tmp 21) (.tmp 22) (.t 21) (.t 22)),
 oM 12 (.mv (.t 23))])
    (.seq (.seq (.ops [oM 24 (.mv (.t 12)),
 oM 25 (.binI .leq 3 (.tmp 24) (.const (.int .i64 12)) (.t 24) (.c (.int .i64 12)))])
    (.cond (.t 25)
      (.seq (.ops [oM 26 (.mv (.t 0)),
 oM 27 (.mv (.t 1)),
 oM 28 (.mv (.t 2)),
 oM 29 (.mv (.t 4)),
 oM 30 (.call (.c (.func (.func 77) [] [])) [(.t 26), (.t 27), (.t 28), (.t 29)])])
      .ret)
      .skip))
    (.seq (.seq (.ops [oM 31 (.mv (.t 3)),
 oM 32 (.binI .eql 3 (.tmp 31) (.const (.int .i64 0)) (.t 31) (.c (.int .i64 0)))])
    (.cond (.t 32)
      (.seq (.ops [oM 33 (.mv (.t 0)),
 oM 34 (.mv (.t 1)),
 oM 35 (.mv (.t 2)),
 oM 36 (.mv (.t 4)),
 oM 37 (.call (.c (.func (.func 78) [] [])) [(.t 33), (.t 34), (.t 35), (.t 36)])])
      .ret)
      .skip))
    (.seq (.seq (.ops [oM 38 (.mv (.t 10)),
 oM 39 (.un .not (.t 38))])
    (.cond (.t 39)
      (.seq (.ops [oM 40 (.mv (.t 0)),
 oM 41 (.mv (.t 1)),
 oM 42 (.mv (.t 2)),
 oM 43 (.mv (.t 4)),
 oM 44 (.call (.c (.func (.func 79) [] [])) [(.t 40), (.t 41), (.t 42), (.t 43)])])
      (.ops [oM 45 (.mv (.t 3)),
 oM 46 (.binI .sub 3 (.tmp 45) (.const (.int .i64 1)) (.t 45) (.c (.int .i64 1))),
 oM 3 (.mv (.t 46))]))
      .skip))
    (.seq (.ops [oM 48 (.mv (.t 0)),
 oM 49 (.mv (.t 1)),
 oM 50 (.mv (.t 2)),
 oM 51 (.mv (.t 4)),
 oM 52 (.call (.c (.func (.func 80) [] [])) [(.t 48), (.t 49), (.t 50), (.t 51)]),
 oM 47 (.mv (.t 52)),
 oM 53 (.extract (.t 47) 0),
 oM 54 (.extract (.t 47) 1),
 oM 13 (.mv (.t 53)),
 oM 14 (.mv (.t 54))])
    (.seq (.seq (.ops [oM 55 (.mv (.t 14)),
 oM 56 (.binI .eql 112 (.tmp 55) (.const (.int .i64 2)) (.t 55) (.c (.int .i64 2)))])
    (.cond (.t 56)
      (.seq (.ops [oM 57 (.mv (.t 0)),
 oM 58 (.mv (.t 1)),
 oM 59 (.mv (.t 2)),
 oM 60 (.mv (.t 4)),
 oM 61 (.call (.c (.func (.func 81) [] [])) [(.t 57), (.t 58), (.t 59), (.t 60)])])
      (.seq (.ops [oM 62 (.mv (.t 2)),
 oM 63 (.binI .sub 3 (.tmp 62) (.const (.int .i64 1)) (.t 62) (.c (.int .i64 1))),
 oM 64 (.mv (.t 13)),
 oM 65 (.mv (.t 1)),
 oM 66 (.binI .sub 3 (.tmp 64) (.tmp 65) (.t 64) (.t 65)),
 oM 67 (.binI .sub 3 (.tmp 63) (.tmp 66) (.t 63) (.t 66)),
 oM 13 (.mv (.t 67))])
      (.ops [oM 14 (.mv (.c (.int .i64 1)))])))
      .skip))
    (.seq (.seq (.ops [oM 68 (.mv (.t 10)),
 oM 69 (.mv (.t 68)),
 ⟨some 70, .mv (.t 11), (some (some 69, true))⟩,
 oM 71 (.pick (.t 69) (.t 70) (.c (.bool false))),
 oM 72 (.mv (.t 71)),
 ⟨some 73, .mv (.t 14), (some (some 72, true))⟩,
 ⟨some 74, .binI .eql 112 (.tmp 73) (.const (.int .i64 1)) (.t 73) (.c (.int .i64 1)), (some (some 72, true))⟩,
 oM 75 (.pick (.t 72) (.t 74) (.c (.bool false)))])
    (.cond (.t 75)
      (.seq (.ops [oM 76 (.mv (.t 0)),
 oM 77 (.mv (.t 1)),
 oM 78 (.mv (.t 2)),
 oM 79 (.mv (.t 4)),
 oM 80 (.call (.c (.func (.func 82) [] [])) [(.t 76), (.t 77), (.t 78), (.t 79)])])
      (.cond (.t 80)
        .ret
        .skip))
      .skip))
    (.seq (.seq (.draw d40_0 [oM 81 (.mv (.t 1)),
 oM 82 (.binI .gtr 3 (.tmp 81) (.const (.int .i64 0)) (.t 81) (.c (.int .i64 0))),
 oM 83 (.mv (.t 82)),
 ⟨some 84, .mv (.t 4), (some (some 83, true))⟩,
 ⟨some 85, .mv (.t 0), (some (some 83, true))⟩,
 ⟨some 86, .mv (.t 1), (some (some 83, true))⟩,
 ⟨some 87, .binI .sub 3 (.tmp 86) (.const (.int .i64 1)) (.t 86) (.c (.int .i64 1)), (some (some 83, true))⟩,
 ⟨some 88, .idxS 1 (.t 85) (.t 87), (some (some 83, true))⟩,
 ⟨some 89, .load false 1 (.t 88), (some (some 83, true))⟩,
 ⟨some 90, .mv (.t 0), (some (some 83, true))⟩,
 ⟨some 91, .mv (.t 13), (some (some 83, true))⟩,
 ⟨some 92, .idxS 1 (.t 90) (.t 91), (some (some 83, true))⟩,
 ⟨some 93, .load false 1 (.t 92), (some (some 83, true))⟩,
 ⟨some 94, .call (.t 84) [(.t 89), (.t 93)], (some (some 83, true))⟩,
 ⟨some 95, .binI .lss 3 (.tmp 94) (.const (.int .i64 0)) (.t 94) (.c (.int .i64 0)), (some (some 83, true))⟩,
 ⟨some 96, .un .not (.t 95), (some (some 83, true))⟩,
 oM 97 (.pick (.t 83) (.t 96) (.c (.bool false)))])
    (.cond (.t 97)
      (.seq (.ops [oM 98 (.mv (.t 0)),
 oM 99 (.mv (.t 1)),
 oM 100 (.mv (.t 2)),
 oM 101 (.mv (.t 13)),
 oM 102 (.mv (.t 4)),
 oM 103 (.call (.c (.func (.func 83) [] [])) [(.t 98), (.t 99), (.t 100), (.t 101), (.t 102)]),
 oM 15 (.mv (.t 103))])
      (.seq (.ops [oM 104 (.mv (.t 15)),
 oM 1 (.mv (.t 104))])
      (.exit 1)))
      .skip))
    (.seq (.ops [oM 106 (.mv (.t 0)),
 oM 107 (.mv (.t 1)),
 oM 108 (.mv (.t 2)),
 oM 109 (.mv (.t 13)),
 oM 110 (.mv (.t 4)),
 oM 111 (.call (.c (.func (.func 84) [] [])) [(.t 106), (.t 107), (.t 108), (.t 109), (.t 110)]),
 oM 105 (.mv (.t 111)),
 oM 112 (.extract (.t 105) 0),
 oM 113 (.extract (.t 105) 1),
 oM 16 (.mv (.t 112)),
 oM 17 (.mv (.t 113))])
    (.seq (.ops [oM 114 (.mv (.t 17)),
 oM 11 (.mv (.t 114))])
    (.seq (.ops [oM 115 (.mv (.t 16)),
 oM 116 (.mv (.t 1)),
 oM 117 (.binI .sub 3 (.tmp 115) (.tmp 116) (.t 115) (.t 116)),
 oM 118 (.mv (.t 2)),
 oM 119 (.mv (.t 16)),
 oM 120 (.binI .sub 3 (.tmp 118) (.tmp 119) (.t 118) (.t 119)),
 oM 18 (.mv (.t 117)),
 oM 19 (.mv (.t 120))])
    (.seq (.ops [oM 121 (.mv (.t 12)),
 oM 122 (.binI .quo 3 (.tmp 121) (.const (.int .i64 8)) (.t 121) (.c (.int .i64 8))),
 oM 20 (.mv (.t 122))])
    (.seq (.ops [oM 123 (.mv (.t 18)),
 oM 124 (.mv (.t 19)),
 oM 125 (.binI .lss 3 (.tmp 123) (.tmp 124) (.t 123) (.t 124))])
    (.cond (.t 125)
      (.seq (.ops [oM 126 (.mv (.t 18)),
 oM 127 (.mv (.t 20)),
 oM 128 (.binI .geq 3 (.tmp 126) (.tmp 127) (.t 126) (.t 127)),
 oM 10 (.mv (.t 128))])
      (.seq (.ops [oM 129 (.mv (.t 0)),
 oM 130 (.mv (.t 1)),
 oM 131 (.mv (.t 16)),
 oM 132 (.mv (.t 3)),
 oM 133 (.mv (.t 4)),
 oM 134 (.call (.c (.func (.func 40) [] [])) [(.t 129), (.t 130), (.t 131), (.t 132), (.t 133)])])
      (.ops [oM 135 (.mv (.t 16)),
 oM 136 (.binI .add 3 (.tmp 135) (.const (.int .i64 1)) (.t 135) (.c (.int .i64 1))),
 oM 1 (.mv (.t 136))])))
      (.seq (.ops [oM 137 (.mv (.t 19)),
 oM 138 (.mv (.t 20)),
 oM 139 (.binI .geq 3 (.tmp 137) (.tmp 138) (.t 137) (.t 138)),
 oM 10 (.mv (.t 139))])
      (.seq (.ops [oM 140 (.mv (.t 0)),
 oM 141 (.mv (.t 16)),
 oM 142 (.binI .add 3 (.tmp 141) (.const (.int .i64 1)) (.t 141) (.c (.int .i64 1))),
 oM 143 (.mv (.t 2)),
 oM 144 (.mv (.t 3)),
 oM 145 (.mv (.t 4)),
 oM 146 (.call (.c (.func (.func 40) [] [])) [(.t 140), (.t 142), (.t 143), (.t 144), (.t 145)])])
      (.ops [oM 147 (.mv (.t 16)),
 oM 2 (.mv (.t 147))]))))))))))))))))))
noncomputable def x40 : XC :=
  (.seq (.ops [oM 10 (.mv (.c (.bool true)))])
  (.seq (.ops [oM 11 (.mv (.c (.bool true)))])
  (.block 0
    (.loop l40_0))))
theorem code40 : codeOf C 40 F40 = x40 := by kernel_rfl
theorem ok40 {Q : Ctx} (hK : K Q) : FnOk Q 40 F40 x40 false := hK.ok_ ⟨fn40, code40, by kernel_rfl, by kernel_rfl⟩
noncomputable def b41 : Code := Tryz.f41.body.getD .skip
noncomputable def F41 : FI := ⟨8, [.tmp 2], b41⟩
theorem fn41 : C.fn 41 = some F41 := by kernel_rfl
noncomputable def x41 : XC :=
  (.seq (.ops [oM 2 (.mv (.c (.int .i64 0)))])
  (.seq (.cond (.c (.bool false))
    (.seq (.ops [oM 3 (.mv (.t 0)),
 oM 4 (.gen ⟨some 4, .convert 85 119 (.tmp 3), 0, "", #[], none⟩),
 oM 5 (.call (.c (.func (.func 85) [] [])) [(.t 4)]),
 oM 2 (.mv (.t 5))])
    .ret)
    .skip)
  (.seq (.ops [oM 6 (.mv (.t 0)),
 oM 7 (.call (.c (.func (.func 86) [] [])) [(.t 6)]),
 oM 2 (.mv (.t 7))])
  .ret)))
theorem code41 : codeOf C 41 F41 = x41 := by kernel_rfl
theorem ok41 {Q : Ctx} (hK : K Q) : FnOk Q 41 F41 x41 false := hK.ok_ ⟨fn41, code41, by kernel_rfl, by kernel_rfl⟩
noncomputable def b42 : Code := Tryz.f42.body.getD .skip
noncomputable def F42 : FI := ⟨11, [.tmp 6], b42⟩
theorem fn42 : C.fn 42 = some F42 := by kernel_rfl
noncomputable def x42 : XC :=
  (.seq (.ops [oM 6 (.mv (.c (.int .i64 0)))])
  (.seq (.ops [oM 7 (.mv (.t 0)),
 oM 8 (.mv (.t 1)),
 oM 9 (.mv (.t 2)),
 oM 10 (.call (.c (.func (.func 87) [] [])) [(.t 7), (.t 8), (.t 9)]),
 oM 6 (.mv (.t 10))])
  .ret))
theorem code42 : codeOf C 42 F42 = x42 := by kernel_rfl
theorem ok42 {Q : Ctx} (hK : K Q) : FnOk Q 42 F42 x42 false := hK.ok_ ⟨fn42, code42, by kernel_rfl, by kernel_rfl⟩
noncomputable def b43 : Code := Tryz.f43.body.getD .skip
noncomputable def F43 : FI := ⟨17, [.tmp 4], b43⟩
theorem fn43 : C.fn 43 = some F43 := by kernel_rfl
noncomputable def d43_0 : Array Oper := (drawsOf b43).getD 0 #[]
theorem kd43_0 : drawCr d43_0 = [none, none, none, none, (some ([none, none, none, none, none, none, (some none), none, (some none), none, none, none, none], [true, true, true, true, false, false, false, false, false, false, false, false, false])), none, none, none, none, (some ([none, none, none, none, none, none, none, none, none, none, none, none, none], [true, true, true, true, true, true, true, true, true, false, false, false, false])), none, (some ([none, none, none, none, none, none, none, none, none, none, none, none, none], [true, true, true, true, true, true, true, true, true, true, true, false, false])), none] := by kernel_rfl
noncomputable def x43 : XC :=
  (.seq (.ops [oM 2 (.box 24 (.t 0)),
 oM 3 (.box 24 (.t 1)),
 oM 4 (.mv (.c (.int .i64 0)))])
  (.seq (.draw d43_0 [oM 5 (.fieldAddr 1 (.t 2)),
 oM 6 (.load false 1 (.t 5)),
 oM 7 (.fieldAddr 1 (.t 3)),
 oM 8 (.load false 1 (.t 7)),
 oM 9 (.call (.c (.func (.func 45) [] [])) [(.t 6), (.t 8)]),
 oM 10 (.fieldAddr 2 (.t 2)),
 oM 11 (.load false 1 (.t 10)),
 oM 12 (.fieldAddr 2 (.t 3)),
 oM 13 (.load false 1 (.t 12)),
 oM 14 (.call (.c (.func (.func 46) [] [])) [(.t 11), (.t 13), (.c (.func (.func 45) [] []))]),
 oM 15 (.buildS false 3 1 2 [(0, (.t 9)), (1, (.t 14))]),
 oM 16 (.call (.c (.func (.func 44) [] [])) [(.t 15)]),
 oM 4 (.mv (.t 16))])
  .ret))
theorem code43 : codeOf C 43 F43 = x43 := by kernel_rfl
theorem ok43 {Q : Ctx} (hK : K Q) : FnOk Q 43 F43 x43 false := hK.ok_ ⟨fn43, code43, by kernel_rfl, by kernel_rfl⟩
noncomputable def b44 : Code := Tryz.f44.body.getD .skip
noncomputable def F44 : FI := ⟨18, [.tmp 2], b44⟩
theorem fn44 : C.fn 44 = some F44 := by kernel_rfl
noncomputable def l44_0 : XC :=
  (.seq (.ops [oM 9 (.binI .lss 3 (.tmp 8) (.tmp 7) (.t 8) (.t 7))])
  (.seq (.cond (.t 9)
    .skip
    (.exit 0))
  (.seq (.block 1
    (.seq (.ops [oM 10 (.idxS 1 (.t 6) (.t 8)),
 oM 11 (.load false 1 (.t 10)),
 oM 5 (.mv (.t 11))])
    (.seq (.ops [oM 12 (.mv (.t 5)),
 oM 13 (.mv (.t 3)),
 oM 14 (.binI .neq 3 (.tmp 12) (.tmp 13) (.t 12) (.t 13))])
    (.cond (.t 14)
      (.seq (.ops [oM 15 (.mv (.t 5)),
 oM 2 (.mv (.t 15))])
      .ret)
      .skip))))
  (.ops [oM 16 (.binI .add 3 (.tmp 8) (.const (.int .i64 1)) (.t 8) (.c (.int .i64 1))),
 oM 8 (.mv (.t 16))]))))
noncomputable def x44 : XC :=
  (.seq (.ops [oM 2 (.mv (.c (.int .i64 0)))])
  (.seq (.ops [oM 3 (.mv (.c (.int .i64 0)))])
  (.seq (.seq (.ops [oM 6 (.mv (.t 0)),
 oM 7 (.lenS (.t 6)),
 oM 8 (.mv (.c (.int .i64 0)))])
  (.block 0
    (.loop l44_0)))
  (.seq (.ops [oM 17 (.mv (.t 3)),
 oM 2 (.mv (.t 17))])
  .ret))))
theorem code44 : codeOf C 44 F44 = x44 := by kernel_rfl
theorem ok44 {Q : Ctx} (hK : K Q) : FnOk Q 44 F44 x44 false := hK.ok_ ⟨fn44, code44, by kernel_rfl, by kernel_rfl⟩
noncomputable def b45 : Code := Tryz.f45.body.getD .skip
noncomputable def F45 : FI := ⟨20, [.tmp 4], b45⟩
theorem fn45 : C.fn 45 = some F45 := by kernel_rfl
noncomputable def x45 : XC :=
  (.seq (.ops [oM 4 (.mv (.c (.int .i64 0)))])
  (.seq (.ops [oM 7 (.mv (.t 0)),
 oM 8 (.call (.c (.func (.func 88) [] [])) [(.t 7)]),
 oM 5 (.mv (.t 8))])
  (.seq (.ops [oM 9 (.mv (.t 1)),
 oM 10 (.call (.c (.func (.func 88) [] [])) [(.t 9)]),
 oM 6 (.mv (.t 10))])
  (.seq (.seq (.ops [oM 11 (.mv (.t 5))])
  (.cond (.t 11)
    (.seq (.seq (.ops [oM 12 (.mv (.t 6))])
    (.cond (.t 12)
      (.seq (.ops [oM 4 (.mv (.c (.int .i64 0)))])
      .ret)
      .skip))
    (.seq (.ops [oM 4 (.mv (.c (.int .i64 (-1))))])
    .ret))
    .skip))
  (.seq (.seq (.ops [oM 13 (.mv (.t 6))])
  (.cond (.t 13)
    (.seq (.ops [oM 4 (.mv (.c (.int .i64 1)))])
    .ret)
    .skip))
  (.seq (.seq (.ops [oM 14 (.mv (.t 0)),
 oM 15 (.mv (.t 1)),
 oM 16 (.binI .lss 3 (.tmp 14) (.tmp 15) (.t 14) (.t 15))])
  (.cond (.t 16)
    (.seq (.ops [oM 4 (.mv (.c (.int .i64 (-1))))])
    .ret)
    .skip))
  (.seq (.seq (.ops [oM 17 (.mv (.t 0)),
 oM 18 (.mv (.t 1)),
 oM 19 (.binI .gtr 3 (.tmp 17) (.tmp 18) (.t 17) (.t 18))])
  (.cond (.t 19)
    (.seq (.ops [oM 4 (.mv (.c (.int .i64 1)))])
    .ret)
    .skip))
  (.seq (.ops [oM 4 (.mv (.c (.int .i64 0)))])
  .ret))))))))
theorem code45 : codeOf C 45 F45 = x45 := by kernel_rfl
theorem ok45 {Q : Ctx} (hK : K Q) : FnOk Q 45 F45 x45 false := hK.ok_ ⟨fn45, code45, by kernel_rfl, by kernel_rfl⟩
noncomputable def b46 : Code := Tryz.f46.body.getD .skip
noncomputable def F46 : FI := ⟨11, [.tmp 6], b46⟩
theorem fn46 : C.fn 46 = some F46 := by kernel_rfl
noncomputable def x46 : XC :=
  (.seq (.ops [oM 6 (.mv (.c (.int .i64 0)))])
  (.seq (.ops [oM 7 (.mv (.t 0)),
 oM 8 (.mv (.t 1)),
 oM 9 (.mv (.t 2)),
 oM 10 (.call (.c (.func (.func 89) [] [])) [(.t 7), (.t 8), (.t 9)]),
 oM 6 (.mv (.t 10))])
  .ret))
theorem code46 : codeOf C 46 F46 = x46 := by kernel_rfl
theorem ok46 {Q : Ctx} (hK : K Q) : FnOk Q 46 F46 x46 false := hK.ok_ ⟨fn46, code46, by kernel_rfl, by kernel_rfl⟩
noncomputable def b48 : Code := Tryz.f48.body.getD .skip
noncomputable def F48 : FI := ⟨9, [.tmp 4], b48⟩
theorem fn48 : C.fn 48 = some F48 := by kernel_rfl
noncomputable def x48 : XC :=
  (.seq (.ops [oM 4 (.mv (.c (.bool false)))])
  (.seq (.ops [oM 5 (.mv (.t 0)),
 oM 6 (.mv (.t 1)),
 oM 7 (.call (.c (.func (.func 90) [] [])) [(.t 5), (.t 6)]),
 oM 8 (.binI .geq 3 (.tmp 7) (.const (.int .i64 0)) (.t 7) (.c (.int .i64 0))),
 oM 4 (.mv (.t 8))])
  .ret))
theorem code48 : codeOf C 48 F48 = x48 := by kernel_rfl
theorem ok48 {Q : Ctx} (hK : K Q) : FnOk Q 48 F48 x48 false := hK.ok_ ⟨fn48, code48, by kernel_rfl, by kernel_rfl⟩
noncomputable def b49 : Code := Tryz.f49.body.getD .skip
noncomputable def F49 : FI := ⟨6, [.tmp 2], b49⟩
theorem fn49 : C.fn 49 = some F49 := by kernel_rfl
noncomputable def x49 : XC :=
  (.seq (.ops [oM 2 (.mv (.c (.bool false)))])
  (.seq (.ops [oM 3 (.mv (.t 0)),
 oM 4 (.call (.c (.func (.func 30) [] [])) [(.t 3)]),
 oM 5 (.un .not (.t 4)),
 oM 2 (.mv (.t 5))])
  .ret))
theorem code49 : codeOf C 49 F49 = x49 := by kernel_rfl
theorem ok49 {Q : Ctx} (hK : K Q) : FnOk Q 49 F49 x49 false := hK.ok_ ⟨fn49, code49, by kernel_rfl, by kernel_rfl⟩
noncomputable def b51 : Code := Tryz.f51.body.getD .skip
noncomputable def F51 : FI := ⟨15, [.tmp 2], b51⟩
theorem fn51 : C.fn 51 = some F51 := by kernel_rfl
noncomputable def d51_0 : Array Oper := (drawsOf b51).getD 0 #[]
theorem kd51_0 : drawCr d51_0 = [none, none, none, none, none, none, none, none, none, (some ([none, none, none, none, none, none, none, none, none, none, none, none, none], [true, true, true, true, true, true, true, true, true, false, false, false, false])), none, (some ([none, none, none, none, none, none, none, none, none, none, none, none, none], [true, true, true, true, true, true, true, true, true, true, true, false, false])), none] := by kernel_rfl
noncomputable def x51 : XC :=
  (.seq (.ops [oM 2 (.mv (.c (.slice .nil [])))])
  (.seq (.draw d51_0 [oM 3 (.mv (.t 0)),
 oM 4 (.idxS 3 (.t 3) (.c (.int .i64 0))),
 oM 5 (.fieldAddr 1 (.t 4)),
 oM 6 (.load false 1 (.t 5)),
 oM 7 (.mv (.t 0)),
 oM 8 (.idxS 3 (.t 7) (.c (.int .i64 1))),
 oM 9 (.fieldAddr 1 (.t 8)),
 oM 10 (.load false 1 (.t 9)),
 oM 11 (.binI .add 3 (.tmp 6) (.tmp 10) (.t 6) (.t 10)),
 oM 12 (.call (.c (.func (.func 53) [] [])) [(.t 11)]),
 oM 13 (.buildS true 24 3 1 [(0, (.t 12))]),
 oM 14 (.call (.c (.func (.func 52) [] [])) [(.t 13)]),
 oM 2 (.mv (.t 14))])
  .ret))
theorem code51 : codeOf C 51 F51 = x51 := by kernel_rfl
theorem ok51 {Q : Ctx} (hK : K Q) : FnOk Q 51 F51 x51 true := hK.ok_ ⟨fn51, code51, by kernel_rfl, by kernel_rfl⟩
noncomputable def b52 : Code := Tryz.f52.body.getD .skip
noncomputable def F52 : FI := ⟨5, [.tmp 2], b52⟩
theorem fn52 : C.fn 52 = some F52 := by kernel_rfl
noncomputable def x52 : XC :=
  (.seq (.ops [oM 2 (.mv (.c (.slice .nil [])))])
  (.seq (.ops [oM 3 (.mv (.t 0)),
 oM 4 (.buildS true 33 1 1 [(0, (.t 3))]),
 oM 2 (.mv (.t 4))])
  .ret))
theorem code52 : codeOf C 52 F52 = x52 := by kernel_rfl
theorem ok52 {Q : Ctx} (hK : K Q) : FnOk Q 52 F52 x52 true := hK.ok_ ⟨fn52, code52, by kernel_rfl, by kernel_rfl⟩
noncomputable def b53 : Code := Tryz.f53.body.getD .skip
noncomputable def F53 : FI := ⟨5, [.cell 2 24], b53⟩
theorem fn53 : C.fn 53 = some F53 := by kernel_rfl
noncomputable def x53 : XC :=
  (.seq (.ops [oM 2 (.alloc 24 [(.bool false), (.int .i64 0), (.slice .nil [])])])
  (.seq (.ops [oM 3 (.mv (.t 0)),
 oM 4 (.build [(.bool false), (.int .i64 0), (.slice .nil [])] [(0, 1), (1, 1), (2, 1)] [(1, (.t 3))]),
 ⟨none, .store 3 (.t 2) (.t 4), none⟩])
  .ret))
theorem code53 : codeOf C 53 F53 = x53 := by kernel_rfl
theorem ok53 {Q : Ctx} (hK : K Q) : FnOk Q 53 F53 x53 false := hK.ok_ ⟨fn53, code53, by kernel_rfl, by kernel_rfl⟩
noncomputable def b54 : Code := Tryz.f54.body.getD .skip
noncomputable def F54 : FI := ⟨15, [.tmp 2], b54⟩
theorem fn54 : C.fn 54 = some F54 := by kernel_rfl
noncomputable def d54_0 : Array Oper := (drawsOf b54).getD 0 #[]
theorem kd54_0 : drawCr d54_0 = [none, none, none, none, none, none, none, none, none, (some ([none, none, none, none, none, none, none, none, none, none, none, none, none], [true, true, true, true, true, true, true, true, true, false, false, false, false])), none, (some ([none, none, none, none, none, none, none, none, none, none, none, none, none], [true, true, true, true, true, true, true, true, true, true, true, false, false])), none] := by kernel_rfl
noncomputable def x54 : XC :=
  (.seq (.ops [oM 2 (.mv (.c (.slice .nil [])))])
  (.seq (.draw d54_0 [oM 3 (.mv (.t 0)),
 oM 4 (.idxS 3 (.t 3) (.c (.int .i64 0))),
 oM 5 (.fieldAddr 1 (.t 4)),
 oM 6 (.load false 1 (.t 5)),
 oM 7 (.mv (.t 0)),
 oM 8 (.idxS 3 (.t 7) (.c (.int .i64 1))),
 oM 9 (.fieldAddr 1 (.t 8)),
 oM 10 (.load false 1 (.t 9)),
 oM 11 (.binI .mul 3 (.tmp 6) (.tmp 10) (.t 6) (.t 10)),
 oM 12 (.call (.c (.func (.func 53) [] [])) [(.t 11)]),
 oM 13 (.buildS true 24 3 1 [(0, (.t 12))]),
 oM 14 (.call (.c (.func (.func 52) [] [])) [(.t 13)]),
 oM 2 (.mv (.t 14))])
  .ret))
theorem code54 : codeOf C 54 F54 = x54 := by kernel_rfl
theorem ok54 {Q : Ctx} (hK : K Q) : FnOk Q 54 F54 x54 true := hK.ok_ ⟨fn54, code54, by kernel_rfl, by kernel_rfl⟩
noncomputable def b56 : Code := Tryz.f56.body.getD .skip
noncomputable def F56 : FI := ⟨6, [.tmp 2], b56⟩
theorem fn56 : C.fn 56 = some F56 := by kernel_rfl
noncomputable def x56 : XC :=
  (.seq (.ops [oM 2 (.mv (.c (.slice .nil [])))])
  (.seq (.seq (.ops [oM 3 (.mv (.t 0))])
  (.cond (.t 3)
    (.seq (.ops [oM 4 (.buildS true 24 3 0 []),
 oM 5 (.buildS true 33 1 1 [(0, (.t 4))]),
 oM 2 (.mv (.t 5))])
    .ret)
    .skip))
  (.seq (.ops [oM 2 (.mv (.c (.slice .nil [])))])
  .ret)))
theorem code56 : codeOf C 56 F56 = x56 := by kernel_rfl
theorem ok56 {Q : Ctx} (hK : K Q) : FnOk Q 56 F56 x56 true := hK.ok_ ⟨fn56, code56, by kernel_rfl, by kernel_rfl⟩
noncomputable def b57 : Code := Tryz.f57.body.getD .skip
noncomputable def F57 : FI := ⟨16, [.tmp 2], b57⟩
theorem fn57 : C.fn 57 = some F57 := by kernel_rfl
noncomputable def d57_0 : Array Oper := (drawsOf b57).getD 0 #[]
theorem kd57_0 : drawCr d57_0 = [none, none, none, none, none, none, none, none, none, (some ([none, none, none, none, none, none, none, none, none, none, none, none, none, none], [true, true, true, true, true, true, true, true, true, false, false, false, false, false])), (some ([none, none, none, none, none, none, none, none, none, none, none, none, none, none], [true, true, true, true, true, true, true, true, true, true, false, false, false, false])), none, (some ([none, none, none, none, none, none, none, none, none, none, none, none, none, none], [true, true, true, true, true, true, true, true, true, true, true, true, false, false])), none] := by kernel_rfl
noncomputable def x57 : XC :=
  (.seq (.ops [oM 2 (.mv (.c (.slice .nil [])))])
  (.seq (.draw d57_0 [oM 3 (.mv (.t 0)),
 oM 4 (.idxS 3 (.t 3) (.c (.int .i64 0))),
 oM 5 (.fieldAddr 2 (.t 4)),
 oM 6 (.load false 1 (.t 5)),
 oM 7 (.mv (.t 0)),
 oM 8 (.idxS 3 (.t 7) (.c (.int .i64 1))),
 oM 9 (.fieldAddr 2 (.t 8)),
 oM 10 (.load false 1 (.t 9)),
 oM 11 (.buildS true 22 1 2 [(0, (.t 6)), (1, (.t 10))]),
 oM 12 (.call (.c (.func (.func 59) [] [])) [(.t 11)]),
 oM 13 (.call (.c (.func (.func 58) [] [])) [(.t 12)]),
 oM 14 (.buildS true 24 3 1 [(0, (.t 13))]),
 oM 15 (.call (.c (.func (.func 52) [] [])) [(.t 14)]),
 oM 2 (.mv (.t 15))])
  .ret))
theorem code57 : codeOf C 57 F57 = x57 := by kernel_rfl
theorem ok57 {Q : Ctx} (hK : K Q) : FnOk Q 57 F57 x57 true := hK.ok_ ⟨fn57, code57, by kernel_rfl, by kernel_rfl⟩
noncomputable def b58 : Code := Tryz.f58.body.getD .skip
noncomputable def F58 : FI := ⟨5, [.cell 2 24], b58⟩
theorem fn58 : C.fn 58 = some F58 := by kernel_rfl
noncomputable def x58 : XC :=
  (.seq (.ops [oM 2 (.alloc 24 [(.bool false), (.int .i64 0), (.slice .nil [])])])
  (.seq (.ops [oM 3 (.mv (.t 0)),
 oM 4 (.build [(.bool false), (.int .i64 0), (.slice .nil [])] [(0, 1), (1, 1), (2, 1)] [(0, (.c (.bool true))), (2, (.t 3))]),
 ⟨none, .store 3 (.t 2) (.t 4), none⟩])
  .ret))
theorem code58 : codeOf C 58 F58 = x58 := by kernel_rfl
theorem ok58 {Q : Ctx} (hK : K Q) : FnOk Q 58 F58 x58 false := hK.ok_ ⟨fn58, code58, by kernel_rfl, by kernel_rfl⟩
noncomputable def b59 : Code := Tryz.f59.body.getD .skip
noncomputable def F59 : FI := ⟨36, [.tmp 2], b59⟩
theorem fn59 : C.fn 59 = some F59 := by kernel_rfl
noncomputable def l59_0 : XC :=
  (.seq (.ops [oM 12 (.binI .lss 3 (.tmp 11) (.tmp 10) (.t 11) (.t 10))])
  (.seq (.cond (.t 12)
    .skip
    (.exit 0))
  (.seq (.block 1
    (.seq (.ops [oM 13 (.idxS 1 (.t 9) (.t 11)),
 oM 14 (.load false 1 (.t 13)),
 oM 5 (.mv (.t 14))])
    (.seq (.ops [oM 15 (.mv (.t 3)),
 oM 16 (.mv (.t 5)),
 oM 17 (.lenS (.t 16)),
 oM 18 (.binI .add 3 (.tmp 15) (.tmp 17) (.t 15) (.t 17)),
 oM 3 (.mv (.t 18))])
    (.seq (.ops [oM 19 (.mv (.t 3)),
 oM 20 (.binI .lss 3 (.tmp 19) (.const (.int .i64 0)) (.t 19) (.c (.int .i64 0)))])
    (.cond (.t 20)
      (.ops [oM 21 (.gen ⟨some 21, .makeInterface 9 (.const (.string ⟨#[108, 101, 110, 32, 111, 117, 116, 32, 111, 102, 32, 114, 97, 110, 103, 101]⟩)), 0, "", #[], none⟩),
 ⟨none, .gen ⟨none, .panic (.tmp 21), 0, "", #[], none⟩, none⟩])
      .skip)))))
  (.ops [oM 22 (.binI .add 3 (.tmp 11) (.const (.int .i64 1)) (.t 11) (.c (.int .i64 1))),
 oM 11 (.mv (.t 22))]))))
noncomputable def l59_1 : XC :=
  (.seq (.ops [oM 28 (.binI .lss 3 (.tmp 27) (.tmp 26) (.t 27) (.t 26))])
  (.seq (.cond (.t 28)
    .skip
    (.exit 2))
  (.seq (.block 3
    (.seq (.ops [oM 29 (.idxS 1 (.t 25) (.t 27)),
 oM 30 (.load false 1 (.t 29)),
 oM 8 (.mv (.t 30))])
    (.ops [oM 31 (.mv (.t 6)),
 oM 32 (.mv (.t 8)),
 oM 33 (.app true 3 T3 (.t 31) (.t 32)),
 oM 6 (.mv (.t 33))])))
  (.ops [oM 34 (.binI .add 3 (.tmp 27) (.const (.int .i64 1)) (.t 27) (.c (.int .i64 1))),
 oM 27 (.mv (.t 34))]))))
noncomputable def x59 : XC :=
  (.seq (.ops [oM 2 (.mv (.c (.slice .nil [])))])
  (.seq (.ops [oM 3 (.mv (.c (.int .i64 0)))])
  (.seq (.seq (.ops [oM 9 (.mv (.t 0)),
 oM 10 (.lenS (.t 9)),
 oM 11 (.mv (.c (.int .i64 0)))])
  (.block 0
    (.loop l59_0)))
  (.seq (.ops [oM 23 (.mv (.t 3)),
 oM 24 (.call (.c (.func (.func 92) [] [])) [(.c (.slice .nil [])), (.t 23)]),
 oM 6 (.mv (.t 24))])
  (.seq (.seq (.ops [oM 25 (.mv (.t 0)),
 oM 26 (.lenS (.t 25)),
 oM 27 (.mv (.c (.int .i64 0)))])
  (.block 2
    (.loop l59_1)))
  (.seq (.ops [oM 35 (.mv (.t 6)),
 oM 2 (.mv (.t 35))])
  .ret))))))
theorem code59 : codeOf C 59 F59 = x59 := by kernel_rfl
theorem ok59 {Q : Ctx} (hK : K Q) : FnOk Q 59 F59 x59 true := hK.ok_ ⟨fn59, code59, by kernel_rfl, by kernel_rfl⟩
noncomputable def b60 : Code := Tryz.f60.body.getD .skip
noncomputable def F60 : FI := ⟨31, [.tmp 2], b60⟩
theorem fn60 : C.fn 60 = some F60 := by kernel_rfl
noncomputable def d60_0 : Array Oper := (drawsOf b60).getD 0 #[]
theorem kd60_0 : drawCr d60_0 = [none, none, none, none, (some ([none, none, none, none, none, none, none, none, (some (some [false, false, false, false, false, false, true, true, false, false, false, false, false, false, false])), none, none, none, none, none, none], [false, true, true, true, false, false, false, false, false, false, false, false, false, false, false])), (some ([none, none, none, none, none, none, none, none, (some (some [false, false, false, false, false, false, true, true, false, false, false, false, false, false, false])), none, none, none, none, none, none], [false, true, true, true, true, false, false, false, false, false, false, false, false, false, false])), none, none, none, (some ([none, none, none, none, none, none, none, none, none, none, none, none, none, none, none], [false, true, true, true, true, true, true, true, true, false, false, false, false, false, false])), (some ([none, none, none, none, none, none, none, none, none, none, none, none, none, none, none], [false, true, true, true, true, true, true, true, true, true, false, false, false, false, false])), none, none, (some ([none, none, none, none, none, none, none, none, none, none, none, none, none, none, none], [true, true, true, true, true, true, true, true, true, true, true, true, true, false, false])), none] := by kernel_rfl
noncomputable def l60_0 : XC :=
  (.seq (.ops [oM 13 (.binI .lss 3 (.tmp 12) (.tmp 11) (.t 12) (.t 11))])
  (.seq (.cond (.t 13)
    .skip
    (.exit 0))
  (.seq (.block 1
    (.seq (.ops [oM 14 (.mv (.t 12)),
 oM 4 (.mv (.t 14))])
    (.draw d60_0 [oM 15 (.mv (.t 2)),
 oM 16 (.mv (.t 3)),
 oM 17 (.mv (.t 4)),
 oM 18 (.gen ⟨some 18, .slice 22 (.tmp 16) none (some (.tmp 17)) none, 0, "", #[], none⟩),
 oM 19 (.call (.c (.func (.func 62) [] [])) [(.t 18)]),
 oM 20 (.call (.c (.func (.func 58) [] [])) [(.t 19)]),
 oM 21 (.mv (.t 3)),
 oM 22 (.mv (.t 4)),
 oM 23 (.gen ⟨some 23, .slice 22 (.tmp 21) (some (.tmp 22)) none none, 0, "", #[], none⟩),
 oM 24 (.call (.c (.func (.func 62) [] [])) [(.t 23)]),
 oM 25 (.call (.c (.func (.func 58) [] [])) [(.t 24)]),
 oM 26 (.buildS true 24 3 2 [(0, (.t 20)), (1, (.t 25))]),
 oM 27 (.buildS true 33 1 1 [(0, (.t 26))]),
 oM 28 (.app true 33 T33 (.t 15) (.t 27)),
 oM 2 (.mv (.t 28))])))
  (.ops [oM 29 (.binI .add 3 (.tmp 12) (.const (.int .i64 1)) (.t 12) (.c (.int .i64 1))),
 oM 12 (.mv (.t 29))]))))
noncomputable def x60 : XC :=
  (.seq (.ops [oM 2 (.mv (.c (.slice .nil [])))])
  (.seq (.ops [oM 5 (.mv (.t 0)),
 oM 6 (.idxS 3 (.t 5) (.c (.int .i64 0))),
 oM 7 (.fieldAddr 2 (.t 6)),
 oM 8 (.load false 1 (.t 7)),
 oM 3 (.mv (.t 8))])
  (.seq (.seq (.ops [oM 9 (.mv (.t 3)),
 oM 10 (.lenS (.t 9)),
 oM 11 (.binI .add 3 (.tmp 10) (.const (.int .i64 1)) (.t 10) (.c (.int .i64 1))),
 oM 12 (.mv (.c (.int .i64 0)))])
  (.block 0
    (.loop l60_0)))
  (.seq (.ops [oM 30 (.mv (.t 2)),
 oM 2 (.mv (.t 30))])
  .ret))))
theorem code60 : codeOf C 60 F60 = x60 := by kernel_rfl
theorem ok60 {Q : Ctx} (hK : K Q) : FnOk Q 60 F60 x60 true := hK.ok_ ⟨fn60, code60, by kernel_rfl, by kernel_rfl⟩
noncomputable def b62 : Code := Tryz.f62.body.getD .skip
noncomputable def F62 : FI := ⟨8, [.tmp 2], b62⟩
theorem fn62 : C.fn 62 = some F62 := by kernel_rfl
noncomputable def x62 : XC :=
  (.seq (.ops [oM 2 (.mv (.c (.slice .nil [])))])
  (.seq (.seq (.ops [oM 3 (.mv (.t 0)),
 oM 4 (.gen ⟨some 4, .binOp .eql 22 (.tmp 3) (.const (.slice none 0 0)) 22, 0, "", #[], none⟩)])
  (.cond (.t 4)
    (.seq (.ops [oM 2 (.mv (.c (.slice .nil [])))])
    .ret)
    .skip))
  (.seq (.ops [oM 5 (.buildS true 3 1 0 []),
 oM 6 (.mv (.t 0)),
 oM 7 (.app true 3 T3 (.t 5) (.t 6)),
 oM 2 (.mv (.t 7))])
  .ret)))
theorem code62 : codeOf C 62 F62 = x62 := by kernel_rfl
theorem ok62 {Q : Ctx} (hK : K Q) : FnOk Q 62 F62 x62 true := hK.ok_ ⟨fn62, code62, by kernel_rfl, by kernel_rfl⟩
noncomputable def b66 : Code := Tryz.f66.body.getD .skip
noncomputable def F66 : FI := ⟨17, [.cell 2 28], b66⟩
theorem fn66 : C.fn 66 = some F66 := by kernel_rfl
noncomputable def d66_0 : Array Oper := (drawsOf b66).getD 0 #[]
theorem kd66_0 : drawCr d66_0 = [none, none, (some ([(some none), none, none, none, none, none, none], [false, true, false, false, false, false, false])), none, none, (some ([none, none, none, none, none, none, none], [true, true, true, true, true, false, false])), (some ([none, none, none, none, none, none, none], [true, true, true, true, true, true, false]))] := by kernel_rfl
noncomputable def q66_0 : Code × Code := (rangesOf b66).getD 0 (.skip, .skip)
noncomputable def x66 : XC :=
  (.seq (.ops [oM 2 (.alloc 28 [(.slice .nil [])])])
  (.seq (.seq (.ops [oM 4 (.mv (.t 0)),
 oM 5 (.idxS 3 (.t 4) (.c (.int .i64 0))),
 oM 6 (.fieldAddr 2 (.t 5)),
 oM 7 (.load false 1 (.t 6)),
 oM 8 (.call (.c (.func (.func 67) [] [])) [(.t 7)])])
  (.block 0
    (.rangeFunc (.t 8) [9] (q66_0).1 (q66_0).2)))
  (.seq (.ops [oM 16 (.load false 1 (.t 2)),
 ⟨none, .store 1 (.t 2) (.t 16), none⟩])
  .ret)))
theorem code66 : codeOf C 66 F66 = x66 := by kernel_rfl
theorem ok66 {Q : Ctx} (hK : K Q) : FnOk Q 66 F66 x66 true := hK.ok_ ⟨fn66, code66, by kernel_rfl, by kernel_rfl⟩
noncomputable def xa66_0 : XC :=
  (.ops [oM 3 (.mv (.t 9))])
theorem codea66_0 : compC C (C.mu 66) (resolveC q66_0.1) = xa66_0 := by kernel_rfl
noncomputable def xb66_0 : XC :=
  (.block 1
    (.draw d66_0 [oM 10 (.load false 1 (.t 2)),
 oM 11 (.mv (.t 3)),
 oM 12 (.call (.c (.func (.func 58) [] [])) [(.t 11)]),
 oM 13 (.buildS true 24 3 1 [(0, (.t 12))]),
 oM 14 (.buildS true 33 1 1 [(0, (.t 13))]),
 oM 15 (.app true 33 T33 (.t 10) (.t 14)),
 ⟨none, .store 1 (.t 2) (.t 15), none⟩]))
theorem codeb66_0 : compC C (C.mu 66) (resolveC q66_0.2) = xb66_0 := by kernel_rfl
noncomputable def b67 : Code := Tryz.f67.body.getD .skip
noncomputable def F67 : FI := ⟨4, [.tmp 2], b67⟩
theorem fn67 : C.fn 67 = some F67 := by kernel_rfl
noncomputable def x67 : XC :=
  (.seq (.ops [oM 1 (.box 22 (.t 0)),
 oM 2 (.mv (.c .nilfn))])
  (.seq (.ops [oM 3 (.mkFunc 93 [] [(.t 1)]),
 oM 2 (.mv (.t 3))])
  .ret))
theorem code67 : codeOf C 67 F67 = x67 := by kernel_rfl
theorem ok67 {Q : Ctx} (hK : K Q) : FnOk Q 67 F67 x67 false := hK.ok_ ⟨fn67, code67, by kernel_rfl, by kernel_rfl⟩
noncomputable def b68 : Code := Tryz.f68.body.getD .skip
noncomputable def F68 : FI := ⟨9, [.tmp 2], b68⟩
theorem fn68 : C.fn 68 = some F68 := by kernel_rfl
noncomputable def x68 : XC :=
  (.seq (.ops [oM 2 (.mv (.c (.slice .nil [])))])
  (.seq (.ops [oM 3 (.mv (.t 0)),
 oM 4 (.idxS 3 (.t 3) (.c (.int .i64 0))),
 oM 5 (.fieldAddr 2 (.t 4)),
 oM 6 (.load false 1 (.t 5)),
 oM 7 (.call (.c (.func (.func 69) [] [])) [(.t 6)]),
 oM 8 (.call (.c (.func (.func 56) [] [])) [(.t 7)]),
 oM 2 (.mv (.t 8))])
  .ret))
theorem code68 : codeOf C 68 F68 = x68 := by kernel_rfl
theorem ok68 {Q : Ctx} (hK : K Q) : FnOk Q 68 F68 x68 true := hK.ok_ ⟨fn68, code68, by kernel_rfl, by kernel_rfl⟩
noncomputable def b69 : Code := Tryz.f69.body.getD .skip
noncomputable def F69 : FI := ⟨21, [.tmp 2], b69⟩
theorem fn69 : C.fn 69 = some F69 := by kernel_rfl
noncomputable def d69_0 : Array Oper := (drawsOf b69).getD 0 #[]
theorem kd69_0 : drawCr d69_0 = [none, none, none, none, none, none, none, none, none, (some ([none, none, none, none, none, none, none, none, none, none], [true, true, true, true, true, true, true, true, true, false]))] := by kernel_rfl
noncomputable def l69_0 : XC :=
  (.seq (.seq (.ops [oM 7 (.mv (.t 3)),
 oM 8 (.binI .gtr 3 (.tmp 7) (.const (.int .i64 0)) (.t 7) (.c (.int .i64 0)))])
  (.cond (.t 8)
    .skip
    (.exit 0)))
  (.seq (.block 1
    (.seq (.draw d69_0 [oM 11 (.mv (.t 0)),
 oM 12 (.mv (.t 3)),
 oM 13 (.idxS 1 (.t 11) (.t 12)),
 oM 14 (.load false 1 (.t 13)),
 oM 15 (.mv (.t 0)),
 oM 16 (.mv (.t 3)),
 oM 17 (.binI .sub 3 (.tmp 16) (.const (.int .i64 1)) (.t 16) (.c (.int .i64 1))),
 oM 18 (.idxS 1 (.t 15) (.t 17)),
 oM 19 (.load false 1 (.t 18)),
 oM 20 (.call (.c (.func (.func 97) [] [])) [(.t 14), (.t 19)])])
    (.cond (.t 20)
      (.seq (.ops [oM 2 (.mv (.c (.bool false)))])
      .ret)
      .skip)))
  (.ops [oM 9 (.mv (.t 3)),
 oM 10 (.binI .sub 3 (.tmp 9) (.const (.int .i64 1)) (.t 9) (.c (.int .i64 1))),
 oM 3 (.mv (.t 10))])))
noncomputable def x69 : XC :=
  (.seq (.ops [oM 2 (.mv (.c (.bool false)))])
  (.seq (.seq (.ops [oM 4 (.mv (.t 0)),
 oM 5 (.lenS (.t 4)),
 oM 6 (.binI .sub 3 (.tmp 5) (.const (.int .i64 1)) (.t 5) (.c (.int .i64 1))),
 oM 3 (.mv (.t 6))])
  (.block 0
    (.loop l69_0)))
  (.seq (.ops [oM 2 (.mv (.c (.bool true)))])
  .ret)))
theorem code69 : codeOf C 69 F69 = x69 := by kernel_rfl
theorem ok69 {Q : Ctx} (hK : K Q) : FnOk Q 69 F69 x69 false := hK.ok_ ⟨fn69, code69, by kernel_rfl, by kernel_rfl⟩
noncomputable def b70 : Code := Tryz.f70.body.getD .skip
noncomputable def F70 : FI := ⟨12, [.tmp 2], b70⟩
theorem fn70 : C.fn 70 = some F70 := by kernel_rfl
noncomputable def x70 : XC :=
  (.seq (.ops [oM 2 (.mv (.c (.slice .nil [])))])
  (.seq (.ops [oM 3 (.mv (.t 0)),
 oM 4 (.idxS 3 (.t 3) (.c (.int .i64 0))),
 oM 5 (.fieldAddr 2 (.t 4)),
 oM 6 (.load false 1 (.t 5)),
 oM 7 (.call (.c (.func (.func 72) [] [])) [(.t 6)]),
 oM 8 (.call (.c (.func (.func 71) [] [])) [(.t 7)]),
 oM 9 (.call (.c (.func (.func 58) [] [])) [(.t 8)]),
 oM 10 (.buildS true 24 3 1 [(0, (.t 9))]),
 oM 11 (.call (.c (.func (.func 52) [] [])) [(.t 10)]),
 oM 2 (.mv (.t 11))])
  .ret))
theorem code70 : codeOf C 70 F70 = x70 := by kernel_rfl
theorem ok70 {Q : Ctx} (hK : K Q) : FnOk Q 70 F70 x70 true := hK.ok_ ⟨fn70, code70, by kernel_rfl, by kernel_rfl⟩
noncomputable def b71 : Code := Tryz.f71.body.getD .skip
noncomputable def F71 : FI := ⟨9, [.tmp 2], b71⟩
theorem fn71 : C.fn 71 = some F71 := by kernel_rfl
noncomputable def x71 : XC :=
  (.seq (.ops [oM 2 (.mv (.c (.slice .nil [])))])
  (.seq (.ops [oM 4 (.mv (.t 0)),
 oM 5 (.call (.c (.func (.func 98) [] [])) [(.t 4)]),
 oM 3 (.mv (.t 5))])
  (.seq (.ops [oM 6 (.mv (.t 3)),
 oM 7 (.call (.c (.func (.func 99) [] [])) [(.t 6)])])
  (.seq (.ops [oM 8 (.mv (.t 3)),
 oM 2 (.mv (.t 8))])
  .ret))))
theorem code71 : codeOf C 71 F71 = x71 := by kernel_rfl
theorem ok71 {Q : Ctx} (hK : K Q) : FnOk Q 71 F71 x71 true := hK.ok_ ⟨fn71, code71, by kernel_rfl, by kernel_rfl⟩
noncomputable def b72 : Code := Tryz.f72.body.getD .skip
noncomputable def F72 : FI := ⟨4, [.tmp 2], b72⟩
theorem fn72 : C.fn 72 = some F72 := by kernel_rfl
noncomputable def x72 : XC :=
  (.seq (.ops [oM 1 (.box 22 (.t 0)),
 oM 2 (.mv (.c .nilfn))])
  (.seq (.ops [oM 3 (.mkFunc 100 [] [(.t 1)]),
 oM 2 (.mv (.t 3))])
  .ret))
theorem code72 : codeOf C 72 F72 = x72 := by kernel_rfl
theorem ok72 {Q : Ctx} (hK : K Q) : FnOk Q 72 F72 x72 false := hK.ok_ ⟨fn72, code72, by kernel_rfl, by kernel_rfl⟩
noncomputable def b73 : Code := Tryz.f73.body.getD .skip
noncomputable def F73 : FI := ⟨64, [.tmp 2], b73⟩
noncomputable def l73_0 : XC :=
  (.seq (.ops [oM 40 (.gen ⟨some 40, .next (.tmp 39) false, 0, "", #[], none⟩),
 oM 41 (.extract (.t 40) 0)])
  (.seq (.cond (.t 41)
    .skip
    (.exit 2))
  (.block 3
    (.seq (.ops [oM 42 (.gen ⟨some 42, .entry (.tmp 39), 0, "", #[], none⟩),
 oM 43 (.extract (.t 42) 0),
 oM 7 (.alloc 131 [(.int .i64 0), (.int .i64 0)]),
 ⟨none, .store 2 (.t 7) (.t 43), none⟩])
    (.seq (.ops [oM 44 (.fieldAddr 0 (.t 7)),
 oM 45 (.load false 1 (.t 44)),
 oM 46 (.mv (.t 6)),
 oM 47 (.binI .eql 3 (.tmp 45) (.tmp 46) (.t 45) (.t 46)),
 oM 48 (.mv (.t 47)),
 ⟨some 49, .mv (.t 4), (some (some 48, true))⟩,
 ⟨some 50, .fieldAddr 1 (.t 7), (some (some 48, true))⟩,
 ⟨some 51, .load false 1 (.t 50), (some (some 48, true))⟩,
 ⟨some 52, .gen ⟨some 52, .lookup 129 (.tmp 49) (.tmp 51) false, 0, "", #[], none⟩, (some (some 48, true))⟩,
 ⟨some 53, .un .not (.t 52), (some (some 48, true))⟩,
 oM 54 (.pick (.t 48) (.t 53) (.c (.bool false)))])
    (.cond (.t 54)
      (.seq (.ops [oM 55 (.mv (.t 4)),
 oM 56 (.fieldAddr 1 (.t 7)),
 oM 57 (.load false 1 (.t 56)),
 ⟨none, .gen ⟨none, .mapUpdate 129 (.tmp 55) (.tmp 57) (.const (.bool true)), 0, "", #[], none⟩, none⟩])
      (.ops [oM 58 (.mv (.t 5)),
 oM 59 (.fieldAddr 1 (.t 7)),
 oM 60 (.load false 1 (.t 59)),
 oM 61 (.buildS true 3 1 1 [(0, (.t 60))]),
 oM 62 (.app true 3 T3 (.t 58) (.t 61)),
 oM 5 (.mv (.t 62))]))
      .skip))))))
noncomputable def l73_1 : XC :=
  (.seq (.seq (.ops [oM 24 (.mv (.t 5)),
 oM 25 (.lenS (.t 24)),
 oM 26 (.binI .gtr 3 (.tmp 25) (.const (.int .i64 0)) (.t 25) (.c (.int .i64 0)))])
  (.cond (.t 26)
    .skip
    (.exit 0)))
  (.block 1
    (.seq (.ops [oM 27 (.mv (.t 5)),
 oM 28 (.idxS 1 (.t 27) (.c (.int .i64 0))),
 oM 29 (.load false 1 (.t 28)),
 oM 6 (.mv (.t 29))])
    (.seq (.ops [oM 30 (.mv (.t 5)),
 oM 31 (.gen ⟨some 31, .slice 22 (.tmp 30) (some (.const (.int .i64 1))) none none, 0, "", #[], none⟩),
 oM 5 (.mv (.t 31))])
    (.seq (.ops [oM 32 (.mv (.t 2)),
 oM 33 (.mv (.t 6)),
 oM 34 (.call (.c (.func (.func 53) [] [])) [(.t 33)]),
 oM 35 (.buildS true 24 3 1 [(0, (.t 34))]),
 oM 36 (.buildS true 33 1 1 [(0, (.t 35))]),
 oM 37 (.app true 33 T33 (.t 32) (.t 36)),
 oM 2 (.mv (.t 37))])
    (.seq (.ops [oM 38 (.mv (.t 3)),
 oM 39 (.gen ⟨some 39, .range 127 (.tmp 38), 0, "", #[], none⟩)])
    (.block 2
      (.loop l73_0))))))))
noncomputable def x73 : XC :=
  (.seq (.ops [oM 2 (.mv (.c (.slice .nil [])))])
  (.seq (.ops [oM 8 (.mv (.t 0)),
 oM 9 (.idxS 3 (.t 8) (.c (.int .i64 1))),
 oM 10 (.fieldAddr 2 (.t 9)),
 oM 11 (.load false 1 (.t 10)),
 oM 12 (.call (.c (.func (.func 101) [] [])) [(.t 11)]),
 oM 3 (.mv (.t 12))])
  (.seq (.ops [oM 13 (.gen ⟨some 13, .makeMap 129 none, 0, "", #[], none⟩),
 oM 14 (.mv (.t 0)),
 oM 15 (.idxS 3 (.t 14) (.c (.int .i64 0))),
 oM 16 (.fieldAddr 1 (.t 15)),
 oM 17 (.load false 1 (.t 16)),
 ⟨none, .gen ⟨none, .insert 129 (.tmp 13) (.tmp 17) (.const (.bool true)), 0, "", #[], none⟩, none⟩,
 oM 18 (.mv (.t 13)),
 oM 4 (.mv (.t 18))])
  (.seq (.ops [oM 19 (.mv (.t 0)),
 oM 20 (.idxS 3 (.t 19) (.c (.int .i64 0))),
 oM 21 (.fieldAddr 1 (.t 20)),
 oM 22 (.load false 1 (.t 21)),
 oM 23 (.buildS true 3 1 1 [(0, (.t 22))]),
 oM 5 (.mv (.t 23))])
  (.seq (.block 0
    (.loop l73_1))
  (.seq (.ops [oM 63 (.mv (.t 2)),
 oM 2 (.mv (.t 63))])
  .ret))))))
theorem code73 : codeOf C 73 F73 = x73 := by kernel_rfl
noncomputable def b77 : Code := Tryz.f77.body.getD .skip
noncomputable def F77 : FI := ⟨53, [], b77⟩
theorem fn77 : C.fn 77 = some F77 := by kernel_rfl
noncomputable def d77_0 : Array Oper := (drawsOf b77).getD 0 #[]
theorem kd77_0 : drawCr d77_0 = [none, none, none, none, none, none, none, none, none, none, none, none, none, none, (some ([none, none, none, none, none, none, none, none, none, none, none, none, none, none, none, none, none], [true, true, true, true, true, true, true, true, true, true, true, true, true, true, false, false, false])), none, none] := by kernel_rfl
noncomputable def d77_1 : Array Oper := (drawsOf b77).getD 1 #[]
theorem kd77_1 : drawCr d77_1 = [none, none, none, none, none, none, none, none, none, none, none, none, none, none, none, (some ([none, none, none, none, none, none, none, none, none, none, none, none, none, none, none, none, none, none], [true, true, false, false, false, true, true, true, true, true, true, true, true, true, true, false, false, false])), none, (some ([none, none, none, none, none, none, none, none, none, none, none, none, none, none, none, none, none, none], [true, true, true, true, true, true, true, true, true, true, true, true, true, true, true, true, true, false]))] := by kernel_rfl
noncomputable def l77_0 : XC :=
  (.seq (.seq (.draw d77_0 [oM 18 (.mv (.t 9)),
 oM 19 (.mv (.t 1)),
 oM 20 (.binI .gtr 3 (.tmp 18) (.tmp 19) (.t 18) (.t 19)),
 oM 21 (.mv (.t 20)),
 ⟨some 22, .mv (.t 3), (some (some 21, true))⟩,
 ⟨some 23, .mv (.t 0), (some (some 21, true))⟩,
 ⟨some 24, .mv (.t 9), (some (some 21, true))⟩,
 ⟨some 25, .idxS 1 (.t 23) (.t 24), (some (some 21, true))⟩,
 ⟨some 26, .load false 1 (.t 25), (some (some 21, true))⟩,
 ⟨some 27, .mv (.t 0), (some (some 21, true))⟩,
 ⟨some 28, .mv (.t 9), (some (some 21, true))⟩,
 ⟨some 29, .binI .sub 3 (.tmp 28) (.const (.int .i64 1)) (.t 28) (.c (.int .i64 1)), (some (some 21, true))⟩,
 ⟨some 30, .idxS 1 (.t 27) (.t 29), (some (some 21, true))⟩,
 ⟨some 31, .load false 1 (.t 30), (some (some 21, true))⟩,
 ⟨some 32, .call (.t 22) [(.t 26), (.t 31)], (some (some 21, true))⟩,
 ⟨some 33, .binI .lss 3 (.tmp 32) (.const (.int .i64 0)) (.t 32) (.c (.int .i64 0)), (some (some 21, true))⟩,
 oM 34 (.pick (.t 21) (.t 33) (.c (.bool false)))])
  (.cond (.t 34)
    .skip
    (.exit 2)))
  (.seq (.block 3
    (.draw d77_1 [oM 37 (.mv (.t 0)),
 oM 38 (.mv (.t 9)),
 oM 39 (.mv (.t 0)),
 oM 40 (.mv (.t 9)),
 oM 41 (.binI .sub 3 (.tmp 40) (.const (.int .i64 1)) (.t 40) (.c (.int .i64 1))),
 oM 42 (.mv (.t 0)),
 oM 43 (.mv (.t 9)),
 oM 44 (.binI .sub 3 (.tmp 43) (.const (.int .i64 1)) (.t 43) (.c (.int .i64 1))),
 oM 45 (.idxS 1 (.t 42) (.t 44)),
 oM 46 (.load false 1 (.t 45)),
 oM 47 (.mv (.t 0)),
 oM 48 (.mv (.t 9)),
 oM 49 (.idxS 1 (.t 47) (.t 48)),
 oM 50 (.load false 1 (.t 49)),
 oM 51 (.idxS 1 (.t 37) (.t 38)),
 ⟨none, .store 1 (.t 51) (.t 46), none⟩,
 oM 52 (.idxS 1 (.t 39) (.t 41)),
 ⟨none, .store 1 (.t 52) (.t 50), none⟩]))
  (.ops [oM 35 (.mv (.t 9)),
 oM 36 (.binI .sub 3 (.tmp 35) (.const (.int .i64 1)) (.t 35) (.c (.int .i64 1))),
 oM 9 (.mv (.t 36))])))
noncomputable def l77_1 : XC :=
  (.seq (.seq (.ops [oM 12 (.mv (.t 8)),
 oM 13 (.mv (.t 2)),
 oM 14 (.binI .lss 3 (.tmp 12) (.tmp 13) (.t 12) (.t 13))])
  (.cond (.t 14)
    .skip
    (.exit 0)))
  (.seq (.block 1
    (.seq (.ops [oM 17 (.mv (.t 8)),
 oM 9 (.mv (.t 17))])
    (.block 2
      (.loop l77_0))))
  (.ops [oM 15 (.mv (.t 8)),
 oM 16 (.binI .add 3 (.tmp 15) (.const (.int .i64 1)) (.t 15) (.c (.int .i64 1))),
 oM 8 (.mv (.t 16))])))
noncomputable def x77 : XC :=
  (.seq (.ops [oM 10 (.mv (.t 1)),
 oM 11 (.binI .add 3 (.tmp 10) (.const (.int .i64 1)) (.t 10) (.c (.int .i64 1))),
 oM 8 (.mv (.t 11))])
  (.block 0
    (.loop l77_1)))
theorem code77 : codeOf C 77 F77 = x77 := by kernel_rfl
theorem ok77 {Q : Ctx} (hK : K Q) : FnOk Q 77 F77 x77 false := hK.ok_ ⟨fn77, code77, by kernel_rfl, by kernel_rfl⟩
noncomputable def b78 : Code := Tryz.f78.body.getD .skip
noncomputable def F78 : FI := ⟨60, [], b78⟩
theorem fn78 : C.fn 78 = some F78 := by kernel_rfl
noncomputable def d78_0 : Array Oper := (drawsOf b78).getD 0 #[]
theorem kd78_0 : drawCr d78_0 = [none, none, none, none, none, none, none, none, none, none, none, none, none, none, none, none, none, (some ([none, none, none, none, none, none, none, none, none, none, none, none, none, none, none, none, none, none, none, none], [true, true, false, false, false, false, true, true, true, true, true, true, true, true, true, true, true, false, false, false])), none, (some ([none, none, none, none, none, none, none, none, none, none, none, none, none, none, none, none, none, none, none, none], [true, true, true, true, true, true, true, true, true, true, true, true, true, true, true, true, true, true, true, false]))] := by kernel_rfl
noncomputable def l78_0 : XC :=
  (.seq (.seq (.ops [oM 20 (.mv (.t 11)),
 oM 21 (.binI .geq 3 (.tmp 20) (.const (.int .i64 0)) (.t 20) (.c (.int .i64 0)))])
  (.cond (.t 21)
    .skip
    (.exit 0)))
  (.seq (.block 1
    (.ops [oM 24 (.mv (.t 0)),
 oM 25 (.mv (.t 11)),
 oM 26 (.mv (.t 10)),
 oM 27 (.mv (.t 8)),
 oM 28 (.mv (.t 3)),
 oM 29 (.call (.c (.func (.func 102) [] [])) [(.t 24), (.t 25), (.t 26), (.t 27), (.t 28)])]))
  (.ops [oM 22 (.mv (.t 11)),
 oM 23 (.binI .sub 3 (.tmp 22) (.const (.int .i64 1)) (.t 22) (.c (.int .i64 1))),
 oM 11 (.mv (.t 23))])))
noncomputable def l78_1 : XC :=
  (.seq (.seq (.ops [oM 32 (.mv (.t 12)),
 oM 33 (.binI .geq 3 (.tmp 32) (.const (.int .i64 0)) (.t 32) (.c (.int .i64 0)))])
  (.cond (.t 33)
    .skip
    (.exit 2)))
  (.seq (.block 3
    (.seq (.draw d78_0 [oM 36 (.mv (.t 0)),
 oM 37 (.mv (.t 8)),
 oM 38 (.mv (.t 0)),
 oM 39 (.mv (.t 8)),
 oM 40 (.mv (.t 12)),
 oM 41 (.binI .add 3 (.tmp 39) (.tmp 40) (.t 39) (.t 40)),
 oM 42 (.mv (.t 0)),
 oM 43 (.mv (.t 8)),
 oM 44 (.mv (.t 12)),
 oM 45 (.binI .add 3 (.tmp 43) (.tmp 44) (.t 43) (.t 44)),
 oM 46 (.idxS 1 (.t 42) (.t 45)),
 oM 47 (.load false 1 (.t 46)),
 oM 48 (.mv (.t 0)),
 oM 49 (.mv (.t 8)),
 oM 50 (.idxS 1 (.t 48) (.t 49)),
 oM 51 (.load false 1 (.t 50)),
 oM 52 (.idxS 1 (.t 36) (.t 37)),
 ⟨none, .store 1 (.t 52) (.t 47), none⟩,
 oM 53 (.idxS 1 (.t 38) (.t 41)),
 ⟨none, .store 1 (.t 53) (.t 51), none⟩])
    (.ops [oM 54 (.mv (.t 0)),
 oM 55 (.mv (.t 9)),
 oM 56 (.mv (.t 12)),
 oM 57 (.mv (.t 8)),
 oM 58 (.mv (.t 3)),
 oM 59 (.call (.c (.func (.func 102) [] [])) [(.t 54), (.t 55), (.t 56), (.t 57), (.t 58)])])))
  (.ops [oM 34 (.mv (.t 12)),
 oM 35 (.binI .sub 3 (.tmp 34) (.const (.int .i64 1)) (.t 34) (.c (.int .i64 1))),
 oM 12 (.mv (.t 35))])))
noncomputable def x78 : XC :=
  (.seq (.ops [oM 13 (.mv (.t 1)),
 oM 8 (.mv (.t 13))])
  (.seq (.ops [oM 9 (.mv (.c (.int .i64 0)))])
  (.seq (.ops [oM 14 (.mv (.t 2)),
 oM 15 (.mv (.t 1)),
 oM 16 (.binI .sub 3 (.tmp 14) (.tmp 15) (.t 14) (.t 15)),
 oM 10 (.mv (.t 16))])
  (.seq (.seq (.ops [oM 17 (.mv (.t 10)),
 oM 18 (.binI .sub 3 (.tmp 17) (.const (.int .i64 1)) (.t 17) (.c (.int .i64 1))),
 oM 19 (.binI .quo 3 (.tmp 18) (.const (.int .i64 2)) (.t 18) (.c (.int .i64 2))),
 oM 11 (.mv (.t 19))])
  (.block 0
    (.loop l78_0)))
  (.seq (.ops [oM 30 (.mv (.t 10)),
 oM 31 (.binI .sub 3 (.tmp 30) (.const (.int .i64 1)) (.t 30) (.c (.int .i64 1))),
 oM 12 (.mv (.t 31))])
  (.block 2
    (.loop l78_1)))))))
theorem code78 : codeOf C 78 F78 = x78 := by kernel_rfl
theorem ok78 {Q : Ctx} (hK : K Q) : FnOk Q 78 F78 x78 false := hK.ok_ ⟨fn78, code78, by kernel_rfl, by kernel_rfl⟩
noncomputable def b79 : Code := Tryz.f79.body.getD .skip
noncomputable def F79 : FI := ⟨67, [], b79⟩
theorem fn79 : C.fn 79 = some F79 := by kernel_rfl
noncomputable def d79_0 : Array Oper := (drawsOf b79).getD 0 #[]
theorem kd79_0 : drawCr d79_0 = [none, none, none, none, none, none, none, none, none, none, none, none, none, none, none, none, none, (some ([none, none, none, none, none, none, none, none, none, none, none, none, none, none, none, none, none, none, none, none], [true, true, false, false, false, false, true, true, true, true, true, true, true, true, true, true, true, false, false, false])), none, (some ([none, none, none, none, none, none, none, none, none, none, none, none, none, none, none, none, none, none, none, none], [true, true, true, true, true, true, true, true, true, true, true, true, true, true, true, true, true, true, true, false]))] := by kernel_rfl
noncomputable def l79_0 : XC :=
  (.seq (.seq (.ops [oM 28 (.mv (.t 11)),
 oM 29 (.mv (.t 1)),
 oM 30 (.mv (.t 8)),
 oM 31 (.binI .quo 3 (.tmp 30) (.const (.int .i64 4)) (.t 30) (.c (.int .i64 4))),
 oM 32 (.binI .mul 3 (.tmp 31) (.const (.int .i64 2)) (.t 31) (.c (.int .i64 2))),
 oM 33 (.binI .add 3 (.tmp 29) (.tmp 32) (.t 29) (.t 32)),
 oM 34 (.binI .add 3 (.tmp 33) (.const (.int .i64 1)) (.t 33) (.c (.int .i64 1))),
 oM 35 (.binI .leq 3 (.tmp 28) (.tmp 34) (.t 28) (.t 34))])
  (.cond (.t 35)
    .skip
    (.exit 0)))
  (.seq (.block 1
    (.seq (.ops [oM 38 (.call (.c (.func (.func 104) [] [])) [(.t 9)]),
 oM 39 (.mv (.t 10)),
 oM 40 (.binI .sub 85 (.tmp 39) (.const (.int .u64 1)) (.t 39) (.c (.int .u64 1))),
 oM 41 (.binI .and 85 (.tmp 38) (.tmp 40) (.t 38) (.t 40)),
 oM 42 (.gen ⟨some 42, .convert 85 3 (.tmp 41), 0, "", #[], none⟩),
 oM 12 (.mv (.t 42))])
    (.seq (.seq (.ops [oM 43 (.mv (.t 12)),
 oM 44 (.mv (.t 8)),
 oM 45 (.binI .geq 3 (.tmp 43) (.tmp 44) (.t 43) (.t 44))])
    (.cond (.t 45)
      (.ops [oM 46 (.mv (.t 12)),
 oM 47 (.mv (.t 8)),
 oM 48 (.binI .sub 3 (.tmp 46) (.tmp 47) (.t 46) (.t 47)),
 oM 12 (.mv (.t 48))])
      .skip))
    (.draw d79_0 [oM 49 (.mv (.t 0)),
 oM 50 (.mv (.t 11)),
 oM 51 (.mv (.t 0)),
 oM 52 (.mv (.t 1)),
 oM 53 (.mv (.t 12)),
 oM 54 (.binI .add 3 (.tmp 52) (.tmp 53) (.t 52) (.t 53)),
 oM 55 (.mv (.t 0)),
 oM 56 (.mv (.t 1)),
 oM 57 (.mv (.t 12)),
 oM 58 (.binI .add 3 (.tmp 56) (.tmp 57) (.t 56) (.t 57)),
 oM 59 (.idxS 1 (.t 55) (.t 58)),
 oM 60 (.load false 1 (.t 59)),
 oM 61 (.mv (.t 0)),
 oM 62 (.mv (.t 11)),
 oM 63 (.idxS 1 (.t 61) (.t 62)),
 oM 64 (.load false 1 (.t 63)),
 oM 65 (.idxS 1 (.t 49) (.t 50)),
 ⟨none, .store 1 (.t 65) (.t 60), none⟩,
 oM 66 (.idxS 1 (.t 51) (.t 54)),
 ⟨none, .store 1 (.t 66) (.t 64), none⟩]))))
  (.ops [oM 36 (.mv (.t 11)),
 oM 37 (.binI .add 3 (.tmp 36) (.const (.int .i64 1)) (.t 36) (.c (.int .i64 1))),
 oM 11 (.mv (.t 37))])))
noncomputable def x79 : XC :=
  (.seq (.ops [oM 13 (.mv (.t 2)),
 oM 14 (.mv (.t 1)),
 oM 15 (.binI .sub 3 (.tmp 13) (.tmp 14) (.t 13) (.t 14)),
 oM 8 (.mv (.t 15))])
  (.seq (.ops [oM 16 (.mv (.t 8)),
 oM 17 (.binI .geq 3 (.tmp 16) (.const (.int .i64 8)) (.t 16) (.c (.int .i64 8)))])
  (.cond (.t 17)
    (.seq (.ops [oM 18 (.mv (.t 8)),
 oM 19 (.gen ⟨some 19, .convert 3 132 (.tmp 18), 0, "", #[], none⟩),
 oM 9 (.alloc 132 [(.int .u64 0)]),
 ⟨none, .store 1 (.t 9) (.t 19), none⟩])
    (.seq (.ops [oM 20 (.mv (.t 8)),
 oM 21 (.call (.c (.func (.func 103) [] [])) [(.t 20)]),
 oM 10 (.mv (.t 21))])
    (.seq (.ops [oM 22 (.mv (.t 1)),
 oM 23 (.mv (.t 8)),
 oM 24 (.binI .quo 3 (.tmp 23) (.const (.int .i64 4)) (.t 23) (.c (.int .i64 4))),
 oM 25 (.binI .mul 3 (.tmp 24) (.const (.int .i64 2)) (.t 24) (.c (.int .i64 2))),
 oM 26 (.binI .add 3 (.tmp 22) (.tmp 25) (.t 22) (.t 25)),
 oM 27 (.binI .sub 3 (.tmp 26) (.const (.int .i64 1)) (.t 26) (.c (.int .i64 1))),
 oM 11 (.mv (.t 27))])
    (.block 0
      (.loop l79_0)))))
    .skip)))
theorem code79 : codeOf C 79 F79 = x79 := by kernel_rfl
theorem ok79 {Q : Ctx} (hK : K Q) : FnOk Q 79 F79 x79 false := hK.ok_ ⟨fn79, code79, by kernel_rfl, by kernel_rfl⟩
noncomputable def b80 : Code := Tryz.f80.body.getD .skip
noncomputable def F80 : FI := ⟨63, [.tmp 8, .tmp 9], b80⟩
theorem fn80 : C.fn 80 = some F80 := by kernel_rfl
noncomputable def x80 : XC :=
  (.seq (.ops [oM 8 (.mv (.c (.int .i64 0))),
 oM 9 (.mv (.c (.int .i64 0)))])
  (.seq (.ops [oM 15 (.mv (.t 2)),
 oM 16 (.mv (.t 1)),
 oM 17 (.binI .sub 3 (.tmp 15) (.tmp 16) (.t 15) (.t 16)),
 oM 10 (.mv (.t 17))])
  (.seq (.ops [oM 11 (.alloc 3 [(.int .i64 0)])])
  (.seq (.ops [oM 18 (.mv (.t 1)),
 oM 19 (.mv (.t 10)),
 oM 20 (.binI .quo 3 (.tmp 19) (.const (.int .i64 4)) (.t 19) (.c (.int .i64 4))),
 oM 21 (.binI .mul 3 (.tmp 20) (.const (.int .i64 1)) (.t 20) (.c (.int .i64 1))),
 oM 22 (.binI .add 3 (.tmp 18) (.tmp 21) (.t 18) (.t 21)),
 oM 12 (.mv (.t 22))])
  (.seq (.ops [oM 23 (.mv (.t 1)),
 oM 24 (.mv (.t 10)),
 oM 25 (.binI .quo 3 (.tmp 24) (.const (.int .i64 4)) (.t 24) (.c (.int .i64 4))),
 oM 26 (.binI .mul 3 (.tmp 25) (.const (.int .i64 2)) (.t 25) (.c (.int .i64 2))),
 oM 27 (.binI .add 3 (.tmp 23) (.tmp 26) (.t 23) (.t 26)),
 oM 13 (.mv (.t 27))])
  (.seq (.ops [oM 28 (.mv (.t 1)),
 oM 29 (.mv (.t 10)),
 oM 30 (.binI .quo 3 (.tmp 29) (.const (.int .i64 4)) (.t 29) (.c (.int .i64 4))),
 oM 31 (.binI .mul 3 (.tmp 30) (.const (.int .i64 3)) (.t 30) (.c (.int .i64 3))),
 oM 32 (.binI .add 3 (.tmp 28) (.tmp 31) (.t 28) (.t 31)),
 oM 14 (.mv (.t 32))])
  (.seq (.seq (.ops [oM 33 (.mv (.t 10)),
 oM 34 (.binI .geq 3 (.tmp 33) (.const (.int .i64 8)) (.t 33) (.c (.int .i64 8)))])
  (.cond (.t 34)
    (.seq (.seq (.ops [oM 35 (.mv (.t 10)),
 oM 36 (.binI .geq 3 (.tmp 35) (.const (.int .i64 50)) (.t 35) (.c (.int .i64 50)))])
    (.cond (.t 36)
      (.seq (.ops [oM 37 (.mv (.t 0)),
 oM 38 (.mv (.t 12)),
 oM 39 (.mv (.t 3)),
 oM 40 (.call (.c (.func (.func 105) [] [])) [(.t 37), (.t 38), (.t 11), (.t 39)]),
 oM 12 (.mv (.t 40))])
      (.seq (.ops [oM 41 (.mv (.t 0)),
 oM 42 (.mv (.t 13)),
 oM 43 (.mv (.t 3)),
 oM 44 (.call (.c (.func (.func 105) [] [])) [(.t 41), (.t 42), (.t 11), (.t 43)]),
 oM 13 (.mv (.t 44))])
      (.ops [oM 45 (.mv (.t 0)),
 oM 46 (.mv (.t 14)),
 oM 47 (.mv (.t 3)),
 oM 48 (.call (.c (.func (.func 105) [] [])) [(.t 45), (.t 46), (.t 11), (.t 47)]),
 oM 14 (.mv (.t 48))])))
      .skip))
    (.ops [oM 49 (.mv (.t 0)),
 oM 50 (.mv (.t 12)),
 oM 51 (.mv (.t 13)),
 oM 52 (.mv (.t 14)),
 oM 53 (.mv (.t 3)),
 oM 54 (.call (.c (.func (.func 106) [] [])) [(.t 49), (.t 50), (.t 51), (.t 52), (.t 11), (.t 53)]),
 oM 13 (.mv (.t 54))]))
    .skip))
  (.seq (.ops [oM 55 (.load false 1 (.t 11))])
  (.block 0
    (.seq (.ops [oM 58 (.binI .eql 3 (.tmp 55) (.const (.int .i64 0)) (.t 55) (.c (.int .i64 0))),
 oM 57 (.mv (.t 58))])
    (.cond (.t 57)
      (.seq (.ops [oM 59 (.mv (.t 13)),
 oM 8 (.mv (.t 59)),
 oM 9 (.mv (.c (.int .i64 1)))])
      .ret)
      (.seq (.ops [oM 61 (.binI .eql 3 (.tmp 55) (.const (.int .i64 12)) (.t 55) (.c (.int .i64 12))),
 oM 60 (.mv (.t 61))])
      (.cond (.t 60)
        (.seq (.ops [oM 62 (.mv (.t 13)),
 oM 8 (.mv (.t 62)),
 oM 9 (.mv (.c (.int .i64 2)))])
        .ret)
        (.seq (.ops [oM 56 (.mv (.t 13)),
 oM 8 (.mv (.t 56)),
 oM 9 (.mv (.c (.int .i64 0)))])
        .ret))))))))))))))
theorem code80 : codeOf C 80 F80 = x80 := by kernel_rfl
theorem ok80 {Q : Ctx} (hK : K Q) : FnOk Q 80 F80 x80 false := hK.ok_ ⟨fn80, code80, by kernel_rfl, by kernel_rfl⟩
noncomputable def b81 : Code := Tryz.f81.body.getD .skip
noncomputable def F81 : FI := ⟨34, [], b81⟩
theorem fn81 : C.fn 81 = some F81 := by kernel_rfl
noncomputable def d81_0 : Array Oper := (drawsOf b81).getD 0 #[]
theorem kd81_0 : drawCr d81_0 = [none, none, none, none, none, none, none, none, none, none, none, none, none, (some ([none, none, none, none, none, none, none, none, none, none, none, none, none, none, none, none], [true, true, false, false, true, true, true, true, true, true, true, true, true, false, false, false])), none, (some ([none, none, none, none, none, none, none, none, none, none, none, none, none, none, none, none], [true, true, true, true, true, true, true, true, true, true, true, true, true, true, true, false]))] := by kernel_rfl
noncomputable def l81_0 : XC :=
  (.seq (.seq (.ops [oM 13 (.mv (.t 8)),
 oM 14 (.mv (.t 9)),
 oM 15 (.binI .lss 3 (.tmp 13) (.tmp 14) (.t 13) (.t 14))])
  (.cond (.t 15)
    .skip
    (.exit 0)))
  (.block 1
    (.seq (.draw d81_0 [oM 16 (.mv (.t 0)),
 oM 17 (.mv (.t 8)),
 oM 18 (.mv (.t 0)),
 oM 19 (.mv (.t 9)),
 oM 20 (.mv (.t 0)),
 oM 21 (.mv (.t 9)),
 oM 22 (.idxS 1 (.t 20) (.t 21)),
 oM 23 (.load false 1 (.t 22)),
 oM 24 (.mv (.t 0)),
 oM 25 (.mv (.t 8)),
 oM 26 (.idxS 1 (.t 24) (.t 25)),
 oM 27 (.load false 1 (.t 26)),
 oM 28 (.idxS 1 (.t 16) (.t 17)),
 ⟨none, .store 1 (.t 28) (.t 23), none⟩,
 oM 29 (.idxS 1 (.t 18) (.t 19)),
 ⟨none, .store 1 (.t 29) (.t 27), none⟩])
    (.seq (.ops [oM 30 (.mv (.t 8)),
 oM 31 (.binI .add 3 (.tmp 30) (.const (.int .i64 1)) (.t 30) (.c (.int .i64 1))),
 oM 8 (.mv (.t 31))])
    (.ops [oM 32 (.mv (.t 9)),
 oM 33 (.binI .sub 3 (.tmp 32) (.const (.int .i64 1)) (.t 32) (.c (.int .i64 1))),
 oM 9 (.mv (.t 33))])))))
noncomputable def x81 : XC :=
  (.seq (.ops [oM 10 (.mv (.t 1)),
 oM 8 (.mv (.t 10))])
  (.seq (.ops [oM 11 (.mv (.t 2)),
 oM 12 (.binI .sub 3 (.tmp 11) (.const (.int .i64 1)) (.t 11) (.c (.int .i64 1))),
 oM 9 (.mv (.t 12))])
  (.block 0
    (.loop l81_0))))
theorem code81 : codeOf C 81 F81 = x81 := by kernel_rfl
theorem ok81 {Q : Ctx} (hK : K Q) : FnOk Q 81 F81 x81 false := hK.ok_ ⟨fn81, code81, by kernel_rfl, by kernel_rfl⟩
noncomputable def b82 : Code := Tryz.f82.body.getD .skip
noncomputable def F82 : FI := ⟨141, [.tmp 8], b82⟩
theorem fn82 : C.fn 82 = some F82 := by kernel_rfl
noncomputable def d82_0 : Array Oper := (drawsOf b82).getD 0 #[]
theorem kd82_0 : drawCr d82_0 = [none, none, none, none, none, none, none, none, none, none, none, none, none, none, (some ([none, none, none, none, none, none, none, none, none, none, none, none, none, none, none, none, none, none], [true, true, true, true, true, true, true, true, true, true, true, true, true, true, false, false, false, false])), none, none, none] := by kernel_rfl
noncomputable def d82_1 : Array Oper := (drawsOf b82).getD 1 #[]
theorem kd82_1 : drawCr d82_1 = [none, none, none, none, none, none, none, none, none, none, none, none, none, none, none, (some ([none, none, none, none, none, none, none, none, none, none, none, none, none, none, none, none, none, none], [true, true, false, false, false, true, true, true, true, true, true, true, true, true, true, false, false, false])), none, (some ([none, none, none, none, none, none, none, none, none, none, none, none, none, none, none, none, none, none], [true, true, true, true, true, true, true, true, true, true, true, true, true, true, true, true, true, false]))] := by kernel_rfl
noncomputable def d82_2 : Array Oper := (drawsOf b82).getD 2 #[]
theorem kd82_2 : drawCr d82_2 = [none, none, none, none, none, none, none, none, none, none, (some ([none, none, none, none, none, none, none, none, none, none, none, none, none], [true, true, true, true, true, true, true, true, true, true, false, false, false])), none, none] := by kernel_rfl
noncomputable def d82_3 : Array Oper := (drawsOf b82).getD 3 #[]
theorem kd82_3 : drawCr d82_3 = [none, none, none, none, none, none, none, none, none, none, none, none, none, none, none, (some ([none, none, none, none, none, none, none, none, none, none, none, none, none, none, none, none, none, none], [true, true, false, false, false, true, true, true, true, true, true, true, true, true, true, false, false, false])), none, (some ([none, none, none, none, none, none, none, none, none, none, none, none, none, none, none, none, none, none], [true, true, true, true, true, true, true, true, true, true, true, true, true, true, true, true, true, false]))] := by kernel_rfl
noncomputable def d82_4 : Array Oper := (drawsOf b82).getD 4 #[]
theorem kd82_4 : drawCr d82_4 = [none, none, none, none, none, none, none, none, none, none, (some ([none, none, none, none, none, none, none, none, none, none, none, none, none], [true, true, true, true, true, true, true, true, true, true, false, false, false])), none, none] := by kernel_rfl
noncomputable def d82_5 : Array Oper := (drawsOf b82).getD 5 #[]
theorem kd82_5 : drawCr d82_5 = [none, none, none, none, none, none, none, none, none, none, none, none, none, none, none, (some ([none, none, none, none, none, none, none, none, none, none, none, none, none, none, none, none, none, none], [true, true, false, false, false, true, true, true, true, true, true, true, true, true, true, false, false, false])), none, (some ([none, none, none, none, none, none, none, none, none, none, none, none, none, none, none, none, none, none], [true, true, true, true, true, true, true, true, true, true, true, true, true, true, true, true, true, false]))] := by kernel_rfl
noncomputable def l82_0 : XC :=
  (.seq (.seq (.draw d82_0 [oM 19 (.mv (.t 9)),
 oM 20 (.mv (.t 2)),
 oM 21 (.binI .lss 3 (.tmp 19) (.tmp 20) (.t 19) (.t 20)),
 oM 22 (.mv (.t 21)),
 ⟨some 23, .mv (.t 3), (some (some 22, true))⟩,
 ⟨some 24, .mv (.t 0), (some (some 22, true))⟩,
 ⟨some 25, .mv (.t 9), (some (some 22, true))⟩,
 ⟨some 26, .idxS 1 (.t 24) (.t 25), (some (some 22, true))⟩,
 ⟨some 27, .load false 1 (.t 26), (some (some 22, true))⟩,
 ⟨some 28, .mv (.t 0), (some (some 22, true))⟩,
 ⟨some 29, .mv (.t 9), (some (some 22, true))⟩,
 ⟨some 30, .binI .sub 3 (.tmp 29) (.const (.int .i64 1)) (.t 29) (.c (.int .i64 1)), (some (some 22, true))⟩,
 ⟨some 31, .idxS 1 (.t 28) (.t 30), (some (some 22, true))⟩,
 ⟨some 32, .load false 1 (.t 31), (some (some 22, true))⟩,
 ⟨some 33, .call (.t 23) [(.t 27), (.t 32)], (some (some 22, true))⟩,
 ⟨some 34, .binI .lss 3 (.tmp 33) (.const (.int .i64 0)) (.t 33) (.c (.int .i64 0)), (some (some 22, true))⟩,
 ⟨some 35, .un .not (.t 34), (some (some 22, true))⟩,
 oM 36 (.pick (.t 22) (.t 35) (.c (.bool false)))])
  (.cond (.t 36)
    .skip
    (.exit 2)))
  (.block 3
    (.ops [oM 37 (.mv (.t 9)),
 oM 38 (.binI .add 3 (.tmp 37) (.const (.int .i64 1)) (.t 37) (.c (.int .i64 1))),
 oM 9 (.mv (.t 38))])))
noncomputable def l82_1 : XC :=
  (.seq (.seq (.ops [oM 68 (.mv (.t 11)),
 oM 69 (.binI .geq 3 (.tmp 68) (.const (.int .i64 1)) (.t 68) (.c (.int .i64 1)))])
  (.cond (.t 69)
    .skip
    (.exit 4)))
  (.seq (.block 5
    (.seq (.seq (.draw d82_2 [oM 72 (.mv (.t 3)),
 oM 73 (.mv (.t 0)),
 oM 74 (.mv (.t 11)),
 oM 75 (.idxS 1 (.t 73) (.t 74)),
 oM 76 (.load false 1 (.t 75)),
 oM 77 (.mv (.t 0)),
 oM 78 (.mv (.t 11)),
 oM 79 (.binI .sub 3 (.tmp 78) (.const (.int .i64 1)) (.t 78) (.c (.int .i64 1))),
 oM 80 (.idxS 1 (.t 77) (.t 79)),
 oM 81 (.load false 1 (.t 80)),
 oM 82 (.call (.t 72) [(.t 76), (.t 81)]),
 oM 83 (.binI .lss 3 (.tmp 82) (.const (.int .i64 0)) (.t 82) (.c (.int .i64 0))),
 oM 84 (.un .not (.t 83))])
    (.cond (.t 84)
      (.exit 4)
      .skip))
    (.draw d82_3 [oM 85 (.mv (.t 0)),
 oM 86 (.mv (.t 11)),
 oM 87 (.mv (.t 0)),
 oM 88 (.mv (.t 11)),
 oM 89 (.binI .sub 3 (.tmp 88) (.const (.int .i64 1)) (.t 88) (.c (.int .i64 1))),
 oM 90 (.mv (.t 0)),
 oM 91 (.mv (.t 11)),
 oM 92 (.binI .sub 3 (.tmp 91) (.const (.int .i64 1)) (.t 91) (.c (.int .i64 1))),
 oM 93 (.idxS 1 (.t 90) (.t 92)),
 oM 94 (.load false 1 (.t 93)),
 oM 95 (.mv (.t 0)),
 oM 96 (.mv (.t 11)),
 oM 97 (.idxS 1 (.t 95) (.t 96)),
 oM 98 (.load false 1 (.t 97)),
 oM 99 (.idxS 1 (.t 85) (.t 86)),
 ⟨none, .store 1 (.t 99) (.t 94), none⟩,
 oM 100 (.idxS 1 (.t 87) (.t 89)),
 ⟨none, .store 1 (.t 100) (.t 98), none⟩])))
  (.ops [oM 70 (.mv (.t 11)),
 oM 71 (.binI .sub 3 (.tmp 70) (.const (.int .i64 1)) (.t 70) (.c (.int .i64 1))),
 oM 11 (.mv (.t 71))])))
noncomputable def l82_2 : XC :=
  (.seq (.seq (.ops [oM 107 (.mv (.t 12)),
 oM 108 (.mv (.t 2)),
 oM 109 (.binI .lss 3 (.tmp 107) (.tmp 108) (.t 107) (.t 108))])
  (.cond (.t 109)
    .skip
    (.exit 6)))
  (.seq (.block 7
    (.seq (.seq (.draw d82_4 [oM 112 (.mv (.t 3)),
 oM 113 (.mv (.t 0)),
 oM 114 (.mv (.t 12)),
 oM 115 (.idxS 1 (.t 113) (.t 114)),
 oM 116 (.load false 1 (.t 115)),
 oM 117 (.mv (.t 0)),
 oM 118 (.mv (.t 12)),
 oM 119 (.binI .sub 3 (.tmp 118) (.const (.int .i64 1)) (.t 118) (.c (.int .i64 1))),
 oM 120 (.idxS 1 (.t 117) (.t 119)),
 oM 121 (.load false 1 (.t 120)),
 oM 122 (.call (.t 112) [(.t 116), (.t 121)]),
 oM 123 (.binI .lss 3 (.tmp 122) (.const (.int .i64 0)) (.t 122) (.c (.int .i64 0))),
 oM 124 (.un .not (.t 123))])
    (.cond (.t 124)
      (.exit 6)
      .skip))
    (.draw d82_5 [oM 125 (.mv (.t 0)),
 oM 126 (.mv (.t 12)),
 oM 127 (.mv (.t 0)),
 oM 128 (.mv (.t 12)),
 oM 129 (.binI .sub 3 (.tmp 128) (.const (.int .i64 1)) (.t 128) (.c (.int .i64 1))),
 oM 130 (.mv (.t 0)),
 oM 131 (.mv (.t 12)),
 oM 132 (.binI .sub 3 (.tmp 131) (.const (.int .i64 1)) (.t 131) (.c (.int .i64 1))),
 oM 133 (.idxS 1 (.t 130) (.t 132)),
 oM 134 (.load false 1 (.t 133)),
 oM 135 (.mv (.t 0)),
 oM 136 (.mv (.t 12)),
 oM 137 (.idxS 1 (.t 135) (.t 136)),
 oM 138 (.load false 1 (.t 137)),
 oM 139 (.idxS 1 (.t 125) (.t 126)),
 ⟨none, .store 1 (.t 139) (.t 134), none⟩,
 oM 140 (.idxS 1 (.t 127) (.t 129)),
 ⟨none, .store 1 (.t 140) (.t 138), none⟩])))
  (.ops [oM 110 (.mv (.t 12)),
 oM 111 (.binI .add 3 (.tmp 110) (.const (.int .i64 1)) (.t 110) (.c (.int .i64 1))),
 oM 12 (.mv (.t 111))])))
noncomputable def l82_3 : XC :=
  (.seq (.seq (.ops [oM 15 (.mv (.t 10)),
 oM 16 (.binI .lss 3 (.tmp 15) (.const (.int .i64 5)) (.t 15) (.c (.int .i64 5)))])
  (.cond (.t 16)
    .skip
    (.exit 0)))
  (.seq (.block 1
    (.seq (.block 2
      (.loop l82_0))
    (.seq (.seq (.ops [oM 39 (.mv (.t 9)),
 oM 40 (.mv (.t 2)),
 oM 41 (.binI .eql 3 (.tmp 39) (.tmp 40) (.t 39) (.t 40))])
    (.cond (.t 41)
      (.seq (.ops [oM 8 (.mv (.c (.bool true)))])
      .ret)
      .skip))
    (.seq (.seq (.ops [oM 42 (.mv (.t 2)),
 oM 43 (.mv (.t 1)),
 oM 44 (.binI .sub 3 (.tmp 42) (.tmp 43) (.t 42) (.t 43)),
 oM 45 (.binI .lss 3 (.tmp 44) (.const (.int .i64 50)) (.t 44) (.c (.int .i64 50)))])
    (.cond (.t 45)
      (.seq (.ops [oM 8 (.mv (.c (.bool false)))])
      .ret)
      .skip))
    (.seq (.draw d82_1 [oM 46 (.mv (.t 0)),
 oM 47 (.mv (.t 9)),
 oM 48 (.mv (.t 0)),
 oM 49 (.mv (.t 9)),
 oM 50 (.binI .sub 3 (.tmp 49) (.const (.int .i64 1)) (.t 49) (.c (.int .i64 1))),
 oM 51 (.mv (.t 0)),
 oM 52 (.mv (.t 9)),
 oM 53 (.binI .sub 3 (.tmp 52) (.const (.int .i64 1)) (.t 52) (.c (.int .i64 1))),
 oM 54 (.idxS 1 (.t 51) (.t 53)),
 oM 55 (.load false 1 (.t 54)),
 oM 56 (.mv (.t 0)),
 oM 57 (.mv (.t 9)),
 oM 58 (.idxS 1 (.t 56) (.t 57)),
 oM 59 (.load false 1 (.t 58)),
 oM 60 (.idxS 1 (.t 46) (.t 47)),
 ⟨none, .store 1 (.t 60) (.t 55), none⟩,
 oM 61 (.idxS 1 (.t 48) (.t 50)),
 ⟨none, .store 1 (.t 61) (.t 59), none⟩])
    (.seq (.seq (.ops [oM 62 (.mv (.t 9)),
 oM 63 (.mv (.t 1)),
 oM 64 (.binI .sub 3 (.tmp 62) (.tmp 63) (.t 62) (.t 63)),
 oM 65 (.binI .geq 3 (.tmp 64) (.const (.int .i64 2)) (.t 64) (.c (.int .i64 2)))])
    (.cond (.t 65)
      (.seq (.ops [oM 66 (.mv (.t 9)),
 oM 67 (.binI .sub 3 (.tmp 66) (.const (.int .i64 1)) (.t 66) (.c (.int .i64 1))),
 oM 11 (.mv (.t 67))])
      (.block 4
        (.loop l82_1)))
      .skip))
    (.seq (.ops [oM 101 (.mv (.t 2)),
 oM 102 (.mv (.t 9)),
 oM 103 (.binI .sub 3 (.tmp 101) (.tmp 102) (.t 101) (.t 102)),
 oM 104 (.binI .geq 3 (.tmp 103) (.const (.int .i64 2)) (.t 103) (.c (.int .i64 2)))])
    (.cond (.t 104)
      (.seq (.ops [oM 105 (.mv (.t 9)),
 oM 106 (.binI .add 3 (.tmp 105) (.const (.int .i64 1)) (.t 105) (.c (.int .i64 1))),
 oM 12 (.mv (.t 106))])
      (.block 6
        (.loop l82_2)))
      .skip))))))))
  (.ops [oM 17 (.mv (.t 10)),
 oM 18 (.binI .add 3 (.tmp 17) (.const (.int .i64 1)) (.t 17) (.c (.int .i64 1))),
 oM 10 (.mv (.t 18))])))
noncomputable def x82 : XC :=
  (.seq (.ops [oM 8 (.mv (.c (.bool false)))])
  (.seq (.ops [oM 13 (.mv (.t 1)),
 oM 14 (.binI .add 3 (.tmp 13) (.const (.int .i64 1)) (.t 13) (.c (.int .i64 1))),
 oM 9 (.mv (.t 14))])
  (.seq (.seq (.ops [oM 10 (.mv (.c (.int .i64 0)))])
  (.block 0
    (.loop l82_3)))
  (.seq (.ops [oM 8 (.mv (.c (.bool false)))])
  .ret))))
theorem code82 : codeOf C 82 F82 = x82 := by kernel_rfl
theorem ok82 {Q : Ctx} (hK : K Q) : FnOk Q 82 F82 x82 false := hK.ok_ ⟨fn82, code82, by kernel_rfl, by kernel_rfl⟩
noncomputable def b83 : Code := Tryz.f83.body.getD .skip
noncomputable def F83 : FI := ⟨90, [.tmp 10], b83⟩
theorem fn83 : C.fn 83 = some F83 := by kernel_rfl
noncomputable def d83_0 : Array Oper := (drawsOf b83).getD 0 #[]
theorem kd83_0 : drawCr d83_0 = [none, none, none, none, none, none, none, none, none, none, none, none, none, (some ([none, none, none, none, none, none, none, none, none, none, none, none, none, none, none, none], [true, true, false, false, true, true, true, true, true, true, true, true, true, false, false, false])), none, (some ([none, none, none, none, none, none, none, none, none, none, none, none, none, none, none, none], [true, true, true, true, true, true, true, true, true, true, true, true, true, true, true, false]))] := by kernel_rfl
noncomputable def d83_1 : Array Oper := (drawsOf b83).getD 1 #[]
theorem kd83_1 : drawCr d83_1 = [none, none, none, none, none, none, none, none, none, none, none, none, none, (some ([none, none, none, none, none, none, none, none, none, none, none, none, none, none, none, none, none], [true, true, true, true, true, true, true, true, true, true, true, true, true, false, false, false, false])), none, none, none] := by kernel_rfl
noncomputable def d83_2 : Array Oper := (drawsOf b83).getD 2 #[]
theorem kd83_2 : drawCr d83_2 = [none, none, none, none, none, none, none, none, none, none, none, none, none, (some ([none, none, none, none, none, none, none, none, none, none, none, none, none, none, none, none], [true, true, true, true, true, true, true, true, true, true, true, true, true, false, false, false])), none, none] := by kernel_rfl
noncomputable def d83_3 : Array Oper := (drawsOf b83).getD 3 #[]
theorem kd83_3 : drawCr d83_3 = [none, none, none, none, none, none, none, none, none, none, none, none, none, (some ([none, none, none, none, none, none, none, none, none, none, none, none, none, none, none, none], [true, true, false, false, true, true, true, true, true, true, true, true, true, false, false, false])), none, (some ([none, none, none, none, none, none, none, none, none, none, none, none, none, none, none, none], [true, true, true, true, true, true, true, true, true, true, true, true, true, true, true, false]))] := by kernel_rfl
noncomputable def l83_0 : XC :=
  (.seq (.seq (.draw d83_1 [oM 31 (.mv (.t 11)),
 oM 32 (.mv (.t 12)),
 oM 33 (.binI .leq 3 (.tmp 31) (.tmp 32) (.t 31) (.t 32)),
 oM 34 (.mv (.t 33)),
 ⟨some 35, .mv (.t 4), (some (some 34, true))⟩,
 ⟨some 36, .mv (.t 0), (some (some 34, true))⟩,
 ⟨some 37, .mv (.t 1), (some (some 34, true))⟩,
 ⟨some 38, .idxS 1 (.t 36) (.t 37), (some (some 34, true))⟩,
 ⟨some 39, .load false 1 (.t 38), (some (some 34, true))⟩,
 ⟨some 40, .mv (.t 0), (some (some 34, true))⟩,
 ⟨some 41, .mv (.t 11), (some (some 34, true))⟩,
 ⟨some 42, .idxS 1 (.t 40) (.t 41), (some (some 34, true))⟩,
 ⟨some 43, .load false 1 (.t 42), (some (some 34, true))⟩,
 ⟨some 44, .call (.t 35) [(.t 39), (.t 43)], (some (some 34, true))⟩,
 ⟨some 45, .binI .lss 3 (.tmp 44) (.const (.int .i64 0)) (.t 44) (.c (.int .i64 0)), (some (some 34, true))⟩,
 ⟨some 46, .un .not (.t 45), (some (some 34, true))⟩,
 oM 47 (.pick (.t 34) (.t 46) (.c (.bool false)))])
  (.cond (.t 47)
    .skip
    (.exit 2)))
  (.block 3
    (.ops [oM 48 (.mv (.t 11)),
 oM 49 (.binI .add 3 (.tmp 48) (.const (.int .i64 1)) (.t 48) (.c (.int .i64 1))),
 oM 11 (.mv (.t 49))])))
noncomputable def l83_1 : XC :=
  (.seq (.seq (.draw d83_2 [oM 50 (.mv (.t 11)),
 oM 51 (.mv (.t 12)),
 oM 52 (.binI .leq 3 (.tmp 50) (.tmp 51) (.t 50) (.t 51)),
 oM 53 (.mv (.t 52)),
 ⟨some 54, .mv (.t 4), (some (some 53, true))⟩,
 ⟨some 55, .mv (.t 0), (some (some 53, true))⟩,
 ⟨some 56, .mv (.t 1), (some (some 53, true))⟩,
 ⟨some 57, .idxS 1 (.t 55) (.t 56), (some (some 53, true))⟩,
 ⟨some 58, .load false 1 (.t 57), (some (some 53, true))⟩,
 ⟨some 59, .mv (.t 0), (some (some 53, true))⟩,
 ⟨some 60, .mv (.t 12), (some (some 53, true))⟩,
 ⟨some 61, .idxS 1 (.t 59) (.t 60), (some (some 53, true))⟩,
 ⟨some 62, .load false 1 (.t 61), (some (some 53, true))⟩,
 ⟨some 63, .call (.t 54) [(.t 58), (.t 62)], (some (some 53, true))⟩,
 ⟨some 64, .binI .lss 3 (.tmp 63) (.const (.int .i64 0)) (.t 63) (.c (.int .i64 0)), (some (some 53, true))⟩,
 oM 65 (.pick (.t 53) (.t 64) (.c (.bool false)))])
  (.cond (.t 65)
    .skip
    (.exit 4)))
  (.block 5
    (.ops [oM 66 (.mv (.t 12)),
 oM 67 (.binI .sub 3 (.tmp 66) (.const (.int .i64 1)) (.t 66) (.c (.int .i64 1))),
 oM 12 (.mv (.t 67))])))
noncomputable def l83_2 : XC :=
  (.block 1
    (.seq (.block 2
      (.loop l83_0))
    (.seq (.block 4
      (.loop l83_1))
    (.seq (.seq (.ops [oM 68 (.mv (.t 11)),
 oM 69 (.mv (.t 12)),
 oM 70 (.binI .gtr 3 (.tmp 68) (.tmp 69) (.t 68) (.t 69))])
    (.cond (.t 70)
      (.exit 0)
      .skip))
    (.seq (.draw d83_3 [oM 71 (.mv (.t 0)),
 oM 72 (.mv (.t 11)),
 oM 73 (.mv (.t 0)),
 oM 74 (.mv (.t 12)),
 oM 75 (.mv (.t 0)),
 oM 76 (.mv (.t 12)),
 oM 77 (.idxS 1 (.t 75) (.t 76)),
 oM 78 (.load false 1 (.t 77)),
 oM 79 (.mv (.t 0)),
 oM 80 (.mv (.t 11)),
 oM 81 (.idxS 1 (.t 79) (.t 80)),
 oM 82 (.load false 1 (.t 81)),
 oM 83 (.idxS 1 (.t 71) (.t 72)),
 ⟨none, .store 1 (.t 83) (.t 78), none⟩,
 oM 84 (.idxS 1 (.t 73) (.t 74)),
 ⟨none, .store 1 (.t 84) (.t 82), none⟩])
    (.seq (.ops [oM 85 (.mv (.t 11)),
 oM 86 (.binI .add 3 (.tmp 85) (.const (.int .i64 1)) (.t 85) (.c (.int .i64 1))),
 oM 11 (.mv (.t 86))])
    (.ops [oM 87 (.mv (.t 12)),
 oM 88 (.binI .sub 3 (.tmp 87) (.const (.int .i64 1)) (.t 87) (.c (.int .i64 1))),
 oM 12 (.mv (.t 88))])))))))
noncomputable def x83 : XC :=
  (.seq (.ops [oM 10 (.mv (.c (.int .i64 0)))])
  (.seq (.draw d83_0 [oM 13 (.mv (.t 0)),
 oM 14 (.mv (.t 1)),
 oM 15 (.mv (.t 0)),
 oM 16 (.mv (.t 3)),
 oM 17 (.mv (.t 0)),
 oM 18 (.mv (.t 3)),
 oM 19 (.idxS 1 (.t 17) (.t 18)),
 oM 20 (.load false 1 (.t 19)),
 oM 21 (.mv (.t 0)),
 oM 22 (.mv (.t 1)),
 oM 23 (.idxS 1 (.t 21) (.t 22)),
 oM 24 (.load false 1 (.t 23)),
 oM 25 (.idxS 1 (.t 13) (.t 14)),
 ⟨none, .store 1 (.t 25) (.t 20), none⟩,
 oM 26 (.idxS 1 (.t 15) (.t 16)),
 ⟨none, .store 1 (.t 26) (.t 24), none⟩])
  (.seq (.ops [oM 27 (.mv (.t 1)),
 oM 28 (.binI .add 3 (.tmp 27) (.const (.int .i64 1)) (.t 27) (.c (.int .i64 1))),
 oM 29 (.mv (.t 2)),
 oM 30 (.binI .sub 3 (.tmp 29) (.const (.int .i64 1)) (.t 29) (.c (.int .i64 1))),
 oM 11 (.mv (.t 28)),
 oM 12 (.mv (.t 30))])
  (.seq (.block 0
    (.loop l83_2))
  (.seq (.ops [oM 89 (.mv (.t 11)),
 oM 10 (.mv (.t 89))])
  .ret)))))
theorem code83 : codeOf C 83 F83 = x83 := by kernel_rfl
theorem ok83 {Q : Ctx} (hK : K Q) : FnOk Q 83 F83 x83 false := hK.ok_ ⟨fn83, code83, by kernel_rfl, by kernel_rfl⟩
noncomputable def b84 : Code := Tryz.f84.body.getD .skip
noncomputable def F84 : FI := ⟨178, [.tmp 10, .tmp 11], b84⟩
theorem fn84 : C.fn 84 = some F84 := by kernel_rfl
noncomputable def d84_0 : Array Oper := (drawsOf b84).getD 0 #[]
theorem kd84_0 : drawCr d84_0 = [none, none, none, none, none, none, none, none, none, none, none, none, none, (some ([none, none, none, none, none, none, none, none, none, none, none, none, none, none, none, none], [true, true, false, false, true, true, true, true, true, true, true, true, true, false, false, false])), none, (some ([none, none, none, none, none, none, none, none, none, none, none, none, none, none, none, none], [true, true, true, true, true, true, true, true, true, true, true, true, true, true, true, false]))] := by kernel_rfl
noncomputable def d84_1 : Array Oper := (drawsOf b84).getD 1 #[]
theorem kd84_1 : drawCr d84_1 = [none, none, none, none, none, none, none, none, none, none, none, none, none, (some ([none, none, none, none, none, none, none, none, none, none, none, none, none, none, none, none], [true, true, true, true, true, true, true, true, true, true, true, true, true, false, false, false])), none, none] := by kernel_rfl
noncomputable def d84_2 : Array Oper := (drawsOf b84).getD 2 #[]
theorem kd84_2 : drawCr d84_2 = [none, none, none, none, none, none, none, none, none, none, none, none, none, (some ([none, none, none, none, none, none, none, none, none, none, none, none, none, none, none, none, none], [true, true, true, true, true, true, true, true, true, true, true, true, true, false, false, false, false])), none, none, none] := by kernel_rfl
noncomputable def d84_3 : Array Oper := (drawsOf b84).getD 3 #[]
theorem kd84_3 : drawCr d84_3 = [none, none, none, none, none, none, none, none, none, none, none, none, none, (some ([none, none, none, none, none, none, none, none, none, none, none, none, none, none, none, none], [true, true, false, false, true, true, true, true, true, true, true, true, true, false, false, false])), none, (some ([none, none, none, none, none, none, none, none, none, none, none, none, none, none, none, none], [true, true, true, true, true, true, true, true, true, true, true, true, true, true, true, false]))] := by kernel_rfl
noncomputable def d84_4 : Array Oper := (drawsOf b84).getD 4 #[]
theorem kd84_4 : drawCr d84_4 = [none, none, none, none, none, none, none, none, none, none, none, none, none, (some ([none, none, none, none, none, none, none, none, none, none, none, none, none, none, none, none], [true, true, false, false, true, true, true, true, true, true, true, true, true, false, false, false])), none, (some ([none, none, none, none, none, none, none, none, none, none, none, none, none, none, none, none], [true, true, true, true, true, true, true, true, true, true, true, true, true, true, true, false]))] := by kernel_rfl
noncomputable def d84_5 : Array Oper := (drawsOf b84).getD 5 #[]
theorem kd84_5 : drawCr d84_5 = [none, none, none, none, none, none, none, none, none, none, none, none, none, (some ([none, none, none, none, none, none, none, none, none, none, none, none, none, none, none, none], [true, true, true, true, true, true, true, true, true, true, true, true, true, false, false, false])), none, none] := by kernel_rfl
noncomputable def d84_6 : Array Oper := (drawsOf b84).getD 6 #[]
theorem kd84_6 : drawCr d84_6 = [none, none, none, none, none, none, none, none, none, none, none, none, none, (some ([none, none, none, none, none, none, none, none, none, none, none, none, none, none, none, none, none], [true, true, true, true, true, true, true, true, true, true, true, true, true, false, false, false, false])), none, none, none] := by kernel_rfl
noncomputable def d84_7 : Array Oper := (drawsOf b84).getD 7 #[]
theorem kd84_7 : drawCr d84_7 = [none, none, none, none, none, none, none, none, none, none, none, none, none, (some ([none, none, none, none, none, none, none, none, none, none, none, none, none, none, none, none], [true, true, false, false, true, true, true, true, true, true, true, true, true, false, false, false])), none, (some ([none, none, none, none, none, none, none, none, none, none, none, none, none, none, none, none], [true, true, true, true, true, true, true, true, true, true, true, true, true, true, true, false]))] := by kernel_rfl
noncomputable def d84_8 : Array Oper := (drawsOf b84).getD 8 #[]
theorem kd84_8 : drawCr d84_8 = [none, none, none, none, none, none, none, none, none, none, none, none, none, (some ([none, none, none, none, none, none, none, none, none, none, none, none, none, none, none, none], [true, true, false, false, true, true, true, true, true, true, true, true, true, false, false, false])), none, (some ([none, none, none, none, none, none, none, none, none, none, none, none, none, none, none, none], [true, true, true, true, true, true, true, true, true, true, true, true, true, true, true, false]))] := by kernel_rfl
noncomputable def l84_0 : XC :=
  (.seq (.seq (.draw d84_1 [oM 32 (.mv (.t 12)),
 oM 33 (.mv (.t 13)),
 oM 34 (.binI .leq 3 (.tmp 32) (.tmp 33) (.t 32) (.t 33)),
 oM 35 (.mv (.t 34)),
 ⟨some 36, .mv (.t 4), (some (some 35, true))⟩,
 ⟨some 37, .mv (.t 0), (some (some 35, true))⟩,
 ⟨some 38, .mv (.t 12), (some (some 35, true))⟩,
 ⟨some 39, .idxS 1 (.t 37) (.t 38), (some (some 35, true))⟩,
 ⟨some 40, .load false 1 (.t 39), (some (some 35, true))⟩,
 ⟨some 41, .mv (.t 0), (some (some 35, true))⟩,
 ⟨some 42, .mv (.t 1), (some (some 35, true))⟩,
 ⟨some 43, .idxS 1 (.t 41) (.t 42), (some (some 35, true))⟩,
 ⟨some 44, .load false 1 (.t 43), (some (some 35, true))⟩,
 ⟨some 45, .call (.t 36) [(.t 40), (.t 44)], (some (some 35, true))⟩,
 ⟨some 46, .binI .lss 3 (.tmp 45) (.const (.int .i64 0)) (.t 45) (.c (.int .i64 0)), (some (some 35, true))⟩,
 oM 47 (.pick (.t 35) (.t 46) (.c (.bool false)))])
  (.cond (.t 47)
    .skip
    (.exit 0)))
  (.block 1
    (.ops [oM 48 (.mv (.t 12)),
 oM 49 (.binI .add 3 (.tmp 48) (.const (.int .i64 1)) (.t 48) (.c (.int .i64 1))),
 oM 12 (.mv (.t 49))])))
noncomputable def l84_1 : XC :=
  (.seq (.seq (.draw d84_2 [oM 50 (.mv (.t 12)),
 oM 51 (.mv (.t 13)),
 oM 52 (.binI .leq 3 (.tmp 50) (.tmp 51) (.t 50) (.t 51)),
 oM 53 (.mv (.t 52)),
 ⟨some 54, .mv (.t 4), (some (some 53, true))⟩,
 ⟨some 55, .mv (.t 0), (some (some 53, true))⟩,
 ⟨some 56, .mv (.t 13), (some (some 53, true))⟩,
 ⟨some 57, .idxS 1 (.t 55) (.t 56), (some (some 53, true))⟩,
 ⟨some 58, .load false 1 (.t 57), (some (some 53, true))⟩,
 ⟨some 59, .mv (.t 0), (some (some 53, true))⟩,
 ⟨some 60, .mv (.t 1), (some (some 53, true))⟩,
 ⟨some 61, .idxS 1 (.t 59) (.t 60), (some (some 53, true))⟩,
 ⟨some 62, .load false 1 (.t 61), (some (some 53, true))⟩,
 ⟨some 63, .call (.t 54) [(.t 58), (.t 62)], (some (some 53, true))⟩,
 ⟨some 64, .binI .lss 3 (.tmp 63) (.const (.int .i64 0)) (.t 63) (.c (.int .i64 0)), (some (some 53, true))⟩,
 ⟨some 65, .un .not (.t 64), (some (some 53, true))⟩,
 oM 66 (.pick (.t 53) (.t 65) (.c (.bool false)))])
  (.cond (.t 66)
    .skip
    (.exit 2)))
  (.block 3
    (.ops [oM 67 (.mv (.t 13)),
 oM 68 (.binI .sub 3 (.tmp 67) (.const (.int .i64 1)) (.t 67) (.c (.int .i64 1))),
 oM 13 (.mv (.t 68))])))
noncomputable def l84_2 : XC :=
  (.seq (.seq (.draw d84_5 [oM 105 (.mv (.t 12)),
 oM 106 (.mv (.t 13)),
 oM 107 (.binI .leq 3 (.tmp 105) (.tmp 106) (.t 105) (.t 106)),
 oM 108 (.mv (.t 107)),
 ⟨some 109, .mv (.t 4), (some (some 108, true))⟩,
 ⟨some 110, .mv (.t 0), (some (some 108, true))⟩,
 ⟨some 111, .mv (.t 12), (some (some 108, true))⟩,
 ⟨some 112, .idxS 1 (.t 110) (.t 111), (some (some 108, true))⟩,
 ⟨some 113, .load false 1 (.t 112), (some (some 108, true))⟩,
 ⟨some 114, .mv (.t 0), (some (some 108, true))⟩,
 ⟨some 115, .mv (.t 1), (some (some 108, true))⟩,
 ⟨some 116, .idxS 1 (.t 114) (.t 115), (some (some 108, true))⟩,
 ⟨some 117, .load false 1 (.t 116), (some (some 108, true))⟩,
 ⟨some 118, .call (.t 109) [(.t 113), (.t 117)], (some (some 108, true))⟩,
 ⟨some 119, .binI .lss 3 (.tmp 118) (.const (.int .i64 0)) (.t 118) (.c (.int .i64 0)), (some (some 108, true))⟩,
 oM 120 (.pick (.t 108) (.t 119) (.c (.bool false)))])
  (.cond (.t 120)
    .skip
    (.exit 6)))
  (.block 7
    (.ops [oM 121 (.mv (.t 12)),
 oM 122 (.binI .add 3 (.tmp 121) (.const (.int .i64 1)) (.t 121) (.c (.int .i64 1))),
 oM 12 (.mv (.t 122))])))
noncomputable def l84_3 : XC :=
  (.seq (.seq (.draw d84_6 [oM 123 (.mv (.t 12)),
 oM 124 (.mv (.t 13)),
 oM 125 (.binI .leq 3 (.tmp 123) (.tmp 124) (.t 123) (.t 124)),
 oM 126 (.mv (.t 125)),
 ⟨some 127, .mv (.t 4), (some (some 126, true))⟩,
 ⟨some 128, .mv (.t 0), (some (some 126, true))⟩,
 ⟨some 129, .mv (.t 13), (some (some 126, true))⟩,
 ⟨some 130, .idxS 1 (.t 128) (.t 129), (some (some 126, true))⟩,
 ⟨some 131, .load false 1 (.t 130), (some (some 126, true))⟩,
 ⟨some 132, .mv (.t 0), (some (some 126, true))⟩,
 ⟨some 133, .mv (.t 1), (some (some 126, true))⟩,
 ⟨some 134, .idxS 1 (.t 132) (.t 133), (some (some 126, true))⟩,
 ⟨some 135, .load false 1 (.t 134), (some (some 126, true))⟩,
 ⟨some 136, .call (.t 127) [(.t 131), (.t 135)], (some (some 126, true))⟩,
 ⟨some 137, .binI .lss 3 (.tmp 136) (.const (.int .i64 0)) (.t 136) (.c (.int .i64 0)), (some (some 126, true))⟩,
 ⟨some 138, .un .not (.t 137), (some (some 126, true))⟩,
 oM 139 (.pick (.t 126) (.t 138) (.c (.bool false)))])
  (.cond (.t 139)
    .skip
    (.exit 8)))
  (.block 9
    (.ops [oM 140 (.mv (.t 13)),
 oM 141 (.binI .sub 3 (.tmp 140) (.const (.int .i64 1)) (.t 140) (.c (.int .i64 1))),
 oM 13 (.mv (.t 141))])))
noncomputable def l84_4 : XC :=
  (.block 5
    (.seq (.block 6
      (.loop l84_2))
    (.seq (.block 8
      (.loop l84_3))
    (.seq (.seq (.ops [oM 142 (.mv (.t 12)),
 oM 143 (.mv (.t 13)),
 oM 144 (.binI .gtr 3 (.tmp 142) (.tmp 143) (.t 142) (.t 143))])
    (.cond (.t 144)
      (.exit 4)
      .skip))
    (.seq (.draw d84_7 [oM 145 (.mv (.t 0)),
 oM 146 (.mv (.t 12)),
 oM 147 (.mv (.t 0)),
 oM 148 (.mv (.t 13)),
 oM 149 (.mv (.t 0)),
 oM 150 (.mv (.t 13)),
 oM 151 (.idxS 1 (.t 149) (.t 150)),
 oM 152 (.load false 1 (.t 151)),
 oM 153 (.mv (.t 0)),
 oM 154 (.mv (.t 12)),
 oM 155 (.idxS 1 (.t 153) (.t 154)),
 oM 156 (.load false 1 (.t 155)),
 oM 157 (.idxS 1 (.t 145) (.t 146)),
 ⟨none, .store 1 (.t 157) (.t 152), none⟩,
 oM 158 (.idxS 1 (.t 147) (.t 148)),
 ⟨none, .store 1 (.t 158) (.t 156), none⟩])
    (.seq (.ops [oM 159 (.mv (.t 12)),
 oM 160 (.binI .add 3 (.tmp 159) (.const (.int .i64 1)) (.t 159) (.c (.int .i64 1))),
 oM 12 (.mv (.t 160))])
    (.ops [oM 161 (.mv (.t 13)),
 oM 162 (.binI .sub 3 (.tmp 161) (.const (.int .i64 1)) (.t 161) (.c (.int .i64 1))),
 oM 13 (.mv (.t 162))])))))))
noncomputable def x84 : XC :=
  (.seq (.ops [oM 10 (.mv (.c (.int .i64 0))),
 oM 11 (.mv (.c (.bool false)))])
  (.seq (.draw d84_0 [oM 14 (.mv (.t 0)),
 oM 15 (.mv (.t 1)),
 oM 16 (.mv (.t 0)),
 oM 17 (.mv (.t 3)),
 oM 18 (.mv (.t 0)),
 oM 19 (.mv (.t 3)),
 oM 20 (.idxS 1 (.t 18) (.t 19)),
 oM 21 (.load false 1 (.t 20)),
 oM 22 (.mv (.t 0)),
 oM 23 (.mv (.t 1)),
 oM 24 (.idxS 1 (.t 22) (.t 23)),
 oM 25 (.load false 1 (.t 24)),
 oM 26 (.idxS 1 (.t 14) (.t 15)),
 ⟨none, .store 1 (.t 26) (.t 21), none⟩,
 oM 27 (.idxS 1 (.t 16) (.t 17)),
 ⟨none, .store 1 (.t 27) (.t 25), none⟩])
  (.seq (.ops [oM 28 (.mv (.t 1)),
 oM 29 (.binI .add 3 (.tmp 28) (.const (.int .i64 1)) (.t 28) (.c (.int .i64 1))),
 oM 30 (.mv (.t 2)),
 oM 31 (.binI .sub 3 (.tmp 30) (.const (.int .i64 1)) (.t 30) (.c (.int .i64 1))),
 oM 12 (.mv (.t 29)),
 oM 13 (.mv (.t 31))])
  (.seq (.block 0
    (.loop l84_0))
  (.seq (.block 2
    (.loop l84_1))
  (.seq (.seq (.ops [oM 69 (.mv (.t 12)),
 oM 70 (.mv (.t 13)),
 oM 71 (.binI .gtr 3 (.tmp 69) (.tmp 70) (.t 69) (.t 70))])
  (.cond (.t 71)
    (.seq (.draw d84_3 [oM 72 (.mv (.t 0)),
 oM 73 (.mv (.t 13)),
 oM 74 (.mv (.t 0)),
 oM 75 (.mv (.t 1)),
 oM 76 (.mv (.t 0)),
 oM 77 (.mv (.t 1)),
 oM 78 (.idxS 1 (.t 76) (.t 77)),
 oM 79 (.load false 1 (.t 78)),
 oM 80 (.mv (.t 0)),
 oM 81 (.mv (.t 13)),
 oM 82 (.idxS 1 (.t 80) (.t 81)),
 oM 83 (.load false 1 (.t 82)),
 oM 84 (.idxS 1 (.t 72) (.t 73)),
 ⟨none, .store 1 (.t 84) (.t 79), none⟩,
 oM 85 (.idxS 1 (.t 74) (.t 75)),
 ⟨none, .store 1 (.t 85) (.t 83), none⟩])
    (.seq (.ops [oM 86 (.mv (.t 13)),
 oM 10 (.mv (.t 86)),
 oM 11 (.mv (.c (.bool true)))])
    .ret))
    .skip))
  (.seq (.draw d84_4 [oM 87 (.mv (.t 0)),
 oM 88 (.mv (.t 12)),
 oM 89 (.mv (.t 0)),
 oM 90 (.mv (.t 13)),
 oM 91 (.mv (.t 0)),
 oM 92 (.mv (.t 13)),
 oM 93 (.idxS 1 (.t 91) (.t 92)),
 oM 94 (.load false 1 (.t 93)),
 oM 95 (.mv (.t 0)),
 oM 96 (.mv (.t 12)),
 oM 97 (.idxS 1 (.t 95) (.t 96)),
 oM 98 (.load false 1 (.t 97)),
 oM 99 (.idxS 1 (.t 87) (.t 88)),
 ⟨none, .store 1 (.t 99) (.t 94), none⟩,
 oM 100 (.idxS 1 (.t 89) (.t 90)),
 ⟨none, .store 1 (.t 100) (.t 98), none⟩])
  (.seq (.ops [oM 101 (.mv (.t 12)),
 oM 102 (.binI .add 3 (.tmp 101) (.const (.int .i64 1)) (.t 101) (.c (.int .i64 1))),
 oM 12 (.mv (.t 102))])
  (.seq (.ops [oM 103 (.mv (.t 13)),
 oM 104 (.binI .sub 3 (.tmp 103) (.const (.int .i64 1)) (.t 103) (.c (.int .i64 1))),
 oM 13 (.mv (.t 104))])
  (.seq (.block 4
    (.loop l84_4))
  (.seq (.draw d84_8 [oM 163 (.mv (.t 0)),
 oM 164 (.mv (.t 13)),
 oM 165 (.mv (.t 0)),
 oM 166 (.mv (.t 1)),
 oM 167 (.mv (.t 0)),
 oM 168 (.mv (.t 1)),
 oM 169 (.idxS 1 (.t 167) (.t 168)),
 oM 170 (.load false 1 (.t 169)),
 oM 171 (.mv (.t 0)),
 oM 172 (.mv (.t 13)),
 oM 173 (.idxS 1 (.t 171) (.t 172)),
 oM 174 (.load false 1 (.t 173)),
 oM 175 (.idxS 1 (.t 163) (.t 164)),
 ⟨none, .store 1 (.t 175) (.t 170), none⟩,
 oM 176 (.idxS 1 (.t 165) (.t 166)),
 ⟨none, .store 1 (.t 176) (.t 174), none⟩])
  (.seq (.ops [oM 177 (.mv (.t 13)),
 oM 10 (.mv (.t 177)),
 oM 11 (.mv (.c (.bool false)))])
  .ret))))))))))))
theorem code84 : codeOf C 84 F84 = x84 := by kernel_rfl
theorem ok84 {Q : Ctx} (hK : K Q) : FnOk Q 84 F84 x84 false := hK.ok_ ⟨fn84, code84, by kernel_rfl, by kernel_rfl⟩
noncomputable def b86 : Code := Tryz.f86.body.getD .skip
noncomputable def F86 : FI := ⟨25, [.tmp 2], b86⟩
theorem fn86 : C.fn 86 = some F86 := by kernel_rfl
noncomputable def x86 : XC :=
  (.seq (.ops [oM 2 (.mv (.c (.int .i64 0)))])
  (.seq (.seq (.ops [oM 3 (.mv (.t 0)),
 oM 4 (.binI .geq 121 (.tmp 3) (.const (.int .u64 4294967296)) (.t 3) (.c (.int .u64 4294967296)))])
  (.cond (.t 4)
    (.seq (.ops [oM 5 (.mv (.t 0)),
 oM 6 (.binI .shr 121 (.tmp 5) (.const (.int .u64 32)) (.t 5) (.c (.int .u64 32))),
 oM 0 (.mv (.t 6))])
    (.ops [oM 2 (.mv (.c (.int .i64 32)))]))
    .skip))
  (.seq (.seq (.ops [oM 7 (.mv (.t 0)),
 oM 8 (.binI .geq 121 (.tmp 7) (.const (.int .u64 65536)) (.t 7) (.c (.int .u64 65536)))])
  (.cond (.t 8)
    (.seq (.ops [oM 9 (.mv (.t 0)),
 oM 10 (.binI .shr 121 (.tmp 9) (.const (.int .u64 16)) (.t 9) (.c (.int .u64 16))),
 oM 0 (.mv (.t 10))])
    (.ops [oM 11 (.mv (.t 2)),
 oM 12 (.binI .add 3 (.tmp 11) (.const (.int .i64 16)) (.t 11) (.c (.int .i64 16))),
 oM 2 (.mv (.t 12))]))
    .skip))
  (.seq (.seq (.ops [oM 13 (.mv (.t 0)),
 oM 14 (.binI .geq 121 (.tmp 13) (.const (.int .u64 256)) (.t 13) (.c (.int .u64 256)))])
  (.cond (.t 14)
    (.seq (.ops [oM 15 (.mv (.t 0)),
 oM 16 (.binI .shr 121 (.tmp 15) (.const (.int .u64 8)) (.t 15) (.c (.int .u64 8))),
 oM 0 (.mv (.t 16))])
    (.ops [oM 17 (.mv (.t 2)),
 oM 18 (.binI .add 3 (.tmp 17) (.const (.int .i64 8)) (.t 17) (.c (.int .i64 8))),
 oM 2 (.mv (.t 18))]))
    .skip))
  (.seq (.ops [oM 19 (.mv (.t 2)),
 oM 20 (.mv (.t 0)),
 oM 21 (.gen ⟨some 21, .convert 121 5 (.tmp 20), 0, "", #[], none⟩),
 oM 22 (.idxStr (.c (.str [0, 1, 2, 2, 3, 3, 3, 3, 4, 4, 4, 4, 4, 4, 4, 4, 5, 5, 5, 5, 5, 5, 5, 5, 5, 5, 5, 5, 5, 5, 5, 5, 6, 6, 6, 6, 6, 6, 6, 6, 6, 6, 6, 6, 6, 6, 6, 6, 6, 6, 6, 6, 6, 6, 6, 6, 6, 6, 6, 6, 6, 6, 6, 6, 7, 7, 7, 7, 7, 7, 7, 7, 7, 7, 7, 7, 7, 7, 7, 7, 7, 7, 7, 7, 7, 7, 7, 7, 7, 7, 7, 7, 7, 7, 7, 7, 7, 7, 7, 7, 7, 7, 7, 7, 7, 7, 7, 7, 7, 7, 7, 7, 7, 7, 7, 7, 7, 7, 7, 7, 7, 7, 7, 7, 7, 7, 7, 7, 8, 8, 8, 8, 8, 8, 8, 8, 8, 8, 8, 8, 8, 8, 8, 8, 8, 8, 8, 8, 8, 8, 8, 8, 8, 8, 8, 8, 8, 8, 8, 8, 8, 8, 8, 8, 8, 8, 8, 8, 8, 8, 8, 8, 8, 8, 8, 8, 8, 8, 8, 8, 8, 8, 8, 8, 8, 8, 8, 8, 8, 8, 8, 8, 8, 8, 8, 8, 8, 8, 8, 8, 8, 8, 8, 8, 8, 8, 8, 8, 8, 8, 8, 8, 8, 8, 8, 8, 8, 8, 8, 8, 8, 8, 8, 8, 8, 8, 8, 8, 8, 8, 8, 8, 8, 8, 8, 8, 8, 8, 8, 8, 8, 8, 8, 8, 8, 8, 8, 8, 8, 8, 8, 8, 8, 8, 8, 8])) (.t 21)),
 oM 23 (.gen ⟨some 23, .convert 5 3 (.tmp 22), 0, "", #[], none⟩),
 oM 24 (.binI .add 3 (.tmp 19) (.tmp 23) (.t 19) (.t 23)),
 oM 2 (.mv (.t 24))])
  .ret)))))
theorem code86 : codeOf C 86 F86 = x86 := by kernel_rfl
theorem ok86 {Q : Ctx} (hK : K Q) : FnOk Q 86 F86 x86 false := hK.ok_ ⟨fn86, code86, by kernel_rfl, by kernel_rfl⟩
noncomputable def b87 : Code := Tryz.f87.body.getD .skip
noncomputable def F87 : FI := ⟨39, [.tmp 6], b87⟩
theorem fn87 : C.fn 87 = some F87 := by kernel_rfl
noncomputable def l87_0 : XC :=
  (.seq (.ops [oM 14 (.binI .lss 3 (.tmp 13) (.tmp 12) (.t 13) (.t 12))])
  (.seq (.cond (.t 14)
    .skip
    (.exit 0))
  (.seq (.block 1
    (.seq (.ops [oM 15 (.mv (.t 13)),
 oM 16 (.idxS 3 (.t 11) (.t 13)),
 oM 17 (.load true 3 (.t 16)),
 oM 8 (.alloc 24 [(.bool false), (.int .i64 0), (.slice .nil [])]),
 oM 7 (.mv (.t 15)),
 ⟨none, .store 3 (.t 8) (.t 17), none⟩])
    (.seq (.seq (.ops [oM 18 (.mv (.t 7)),
 oM 19 (.mv (.t 1)),
 oM 20 (.lenS (.t 19)),
 oM 21 (.binI .geq 3 (.tmp 18) (.tmp 20) (.t 18) (.t 20))])
    (.cond (.t 21)
      (.seq (.ops [oM 6 (.mv (.c (.int .i64 1)))])
      .ret)
      .skip))
    (.seq (.ops [oM 22 (.mv (.t 1)),
 oM 23 (.mv (.t 7)),
 oM 24 (.idxS 3 (.t 22) (.t 23)),
 oM 25 (.load true 3 (.t 24)),
 oM 9 (.alloc 24 [(.bool false), (.int .i64 0), (.slice .nil [])]),
 ⟨none, .store 3 (.t 9) (.t 25), none⟩])
    (.seq (.ops [oM 26 (.mv (.t 2)),
 oM 27 (.load true 3 (.t 8)),
 oM 28 (.load true 3 (.t 9)),
 oM 29 (.call (.t 26) [(.t 27), (.t 28)]),
 oM 10 (.mv (.t 29))])
    (.seq (.ops [oM 30 (.mv (.t 10)),
 oM 31 (.binI .neq 3 (.tmp 30) (.const (.int .i64 0)) (.t 30) (.c (.int .i64 0)))])
    (.cond (.t 31)
      (.seq (.ops [oM 32 (.mv (.t 10)),
 oM 6 (.mv (.t 32))])
      .ret)
      .skip)))))))
  (.ops [oM 33 (.binI .add 3 (.tmp 13) (.const (.int .i64 1)) (.t 13) (.c (.int .i64 1))),
 oM 13 (.mv (.t 33))]))))
noncomputable def x87 : XC :=
  (.seq (.ops [oM 6 (.mv (.c (.int .i64 0)))])
  (.seq (.seq (.ops [oM 11 (.mv (.t 0)),
 oM 12 (.lenS (.t 11)),
 oM 13 (.mv (.c (.int .i64 0)))])
  (.block 0
    (.loop l87_0)))
  (.seq (.seq (.ops [oM 34 (.mv (.t 0)),
 oM 35 (.lenS (.t 34)),
 oM 36 (.mv (.t 1)),
 oM 37 (.lenS (.t 36)),
 oM 38 (.binI .lss 3 (.tmp 35) (.tmp 37) (.t 35) (.t 37))])
  (.cond (.t 38)
    (.seq (.ops [oM 6 (.mv (.c (.int .i64 (-1))))])
    .ret)
    .skip))
  (.seq (.ops [oM 6 (.mv (.c (.int .i64 0)))])
  .ret))))
theorem code87 : codeOf C 87 F87 = x87 := by kernel_rfl
theorem ok87 {Q : Ctx} (hK : K Q) : FnOk Q 87 F87 x87 false := hK.ok_ ⟨fn87, code87, by kernel_rfl, by kernel_rfl⟩
noncomputable def b88 : Code := Tryz.f88.body.getD .skip
noncomputable def F88 : FI := ⟨6, [.tmp 2], b88⟩
theorem fn88 : C.fn 88 = some F88 := by kernel_rfl
noncomputable def x88 : XC :=
  (.seq (.ops [oM 2 (.mv (.c (.bool false)))])
  (.seq (.ops [oM 3 (.mv (.t 0)),
 oM 4 (.mv (.t 0)),
 oM 5 (.binI .neq 3 (.tmp 3) (.tmp 4) (.t 3) (.t 4)),
 oM 2 (.mv (.t 5))])
  .ret))
theorem code88 : codeOf C 88 F88 = x88 := by kernel_rfl
theorem ok88 {Q : Ctx} (hK : K Q) : FnOk Q 88 F88 x88 false := hK.ok_ ⟨fn88, code88, by kernel_rfl, by kernel_rfl⟩
noncomputable def b89 : Code := Tryz.f89.body.getD .skip
noncomputable def F89 : FI := ⟨39, [.tmp 6], b89⟩
theorem fn89 : C.fn 89 = some F89 := by kernel_rfl
noncomputable def l89_0 : XC :=
  (.seq (.ops [oM 14 (.binI .lss 3 (.tmp 13) (.tmp 12) (.t 13) (.t 12))])
  (.seq (.cond (.t 14)
    .skip
    (.exit 0))
  (.seq (.block 1
    (.seq (.ops [oM 15 (.mv (.t 13)),
 oM 16 (.idxS 1 (.t 11) (.t 13)),
 oM 17 (.load false 1 (.t 16)),
 oM 7 (.mv (.t 15)),
 oM 8 (.mv (.t 17))])
    (.seq (.seq (.ops [oM 18 (.mv (.t 7)),
 oM 19 (.mv (.t 1)),
 oM 20 (.lenS (.t 19)),
 oM 21 (.binI .geq 3 (.tmp 18) (.tmp 20) (.t 18) (.t 20))])
    (.cond (.t 21)
      (.seq (.ops [oM 6 (.mv (.c (.int .i64 1)))])
      .ret)
      .skip))
    (.seq (.ops [oM 22 (.mv (.t 1)),
 oM 23 (.mv (.t 7)),
 oM 24 (.idxS 1 (.t 22) (.t 23)),
 oM 25 (.load false 1 (.t 24)),
 oM 9 (.mv (.t 25))])
    (.seq (.ops [oM 26 (.mv (.t 2)),
 oM 27 (.mv (.t 8)),
 oM 28 (.mv (.t 9)),
 oM 29 (.call (.t 26) [(.t 27), (.t 28)]),
 oM 10 (.mv (.t 29))])
    (.seq (.ops [oM 30 (.mv (.t 10)),
 oM 31 (.binI .neq 3 (.tmp 30) (.const (.int .i64 0)) (.t 30) (.c (.int .i64 0)))])
    (.cond (.t 31)
      (.seq (.ops [oM 32 (.mv (.t 10)),
 oM 6 (.mv (.t 32))])
      .ret)
      .skip)))))))
  (.ops [oM 33 (.binI .add 3 (.tmp 13) (.const (.int .i64 1)) (.t 13) (.c (.int .i64 1))),
 oM 13 (.mv (.t 33))]))))
noncomputable def x89 : XC :=
  (.seq (.ops [oM 6 (.mv (.c (.int .i64 0)))])
  (.seq (.seq (.ops [oM 11 (.mv (.t 0)),
 oM 12 (.lenS (.t 11)),
 oM 13 (.mv (.c (.int .i64 0)))])
  (.block 0
    (.loop l89_0)))
  (.seq (.seq (.ops [oM 34 (.mv (.t 0)),
 oM 35 (.lenS (.t 34)),
 oM 36 (.mv (.t 1)),
 oM 37 (.lenS (.t 36)),
 oM 38 (.binI .lss 3 (.tmp 35) (.tmp 37) (.t 35) (.t 37))])
  (.cond (.t 38)
    (.seq (.ops [oM 6 (.mv (.c (.int .i64 (-1))))])
    .ret)
    .skip))
  (.seq (.ops [oM 6 (.mv (.c (.int .i64 0)))])
  .ret))))
theorem code89 : codeOf C 89 F89 = x89 := by kernel_rfl
theorem ok89 {Q : Ctx} (hK : K Q) : FnOk Q 89 F89 x89 false := hK.ok_ ⟨fn89, code89, by kernel_rfl, by kernel_rfl⟩
noncomputable def b90 : Code := Tryz.f90.body.getD .skip
noncomputable def F90 : FI := ⟨19, [.tmp 4], b90⟩
theorem fn90 : C.fn 90 = some F90 := by kernel_rfl
noncomputable def l90_0 : XC :=
  (.seq (.ops [oM 9 (.binI .lss 3 (.tmp 8) (.tmp 7) (.t 8) (.t 7))])
  (.seq (.cond (.t 9)
    .skip
    (.exit 0))
  (.seq (.block 1
    (.seq (.ops [oM 10 (.mv (.t 8)),
 oM 5 (.mv (.t 10))])
    (.seq (.ops [oM 11 (.mv (.t 1)),
 oM 12 (.mv (.t 0)),
 oM 13 (.mv (.t 5)),
 oM 14 (.idxS 1 (.t 12) (.t 13)),
 oM 15 (.load false 1 (.t 14)),
 oM 16 (.call (.t 11) [(.t 15)])])
    (.cond (.t 16)
      (.seq (.ops [oM 17 (.mv (.t 5)),
 oM 4 (.mv (.t 17))])
      .ret)
      .skip))))
  (.ops [oM 18 (.binI .add 3 (.tmp 8) (.const (.int .i64 1)) (.t 8) (.c (.int .i64 1))),
 oM 8 (.mv (.t 18))]))))
noncomputable def x90 : XC :=
  (.seq (.ops [oM 4 (.mv (.c (.int .i64 0)))])
  (.seq (.seq (.ops [oM 6 (.mv (.t 0)),
 oM 7 (.lenS (.t 6)),
 oM 8 (.mv (.c (.int .i64 0)))])
  (.block 0
    (.loop l90_0)))
  (.seq (.ops [oM 4 (.mv (.c (.int .i64 (-1))))])
  .ret)))
theorem code90 : codeOf C 90 F90 = x90 := by kernel_rfl
theorem ok90 {Q : Ctx} (hK : K Q) : FnOk Q 90 F90 x90 false := hK.ok_ ⟨fn90, code90, by kernel_rfl, by kernel_rfl⟩
noncomputable def b92 : Code := Tryz.f92.body.getD .skip
noncomputable def F92 : FI := ⟨27, [.tmp 4], b92⟩
theorem fn92 : C.fn 92 = some F92 := by kernel_rfl
noncomputable def x92 : XC :=
  (.seq (.ops [oM 4 (.mv (.c (.slice .nil [])))])
  (.seq (.seq (.ops [oM 5 (.mv (.t 1)),
 oM 6 (.binI .lss 3 (.tmp 5) (.const (.int .i64 0)) (.t 5) (.c (.int .i64 0)))])
  (.cond (.t 6)
    (.ops [oM 7 (.gen ⟨some 7, .makeInterface 9 (.const (.string ⟨#[99, 97, 110, 110, 111, 116, 32, 98, 101, 32, 110, 101, 103, 97, 116, 105, 118, 101]⟩)), 0, "", #[], none⟩),
 ⟨none, .gen ⟨none, .panic (.tmp 7), 0, "", #[], none⟩, none⟩])
    .skip))
  (.seq (.seq (.ops [oM 8 (.mv (.t 1)),
 oM 9 (.mv (.t 0)),
 oM 10 (.gen ⟨some 10, .call { callee := .builtin .cap, args := #[(.tmp 9)], argTypes := #[22] }, 0, "", #[], none⟩),
 oM 11 (.mv (.t 0)),
 oM 12 (.lenS (.t 11)),
 oM 13 (.binI .sub 3 (.tmp 10) (.tmp 12) (.t 10) (.t 12)),
 oM 14 (.binI .sub 3 (.tmp 8) (.tmp 13) (.t 8) (.t 13)),
 oM 1 (.mv (.t 14))])
  (.seq (.ops [oM 15 (.mv (.t 1)),
 oM 16 (.binI .gtr 3 (.tmp 15) (.const (.int .i64 0)) (.t 15) (.c (.int .i64 0)))])
  (.cond (.t 16)
    (.ops [oM 17 (.mv (.t 0)),
 oM 18 (.mv (.t 0)),
 oM 19 (.gen ⟨some 19, .call { callee := .builtin .cap, args := #[(.tmp 18)], argTypes := #[22] }, 0, "", #[], none⟩),
 oM 20 (.gen ⟨some 20, .slice 22 (.tmp 17) none (some (.tmp 19)) none, 0, "", #[], none⟩),
 oM 21 (.mv (.t 1)),
 oM 22 (.gen ⟨some 22, .call { callee := .builtin .append, args := #[(.tmp 20), (.tmp 21)], argTypes := #[22, 3] }, 0, "", #[], none⟩),
 oM 23 (.mv (.t 0)),
 oM 24 (.lenS (.t 23)),
 oM 25 (.gen ⟨some 25, .slice 22 (.tmp 22) none (some (.tmp 24)) none, 0, "", #[], none⟩),
 oM 0 (.mv (.t 25))])
    .skip)))
  (.seq (.ops [oM 26 (.mv (.t 0)),
 oM 4 (.mv (.t 26))])
  .ret))))
theorem code92 : codeOf C 92 F92 = x92 := by kernel_rfl
theorem ok92 {Q : Ctx} (hK : K Q) : FnOk Q 92 F92 x92 true := hK.ok_ ⟨fn92, code92, by kernel_rfl, by kernel_rfl⟩
noncomputable def b93 : Code := Tryz.f93.body.getD .skip
noncomputable def F93 : FI := ⟨8, [], b93⟩
theorem fn93 : C.fn 93 = some F93 := by kernel_rfl
noncomputable def x93 : XC :=
  (.seq (.ops [oM 2 (.box 74 (.t 0))])
  (.seq (.ops [oM 3 (.alloc 34 [.nilfn])])
  (.seq (.ops [oM 4 (.mkFunc 94 [] [(.t 2), (.t 3)]),
 ⟨none, .store 1 (.t 3) (.t 4), none⟩])
  (.ops [oM 5 (.load false 1 (.t 3)),
 oM 6 (.load false 1 (.t 1)),
 oM 7 (.call (.t 5) [(.c (.slice .nil [])), (.t 6)])]))))
theorem code93 : codeOf C 93 F93 = x93 := by kernel_rfl
theorem ok93 {Q : Ctx} (hK : K Q) : FnOk Q 93 F93 x93 false := hK.ok_ ⟨fn93, code93, by kernel_rfl, by kernel_rfl⟩
noncomputable def b94 : Code := Tryz.f94.body.getD .skip
noncomputable def F94 : FI := ⟨37, [.tmp 6], b94⟩
theorem fn94 : C.fn 94 = some F94 := by kernel_rfl
noncomputable def d94_0 : Array Oper := (drawsOf b94).getD 0 #[]
theorem kd94_0 : drawCr d94_0 = [none, none, (some ([(some none), none, none, none, none, none, none, none, none, none, none, none, none, none], [false, true, false, false, false, false, false, false, false, false, false, false, false, false])), none, none, (some ([(some none), none, none, none, none, none, none, none, none, none, none, none, none, none], [false, true, true, true, true, false, false, false, false, false, false, false, false, false])), none, (some ([(some none), none, none, none, none, none, none, none, none, none, none, none, none, none], [false, true, true, true, true, true, true, false, false, false, false, false, false, false])), none, none, none, (some ([(some none), none, none, none, none, none, none, none, none, none, none, none, none, none], [false, true, true, true, true, true, true, true, true, true, true, false, false, false])), (some ([none, none, none, none, none, none, none, none, none, none, none, none, none, none], [true, true, true, true, true, true, true, true, true, true, true, true, false, false])), none] := by kernel_rfl
noncomputable def l94_0 : XC :=
  (.seq (.ops [oM 18 (.binI .lss 3 (.tmp 17) (.tmp 16) (.t 17) (.t 16))])
  (.seq (.cond (.t 18)
    .skip
    (.exit 0))
  (.seq (.block 1
    (.seq (.ops [oM 19 (.mv (.t 17)),
 oM 20 (.idxS 1 (.t 15) (.t 17)),
 oM 21 (.load false 1 (.t 20)),
 oM 7 (.mv (.t 19)),
 oM 8 (.mv (.t 21))])
    (.seq (.draw d94_0 [oM 22 (.load false 1 (.t 3)),
 oM 23 (.mv (.t 0)),
 oM 24 (.call (.c (.func (.func 95) [] [])) [(.t 23)]),
 oM 25 (.mv (.t 8)),
 oM 26 (.buildS false 3 1 1 [(0, (.t 25))]),
 oM 27 (.app false 3 T3 (.t 24) (.t 26)),
 oM 28 (.mv (.t 1)),
 oM 29 (.call (.c (.func (.func 62) [] [])) [(.t 28)]),
 oM 30 (.mv (.t 7)),
 oM 31 (.mv (.t 7)),
 oM 32 (.binI .add 3 (.tmp 31) (.const (.int .i64 1)) (.t 31) (.c (.int .i64 1))),
 oM 33 (.call (.c (.func (.func 96) [] [])) [(.t 29), (.t 30), (.t 32)]),
 oM 34 (.call (.t 22) [(.t 27), (.t 33)]),
 oM 35 (.un .not (.t 34))])
    (.cond (.t 35)
      (.seq (.ops [oM 6 (.mv (.c (.bool false)))])
      .ret)
      .skip))))
  (.ops [oM 36 (.binI .add 3 (.tmp 17) (.const (.int .i64 1)) (.t 17) (.c (.int .i64 1))),
 oM 17 (.mv (.t 36))]))))
noncomputable def x94 : XC :=
  (.seq (.ops [oM 6 (.mv (.c (.bool false)))])
  (.seq (.seq (.ops [oM 9 (.mv (.t 1)),
 oM 10 (.lenS (.t 9)),
 oM 11 (.binI .eql 3 (.tmp 10) (.const (.int .i64 0)) (.t 10) (.c (.int .i64 0)))])
  (.cond (.t 11)
    (.seq (.ops [oM 12 (.load false 1 (.t 2)),
 oM 13 (.mv (.t 0)),
 oM 14 (.call (.t 12) [(.t 13)]),
 oM 6 (.mv (.t 14))])
    .ret)
    .skip))
  (.seq (.seq (.ops [oM 15 (.mv (.t 1)),
 oM 16 (.lenS (.t 15)),
 oM 17 (.mv (.c (.int .i64 0)))])
  (.block 0
    (.loop l94_0)))
  (.seq (.ops [oM 6 (.mv (.c (.bool true)))])
  .ret))))
theorem code94 : codeOf C 94 F94 = x94 := by kernel_rfl
theorem ok94 {Q : Ctx} (hK : K Q) : FnOk Q 94 F94 x94 false := hK.ok_ ⟨fn94, code94, by kernel_rfl, by kernel_rfl⟩
noncomputable def b95 : Code := Tryz.f95.body.getD .skip
noncomputable def F95 : FI := ⟨9, [.tmp 2], b95⟩
theorem fn95 : C.fn 95 = some F95 := by kernel_rfl
noncomputable def x95 : XC :=
  (.seq (.ops [oM 2 (.mv (.c (.slice .nil [])))])
  (.seq (.ops [oM 3 (.mv (.t 0)),
 oM 4 (.mv (.t 0)),
 oM 5 (.lenS (.t 4)),
 oM 6 (.mv (.t 0)),
 oM 7 (.lenS (.t 6)),
 oM 8 (.gen ⟨some 8, .slice 22 (.tmp 3) none (some (.tmp 5)) (some (.tmp 7)), 0, "", #[], none⟩),
 oM 2 (.mv (.t 8))])
  .ret))
theorem code95 : codeOf C 95 F95 = x95 := by kernel_rfl
theorem ok95 {Q : Ctx} (hK : K Q) : FnOk Q 95 F95 x95 false := hK.ok_ ⟨fn95, code95, by kernel_rfl, by kernel_rfl⟩
noncomputable def b96 : Code := Tryz.f96.body.getD .skip
noncomputable def F96 : FI := ⟨33, [.tmp 6], b96⟩
theorem fn96 : C.fn 96 = some F96 := by kernel_rfl
noncomputable def d96_0 : Array Oper := (drawsOf b96).getD 0 #[]
theorem kd96_0 : drawCr d96_0 = [none, none, none, none, none, none, (some ([none, none, none, none, none, none, none, none], [true, true, true, true, true, true, false, false])), none] := by kernel_rfl
noncomputable def x96 : XC :=
  (.seq (.ops [oM 6 (.mv (.c (.slice .nil [])))])
  (.seq (.ops [oM 8 (.mv (.t 0)),
 oM 9 (.mv (.t 1)),
 oM 10 (.mv (.t 2)),
 oM 11 (.mv (.t 0)),
 oM 12 (.lenS (.t 11)),
 oM 13 (.gen ⟨some 13, .slice 22 (.tmp 8) (some (.tmp 9)) (some (.tmp 10)) (some (.tmp 12)), 0, "", #[], none⟩)])
  (.seq (.seq (.ops [oM 14 (.mv (.t 1)),
 oM 15 (.mv (.t 2)),
 oM 16 (.binI .eql 3 (.tmp 14) (.tmp 15) (.t 14) (.t 15))])
  (.cond (.t 16)
    (.seq (.ops [oM 17 (.mv (.t 0)),
 oM 6 (.mv (.t 17))])
    .ret)
    .skip))
  (.seq (.ops [oM 18 (.mv (.t 0)),
 oM 19 (.lenS (.t 18)),
 oM 7 (.mv (.t 19))])
  (.seq (.draw d96_0 [oM 20 (.mv (.t 0)),
 oM 21 (.mv (.t 1)),
 oM 22 (.gen ⟨some 22, .slice 22 (.tmp 20) none (some (.tmp 21)) none, 0, "", #[], none⟩),
 oM 23 (.mv (.t 0)),
 oM 24 (.mv (.t 2)),
 oM 25 (.gen ⟨some 25, .slice 22 (.tmp 23) (some (.tmp 24)) none none, 0, "", #[], none⟩),
 oM 26 (.app true 3 T3 (.t 22) (.t 25)),
 oM 0 (.mv (.t 26))])
  (.seq (.ops [oM 27 (.mv (.t 0)),
 oM 28 (.mv (.t 0)),
 oM 29 (.lenS (.t 28)),
 oM 30 (.mv (.t 7)),
 oM 31 (.gen ⟨some 31, .slice 22 (.tmp 27) (some (.tmp 29)) (some (.tmp 30)) none, 0, "", #[], none⟩),
 ⟨none, .gen ⟨none, .call { callee := .builtin .clear, args := #[(.tmp 31)], argTypes := #[22] }, 0, "", #[], none⟩, none⟩])
  (.seq (.ops [oM 32 (.mv (.t 0)),
 oM 6 (.mv (.t 32))])
  .ret)))))))
theorem code96 : codeOf C 96 F96 = x96 := by kernel_rfl
theorem ok96 {Q : Ctx} (hK : K Q) : FnOk Q 96 F96 x96 true := hK.ok_ ⟨fn96, code96, by kernel_rfl, by kernel_rfl⟩
noncomputable def b97 : Code := Tryz.f97.body.getD .skip
noncomputable def F97 : FI := ⟨17, [.tmp 4], b97⟩
theorem fn97 : C.fn 97 = some F97 := by kernel_rfl
noncomputable def x97 : XC :=
  (.seq (.ops [oM 4 (.mv (.c (.bool false)))])
  (.seq (.ops [oM 5 (.mv (.t 0)),
 oM 6 (.call (.c (.func (.func 88) [] [])) [(.t 5)]),
 oM 7 (.mv (.t 6)),
 ⟨some 8, .mv (.t 1), (some (some 7, true))⟩,
 ⟨some 9, .call (.c (.func (.func 88) [] [])) [(.t 8)], (some (some 7, true))⟩,
 ⟨some 10, .un .not (.t 9), (some (some 7, true))⟩,
 oM 11 (.pick (.t 7) (.t 10) (.c (.bool false))),
 oM 12 (.mv (.t 11)),
 ⟨some 13, .mv (.t 0), (some (some 12, false))⟩,
 ⟨some 14, .mv (.t 1), (some (some 12, false))⟩,
 ⟨some 15, .binI .lss 3 (.tmp 13) (.tmp 14) (.t 13) (.t 14), (some (some 12, false))⟩,
 oM 16 (.pick (.t 12) (.c (.bool true)) (.t 15)),
 oM 4 (.mv (.t 16))])
  .ret))
theorem code97 : codeOf C 97 F97 = x97 := by kernel_rfl
theorem ok97 {Q : Ctx} (hK : K Q) : FnOk Q 97 F97 x97 false := hK.ok_ ⟨fn97, code97, by kernel_rfl, by kernel_rfl⟩
noncomputable def b98 : Code := Tryz.f98.body.getD .skip
noncomputable def F98 : FI := ⟨5, [.tmp 2], b98⟩
theorem fn98 : C.fn 98 = some F98 := by kernel_rfl
noncomputable def x98 : XC :=
  (.seq (.ops [oM 2 (.mv (.c (.slice .nil [])))])
  (.seq (.ops [oM 3 (.mv (.t 0)),
 oM 4 (.call (.c (.func (.func 107) [] [])) [(.c (.slice .nil [])), (.t 3)]),
 oM 2 (.mv (.t 4))])
  .ret))
theorem code98 : codeOf C 98 F98 = x98 := by kernel_rfl
theorem ok98 {Q : Ctx} (hK : K Q) : FnOk Q 98 F98 x98 true := hK.ok_ ⟨fn98, code98, by kernel_rfl, by kernel_rfl⟩
noncomputable def b99 : Code := Tryz.f99.body.getD .skip
noncomputable def F99 : FI := ⟨11, [], b99⟩
theorem fn99 : C.fn 99 = some F99 := by kernel_rfl
noncomputable def x99 : XC :=
  (.seq (.ops [oM 3 (.mv (.t 0)),
 oM 4 (.lenS (.t 3)),
 oM 2 (.mv (.t 4))])
  (.ops [oM 5 (.mv (.t 0)),
 oM 6 (.mv (.t 2)),
 oM 7 (.mv (.t 2)),
 oM 8 (.gen ⟨some 8, .convert 3 85 (.tmp 7), 0, "", #[], none⟩),
 oM 9 (.call (.c (.func (.func 41) [] [])) [(.t 8)]),
 oM 10 (.call (.c (.func (.func 108) [] [])) [(.t 5), (.c (.int .i64 0)), (.t 6), (.t 9)])]))
theorem code99 : codeOf C 99 F99 = x99 := by kernel_rfl
theorem ok99 {Q : Ctx} (hK : K Q) : FnOk Q 99 F99 x99 false := hK.ok_ ⟨fn99, code99, by kernel_rfl, by kernel_rfl⟩
noncomputable def b100 : Code := Tryz.f100.body.getD .skip
noncomputable def F100 : FI := ⟨16, [], b100⟩
theorem fn100 : C.fn 100 = some F100 := by kernel_rfl
noncomputable def l100_0 : XC :=
  (.seq (.ops [oM 8 (.binI .lss 3 (.tmp 7) (.tmp 6) (.t 7) (.t 6))])
  (.seq (.cond (.t 8)
    .skip
    (.exit 0))
  (.seq (.block 1
    (.seq (.ops [oM 9 (.idxS 1 (.t 5) (.t 7)),
 oM 10 (.load false 1 (.t 9)),
 oM 4 (.mv (.t 10))])
    (.seq (.ops [oM 11 (.mv (.t 0)),
 oM 12 (.mv (.t 4)),
 oM 13 (.call (.t 11) [(.t 12)]),
 oM 14 (.un .not (.t 13))])
    (.cond (.t 14)
      .ret
      .skip))))
  (.ops [oM 15 (.binI .add 3 (.tmp 7) (.const (.int .i64 1)) (.t 7) (.c (.int .i64 1))),
 oM 7 (.mv (.t 15))]))))
noncomputable def x100 : XC :=
  (.seq (.ops [oM 5 (.load false 1 (.t 1)),
 oM 6 (.lenS (.t 5)),
 oM 7 (.mv (.c (.int .i64 0)))])
  (.block 0
    (.loop l100_0)))
theorem code100 : codeOf C 100 F100 = x100 := by kernel_rfl
theorem ok100 {Q : Ctx} (hK : K Q) : FnOk Q 100 F100 x100 false := hK.ok_ ⟨fn100, code100, by kernel_rfl, by kernel_rfl⟩
noncomputable def b102 : Code := Tryz.f102.body.getD .skip
noncomputable def F102 : FI := ⟨82, [], b102⟩
theorem fn102 : C.fn 102 = some F102 := by kernel_rfl
noncomputable def d102_0 : Array Oper := (drawsOf b102).getD 0 #[]
theorem kd102_0 : drawCr d102_0 = [none, none, none, none, none, none, none, none, none, none, none, none, none, none, none, none, none, none, none, (some ([none, none, none, none, none, none, none, none, none, none, none, none, none, none, none, none, none, none, none, none, none, none], [true, true, true, true, true, true, true, true, true, true, true, true, true, true, true, true, true, true, true, false, false, false])), none, none] := by kernel_rfl
noncomputable def d102_1 : Array Oper := (drawsOf b102).getD 1 #[]
theorem kd102_1 : drawCr d102_1 = [none, none, none, none, none, none, none, none, none, none, none, none, none, (some ([none, none, none, none, none, none, none, none, none, none, none, none, none, none, none, none], [true, true, true, true, true, true, true, true, true, true, true, true, true, false, false, false])), none, none] := by kernel_rfl
noncomputable def d102_2 : Array Oper := (drawsOf b102).getD 2 #[]
theorem kd102_2 : drawCr d102_2 = [none, none, none, none, none, none, none, none, none, none, none, none, none, none, none, none, none, none, none, none, none, (some ([none, none, none, none, none, none, none, none, none, none, none, none, none, none, none, none, none, none, none, none, none, none, none, none], [true, true, true, true, false, false, false, false, true, true, true, true, true, true, true, true, true, true, true, true, true, false, false, false])), none, (some ([none, none, none, none, none, none, none, none, none, none, none, none, none, none, none, none, none, none, none, none, none, none, none, none], [true, true, true, true, true, true, true, true, true, true, true, true, true, true, true, true, true, true, true, true, true, true, true, false]))] := by kernel_rfl
noncomputable def l102_0 : XC :=
  (.block 1
    (.seq (.ops [oM 13 (.mv (.t 10)),
 oM 14 (.binI .mul 3 (.const (.int .i64 2)) (.tmp 13) (.c (.int .i64 2)) (.t 13)),
 oM 15 (.binI .add 3 (.tmp 14) (.const (.int .i64 1)) (.t 14) (.c (.int .i64 1))),
 oM 11 (.mv (.t 15))])
    (.seq (.seq (.ops [oM 16 (.mv (.t 11)),
 oM 17 (.mv (.t 2)),
 oM 18 (.binI .geq 3 (.tmp 16) (.tmp 17) (.t 16) (.t 17))])
    (.cond (.t 18)
      (.exit 0)
      .skip))
    (.seq (.seq (.draw d102_0 [oM 19 (.mv (.t 11)),
 oM 20 (.binI .add 3 (.tmp 19) (.const (.int .i64 1)) (.t 19) (.c (.int .i64 1))),
 oM 21 (.mv (.t 2)),
 oM 22 (.binI .lss 3 (.tmp 20) (.tmp 21) (.t 20) (.t 21)),
 oM 23 (.mv (.t 22)),
 ⟨some 24, .mv (.t 4), (some (some 23, true))⟩,
 ⟨some 25, .mv (.t 0), (some (some 23, true))⟩,
 ⟨some 26, .mv (.t 3), (some (some 23, true))⟩,
 ⟨some 27, .mv (.t 11), (some (some 23, true))⟩,
 ⟨some 28, .binI .add 3 (.tmp 26) (.tmp 27) (.t 26) (.t 27), (some (some 23, true))⟩,
 ⟨some 29, .idxS 1 (.t 25) (.t 28), (some (some 23, true))⟩,
 ⟨some 30, .load false 1 (.t 29), (some (some 23, true))⟩,
 ⟨some 31, .mv (.t 0), (some (some 23, true))⟩,
 ⟨some 32, .mv (.t 3), (some (some 23, true))⟩,
 ⟨some 33, .mv (.t 11), (some (some 23, true))⟩,
 ⟨some 34, .binI .add 3 (.tmp 32) (.tmp 33) (.t 32) (.t 33), (some (some 23, true))⟩,
 ⟨some 35, .binI .add 3 (.tmp 34) (.const (.int .i64 1)) (.t 34) (.c (.int .i64 1)), (some (some 23, true))⟩,
 ⟨some 36, .idxS 1 (.t 31) (.t 35), (some (some 23, true))⟩,
 ⟨some 37, .load false 1 (.t 36), (some (some 23, true))⟩,
 ⟨some 38, .call (.t 24) [(.t 30), (.t 37)], (some (some 23, true))⟩,
 ⟨some 39, .binI .lss 3 (.tmp 38) (.const (.int .i64 0)) (.t 38) (.c (.int .i64 0)), (some (some 23, true))⟩,
 oM 40 (.pick (.t 23) (.t 39) (.c (.bool false)))])
    (.cond (.t 40)
      (.ops [oM 41 (.mv (.t 11)),
 oM 42 (.binI .add 3 (.tmp 41) (.const (.int .i64 1)) (.t 41) (.c (.int .i64 1))),
 oM 11 (.mv (.t 42))])
      .skip))
    (.seq (.seq (.draw d102_1 [oM 43 (.mv (.t 4)),
 oM 44 (.mv (.t 0)),
 oM 45 (.mv (.t 3)),
 oM 46 (.mv (.t 10)),
 oM 47 (.binI .add 3 (.tmp 45) (.tmp 46) (.t 45) (.t 46)),
 oM 48 (.idxS 1 (.t 44) (.t 47)),
 oM 49 (.load false 1 (.t 48)),
 oM 50 (.mv (.t 0)),
 oM 51 (.mv (.t 3)),
 oM 52 (.mv (.t 11)),
 oM 53 (.binI .add 3 (.tmp 51) (.tmp 52) (.t 51) (.t 52)),
 oM 54 (.idxS 1 (.t 50) (.t 53)),
 oM 55 (.load false 1 (.t 54)),
 oM 56 (.call (.t 43) [(.t 49), (.t 55)]),
 oM 57 (.binI .lss 3 (.tmp 56) (.const (.int .i64 0)) (.t 56) (.c (.int .i64 0))),
 oM 58 (.un .not (.t 57))])
    (.cond (.t 58)
      .ret
      .skip))
    (.seq (.draw d102_2 [oM 59 (.mv (.t 0)),
 oM 60 (.mv (.t 3)),
 oM 61 (.mv (.t 10)),
 oM 62 (.binI .add 3 (.tmp 60) (.tmp 61) (.t 60) (.t 61)),
 oM 63 (.mv (.t 0)),
 oM 64 (.mv (.t 3)),
 oM 65 (.mv (.t 11)),
 oM 66 (.binI .add 3 (.tmp 64) (.tmp 65) (.t 64) (.t 65)),
 oM 67 (.mv (.t 0)),
 oM 68 (.mv (.t 3)),
 oM 69 (.mv (.t 11)),
 oM 70 (.binI .add 3 (.tmp 68) (.tmp 69) (.t 68) (.t 69)),
 oM 71 (.idxS 1 (.t 67) (.t 70)),
 oM 72 (.load false 1 (.t 71)),
 oM 73 (.mv (.t 0)),
 oM 74 (.mv (.t 3)),
 oM 75 (.mv (.t 10)),
 oM 76 (.binI .add 3 (.tmp 74) (.tmp 75) (.t 74) (.t 75)),
 oM 77 (.idxS 1 (.t 73) (.t 76)),
 oM 78 (.load false 1 (.t 77)),
 oM 79 (.idxS 1 (.t 59) (.t 62)),
 ⟨none, .store 1 (.t 79) (.t 72), none⟩,
 oM 80 (.idxS 1 (.t 63) (.t 66)),
 ⟨none, .store 1 (.t 80) (.t 78), none⟩])
    (.ops [oM 81 (.mv (.t 11)),
 oM 10 (.mv (.t 81))])))))))
noncomputable def x102 : XC :=
  (.seq (.ops [oM 12 (.mv (.t 1)),
 oM 10 (.mv (.t 12))])
  (.block 0
    (.loop l102_0)))
theorem code102 : codeOf C 102 F102 = x102 := by kernel_rfl
theorem ok102 {Q : Ctx} (hK : K Q) : FnOk Q 102 F102 x102 false := hK.ok_ ⟨fn102, code102, by kernel_rfl, by kernel_rfl⟩
noncomputable def b103 : Code := Tryz.f103.body.getD .skip
noncomputable def F103 : FI := ⟨7, [.tmp 2], b103⟩
theorem fn103 : C.fn 103 = some F103 := by kernel_rfl
noncomputable def x103 : XC :=
  (.seq (.ops [oM 2 (.mv (.c (.int .u64 0)))])
  (.seq (.ops [oM 3 (.mv (.t 0)),
 oM 4 (.gen ⟨some 4, .convert 3 85 (.tmp 3), 0, "", #[], none⟩),
 oM 5 (.call (.c (.func (.func 41) [] [])) [(.t 4)]),
 oM 6 (.binI .shl 85 (.const (.int .u64 1)) (.tmp 5) (.c (.int .u64 1)) (.t 5)),
 oM 2 (.mv (.t 6))])
  .ret))
theorem code103 : codeOf C 103 F103 = x103 := by kernel_rfl
theorem ok103 {Q : Ctx} (hK : K Q) : FnOk Q 103 F103 x103 false := hK.ok_ ⟨fn103, code103, by kernel_rfl, by kernel_rfl⟩
noncomputable def b104 : Code := Tryz.f104.body.getD .skip
noncomputable def F104 : FI := ⟨33, [.tmp 2], b104⟩
theorem fn104 : C.fn 104 = some F104 := by kernel_rfl
noncomputable def d104_0 : Array Oper := (drawsOf b104).getD 0 #[]
theorem kd104_0 : drawCr d104_0 = [none, none, none, none, none, none, none, none, none, (some ([none, none, none, none, none, none, none, none, none, none], [true, true, true, true, true, true, true, true, true, false]))] := by kernel_rfl
noncomputable def d104_1 : Array Oper := (drawsOf b104).getD 1 #[]
theorem kd104_1 : drawCr d104_1 = [none, none, none, none, none, none, none, none, none, (some ([none, none, none, none, none, none, none, none, none, none], [true, true, true, true, true, true, true, true, true, false]))] := by kernel_rfl
noncomputable def d104_2 : Array Oper := (drawsOf b104).getD 2 #[]
theorem kd104_2 : drawCr d104_2 = [none, none, none, none, none, none, none, none, none, (some ([none, none, none, none, none, none, none, none, none, none], [true, true, true, true, true, true, true, true, true, false]))] := by kernel_rfl
noncomputable def x104 : XC :=
  (.seq (.ops [oM 2 (.mv (.c (.int .u64 0)))])
  (.seq (.draw d104_0 [oM 3 (.mv (.t 0)),
 oM 4 (.gen ⟨some 4, .nilCheck (.tmp 3), 0, "", #[], none⟩),
 oM 5 (.load false 1 (.t 4)),
 oM 6 (.mv (.t 0)),
 oM 7 (.gen ⟨some 7, .nilCheck (.tmp 6), 0, "", #[], none⟩),
 oM 8 (.load false 1 (.t 7)),
 oM 9 (.binI .shl 132 (.tmp 8) (.const (.int .u64 13)) (.t 8) (.c (.int .u64 13))),
 oM 10 (.binI .xor 132 (.tmp 5) (.tmp 9) (.t 5) (.t 9)),
 oM 11 (.gen ⟨some 11, .nilCheck (.tmp 3), 0, "", #[], none⟩),
 ⟨none, .store 1 (.t 11) (.t 10), none⟩])
  (.seq (.draw d104_1 [oM 12 (.mv (.t 0)),
 oM 13 (.gen ⟨some 13, .nilCheck (.tmp 12), 0, "", #[], none⟩),
 oM 14 (.load false 1 (.t 13)),
 oM 15 (.mv (.t 0)),
 oM 16 (.gen ⟨some 16, .nilCheck (.tmp 15), 0, "", #[], none⟩),
 oM 17 (.load false 1 (.t 16)),
 oM 18 (.binI .shr 132 (.tmp 17) (.const (.int .u64 7)) (.t 17) (.c (.int .u64 7))),
 oM 19 (.binI .xor 132 (.tmp 14) (.tmp 18) (.t 14) (.t 18)),
 oM 20 (.gen ⟨some 20, .nilCheck (.tmp 12), 0, "", #[], none⟩),
 ⟨none, .store 1 (.t 20) (.t 19), none⟩])
  (.seq (.draw d104_2 [oM 21 (.mv (.t 0)),
 oM 22 (.gen ⟨some 22, .nilCheck (.tmp 21), 0, "", #[], none⟩),
 oM 23 (.load false 1 (.t 22)),
 oM 24 (.mv (.t 0)),
 oM 25 (.gen ⟨some 25, .nilCheck (.tmp 24), 0, "", #[], none⟩),
 oM 26 (.load false 1 (.t 25)),
 oM 27 (.binI .shl 132 (.tmp 26) (.const (.int .u64 17)) (.t 26) (.c (.int .u64 17))),
 oM 28 (.binI .xor 132 (.tmp 23) (.tmp 27) (.t 23) (.t 27)),
 oM 29 (.gen ⟨some 29, .nilCheck (.tmp 21), 0, "", #[], none⟩),
 ⟨none, .store 1 (.t 29) (.t 28), none⟩])
  (.seq (.ops [oM 30 (.mv (.t 0)),
 oM 31 (.gen ⟨some 31, .nilCheck (.tmp 30), 0, "", #[], none⟩),
 oM 32 (.load false 1 (.t 31)),
 oM 2 (.mv (.t 32))])
  .ret)))))
theorem code104 : codeOf C 104 F104 = x104 := by kernel_rfl
theorem ok104 {Q : Ctx} (hK : K Q) : FnOk Q 104 F104 x104 false := hK.ok_ ⟨fn104, code104, by kernel_rfl, by kernel_rfl⟩
noncomputable def b105 : Code := Tryz.f105.body.getD .skip
noncomputable def F105 : FI := ⟨18, [.tmp 8], b105⟩
theorem fn105 : C.fn 105 = some F105 := by kernel_rfl
noncomputable def x105 : XC :=
  (.seq (.ops [oM 8 (.mv (.c (.int .i64 0)))])
  (.seq (.ops [oM 9 (.mv (.t 0)),
 oM 10 (.mv (.t 1)),
 oM 11 (.binI .sub 3 (.tmp 10) (.const (.int .i64 1)) (.t 10) (.c (.int .i64 1))),
 oM 12 (.mv (.t 1)),
 oM 13 (.mv (.t 1)),
 oM 14 (.binI .add 3 (.tmp 13) (.const (.int .i64 1)) (.t 13) (.c (.int .i64 1))),
 oM 15 (.mv (.t 2)),
 oM 16 (.mv (.t 3)),
 oM 17 (.call (.c (.func (.func 106) [] [])) [(.t 9), (.t 11), (.t 12), (.t 14), (.t 15), (.t 16)]),
 oM 8 (.mv (.t 17))])
  .ret))
theorem code105 : codeOf C 105 F105 = x105 := by kernel_rfl
theorem ok105 {Q : Ctx} (hK : K Q) : FnOk Q 105 F105 x105 false := hK.ok_ ⟨fn105, code105, by kernel_rfl, by kernel_rfl⟩
noncomputable def b106 : Code := Tryz.f106.body.getD .skip
noncomputable def F106 : FI := ⟨41, [.tmp 12], b106⟩
theorem fn106 : C.fn 106 = some F106 := by kernel_rfl
noncomputable def x106 : XC :=
  (.seq (.ops [oM 12 (.mv (.c (.int .i64 0)))])
  (.seq (.ops [oM 14 (.mv (.t 0)),
 oM 15 (.mv (.t 1)),
 oM 16 (.mv (.t 2)),
 oM 17 (.mv (.t 4)),
 oM 18 (.mv (.t 5)),
 oM 19 (.call (.c (.func (.func 109) [] [])) [(.t 14), (.t 15), (.t 16), (.t 17), (.t 18)]),
 oM 13 (.mv (.t 19)),
 oM 20 (.extract (.t 13) 0),
 oM 21 (.extract (.t 13) 1),
 oM 1 (.mv (.t 20)),
 oM 2 (.mv (.t 21))])
  (.seq (.ops [oM 23 (.mv (.t 0)),
 oM 24 (.mv (.t 2)),
 oM 25 (.mv (.t 3)),
 oM 26 (.mv (.t 4)),
 oM 27 (.mv (.t 5)),
 oM 28 (.call (.c (.func (.func 109) [] [])) [(.t 23), (.t 24), (.t 25), (.t 26), (.t 27)]),
 oM 22 (.mv (.t 28)),
 oM 29 (.extract (.t 22) 0),
 oM 30 (.extract (.t 22) 1),
 oM 2 (.mv (.t 29)),
 oM 3 (.mv (.t 30))])
  (.seq (.ops [oM 32 (.mv (.t 0)),
 oM 33 (.mv (.t 1)),
 oM 34 (.mv (.t 2)),
 oM 35 (.mv (.t 4)),
 oM 36 (.mv (.t 5)),
 oM 37 (.call (.c (.func (.func 109) [] [])) [(.t 32), (.t 33), (.t 34), (.t 35), (.t 36)]),
 oM 31 (.mv (.t 37)),
 oM 38 (.extract (.t 31) 0),
 oM 39 (.extract (.t 31) 1),
 oM 1 (.mv (.t 38)),
 oM 2 (.mv (.t 39))])
  (.seq (.ops [oM 40 (.mv (.t 2)),
 oM 12 (.mv (.t 40))])
  .ret)))))
theorem code106 : codeOf C 106 F106 = x106 := by kernel_rfl
theorem ok106 {Q : Ctx} (hK : K Q) : FnOk Q 106 F106 x106 false := hK.ok_ ⟨fn106, code106, by kernel_rfl, by kernel_rfl⟩
noncomputable def b107 : Code := Tryz.f107.body.getD .skip
noncomputable def F107 : FI := ⟨13, [.tmp 4], b107⟩
theorem fn107 : C.fn 107 = some F107 := by kernel_rfl
noncomputable def q107_0 : Code × Code := (rangesOf b107).getD 0 (.skip, .skip)
noncomputable def x107 : XC :=
  (.seq (.ops [oM 2 (.box 22 (.t 0)),
 oM 4 (.mv (.c (.slice .nil [])))])
  (.seq (.seq (.ops [oM 6 (.mv (.t 1))])
  (.block 0
    (.rangeFunc (.t 6) [7] (q107_0).1 (q107_0).2)))
  (.seq (.ops [oM 12 (.load false 1 (.t 2)),
 oM 4 (.mv (.t 12))])
  .ret)))
theorem code107 : codeOf C 107 F107 = x107 := by kernel_rfl
theorem ok107 {Q : Ctx} (hK : K Q) : FnOk Q 107 F107 x107 true := hK.ok_ ⟨fn107, code107, by kernel_rfl, by kernel_rfl⟩
noncomputable def xa107_0 : XC :=
  (.ops [oM 5 (.mv (.t 7))])
theorem codea107_0 : compC C (C.mu 107) (resolveC q107_0.1) = xa107_0 := by kernel_rfl
noncomputable def xb107_0 : XC :=
  (.block 1
    (.ops [oM 8 (.load false 1 (.t 2)),
 oM 9 (.mv (.t 5)),
 oM 10 (.buildS true 3 1 1 [(0, (.t 9))]),
 oM 11 (.app true 3 T3 (.t 8) (.t 10)),
 ⟨none, .store 1 (.t 2) (.t 11), none⟩]))
theorem codeb107_0 : compC C (C.mu 107) (resolveC q107_0.2) = xb107_0 := by kernel_rfl
noncomputable def b108 : Code := Tryz.f108.body.getD .skip
noncomputable def F108 : FI := ⟨134, [], b108⟩
theorem fn108 : C.fn 108 = some F108 := by kernel_rfl
noncomputable def d108_0 : Array Oper := (drawsOf b108).getD 0 #[]
theorem kd108_0 : drawCr d108_0 = [none, none, none, none, none, none, none, none, none, none, none, none, (some ([none, none, none, none, none, none, none, none, none, none, none, none, none, none, none], [true, true, true, true, true, true, true, true, true, true, true, true, false, false, false])), none, none] := by kernel_rfl
noncomputable def l108_0 : XC :=
  (.block 1
    (.seq (.ops [oM 19 (.mv (.t 2)),
 oM 20 (.mv (.t 1)),
 oM 21 (.binI .sub 3 (.tmp 19) (.tmp 20) (.t 19) (.t 20)),
 oM 10 (.mv (.t 21))])
    (.seq (.seq (.ops [oM 22 (.mv (.t 10)),
 oM 23 (.binI .leq 3 (.tmp 22) (.const (.int .i64 12)) (.t 22) (.c (.int .i64 12)))])
    (.cond (.t 23)
      (.seq (.ops [oM 24 (.mv (.t 0)),
 oM 25 (.mv (.t 1)),
 oM 26 (.mv (.t 2)),
 oM 27 (.call (.c (.func (.func 110) [] [])) [(.t 24), (.t 25), (.t 26)])])
      .ret)
      .skip))
    (.seq (.seq (.ops [oM 28 (.mv (.t 3)),
 oM 29 (.binI .eql 3 (.tmp 28) (.const (.int .i64 0)) (.t 28) (.c (.int .i64 0)))])
    (.cond (.t 29)
      (.seq (.ops [oM 30 (.mv (.t 0)),
 oM 31 (.mv (.t 1)),
 oM 32 (.mv (.t 2)),
 oM 33 (.call (.c (.func (.func 111) [] [])) [(.t 30), (.t 31), (.t 32)])])
      .ret)
      .skip))
    (.seq (.seq (.ops [oM 34 (.mv (.t 8)),
 oM 35 (.un .not (.t 34))])
    (.cond (.t 35)
      (.seq (.ops [oM 36 (.mv (.t 0)),
 oM 37 (.mv (.t 1)),
 oM 38 (.mv (.t 2)),
 oM 39 (.call (.c (.func (.func 112) [] [])) [(.t 36), (.t 37), (.t 38)])])
      (.ops [oM 40 (.mv (.t 3)),
 oM 41 (.binI .sub 3 (.tmp 40) (.const (.int .i64 1)) (.t 40) (.c (.int .i64 1))),
 oM 3 (.mv (.t 41))]))
      .skip))
    (.seq (.ops [oM 43 (.mv (.t 0)),
 oM 44 (.mv (.t 1)),
 oM 45 (.mv (.t 2)),
 oM 46 (.call (.c (.func (.func 113) [] [])) [(.t 43), (.t 44), (.t 45)]),
 oM 42 (.mv (.t 46)),
 oM 47 (.extract (.t 42) 0),
 oM 48 (.extract (.t 42) 1),
 oM 11 (.mv (.t 47)),
 oM 12 (.mv (.t 48))])
    (.seq (.seq (.ops [oM 49 (.mv (.t 12)),
 oM 50 (.binI .eql 112 (.tmp 49) (.const (.int .i64 2)) (.t 49) (.c (.int .i64 2)))])
    (.cond (.t 50)
      (.seq (.ops [oM 51 (.mv (.t 0)),
 oM 52 (.mv (.t 1)),
 oM 53 (.mv (.t 2)),
 oM 54 (.call (.c (.func (.func 114) [] [])) [(.t 51), (.t 52), (.t 53)])])
      (.seq (.ops [oM 55 (.mv (.t 2)),
 oM 56 (.binI .sub 3 (.tmp 55) (.const (.int .i64 1)) (.t 55) (.c (.int .i64 1))),
 oM 57 (.mv (.t 11)),
 oM 58 (.mv (.t 1)),
 oM 59 (.binI .sub 3 (.tmp 57) (.tmp 58) (.t 57) (.t 58)),
 oM 60 (.binI .sub 3 (.tmp 56) (.tmp 59) (.t 56) (.t 59)),
 oM 11 (.mv (.t 60))])
      (.ops [oM 12 (.mv (.c (.int .i64 1)))])))
      .skip))
    (.seq (.seq (.ops [oM 61 (.mv (.t 8)),
 oM 62 (.mv (.t 61)),
 ⟨some 63, .mv (.t 9), (some (some 62, true))⟩,
 oM 64 (.pick (.t 62) (.t 63) (.c (.bool false))),
 oM 65 (.mv (.t 64)),
 ⟨some 66, .mv (.t 12), (some (some 65, true))⟩,
 ⟨some 67, .binI .eql 112 (.tmp 66) (.const (.int .i64 1)) (.t 66) (.c (.int .i64 1)), (some (some 65, true))⟩,
 oM 68 (.pick (.t 65) (.t 67) (.c (.bool false)))])
    (.cond (.t 68)
      (.seq (.ops [oM 69 (.mv (.t 0)),
 oM 70 (.mv (.t 1)),
 oM 71 (.mv (.t 2)),
 oM 72 (.call (.c (.func (.func 115) [] [])) [(.t 69), (.t 70), (.t 71)])])
      (.cond (.t 72)
        .ret
        .skip))
      .skip))
    (.seq (.seq (.draw d108_0 [oM 73 (.mv (.t 1)),
 oM 74 (.binI .gtr 3 (.tmp 73) (.const (.int .i64 0)) (.t 73) (.c (.int .i64 0))),
 oM 75 (.mv (.t 74)),
 ⟨some 76, .mv (.t 0), (some (some 75, true))⟩,
 ⟨some 77, .mv (.t 1), (some (some 75, true))⟩,
 ⟨some 78, .binI .sub 3 (.tmp 77) (.const (.int .i64 1)) (.t 77) (.c (.int .i64 1)), (some (some 75, true))⟩,
 ⟨some 79, .idxS 1 (.t 76) (.t 78), (some (some 75, true))⟩,
 ⟨some 80, .load false 1 (.t 79), (some (some 75, true))⟩,
 ⟨some 81, .mv (.t 0), (some (some 75, true))⟩,
 ⟨some 82, .mv (.t 11), (some (some 75, true))⟩,
 ⟨some 83, .idxS 1 (.t 81) (.t 82), (some (some 75, true))⟩,
 ⟨some 84, .load false 1 (.t 83), (some (some 75, true))⟩,
 ⟨some 85, .call (.c (.func (.func 97) [] [])) [(.t 80), (.t 84)], (some (some 75, true))⟩,
 ⟨some 86, .un .not (.t 85), (some (some 75, true))⟩,
 oM 87 (.pick (.t 75) (.t 86) (.c (.bool false)))])
    (.cond (.t 87)
      (.seq (.ops [oM 88 (.mv (.t 0)),
 oM 89 (.mv (.t 1)),
 oM 90 (.mv (.t 2)),
 oM 91 (.mv (.t 11)),
 oM 92 (.call (.c (.func (.func 116) [] [])) [(.t 88), (.t 89), (.t 90), (.t 91)]),
 oM 13 (.mv (.t 92))])
      (.seq (.ops [oM 93 (.mv (.t 13)),
 oM 1 (.mv (.t 93))])
      (.exit 1)))
      .skip))
    (.seq (.ops [oM 95 (.mv (.t 0)),
 oM 96 (.mv (.t 1)),
 oM 97 (.mv (.t 2)),
 oM 98 (.mv (.t 11)),
 oM 99 (.call (.c (.func (.func 117) [] [])) [(.t 95), (.t 96), (.t 97), (.t 98)]),
 oM 94 (.mv (.t 99)),
 oM 100 (.extract (.t 94) 0),
 oM 101 (.extract (.t 94) 1),
 oM 14 (.mv (.t 100)),
 oM 15 (.mv (.t 101))])
    (.seq (.ops [oM 102 (.mv (.t 15)),
 oM 9 (.mv (.t 102))])
    (.seq (.ops [oM 103 (.mv (.t 14)),
 oM 104 (.mv (.t 1)),
 oM 105 (.binI .sub 3 (.tmp 103) (.tmp 104) (.t 103) (.t 104)),
 oM 106 (.mv (.t 2)),
 oM 107 (.mv (.t 14)),
 oM 108 (.binI .sub 3 (.tmp 106) (.tmp 107) (.t 106) (.t 107)),
 oM 16 (.mv (.t 105)),
 oM 17 (.mv (.t 108))])
    (.seq (.ops [oM 109 (.mv (.t 10)),
 oM 110 (.binI .quo 3 (.tmp 109) (.const (.int .i64 8)) (.t 109) (.c (.int .i64 8))),
 oM 18 (.mv (.t 110))])
    (.seq (.ops [oM 111 (.mv (.t 16)),
 oM 112 (.mv (.t 17)),
 oM 113 (.binI .lss 3 (.tmp 111) (.tmp 112) (.t 111) (.t 112))])
    (.cond (.t 113)
      (.seq (.ops [oM 114 (.mv (.t 16)),
 oM 115 (.mv (.t 18)),
 oM 116 (.binI .geq 3 (.tmp 114) (.tmp 115) (.t 114) (.t 115)),
 oM 8 (.mv (.t 116))])
      (.seq (.ops [oM 117 (.mv (.t 0)),
 oM 118 (.mv (.t 1)),
 oM 119 (.mv (.t 14)),
 oM 120 (.mv (.t 3)),
 oM 121 (.call (.c (.func (.func 108) [] [])) [(.t 117), (.t 118), (.t 119), (.t 120)])])
      (.ops [oM 122 (.mv (.t 14)),
 oM 123 (.binI .add 3 (.tmp 122) (.const (.int .i64 1)) (.t 122) (.c (.int .i64 1))),
 oM 1 (.mv (.t 123))])))
      (.seq (.ops [oM 124 (.mv (.t 17)),
 oM 125 (.mv (.t 18)),
 oM 126 (.binI .geq 3 (.tmp 124) (.tmp 125) (.t 124) (.t 125)),
 oM 8 (.mv (.t 126))])
      (.seq (.ops [oM 127 (.mv (.t 0)),
 oM 128 (.mv (.t 14)),
 oM 129 (.binI .add 3 (.tmp 128) (.const (.int .i64 1)) (.t 128) (.c (.int .i64 1))),
 oM 130 (.mv (.t 2)),
 oM 131 (.mv (.t 3)),
 oM 132 (.call (.c (.func (.func 108) [] [])) [(.t 127), (.t 129), (.t 130), (.t 131)])])
      (.ops [oM 133 (.mv (.t 14)),
 oM 2 (.mv (.t 133))]))))))))))))))))))
noncomputable def x108 : XC :=
  (.seq (.ops [oM 8 (.mv (.c (.bool true)))])
  (.seq (.ops [oM 9 (.mv (.c (.bool true)))])
  (.block 0
    (.loop l108_0))))
theorem code108 : codeOf C 108 F108 = x108 := by kernel_rfl
theorem ok108 {Q : Ctx} (hK : K Q) : FnOk Q 108 F108 x108 false := hK.ok_ ⟨fn108, code108, by kernel_rfl, by kernel_rfl⟩
end Go.Proofs.P31

namespace Go.Proofs.P31
open Go Go.AE
noncomputable def b109 : Code := Tryz.f109.body.getD .skip
noncomputable def F109 : FI := ⟨32, [.tmp 10, .tmp 11], b109⟩
theorem fn109 : C.fn 109 = some F109 := by kernel_rfl
noncomputable def d109_0 : Array Oper := (drawsOf b109).getD 0 #[]
theorem kd109_0 : drawCr d109_0 = [none, none, none, none, none, none, none, none, none, (some ([none, none, none, none, none, none, none, none, none, none, none], [true, true, true, true, true, true, true, true, true, false, false])), none] := by kernel_rfl
noncomputable def x109 : XC :=
  (.seq (.ops [oM 10 (.mv (.c (.int .i64 0))),
 oM 11 (.mv (.c (.int .i64 0)))])
  (.seq (.seq (.draw d109_0 [oM 12 (.mv (.t 4)),
 oM 13 (.mv (.t 0)),
 oM 14 (.mv (.t 2)),
 oM 15 (.idxS 1 (.t 13) (.t 14)),
 oM 16 (.load false 1 (.t 15)),
 oM 17 (.mv (.t 0)),
 oM 18 (.mv (.t 1)),
 oM 19 (.idxS 1 (.t 17) (.t 18)),
 oM 20 (.load false 1 (.t 19)),
 oM 21 (.call (.t 12) [(.t 16), (.t 20)]),
 oM 22 (.binI .lss 3 (.tmp 21) (.const (.int .i64 0)) (.t 21) (.c (.int .i64 0)))])
  (.cond (.t 22)
    (.seq (.ops [oM 23 (.mv (.t 3)),
 oM 24 (.gen ⟨some 24, .nilCheck (.tmp 23), 0, "", #[], none⟩),
 oM 25 (.load false 1 (.t 24)),
 oM 26 (.binI .add 3 (.tmp 25) (.const (.int .i64 1)) (.t 25) (.c (.int .i64 1))),
 oM 27 (.gen ⟨some 27, .nilCheck (.tmp 23), 0, "", #[], none⟩),
 ⟨none, .store 1 (.t 27) (.t 26), none⟩])
    (.seq (.ops [oM 28 (.mv (.t 2)),
 oM 29 (.mv (.t 1)),
 oM 10 (.mv (.t 28)),
 oM 11 (.mv (.t 29))])
    .ret))
    .skip))
  (.seq (.ops [oM 30 (.mv (.t 1)),
 oM 31 (.mv (.t 2)),
 oM 10 (.mv (.t 30)),
 oM 11 (.mv (.t 31))])
  .ret)))
theorem code109 : codeOf C 109 F109 = x109 := by kernel_rfl
theorem ok109 {Q : Ctx} (hK : K Q) : FnOk Q 109 F109 x109 false := hK.ok_ ⟨fn109, code109, by kernel_rfl, by kernel_rfl⟩
noncomputable def b110 : Code := Tryz.f110.body.getD .skip
noncomputable def F110 : FI := ⟨49, [], b110⟩
theorem fn110 : C.fn 110 = some F110 := by kernel_rfl
noncomputable def d110_0 : Array Oper := (drawsOf b110).getD 0 #[]
theorem kd110_0 : drawCr d110_0 = [none, none, none, none, none, none, none, none, none, none, none, none, none, (some ([none, none, none, none, none, none, none, none, none, none, none, none, none, none, none], [true, true, true, true, true, true, true, true, true, true, true, true, true, false, false])), none] := by kernel_rfl
noncomputable def d110_1 : Array Oper := (drawsOf b110).getD 1 #[]
theorem kd110_1 : drawCr d110_1 = [none, none, none, none, none, none, none, none, none, none, none, none, none, none, none, (some ([none, none, none, none, none, none, none, none, none, none, none, none, none, none, none, none, none, none], [true, true, false, false, false, true, true, true, true, true, true, true, true, true, true, false, false, false])), none, (some ([none, none, none, none, none, none, none, none, none, none, none, none, none, none, none, none, none, none], [true, true, true, true, true, true, true, true, true, true, true, true, true, true, true, true, true, false]))] := by kernel_rfl
noncomputable def l110_0 : XC :=
  (.seq (.seq (.draw d110_0 [oM 16 (.mv (.t 7)),
 oM 17 (.mv (.t 1)),
 oM 18 (.binI .gtr 3 (.tmp 16) (.tmp 17) (.t 16) (.t 17)),
 oM 19 (.mv (.t 18)),
 ⟨some 20, .mv (.t 0), (some (some 19, true))⟩,
 ⟨some 21, .mv (.t 7), (some (some 19, true))⟩,
 ⟨some 22, .idxS 1 (.t 20) (.t 21), (some (some 19, true))⟩,
 ⟨some 23, .load false 1 (.t 22), (some (some 19, true))⟩,
 ⟨some 24, .mv (.t 0), (some (some 19, true))⟩,
 ⟨some 25, .mv (.t 7), (some (some 19, true))⟩,
 ⟨some 26, .binI .sub 3 (.tmp 25) (.const (.int .i64 1)) (.t 25) (.c (.int .i64 1)), (some (some 19, true))⟩,
 ⟨some 27, .idxS 1 (.t 24) (.t 26), (some (some 19, true))⟩,
 ⟨some 28, .load false 1 (.t 27), (some (some 19, true))⟩,
 ⟨some 29, .call (.c (.func (.func 97) [] [])) [(.t 23), (.t 28)], (some (some 19, true))⟩,
 oM 30 (.pick (.t 19) (.t 29) (.c (.bool false)))])
  (.cond (.t 30)
    .skip
    (.exit 2)))
  (.seq (.block 3
    (.draw d110_1 [oM 33 (.mv (.t 0)),
 oM 34 (.mv (.t 7)),
 oM 35 (.mv (.t 0)),
 oM 36 (.mv (.t 7)),
 oM 37 (.binI .sub 3 (.tmp 36) (.const (.int .i64 1)) (.t 36) (.c (.int .i64 1))),
 oM 38 (.mv (.t 0)),
 oM 39 (.mv (.t 7)),
 oM 40 (.binI .sub 3 (.tmp 39) (.const (.int .i64 1)) (.t 39) (.c (.int .i64 1))),
 oM 41 (.idxS 1 (.t 38) (.t 40)),
 oM 42 (.load false 1 (.t 41)),
 oM 43 (.mv (.t 0)),
 oM 44 (.mv (.t 7)),
 oM 45 (.idxS 1 (.t 43) (.t 44)),
 oM 46 (.load false 1 (.t 45)),
 oM 47 (.idxS 1 (.t 33) (.t 34)),
 ⟨none, .store 1 (.t 47) (.t 42), none⟩,
 oM 48 (.idxS 1 (.t 35) (.t 37)),
 ⟨none, .store 1 (.t 48) (.t 46), none⟩]))
  (.ops [oM 31 (.mv (.t 7)),
 oM 32 (.binI .sub 3 (.tmp 31) (.const (.int .i64 1)) (.t 31) (.c (.int .i64 1))),
 oM 7 (.mv (.t 32))])))
noncomputable def l110_1 : XC :=
  (.seq (.seq (.ops [oM 10 (.mv (.t 6)),
 oM 11 (.mv (.t 2)),
 oM 12 (.binI .lss 3 (.tmp 10) (.tmp 11) (.t 10) (.t 11))])
  (.cond (.t 12)
    .skip
    (.exit 0)))
  (.seq (.block 1
    (.seq (.ops [oM 15 (.mv (.t 6)),
 oM 7 (.mv (.t 15))])
    (.block 2
      (.loop l110_0))))
  (.ops [oM 13 (.mv (.t 6)),
 oM 14 (.binI .add 3 (.tmp 13) (.const (.int .i64 1)) (.t 13) (.c (.int .i64 1))),
 oM 6 (.mv (.t 14))])))
noncomputable def x110 : XC :=
  (.seq (.ops [oM 8 (.mv (.t 1)),
 oM 9 (.binI .add 3 (.tmp 8) (.const (.int .i64 1)) (.t 8) (.c (.int .i64 1))),
 oM 6 (.mv (.t 9))])
  (.block 0
    (.loop l110_1)))
theorem code110 : codeOf C 110 F110 = x110 := by kernel_rfl
theorem ok110 {Q : Ctx} (hK : K Q) : FnOk Q 110 F110 x110 false := hK.ok_ ⟨fn110, code110, by kernel_rfl, by kernel_rfl⟩
end Go.Proofs.P31
