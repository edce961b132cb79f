/- The compiled code of the functions that the law FormulaRaws calls. -/
import Derived.Test.YtdlahjpoiichkaaGreatDoorS1
set_option linter.unusedVariables false
set_option linter.unusedSimpArgs false
set_option linter.unusedSectionVars false
namespace Go.Proofs.L06
open Go Go.AE
set_option maxRecDepth 100000
noncomputable def b3:Code:=Tryz.f3.body.getD .skip
noncomputable def F3:FI:=⟨49,[.tmp 4],b3⟩
noncomputable def d3_0:Array Oper:=(drawsOf b3).getD 0 #[]
noncomputable def k3_0:List (Option CrI):=(⟨_,by conv => lhs; reduce⟩:{x // drawCr d3_0 = x}).1
theorem kd3_0:drawCr d3_0 = k3_0:=by kernel_rfl
noncomputable def d3_1:Array Oper:=(drawsOf b3).getD 1 #[]
noncomputable def k3_1:List (Option CrI):=(⟨_,by conv => lhs; reduce⟩:{x // drawCr d3_1 = x}).1
theorem kd3_1:drawCr d3_1 = k3_1:=by kernel_rfl
noncomputable def y3 (d0 d1:Array Oper):XC:=(⟨_,by conv => lhs; reduce⟩:{x // nm [d0,d1] [] (codeOf C 3 F3) 0 0 = x}).1
noncomputable def x3:XC:=y3 d3_0 d3_1
theorem ok3 {Q:Ctx} (hK:K Q):FnOk Q 3 F3 x3 false:=hK.ok_ ⟨by kernel_rfl,by kernel_rfl,by kernel_rfl,by kernel_rfl⟩
noncomputable def F4:FI:=⟨112,[.tmp 6],Tryz.f4.body.getD .skip⟩
noncomputable def x4:XC:=(⟨_,by conv => lhs; reduce; simp only [Int.reduceOfNat]⟩:{x // codeOf C 4 F4 = x}).1
noncomputable def F7:FI:=⟨14,[.tmp 2],Tryz.f7.body.getD .skip⟩
noncomputable def x7:XC:=(⟨_,by conv => lhs; reduce; simp only [Int.reduceOfNat]⟩:{x // codeOf C 7 F7 = x}).1
theorem ok7 {Q:Ctx} (hK:K Q):FnOk Q 7 F7 x7 false:=hK.ok_ ⟨by kernel_rfl,by kernel_rfl,by kernel_rfl,by kernel_rfl⟩
noncomputable def F8:FI:=⟨12,[.tmp 2],Tryz.f8.body.getD .skip⟩
noncomputable def x8:XC:=(⟨_,by conv => lhs; reduce; simp only [Int.reduceOfNat]⟩:{x // codeOf C 8 F8 = x}).1
theorem ok8 {Q:Ctx} (hK:K Q):FnOk Q 8 F8 x8 false:=hK.ok_ ⟨by kernel_rfl,by kernel_rfl,by kernel_rfl,by kernel_rfl⟩
noncomputable def F9:FI:=⟨14,[.cell 2 3],Tryz.f9.body.getD .skip⟩
noncomputable def x9:XC:=(⟨_,by conv => lhs; reduce; simp only [Int.reduceOfNat]⟩:{x // codeOf C 9 F9 = x}).1
theorem ok9 {Q:Ctx} (hK:K Q):FnOk Q 9 F9 x9 false:=hK.ok_ ⟨by kernel_rfl,by kernel_rfl,by kernel_rfl,by kernel_rfl⟩
noncomputable def F10:FI:=⟨6,[.tmp 2],Tryz.f10.body.getD .skip⟩
noncomputable def x10:XC:=(⟨_,by conv => lhs; reduce; simp only [Int.reduceOfNat]⟩:{x // codeOf C 10 F10 = x}).1
theorem ok10 {Q:Ctx} (hK:K Q):FnOk Q 10 F10 x10 false:=hK.ok_ ⟨by kernel_rfl,by kernel_rfl,by kernel_rfl,by kernel_rfl⟩
noncomputable def F11:FI:=⟨21,[.tmp 2],Tryz.f11.body.getD .skip⟩
noncomputable def x11:XC:=(⟨_,by conv => lhs; reduce; simp only [Int.reduceOfNat]⟩:{x // codeOf C 11 F11 = x}).1
theorem ok11 {Q:Ctx} (hK:K Q):FnOk Q 11 F11 x11 false:=hK.ok_ ⟨by kernel_rfl,by kernel_rfl,by kernel_rfl,by kernel_rfl⟩
noncomputable def F12:FI:=⟨13,[.tmp 2],Tryz.f12.body.getD .skip⟩
noncomputable def x12:XC:=(⟨_,by conv => lhs; reduce; simp only [Int.reduceOfNat]⟩:{x // codeOf C 12 F12 = x}).1
theorem ok12 {Q:Ctx} (hK:K Q):FnOk Q 12 F12 x12 false:=hK.ok_ ⟨by kernel_rfl,by kernel_rfl,by kernel_rfl,by kernel_rfl⟩
noncomputable def F13:FI:=⟨19,[.tmp 4],Tryz.f13.body.getD .skip⟩
noncomputable def x13:XC:=(⟨_,by conv => lhs; reduce; simp only [Int.reduceOfNat]⟩:{x // codeOf C 13 F13 = x}).1
theorem ok13 {Q:Ctx} (hK:K Q):FnOk Q 13 F13 x13 false:=hK.ok_ ⟨by kernel_rfl,by kernel_rfl,by kernel_rfl,by kernel_rfl⟩
noncomputable def F14:FI:=⟨18,[.tmp 4],Tryz.f14.body.getD .skip⟩
noncomputable def x14:XC:=(⟨_,by conv => lhs; reduce; simp only [Int.reduceOfNat]⟩:{x // codeOf C 14 F14 = x}).1
theorem ok14 {Q:Ctx} (hK:K Q):FnOk Q 14 F14 x14 false:=hK.ok_ ⟨by kernel_rfl,by kernel_rfl,by kernel_rfl,by kernel_rfl⟩
noncomputable def b15:Code:=Tryz.f15.body.getD .skip
noncomputable def F15:FI:=⟨26,[.tmp 4],b15⟩
noncomputable def d15_0:Array Oper:=(drawsOf b15).getD 0 #[]
noncomputable def k15_0:List (Option CrI):=(⟨_,by conv => lhs; reduce⟩:{x // drawCr d15_0 = x}).1
theorem kd15_0:drawCr d15_0 = k15_0:=by kernel_rfl
noncomputable def y15 (d0:Array Oper):XC:=(⟨_,by conv => lhs; reduce; simp only [Int.reduceOfNat,Int.reduceNegSucc]⟩:{x // nm [d0] [] (codeOf C 15 F15) 0 0 = x}).1
noncomputable def x15:XC:=y15 d15_0
theorem ok15 {Q:Ctx} (hK:K Q):FnOk Q 15 F15 x15 false:=hK.ok_ ⟨by kernel_rfl,by kernel_rfl,by kernel_rfl,by kernel_rfl⟩
noncomputable def F16:FI:=⟨22,[.tmp 4],Tryz.f16.body.getD .skip⟩
noncomputable def x16:XC:=(⟨_,by conv => lhs; reduce; simp only [Int.reduceOfNat,Int.reduceNegSucc]⟩:{x // codeOf C 16 F16 = x}).1
theorem ok16 {Q:Ctx} (hK:K Q):FnOk Q 16 F16 x16 false:=hK.ok_ ⟨by kernel_rfl,by kernel_rfl,by kernel_rfl,by kernel_rfl⟩
noncomputable def F39:FI:=⟨17,[.tmp 4],Tryz.f39.body.getD .skip⟩
noncomputable def x39:XC:=(⟨_,by conv => lhs; reduce; simp only [Int.reduceOfNat]⟩:{x // codeOf C 39 F39 = x}).1
theorem ok39 {Q:Ctx} (hK:K Q):FnOk Q 39 F39 x39 false:=hK.ok_ ⟨by kernel_rfl,by kernel_rfl,by kernel_rfl,by kernel_rfl⟩
noncomputable def b40:Code:=Tryz.f40.body.getD .skip
noncomputable def F40:FI:=⟨76,[.tmp 2],b40⟩
noncomputable def d40_0:Array Oper:=(drawsOf b40).getD 0 #[]
theorem kd40_0:drawCr d40_0 = [none,none,(some ([none,none,none,none,(some none),(some (some [false,false,false,true,true,false,false])),none],[true,true,false,false,false,false,false])),none,none,none,none]:=by kernel_rfl
noncomputable def y40 (d0:Array Oper):XC:=(⟨_,by conv => lhs; reduce; simp only [Int.reduceOfNat]⟩:{x // nm [d0] [] (codeOf C 40 F40) 0 0 = x}).1
noncomputable def x40:XC:=y40 d40_0
theorem ok40 {Q:Ctx} (hK:K Q):FnOk Q 40 F40 x40 false:=hK.ok_ ⟨by kernel_rfl,by kernel_rfl,by kernel_rfl,by kernel_rfl⟩
noncomputable def F41:FI:=⟨37,[.tmp 4],Tryz.f41.body.getD .skip⟩
noncomputable def m41_0 (l0:XC):XC:=(⟨_,by conv => lhs; reduce; simp only [Int.reduceOfNat]⟩:{x // (lps [] [l0] (codeOf C 41 F41) 0 0).getD 0 .bad = x}).1
noncomputable def l41_0:XC:=m41_0 .bad
noncomputable def y41 (l0:XC):XC:=(⟨_,by conv => lhs; reduce; simp only [Int.reduceOfNat]⟩:{x // nm [] [l0] (codeOf C 41 F41) 0 0 = x}).1
noncomputable def x41:XC:=y41 l41_0
theorem ok41 {Q:Ctx} (hK:K Q):FnOk Q 41 F41 x41 false:=hK.ok_ ⟨by kernel_rfl,by kernel_rfl,by kernel_rfl,by kernel_rfl⟩
noncomputable def F42:FI:=⟨52,[.tmp 4],Tryz.f42.body.getD .skip⟩
noncomputable def m42_0 (l0 l1:XC):XC:=(⟨_,by conv => lhs; reduce; simp only [Int.reduceOfNat]⟩:{x // (lps [] [l0,l1] (codeOf C 42 F42) 0 0).getD 0 .bad = x}).1
noncomputable def l42_0:XC:=m42_0 .bad .bad
noncomputable def m42_1 (l0 l1:XC):XC:=(⟨_,by conv => lhs; reduce; simp only [Int.reduceOfNat]⟩:{x // (lps [] [l0,l1] (codeOf C 42 F42) 0 0).getD 1 .bad = x}).1
noncomputable def l42_1:XC:=m42_1 l42_0 .bad
noncomputable def y42 (l0 l1:XC):XC:=(⟨_,by conv => lhs; reduce; simp only [Int.reduceOfNat]⟩:{x // nm [] [l0,l1] (codeOf C 42 F42) 0 0 = x}).1
noncomputable def x42:XC:=y42 l42_0 l42_1
theorem ok42 {Q:Ctx} (hK:K Q):FnOk Q 42 F42 x42 false:=hK.ok_ ⟨by kernel_rfl,by kernel_rfl,by kernel_rfl,by kernel_rfl⟩
noncomputable def b43:Code:=Tryz.f43.body.getD .skip
noncomputable def F43:FI:=⟨104,[.tmp 2],b43⟩
noncomputable def d43_0:Array Oper:=(drawsOf b43).getD 0 #[]
noncomputable def k43_0:List (Option CrI):=(⟨_,by conv => lhs; reduce⟩:{x // drawCr d43_0 = x}).1
theorem kd43_0:drawCr d43_0 = k43_0:=by kernel_rfl
noncomputable def m43_0 (d0:Array Oper) (l0 l1:XC):XC:=(⟨_,by conv => lhs; reduce; simp only [Int.reduceOfNat]⟩:{x // (lps [d0] [l0,l1] (codeOf C 43 F43) 0 0).getD 0 .bad = x}).1
noncomputable def l43_0:XC:=m43_0 d43_0 .bad .bad
noncomputable def m43_1 (d0:Array Oper) (l0 l1:XC):XC:=(⟨_,by conv => lhs; reduce; simp only [Int.reduceOfNat]⟩:{x // (lps [d0] [l0,l1] (codeOf C 43 F43) 0 0).getD 1 .bad = x}).1
noncomputable def l43_1:XC:=m43_1 d43_0 l43_0 .bad
noncomputable def y43 (d0:Array Oper) (l0 l1:XC):XC:=(⟨_,by conv => lhs; reduce; simp only [Int.reduceOfNat]⟩:{x // nm [d0] [l0,l1] (codeOf C 43 F43) 0 0 = x}).1
noncomputable def x43:XC:=y43 d43_0 l43_0 l43_1
theorem ok43 {Q:Ctx} (hK:K Q):FnOk Q 43 F43 x43 false:=hK.ok_ ⟨by kernel_rfl,by kernel_rfl,by kernel_rfl,by kernel_rfl⟩
noncomputable def F44:FI:=⟨10,[],Tryz.f44.body.getD .skip⟩
noncomputable def x44:XC:=(⟨_,by conv => lhs; reduce; simp only [Int.reduceOfNat]⟩:{x // codeOf C 44 F44 = x}).1
theorem ok44 {Q:Ctx} (hK:K Q):FnOk Q 44 F44 x44 false:=hK.ok_ ⟨by kernel_rfl,by kernel_rfl,by kernel_rfl,by kernel_rfl⟩
noncomputable def F45:FI:=⟨44,[],Tryz.f45.body.getD .skip⟩
noncomputable def m45_0 (l0 l1:XC):XC:=(⟨_,by conv => lhs; reduce; simp only [Int.reduceOfNat]⟩:{x // (lps [] [l0,l1] (codeOf C 45 F45) 0 0).getD 0 .bad = x}).1
noncomputable def l45_0:XC:=m45_0 .bad .bad
noncomputable def m45_1 (l0 l1:XC):XC:=(⟨_,by conv => lhs; reduce; simp only [Int.reduceOfNat]⟩:{x // (lps [] [l0,l1] (codeOf C 45 F45) 0 0).getD 1 .bad = x}).1
noncomputable def l45_1:XC:=m45_1 l45_0 .bad
noncomputable def y45 (l0 l1:XC):XC:=(⟨_,by conv => lhs; reduce; simp only [Int.reduceOfNat]⟩:{x // nm [] [l0,l1] (codeOf C 45 F45) 0 0 = x}).1
noncomputable def x45:XC:=y45 l45_0 l45_1
theorem ok45 {Q:Ctx} (hK:K Q):FnOk Q 45 F45 x45 false:=hK.ok_ ⟨by kernel_rfl,by kernel_rfl,by kernel_rfl,by kernel_rfl⟩
noncomputable def F46:FI:=⟨102,[],Tryz.f46.body.getD .skip⟩
noncomputable def x46:XC :=
 (.seq (.ops [⟨(some 3),.box 28 (.t 1),none⟩])
 (.seq (.ops [⟨(some 4),.fieldAddr 0 (.t 3),none⟩,
  ⟨(some 5),.load false 1 (.t 4),none⟩])
 (.block 0
  (.seq (.ops [⟨(some 33),.binI .eql 3 (.tmp 5) (.const (.int .i64 1)) (.t 5) (.c (.int .i64 1)),none⟩,
   ⟨(some 32),.mv (.t 33),none⟩])
  (.cond (.t 32)
   (.seq (.ops [⟨(some 34),.mv (.t 0),none⟩,
    ⟨(some 35),.fieldAddr 1 (.t 3),none⟩,
    ⟨(some 36),.load false 1 (.t 35),none⟩,
    ⟨(some 37),.buildS false 9 1 1 [(0,(.t 36))],none⟩,
    ⟨(some 38),.call (.c (.func (.func 101) [] [])) [(.t 34),(.t 37)],none⟩])
   (.ops [⟨(some 39),.mv (.t 0),none⟩,
    ⟨(some 40),.fieldAddr 2 (.t 3),none⟩,
    ⟨(some 41),.load false 1 (.t 40),none⟩,
    ⟨(some 42),.call (.c (.func (.func 102) [] [])) [(.t 39),(.t 41)],none⟩]))
   (.seq (.ops [⟨(some 44),.binI .eql 3 (.tmp 5) (.const (.int .i64 2)) (.t 5) (.c (.int .i64 2)),none⟩,
    ⟨(some 43),.mv (.t 44),none⟩])
   (.cond (.t 43)
    (.ops [⟨(some 45),.mv (.t 0),none⟩,
     ⟨(some 46),.buildS false 9 1 1 [(0,(.c (.str [111,110,101])))],none⟩,
     ⟨(some 47),.call (.c (.func (.func 101) [] [])) [(.t 45),(.t 46)],none⟩])
    (.seq (.ops [⟨(some 49),.binI .eql 3 (.tmp 5) (.const (.int .i64 3)) (.t 5) (.c (.int .i64 3)),none⟩,
     ⟨(some 48),.mv (.t 49),none⟩])
    (.cond (.t 48)
     (.ops [⟨(some 50),.mv (.t 0),none⟩,
      ⟨(some 51),.buildS false 9 1 1 [(0,(.c (.str [116,111,112])))],none⟩,
      ⟨(some 52),.call (.c (.func (.func 101) [] [])) [(.t 50),(.t 51)],none⟩])
     (.seq (.ops [⟨(some 54),.binI .eql 3 (.tmp 5) (.const (.int .i64 9)) (.t 5) (.c (.int .i64 9)),none⟩,
      ⟨(some 53),.mv (.t 54),none⟩])
     (.cond (.t 53)
      (.seq (.ops [⟨(some 55),.mv (.t 0),none⟩,
       ⟨(some 56),.buildS false 9 1 1 [(0,(.c (.str [33])))],none⟩,
       ⟨(some 57),.call (.c (.func (.func 101) [] [])) [(.t 55),(.t 56)],none⟩])
      (.ops [⟨(some 58),.mv (.t 0),none⟩,
       ⟨(some 59),.fieldAddr 5 (.t 3),none⟩,
       ⟨(some 60),.load false 1 (.t 59),none⟩,
       ⟨(some 61),.idxS 6 (.t 60) (.c (.int .i64 0)),none⟩,
       ⟨(some 62),.load true 6 (.t 61),none⟩,
       ⟨(some 63),.call (.c (.func (.func 46) [] [])) [(.t 58),(.t 62)],none⟩]))
      (.seq (.ops [⟨(some 65),.binI .eql 3 (.tmp 5) (.const (.int .i64 12)) (.t 5) (.c (.int .i64 12)),none⟩,
       ⟨(some 64),.mv (.t 65),none⟩])
      (.cond (.t 64)
       (.seq (.ops [⟨(some 66),.mv (.t 0),none⟩,
        ⟨(some 67),.buildS false 9 1 1 [(0,(.c (.str [123])))],none⟩,
        ⟨(some 68),.call (.c (.func (.func 101) [] [])) [(.t 66),(.t 67)],none⟩])
       (.seq (.ops [⟨(some 69),.mv (.t 0),none⟩,
        ⟨(some 70),.fieldAddr 5 (.t 3),none⟩,
        ⟨(some 71),.load false 1 (.t 70),none⟩,
        ⟨(some 72),.idxS 6 (.t 71) (.c (.int .i64 0)),none⟩,
        ⟨(some 73),.load true 6 (.t 72),none⟩,
        ⟨(some 74),.call (.c (.func (.func 46) [] [])) [(.t 69),(.t 73)],none⟩])
       (.ops [⟨(some 75),.mv (.t 0),none⟩,
        ⟨(some 76),.buildS false 9 1 1 [(0,(.c (.str [125])))],none⟩,
        ⟨(some 77),.call (.c (.func (.func 101) [] [])) [(.t 75),(.t 76)],none⟩])))
       (.seq (.seq (.ops [⟨(some 79),.binI .eql 3 (.tmp 5) (.const (.int .i64 10)) (.t 5) (.c (.int .i64 10)),none⟩,
        ⟨(some 78),.mv (.t 79),none⟩])
       (.cond (.t 78)
        .skip
        (.ops [⟨(some 80),.binI .eql 3 (.tmp 5) (.const (.int .i64 11)) (.t 5) (.c (.int .i64 11)),none⟩,
         ⟨(some 78),.mv (.t 80),none⟩])))
       (.cond (.t 78)
        (.seq (.ops [⟨(some 81),.mv (.t 0),none⟩,
         ⟨(some 82),.gen { dst:=some 82,op:=.makeMap 151 none,type:=0,pos:="",after:=#[],guard:=none },none⟩,
         ⟨none,.gen { dst:=none,op:=.insert 151 (.tmp 82) (.const (.int .i64 10)) (.const (.string ⟨#[97,108,108]⟩)),type:=0,pos:="",after:=#[],guard:=none },none⟩,
         ⟨none,.gen { dst:=none,op:=.insert 151 (.tmp 82) (.const (.int .i64 11)) (.const (.string ⟨#[101,120]⟩)),type:=0,pos:="",after:=#[],guard:=none },none⟩,
         ⟨(some 83),.mv (.t 82),none⟩,
         ⟨(some 84),.fieldAddr 0 (.t 3),none⟩,
         ⟨(some 85),.load false 1 (.t 84),none⟩,
         ⟨(some 86),.gen { dst:=some 86,op:=.lookup 151 (.tmp 83) (.tmp 85) false,type:=0,pos:="",after:=#[],guard:=none },none⟩,
         ⟨(some 87),.buildS false 9 1 2 [(0,(.t 86)),(1,(.c (.str [58])))],none⟩,
         ⟨(some 88),.call (.c (.func (.func 101) [] [])) [(.t 81),(.t 87)],none⟩])
        (.seq (.ops [⟨(some 89),.mv (.t 0),none⟩,
         ⟨(some 90),.fieldAddr 3 (.t 3),none⟩,
         ⟨(some 91),.load true 2 (.t 90),none⟩,
         ⟨(some 92),.call (.c (.func (.func 103) [] [])) [(.t 89),(.t 91)],none⟩])
        (.seq (.ops [⟨(some 93),.mv (.t 0),none⟩,
         ⟨(some 94),.buildS false 9 1 1 [(0,(.c (.str [46])))],none⟩,
         ⟨(some 95),.call (.c (.func (.func 101) [] [])) [(.t 93),(.t 94)],none⟩])
        (.ops [⟨(some 96),.mv (.t 0),none⟩,
         ⟨(some 97),.fieldAddr 5 (.t 3),none⟩,
         ⟨(some 98),.load false 1 (.t 97),none⟩,
         ⟨(some 99),.idxS 6 (.t 98) (.c (.int .i64 0)),none⟩,
         ⟨(some 100),.load true 6 (.t 99),none⟩,
         ⟨(some 101),.call (.c (.func (.func 46) [] [])) [(.t 96),(.t 100)],none⟩]))))
        (.seq (.ops [⟨(some 6),.mv (.t 0),none⟩,
         ⟨(some 7),.buildS false 9 1 1 [(0,(.c (.str [40])))],none⟩,
         ⟨(some 8),.call (.c (.func (.func 101) [] [])) [(.t 6),(.t 7)],none⟩])
        (.seq (.ops [⟨(some 9),.mv (.t 0),none⟩,
         ⟨(some 10),.fieldAddr 5 (.t 3),none⟩,
         ⟨(some 11),.load false 1 (.t 10),none⟩,
         ⟨(some 12),.idxS 6 (.t 11) (.c (.int .i64 0)),none⟩,
         ⟨(some 13),.load true 6 (.t 12),none⟩,
         ⟨(some 14),.call (.c (.func (.func 46) [] [])) [(.t 9),(.t 13)],none⟩])
        (.seq (.ops [⟨(some 15),.mv (.t 0),none⟩,
         ⟨(some 16),.gen { dst:=some 16,op:=.makeMap 151 none,type:=0,pos:="",after:=#[],guard:=none },none⟩,
         ⟨none,.gen { dst:=none,op:=.insert 151 (.tmp 16) (.const (.int .i64 4)) (.const (.string ⟨#[42]⟩)),type:=0,pos:="",after:=#[],guard:=none },none⟩,
         ⟨none,.gen { dst:=none,op:=.insert 151 (.tmp 16) (.const (.int .i64 5)) (.const (.string ⟨#[38]⟩)),type:=0,pos:="",after:=#[],guard:=none },none⟩,
         ⟨none,.gen { dst:=none,op:=.insert 151 (.tmp 16) (.const (.int .i64 6)) (.const (.string ⟨#[43]⟩)),type:=0,pos:="",after:=#[],guard:=none },none⟩,
         ⟨none,.gen { dst:=none,op:=.insert 151 (.tmp 16) (.const (.int .i64 7)) (.const (.string ⟨#[45,111]⟩)),type:=0,pos:="",after:=#[],guard:=none },none⟩,
         ⟨none,.gen { dst:=none,op:=.insert 151 (.tmp 16) (.const (.int .i64 8)) (.const (.string ⟨#[61,62]⟩)),type:=0,pos:="",after:=#[],guard:=none },none⟩,
         ⟨(some 17),.mv (.t 16),none⟩,
         ⟨(some 18),.fieldAddr 0 (.t 3),none⟩,
         ⟨(some 19),.load false 1 (.t 18),none⟩,
         ⟨(some 20),.gen { dst:=some 20,op:=.lookup 151 (.tmp 17) (.tmp 19) false,type:=0,pos:="",after:=#[],guard:=none },none⟩,
         ⟨(some 21),.buildS false 9 1 1 [(0,(.t 20))],none⟩,
         ⟨(some 22),.call (.c (.func (.func 101) [] [])) [(.t 15),(.t 21)],none⟩])
        (.seq (.ops [⟨(some 23),.mv (.t 0),none⟩,
         ⟨(some 24),.fieldAddr 5 (.t 3),none⟩,
         ⟨(some 25),.load false 1 (.t 24),none⟩,
         ⟨(some 26),.idxS 6 (.t 25) (.c (.int .i64 1)),none⟩,
         ⟨(some 27),.load true 6 (.t 26),none⟩,
         ⟨(some 28),.call (.c (.func (.func 46) [] [])) [(.t 23),(.t 27)],none⟩])
        (.ops [⟨(some 29),.mv (.t 0),none⟩,
         ⟨(some 30),.buildS false 9 1 1 [(0,(.c (.str [41])))],none⟩,
         ⟨(some 31),.call (.c (.func (.func 101) [] [])) [(.t 29),(.t 30)],none⟩]))))))))))))))))))))
theorem ok46 {Q:Ctx} (hK:K Q):FnOk Q 46 F46 x46 false:=hK.ok_ ⟨by kernel_rfl,by kernel_rfl,by kernel_rfl,by kernel_rfl⟩
noncomputable def F47:FI:=⟨8,[.tmp 2],Tryz.f47.body.getD .skip⟩
noncomputable def x47:XC:=(⟨_,by conv => lhs; reduce; simp only [Int.reduceOfNat]⟩:{x // codeOf C 47 F47 = x}).1
theorem ok47 {Q:Ctx} (hK:K Q):FnOk Q 47 F47 x47 false:=hK.ok_ ⟨by kernel_rfl,by kernel_rfl,by kernel_rfl,by kernel_rfl⟩
noncomputable def b48:Code:=Tryz.f48.body.getD .skip
noncomputable def F48:FI:=⟨14,[.tmp 2],b48⟩
noncomputable def d48_0:Array Oper:=(drawsOf b48).getD 0 #[]
noncomputable def k48_0:List (Option CrI):=(⟨_,by conv => lhs; reduce⟩:{x // drawCr d48_0 = x}).1
theorem kd48_0:drawCr d48_0 = k48_0:=by kernel_rfl
noncomputable def y48 (d0:Array Oper):XC:=(⟨_,by conv => lhs; reduce⟩:{x // nm [d0] [] (codeOf C 48 F48) 0 0 = x}).1
noncomputable def x48:XC:=y48 d48_0
theorem ok48 {Q:Ctx} (hK:K Q):FnOk Q 48 F48 x48 false:=hK.ok_ ⟨by kernel_rfl,by kernel_rfl,by kernel_rfl,by kernel_rfl⟩
noncomputable def b49:Code:=Tryz.f49.body.getD .skip
noncomputable def F49:FI:=⟨75,[.tmp 2],b49⟩
noncomputable def d49_0:Array Oper:=(drawsOf b49).getD 0 #[]
noncomputable def k49_0:List (Option CrI):=(⟨_,by conv => lhs; reduce⟩:{x // drawCr d49_0 = x}).1
theorem kd49_0:drawCr d49_0 = k49_0:=by kernel_rfl
noncomputable def d49_1:Array Oper:=(drawsOf b49).getD 1 #[]
noncomputable def k49_1:List (Option CrI):=(⟨_,by conv => lhs; reduce⟩:{x // drawCr d49_1 = x}).1
theorem kd49_1:drawCr d49_1 = k49_1:=by kernel_rfl
noncomputable def d49_2:Array Oper:=(drawsOf b49).getD 2 #[]
noncomputable def k49_2:List (Option CrI):=(⟨_,by conv => lhs; reduce⟩:{x // drawCr d49_2 = x}).1
theorem kd49_2:drawCr d49_2 = k49_2:=by kernel_rfl
noncomputable def y49 (d0 d1 d2:Array Oper):XC:=(⟨_,by conv => lhs; reduce; simp only [Int.reduceOfNat]⟩:{x // nm [d0,d1,d2] [] (codeOf C 49 F49) 0 0 = x}).1
noncomputable def x49:XC:=y49 d49_0 d49_1 d49_2
theorem ok49 {Q:Ctx} (hK:K Q):FnOk Q 49 F49 x49 false:=hK.ok_ ⟨by kernel_rfl,by kernel_rfl,by kernel_rfl,by kernel_rfl⟩
noncomputable def F50:FI:=⟨57,[.tmp 4],Tryz.f50.body.getD .skip⟩
noncomputable def x50:XC:=(⟨_,by conv => lhs; reduce; simp only [Int.reduceOfNat]⟩:{x // codeOf C 50 F50 = x}).1
theorem ok50 {Q:Ctx} (hK:K Q):FnOk Q 50 F50 x50 false:=hK.ok_ ⟨by kernel_rfl,by kernel_rfl,by kernel_rfl,by kernel_rfl⟩
noncomputable def b51:Code:=Tryz.f51.body.getD .skip
noncomputable def F51:FI:=⟨71,[.tmp 4],b51⟩
noncomputable def d51_0:Array Oper:=(drawsOf b51).getD 0 #[]
noncomputable def k51_0:List (Option CrI):=(⟨_,by conv => lhs; reduce⟩:{x // drawCr d51_0 = x}).1
theorem kd51_0:drawCr d51_0 = k51_0:=by kernel_rfl
noncomputable def m51_0 (d0:Array Oper) (l0:XC):XC:=(⟨_,by conv => lhs; reduce; simp only [Int.reduceOfNat]⟩:{x // (lps [d0] [l0] (codeOf C 51 F51) 0 0).getD 0 .bad = x}).1
noncomputable def l51_0:XC:=m51_0 d51_0 .bad
noncomputable def y51 (d0:Array Oper) (l0:XC):XC:=(⟨_,by conv => lhs; reduce; simp only [Int.reduceOfNat]⟩:{x // nm [d0] [l0] (codeOf C 51 F51) 0 0 = x}).1
noncomputable def x51:XC:=y51 d51_0 l51_0
theorem ok51 {Q:Ctx} (hK:K Q):FnOk Q 51 F51 x51 false:=hK.ok_ ⟨by kernel_rfl,by kernel_rfl,by kernel_rfl,by kernel_rfl⟩
noncomputable def F52:FI:=⟨6,[.tmp 2],Tryz.f52.body.getD .skip⟩
noncomputable def x52:XC:=(⟨_,by conv => lhs; reduce; simp only [Int.reduceOfNat,Int.reduceNegSucc]⟩:{x // codeOf C 52 F52 = x}).1
theorem ok52 {Q:Ctx} (hK:K Q):FnOk Q 52 F52 x52 false:=hK.ok_ ⟨by kernel_rfl,by kernel_rfl,by kernel_rfl,by kernel_rfl⟩
noncomputable def b53:Code:=Tryz.f53.body.getD .skip
noncomputable def F53:FI:=⟨100,[.tmp 4],b53⟩
noncomputable def d53_0:Array Oper:=(drawsOf b53).getD 0 #[]
noncomputable def k53_0:List (Option CrI):=(⟨_,by conv => lhs; reduce⟩:{x // drawCr d53_0 = x}).1
theorem kd53_0:drawCr d53_0 = k53_0:=by kernel_rfl
noncomputable def d53_1:Array Oper:=(drawsOf b53).getD 1 #[]
noncomputable def k53_1:List (Option CrI):=(⟨_,by conv => lhs; reduce⟩:{x // drawCr d53_1 = x}).1
theorem kd53_1:drawCr d53_1 = k53_1:=by kernel_rfl
noncomputable def m53_0 (d0 d1:Array Oper) (l0 l1:XC):XC:=(⟨_,by conv => lhs; reduce; simp only [Int.reduceOfNat]⟩:{x // (lps [d0,d1] [l0,l1] (codeOf C 53 F53) 0 0).getD 0 .bad = x}).1
noncomputable def l53_0:XC:=m53_0 d53_0 d53_1 .bad .bad
noncomputable def m53_1 (d0 d1:Array Oper) (l0 l1:XC):XC:=(⟨_,by conv => lhs; reduce; simp only [Int.reduceOfNat]⟩:{x // (lps [d0,d1] [l0,l1] (codeOf C 53 F53) 0 0).getD 1 .bad = x}).1
noncomputable def l53_1:XC:=m53_1 d53_0 d53_1 l53_0 .bad
noncomputable def y53 (d0 d1:Array Oper) (l0 l1:XC):XC:=(⟨_,by conv => lhs; reduce; simp only [Int.reduceOfNat]⟩:{x // nm [d0,d1] [l0,l1] (codeOf C 53 F53) 0 0 = x}).1
noncomputable def x53:XC:=y53 d53_0 d53_1 l53_0 l53_1
theorem ok53 {Q:Ctx} (hK:K Q):FnOk Q 53 F53 x53 false:=hK.ok_ ⟨by kernel_rfl,by kernel_rfl,by kernel_rfl,by kernel_rfl⟩
noncomputable def F56:FI:=⟨11,[.tmp 2],Tryz.f56.body.getD .skip⟩
noncomputable def x56:XC:=(⟨_,by conv => lhs; reduce; simp only [Int.reduceOfNat]⟩:{x // codeOf C 56 F56 = x}).1
theorem ok56 {Q:Ctx} (hK:K Q):FnOk Q 56 F56 x56 false:=hK.ok_ ⟨by kernel_rfl,by kernel_rfl,by kernel_rfl,by kernel_rfl⟩
noncomputable def F57:FI:=⟨11,[.tmp 2],Tryz.f57.body.getD .skip⟩
noncomputable def x57:XC:=(⟨_,by conv => lhs; reduce; simp only [Int.reduceOfNat]⟩:{x // codeOf C 57 F57 = x}).1
theorem ok57 {Q:Ctx} (hK:K Q):FnOk Q 57 F57 x57 false:=hK.ok_ ⟨by kernel_rfl,by kernel_rfl,by kernel_rfl,by kernel_rfl⟩
noncomputable def F59:FI:=⟨12,[.tmp 2],Tryz.f59.body.getD .skip⟩
noncomputable def x59:XC:=(⟨_,by conv => lhs; reduce; simp only [Int.reduceOfNat]⟩:{x // codeOf C 59 F59 = x}).1
theorem ok59 {Q:Ctx} (hK:K Q):FnOk Q 59 F59 x59 false:=hK.ok_ ⟨by kernel_rfl,by kernel_rfl,by kernel_rfl,by kernel_rfl⟩
noncomputable def F60:FI:=⟨9,[.tmp 2],Tryz.f60.body.getD .skip⟩
noncomputable def x60:XC:=(⟨_,by conv => lhs; reduce; simp only [Int.reduceOfNat]⟩:{x // codeOf C 60 F60 = x}).1
theorem ok60 {Q:Ctx} (hK:K Q):FnOk Q 60 F60 x60 false:=hK.ok_ ⟨by kernel_rfl,by kernel_rfl,by kernel_rfl,by kernel_rfl⟩
noncomputable def F62:FI:=⟨9,[.tmp 2],Tryz.f62.body.getD .skip⟩
noncomputable def x62:XC:=(⟨_,by conv => lhs; reduce⟩:{x // codeOf C 62 F62 = x}).1
theorem ok62 {Q:Ctx} (hK:K Q):FnOk Q 62 F62 x62 false:=hK.ok_ ⟨by kernel_rfl,by kernel_rfl,by kernel_rfl,by kernel_rfl⟩
noncomputable def F63:FI:=⟨13,[.tmp 2],Tryz.f63.body.getD .skip⟩
noncomputable def x63:XC:=(⟨_,by conv => lhs; reduce; simp only [Int.reduceOfNat]⟩:{x // codeOf C 63 F63 = x}).1
theorem ok63 {Q:Ctx} (hK:K Q):FnOk Q 63 F63 x63 false:=hK.ok_ ⟨by kernel_rfl,by kernel_rfl,by kernel_rfl,by kernel_rfl⟩
noncomputable def F68:FI:=⟨14,[.tmp 2],Tryz.f68.body.getD .skip⟩
noncomputable def x68:XC:=(⟨_,by conv => lhs; reduce; simp only [Int.reduceOfNat]⟩:{x // codeOf C 68 F68 = x}).1
theorem ok68 {Q:Ctx} (hK:K Q):FnOk Q 68 F68 x68 false:=hK.ok_ ⟨by kernel_rfl,by kernel_rfl,by kernel_rfl,by kernel_rfl⟩
noncomputable def F69:FI:=⟨12,[.tmp 2],Tryz.f69.body.getD .skip⟩
noncomputable def x69:XC:=(⟨_,by conv => lhs; reduce; simp only [Int.reduceOfNat]⟩:{x // codeOf C 69 F69 = x}).1
theorem ok69 {Q:Ctx} (hK:K Q):FnOk Q 69 F69 x69 false:=hK.ok_ ⟨by kernel_rfl,by kernel_rfl,by kernel_rfl,by kernel_rfl⟩
noncomputable def F87:FI:=⟨9,[.tmp 4],Tryz.f87.body.getD .skip⟩
noncomputable def x87:XC:=(⟨_,by conv => lhs; reduce; simp only [Int.reduceOfNat]⟩:{x // codeOf C 87 F87 = x}).1
theorem ok87 {Q:Ctx} (hK:K Q):FnOk Q 87 F87 x87 false:=hK.ok_ ⟨by kernel_rfl,by kernel_rfl,by kernel_rfl,by kernel_rfl⟩
noncomputable def F88:FI:=⟨8,[.tmp 3],Tryz.f88.body.getD .skip⟩
noncomputable def x88:XC:=(⟨_,by conv => lhs; reduce; simp only [Int.reduceOfNat]⟩:{x // codeOf C 88 F88 = x}).1
theorem ok88 {Q:Ctx} (hK:K Q):FnOk Q 88 F88 x88 false:=hK.ok_ ⟨by kernel_rfl,by kernel_rfl,by kernel_rfl,by kernel_rfl⟩
noncomputable def F89:FI:=⟨13,[.tmp 4],Tryz.f89.body.getD .skip⟩
noncomputable def x89:XC:=(⟨_,by conv => lhs; reduce; simp only [Int.reduceOfNat]⟩:{x // codeOf C 89 F89 = x}).1
theorem ok89 {Q:Ctx} (hK:K Q):FnOk Q 89 F89 x89 false:=hK.ok_ ⟨by kernel_rfl,by kernel_rfl,by kernel_rfl,by kernel_rfl⟩
noncomputable def F90:FI:=⟨9,[.tmp 4],Tryz.f90.body.getD .skip⟩
noncomputable def x90:XC:=(⟨_,by conv => lhs; reduce; simp only [Int.reduceOfNat]⟩:{x // codeOf C 90 F90 = x}).1
theorem ok90 {Q:Ctx} (hK:K Q):FnOk Q 90 F90 x90 false:=hK.ok_ ⟨by kernel_rfl,by kernel_rfl,by kernel_rfl,by kernel_rfl⟩
noncomputable def F91:FI:=⟨8,[.tmp 3],Tryz.f91.body.getD .skip⟩
noncomputable def x91:XC:=(⟨_,by conv => lhs; reduce; simp only [Int.reduceOfNat]⟩:{x // codeOf C 91 F91 = x}).1
theorem ok91 {Q:Ctx} (hK:K Q):FnOk Q 91 F91 x91 false:=hK.ok_ ⟨by kernel_rfl,by kernel_rfl,by kernel_rfl,by kernel_rfl⟩
noncomputable def F92:FI:=⟨14,[.tmp 2],Tryz.f92.body.getD .skip⟩
noncomputable def x92:XC:=(⟨_,by conv => lhs; reduce; simp only [Int.reduceOfNat,Int.reduceNegSucc]⟩:{x // codeOf C 92 F92 = x}).1
theorem ok92 {Q:Ctx} (hK:K Q):FnOk Q 92 F92 x92 false:=hK.ok_ ⟨by kernel_rfl,by kernel_rfl,by kernel_rfl,by kernel_rfl⟩
noncomputable def F93:FI:=⟨5,[.tmp 2],Tryz.f93.body.getD .skip⟩
noncomputable def x93:XC:=(⟨_,by conv => lhs; reduce; simp only [Int.reduceOfNat]⟩:{x // codeOf C 93 F93 = x}).1
theorem ok93 {Q:Ctx} (hK:K Q):FnOk Q 93 F93 x93 false:=hK.ok_ ⟨by kernel_rfl,by kernel_rfl,by kernel_rfl,by kernel_rfl⟩
noncomputable def F94:FI:=⟨6,[.tmp 2],Tryz.f94.body.getD .skip⟩
noncomputable def x94:XC:=(⟨_,by conv => lhs; reduce; simp only [Int.reduceOfNat]⟩:{x // codeOf C 94 F94 = x}).1
theorem ok94 {Q:Ctx} (hK:K Q):FnOk Q 94 F94 x94 false:=hK.ok_ ⟨by kernel_rfl,by kernel_rfl,by kernel_rfl,by kernel_rfl⟩
noncomputable def F95:FI:=⟨6,[.tmp 2],Tryz.f95.body.getD .skip⟩
noncomputable def x95:XC:=(⟨_,by conv => lhs; reduce⟩:{x // codeOf C 95 F95 = x}).1
theorem ok95 {Q:Ctx} (hK:K Q):FnOk Q 95 F95 x95 false:=hK.ok_ ⟨by kernel_rfl,by kernel_rfl,by kernel_rfl,by kernel_rfl⟩
noncomputable def F96:FI:=⟨29,[.tmp 4],Tryz.f96.body.getD .skip⟩
noncomputable def m96_0 (l0:XC):XC:=(⟨_,by conv => lhs; reduce; simp only [Int.reduceOfNat]⟩:{x // (lps [] [l0] (codeOf C 96 F96) 0 0).getD 0 .bad = x}).1
noncomputable def l96_0:XC:=m96_0 .bad
noncomputable def y96 (l0:XC):XC:=(⟨_,by conv => lhs; reduce; simp only [Int.reduceOfNat]⟩:{x // nm [] [l0] (codeOf C 96 F96) 0 0 = x}).1
noncomputable def x96:XC:=y96 l96_0
theorem ok96 {Q:Ctx} (hK:K Q):FnOk Q 96 F96 x96 false:=hK.ok_ ⟨by kernel_rfl,by kernel_rfl,by kernel_rfl,by kernel_rfl⟩
end Go.Proofs.L06

namespace Go.Proofs.L06
open Go Go.AE
set_option maxRecDepth 100000
noncomputable def F97:FI:=⟨28,[.tmp 4],Tryz.f97.body.getD .skip⟩
noncomputable def m97_0 (l0:XC):XC:=(⟨_,by conv => lhs; reduce; simp only [Int.reduceOfNat]⟩:{x // (lps [] [l0] (codeOf C 97 F97) 0 0).getD 0 .bad = x}).1
noncomputable def l97_0:XC:=m97_0 .bad
noncomputable def y97 (l0:XC):XC:=(⟨_,by conv => lhs; reduce; simp only [Int.reduceOfNat]⟩:{x // nm [] [l0] (codeOf C 97 F97) 0 0 = x}).1
noncomputable def x97:XC:=y97 l97_0
theorem ok97 {Q:Ctx} (hK:K Q):FnOk Q 97 F97 x97 false:=hK.ok_ ⟨by kernel_rfl,by kernel_rfl,by kernel_rfl,by kernel_rfl⟩
noncomputable def F98:FI:=⟨19,[.tmp 2],Tryz.f98.body.getD .skip⟩
noncomputable def x98:XC:=(⟨_,by conv => lhs; reduce; simp only [Int.reduceOfNat,Int.reduceNegSucc]⟩:{x // codeOf C 98 F98 = x}).1
theorem ok98 {Q:Ctx} (hK:K Q):FnOk Q 98 F98 x98 false:=hK.ok_ ⟨by kernel_rfl,by kernel_rfl,by kernel_rfl,by kernel_rfl⟩
noncomputable def F99:FI:=⟨7,[.tmp 2],Tryz.f99.body.getD .skip⟩
noncomputable def x99:XC:=(⟨_,by conv => lhs; reduce; simp only [Int.reduceOfNat]⟩:{x // codeOf C 99 F99 = x}).1
theorem ok99 {Q:Ctx} (hK:K Q):FnOk Q 99 F99 x99 false:=hK.ok_ ⟨by kernel_rfl,by kernel_rfl,by kernel_rfl,by kernel_rfl⟩
noncomputable def F100:FI:=⟨31,[],Tryz.f100.body.getD .skip⟩
noncomputable def m100_0 (l0:XC):XC:=(⟨_,by conv => lhs; reduce; simp only [Int.reduceOfNat]⟩:{x // (lps [] [l0] (codeOf C 100 F100) 0 0).getD 0 .bad = x}).1
noncomputable def l100_0:XC:=m100_0 .bad
noncomputable def y100 (l0:XC):XC:=(⟨_,by conv => lhs; reduce; simp only [Int.reduceOfNat]⟩:{x // nm [] [l0] (codeOf C 100 F100) 0 0 = x}).1
noncomputable def x100:XC:=y100 l100_0
theorem ok100 {Q:Ctx} (hK:K Q):FnOk Q 100 F100 x100 false:=hK.ok_ ⟨by kernel_rfl,by kernel_rfl,by kernel_rfl,by kernel_rfl⟩
noncomputable def F101:FI:=⟨27,[],Tryz.f101.body.getD .skip⟩
noncomputable def m101_0 (l0:XC):XC:=(⟨_,by conv => lhs; reduce; simp only [Int.reduceOfNat]⟩:{x // (lps [] [l0] (codeOf C 101 F101) 0 0).getD 0 .bad = x}).1
noncomputable def l101_0:XC:=m101_0 .bad
noncomputable def y101 (l0:XC):XC:=(⟨_,by conv => lhs; reduce; simp only [Int.reduceOfNat]⟩:{x // nm [] [l0] (codeOf C 101 F101) 0 0 = x}).1
noncomputable def x101:XC:=y101 l101_0
theorem ok101 {Q:Ctx} (hK:K Q):FnOk Q 101 F101 x101 false:=hK.ok_ ⟨by kernel_rfl,by kernel_rfl,by kernel_rfl,by kernel_rfl⟩
noncomputable def F102:FI:=⟨29,[],Tryz.f102.body.getD .skip⟩
noncomputable def m102_0 (l0:XC):XC:=(⟨_,by conv => lhs; reduce; simp only [Int.reduceOfNat]⟩:{x // (lps [] [l0] (codeOf C 102 F102) 0 0).getD 0 .bad = x}).1
noncomputable def l102_0:XC:=m102_0 .bad
noncomputable def y102 (l0:XC):XC:=(⟨_,by conv => lhs; reduce; simp only [Int.reduceOfNat]⟩:{x // nm [] [l0] (codeOf C 102 F102) 0 0 = x}).1
noncomputable def x102:XC:=y102 l102_0
theorem ok102 {Q:Ctx} (hK:K Q):FnOk Q 102 F102 x102 false:=hK.ok_ ⟨by kernel_rfl,by kernel_rfl,by kernel_rfl,by kernel_rfl⟩
noncomputable def F103:FI:=⟨34,[],Tryz.f103.body.getD .skip⟩
noncomputable def x103:XC:=(⟨_,by conv => lhs; reduce; simp only [Int.reduceOfNat]⟩:{x // codeOf C 103 F103 = x}).1
theorem ok103 {Q:Ctx} (hK:K Q):FnOk Q 103 F103 x103 false:=hK.ok_ ⟨by kernel_rfl,by kernel_rfl,by kernel_rfl,by kernel_rfl⟩
noncomputable def F104:FI:=⟨41,[.tmp 2],Tryz.f104.body.getD .skip⟩
noncomputable def m104_0 (l0:XC):XC:=(⟨_,by conv => lhs; reduce; simp only [Int.reduceOfNat]⟩:{x // (lps [] [l0] (codeOf C 104 F104) 0 0).getD 0 .bad = x}).1
noncomputable def l104_0:XC:=m104_0 .bad
noncomputable def y104 (l0:XC):XC:=(⟨_,by conv => lhs; reduce; simp only [Int.reduceOfNat]⟩:{x // nm [] [l0] (codeOf C 104 F104) 0 0 = x}).1
noncomputable def x104:XC:=y104 l104_0
theorem ok104 {Q:Ctx} (hK:K Q):FnOk Q 104 F104 x104 false:=hK.ok_ ⟨by kernel_rfl,by kernel_rfl,by kernel_rfl,by kernel_rfl⟩
noncomputable def b105:Code:=Tryz.f105.body.getD .skip
noncomputable def F105:FI:=⟨23,[.tmp 2],b105⟩
noncomputable def d105_0:Array Oper:=(drawsOf b105).getD 0 #[]
noncomputable def k105_0:List (Option CrI):=(⟨_,by conv => lhs; reduce⟩:{x // drawCr d105_0 = x}).1
theorem kd105_0:drawCr d105_0 = k105_0:=by kernel_rfl
noncomputable def y105 (d0:Array Oper):XC:=(⟨_,by conv => lhs; reduce; simp only [Int.reduceOfNat]⟩:{x // nm [d0] [] (codeOf C 105 F105) 0 0 = x}).1
noncomputable def x105:XC:=y105 d105_0
theorem ok105 {Q:Ctx} (hK:K Q):FnOk Q 105 F105 x105 false:=hK.ok_ ⟨by kernel_rfl,by kernel_rfl,by kernel_rfl,by kernel_rfl⟩
noncomputable def F106:FI:=⟨12,[.tmp 2],Tryz.f106.body.getD .skip⟩
noncomputable def x106:XC:=(⟨_,by conv => lhs; reduce; simp only [Int.reduceOfNat]⟩:{x // codeOf C 106 F106 = x}).1
theorem ok106 {Q:Ctx} (hK:K Q):FnOk Q 106 F106 x106 false:=hK.ok_ ⟨by kernel_rfl,by kernel_rfl,by kernel_rfl,by kernel_rfl⟩
noncomputable def F107:FI:=⟨8,[.tmp 4],Tryz.f107.body.getD .skip⟩
noncomputable def x107:XC:=(⟨_,by conv => lhs; reduce; simp only [Int.reduceOfNat]⟩:{x // codeOf C 107 F107 = x}).1
theorem ok107 {Q:Ctx} (hK:K Q):FnOk Q 107 F107 x107 false:=hK.ok_ ⟨by kernel_rfl,by kernel_rfl,by kernel_rfl,by kernel_rfl⟩
noncomputable def b108:Code:=Tryz.f108.body.getD .skip
noncomputable def F108:FI:=⟨36,[.tmp 6],b108⟩
noncomputable def d108_0:Array Oper:=(drawsOf b108).getD 0 #[]
theorem kd108_0:drawCr d108_0 = [none,none,none,none,none,none,none,none,none,(some ([none,none,none,none,none,none,none,none,none,none,none],[true,true,true,true,true,true,true,true,true,false,false])),none]:=by kernel_rfl
noncomputable def m108_0 (d0:Array Oper) (l0:XC):XC:=(⟨_,by conv => lhs; reduce; simp only [Int.reduceOfNat]⟩:{x // (lps [d0] [l0] (codeOf C 108 F108) 0 0).getD 0 .bad = x}).1
noncomputable def l108_0:XC:=m108_0 d108_0 .bad
noncomputable def y108 (d0:Array Oper) (l0:XC):XC:=(⟨_,by conv => lhs; reduce; simp only [Int.reduceOfNat]⟩:{x // nm [d0] [l0] (codeOf C 108 F108) 0 0 = x}).1
noncomputable def x108:XC:=y108 d108_0 l108_0
theorem ok108 {Q:Ctx} (hK:K Q):FnOk Q 108 F108 x108 false:=hK.ok_ ⟨by kernel_rfl,by kernel_rfl,by kernel_rfl,by kernel_rfl⟩
noncomputable def b109:Code:=Tryz.f109.body.getD .skip
noncomputable def F109:FI:=⟨25,[.tmp 4],b109⟩
noncomputable def d109_0:Array Oper:=(drawsOf b109).getD 0 #[]
noncomputable def k109_0:List (Option CrI):=(⟨_,by conv => lhs; reduce⟩:{x // drawCr d109_0 = x}).1
theorem kd109_0:drawCr d109_0 = k109_0:=by kernel_rfl
noncomputable def y109 (d0:Array Oper):XC:=(⟨_,by conv => lhs; reduce; simp only [Int.reduceOfNat,Int.reduceNegSucc]⟩:{x // nm [d0] [] (codeOf C 109 F109) 0 0 = x}).1
noncomputable def x109:XC:=y109 d109_0
theorem ok109 {Q:Ctx} (hK:K Q):FnOk Q 109 F109 x109 false:=hK.ok_ ⟨by kernel_rfl,by kernel_rfl,by kernel_rfl,by kernel_rfl⟩
noncomputable def F110:FI:=⟨30,[.tmp 4],Tryz.f110.body.getD .skip⟩
noncomputable def x110:XC:=(⟨_,by conv => lhs; reduce; simp only [Int.reduceOfNat]⟩:{x // codeOf C 110 F110 = x}).1
theorem ok110 {Q:Ctx} (hK:K Q):FnOk Q 110 F110 x110 false:=hK.ok_ ⟨by kernel_rfl,by kernel_rfl,by kernel_rfl,by kernel_rfl⟩
noncomputable def b111:Code:=Tryz.f111.body.getD .skip
noncomputable def F111:FI:=⟨36,[.tmp 6],b111⟩
noncomputable def d111_0:Array Oper:=(drawsOf b111).getD 0 #[]
theorem kd111_0:drawCr d111_0 = [none,none,none,none,none,none,none,none,none,(some ([none,none,none,none,none,none,none,none,none,none,none],[true,true,true,true,true,true,true,true,true,false,false])),none]:=by kernel_rfl
noncomputable def m111_0 (d0:Array Oper) (l0:XC):XC:=(⟨_,by conv => lhs; reduce; simp only [Int.reduceOfNat]⟩:{x // (lps [d0] [l0] (codeOf C 111 F111) 0 0).getD 0 .bad = x}).1
noncomputable def l111_0:XC:=m111_0 d111_0 .bad
noncomputable def y111 (d0:Array Oper) (l0:XC):XC:=(⟨_,by conv => lhs; reduce; simp only [Int.reduceOfNat]⟩:{x // nm [d0] [l0] (codeOf C 111 F111) 0 0 = x}).1
noncomputable def x111:XC:=y111 d111_0 l111_0
theorem ok111 {Q:Ctx} (hK:K Q):FnOk Q 111 F111 x111 false:=hK.ok_ ⟨by kernel_rfl,by kernel_rfl,by kernel_rfl,by kernel_rfl⟩
noncomputable def b112:Code:=Tryz.f112.body.getD .skip
noncomputable def F112:FI:=⟨27,[.tmp 4],b112⟩
noncomputable def d112_0:Array Oper:=(drawsOf b112).getD 0 #[]
theorem kd112_0:drawCr d112_0 = [none,none,none,none,none,none,none,none,(some ([none,none,none,none,none,none,none,none,none,none],[true,true,true,true,true,true,true,true,false,false])),none]:=by kernel_rfl
noncomputable def m112_0 (d0:Array Oper) (l0:XC):XC:=(⟨_,by conv => lhs; reduce; simp only [Int.reduceOfNat]⟩:{x // (lps [d0] [l0] (codeOf C 112 F112) 0 0).getD 0 .bad = x}).1
noncomputable def l112_0:XC:=m112_0 d112_0 .bad
noncomputable def y112 (d0:Array Oper) (l0:XC):XC:=(⟨_,by conv => lhs; reduce; simp only [Int.reduceOfNat]⟩:{x // nm [d0] [l0] (codeOf C 112 F112) 0 0 = x}).1
noncomputable def x112:XC:=y112 d112_0 l112_0
theorem ok112 {Q:Ctx} (hK:K Q):FnOk Q 112 F112 x112 false:=hK.ok_ ⟨by kernel_rfl,by kernel_rfl,by kernel_rfl,by kernel_rfl⟩
noncomputable def b113:Code:=Tryz.f113.body.getD .skip
noncomputable def F113:FI:=⟨52,[.tmp 4],b113⟩
noncomputable def d113_0:Array Oper:=(drawsOf b113).getD 0 #[]
noncomputable def k113_0:List (Option CrI):=(⟨_,by conv => lhs; reduce⟩:{x // drawCr d113_0 = x}).1
theorem kd113_0:drawCr d113_0 = k113_0:=by kernel_rfl
noncomputable def m113_0 (d0:Array Oper) (l0:XC):XC:=(⟨_,by conv => lhs; reduce; simp only [Int.reduceOfNat]⟩:{x // (lps [d0] [l0] (codeOf C 113 F113) 0 0).getD 0 .bad = x}).1
noncomputable def l113_0:XC:=m113_0 d113_0 .bad
noncomputable def y113 (d0:Array Oper) (l0:XC):XC:=(⟨_,by conv => lhs; reduce; simp only [Int.reduceOfNat]⟩:{x // nm [d0] [l0] (codeOf C 113 F113) 0 0 = x}).1
noncomputable def x113:XC:=y113 d113_0 l113_0
theorem ok113 {Q:Ctx} (hK:K Q):FnOk Q 113 F113 x113 false:=hK.ok_ ⟨by kernel_rfl,by kernel_rfl,by kernel_rfl,by kernel_rfl⟩
noncomputable def F114:FI:=⟨11,[.tmp 4],Tryz.f114.body.getD .skip⟩
noncomputable def x114:XC:=(⟨_,by conv => lhs; reduce; simp only [Int.reduceOfNat,Int.reduceNegSucc]⟩:{x // codeOf C 114 F114 = x}).1
theorem ok114 {Q:Ctx} (hK:K Q):FnOk Q 114 F114 x114 false:=hK.ok_ ⟨by kernel_rfl,by kernel_rfl,by kernel_rfl,by kernel_rfl⟩
noncomputable def F115:FI:=⟨11,[.tmp 4],Tryz.f115.body.getD .skip⟩
noncomputable def x115:XC:=(⟨_,by conv => lhs; reduce; simp only [Int.reduceOfNat,Int.reduceNegSucc]⟩:{x // codeOf C 115 F115 = x}).1
theorem ok115 {Q:Ctx} (hK:K Q):FnOk Q 115 F115 x115 false:=hK.ok_ ⟨by kernel_rfl,by kernel_rfl,by kernel_rfl,by kernel_rfl⟩
noncomputable def F116:FI:=⟨30,[.tmp 4],Tryz.f116.body.getD .skip⟩
noncomputable def x116:XC:=(⟨_,by conv => lhs; reduce; simp only [Int.reduceOfNat,Int.reduceNegSucc]⟩:{x // codeOf C 116 F116 = x}).1
theorem ok116 {Q:Ctx} (hK:K Q):FnOk Q 116 F116 x116 false:=hK.ok_ ⟨by kernel_rfl,by kernel_rfl,by kernel_rfl,by kernel_rfl⟩
noncomputable def F117:FI:=⟨39,[.tmp 8],Tryz.f117.body.getD .skip⟩
noncomputable def m117_0 (l0:XC):XC:=(⟨_,by conv => lhs; reduce; simp only [Int.reduceOfNat]⟩:{x // (lps [] [l0] (codeOf C 117 F117) 0 0).getD 0 .bad = x}).1
noncomputable def l117_0:XC:=m117_0 .bad
noncomputable def y117 (l0:XC):XC:=(⟨_,by conv => lhs; reduce; simp only [Int.reduceOfNat]⟩:{x // nm [] [l0] (codeOf C 117 F117) 0 0 = x}).1
noncomputable def x117:XC:=y117 l117_0
theorem ok117 {Q:Ctx} (hK:K Q):FnOk Q 117 F117 x117 false:=hK.ok_ ⟨by kernel_rfl,by kernel_rfl,by kernel_rfl,by kernel_rfl⟩
noncomputable def F118:FI:=⟨19,[.tmp 4],Tryz.f118.body.getD .skip⟩
noncomputable def x118:XC:=(⟨_,by conv => lhs; reduce; simp only [Int.reduceOfNat]⟩:{x // codeOf C 118 F118 = x}).1
theorem ok118 {Q:Ctx} (hK:K Q):FnOk Q 118 F118 x118 false:=hK.ok_ ⟨by kernel_rfl,by kernel_rfl,by kernel_rfl,by kernel_rfl⟩
noncomputable def F119:FI:=⟨5,[.tmp 2],Tryz.f119.body.getD .skip⟩
noncomputable def x119:XC:=(⟨_,by conv => lhs; reduce⟩:{x // codeOf C 119 F119 = x}).1
theorem ok119 {Q:Ctx} (hK:K Q):FnOk Q 119 F119 x119 false:=hK.ok_ ⟨by kernel_rfl,by kernel_rfl,by kernel_rfl,by kernel_rfl⟩
noncomputable def F120:FI:=⟨6,[.cell 2 30],Tryz.f120.body.getD .skip⟩
noncomputable def x120:XC:=(⟨_,by conv => lhs; reduce; simp only [Int.reduceOfNat]⟩:{x // codeOf C 120 F120 = x}).1
theorem ok120 {Q:Ctx} (hK:K Q):FnOk Q 120 F120 x120 false:=hK.ok_ ⟨by kernel_rfl,by kernel_rfl,by kernel_rfl,by kernel_rfl⟩
noncomputable def F121:FI:=⟨6,[],Tryz.f121.body.getD .skip⟩
noncomputable def x121:XC:=(⟨_,by conv => lhs; reduce⟩:{x // codeOf C 121 F121 = x}).1
theorem ok121 {Q:Ctx} (hK:K Q):FnOk Q 121 F121 x121 false:=hK.ok_ ⟨by kernel_rfl,by kernel_rfl,by kernel_rfl,by kernel_rfl⟩
noncomputable def F122:FI:=⟨19,[],Tryz.f122.body.getD .skip⟩
noncomputable def m122_0 (l0:XC):XC:=(⟨_,by conv => lhs; reduce; simp only [Int.reduceOfNat]⟩:{x // (lps [] [l0] (codeOf C 122 F122) 0 0).getD 0 .bad = x}).1
noncomputable def l122_0:XC:=m122_0 .bad
noncomputable def y122 (l0:XC):XC:=(⟨_,by conv => lhs; reduce; simp only [Int.reduceOfNat]⟩:{x // nm [] [l0] (codeOf C 122 F122) 0 0 = x}).1
noncomputable def x122:XC:=y122 l122_0
theorem ok122 {Q:Ctx} (hK:K Q):FnOk Q 122 F122 x122 false:=hK.ok_ ⟨by kernel_rfl,by kernel_rfl,by kernel_rfl,by kernel_rfl⟩
noncomputable def F123:FI:=⟨9,[],Tryz.f123.body.getD .skip⟩
noncomputable def x123:XC:=(⟨_,by conv => lhs; reduce; simp only [Int.reduceOfNat]⟩:{x // codeOf C 123 F123 = x}).1
theorem ok123 {Q:Ctx} (hK:K Q):FnOk Q 123 F123 x123 false:=hK.ok_ ⟨by kernel_rfl,by kernel_rfl,by kernel_rfl,by kernel_rfl⟩
noncomputable def F124:FI:=⟨63,[.tmp 2],Tryz.f124.body.getD .skip⟩
noncomputable def x124:XC:=(⟨_,by conv => lhs; reduce; simp only [Int.reduceOfNat]⟩:{x // codeOf C 124 F124 = x}).1
theorem ok124 {Q:Ctx} (hK:K Q):FnOk Q 124 F124 x124 false:=hK.ok_ ⟨by kernel_rfl,by kernel_rfl,by kernel_rfl,by kernel_rfl⟩
noncomputable def F127:FI:=⟨5,[.tmp 2],Tryz.f127.body.getD .skip⟩
noncomputable def x127:XC:=(⟨_,by conv => lhs; reduce; simp only [Int.reduceOfNat]⟩:{x // codeOf C 127 F127 = x}).1
theorem ok127 {Q:Ctx} (hK:K Q):FnOk Q 127 F127 x127 false:=hK.ok_ ⟨by kernel_rfl,by kernel_rfl,by kernel_rfl,by kernel_rfl⟩
noncomputable def F128:FI:=⟨68,[.tmp 2],Tryz.f128.body.getD .skip⟩
noncomputable def m128_0 (l0:XC):XC:=(⟨_,by conv => lhs; reduce; simp only [Int.reduceOfNat]⟩:{x // (lps [] [l0] (codeOf C 128 F128) 0 0).getD 0 .bad = x}).1
noncomputable def l128_0:XC:=m128_0 .bad
noncomputable def y128 (l0:XC):XC:=(⟨_,by conv => lhs; reduce; simp only [Int.reduceOfNat]⟩:{x // nm [] [l0] (codeOf C 128 F128) 0 0 = x}).1
noncomputable def x128:XC:=y128 l128_0
theorem ok128 {Q:Ctx} (hK:K Q):FnOk Q 128 F128 x128 false:=hK.ok_ ⟨by kernel_rfl,by kernel_rfl,by kernel_rfl,by kernel_rfl⟩
noncomputable def F130:FI:=⟨5,[.tmp 2],Tryz.f130.body.getD .skip⟩
noncomputable def x130:XC:=(⟨_,by conv => lhs; reduce; simp only [Int.reduceOfNat]⟩:{x // codeOf C 130 F130 = x}).1
theorem ok130 {Q:Ctx} (hK:K Q):FnOk Q 130 F130 x130 false:=hK.ok_ ⟨by kernel_rfl,by kernel_rfl,by kernel_rfl,by kernel_rfl⟩
noncomputable def F131:FI:=⟨19,[.tmp 4],Tryz.f131.body.getD .skip⟩
noncomputable def x131:XC:=(⟨_,by conv => lhs; reduce; simp only [Int.reduceOfNat]⟩:{x // codeOf C 131 F131 = x}).1
theorem ok131 {Q:Ctx} (hK:K Q):FnOk Q 131 F131 x131 false:=hK.ok_ ⟨by kernel_rfl,by kernel_rfl,by kernel_rfl,by kernel_rfl⟩
noncomputable def F132:FI:=⟨7,[.tmp 2],Tryz.f132.body.getD .skip⟩
noncomputable def x132:XC:=(⟨_,by conv => lhs; reduce; simp only [Int.reduceOfNat]⟩:{x // codeOf C 132 F132 = x}).1
theorem ok132 {Q:Ctx} (hK:K Q):FnOk Q 132 F132 x132 false:=hK.ok_ ⟨by kernel_rfl,by kernel_rfl,by kernel_rfl,by kernel_rfl⟩
noncomputable def F133:FI:=⟨39,[.tmp 8],Tryz.f133.body.getD .skip⟩
noncomputable def m133_0 (l0:XC):XC:=(⟨_,by conv => lhs; reduce; simp only [Int.reduceOfNat]⟩:{x // (lps [] [l0] (codeOf C 133 F133) 0 0).getD 0 .bad = x}).1
noncomputable def l133_0:XC:=m133_0 .bad
noncomputable def y133 (l0:XC):XC:=(⟨_,by conv => lhs; reduce; simp only [Int.reduceOfNat]⟩:{x // nm [] [l0] (codeOf C 133 F133) 0 0 = x}).1
noncomputable def x133:XC:=y133 l133_0
theorem ok133 {Q:Ctx} (hK:K Q):FnOk Q 133 F133 x133 false:=hK.ok_ ⟨by kernel_rfl,by kernel_rfl,by kernel_rfl,by kernel_rfl⟩
noncomputable def F134:FI:=⟨32,[.tmp 4],Tryz.f134.body.getD .skip⟩
noncomputable def m134_0 (l0:XC):XC:=(⟨_,by conv => lhs; reduce; simp only [Int.reduceOfNat]⟩:{x // (lps [] [l0] (codeOf C 134 F134) 0 0).getD 0 .bad = x}).1
noncomputable def l134_0:XC:=m134_0 .bad
noncomputable def y134 (l0:XC):XC:=(⟨_,by conv => lhs; reduce; simp only [Int.reduceOfNat]⟩:{x // nm [] [l0] (codeOf C 134 F134) 0 0 = x}).1
noncomputable def x134:XC:=y134 l134_0
theorem ok134 {Q:Ctx} (hK:K Q):FnOk Q 134 F134 x134 false:=hK.ok_ ⟨by kernel_rfl,by kernel_rfl,by kernel_rfl,by kernel_rfl⟩
noncomputable def F135:FI:=⟨28,[.tmp 2],Tryz.f135.body.getD .skip⟩
noncomputable def x135:XC:=(⟨_,by conv => lhs; reduce; simp only [Int.reduceOfNat]⟩:{x // codeOf C 135 F135 = x}).1
theorem ok135 {Q:Ctx} (hK:K Q):FnOk Q 135 F135 x135 false:=hK.ok_ ⟨by kernel_rfl,by kernel_rfl,by kernel_rfl,by kernel_rfl⟩
noncomputable def F168:FI:=⟨19,[.tmp 4],Tryz.f168.body.getD .skip⟩
noncomputable def m168_0 (l0:XC):XC:=(⟨_,by conv => lhs; reduce; simp only [Int.reduceOfNat]⟩:{x // (lps [] [l0] (codeOf C 168 F168) 0 0).getD 0 .bad = x}).1
noncomputable def l168_0:XC:=m168_0 .bad
noncomputable def y168 (l0:XC):XC:=(⟨_,by conv => lhs; reduce; simp only [Int.reduceOfNat,Int.reduceNegSucc]⟩:{x // nm [] [l0] (codeOf C 168 F168) 0 0 = x}).1
noncomputable def x168:XC:=y168 l168_0
theorem ok168 {Q:Ctx} (hK:K Q):FnOk Q 168 F168 x168 false:=hK.ok_ ⟨by kernel_rfl,by kernel_rfl,by kernel_rfl,by kernel_rfl⟩
noncomputable def F169:FI:=⟨8,[.tmp 3],Tryz.f169.body.getD .skip⟩
noncomputable def x169:XC:=(⟨_,by conv => lhs; reduce; simp only [Int.reduceOfNat]⟩:{x // codeOf C 169 F169 = x}).1
theorem ok169 {Q:Ctx} (hK:K Q):FnOk Q 169 F169 x169 false:=hK.ok_ ⟨by kernel_rfl,by kernel_rfl,by kernel_rfl,by kernel_rfl⟩
noncomputable def F170:FI:=⟨19,[.tmp 4],Tryz.f170.body.getD .skip⟩
noncomputable def m170_0 (l0:XC):XC:=(⟨_,by conv => lhs; reduce; simp only [Int.reduceOfNat]⟩:{x // (lps [] [l0] (codeOf C 170 F170) 0 0).getD 0 .bad = x}).1
noncomputable def l170_0:XC:=m170_0 .bad
noncomputable def y170 (l0:XC):XC:=(⟨_,by conv => lhs; reduce; simp only [Int.reduceOfNat,Int.reduceNegSucc]⟩:{x // nm [] [l0] (codeOf C 170 F170) 0 0 = x}).1
noncomputable def x170:XC:=y170 l170_0
theorem ok170 {Q:Ctx} (hK:K Q):FnOk Q 170 F170 x170 false:=hK.ok_ ⟨by kernel_rfl,by kernel_rfl,by kernel_rfl,by kernel_rfl⟩
noncomputable def F171:FI:=⟨10,[.tmp 4],Tryz.f171.body.getD .skip⟩
noncomputable def x171:XC:=(⟨_,by conv => lhs; reduce; simp only [Int.reduceOfNat]⟩:{x // codeOf C 171 F171 = x}).1
theorem ok171 {Q:Ctx} (hK:K Q):FnOk Q 171 F171 x171 false:=hK.ok_ ⟨by kernel_rfl,by kernel_rfl,by kernel_rfl,by kernel_rfl⟩
noncomputable def F172:FI:=⟨31,[.tmp 4],Tryz.f172.body.getD .skip⟩
noncomputable def m172_0 (l0:XC):XC:=(⟨_,by conv => lhs; reduce; simp only [Int.reduceOfNat]⟩:{x // (lps [] [l0] (codeOf C 172 F172) 0 0).getD 0 .bad = x}).1
noncomputable def l172_0:XC:=m172_0 .bad
noncomputable def y172 (l0:XC):XC:=(⟨_,by conv => lhs; reduce; simp only [Int.reduceOfNat]⟩:{x // nm [] [l0] (codeOf C 172 F172) 0 0 = x}).1
noncomputable def x172:XC:=y172 l172_0
theorem ok172 {Q:Ctx} (hK:K Q):FnOk Q 172 F172 x172 false:=hK.ok_ ⟨by kernel_rfl,by kernel_rfl,by kernel_rfl,by kernel_rfl⟩
noncomputable def F173:FI:=⟨48,[.tmp 2],Tryz.f173.body.getD .skip⟩
noncomputable def x173:XC:=(⟨_,by conv => lhs; reduce; simp only [Int.reduceOfNat]⟩:{x // codeOf C 173 F173 = x}).1
theorem ok173 {Q:Ctx} (hK:K Q):FnOk Q 173 F173 x173 false:=hK.ok_ ⟨by kernel_rfl,by kernel_rfl,by kernel_rfl,by kernel_rfl⟩
noncomputable def F174:FI:=⟨19,[.tmp 4,.tmp 5],Tryz.f174.body.getD .skip⟩
noncomputable def x174:XC :=
 (.seq (.ops [⟨(some 4),.mv (.c (.int .i64 0)),none⟩,
  ⟨(some 5),.mv (.c .nilif),none⟩])
 (.seq (.ops [⟨(some 6),.mv (.t 0),none⟩,
  ⟨(some 7),.call (.c (.func (.func 240) [] [])) [(.t 6)],none⟩])
 (.seq (.ops [⟨(some 8),.mv (.t 0),none⟩,
  ⟨(some 9),.mv (.t 0),none⟩,
  ⟨(some 10),.gen { dst:=some 10,op:=.nilCheck (.tmp 9),type:=0,pos:="",after:=#[],guard:=none },none⟩,
  ⟨(some 11),.fieldAddr 1 (.t 10),none⟩,
  ⟨(some 12),.load false 1 (.t 11),none⟩,
  ⟨(some 13),.mv (.t 1),none⟩,
  ⟨(some 14),.app true 5 T5 (.t 12) (.t 13),none⟩,
  ⟨(some 15),.gen { dst:=some 15,op:=.nilCheck (.tmp 8),type:=0,pos:="",after:=#[],guard:=none },none⟩,
  ⟨(some 16),.fieldAddr 1 (.t 15),none⟩,
  ⟨none,.store 1 (.t 16) (.t 14),none⟩])
 (.seq (.ops [⟨(some 17),.mv (.t 1),none⟩,
  ⟨(some 18),.lenStr (.t 17),none⟩,
  ⟨(some 4),.mv (.t 18),none⟩,
  ⟨(some 5),.mv (.c .nilif),none⟩])
 .ret))))
theorem ok174 {Q:Ctx} (hK:K Q):FnOk Q 174 F174 x174 true:=hK.ok_ ⟨by kernel_rfl,by kernel_rfl,by kernel_rfl,by kernel_rfl⟩
noncomputable def b175:Code:=Tryz.f175.body.getD .skip
noncomputable def F175:FI:=⟨40,[],b175⟩
noncomputable def d175_0:Array Oper:=(drawsOf b175).getD 0 #[]
noncomputable def k175_0:List (Option CrI):=(⟨_,by conv => lhs; reduce⟩:{x // drawCr d175_0 = x}).1
theorem kd175_0:drawCr d175_0 = k175_0:=by kernel_rfl
noncomputable def x175:XC :=
 (.seq (.ops [⟨(some 3),.box 39 (.t 1),none⟩])
 (.seq (.seq (.ops [⟨(some 4),.fieldAddr 0 (.t 3),none⟩,
  ⟨(some 5),.load false 1 (.t 4),none⟩])
 (.block 0
  (.seq (.ops [⟨(some 19),.binI .eql 3 (.tmp 5) (.const (.int .i64 5)) (.t 5) (.c (.int .i64 5)),none⟩,
   ⟨(some 18),.mv (.t 19),none⟩])
  (.cond (.t 18)
   (.seq (.ops [⟨(some 20),.mv (.t 0),none⟩,
    ⟨(some 21),.buildS false 9 1 2 [(0,(.c (.str [92]))),(1,(.c (.str [46])))],none⟩,
    ⟨(some 22),.call (.c (.func (.func 101) [] [])) [(.t 20),(.t 21)],none⟩])
   (.seq (.ops [⟨(some 23),.mv (.t 0),none⟩,
    ⟨(some 24),.fieldAddr 3 (.t 3),none⟩,
    ⟨(some 25),.load false 1 (.t 24),none⟩,
    ⟨(some 26),.idxS 4 (.t 25) (.c (.int .i64 0)),none⟩,
    ⟨(some 27),.load true 4 (.t 26),none⟩,
    ⟨(some 28),.call (.c (.func (.func 175) [] [])) [(.t 23),(.t 27)],none⟩])
   .ret))
   (.seq (.ops [⟨(some 30),.binI .eql 3 (.tmp 5) (.const (.int .i64 1)) (.t 5) (.c (.int .i64 1)),none⟩,
    ⟨(some 29),.mv (.t 30),none⟩])
   (.cond (.t 29)
    (.ops [⟨(some 31),.mv (.t 0),none⟩,
     ⟨(some 32),.fieldAddr 2 (.t 3),none⟩,
     ⟨(some 33),.load false 1 (.t 32),none⟩,
     ⟨(some 34),.buildS false 9 1 1 [(0,(.t 33))],none⟩,
     ⟨(some 35),.call (.c (.func (.func 101) [] [])) [(.t 31),(.t 34)],none⟩])
    (.draw d175_0 [⟨(some 6),.mv (.t 0),none⟩,
     ⟨(some 7),.gen { dst:=some 7,op:=.makeMap 151 none,type:=0,pos:="",after:=#[],guard:=none },none⟩,
     ⟨none,.gen { dst:=none,op:=.insert 151 (.tmp 7) (.const (.int .i64 2)) (.const (.string ⟨#[66]⟩)),type:=0,pos:="",after:=#[],guard:=none },none⟩,
     ⟨none,.gen { dst:=none,op:=.insert 151 (.tmp 7) (.const (.int .i64 3)) (.const (.string ⟨#[80]⟩)),type:=0,pos:="",after:=#[],guard:=none },none⟩,
     ⟨none,.gen { dst:=none,op:=.insert 151 (.tmp 7) (.const (.int .i64 4)) (.const (.string ⟨#[86]⟩)),type:=0,pos:="",after:=#[],guard:=none },none⟩,
     ⟨(some 8),.mv (.t 7),none⟩,
     ⟨(some 9),.fieldAddr 0 (.t 3),none⟩,
     ⟨(some 10),.load false 1 (.t 9),none⟩,
     ⟨(some 11),.gen { dst:=some 11,op:=.lookup 151 (.tmp 8) (.tmp 10) false,type:=0,pos:="",after:=#[],guard:=none },none⟩,
     ⟨(some 12),.fieldAddr 1 (.t 3),none⟩,
     ⟨(some 13),.load false 1 (.t 12),none⟩,
     ⟨(some 14),.call (.c (.func (.func 241) [] [])) [(.t 13)],none⟩,
     ⟨(some 15),.binS .add 9 (.tmp 11) (.tmp 14) (.t 11) (.t 14),none⟩,
     ⟨(some 16),.buildS false 9 1 1 [(0,(.t 15))],none⟩,
     ⟨(some 17),.call (.c (.func (.func 101) [] [])) [(.t 6),(.t 16)],none⟩])))))))
 (.ops [⟨(some 36),.mv (.t 0),none⟩,
  ⟨(some 37),.fieldAddr 3 (.t 3),none⟩,
  ⟨(some 38),.load false 1 (.t 37),none⟩,
  ⟨(some 39),.call (.c (.func (.func 102) [] [])) [(.t 36),(.t 38)],none⟩])))
theorem ok175 {Q:Ctx} (hK:K Q):FnOk Q 175 F175 x175 false:=hK.ok_ ⟨by kernel_rfl,by kernel_rfl,by kernel_rfl,by kernel_rfl⟩
noncomputable def b176:Code:=Tryz.f176.body.getD .skip
noncomputable def F176:FI:=⟨49,[.tmp 2],b176⟩
noncomputable def d176_0:Array Oper:=(drawsOf b176).getD 0 #[]
noncomputable def k176_0:List (Option CrI):=(⟨_,by conv => lhs; reduce⟩:{x // drawCr d176_0 = x}).1
theorem kd176_0:drawCr d176_0 = k176_0:=by kernel_rfl
noncomputable def d176_1:Array Oper:=(drawsOf b176).getD 1 #[]
noncomputable def k176_1:List (Option CrI):=(⟨_,by conv => lhs; reduce⟩:{x // drawCr d176_1 = x}).1
theorem kd176_1:drawCr d176_1 = k176_1:=by kernel_rfl
noncomputable def d176_2:Array Oper:=(drawsOf b176).getD 2 #[]
noncomputable def k176_2:List (Option CrI):=(⟨_,by conv => lhs; reduce⟩:{x // drawCr d176_2 = x}).1
theorem kd176_2:drawCr d176_2 = k176_2:=by kernel_rfl
noncomputable def y176 (d0 d1 d2:Array Oper):XC:=(⟨_,by conv => lhs; reduce; simp only [Int.reduceOfNat]⟩:{x // nm [d0,d1,d2] [] (codeOf C 176 F176) 0 0 = x}).1
noncomputable def x176:XC:=y176 d176_0 d176_1 d176_2
theorem ok176 {Q:Ctx} (hK:K Q):FnOk Q 176 F176 x176 false:=hK.ok_ ⟨by kernel_rfl,by kernel_rfl,by kernel_rfl,by kernel_rfl⟩
noncomputable def F177:FI:=⟨8,[.tmp 4],Tryz.f177.body.getD .skip⟩
noncomputable def x177:XC:=(⟨_,by conv => lhs; reduce; simp only [Int.reduceOfNat]⟩:{x // codeOf C 177 F177 = x}).1
theorem ok177 {Q:Ctx} (hK:K Q):FnOk Q 177 F177 x177 false:=hK.ok_ ⟨by kernel_rfl,by kernel_rfl,by kernel_rfl,by kernel_rfl⟩
noncomputable def b178:Code:=Tryz.f178.body.getD .skip
noncomputable def F178:FI:=⟨38,[.tmp 4],b178⟩
noncomputable def d178_0:Array Oper:=(drawsOf b178).getD 0 #[]
noncomputable def k178_0:List (Option CrI):=(⟨_,by conv => lhs; reduce⟩:{x // drawCr d178_0 = x}).1
theorem kd178_0:drawCr d178_0 = k178_0:=by kernel_rfl
noncomputable def y178 (d0:Array Oper):XC:=(⟨_,by conv => lhs; reduce; simp only [Int.reduceOfNat]⟩:{x // nm [d0] [] (codeOf C 178 F178) 0 0 = x}).1
noncomputable def x178:XC:=y178 d178_0
theorem ok178 {Q:Ctx} (hK:K Q):FnOk Q 178 F178 x178 false:=hK.ok_ ⟨by kernel_rfl,by kernel_rfl,by kernel_rfl,by kernel_rfl⟩
noncomputable def b179:Code:=Tryz.f179.body.getD .skip
noncomputable def F179:FI:=⟨36,[.tmp 6],b179⟩
noncomputable def d179_0:Array Oper:=(drawsOf b179).getD 0 #[]
theorem kd179_0:drawCr d179_0 = [none,none,none,none,none,none,none,none,none,(some ([none,none,none,none,none,none,none,none,none,none,none],[true,true,true,true,true,true,true,true,true,false,false])),none]:=by kernel_rfl
noncomputable def m179_0 (d0:Array Oper) (l0:XC):XC:=(⟨_,by conv => lhs; reduce; simp only [Int.reduceOfNat]⟩:{x // (lps [d0] [l0] (codeOf C 179 F179) 0 0).getD 0 .bad = x}).1
noncomputable def l179_0:XC:=m179_0 d179_0 .bad
noncomputable def y179 (d0:Array Oper) (l0:XC):XC:=(⟨_,by conv => lhs; reduce; simp only [Int.reduceOfNat]⟩:{x // nm [d0] [l0] (codeOf C 179 F179) 0 0 = x}).1
noncomputable def x179:XC:=y179 d179_0 l179_0
theorem ok179 {Q:Ctx} (hK:K Q):FnOk Q 179 F179 x179 false:=hK.ok_ ⟨by kernel_rfl,by kernel_rfl,by kernel_rfl,by kernel_rfl⟩
noncomputable def b180:Code:=Tryz.f180.body.getD .skip
noncomputable def F180:FI:=⟨53,[.tmp 4],b180⟩
noncomputable def d180_0:Array Oper:=(drawsOf b180).getD 0 #[]
noncomputable def k180_0:List (Option CrI):=(⟨_,by conv => lhs; reduce⟩:{x // drawCr d180_0 = x}).1
theorem kd180_0:drawCr d180_0 = k180_0:=by kernel_rfl
noncomputable def m180_0 (d0:Array Oper) (l0:XC):XC:=(⟨_,by conv => lhs; reduce; simp only [Int.reduceOfNat]⟩:{x // (lps [d0] [l0] (codeOf C 180 F180) 0 0).getD 0 .bad = x}).1
noncomputable def l180_0:XC:=m180_0 d180_0 .bad
noncomputable def y180 (d0:Array Oper) (l0:XC):XC:=(⟨_,by conv => lhs; reduce; simp only [Int.reduceOfNat]⟩:{x // nm [d0] [l0] (codeOf C 180 F180) 0 0 = x}).1
noncomputable def x180:XC:=y180 d180_0 l180_0
theorem ok180 {Q:Ctx} (hK:K Q):FnOk Q 180 F180 x180 false:=hK.ok_ ⟨by kernel_rfl,by kernel_rfl,by kernel_rfl,by kernel_rfl⟩
noncomputable def b181:Code:=Tryz.f181.body.getD .skip
noncomputable def F181:FI:=⟨68,[.tmp 4],b181⟩
noncomputable def d181_0:Array Oper:=(drawsOf b181).getD 0 #[]
noncomputable def k181_0:List (Option CrI):=(⟨_,by conv => lhs; reduce⟩:{x // drawCr d181_0 = x}).1
theorem kd181_0:drawCr d181_0 = k181_0:=by kernel_rfl
noncomputable def d181_1:Array Oper:=(drawsOf b181).getD 1 #[]
noncomputable def k181_1:List (Option CrI):=(⟨_,by conv => lhs; reduce⟩:{x // drawCr d181_1 = x}).1
theorem kd181_1:drawCr d181_1 = k181_1:=by kernel_rfl
noncomputable def m181_0 (d0 d1:Array Oper) (l0 l1:XC):XC:=(⟨_,by conv => lhs; reduce; simp only [Int.reduceOfNat]⟩:{x // (lps [d0,d1] [l0,l1] (codeOf C 181 F181) 0 0).getD 0 .bad = x}).1
noncomputable def l181_0:XC:=m181_0 d181_0 d181_1 .bad .bad
noncomputable def m181_1 (d0 d1:Array Oper) (l0 l1:XC):XC:=(⟨_,by conv => lhs; reduce; simp only [Int.reduceOfNat]⟩:{x // (lps [d0,d1] [l0,l1] (codeOf C 181 F181) 0 0).getD 1 .bad = x}).1
noncomputable def l181_1:XC:=m181_1 d181_0 d181_1 l181_0 .bad
noncomputable def y181 (d0 d1:Array Oper) (l0 l1:XC):XC:=(⟨_,by conv => lhs; reduce; simp only [Int.reduceOfNat]⟩:{x // nm [d0,d1] [l0,l1] (codeOf C 181 F181) 0 0 = x}).1
noncomputable def x181:XC:=y181 d181_0 d181_1 l181_0 l181_1
theorem ok181 {Q:Ctx} (hK:K Q):FnOk Q 181 F181 x181 false:=hK.ok_ ⟨by kernel_rfl,by kernel_rfl,by kernel_rfl,by kernel_rfl⟩
end Go.Proofs.L06

namespace Go.Proofs.L06
open Go Go.AE
set_option maxRecDepth 100000
noncomputable def b182:Code:=Tryz.f182.body.getD .skip
noncomputable def F182:FI:=⟨14,[.cell 4 3,.cell 5 3],b182⟩
noncomputable def d182_0:Array Oper:=(drawsOf b182).getD 0 #[]
theorem kd182_0:drawCr d182_0 = [none,none,(some ([none,(some none),none,none],[true,false,false,false])),(some ([none,none,none,none],[true,true,true,false]))]:=by kernel_rfl
noncomputable def y182 (d0:Array Oper):XC:=(⟨_,by conv => lhs; reduce; simp only [Int.reduceOfNat]⟩:{x // nm [d0] [] (codeOf C 182 F182) 0 0 = x}).1
noncomputable def x182:XC:=y182 d182_0
theorem ok182 {Q:Ctx} (hK:K Q):FnOk Q 182 F182 x182 false:=hK.ok_ ⟨by kernel_rfl,by kernel_rfl,by kernel_rfl,by kernel_rfl⟩
noncomputable def F183:FI:=⟨17,[],Tryz.f183.body.getD .skip⟩
noncomputable def x183:XC:=(⟨_,by conv => lhs; reduce; simp only [Int.reduceOfNat]⟩:{x // codeOf C 183 F183 = x}).1
theorem ok183 {Q:Ctx} (hK:K Q):FnOk Q 183 F183 x183 false:=hK.ok_ ⟨by kernel_rfl,by kernel_rfl,by kernel_rfl,by kernel_rfl⟩
noncomputable def F184:FI:=⟨5,[.tmp 2],Tryz.f184.body.getD .skip⟩
noncomputable def x184:XC:=(⟨_,by conv => lhs; reduce⟩:{x // codeOf C 184 F184 = x}).1
theorem ok184 {Q:Ctx} (hK:K Q):FnOk Q 184 F184 x184 false:=hK.ok_ ⟨by kernel_rfl,by kernel_rfl,by kernel_rfl,by kernel_rfl⟩
noncomputable def F188:FI:=⟨32,[.tmp 4],Tryz.f188.body.getD .skip⟩
noncomputable def m188_0 (l0:XC):XC:=(⟨_,by conv => lhs; reduce; simp only [Int.reduceOfNat]⟩:{x // (lps [] [l0] (codeOf C 188 F188) 0 0).getD 0 .bad = x}).1
noncomputable def l188_0:XC:=m188_0 .bad
noncomputable def y188 (l0:XC):XC:=(⟨_,by conv => lhs; reduce; simp only [Int.reduceOfNat]⟩:{x // nm [] [l0] (codeOf C 188 F188) 0 0 = x}).1
noncomputable def x188:XC:=y188 l188_0
theorem ok188 {Q:Ctx} (hK:K Q):FnOk Q 188 F188 x188 false:=hK.ok_ ⟨by kernel_rfl,by kernel_rfl,by kernel_rfl,by kernel_rfl⟩
noncomputable def F192:FI:=⟨19,[.tmp 4],Tryz.f192.body.getD .skip⟩
noncomputable def x192:XC:=(⟨_,by conv => lhs; reduce; simp only [Int.reduceOfNat]⟩:{x // codeOf C 192 F192 = x}).1
theorem ok192 {Q:Ctx} (hK:K Q):FnOk Q 192 F192 x192 false:=hK.ok_ ⟨by kernel_rfl,by kernel_rfl,by kernel_rfl,by kernel_rfl⟩
noncomputable def F193:FI:=⟨5,[.tmp 2],Tryz.f193.body.getD .skip⟩
noncomputable def x193:XC:=(⟨_,by conv => lhs; reduce⟩:{x // codeOf C 193 F193 = x}).1
theorem ok193 {Q:Ctx} (hK:K Q):FnOk Q 193 F193 x193 false:=hK.ok_ ⟨by kernel_rfl,by kernel_rfl,by kernel_rfl,by kernel_rfl⟩
noncomputable def F194:FI:=⟨8,[],Tryz.f194.body.getD .skip⟩
noncomputable def x194:XC:=(⟨_,by conv => lhs; reduce⟩:{x // codeOf C 194 F194 = x}).1
theorem ok194 {Q:Ctx} (hK:K Q):FnOk Q 194 F194 x194 false:=hK.ok_ ⟨by kernel_rfl,by kernel_rfl,by kernel_rfl,by kernel_rfl⟩
noncomputable def F195:FI:=⟨49,[],Tryz.f195.body.getD .skip⟩
noncomputable def m195_0 (l0:XC):XC:=(⟨_,by conv => lhs; reduce; simp only [Int.reduceOfNat]⟩:{x // (lps [] [l0] (codeOf C 195 F195) 0 0).getD 0 .bad = x}).1
noncomputable def l195_0:XC:=m195_0 .bad
noncomputable def y195 (l0:XC):XC:=(⟨_,by conv => lhs; reduce; simp only [Int.reduceOfNat]⟩:{x // nm [] [l0] (codeOf C 195 F195) 0 0 = x}).1
noncomputable def x195:XC:=y195 l195_0
theorem ok195 {Q:Ctx} (hK:K Q):FnOk Q 195 F195 x195 false:=hK.ok_ ⟨by kernel_rfl,by kernel_rfl,by kernel_rfl,by kernel_rfl⟩
noncomputable def F196:FI:=⟨9,[.tmp 4],Tryz.f196.body.getD .skip⟩
noncomputable def x196:XC:=(⟨_,by conv => lhs; reduce; simp only [Int.reduceOfNat]⟩:{x // codeOf C 196 F196 = x}).1
theorem ok196 {Q:Ctx} (hK:K Q):FnOk Q 196 F196 x196 false:=hK.ok_ ⟨by kernel_rfl,by kernel_rfl,by kernel_rfl,by kernel_rfl⟩
noncomputable def b237:Code:=Tryz.f237.body.getD .skip
noncomputable def F237:FI:=⟨38,[.tmp 2],b237⟩
noncomputable def d237_0:Array Oper:=(drawsOf b237).getD 0 #[]
theorem kd237_0:drawCr d237_0 = [none,none,none,none,none,none,none,none,none,none,none,none,none,none,none,none,none,none,none,none,none,none,none,none,none]:=by kernel_rfl
noncomputable def y237 (d0:Array Oper):XC:=(⟨_,by conv => lhs; reduce; simp only [Int.reduceOfNat]⟩:{x // nm [d0] [] (codeOf C 237 F237) 0 0 = x}).1
noncomputable def x237:XC:=y237 d237_0
theorem ok237 {Q:Ctx} (hK:K Q):FnOk Q 237 F237 x237 false:=hK.ok_ ⟨by kernel_rfl,by kernel_rfl,by kernel_rfl,by kernel_rfl⟩
noncomputable def F238:FI:=⟨13,[.tmp 2],Tryz.f238.body.getD .skip⟩
noncomputable def x238:XC:=(⟨_,by conv => lhs; reduce; simp only [Int.reduceOfNat]⟩:{x // codeOf C 238 F238 = x}).1
theorem ok238 {Q:Ctx} (hK:K Q):FnOk Q 238 F238 x238 false:=hK.ok_ ⟨by kernel_rfl,by kernel_rfl,by kernel_rfl,by kernel_rfl⟩
noncomputable def b239:Code:=Tryz.f239.body.getD .skip
noncomputable def F239:FI:=⟨104,[.tmp 4,.tmp 5],b239⟩
noncomputable def d239_0:Array Oper:=(drawsOf b239).getD 0 #[]
noncomputable def k239_0:List (Option CrI):=(⟨_,by conv => lhs; reduce⟩:{x // drawCr d239_0 = x}).1
theorem kd239_0:drawCr d239_0 = k239_0:=by kernel_rfl
noncomputable def d239_1:Array Oper:=(drawsOf b239).getD 1 #[]
theorem kd239_1:drawCr d239_1 = [none,none,none,none,none,none,none,none,none]:=by kernel_rfl
noncomputable def m239_0 (d0 d1:Array Oper) (l0:XC):XC:=(⟨_,by conv => lhs; reduce; simp only [Int.reduceOfNat]⟩:{x // (lps [d0,d1] [l0] (codeOf C 239 F239) 0 0).getD 0 .bad = x}).1
noncomputable def l239_0:XC:=m239_0 d239_0 d239_1 .bad
noncomputable def y239 (d0 d1:Array Oper) (l0:XC):XC:=(⟨_,by conv => lhs; reduce; simp only [Int.reduceOfNat]⟩:{x // nm [d0,d1] [l0] (codeOf C 239 F239) 0 0 = x}).1
noncomputable def x239:XC:=y239 d239_0 d239_1 l239_0
theorem ok239 {Q:Ctx} (hK:K Q):FnOk Q 239 F239 x239 false:=hK.ok_ ⟨by kernel_rfl,by kernel_rfl,by kernel_rfl,by kernel_rfl⟩
noncomputable def F240:FI:=⟨20,[],Tryz.f240.body.getD .skip⟩
noncomputable def x240:XC:=(⟨_,by conv => lhs; reduce⟩:{x // codeOf C 240 F240 = x}).1
theorem ok240 {Q:Ctx} (hK:K Q):FnOk Q 240 F240 x240 false:=hK.ok_ ⟨by kernel_rfl,by kernel_rfl,by kernel_rfl,by kernel_rfl⟩
noncomputable def F242:FI:=⟨23,[.tmp 2],Tryz.f242.body.getD .skip⟩
noncomputable def m242_0 (l0:XC):XC:=(⟨_,by conv => lhs; reduce; simp only [Int.reduceOfNat]⟩:{x // (lps [] [l0] (codeOf C 242 F242) 0 0).getD 0 .bad = x}).1
noncomputable def l242_0:XC:=m242_0 .bad
noncomputable def y242 (l0:XC):XC:=(⟨_,by conv => lhs; reduce; simp only [Int.reduceOfNat]⟩:{x // nm [] [l0] (codeOf C 242 F242) 0 0 = x}).1
noncomputable def x242:XC:=y242 l242_0
theorem ok242 {Q:Ctx} (hK:K Q):FnOk Q 242 F242 x242 false:=hK.ok_ ⟨by kernel_rfl,by kernel_rfl,by kernel_rfl,by kernel_rfl⟩
noncomputable def F244:FI:=⟨18,[.tmp 2],Tryz.f244.body.getD .skip⟩
noncomputable def m244_0 (l0:XC):XC:=(⟨_,by conv => lhs; reduce; simp only [Int.reduceOfNat]⟩:{x // (lps [] [l0] (codeOf C 244 F244) 0 0).getD 0 .bad = x}).1
noncomputable def l244_0:XC:=m244_0 .bad
noncomputable def y244 (l0:XC):XC:=(⟨_,by conv => lhs; reduce; simp only [Int.reduceOfNat]⟩:{x // nm [] [l0] (codeOf C 244 F244) 0 0 = x}).1
noncomputable def x244:XC:=y244 l244_0
theorem ok244 {Q:Ctx} (hK:K Q):FnOk Q 244 F244 x244 false:=hK.ok_ ⟨by kernel_rfl,by kernel_rfl,by kernel_rfl,by kernel_rfl⟩
noncomputable def F245:FI:=⟨20,[.tmp 4],Tryz.f245.body.getD .skip⟩
noncomputable def x245:XC:=(⟨_,by conv => lhs; reduce; simp only [Int.reduceOfNat,Int.reduceNegSucc]⟩:{x // codeOf C 245 F245 = x}).1
theorem ok245 {Q:Ctx} (hK:K Q):FnOk Q 245 F245 x245 false:=hK.ok_ ⟨by kernel_rfl,by kernel_rfl,by kernel_rfl,by kernel_rfl⟩
noncomputable def F246:FI:=⟨39,[.tmp 6],Tryz.f246.body.getD .skip⟩
noncomputable def m246_0 (l0:XC):XC:=(⟨_,by conv => lhs; reduce; simp only [Int.reduceOfNat]⟩:{x // (lps [] [l0] (codeOf C 246 F246) 0 0).getD 0 .bad = x}).1
noncomputable def l246_0:XC:=m246_0 .bad
noncomputable def y246 (l0:XC):XC:=(⟨_,by conv => lhs; reduce; simp only [Int.reduceOfNat,Int.reduceNegSucc]⟩:{x // nm [] [l0] (codeOf C 246 F246) 0 0 = x}).1
noncomputable def x246:XC:=y246 l246_0
theorem ok246 {Q:Ctx} (hK:K Q):FnOk Q 246 F246 x246 false:=hK.ok_ ⟨by kernel_rfl,by kernel_rfl,by kernel_rfl,by kernel_rfl⟩
noncomputable def F247:FI:=⟨9,[],Tryz.f247.body.getD .skip⟩
noncomputable def x247:XC:=(⟨_,by conv => lhs; reduce; simp only [Int.reduceOfNat]⟩:{x // codeOf C 247 F247 = x}).1
theorem ok247 {Q:Ctx} (hK:K Q):FnOk Q 247 F247 x247 false:=hK.ok_ ⟨by kernel_rfl,by kernel_rfl,by kernel_rfl,by kernel_rfl⟩
noncomputable def F248:FI:=⟨34,[],Tryz.f248.body.getD .skip⟩
noncomputable def m248_0 (l0:XC):XC:=(⟨_,by conv => lhs; reduce; simp only [Int.reduceOfNat]⟩:{x // (lps [] [l0] (codeOf C 248 F248) 0 0).getD 0 .bad = x}).1
noncomputable def l248_0:XC:=m248_0 .bad
noncomputable def y248 (l0:XC):XC:=(⟨_,by conv => lhs; reduce; simp only [Int.reduceOfNat]⟩:{x // nm [] [l0] (codeOf C 248 F248) 0 0 = x}).1
noncomputable def x248:XC:=y248 l248_0
theorem ok248 {Q:Ctx} (hK:K Q):FnOk Q 248 F248 x248 false:=hK.ok_ ⟨by kernel_rfl,by kernel_rfl,by kernel_rfl,by kernel_rfl⟩
noncomputable def F249:FI:=⟨10,[.tmp 4],Tryz.f249.body.getD .skip⟩
noncomputable def x249:XC:=(⟨_,by conv => lhs; reduce; simp only [Int.reduceOfNat]⟩:{x // codeOf C 249 F249 = x}).1
theorem ok249 {Q:Ctx} (hK:K Q):FnOk Q 249 F249 x249 false:=hK.ok_ ⟨by kernel_rfl,by kernel_rfl,by kernel_rfl,by kernel_rfl⟩
noncomputable def b257:Code:=Tryz.f257.body.getD .skip
noncomputable def F257:FI:=⟨14,[.cell 4 3,.cell 5 3],b257⟩
noncomputable def d257_0:Array Oper:=(drawsOf b257).getD 0 #[]
theorem kd257_0:drawCr d257_0 = [none,none,(some ([none,(some none),none,none],[true,false,false,false])),(some ([none,none,none,none],[true,true,true,false]))]:=by kernel_rfl
noncomputable def y257 (d0:Array Oper):XC:=(⟨_,by conv => lhs; reduce; simp only [Int.reduceOfNat]⟩:{x // nm [d0] [] (codeOf C 257 F257) 0 0 = x}).1
noncomputable def x257:XC:=y257 d257_0
theorem ok257 {Q:Ctx} (hK:K Q):FnOk Q 257 F257 x257 false:=hK.ok_ ⟨by kernel_rfl,by kernel_rfl,by kernel_rfl,by kernel_rfl⟩
noncomputable def F258:FI:=⟨19,[.tmp 4],Tryz.f258.body.getD .skip⟩
noncomputable def m258_0 (l0:XC):XC:=(⟨_,by conv => lhs; reduce; simp only [Int.reduceOfNat]⟩:{x // (lps [] [l0] (codeOf C 258 F258) 0 0).getD 0 .bad = x}).1
noncomputable def l258_0:XC:=m258_0 .bad
noncomputable def y258 (l0:XC):XC:=(⟨_,by conv => lhs; reduce; simp only [Int.reduceOfNat,Int.reduceNegSucc]⟩:{x // nm [] [l0] (codeOf C 258 F258) 0 0 = x}).1
noncomputable def x258:XC:=y258 l258_0
theorem ok258 {Q:Ctx} (hK:K Q):FnOk Q 258 F258 x258 false:=hK.ok_ ⟨by kernel_rfl,by kernel_rfl,by kernel_rfl,by kernel_rfl⟩
noncomputable def b295:Code:=Tryz.f295.body.getD .skip
noncomputable def F295:FI:=⟨18,[.cell 2 301,.cell 3 3,.cell 4 30],b295⟩
noncomputable def q295_0:Code × Code:=(rangesOf b295).getD 0 (.skip,.skip)
noncomputable def x295:XC :=
 (.seq (.ops [⟨(some 2),.alloc 301 [(.slice .nil [])],none⟩,
  ⟨(some 3),.alloc 3 [(.int .i64 0)],none⟩,
  ⟨(some 4),.alloc 30 [(.int .i64 0)],none⟩])
 (.seq (.seq (.ops [⟨(some 6),.mv (.t 0),none⟩,
  ⟨(some 7),.lenStr (.t 6),none⟩,
  ⟨(some 8),.binI .gtr 3 (.tmp 7) (.const (.int .i64 20000)) (.t 7) (.c (.int .i64 20000)),none⟩])
 (.cond (.t 8)
  (.seq (.ops [⟨none,.store 1 (.t 2) (.c (.slice .nil [])),none⟩,
   ⟨none,.store 1 (.t 3) (.c (.int .i64 0)),none⟩,
   ⟨none,.store 1 (.t 4) (.c (.int .i64 2)),none⟩])
  .ret)
  .skip))
 (.seq (.ops [⟨(some 9),.mkFunc 336 [] [(.t 2),(.t 3),(.t 4)],none⟩,
  ⟨none,.gen { dst:=none,op:=.defer { callee:=.value (.tmp 9),args:=#[],argTypes:=#[] },type:=0,pos:="",after:=#[],guard:=none },none⟩])
 (.seq (.seq (.ops [⟨(some 10),.mv (.t 0),none⟩,
  ⟨(some 11),.call (.c (.func (.func 337) [] [])) [(.t 10)],none⟩])
 (.block 0
  (.rangeFunc (.t 11) [12] (q295_0).1 (q295_0).2)))
 (.seq (.ops [⟨(some 17),.load false 1 (.t 2),none⟩,
  ⟨none,.store 1 (.t 2) (.t 17),none⟩,
  ⟨none,.store 1 (.t 3) (.c (.int .i64 0)),none⟩,
  ⟨none,.store 1 (.t 4) (.c (.int .i64 0)),none⟩])
 .ret)))))
theorem ok295 {Q:Ctx} (hK:K Q):FnOk Q 295 F295 x295 false:=hK.ok_ ⟨by kernel_rfl,by kernel_rfl,by kernel_rfl,by kernel_rfl⟩
noncomputable def xa295_0:XC :=
 (.ops [⟨(some 5),.alloc 207 [(.int .i64 0),(.str []),(.int .i64 0)],none⟩,
  ⟨none,.store 3 (.t 5) (.t 12),none⟩])
theorem codea295_0:compC C (C.mu 295) (resolveC q295_0.1) = xa295_0:=by kernel_rfl
noncomputable def xb295_0:XC :=
 (.block 1
  (.ops [⟨(some 13),.load false 1 (.t 2),none⟩,
   ⟨(some 14),.load true 3 (.t 5),none⟩,
   ⟨(some 15),.buildS false 207 3 1 [(0,(.t 14))],none⟩,
   ⟨(some 16),.app false 207 T207 (.t 13) (.t 15),none⟩,
   ⟨none,.store 1 (.t 2) (.t 16),none⟩]))
theorem codeb295_0:compC C (C.mu 295) (resolveC q295_0.2) = xb295_0:=by kernel_rfl
noncomputable def F296:FI:=⟨9,[.tmp 2],Tryz.f296.body.getD .skip⟩
noncomputable def x296:XC:=(⟨_,by conv => lhs; reduce; simp only [Int.reduceOfNat]⟩:{x // codeOf C 296 F296 = x}).1
theorem ok296 {Q:Ctx} (hK:K Q):FnOk Q 296 F296 x296 false:=hK.ok_ ⟨by kernel_rfl,by kernel_rfl,by kernel_rfl,by kernel_rfl⟩
noncomputable def F297:FI:=⟨18,[.tmp 4],Tryz.f297.body.getD .skip⟩
noncomputable def m297_0 (l0:XC):XC:=(⟨_,by conv => lhs; reduce; simp only [Int.reduceOfNat]⟩:{x // (lps [] [l0] (codeOf C 297 F297) 0 0).getD 0 .bad = x}).1
noncomputable def l297_0:XC:=m297_0 .bad
noncomputable def y297 (l0:XC):XC:=(⟨_,by conv => lhs; reduce; simp only [Int.reduceOfNat]⟩:{x // nm [] [l0] (codeOf C 297 F297) 0 0 = x}).1
noncomputable def x297:XC:=y297 l297_0
theorem ok297 {Q:Ctx} (hK:K Q):FnOk Q 297 F297 x297 false:=hK.ok_ ⟨by kernel_rfl,by kernel_rfl,by kernel_rfl,by kernel_rfl⟩
noncomputable def F298:FI:=⟨9,[.tmp 2],Tryz.f298.body.getD .skip⟩
noncomputable def x298:XC:=(⟨_,by conv => lhs; reduce; simp only [Int.reduceOfNat]⟩:{x // codeOf C 298 F298 = x}).1
theorem ok298 {Q:Ctx} (hK:K Q):FnOk Q 298 F298 x298 false:=hK.ok_ ⟨by kernel_rfl,by kernel_rfl,by kernel_rfl,by kernel_rfl⟩
noncomputable def F299:FI:=⟨25,[.tmp 6],Tryz.f299.body.getD .skip⟩
noncomputable def x299:XC:=(⟨_,by conv => lhs; reduce⟩:{x // codeOf C 299 F299 = x}).1
theorem ok299 {Q:Ctx} (hK:K Q):FnOk Q 299 F299 x299 false:=hK.ok_ ⟨by kernel_rfl,by kernel_rfl,by kernel_rfl,by kernel_rfl⟩
noncomputable def F300:FI:=⟨19,[.tmp 4],Tryz.f300.body.getD .skip⟩
noncomputable def m300_0 (l0:XC):XC:=(⟨_,by conv => lhs; reduce; simp only [Int.reduceOfNat]⟩:{x // (lps [] [l0] (codeOf C 300 F300) 0 0).getD 0 .bad = x}).1
noncomputable def l300_0:XC:=m300_0 .bad
noncomputable def y300 (l0:XC):XC:=(⟨_,by conv => lhs; reduce; simp only [Int.reduceOfNat,Int.reduceNegSucc]⟩:{x // nm [] [l0] (codeOf C 300 F300) 0 0 = x}).1
noncomputable def x300:XC:=y300 l300_0
theorem ok300 {Q:Ctx} (hK:K Q):FnOk Q 300 F300 x300 false:=hK.ok_ ⟨by kernel_rfl,by kernel_rfl,by kernel_rfl,by kernel_rfl⟩
noncomputable def F301:FI:=⟨2,[.tmp 0],Tryz.f301.body.getD .skip⟩
noncomputable def x301:XC:=(⟨_,by conv => lhs; reduce⟩:{x // codeOf C 301 F301 = x}).1
theorem ok301 {Q:Ctx} (hK:K Q):FnOk Q 301 F301 x301 false:=hK.ok_ ⟨by kernel_rfl,by kernel_rfl,by kernel_rfl,by kernel_rfl⟩
noncomputable def F302:FI:=⟨25,[.tmp 2],Tryz.f302.body.getD .skip⟩
noncomputable def x302:XC:=(⟨_,by conv => lhs; reduce; simp only [Int.reduceOfNat]⟩:{x // codeOf C 302 F302 = x}).1
theorem ok302 {Q:Ctx} (hK:K Q):FnOk Q 302 F302 x302 false:=hK.ok_ ⟨by kernel_rfl,by kernel_rfl,by kernel_rfl,by kernel_rfl⟩
noncomputable def F303:FI:=⟨2,[.tmp 0],Tryz.f303.body.getD .skip⟩
noncomputable def x303:XC:=(⟨_,by conv => lhs; reduce⟩:{x // codeOf C 303 F303 = x}).1
theorem ok303 {Q:Ctx} (hK:K Q):FnOk Q 303 F303 x303 false:=hK.ok_ ⟨by kernel_rfl,by kernel_rfl,by kernel_rfl,by kernel_rfl⟩
noncomputable def F306:FI:=⟨6,[.tmp 2],Tryz.f306.body.getD .skip⟩
noncomputable def x306:XC:=(⟨_,by conv => lhs; reduce⟩:{x // codeOf C 306 F306 = x}).1
theorem ok306 {Q:Ctx} (hK:K Q):FnOk Q 306 F306 x306 false:=hK.ok_ ⟨by kernel_rfl,by kernel_rfl,by kernel_rfl,by kernel_rfl⟩
noncomputable def F307:FI:=⟨30,[.tmp 6],Tryz.f307.body.getD .skip⟩
noncomputable def m307_0 (l0:XC):XC:=(⟨_,by conv => lhs; reduce; simp only [Int.reduceOfNat]⟩:{x // (lps [] [l0] (codeOf C 307 F307) 0 0).getD 0 .bad = x}).1
noncomputable def l307_0:XC:=m307_0 .bad
noncomputable def y307 (l0:XC):XC:=(⟨_,by conv => lhs; reduce; simp only [Int.reduceOfNat]⟩:{x // nm [] [l0] (codeOf C 307 F307) 0 0 = x}).1
noncomputable def x307:XC:=y307 l307_0
theorem ok307 {Q:Ctx} (hK:K Q):FnOk Q 307 F307 x307 false:=hK.ok_ ⟨by kernel_rfl,by kernel_rfl,by kernel_rfl,by kernel_rfl⟩
noncomputable def F319:FI:=⟨9,[],Tryz.f319.body.getD .skip⟩
noncomputable def x319:XC:=(⟨_,by conv => lhs; reduce; simp only [Int.reduceOfNat]⟩:{x // codeOf C 319 F319 = x}).1
theorem ok319 {Q:Ctx} (hK:K Q):FnOk Q 319 F319 x319 false:=hK.ok_ ⟨by kernel_rfl,by kernel_rfl,by kernel_rfl,by kernel_rfl⟩
noncomputable def F320:FI:=⟨34,[],Tryz.f320.body.getD .skip⟩
noncomputable def m320_0 (l0:XC):XC:=(⟨_,by conv => lhs; reduce; simp only [Int.reduceOfNat]⟩:{x // (lps [] [l0] (codeOf C 320 F320) 0 0).getD 0 .bad = x}).1
noncomputable def l320_0:XC:=m320_0 .bad
noncomputable def y320 (l0:XC):XC:=(⟨_,by conv => lhs; reduce; simp only [Int.reduceOfNat]⟩:{x // nm [] [l0] (codeOf C 320 F320) 0 0 = x}).1
noncomputable def x320:XC:=y320 l320_0
theorem ok320 {Q:Ctx} (hK:K Q):FnOk Q 320 F320 x320 false:=hK.ok_ ⟨by kernel_rfl,by kernel_rfl,by kernel_rfl,by kernel_rfl⟩
noncomputable def F321:FI:=⟨10,[.tmp 4],Tryz.f321.body.getD .skip⟩
noncomputable def x321:XC:=(⟨_,by conv => lhs; reduce; simp only [Int.reduceOfNat]⟩:{x // codeOf C 321 F321 = x}).1
theorem ok321 {Q:Ctx} (hK:K Q):FnOk Q 321 F321 x321 false:=hK.ok_ ⟨by kernel_rfl,by kernel_rfl,by kernel_rfl,by kernel_rfl⟩
noncomputable def b336:Code:=Tryz.f336.body.getD .skip
noncomputable def F336:FI:=⟨21,[],b336⟩
noncomputable def d336_0:Array Oper:=(drawsOf b336).getD 0 #[]
noncomputable def k336_0:List (Option CrI):=(⟨_,by conv => lhs; reduce⟩:{x // drawCr d336_0 = x}).1
theorem kd336_0:drawCr d336_0 = k336_0:=by kernel_rfl
noncomputable def y336 (d0:Array Oper):XC:=(⟨_,by conv => lhs; reduce; simp only [Int.reduceOfNat]⟩:{x // nm [d0] [] (codeOf C 336 F336) 0 0 = x}).1
noncomputable def x336:XC:=y336 d336_0
theorem ok336 {Q:Ctx} (hK:K Q):FnOk Q 336 F336 x336 false:=hK.ok_ ⟨by kernel_rfl,by kernel_rfl,by kernel_rfl,by kernel_rfl⟩
noncomputable def F337:FI:=⟨4,[.tmp 2],Tryz.f337.body.getD .skip⟩
noncomputable def x337:XC:=(⟨_,by conv => lhs; reduce⟩:{x // codeOf C 337 F337 = x}).1
theorem ok337 {Q:Ctx} (hK:K Q):FnOk Q 337 F337 x337 false:=hK.ok_ ⟨by kernel_rfl,by kernel_rfl,by kernel_rfl,by kernel_rfl⟩
noncomputable def F350:FI:=⟨30,[.tmp 6],Tryz.f350.body.getD .skip⟩
noncomputable def m350_0 (l0:XC):XC:=(⟨_,by conv => lhs; reduce; simp only [Int.reduceOfNat]⟩:{x // (lps [] [l0] (codeOf C 350 F350) 0 0).getD 0 .bad = x}).1
noncomputable def l350_0:XC:=m350_0 .bad
noncomputable def y350 (l0:XC):XC:=(⟨_,by conv => lhs; reduce; simp only [Int.reduceOfNat]⟩:{x // nm [] [l0] (codeOf C 350 F350) 0 0 = x}).1
noncomputable def x350:XC:=y350 l350_0
theorem ok350 {Q:Ctx} (hK:K Q):FnOk Q 350 F350 x350 false:=hK.ok_ ⟨by kernel_rfl,by kernel_rfl,by kernel_rfl,by kernel_rfl⟩
noncomputable def F355:FI:=⟨62,[],Tryz.f355.body.getD .skip⟩
noncomputable def m355_0 (l0:XC):XC:=(⟨_,by conv => lhs; reduce; simp only [Int.reduceOfNat]⟩:{x // (lps [] [l0] (codeOf C 355 F355) 0 0).getD 0 .bad = x}).1
noncomputable def l355_0:XC:=m355_0 .bad
noncomputable def y355 (l0:XC):XC:=(⟨_,by conv => lhs; reduce; simp only [Int.reduceOfNat]⟩:{x // nm [] [l0] (codeOf C 355 F355) 0 0 = x}).1
noncomputable def x355:XC:=y355 l355_0
theorem ok355 {Q:Ctx} (hK:K Q):FnOk Q 355 F355 x355 false:=hK.ok_ ⟨by kernel_rfl,by kernel_rfl,by kernel_rfl,by kernel_rfl⟩
noncomputable def F356:FI:=⟨34,[.tmp 4],Tryz.f356.body.getD .skip⟩
noncomputable def m356_0 (l0:XC):XC:=(⟨_,by conv => lhs; reduce; simp only [Int.reduceOfNat]⟩:{x // (lps [] [l0] (codeOf C 356 F356) 0 0).getD 0 .bad = x}).1
noncomputable def l356_0:XC:=m356_0 .bad
noncomputable def y356 (l0:XC):XC:=(⟨_,by conv => lhs; reduce; simp only [Int.reduceOfNat]⟩:{x // nm [] [l0] (codeOf C 356 F356) 0 0 = x}).1
noncomputable def x356:XC:=y356 l356_0
theorem ok356 {Q:Ctx} (hK:K Q):FnOk Q 356 F356 x356 false:=hK.ok_ ⟨by kernel_rfl,by kernel_rfl,by kernel_rfl,by kernel_rfl⟩
noncomputable def b357:Code:=Tryz.f357.body.getD .skip
noncomputable def F357:FI:=⟨126,[.cell 4 207,.tmp 5],b357⟩
noncomputable def d357_0:Array Oper:=(drawsOf b357).getD 0 #[]
theorem kd357_0:drawCr d357_0 = [(some ([none,(some none),none,(some (some [false,true,true,false,false])),none],[false,false,false,false,false])),none,none,none,(some ([none,none,none,none,none],[true,true,true,true,false]))]:=by kernel_rfl
noncomputable def x357:XC :=
 (.seq (.ops [⟨(some 3),.box 3 (.t 1),none⟩,
  ⟨(some 4),.alloc 207 [(.int .i64 0),(.str []),(.int .i64 0)],none⟩,
  ⟨(some 5),.mv (.c (.bool false)),none⟩])
 (.seq (.ops [⟨(some 12),.mv (.t 0),none⟩,
  ⟨(some 13),.load false 1 (.t 3),none⟩,
  ⟨(some 14),.gen { dst:=some 14,op:=.slice 9 (.tmp 12) (some (.tmp 13)) none none,type:=0,pos:="",after:=#[],guard:=none },none⟩,
  ⟨(some 6),.alloc 9 [(.str [])],none⟩,
  ⟨none,.store 1 (.t 6) (.t 14),none⟩])
 (.seq (.ops [⟨(some 15),.call (.c (.func (.func 375) [] [])) [(.c (.str [97,98,99,100,101,102,103,104,105,106,107,108,109,110,111,112,113,114,115,116,117,118,119,120,121,122,65,66,67,68,69,70,71,72,73,74,75,76,77,78,79,80,81,82,83,84,85,86,87,88,89,90,48,49,50,51,52,53,54,55,56,57,95,39]))],none⟩,
  ⟨(some 7),.alloc 369 T369.zero,none⟩,
  ⟨none,.store 256 (.t 7) (.t 15),none⟩])
 (.seq (.ops [⟨(some 16),.mkFunc 376 [] [(.t 6),(.t 7)],none⟩,
  ⟨(some 8),.mv (.t 16),none⟩])
 (.seq (.ops [⟨(some 17),.mkFunc 377 [] [(.t 6),(.t 3)],none⟩,
  ⟨(some 9),.mv (.t 17),none⟩])
 (.seq (.seq (.ops [⟨(some 18),.load false 1 (.t 6),none⟩,
  ⟨(some 19),.idxStr (.t 18) (.c (.int .i64 0)),none⟩,
  ⟨(some 10),.mv (.t 19),none⟩])
 (.block 0
  (.seq (.ops [⟨(some 21),.mv (.t 10),none⟩,
   ⟨(some 22),.call (.c (.func (.func 378) [] [])) [(.t 21)],none⟩,
   ⟨(some 20),.mv (.t 22),none⟩])
  (.cond (.t 20)
   (.seq (.ops [⟨(some 23),.mv (.t 8),none⟩,
    ⟨(some 24),.call (.t 23) [(.c (.int .i64 0))],none⟩,
    ⟨(some 11),.mv (.t 24),none⟩])
   (.seq (.seq (.ops [⟨(some 25),.mv (.t 11),none⟩,
    ⟨(some 26),.binI .add 3 (.tmp 25) (.const (.int .i64 1)) (.t 25) (.c (.int .i64 1)),none⟩,
    ⟨(some 27),.load false 1 (.t 6),none⟩,
    ⟨(some 28),.lenStr (.t 27),none⟩,
    ⟨(some 29),.binI .lss 3 (.tmp 26) (.tmp 28) (.t 26) (.t 28),none⟩,
    ⟨(some 30),.mv (.t 29),none⟩,
    ⟨(some 31),.load false 1 (.t 6),(some (some 30,true))⟩,
    ⟨(some 32),.mv (.t 11),(some (some 30,true))⟩,
    ⟨(some 33),.idxStr (.t 31) (.t 32),(some (some 30,true))⟩,
    ⟨(some 34),.binI .eql 5 (.tmp 33) (.const (.int .u8 64)) (.t 33) (.c (.int .u8 64)),(some (some 30,true))⟩,
    ⟨(some 35),.pick (.t 30) (.t 34) (.c (.bool false)),none⟩,
    ⟨(some 36),.mv (.t 35),none⟩,
    ⟨(some 37),.load false 1 (.t 6),(some (some 36,true))⟩,
    ⟨(some 38),.mv (.t 11),(some (some 36,true))⟩,
    ⟨(some 39),.binI .add 3 (.tmp 38) (.const (.int .i64 1)) (.t 38) (.c (.int .i64 1)),(some (some 36,true))⟩,
    ⟨(some 40),.idxStr (.t 37) (.t 39),(some (some 36,true))⟩,
    ⟨(some 41),.call (.c (.func (.func 378) [] [])) [(.t 40)],(some (some 36,true))⟩,
    ⟨(some 42),.pick (.t 36) (.t 41) (.c (.bool false)),none⟩])
   (.cond (.t 42)
    (.ops [⟨(some 43),.mv (.t 8),none⟩,
     ⟨(some 44),.mv (.t 11),none⟩,
     ⟨(some 45),.binI .add 3 (.tmp 44) (.const (.int .i64 1)) (.t 44) (.c (.int .i64 1)),none⟩,
     ⟨(some 46),.call (.t 43) [(.t 45)],none⟩,
     ⟨(some 11),.mv (.t 46),none⟩])
    .skip))
   (.seq (.seq (.ops [⟨(some 47),.load false 1 (.t 6),none⟩,
    ⟨(some 48),.mv (.t 11),none⟩,
    ⟨(some 49),.gen { dst:=some 49,op:=.slice 9 (.tmp 47) none (some (.tmp 48)) none,type:=0,pos:="",after:=#[],guard:=none },none⟩,
    ⟨(some 50),.binS .eql 9 (.tmp 49) (.const (.string ⟨#[111]⟩)) (.t 49) (.c (.str [111])),none⟩,
    ⟨(some 51),.mv (.t 50),none⟩,
    ⟨(some 52),.load false 1 (.t 6),(some (some 51,true))⟩,
    ⟨(some 53),.lenStr (.t 52),(some (some 51,true))⟩,
    ⟨(some 54),.binI .gtr 3 (.tmp 53) (.const (.int .i64 1)) (.t 53) (.c (.int .i64 1)),(some (some 51,true))⟩,
    ⟨(some 55),.pick (.t 51) (.t 54) (.c (.bool false)),none⟩,
    ⟨(some 56),.mv (.t 55),none⟩,
    ⟨(some 57),.load false 1 (.t 6),(some (some 56,true))⟩,
    ⟨(some 58),.idxStr (.t 57) (.c (.int .i64 1)),(some (some 56,true))⟩,
    ⟨(some 59),.binI .eql 5 (.tmp 58) (.const (.int .u8 45)) (.t 58) (.c (.int .u8 45)),(some (some 56,true))⟩,
    ⟨(some 60),.pick (.t 56) (.t 59) (.c (.bool false)),none⟩])
   (.cond (.t 60)
    (.seq (.ops [⟨(some 61),.mv (.t 9),none⟩,
     ⟨(some 62),.call (.t 61) [(.c (.int .i64 3)),(.c (.int .i64 2))],none⟩,
     ⟨(some 63),.extract (.t 62) 0,none⟩,
     ⟨(some 64),.extract (.t 62) 1,none⟩,
     ⟨none,.store 3 (.t 4) (.t 63),none⟩,
     ⟨(some 5),.mv (.t 64),none⟩])
    .ret)
    .skip))
   (.seq (.seq (.draw d357_0 [⟨(some 65),.call (.c (.func (.func 379) [] [])) [],none⟩,
    ⟨(some 66),.load false 1 (.t 6),none⟩,
    ⟨(some 67),.mv (.t 11),none⟩,
    ⟨(some 68),.gen { dst:=some 68,op:=.slice 9 (.tmp 66) none (some (.tmp 67)) none,type:=0,pos:="",after:=#[],guard:=none },none⟩,
    ⟨(some 69),.call (.c (.func (.func 196) [] [])) [(.t 65),(.t 68)],none⟩])
   (.cond (.t 69)
    (.seq (.ops [⟨(some 70),.mv (.t 9),none⟩,
     ⟨(some 71),.mv (.t 11),none⟩,
     ⟨(some 72),.call (.t 70) [(.c (.int .i64 4)),(.t 71)],none⟩,
     ⟨(some 73),.extract (.t 72) 0,none⟩,
     ⟨(some 74),.extract (.t 72) 1,none⟩,
     ⟨none,.store 3 (.t 4) (.t 73),none⟩,
     ⟨(some 5),.mv (.t 74),none⟩])
    .ret)
    .skip))
   (.seq (.ops [⟨(some 75),.mv (.t 9),none⟩,
    ⟨(some 76),.mv (.t 11),none⟩,
    ⟨(some 77),.call (.t 75) [(.c (.int .i64 1)),(.t 76)],none⟩,
    ⟨(some 78),.extract (.t 77) 0,none⟩,
    ⟨(some 79),.extract (.t 77) 1,none⟩,
    ⟨none,.store 3 (.t 4) (.t 78),none⟩,
    ⟨(some 5),.mv (.t 79),none⟩])
   .ret)))))
   (.seq (.ops [⟨(some 81),.mv (.t 10),none⟩,
    ⟨(some 82),.call (.c (.func (.func 380) [] [])) [(.t 81)],none⟩,
    ⟨(some 80),.mv (.t 82),none⟩])
   (.cond (.t 80)
    (.seq (.ops [⟨(some 83),.mv (.t 9),none⟩,
     ⟨(some 84),.mv (.t 8),none⟩,
     ⟨(some 85),.call (.t 84) [(.c (.int .i64 0))],none⟩,
     ⟨(some 86),.call (.t 83) [(.c (.int .i64 2)),(.t 85)],none⟩,
     ⟨(some 87),.extract (.t 86) 0,none⟩,
     ⟨(some 88),.extract (.t 86) 1,none⟩,
     ⟨none,.store 3 (.t 4) (.t 87),none⟩,
     ⟨(some 5),.mv (.t 88),none⟩])
    .ret)
    (.seq (.seq (.ops [⟨(some 90),.load false 1 (.t 6),none⟩,
     ⟨(some 91),.call (.c (.func (.func 381) [] [])) [(.t 90),(.c (.str [45,62]))],none⟩,
     ⟨(some 89),.mv (.t 91),none⟩])
    (.cond (.t 89)
     .skip
     (.seq (.ops [⟨(some 92),.load false 1 (.t 6),none⟩,
      ⟨(some 93),.call (.c (.func (.func 381) [] [])) [(.t 92),(.c (.str [61,62]))],none⟩,
      ⟨(some 89),.mv (.t 93),none⟩])
     (.cond (.t 89)
      .skip
      (.ops [⟨(some 94),.load false 1 (.t 6),none⟩,
       ⟨(some 95),.call (.c (.func (.func 381) [] [])) [(.t 94),(.c (.str [60,61]))],none⟩,
       ⟨(some 89),.mv (.t 95),none⟩])))))
    (.cond (.t 89)
     (.seq (.ops [⟨(some 96),.mv (.t 9),none⟩,
      ⟨(some 97),.call (.t 96) [(.c (.int .i64 3)),(.c (.int .i64 2))],none⟩,
      ⟨(some 98),.extract (.t 97) 0,none⟩,
      ⟨(some 99),.extract (.t 97) 1,none⟩,
      ⟨none,.store 3 (.t 4) (.t 98),none⟩,
      ⟨(some 5),.mv (.t 99),none⟩])
     .ret)
     (.seq (.ops [⟨(some 101),.load false 1 (.t 6),none⟩,
      ⟨(some 102),.call (.c (.func (.func 381) [] [])) [(.t 101),(.c (.str [45,111]))],none⟩,
      ⟨(some 100),.mv (.t 102),none⟩])
     (.cond (.t 100)
      (.seq (.ops [⟨(some 103),.load false 1 (.t 6),none⟩,
       ⟨(some 104),.lenStr (.t 103),none⟩,
       ⟨(some 105),.binI .eql 3 (.tmp 104) (.const (.int .i64 2)) (.t 104) (.c (.int .i64 2)),none⟩,
       ⟨(some 106),.mv (.t 105),none⟩,
       ⟨(some 107),.load false 1 (.t 6),(some (some 106,false))⟩,
       ⟨(some 108),.idxStr (.t 107) (.c (.int .i64 2)),(some (some 106,false))⟩,
       ⟨(some 109),.gen { dst:=some 109,op:=.indexAddr 369 (.tmp 7) (.tmp 108),type:=0,pos:="",after:=#[],guard:=none },(some (some 106,false))⟩,
       ⟨(some 110),.load false 1 (.t 109),(some (some 106,false))⟩,
       ⟨(some 111),.un .not (.t 110),(some (some 106,false))⟩,
       ⟨(some 112),.pick (.t 106) (.c (.bool true)) (.t 111),none⟩])
      (.cond (.t 112)
       (.seq (.ops [⟨(some 113),.mv (.t 9),none⟩,
        ⟨(some 114),.call (.t 113) [(.c (.int .i64 3)),(.c (.int .i64 2))],none⟩,
        ⟨(some 115),.extract (.t 114) 0,none⟩,
        ⟨(some 116),.extract (.t 114) 1,none⟩,
        ⟨none,.store 3 (.t 4) (.t 115),none⟩,
        ⟨(some 5),.mv (.t 116),none⟩])
       .ret)
       .skip))
      (.seq (.ops [⟨(some 118),.mv (.t 10),none⟩,
       ⟨(some 119),.call (.c (.func (.func 374) [] [])) [(.c (.str [42,38,43,33,123,125,40,41,46,44,58,92])),(.t 118)],none⟩,
       ⟨(some 120),.binI .geq 3 (.tmp 119) (.const (.int .i64 0)) (.t 119) (.c (.int .i64 0)),none⟩,
       ⟨(some 117),.mv (.t 120),none⟩])
      (.cond (.t 117)
       (.seq (.ops [⟨(some 121),.mv (.t 9),none⟩,
        ⟨(some 122),.call (.t 121) [(.c (.int .i64 3)),(.c (.int .i64 1))],none⟩,
        ⟨(some 123),.extract (.t 122) 0,none⟩,
        ⟨(some 124),.extract (.t 122) 1,none⟩,
        ⟨none,.store 3 (.t 4) (.t 123),none⟩,
        ⟨(some 5),.mv (.t 124),none⟩])
       .ret)
       .skip))))))))))))
 (.seq (.ops [⟨(some 125),.build [(.int .i64 0),(.str []),(.int .i64 0)] [(0,1),(1,1),(2,1)] [],none⟩,
  ⟨none,.store 3 (.t 4) (.t 125),none⟩,
  ⟨(some 5),.mv (.c (.bool false)),none⟩])
 .ret)))))))
theorem ok357 {Q:Ctx} (hK:K Q):FnOk Q 357 F357 x357 false:=hK.ok_ ⟨by kernel_rfl,by kernel_rfl,by kernel_rfl,by kernel_rfl⟩
end Go.Proofs.L06

namespace Go.Proofs.L06
open Go Go.AE
set_option maxRecDepth 100000
noncomputable def F374:FI:=⟨8,[.tmp 4],Tryz.f374.body.getD .skip⟩
noncomputable def x374:XC:=(⟨_,by conv => lhs; reduce; simp only [Int.reduceOfNat]⟩:{x // codeOf C 374 F374 = x}).1
theorem ok374 {Q:Ctx} (hK:K Q):FnOk Q 374 F374 x374 false:=hK.ok_ ⟨by kernel_rfl,by kernel_rfl,by kernel_rfl,by kernel_rfl⟩
noncomputable def F375:FI:=⟨15,[.cell 2 369],Tryz.f375.body.getD .skip⟩
noncomputable def l375_0:XC :=
 (.seq (.ops [⟨(some 7),.binI .lss 3 (.tmp 6) (.tmp 5) (.t 6) (.t 5),none⟩])
 (.seq (.cond (.t 7)
  .skip
  (.exit 0))
 (.seq (.block 1
  (.seq (.ops [⟨(some 8),.mv (.t 6),none⟩,
   ⟨(some 3),.mv (.t 8),none⟩])
  (.ops [⟨(some 9),.mv (.t 0),none⟩,
   ⟨(some 10),.mv (.t 3),none⟩,
   ⟨(some 11),.idxStr (.t 9) (.t 10),none⟩,
   ⟨(some 12),.gen { dst:=some 12,op:=.indexAddr 369 (.tmp 2) (.tmp 11),type:=0,pos:="",after:=#[],guard:=none },none⟩,
   ⟨none,.store 1 (.t 12) (.c (.bool true)),none⟩])))
 (.ops [⟨(some 13),.binI .add 3 (.tmp 6) (.const (.int .i64 1)) (.t 6) (.c (.int .i64 1)),none⟩,
  ⟨(some 6),.mv (.t 13),none⟩]))))
noncomputable def x375:XC :=
 (.seq (.ops [⟨(some 2),.alloc 369 T369.zero,none⟩])
 (.seq (.seq (.ops [⟨(some 4),.mv (.t 0),none⟩,
  ⟨(some 5),.lenStr (.t 4),none⟩,
  ⟨(some 6),.mv (.c (.int .i64 0)),none⟩])
 (.block 0
  (.loop l375_0)))
 (.seq (.ops [⟨(some 14),.load true 256 (.t 2),none⟩,
  ⟨none,.store 256 (.t 2) (.t 14),none⟩])
 .ret)))
theorem ok375 {Q:Ctx} (hK:K Q):FnOk Q 375 F375 x375 false:=hK.ok_ ⟨by kernel_rfl,by kernel_rfl,by kernel_rfl,by kernel_rfl⟩
noncomputable def F376:FI:=⟨19,[.tmp 4],Tryz.f376.body.getD .skip⟩
noncomputable def m376_0 (l0:XC):XC:=(⟨_,by conv => lhs; reduce; simp only [Int.reduceOfNat]⟩:{x // (lps [] [l0] (codeOf C 376 F376) 0 0).getD 0 .bad = x}).1
noncomputable def l376_0:XC:=m376_0 .bad
noncomputable def y376 (l0:XC):XC:=(⟨_,by conv => lhs; reduce; simp only [Int.reduceOfNat]⟩:{x // nm [] [l0] (codeOf C 376 F376) 0 0 = x}).1
noncomputable def x376:XC:=y376 l376_0
theorem ok376 {Q:Ctx} (hK:K Q):FnOk Q 376 F376 x376 false:=hK.ok_ ⟨by kernel_rfl,by kernel_rfl,by kernel_rfl,by kernel_rfl⟩
noncomputable def b377:Code:=Tryz.f377.body.getD .skip
noncomputable def F377:FI:=⟨14,[.cell 6 207,.tmp 7],b377⟩
noncomputable def d377_0:Array Oper:=(drawsOf b377).getD 0 #[]
theorem kd377_0:drawCr d377_0 = [none,none,none,none,none,none,(some ([none,none,none,none,none,none,none,none],[true,true,true,true,true,true,false,false])),none]:=by kernel_rfl
noncomputable def y377 (d0:Array Oper):XC:=(⟨_,by conv => lhs; reduce; simp only [Int.reduceOfNat]⟩:{x // nm [d0] [] (codeOf C 377 F377) 0 0 = x}).1
noncomputable def x377:XC:=y377 d377_0
theorem ok377 {Q:Ctx} (hK:K Q):FnOk Q 377 F377 x377 false:=hK.ok_ ⟨by kernel_rfl,by kernel_rfl,by kernel_rfl,by kernel_rfl⟩
noncomputable def F378:FI:=⟨9,[.tmp 2],Tryz.f378.body.getD .skip⟩
noncomputable def x378:XC:=(⟨_,by conv => lhs; reduce; simp only [Int.reduceOfNat]⟩:{x // codeOf C 378 F378 = x}).1
theorem ok378 {Q:Ctx} (hK:K Q):FnOk Q 378 F378 x378 false:=hK.ok_ ⟨by kernel_rfl,by kernel_rfl,by kernel_rfl,by kernel_rfl⟩
noncomputable def F379:FI:=⟨2,[.tmp 0],Tryz.f379.body.getD .skip⟩
noncomputable def x379:XC:=(⟨_,by conv => lhs; reduce⟩:{x // codeOf C 379 F379 = x}).1
theorem ok379 {Q:Ctx} (hK:K Q):FnOk Q 379 F379 x379 false:=hK.ok_ ⟨by kernel_rfl,by kernel_rfl,by kernel_rfl,by kernel_rfl⟩
noncomputable def F380:FI:=⟨9,[.tmp 2],Tryz.f380.body.getD .skip⟩
noncomputable def x380:XC:=(⟨_,by conv => lhs; reduce; simp only [Int.reduceOfNat]⟩:{x // codeOf C 380 F380 = x}).1
theorem ok380 {Q:Ctx} (hK:K Q):FnOk Q 380 F380 x380 false:=hK.ok_ ⟨by kernel_rfl,by kernel_rfl,by kernel_rfl,by kernel_rfl⟩
noncomputable def F381:FI:=⟨8,[.tmp 4],Tryz.f381.body.getD .skip⟩
noncomputable def x381:XC:=(⟨_,by conv => lhs; reduce⟩:{x // codeOf C 381 F381 = x}).1
theorem ok381 {Q:Ctx} (hK:K Q):FnOk Q 381 F381 x381 false:=hK.ok_ ⟨by kernel_rfl,by kernel_rfl,by kernel_rfl,by kernel_rfl⟩
noncomputable def F393:FI:=⟨8,[.tmp 4],Tryz.f393.body.getD .skip⟩
noncomputable def x393:XC:=(⟨_,by conv => lhs; reduce; simp only [Int.reduceOfNat]⟩:{x // codeOf C 393 F393 = x}).1
theorem ok393 {Q:Ctx} (hK:K Q):FnOk Q 393 F393 x393 false:=hK.ok_ ⟨by kernel_rfl,by kernel_rfl,by kernel_rfl,by kernel_rfl⟩
noncomputable def F394:FI:=⟨18,[.tmp 4],Tryz.f394.body.getD .skip⟩
noncomputable def x394:XC:=(⟨_,by conv => lhs; reduce⟩:{x // codeOf C 394 F394 = x}).1
theorem ok394 {Q:Ctx} (hK:K Q):FnOk Q 394 F394 x394 false:=hK.ok_ ⟨by kernel_rfl,by kernel_rfl,by kernel_rfl,by kernel_rfl⟩
end Go.Proofs.L06
