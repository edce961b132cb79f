/- The contexts of law 31 and the compiled code of the functions that the law calls. -/
import Derived.Test.YtmdakabianfbkaaGreatE7
import Derived.Test.YtmdakabianfbkaaGreatRows
set_option linter.unusedVariables false
set_option linter.unusedSimpArgs false
/- The contexts of law 31. -/
namespace Go.Proofs.L31
open Go Go.AE
def muL : List Nat := [62,52,56,60,37,51,54,55,57,61,64,65,66,68,70,73,74,96]
noncomputable def C0 : Ctx := ctxOf Tryz.prog (fun _ _ _ => none) (fun f => muL.any (Nat.beq f)) (fun f => !(muL.any (Nat.beq f)))
theorem ctxOk0 : CtxOk C0 := ctxOf_ok (by kernel_rfl)
theorem xOk0 : XOk C0 := fun f args st v st' h => by cases h
/-- What is known of `sane`. -/
def X2 : FuncId → List AV → St → Option (AV × St) := fun f args st => match args with
  | [] => if Nat.beq f 6 then some (.bool true, st) else none
  | _ => none
noncomputable def C : Ctx := C0.withX X2
theorem ctxOk : CtxOk C := ctxOk_withX ctxOk0
end Go.Proofs.L31

/- The code of law 31, compiled. -/
namespace Go.Proofs.L31
open Go Go.AE
noncomputable def T1 : TI := ⟨Tryz.t1.desc, 1, 8, false, [.nilfn], []⟩
theorem ty1 : C.ty 1 = some T1 := by kernel_rfl
noncomputable def T2 : TI := ⟨(.int .i64), 1, 8, false, [(.int .i64 0)], []⟩
theorem ty2 : C.ty 2 = some T2 := by kernel_rfl
noncomputable def T3 : TI := ⟨(.int .i64), 1, 8, false, [(.int .i64 0)], []⟩
theorem ty3 : C.ty 3 = some T3 := by kernel_rfl
noncomputable def T4 : TI := ⟨.bool, 1, 1, false, [(.bool false)], []⟩
theorem ty4 : C.ty 4 = some T4 := by kernel_rfl
noncomputable def T5 : TI := ⟨(.int .u8), 1, 1, false, [(.int .u8 0)], []⟩
theorem ty5 : C.ty 5 = some T5 := by kernel_rfl
noncomputable def T6 : TI := ⟨(.int .u8), 1, 1, false, [(.int .u8 0)], []⟩
theorem ty6 : C.ty 6 = some T6 := by kernel_rfl
noncomputable def T7 : TI := ⟨Tryz.t7.desc, 4, 24, true, [(.int .i64 0), (.int .i64 0), (.bool false), (.int .u8 0)], [(0, 1), (1, 1), (2, 1), (3, 1)]⟩
theorem ty7 : C.ty 7 = some T7 := by kernel_rfl
noncomputable def T8 : TI := ⟨Tryz.t7.desc, 4, 24, true, [(.int .i64 0), (.int .i64 0), (.bool false), (.int .u8 0)], [(0, 1), (1, 1), (2, 1), (3, 1)]⟩
theorem ty8 : C.ty 8 = some T8 := by kernel_rfl
noncomputable def T9 : TI := ⟨.string, 1, 16, false, [(.str [])], []⟩
theorem ty9 : C.ty 9 = some T9 := by kernel_rfl
noncomputable def T10 : TI := ⟨.string, 1, 16, false, [(.str [])], []⟩
theorem ty10 : C.ty 10 = some T10 := by kernel_rfl
noncomputable def T11 : TI := ⟨.string, 1, 16, false, [(.str [])], []⟩
theorem ty11 : C.ty 11 = some T11 := by kernel_rfl
noncomputable def T12 : TI := ⟨(.int .u64), 1, 8, false, [(.int .u64 0)], []⟩
theorem ty12 : C.ty 12 = some T12 := by kernel_rfl
noncomputable def T13 : TI := ⟨Tryz.t13.desc, 2, 24, true, [(.str []), (.int .u64 0)], [(0, 1), (1, 1)]⟩
theorem ty13 : C.ty 13 = some T13 := by kernel_rfl
noncomputable def T14 : TI := ⟨Tryz.t13.desc, 2, 24, true, [(.str []), (.int .u64 0)], [(0, 1), (1, 1)]⟩
theorem ty14 : C.ty 14 = some T14 := by kernel_rfl
noncomputable def T15 : TI := ⟨(.pointer 153), 1, 8, false, [.nilp], []⟩
theorem ty15 : C.ty 15 = some T15 := by kernel_rfl
noncomputable def T16 : TI := ⟨(.pointer 156), 1, 8, false, [.nilp], []⟩
theorem ty16 : C.ty 16 = some T16 := by kernel_rfl
noncomputable def T17 : TI := ⟨(.pointer 165), 1, 8, false, [.nilp], []⟩
theorem ty17 : C.ty 17 = some T17 := by kernel_rfl
noncomputable def T18 : TI := ⟨Tryz.t18.desc, 1, 8, true, [.nilp], [(0, 1)]⟩
theorem ty18 : C.ty 18 = some T18 := by kernel_rfl
noncomputable def T19 : TI := ⟨Tryz.t18.desc, 1, 8, true, [.nilp], [(0, 1)]⟩
theorem ty19 : C.ty 19 = some T19 := by kernel_rfl
noncomputable def T20 : TI := ⟨Tryz.t20.desc, 1, 16, false, [.nilif], []⟩
theorem ty20 : C.ty 20 = some T20 := by kernel_rfl
noncomputable def T21 : TI := ⟨(.int .i32), 1, 4, false, [(.int .i32 0)], []⟩
theorem ty21 : C.ty 21 = some T21 := by kernel_rfl
noncomputable def T22 : TI := ⟨(.slice 3), 1, 24, false, [(.slice .nil [])], []⟩
theorem ty22 : C.ty 22 = some T22 := by kernel_rfl
noncomputable def T23 : TI := ⟨Tryz.t23.desc, 3, 40, true, [(.bool false), (.int .i64 0), (.slice .nil [])], [(0, 1), (1, 1), (2, 1)]⟩
theorem ty23 : C.ty 23 = some T23 := by kernel_rfl
noncomputable def T24 : TI := ⟨Tryz.t23.desc, 3, 40, true, [(.bool false), (.int .i64 0), (.slice .nil [])], [(0, 1), (1, 1), (2, 1)]⟩
theorem ty24 : C.ty 24 = some T24 := by kernel_rfl
noncomputable def T25 : TI := ⟨Tryz.t25.desc, 1, 8, false, [.nilfn], []⟩
theorem ty25 : C.ty 25 = some T25 := by kernel_rfl
noncomputable def T27 : TI := ⟨Tryz.t27.desc, 1, 8, false, [.nilfn], []⟩
theorem ty27 : C.ty 27 = some T27 := by kernel_rfl
noncomputable def T28 : TI := ⟨(.slice 33), 1, 24, false, [(.slice .nil [])], []⟩
theorem ty28 : C.ty 28 = some T28 := by kernel_rfl
noncomputable def T29 : TI := ⟨(.int .i64), 1, 8, false, [(.int .i64 0)], []⟩
theorem ty29 : C.ty 29 = some T29 := by kernel_rfl
noncomputable def T31 : TI := ⟨Tryz.t31.desc, 1, 8, false, [.nilfn], []⟩
theorem ty31 : C.ty 31 = some T31 := by kernel_rfl
noncomputable def T32 : TI := ⟨Tryz.t32.desc, 1, 8, false, [.nilfn], []⟩
theorem ty32 : C.ty 32 = some T32 := by kernel_rfl
noncomputable def T33 : TI := ⟨(.slice 24), 1, 24, false, [(.slice .nil [])], []⟩
theorem ty33 : C.ty 33 = some T33 := by kernel_rfl
noncomputable def T34 : TI := ⟨Tryz.t34.desc, 1, 8, false, [.nilfn], []⟩
theorem ty34 : C.ty 34 = some T34 := by kernel_rfl
noncomputable def T35 : TI := ⟨Tryz.t35.desc, 1, 8, false, [.nilfn], []⟩
theorem ty35 : C.ty 35 = some T35 := by kernel_rfl
noncomputable def T36 : TI := ⟨(.slice 38), 1, 24, false, [(.slice .nil [])], []⟩
theorem ty36 : C.ty 36 = some T36 := by kernel_rfl
noncomputable def T37 : TI := ⟨Tryz.t37.desc, 4, 56, true, [(.int .i64 0), (.int .i64 0), (.str []), (.slice .nil [])], [(0, 1), (1, 1), (2, 1), (3, 1)]⟩
theorem ty37 : C.ty 37 = some T37 := by kernel_rfl
noncomputable def T38 : TI := ⟨Tryz.t37.desc, 4, 56, true, [(.int .i64 0), (.int .i64 0), (.str []), (.slice .nil [])], [(0, 1), (1, 1), (2, 1), (3, 1)]⟩
theorem ty38 : C.ty 38 = some T38 := by kernel_rfl
noncomputable def T40 : TI := ⟨Tryz.t40.desc, 1, 8, false, [.nilfn], []⟩
theorem ty40 : C.ty 40 = some T40 := by kernel_rfl
noncomputable def T41 : TI := ⟨Tryz.t41.desc, 1, 8, false, [.nilfn], []⟩
theorem ty41 : C.ty 41 = some T41 := by kernel_rfl
noncomputable def T42 : TI := ⟨Tryz.t42.desc, 5, 64, true, [(.int .i64 0), (.int .i64 0), (.str []), (.slice .nil []), (.int .i64 0)], [(0, 4), (4, 1)]⟩
theorem ty42 : C.ty 42 = some T42 := by kernel_rfl
noncomputable def T43 : TI := ⟨Tryz.t42.desc, 5, 64, true, [(.int .i64 0), (.int .i64 0), (.str []), (.slice .nil []), (.int .i64 0)], [(0, 4), (4, 1)]⟩
theorem ty43 : C.ty 43 = some T43 := by kernel_rfl
noncomputable def T44 : TI := ⟨Tryz.t44.desc, 1, 8, false, [.nilfn], []⟩
theorem ty44 : C.ty 44 = some T44 := by kernel_rfl
noncomputable def T45 : TI := ⟨Tryz.t45.desc, 1, 8, false, [.nilfn], []⟩
theorem ty45 : C.ty 45 = some T45 := by kernel_rfl
noncomputable def T47 : TI := ⟨Tryz.t47.desc, 1, 8, false, [.nilfn], []⟩
theorem ty47 : C.ty 47 = some T47 := by kernel_rfl
noncomputable def T49 : TI := ⟨Tryz.t49.desc, 1, 8, false, [.nilfn], []⟩
theorem ty49 : C.ty 49 = some T49 := by kernel_rfl
noncomputable def T50 : TI := ⟨Tryz.t50.desc, 2, 16, true, [(.int .i64 0), (.bool false)], [(0, 1), (1, 1)]⟩
theorem ty50 : C.ty 50 = some T50 := by kernel_rfl
noncomputable def T51 : TI := ⟨Tryz.t50.desc, 2, 16, true, [(.int .i64 0), (.bool false)], [(0, 1), (1, 1)]⟩
theorem ty51 : C.ty 51 = some T51 := by kernel_rfl
noncomputable def T52 : TI := ⟨Tryz.t52.desc, 1, 8, false, [.nilfn], []⟩
theorem ty52 : C.ty 52 = some T52 := by kernel_rfl
noncomputable def T53 : TI := ⟨Tryz.t53.desc, 2, 32, true, [(.slice .nil []), (.bool false)], [(0, 1), (1, 1)]⟩
theorem ty53 : C.ty 53 = some T53 := by kernel_rfl
noncomputable def T54 : TI := ⟨Tryz.t53.desc, 2, 32, true, [(.slice .nil []), (.bool false)], [(0, 1), (1, 1)]⟩
theorem ty54 : C.ty 54 = some T54 := by kernel_rfl
noncomputable def T55 : TI := ⟨Tryz.t55.desc, 1, 8, false, [.nilfn], []⟩
theorem ty55 : C.ty 55 = some T55 := by kernel_rfl
noncomputable def T56 : TI := ⟨Tryz.t56.desc, 1, 8, false, [.nilfn], []⟩
theorem ty56 : C.ty 56 = some T56 := by kernel_rfl
noncomputable def T57 : TI := ⟨Tryz.t57.desc, 1, 8, false, [.nilfn], []⟩
theorem ty57 : C.ty 57 = some T57 := by kernel_rfl
noncomputable def T58 : TI := ⟨Tryz.t58.desc, 1, 8, false, [.nilfn], []⟩
theorem ty58 : C.ty 58 = some T58 := by kernel_rfl
noncomputable def T59 : TI := ⟨Tryz.t59.desc, 1, 8, false, [.nilfn], []⟩
theorem ty59 : C.ty 59 = some T59 := by kernel_rfl
noncomputable def T60 : TI := ⟨Tryz.t60.desc, 1, 8, false, [.nilfn], []⟩
theorem ty60 : C.ty 60 = some T60 := by kernel_rfl
noncomputable def T61 : TI := ⟨(.slice 9), 1, 24, false, [(.slice .nil [])], []⟩
theorem ty61 : C.ty 61 = some T61 := by kernel_rfl
noncomputable def T62 : TI := ⟨Tryz.t62.desc, 1, 8, false, [.nilfn], []⟩
theorem ty62 : C.ty 62 = some T62 := by kernel_rfl
noncomputable def T63 : TI := ⟨Tryz.t63.desc, 1, 8, false, [.nilfn], []⟩
theorem ty63 : C.ty 63 = some T63 := by kernel_rfl
noncomputable def T64 : TI := ⟨Tryz.t64.desc, 5, 56, true, [(.str []), (.str []), (.int .i64 0), (.bool false), .nilfn], [(0, 1), (1, 1), (2, 1), (3, 1), (4, 1)]⟩
theorem ty64 : C.ty 64 = some T64 := by kernel_rfl
noncomputable def T65 : TI := ⟨Tryz.t64.desc, 5, 56, true, [(.str []), (.str []), (.int .i64 0), (.bool false), .nilfn], [(0, 1), (1, 1), (2, 1), (3, 1), (4, 1)]⟩
theorem ty65 : C.ty 65 = some T65 := by kernel_rfl
noncomputable def T67 : TI := ⟨Tryz.t67.desc, 1, 8, false, [.nilfn], []⟩
theorem ty67 : C.ty 67 = some T67 := by kernel_rfl
noncomputable def T68 : TI := ⟨Tryz.t68.desc, 1, 8, false, [.nilfn], []⟩
theorem ty68 : C.ty 68 = some T68 := by kernel_rfl
noncomputable def T69 : TI := ⟨Tryz.t69.desc, 1, 8, false, [.nilfn], []⟩
theorem ty69 : C.ty 69 = some T69 := by kernel_rfl
noncomputable def T70 : TI := ⟨Tryz.t70.desc, 1, 8, false, [.nilfn], []⟩
theorem ty70 : C.ty 70 = some T70 := by kernel_rfl
noncomputable def T71 : TI := ⟨Tryz.t71.desc, 1, 8, false, [.nilfn], []⟩
theorem ty71 : C.ty 71 = some T71 := by kernel_rfl
noncomputable def T72 : TI := ⟨Tryz.t72.desc, 1, 8, false, [.nilfn], []⟩
theorem ty72 : C.ty 72 = some T72 := by kernel_rfl
noncomputable def T73 : TI := ⟨Tryz.t73.desc, 1, 8, false, [.nilfn], []⟩
theorem ty73 : C.ty 73 = some T73 := by kernel_rfl
noncomputable def T74 : TI := ⟨Tryz.t74.desc, 1, 8, false, [.nilfn], []⟩
theorem ty74 : C.ty 74 = some T74 := by kernel_rfl
noncomputable def T75 : TI := ⟨Tryz.t75.desc, 1, 8, false, [.nilfn], []⟩
theorem ty75 : C.ty 75 = some T75 := by kernel_rfl
noncomputable def T76 : TI := ⟨Tryz.t76.desc, 1, 8, false, [.nilfn], []⟩
theorem ty76 : C.ty 76 = some T76 := by kernel_rfl
noncomputable def T77 : TI := ⟨Tryz.t77.desc, 1, 8, false, [.nilfn], []⟩
theorem ty77 : C.ty 77 = some T77 := by kernel_rfl
noncomputable def T78 : TI := ⟨(.slice 65), 1, 24, false, [(.slice .nil [])], []⟩
theorem ty78 : C.ty 78 = some T78 := by kernel_rfl
noncomputable def T79 : TI := ⟨Tryz.t79.desc, 1, 8, false, [.nilfn], []⟩
theorem ty79 : C.ty 79 = some T79 := by kernel_rfl
noncomputable def T81 : TI := ⟨Tryz.t81.desc, 1, 8, false, [.nilfn], []⟩
theorem ty81 : C.ty 81 = some T81 := by kernel_rfl
noncomputable def T82 : TI := ⟨Tryz.t82.desc, 1, 8, false, [.nilfn], []⟩
theorem ty82 : C.ty 82 = some T82 := by kernel_rfl
noncomputable def T83 : TI := ⟨Tryz.t83.desc, 1, 8, false, [.nilfn], []⟩
theorem ty83 : C.ty 83 = some T83 := by kernel_rfl
noncomputable def T84 : TI := ⟨Tryz.t84.desc, 1, 8, false, [.nilfn], []⟩
theorem ty84 : C.ty 84 = some T84 := by kernel_rfl
noncomputable def T85 : TI := ⟨(.int .u64), 1, 8, false, [(.int .u64 0)], []⟩
theorem ty85 : C.ty 85 = some T85 := by kernel_rfl
noncomputable def T86 : TI := ⟨Tryz.t86.desc, 1, 8, false, [.nilfn], []⟩
theorem ty86 : C.ty 86 = some T86 := by kernel_rfl
noncomputable def T87 : TI := ⟨Tryz.t87.desc, 1, 8, false, [.nilfn], []⟩
theorem ty87 : C.ty 87 = some T87 := by kernel_rfl
noncomputable def T88 : TI := ⟨Tryz.t88.desc, 1, 8, false, [.nilfn], []⟩
theorem ty88 : C.ty 88 = some T88 := by kernel_rfl
noncomputable def T89 : TI := ⟨Tryz.t89.desc, 1, 8, false, [.nilfn], []⟩
theorem ty89 : C.ty 89 = some T89 := by kernel_rfl
noncomputable def T90 : TI := ⟨Tryz.t90.desc, 1, 8, false, [.nilfn], []⟩
theorem ty90 : C.ty 90 = some T90 := by kernel_rfl
noncomputable def T91 : TI := ⟨Tryz.t91.desc, 1, 8, false, [.nilfn], []⟩
theorem ty91 : C.ty 91 = some T91 := by kernel_rfl
noncomputable def T92 : TI := ⟨Tryz.t92.desc, 1, 8, false, [.nilfn], []⟩
theorem ty92 : C.ty 92 = some T92 := by kernel_rfl
noncomputable def T93 : TI := ⟨Tryz.t92.desc, 1, 8, false, [.nilfn], []⟩
theorem ty93 : C.ty 93 = some T93 := by kernel_rfl
noncomputable def T94 : TI := ⟨Tryz.t94.desc, 1, 8, false, [.nilfn], []⟩
theorem ty94 : C.ty 94 = some T94 := by kernel_rfl
noncomputable def T95 : TI := ⟨Tryz.t95.desc, 1, 8, false, [.nilfn], []⟩
theorem ty95 : C.ty 95 = some T95 := by kernel_rfl
noncomputable def T96 : TI := ⟨Tryz.t96.desc, 1, 8, false, [.nilfn], []⟩
theorem ty96 : C.ty 96 = some T96 := by kernel_rfl
noncomputable def T97 : TI := ⟨Tryz.t97.desc, 1, 8, false, [.nilfn], []⟩
theorem ty97 : C.ty 97 = some T97 := by kernel_rfl
noncomputable def T98 : TI := ⟨Tryz.t98.desc, 1, 8, false, [.nilfn], []⟩
theorem ty98 : C.ty 98 = some T98 := by kernel_rfl
noncomputable def T99 : TI := ⟨Tryz.t99.desc, 1, 8, false, [.nilfn], []⟩
theorem ty99 : C.ty 99 = some T99 := by kernel_rfl
noncomputable def T100 : TI := ⟨Tryz.t100.desc, 1, 8, false, [.nilfn], []⟩
theorem ty100 : C.ty 100 = some T100 := by kernel_rfl
noncomputable def T101 : TI := ⟨Tryz.t101.desc, 1, 8, false, [.nilfn], []⟩
theorem ty101 : C.ty 101 = some T101 := by kernel_rfl
noncomputable def T102 : TI := ⟨Tryz.t101.desc, 1, 8, false, [.nilfn], []⟩
theorem ty102 : C.ty 102 = some T102 := by kernel_rfl
noncomputable def T103 : TI := ⟨Tryz.t103.desc, 1, 8, false, [.nilfn], []⟩
theorem ty103 : C.ty 103 = some T103 := by kernel_rfl
noncomputable def T104 : TI := ⟨Tryz.t104.desc, 1, 8, false, [.nilfn], []⟩
theorem ty104 : C.ty 104 = some T104 := by kernel_rfl
noncomputable def T105 : TI := ⟨Tryz.t105.desc, 1, 8, false, [.nilfn], []⟩
theorem ty105 : C.ty 105 = some T105 := by kernel_rfl
noncomputable def T106 : TI := ⟨Tryz.t105.desc, 1, 8, false, [.nilfn], []⟩
theorem ty106 : C.ty 106 = some T106 := by kernel_rfl
noncomputable def T107 : TI := ⟨Tryz.t107.desc, 1, 8, false, [.nilfn], []⟩
theorem ty107 : C.ty 107 = some T107 := by kernel_rfl
noncomputable def T108 : TI := ⟨Tryz.t108.desc, 1, 8, false, [.nilfn], []⟩
theorem ty108 : C.ty 108 = some T108 := by kernel_rfl
noncomputable def T109 : TI := ⟨Tryz.t109.desc, 1, 8, false, [.nilfn], []⟩
theorem ty109 : C.ty 109 = some T109 := by kernel_rfl
noncomputable def T110 : TI := ⟨(.slice 21), 1, 24, false, [(.slice .nil [])], []⟩
theorem ty110 : C.ty 110 = some T110 := by kernel_rfl
noncomputable def T111 : TI := ⟨Tryz.t111.desc, 1, 8, false, [.nilfn], []⟩
theorem ty111 : C.ty 111 = some T111 := by kernel_rfl
noncomputable def T112 : TI := ⟨(.int .i64), 1, 8, false, [(.int .i64 0)], []⟩
theorem ty112 : C.ty 112 = some T112 := by kernel_rfl
noncomputable def T114 : TI := ⟨Tryz.t114.desc, 1, 8, false, [.nilfn], []⟩
theorem ty114 : C.ty 114 = some T114 := by kernel_rfl
noncomputable def T115 : TI := ⟨Tryz.t115.desc, 1, 8, false, [.nilfn], []⟩
theorem ty115 : C.ty 115 = some T115 := by kernel_rfl
noncomputable def T116 : TI := ⟨Tryz.t116.desc, 1, 8, false, [.nilfn], []⟩
theorem ty116 : C.ty 116 = some T116 := by kernel_rfl
noncomputable def T117 : TI := ⟨Tryz.t117.desc, 1, 8, false, [.nilfn], []⟩
theorem ty117 : C.ty 117 = some T117 := by kernel_rfl
noncomputable def T118 : TI := ⟨Tryz.t118.desc, 1, 8, false, [.nilfn], []⟩
theorem ty118 : C.ty 118 = some T118 := by kernel_rfl
noncomputable def T119 : TI := ⟨(.int .u32), 1, 4, false, [(.int .u32 0)], []⟩
theorem ty119 : C.ty 119 = some T119 := by kernel_rfl
noncomputable def T120 : TI := ⟨Tryz.t120.desc, 1, 8, false, [.nilfn], []⟩
theorem ty120 : C.ty 120 = some T120 := by kernel_rfl
noncomputable def T121 : TI := ⟨(.int .u64), 1, 8, false, [(.int .u64 0)], []⟩
theorem ty121 : C.ty 121 = some T121 := by kernel_rfl
noncomputable def T122 : TI := ⟨Tryz.t122.desc, 1, 8, false, [.nilfn], []⟩
theorem ty122 : C.ty 122 = some T122 := by kernel_rfl
noncomputable def T123 : TI := ⟨Tryz.t123.desc, 1, 8, false, [.nilfn], []⟩
theorem ty123 : C.ty 123 = some T123 := by kernel_rfl
noncomputable def T124 : TI := ⟨(.slice 22), 1, 24, false, [(.slice .nil [])], []⟩
theorem ty124 : C.ty 124 = some T124 := by kernel_rfl
noncomputable def T125 : TI := ⟨Tryz.t125.desc, 1, 8, false, [.nilfn], []⟩
theorem ty125 : C.ty 125 = some T125 := by kernel_rfl
noncomputable def T126 : TI := ⟨Tryz.t126.desc, 1, 8, false, [.nilfn], []⟩
theorem ty126 : C.ty 126 = some T126 := by kernel_rfl
noncomputable def T127 : TI := ⟨(.map 131 4), 1, 8, false, [.nilmap], []⟩
theorem ty127 : C.ty 127 = some T127 := by kernel_rfl
noncomputable def T128 : TI := ⟨Tryz.t128.desc, 1, 8, false, [.nilfn], []⟩
theorem ty128 : C.ty 128 = some T128 := by kernel_rfl
noncomputable def T129 : TI := ⟨(.map 3 4), 1, 8, false, [.nilmap], []⟩
theorem ty129 : C.ty 129 = some T129 := by kernel_rfl
noncomputable def T130 : TI := ⟨Tryz.t130.desc, 2, 16, true, [(.int .i64 0), (.int .i64 0)], [(0, 1), (1, 1)]⟩
theorem ty130 : C.ty 130 = some T130 := by kernel_rfl
noncomputable def T131 : TI := ⟨Tryz.t130.desc, 2, 16, true, [(.int .i64 0), (.int .i64 0)], [(0, 1), (1, 1)]⟩
theorem ty131 : C.ty 131 = some T131 := by kernel_rfl
noncomputable def T132 : TI := ⟨(.int .u64), 1, 8, false, [(.int .u64 0)], []⟩
theorem ty132 : C.ty 132 = some T132 := by kernel_rfl
noncomputable def T133 : TI := ⟨Tryz.t133.desc, 1, 8, false, [.nilfn], []⟩
theorem ty133 : C.ty 133 = some T133 := by kernel_rfl
noncomputable def T134 : TI := ⟨Tryz.t134.desc, 1, 8, false, [.nilfn], []⟩
theorem ty134 : C.ty 134 = some T134 := by kernel_rfl
noncomputable def T135 : TI := ⟨Tryz.t135.desc, 1, 8, false, [.nilfn], []⟩
theorem ty135 : C.ty 135 = some T135 := by kernel_rfl
noncomputable def T136 : TI := ⟨(.pointer 3), 1, 8, false, [.nilp], []⟩
theorem ty136 : C.ty 136 = some T136 := by kernel_rfl
noncomputable def T137 : TI := ⟨Tryz.t137.desc, 1, 8, false, [.nilfn], []⟩
theorem ty137 : C.ty 137 = some T137 := by kernel_rfl
noncomputable def T138 : TI := ⟨Tryz.t138.desc, 1, 8, false, [.nilfn], []⟩
theorem ty138 : C.ty 138 = some T138 := by kernel_rfl
noncomputable def T139 : TI := ⟨Tryz.t139.desc, 1, 8, false, [.nilfn], []⟩
theorem ty139 : C.ty 139 = some T139 := by kernel_rfl
noncomputable def T140 : TI := ⟨(.pointer 132), 1, 8, false, [.nilp], []⟩
theorem ty140 : C.ty 140 = some T140 := by kernel_rfl
noncomputable def T142 : TI := ⟨Tryz.t142.desc, 1, 8, false, [.nilfn], []⟩
theorem ty142 : C.ty 142 = some T142 := by kernel_rfl
noncomputable def T143 : TI := ⟨Tryz.t143.desc, 1, 8, false, [.nilfn], []⟩
theorem ty143 : C.ty 143 = some T143 := by kernel_rfl
noncomputable def T144 : TI := ⟨Tryz.t144.desc, 1, 8, false, [.nilfn], []⟩
theorem ty144 : C.ty 144 = some T144 := by kernel_rfl
noncomputable def T145 : TI := ⟨Tryz.t145.desc, 1, 8, false, [.nilfn], []⟩
theorem ty145 : C.ty 145 = some T145 := by kernel_rfl
noncomputable def T146 : TI := ⟨Tryz.t146.desc, 1, 8, false, [.nilfn], []⟩
theorem ty146 : C.ty 146 = some T146 := by kernel_rfl
noncomputable def T147 : TI := ⟨Tryz.t147.desc, 1, 8, false, [.nilfn], []⟩
theorem ty147 : C.ty 147 = some T147 := by kernel_rfl
noncomputable def T148 : TI := ⟨Tryz.t148.desc, 1, 8, false, [.nilfn], []⟩
theorem ty148 : C.ty 148 = some T148 := by kernel_rfl
noncomputable def T149 : TI := ⟨Tryz.t149.desc, 1, 8, false, [.nilfn], []⟩
theorem ty149 : C.ty 149 = some T149 := by kernel_rfl
noncomputable def T150 : TI := ⟨Tryz.t150.desc, 1, 8, false, [.nilfn], []⟩
theorem ty150 : C.ty 150 = some T150 := by kernel_rfl
noncomputable def T151 : TI := ⟨Tryz.t151.desc, 1, 8, false, [.nilfn], []⟩
theorem ty151 : C.ty 151 = some T151 := by kernel_rfl
noncomputable def T152 : TI := ⟨Tryz.t152.desc, 4, 40, true, [.nilp, .nilp, .nilp, (.str [])], [(0, 1), (1, 1), (2, 1), (3, 1)]⟩
theorem ty152 : C.ty 152 = some T152 := by kernel_rfl
noncomputable def T153 : TI := ⟨Tryz.t152.desc, 4, 40, true, [.nilp, .nilp, .nilp, (.str [])], [(0, 1), (1, 1), (2, 1), (3, 1)]⟩
theorem ty153 : C.ty 153 = some T153 := by kernel_rfl
noncomputable def T154 : TI := ⟨Tryz.t154.desc, 0, 0, true, [], []⟩
theorem ty154 : C.ty 154 = some T154 := by kernel_rfl
noncomputable def T155 : TI := ⟨Tryz.t155.desc, 0, 0, true, [], [(0, 0)]⟩
theorem ty155 : C.ty 155 = some T155 := by kernel_rfl
noncomputable def T156 : TI := ⟨Tryz.t155.desc, 0, 0, true, [], [(0, 0)]⟩
theorem ty156 : C.ty 156 = some T156 := by kernel_rfl
noncomputable def T157 : TI := ⟨Tryz.t157.desc, 1, 8, false, [.nilfn], []⟩
theorem ty157 : C.ty 157 = some T157 := by kernel_rfl
noncomputable def T158 : TI := ⟨(.int .u8), 1, 1, false, [(.int .u8 0)], []⟩
theorem ty158 : C.ty 158 = some T158 := by kernel_rfl
noncomputable def T159 : TI := ⟨(.int .u8), 1, 1, false, [(.int .u8 0)], []⟩
theorem ty159 : C.ty 159 = some T159 := by kernel_rfl
noncomputable def T160 : TI := ⟨Tryz.t160.desc, 1, 8, false, [.nilfn], []⟩
theorem ty160 : C.ty 160 = some T160 := by kernel_rfl
noncomputable def T161 : TI := ⟨(.pointer 5), 1, 8, false, [.nilp], []⟩
theorem ty161 : C.ty 161 = some T161 := by kernel_rfl
noncomputable def T162 : TI := ⟨(.int .i32), 1, 4, false, [(.int .i32 0)], []⟩
theorem ty162 : C.ty 162 = some T162 := by kernel_rfl
noncomputable def T163 : TI := ⟨(.int .i32), 1, 4, false, [(.int .i32 0)], []⟩
theorem ty163 : C.ty 163 = some T163 := by kernel_rfl
noncomputable def T164 : TI := ⟨Tryz.t164.desc, 11, 48, true, [(.int .u64 0), (.int .u64 0), (.int .u32 0), (.int .u8 0), (.int .u8 0), (.int .u8 0), (.int .u8 0), .nilfn, .nilp, (.int .i32 0), (.int .i32 0)], [(0, 1), (1, 1), (2, 1), (3, 1), (4, 1), (5, 1), (6, 1), (7, 1), (8, 1), (9, 1), (10, 1)]⟩
theorem ty164 : C.ty 164 = some T164 := by kernel_rfl
noncomputable def T165 : TI := ⟨Tryz.t164.desc, 11, 48, true, [(.int .u64 0), (.int .u64 0), (.int .u32 0), (.int .u8 0), (.int .u8 0), (.int .u8 0), (.int .u8 0), .nilfn, .nilp, (.int .i32 0), (.int .i32 0)], [(0, 1), (1, 1), (2, 1), (3, 1), (4, 1), (5, 1), (6, 1), (7, 1), (8, 1), (9, 1), (10, 1)]⟩
theorem ty165 : C.ty 165 = some T165 := by kernel_rfl
noncomputable def T166 : TI := ⟨Tryz.t166.desc, 1, 8, false, [.nilp], []⟩
theorem ty166 : C.ty 166 = some T166 := by kernel_rfl
noncomputable def b4 : Code := Tryz.f4.body.getD .skip
noncomputable def F4 : FI := ⟨98, [.tmp 6], b4⟩
theorem fn4 : C.fn 4 = some F4 := by kernel_rfl
noncomputable def x4 : XC :=
  (.seq (.ops [⟨(some 5), .box 38 (.t 2), none⟩,
    ⟨(some 6), .mv (.c (.bool false)), none⟩])
  (.seq (.ops [⟨(some 20), .call (.c (.func (.func 6) [] [])) [], none⟩,
    ⟨(some 7), .mv (.t 20), none⟩])
  (.seq (.ops [⟨(some 22), .mv (.t 0), none⟩,
    ⟨(some 23), .call (.c (.func (.func 11) [] [])) [(.t 22)], none⟩,
    ⟨(some 21), .mv (.t 23), none⟩,
    ⟨(some 24), .extract (.t 21) 0, none⟩,
    ⟨(some 25), .extract (.t 21) 1, none⟩,
    ⟨(some 8), .alloc 38 [(.int .i64 0), (.int .i64 0), (.str []), (.slice .nil [])], none⟩,
    ⟨none, .store 4 (.t 8) (.t 24), none⟩,
    ⟨(some 9), .mv (.t 25), none⟩])
  (.seq (.ops [⟨(some 27), .mv (.t 1), none⟩,
    ⟨(some 28), .call (.c (.func (.func 12) [] [])) [(.t 27)], none⟩,
    ⟨(some 26), .mv (.t 28), none⟩,
    ⟨(some 29), .extract (.t 26) 0, none⟩,
    ⟨(some 30), .extract (.t 26) 1, none⟩,
    ⟨(some 10), .alloc 38 [(.int .i64 0), (.int .i64 0), (.str []), (.slice .nil [])], none⟩,
    ⟨none, .store 4 (.t 10) (.t 29), none⟩,
    ⟨(some 11), .mv (.t 30), none⟩])
  (.seq (.ops [⟨(some 31), .mv (.t 0), none⟩,
    ⟨(some 32), .call (.c (.func (.func 13) [] [])) [(.t 31)], none⟩,
    ⟨(some 12), .alloc 43 [(.int .i64 0), (.int .i64 0), (.str []), (.slice .nil []), (.int .i64 0)], none⟩,
    ⟨none, .store 5 (.t 12) (.t 32), none⟩])
  (.seq (.ops [⟨(some 33), .mv (.t 1), none⟩,
    ⟨(some 34), .call (.c (.func (.func 14) [] [])) [(.t 33)], none⟩,
    ⟨(some 13), .alloc 43 [(.int .i64 0), (.int .i64 0), (.str []), (.slice .nil []), (.int .i64 0)], none⟩,
    ⟨none, .store 5 (.t 13) (.t 34), none⟩])
  (.seq (.ops [⟨(some 36), .load true 4 (.t 5), none⟩,
    ⟨(some 37), .call (.c (.func (.func 15) [] [])) [(.t 36)], none⟩,
    ⟨(some 35), .mv (.t 37), none⟩,
    ⟨(some 38), .extract (.t 35) 0, none⟩,
    ⟨(some 39), .extract (.t 35) 1, none⟩,
    ⟨(some 14), .mv (.t 38), none⟩,
    ⟨(some 15), .mv (.t 39), none⟩])
  (.seq (.ops [⟨(some 41), .load true 4 (.t 5), none⟩,
    ⟨(some 42), .call (.c (.func (.func 16) [] [])) [(.t 41)], none⟩,
    ⟨(some 40), .mv (.t 42), none⟩,
    ⟨(some 43), .extract (.t 40) 0, none⟩,
    ⟨(some 44), .extract (.t 40) 1, none⟩,
    ⟨(some 16), .mv (.t 43), none⟩,
    ⟨(some 17), .mv (.t 44), none⟩])
  (.seq (.ops [⟨(some 45), .load true 4 (.t 5), none⟩,
    ⟨(some 46), .call (.c (.func (.func 17) [] [])) [(.t 45)], none⟩,
    ⟨(some 18), .alloc 51 [(.int .i64 0), (.bool false)], none⟩,
    ⟨none, .store 2 (.t 18) (.t 46), none⟩])
  (.seq (.ops [⟨(some 47), .load true 4 (.t 5), none⟩,
    ⟨(some 48), .call (.c (.func (.func 18) [] [])) [(.t 47)], none⟩,
    ⟨(some 19), .alloc 54 [(.slice .nil []), (.bool false)], none⟩,
    ⟨none, .store 2 (.t 19) (.t 48), none⟩])
  (.seq (.ops [⟨(some 49), .mv (.t 7), none⟩,
    ⟨(some 50), .mv (.t 49), none⟩,
    ⟨(some 51), .mv (.t 9), (some (some 50, true))⟩,
    ⟨(some 52), .fieldAddr 4 (.t 12), (some (some 50, true))⟩,
    ⟨(some 53), .load false 1 (.t 52), (some (some 50, true))⟩,
    ⟨(some 54), .binI .eql 29 (.tmp 51) (.tmp 53) (.t 51) (.t 53), (some (some 50, true))⟩,
    ⟨(some 55), .pick (.t 50) (.t 54) (.c (.bool false)), none⟩,
    ⟨(some 56), .mv (.t 55), none⟩,
    ⟨(some 57), .mv (.t 11), (some (some 56, true))⟩,
    ⟨(some 58), .fieldAddr 4 (.t 13), (some (some 56, true))⟩,
    ⟨(some 59), .load false 1 (.t 58), (some (some 56, true))⟩,
    ⟨(some 60), .binI .eql 29 (.tmp 57) (.tmp 59) (.t 57) (.t 59), (some (some 56, true))⟩,
    ⟨(some 61), .pick (.t 56) (.t 60) (.c (.bool false)), none⟩,
    ⟨(some 62), .mv (.t 61), none⟩,
    ⟨(some 63), .load true 4 (.t 8), (some (some 62, true))⟩,
    ⟨(some 64), .fieldAddr 0 (.t 12), (some (some 62, true))⟩,
    ⟨(some 65), .load true 4 (.t 64), (some (some 62, true))⟩,
    ⟨(some 66), .call (.c (.func (.func 19) [] [])) [(.t 63), (.t 65)], (some (some 62, true))⟩,
    ⟨(some 67), .pick (.t 62) (.t 66) (.c (.bool false)), none⟩,
    ⟨(some 68), .mv (.t 67), none⟩,
    ⟨(some 69), .load true 4 (.t 10), (some (some 68, true))⟩,
    ⟨(some 70), .fieldAddr 0 (.t 13), (some (some 68, true))⟩,
    ⟨(some 71), .load true 4 (.t 70), (some (some 68, true))⟩,
    ⟨(some 72), .call (.c (.func (.func 19) [] [])) [(.t 69), (.t 71)], (some (some 68, true))⟩,
    ⟨(some 73), .pick (.t 68) (.t 72) (.c (.bool false)), none⟩,
    ⟨(some 74), .mv (.t 73), none⟩,
    ⟨(some 75), .mv (.t 14), (some (some 74, true))⟩,
    ⟨(some 76), .fieldAddr 0 (.t 18), (some (some 74, true))⟩,
    ⟨(some 77), .load false 1 (.t 76), (some (some 74, true))⟩,
    ⟨(some 78), .binI .eql 3 (.tmp 75) (.tmp 77) (.t 75) (.t 77), (some (some 74, true))⟩,
    ⟨(some 79), .pick (.t 74) (.t 78) (.c (.bool false)), none⟩,
    ⟨(some 80), .mv (.t 79), none⟩,
    ⟨(some 81), .mv (.t 15), (some (some 80, true))⟩,
    ⟨(some 82), .fieldAddr 1 (.t 18), (some (some 80, true))⟩,
    ⟨(some 83), .load false 1 (.t 82), (some (some 80, true))⟩,
    ⟨(some 84), .gen { dst := some 84, op := .binOp .eql 4 (.tmp 81) (.tmp 83) 4, type := 0, pos := "", after := #[], guard := none }, (some (some 80, true))⟩,
    ⟨(some 85), .pick (.t 80) (.t 84) (.c (.bool false)), none⟩,
    ⟨(some 86), .mv (.t 85), none⟩,
    ⟨(some 87), .mv (.t 17), (some (some 86, true))⟩,
    ⟨(some 88), .fieldAddr 1 (.t 19), (some (some 86, true))⟩,
    ⟨(some 89), .load false 1 (.t 88), (some (some 86, true))⟩,
    ⟨(some 90), .gen { dst := some 90, op := .binOp .eql 4 (.tmp 87) (.tmp 89) 4, type := 0, pos := "", after := #[], guard := none }, (some (some 86, true))⟩,
    ⟨(some 91), .pick (.t 86) (.t 90) (.c (.bool false)), none⟩,
    ⟨(some 92), .mv (.t 91), none⟩,
    ⟨(some 93), .mv (.t 16), (some (some 92, true))⟩,
    ⟨(some 94), .fieldAddr 0 (.t 19), (some (some 92, true))⟩,
    ⟨(some 95), .load false 1 (.t 94), (some (some 92, true))⟩,
    ⟨(some 96), .call (.c (.func (.func 10) [] [])) [(.t 93), (.t 95)], (some (some 92, true))⟩,
    ⟨(some 97), .pick (.t 92) (.t 96) (.c (.bool false)), none⟩,
    ⟨(some 6), .mv (.t 97), none⟩])
  .ret)))))))))))
theorem code4 : codeOf C 4 F4 = x4 := by kernel_rfl
noncomputable def b5 : Code := Tryz.f5.body.getD .skip
noncomputable def F5 : FI := ⟨103, [.tmp 6], b5⟩
theorem fn5 : C.fn 5 = some F5 := by kernel_rfl
noncomputable def x5 : XC :=
  (.seq (.ops [⟨(some 5), .box 38 (.t 2), none⟩,
    ⟨(some 6), .mv (.c (.bool false)), none⟩])
  (.seq (.ops [⟨(some 24), .call (.c (.func (.func 6) [] [])) [], none⟩,
    ⟨(some 7), .mv (.t 24), none⟩])
  (.seq (.ops [⟨(some 26), .mv (.t 0), none⟩,
    ⟨(some 27), .call (.c (.func (.func 11) [] [])) [(.t 26)], none⟩,
    ⟨(some 25), .mv (.t 27), none⟩,
    ⟨(some 28), .extract (.t 25) 0, none⟩,
    ⟨(some 29), .extract (.t 25) 1, none⟩,
    ⟨(some 8), .alloc 38 [(.int .i64 0), (.int .i64 0), (.str []), (.slice .nil [])], none⟩,
    ⟨none, .store 4 (.t 8) (.t 28), none⟩,
    ⟨(some 9), .mv (.t 29), none⟩])
  (.seq (.ops [⟨(some 31), .mv (.t 1), none⟩,
    ⟨(some 32), .call (.c (.func (.func 12) [] [])) [(.t 31)], none⟩,
    ⟨(some 30), .mv (.t 32), none⟩,
    ⟨(some 33), .extract (.t 30) 0, none⟩,
    ⟨(some 34), .extract (.t 30) 1, none⟩,
    ⟨(some 10), .alloc 38 [(.int .i64 0), (.int .i64 0), (.str []), (.slice .nil [])], none⟩,
    ⟨none, .store 4 (.t 10) (.t 33), none⟩,
    ⟨(some 11), .mv (.t 34), none⟩])
  (.seq (.seq (.ops [⟨(some 35), .mv (.t 9), none⟩,
    ⟨(some 36), .binI .eql 29 (.tmp 35) (.const (.int .i64 0)) (.t 35) (.c (.int .i64 0)), none⟩])
  (.cond (.t 36)
    (.seq (.ops [⟨(some 38), .load true 4 (.t 8), none⟩,
      ⟨(some 39), .call (.c (.func (.func 15) [] [])) [(.t 38)], none⟩,
      ⟨(some 37), .mv (.t 39), none⟩,
      ⟨(some 40), .extract (.t 37) 0, none⟩,
      ⟨(some 41), .extract (.t 37) 1, none⟩,
      ⟨(some 12), .mv (.t 40), none⟩,
      ⟨(some 13), .mv (.t 41), none⟩])
    (.seq (.ops [⟨(some 42), .mv (.t 13), none⟩,
      ⟨(some 43), .un .not (.t 42), none⟩,
      ⟨(some 44), .mv (.t 43), none⟩,
      ⟨(some 45), .mv (.t 12), (some (some 44, false))⟩,
      ⟨(some 46), .mv (.t 0), (some (some 44, false))⟩,
      ⟨(some 47), .binI .neq 3 (.tmp 45) (.tmp 46) (.t 45) (.t 46), (some (some 44, false))⟩,
      ⟨(some 48), .pick (.t 44) (.c (.bool true)) (.t 47), none⟩])
    (.cond (.t 48)
      (.seq (.ops [⟨(some 6), .mv (.c (.bool false)), none⟩])
      .ret)
      .skip)))
    .skip))
  (.seq (.seq (.ops [⟨(some 49), .mv (.t 11), none⟩,
    ⟨(some 50), .binI .eql 29 (.tmp 49) (.const (.int .i64 0)) (.t 49) (.c (.int .i64 0)), none⟩])
  (.cond (.t 50)
    (.seq (.ops [⟨(some 52), .load true 4 (.t 10), none⟩,
      ⟨(some 53), .call (.c (.func (.func 16) [] [])) [(.t 52)], none⟩,
      ⟨(some 51), .mv (.t 53), none⟩,
      ⟨(some 54), .extract (.t 51) 0, none⟩,
      ⟨(some 55), .extract (.t 51) 1, none⟩,
      ⟨(some 14), .mv (.t 54), none⟩,
      ⟨(some 15), .mv (.t 55), none⟩])
    (.seq (.ops [⟨(some 56), .mv (.t 15), none⟩,
      ⟨(some 57), .un .not (.t 56), none⟩,
      ⟨(some 58), .mv (.t 57), none⟩,
      ⟨(some 59), .mv (.t 14), (some (some 58, false))⟩,
      ⟨(some 60), .mv (.t 1), (some (some 58, false))⟩,
      ⟨(some 61), .call (.c (.func (.func 10) [] [])) [(.t 59), (.t 60)], (some (some 58, false))⟩,
      ⟨(some 62), .un .not (.t 61), (some (some 58, false))⟩,
      ⟨(some 63), .pick (.t 58) (.c (.bool true)) (.t 62), none⟩])
    (.cond (.t 63)
      (.seq (.ops [⟨(some 6), .mv (.c (.bool false)), none⟩])
      .ret)
      .skip)))
    .skip))
  (.seq (.ops [⟨(some 65), .load true 4 (.t 5), none⟩,
    ⟨(some 66), .call (.c (.func (.func 15) [] [])) [(.t 65)], none⟩,
    ⟨(some 64), .mv (.t 66), none⟩,
    ⟨(some 67), .extract (.t 64) 0, none⟩,
    ⟨(some 68), .extract (.t 64) 1, none⟩,
    ⟨(some 16), .mv (.t 67), none⟩,
    ⟨(some 17), .mv (.t 68), none⟩])
  (.seq (.seq (.ops [⟨(some 69), .mv (.t 17), none⟩])
  (.cond (.t 69)
    (.seq (.ops [⟨(some 71), .mv (.t 16), none⟩,
      ⟨(some 72), .call (.c (.func (.func 11) [] [])) [(.t 71)], none⟩,
      ⟨(some 70), .mv (.t 72), none⟩,
      ⟨(some 73), .extract (.t 70) 0, none⟩,
      ⟨(some 74), .extract (.t 70) 1, none⟩,
      ⟨(some 18), .alloc 38 [(.int .i64 0), (.int .i64 0), (.str []), (.slice .nil [])], none⟩,
      ⟨none, .store 4 (.t 18) (.t 73), none⟩,
      ⟨(some 19), .mv (.t 74), none⟩])
    (.seq (.ops [⟨(some 75), .mv (.t 19), none⟩,
      ⟨(some 76), .binI .neq 29 (.tmp 75) (.const (.int .i64 0)) (.t 75) (.c (.int .i64 0)), none⟩,
      ⟨(some 77), .mv (.t 76), none⟩,
      ⟨(some 78), .load true 4 (.t 18), (some (some 77, false))⟩,
      ⟨(some 79), .load true 4 (.t 5), (some (some 77, false))⟩,
      ⟨(some 80), .call (.c (.func (.func 19) [] [])) [(.t 78), (.t 79)], (some (some 77, false))⟩,
      ⟨(some 81), .un .not (.t 80), (some (some 77, false))⟩,
      ⟨(some 82), .pick (.t 77) (.c (.bool true)) (.t 81), none⟩])
    (.cond (.t 82)
      (.seq (.ops [⟨(some 6), .mv (.c (.bool false)), none⟩])
      .ret)
      .skip)))
    .skip))
  (.seq (.ops [⟨(some 84), .load true 4 (.t 5), none⟩,
    ⟨(some 85), .call (.c (.func (.func 16) [] [])) [(.t 84)], none⟩,
    ⟨(some 83), .mv (.t 85), none⟩,
    ⟨(some 86), .extract (.t 83) 0, none⟩,
    ⟨(some 87), .extract (.t 83) 1, none⟩,
    ⟨(some 20), .mv (.t 86), none⟩,
    ⟨(some 21), .mv (.t 87), none⟩])
  (.seq (.seq (.ops [⟨(some 88), .mv (.t 21), none⟩])
  (.cond (.t 88)
    (.seq (.ops [⟨(some 90), .mv (.t 20), none⟩,
      ⟨(some 91), .call (.c (.func (.func 12) [] [])) [(.t 90)], none⟩,
      ⟨(some 89), .mv (.t 91), none⟩,
      ⟨(some 92), .extract (.t 89) 0, none⟩,
      ⟨(some 93), .extract (.t 89) 1, none⟩,
      ⟨(some 22), .alloc 38 [(.int .i64 0), (.int .i64 0), (.str []), (.slice .nil [])], none⟩,
      ⟨none, .store 4 (.t 22) (.t 92), none⟩,
      ⟨(some 23), .mv (.t 93), none⟩])
    (.seq (.ops [⟨(some 94), .mv (.t 23), none⟩,
      ⟨(some 95), .binI .neq 29 (.tmp 94) (.const (.int .i64 0)) (.t 94) (.c (.int .i64 0)), none⟩,
      ⟨(some 96), .mv (.t 95), none⟩,
      ⟨(some 97), .load true 4 (.t 22), (some (some 96, false))⟩,
      ⟨(some 98), .load true 4 (.t 5), (some (some 96, false))⟩,
      ⟨(some 99), .call (.c (.func (.func 19) [] [])) [(.t 97), (.t 98)], (some (some 96, false))⟩,
      ⟨(some 100), .un .not (.t 99), (some (some 96, false))⟩,
      ⟨(some 101), .pick (.t 96) (.c (.bool true)) (.t 100), none⟩])
    (.cond (.t 101)
      (.seq (.ops [⟨(some 6), .mv (.c (.bool false)), none⟩])
      .ret)
      .skip)))
    .skip))
  (.seq (.ops [⟨(some 102), .mv (.t 7), none⟩,
    ⟨(some 6), .mv (.t 102), none⟩])
  .ret)))))))))))
theorem code5 : codeOf C 5 F5 = x5 := by kernel_rfl
noncomputable def b10 : Code := Tryz.f10.body.getD .skip
noncomputable def F10 : FI := ⟨26, [.tmp 4], b10⟩
theorem fn10 : C.fn 10 = some F10 := by kernel_rfl
noncomputable def d10_0 : Array Oper := (drawsOf b10).getD 0 #[]
theorem dr10_0 : drawable d10_0 = true := by kernel_rfl
noncomputable def l10_0 : XC :=
  (.seq (.seq (.ops [⟨(some 11), .mv (.t 5), none⟩,
    ⟨(some 12), .mv (.t 0), none⟩,
    ⟨(some 13), .lenS (.t 12), none⟩,
    ⟨(some 14), .binI .lss 3 (.tmp 11) (.tmp 13) (.t 11) (.t 13), none⟩])
  (.cond (.t 14)
    .skip
    (.exit 0)))
  (.seq (.block 1
    (.seq (.draw d10_0 [⟨(some 17), .mv (.t 0), none⟩,
      ⟨(some 18), .mv (.t 5), none⟩,
      ⟨(some 19), .idxS 1 (.t 17) (.t 18), none⟩,
      ⟨(some 20), .load false 1 (.t 19), none⟩,
      ⟨(some 21), .mv (.t 1), none⟩,
      ⟨(some 22), .mv (.t 5), none⟩,
      ⟨(some 23), .idxS 1 (.t 21) (.t 22), none⟩,
      ⟨(some 24), .load false 1 (.t 23), none⟩,
      ⟨(some 25), .binI .neq 3 (.tmp 20) (.tmp 24) (.t 20) (.t 24), none⟩])
    (.cond (.t 25)
      (.seq (.ops [⟨(some 4), .mv (.c (.bool false)), none⟩])
      .ret)
      .skip)))
  (.ops [⟨(some 15), .mv (.t 5), none⟩,
    ⟨(some 16), .binI .add 3 (.tmp 15) (.const (.int .i64 1)) (.t 15) (.c (.int .i64 1)), none⟩,
    ⟨(some 5), .mv (.t 16), none⟩])))
noncomputable def x10 : XC :=
  (.seq (.ops [⟨(some 4), .mv (.c (.bool false)), none⟩])
  (.seq (.seq (.ops [⟨(some 6), .mv (.t 0), none⟩,
    ⟨(some 7), .lenS (.t 6), none⟩,
    ⟨(some 8), .mv (.t 1), none⟩,
    ⟨(some 9), .lenS (.t 8), none⟩,
    ⟨(some 10), .binI .neq 3 (.tmp 7) (.tmp 9) (.t 7) (.t 9), none⟩])
  (.cond (.t 10)
    (.seq (.ops [⟨(some 4), .mv (.c (.bool false)), none⟩])
    .ret)
    .skip))
  (.seq (.seq (.ops [⟨(some 5), .mv (.c (.int .i64 0)), none⟩])
  (.block 0
    (.loop l10_0)))
  (.seq (.ops [⟨(some 4), .mv (.c (.bool true)), none⟩])
  .ret))))
theorem code10 : codeOf C 10 F10 = x10 := by kernel_rfl
noncomputable def b11 : Code := Tryz.f11.body.getD .skip
noncomputable def F11 : FI := ⟨10, [.cell 2 38, .tmp 3], b11⟩
theorem fn11 : C.fn 11 = some F11 := by kernel_rfl
noncomputable def x11 : XC :=
  (.seq (.ops [⟨(some 2), .alloc 38 [(.int .i64 0), (.int .i64 0), (.str []), (.slice .nil [])], none⟩,
    ⟨(some 3), .mv (.c (.int .i64 0)), none⟩])
  (.seq (.seq (.ops [⟨(some 4), .mv (.t 0), none⟩,
    ⟨(some 5), .call (.c (.func (.func 30) [] [])) [(.t 4)], none⟩,
    ⟨(some 6), .un .not (.t 5), none⟩])
  (.cond (.t 6)
    (.seq (.ops [⟨(some 7), .build [(.int .i64 0), (.int .i64 0), (.str []), (.slice .nil [])] [(0, 1), (1, 1), (2, 1), (3, 1)] [], none⟩,
      ⟨none, .store 4 (.t 2) (.t 7), none⟩,
      ⟨(some 3), .mv (.c (.int .i64 1)), none⟩])
    .ret)
    .skip))
  (.seq (.ops [⟨(some 8), .mv (.t 0), none⟩,
    ⟨(some 9), .call (.c (.func (.func 31) [] [])) [(.t 8)], none⟩,
    ⟨none, .store 4 (.t 2) (.t 9), none⟩,
    ⟨(some 3), .mv (.c (.int .i64 0)), none⟩])
  .ret)))
theorem code11 : codeOf C 11 F11 = x11 := by kernel_rfl
noncomputable def b12 : Code := Tryz.f12.body.getD .skip
noncomputable def F12 : FI := ⟨10, [.cell 2 38, .tmp 3], b12⟩
theorem fn12 : C.fn 12 = some F12 := by kernel_rfl
noncomputable def x12 : XC :=
  (.seq (.ops [⟨(some 2), .alloc 38 [(.int .i64 0), (.int .i64 0), (.str []), (.slice .nil [])], none⟩,
    ⟨(some 3), .mv (.c (.int .i64 0)), none⟩])
  (.seq (.seq (.ops [⟨(some 4), .mv (.t 0), none⟩,
    ⟨(some 5), .call (.c (.func (.func 32) [] [])) [(.t 4)], none⟩,
    ⟨(some 6), .un .not (.t 5), none⟩])
  (.cond (.t 6)
    (.seq (.ops [⟨(some 7), .build [(.int .i64 0), (.int .i64 0), (.str []), (.slice .nil [])] [(0, 1), (1, 1), (2, 1), (3, 1)] [], none⟩,
      ⟨none, .store 4 (.t 2) (.t 7), none⟩,
      ⟨(some 3), .mv (.c (.int .i64 1)), none⟩])
    .ret)
    .skip))
  (.seq (.ops [⟨(some 8), .mv (.t 0), none⟩,
    ⟨(some 9), .call (.c (.func (.func 33) [] [])) [(.t 8)], none⟩,
    ⟨none, .store 4 (.t 2) (.t 9), none⟩,
    ⟨(some 3), .mv (.c (.int .i64 0)), none⟩])
  .ret)))
theorem code12 : codeOf C 12 F12 = x12 := by kernel_rfl
noncomputable def b13 : Code := Tryz.f13.body.getD .skip
noncomputable def F13 : FI := ⟨23, [.cell 2 43], b13⟩
theorem fn13 : C.fn 13 = some F13 := by kernel_rfl
noncomputable def l13_0 : XC :=
  (.seq (.seq (.ops [⟨(some 13), .mv (.t 4), none⟩,
    ⟨(some 14), .mv (.t 0), none⟩,
    ⟨(some 15), .binI .lss 3 (.tmp 13) (.tmp 14) (.t 13) (.t 14), none⟩])
  (.cond (.t 15)
    .skip
    (.exit 0)))
  (.seq (.block 1
    (.ops [⟨(some 18), .load true 4 (.t 3), none⟩,
      ⟨(some 19), .buildS false 38 4 1 [(0, (.t 18))], none⟩,
      ⟨(some 20), .call (.c (.func (.func 34) [] [])) [(.c (.str [115, 64, 110, 97, 116])), (.t 19)], none⟩,
      ⟨none, .store 4 (.t 3) (.t 20), none⟩]))
  (.ops [⟨(some 16), .mv (.t 4), none⟩,
    ⟨(some 17), .binI .add 3 (.tmp 16) (.const (.int .i64 1)) (.t 16) (.c (.int .i64 1)), none⟩,
    ⟨(some 4), .mv (.t 17), none⟩])))
noncomputable def x13 : XC :=
  (.seq (.ops [⟨(some 2), .alloc 43 [(.int .i64 0), (.int .i64 0), (.str []), (.slice .nil []), (.int .i64 0)], none⟩])
  (.seq (.seq (.ops [⟨(some 5), .mv (.t 0), none⟩,
    ⟨(some 6), .binI .lss 3 (.tmp 5) (.const (.int .i64 0)) (.t 5) (.c (.int .i64 0)), none⟩,
    ⟨(some 7), .mv (.t 6), none⟩,
    ⟨(some 8), .mv (.t 0), (some (some 7, false))⟩,
    ⟨(some 9), .binI .gtr 3 (.tmp 8) (.const (.int .i64 40)) (.t 8) (.c (.int .i64 40)), (some (some 7, false))⟩,
    ⟨(some 10), .pick (.t 7) (.c (.bool true)) (.t 9), none⟩])
  (.cond (.t 10)
    (.seq (.ops [⟨(some 11), .build [(.int .i64 0), (.int .i64 0), (.str []), (.slice .nil []), (.int .i64 0)] [(0, 4), (4, 1)] [(1, (.c (.int .i64 1)))], none⟩,
      ⟨none, .store 5 (.t 2) (.t 11), none⟩])
    .ret)
    .skip))
  (.seq (.ops [⟨(some 12), .call (.c (.func (.func 34) [] [])) [(.c (.str [122, 64, 110, 97, 116])), (.c (.slice .nil []))], none⟩,
    ⟨(some 3), .alloc 38 [(.int .i64 0), (.int .i64 0), (.str []), (.slice .nil [])], none⟩,
    ⟨none, .store 4 (.t 3) (.t 12), none⟩])
  (.seq (.seq (.ops [⟨(some 4), .mv (.c (.int .i64 0)), none⟩])
  (.block 0
    (.loop l13_0)))
  (.seq (.ops [⟨(some 21), .load true 4 (.t 3), none⟩,
    ⟨(some 22), .build [(.int .i64 0), (.int .i64 0), (.str []), (.slice .nil []), (.int .i64 0)] [(0, 4), (4, 1)] [(0, (.t 21))], none⟩,
    ⟨none, .store 5 (.t 2) (.t 22), none⟩])
  .ret)))))
theorem code13 : codeOf C 13 F13 = x13 := by kernel_rfl
noncomputable def b14 : Code := Tryz.f14.body.getD .skip
noncomputable def F14 : FI := ⟨34, [.cell 2 43], b14⟩
theorem fn14 : C.fn 14 = some F14 := by kernel_rfl
noncomputable def l14_0 : XC :=
  (.seq (.seq (.ops [⟨(some 14), .mv (.t 4), none⟩,
    ⟨(some 15), .binI .geq 3 (.tmp 14) (.const (.int .i64 0)) (.t 14) (.c (.int .i64 0)), none⟩])
  (.cond (.t 15)
    .skip
    (.exit 0)))
  (.seq (.block 1
    (.seq (.ops [⟨(some 18), .mv (.t 0), none⟩,
      ⟨(some 19), .mv (.t 4), none⟩,
      ⟨(some 20), .idxS 1 (.t 18) (.t 19), none⟩,
      ⟨(some 21), .load false 1 (.t 20), none⟩,
      ⟨(some 22), .call (.c (.func (.func 13) [] [])) [(.t 21)], none⟩,
      ⟨(some 5), .alloc 43 [(.int .i64 0), (.int .i64 0), (.str []), (.slice .nil []), (.int .i64 0)], none⟩,
      ⟨none, .store 5 (.t 5) (.t 22), none⟩])
    (.seq (.seq (.ops [⟨(some 23), .fieldAddr 4 (.t 5), none⟩,
      ⟨(some 24), .load false 1 (.t 23), none⟩,
      ⟨(some 25), .binI .neq 29 (.tmp 24) (.const (.int .i64 0)) (.t 24) (.c (.int .i64 0)), none⟩])
    (.cond (.t 25)
      (.seq (.ops [⟨(some 26), .build [(.int .i64 0), (.int .i64 0), (.str []), (.slice .nil []), (.int .i64 0)] [(0, 4), (4, 1)] [(1, (.c (.int .i64 1)))], none⟩,
        ⟨none, .store 5 (.t 2) (.t 26), none⟩])
      .ret)
      .skip))
    (.ops [⟨(some 27), .fieldAddr 0 (.t 5), none⟩,
      ⟨(some 28), .load true 4 (.t 27), none⟩,
      ⟨(some 29), .load true 4 (.t 3), none⟩,
      ⟨(some 30), .buildS false 38 4 2 [(0, (.t 28)), (1, (.t 29))], none⟩,
      ⟨(some 31), .call (.c (.func (.func 34) [] [])) [(.c (.str [99, 111, 110, 115, 64, 108, 105, 115, 116])), (.t 30)], none⟩,
      ⟨none, .store 4 (.t 3) (.t 31), none⟩]))))
  (.ops [⟨(some 16), .mv (.t 4), none⟩,
    ⟨(some 17), .binI .sub 3 (.tmp 16) (.const (.int .i64 1)) (.t 16) (.c (.int .i64 1)), none⟩,
    ⟨(some 4), .mv (.t 17), none⟩])))
noncomputable def x14 : XC :=
  (.seq (.ops [⟨(some 2), .alloc 43 [(.int .i64 0), (.int .i64 0), (.str []), (.slice .nil []), (.int .i64 0)], none⟩])
  (.seq (.seq (.ops [⟨(some 6), .mv (.t 0), none⟩,
    ⟨(some 7), .lenS (.t 6), none⟩,
    ⟨(some 8), .binI .gtr 3 (.tmp 7) (.const (.int .i64 12)) (.t 7) (.c (.int .i64 12)), none⟩])
  (.cond (.t 8)
    (.seq (.ops [⟨(some 9), .build [(.int .i64 0), (.int .i64 0), (.str []), (.slice .nil []), (.int .i64 0)] [(0, 4), (4, 1)] [(1, (.c (.int .i64 1)))], none⟩,
      ⟨none, .store 5 (.t 2) (.t 9), none⟩])
    .ret)
    .skip))
  (.seq (.ops [⟨(some 10), .call (.c (.func (.func 34) [] [])) [(.c (.str [110, 105, 108, 64, 108, 105, 115, 116])), (.c (.slice .nil []))], none⟩,
    ⟨(some 3), .alloc 38 [(.int .i64 0), (.int .i64 0), (.str []), (.slice .nil [])], none⟩,
    ⟨none, .store 4 (.t 3) (.t 10), none⟩])
  (.seq (.seq (.ops [⟨(some 11), .mv (.t 0), none⟩,
    ⟨(some 12), .lenS (.t 11), none⟩,
    ⟨(some 13), .binI .sub 3 (.tmp 12) (.const (.int .i64 1)) (.t 12) (.c (.int .i64 1)), none⟩,
    ⟨(some 4), .mv (.t 13), none⟩])
  (.block 0
    (.loop l14_0)))
  (.seq (.ops [⟨(some 32), .load true 4 (.t 3), none⟩,
    ⟨(some 33), .build [(.int .i64 0), (.int .i64 0), (.str []), (.slice .nil []), (.int .i64 0)] [(0, 4), (4, 1)] [(0, (.t 32))], none⟩,
    ⟨none, .store 5 (.t 2) (.t 33), none⟩])
  .ret)))))
theorem code14 : codeOf C 14 F14 = x14 := by kernel_rfl
noncomputable def b15 : Code := Tryz.f15.body.getD .skip
noncomputable def F15 : FI := ⟨21, [.tmp 2, .tmp 3], b15⟩
theorem fn15 : C.fn 15 = some F15 := by kernel_rfl
noncomputable def l15_0 : XC :=
  (.seq (.seq (.ops [⟨(some 5), .load true 4 (.t 1), none⟩,
    ⟨(some 6), .call (.c (.func (.func 35) [] [])) [(.t 5), (.c (.str [115, 64, 110, 97, 116])), (.c (.int .i64 1))], none⟩,
    ⟨(some 7), .mv (.t 6), none⟩,
    ⟨(some 8), .mv (.t 4), (some (some 7, true))⟩,
    ⟨(some 9), .binI .lss 3 (.tmp 8) (.const (.int .i64 40)) (.t 8) (.c (.int .i64 40)), (some (some 7, true))⟩,
    ⟨(some 10), .pick (.t 7) (.t 9) (.c (.bool false)), none⟩])
  (.cond (.t 10)
    .skip
    (.exit 0)))
  (.block 1
    (.seq (.ops [⟨(some 11), .fieldAddr 3 (.t 1), none⟩,
      ⟨(some 12), .load false 1 (.t 11), none⟩,
      ⟨(some 13), .idxS 4 (.t 12) (.c (.int .i64 0)), none⟩,
      ⟨(some 14), .load true 4 (.t 13), none⟩,
      ⟨none, .store 4 (.t 1) (.t 14), none⟩])
    (.ops [⟨(some 15), .mv (.t 4), none⟩,
      ⟨(some 16), .binI .add 3 (.tmp 15) (.const (.int .i64 1)) (.t 15) (.c (.int .i64 1)), none⟩,
      ⟨(some 4), .mv (.t 16), none⟩]))))
noncomputable def x15 : XC :=
  (.seq (.ops [⟨(some 1), .box 38 (.t 0), none⟩,
    ⟨(some 2), .mv (.c (.int .i64 0)), none⟩,
    ⟨(some 3), .mv (.c (.bool false)), none⟩])
  (.seq (.ops [⟨(some 4), .mv (.c (.int .i64 0)), none⟩])
  (.seq (.block 0
    (.loop l15_0))
  (.seq (.seq (.ops [⟨(some 17), .load true 4 (.t 1), none⟩,
    ⟨(some 18), .call (.c (.func (.func 35) [] [])) [(.t 17), (.c (.str [122, 64, 110, 97, 116])), (.c (.int .i64 0))], none⟩,
    ⟨(some 19), .un .not (.t 18), none⟩])
  (.cond (.t 19)
    (.seq (.ops [⟨(some 2), .mv (.c (.int .i64 0)), none⟩,
      ⟨(some 3), .mv (.c (.bool false)), none⟩])
    .ret)
    .skip))
  (.seq (.ops [⟨(some 20), .mv (.t 4), none⟩,
    ⟨(some 2), .mv (.t 20), none⟩,
    ⟨(some 3), .mv (.c (.bool true)), none⟩])
  .ret)))))
theorem code15 : codeOf C 15 F15 = x15 := by kernel_rfl
noncomputable def b16 : Code := Tryz.f16.body.getD .skip
noncomputable def F16 : FI := ⟨36, [.tmp 2, .tmp 3], b16⟩
theorem fn16 : C.fn 16 = some F16 := by kernel_rfl
noncomputable def l16_0 : XC :=
  (.seq (.seq (.ops [⟨(some 7), .load true 4 (.t 1), none⟩,
    ⟨(some 8), .call (.c (.func (.func 35) [] [])) [(.t 7), (.c (.str [99, 111, 110, 115, 64, 108, 105, 115, 116])), (.c (.int .i64 2))], none⟩,
    ⟨(some 9), .mv (.t 8), none⟩,
    ⟨(some 10), .mv (.t 4), (some (some 9, true))⟩,
    ⟨(some 11), .lenS (.t 10), (some (some 9, true))⟩,
    ⟨(some 12), .binI .lss 3 (.tmp 11) (.const (.int .i64 12)) (.t 11) (.c (.int .i64 12)), (some (some 9, true))⟩,
    ⟨(some 13), .pick (.t 9) (.t 12) (.c (.bool false)), none⟩])
  (.cond (.t 13)
    .skip
    (.exit 0)))
  (.block 1
    (.seq (.ops [⟨(some 15), .fieldAddr 3 (.t 1), none⟩,
      ⟨(some 16), .load false 1 (.t 15), none⟩,
      ⟨(some 17), .idxS 4 (.t 16) (.c (.int .i64 0)), none⟩,
      ⟨(some 18), .load true 4 (.t 17), none⟩,
      ⟨(some 19), .call (.c (.func (.func 15) [] [])) [(.t 18)], none⟩,
      ⟨(some 14), .mv (.t 19), none⟩,
      ⟨(some 20), .extract (.t 14) 0, none⟩,
      ⟨(some 21), .extract (.t 14) 1, none⟩,
      ⟨(some 5), .mv (.t 20), none⟩,
      ⟨(some 6), .mv (.t 21), none⟩])
    (.seq (.seq (.ops [⟨(some 22), .mv (.t 6), none⟩,
      ⟨(some 23), .un .not (.t 22), none⟩])
    (.cond (.t 23)
      (.seq (.ops [⟨(some 2), .mv (.c (.slice .nil [])), none⟩,
        ⟨(some 3), .mv (.c (.bool false)), none⟩])
      .ret)
      .skip))
    (.seq (.ops [⟨(some 24), .mv (.t 4), none⟩,
      ⟨(some 25), .mv (.t 5), none⟩,
      ⟨(some 26), .buildS false 3 1 1 [(0, (.t 25))], none⟩,
      ⟨(some 27), .app false 3 T3 (.t 24) (.t 26), none⟩,
      ⟨(some 4), .mv (.t 27), none⟩])
    (.ops [⟨(some 28), .fieldAddr 3 (.t 1), none⟩,
      ⟨(some 29), .load false 1 (.t 28), none⟩,
      ⟨(some 30), .idxS 4 (.t 29) (.c (.int .i64 1)), none⟩,
      ⟨(some 31), .load true 4 (.t 30), none⟩,
      ⟨none, .store 4 (.t 1) (.t 31), none⟩]))))))
noncomputable def x16 : XC :=
  (.seq (.ops [⟨(some 1), .box 38 (.t 0), none⟩,
    ⟨(some 2), .mv (.c (.slice .nil [])), none⟩,
    ⟨(some 3), .mv (.c (.bool false)), none⟩])
  (.seq (.ops [⟨(some 4), .mv (.c (.slice .nil [])), none⟩])
  (.seq (.block 0
    (.loop l16_0))
  (.seq (.seq (.ops [⟨(some 32), .load true 4 (.t 1), none⟩,
    ⟨(some 33), .call (.c (.func (.func 35) [] [])) [(.t 32), (.c (.str [110, 105, 108, 64, 108, 105, 115, 116])), (.c (.int .i64 0))], none⟩,
    ⟨(some 34), .un .not (.t 33), none⟩])
  (.cond (.t 34)
    (.seq (.ops [⟨(some 2), .mv (.c (.slice .nil [])), none⟩,
      ⟨(some 3), .mv (.c (.bool false)), none⟩])
    .ret)
    .skip))
  (.seq (.ops [⟨(some 35), .mv (.t 4), none⟩,
    ⟨(some 2), .mv (.t 35), none⟩,
    ⟨(some 3), .mv (.c (.bool true)), none⟩])
  .ret)))))
theorem code16 : codeOf C 16 F16 = x16 := by kernel_rfl
noncomputable def b17 : Code := Tryz.f17.body.getD .skip
noncomputable def F17 : FI := ⟨22, [.cell 2 51], b17⟩
theorem fn17 : C.fn 17 = some F17 := by kernel_rfl
noncomputable def l17_0 : XC :=
  (.seq (.seq (.ops [⟨(some 4), .load true 4 (.t 1), none⟩,
    ⟨(some 5), .call (.c (.func (.func 36) [] [])) [(.t 4), (.c (.str [115, 64, 110, 97, 116])), (.c (.int .i64 1))], none⟩,
    ⟨(some 6), .mv (.t 5), none⟩,
    ⟨(some 7), .mv (.t 3), (some (some 6, true))⟩,
    ⟨(some 8), .binI .lss 3 (.tmp 7) (.const (.int .i64 40)) (.t 7) (.c (.int .i64 40)), (some (some 6, true))⟩,
    ⟨(some 9), .pick (.t 6) (.t 8) (.c (.bool false)), none⟩])
  (.cond (.t 9)
    .skip
    (.exit 0)))
  (.block 1
    (.seq (.ops [⟨(some 10), .mv (.t 3), none⟩,
      ⟨(some 11), .binI .add 3 (.tmp 10) (.const (.int .i64 1)) (.t 10) (.c (.int .i64 1)), none⟩,
      ⟨(some 3), .mv (.t 11), none⟩])
    (.ops [⟨(some 12), .fieldAddr 3 (.t 1), none⟩,
      ⟨(some 13), .load false 1 (.t 12), none⟩,
      ⟨(some 14), .idxS 4 (.t 13) (.c (.int .i64 0)), none⟩,
      ⟨(some 15), .load true 4 (.t 14), none⟩,
      ⟨none, .store 4 (.t 1) (.t 15), none⟩]))))
noncomputable def x17 : XC :=
  (.seq (.ops [⟨(some 1), .box 38 (.t 0), none⟩,
    ⟨(some 2), .alloc 51 [(.int .i64 0), (.bool false)], none⟩])
  (.seq (.ops [⟨(some 3), .mv (.c (.int .i64 0)), none⟩])
  (.seq (.block 0
    (.loop l17_0))
  (.seq (.seq (.ops [⟨(some 16), .load true 4 (.t 1), none⟩,
    ⟨(some 17), .call (.c (.func (.func 36) [] [])) [(.t 16), (.c (.str [122, 64, 110, 97, 116])), (.c (.int .i64 0))], none⟩,
    ⟨(some 18), .un .not (.t 17), none⟩])
  (.cond (.t 18)
    (.seq (.ops [⟨(some 19), .build [(.int .i64 0), (.bool false)] [(0, 1), (1, 1)] [], none⟩,
      ⟨none, .store 2 (.t 2) (.t 19), none⟩])
    .ret)
    .skip))
  (.seq (.ops [⟨(some 20), .mv (.t 3), none⟩,
    ⟨(some 21), .build [(.int .i64 0), (.bool false)] [(0, 1), (1, 1)] [(0, (.t 20)), (1, (.c (.bool true)))], none⟩,
    ⟨none, .store 2 (.t 2) (.t 21), none⟩])
  .ret)))))
theorem code17 : codeOf C 17 F17 = x17 := by kernel_rfl
noncomputable def b18 : Code := Tryz.f18.body.getD .skip
noncomputable def F18 : FI := ⟨36, [.cell 2 54], b18⟩
theorem fn18 : C.fn 18 = some F18 := by kernel_rfl
noncomputable def l18_0 : XC :=
  (.seq (.seq (.ops [⟨(some 5), .load true 4 (.t 1), none⟩,
    ⟨(some 6), .call (.c (.func (.func 36) [] [])) [(.t 5), (.c (.str [99, 111, 110, 115, 64, 108, 105, 115, 116])), (.c (.int .i64 2))], none⟩,
    ⟨(some 7), .mv (.t 6), none⟩,
    ⟨(some 8), .mv (.t 3), (some (some 7, true))⟩,
    ⟨(some 9), .lenS (.t 8), (some (some 7, true))⟩,
    ⟨(some 10), .binI .lss 3 (.tmp 9) (.const (.int .i64 12)) (.t 9) (.c (.int .i64 12)), (some (some 7, true))⟩,
    ⟨(some 11), .pick (.t 7) (.t 10) (.c (.bool false)), none⟩])
  (.cond (.t 11)
    .skip
    (.exit 0)))
  (.block 1
    (.seq (.ops [⟨(some 12), .fieldAddr 3 (.t 1), none⟩,
      ⟨(some 13), .load false 1 (.t 12), none⟩,
      ⟨(some 14), .idxS 4 (.t 13) (.c (.int .i64 0)), none⟩,
      ⟨(some 15), .load true 4 (.t 14), none⟩,
      ⟨(some 16), .call (.c (.func (.func 17) [] [])) [(.t 15)], none⟩,
      ⟨(some 4), .alloc 51 [(.int .i64 0), (.bool false)], none⟩,
      ⟨none, .store 2 (.t 4) (.t 16), none⟩])
    (.seq (.seq (.ops [⟨(some 17), .fieldAddr 1 (.t 4), none⟩,
      ⟨(some 18), .load false 1 (.t 17), none⟩,
      ⟨(some 19), .un .not (.t 18), none⟩])
    (.cond (.t 19)
      (.seq (.ops [⟨(some 20), .build [(.slice .nil []), (.bool false)] [(0, 1), (1, 1)] [], none⟩,
        ⟨none, .store 2 (.t 2) (.t 20), none⟩])
      .ret)
      .skip))
    (.seq (.ops [⟨(some 21), .mv (.t 3), none⟩,
      ⟨(some 22), .fieldAddr 0 (.t 4), none⟩,
      ⟨(some 23), .load false 1 (.t 22), none⟩,
      ⟨(some 24), .buildS false 3 1 1 [(0, (.t 23))], none⟩,
      ⟨(some 25), .app false 3 T3 (.t 21) (.t 24), none⟩,
      ⟨(some 3), .mv (.t 25), none⟩])
    (.ops [⟨(some 26), .fieldAddr 3 (.t 1), none⟩,
      ⟨(some 27), .load false 1 (.t 26), none⟩,
      ⟨(some 28), .idxS 4 (.t 27) (.c (.int .i64 1)), none⟩,
      ⟨(some 29), .load true 4 (.t 28), none⟩,
      ⟨none, .store 4 (.t 1) (.t 29), none⟩]))))))
noncomputable def x18 : XC :=
  (.seq (.ops [⟨(some 1), .box 38 (.t 0), none⟩,
    ⟨(some 2), .alloc 54 [(.slice .nil []), (.bool false)], none⟩])
  (.seq (.ops [⟨(some 3), .mv (.c (.slice .nil [])), none⟩])
  (.seq (.block 0
    (.loop l18_0))
  (.seq (.seq (.ops [⟨(some 30), .load true 4 (.t 1), none⟩,
    ⟨(some 31), .call (.c (.func (.func 36) [] [])) [(.t 30), (.c (.str [110, 105, 108, 64, 108, 105, 115, 116])), (.c (.int .i64 0))], none⟩,
    ⟨(some 32), .un .not (.t 31), none⟩])
  (.cond (.t 32)
    (.seq (.ops [⟨(some 33), .build [(.slice .nil []), (.bool false)] [(0, 1), (1, 1)] [], none⟩,
      ⟨none, .store 2 (.t 2) (.t 33), none⟩])
    .ret)
    .skip))
  (.seq (.ops [⟨(some 34), .mv (.t 3), none⟩,
    ⟨(some 35), .build [(.slice .nil []), (.bool false)] [(0, 1), (1, 1)] [(0, (.t 34)), (1, (.c (.bool true)))], none⟩,
    ⟨none, .store 2 (.t 2) (.t 35), none⟩])
  .ret)))))
theorem code18 : codeOf C 18 F18 = x18 := by kernel_rfl
noncomputable def b19 : Code := Tryz.f19.body.getD .skip
noncomputable def F19 : FI := ⟨53, [.tmp 4], b19⟩
theorem fn19 : C.fn 19 = some F19 := by kernel_rfl
noncomputable def d19_0 : Array Oper := (drawsOf b19).getD 0 #[]
theorem dr19_0 : drawable d19_0 = true := by kernel_rfl
noncomputable def l19_0 : XC :=
  (.seq (.seq (.ops [⟨(some 34), .mv (.t 5), none⟩,
    ⟨(some 35), .fieldAddr 3 (.t 2), none⟩,
    ⟨(some 36), .load false 1 (.t 35), none⟩,
    ⟨(some 37), .lenS (.t 36), none⟩,
    ⟨(some 38), .binI .lss 3 (.tmp 34) (.tmp 37) (.t 34) (.t 37), none⟩])
  (.cond (.t 38)
    .skip
    (.exit 0)))
  (.seq (.block 1
    (.seq (.draw d19_0 [⟨(some 41), .fieldAddr 3 (.t 2), none⟩,
      ⟨(some 42), .load false 1 (.t 41), none⟩,
      ⟨(some 43), .mv (.t 5), none⟩,
      ⟨(some 44), .idxS 4 (.t 42) (.t 43), none⟩,
      ⟨(some 45), .load true 4 (.t 44), none⟩,
      ⟨(some 46), .fieldAddr 3 (.t 3), none⟩,
      ⟨(some 47), .load false 1 (.t 46), none⟩,
      ⟨(some 48), .mv (.t 5), none⟩,
      ⟨(some 49), .idxS 4 (.t 47) (.t 48), none⟩,
      ⟨(some 50), .load true 4 (.t 49), none⟩,
      ⟨(some 51), .call (.c (.func (.func 19) [] [])) [(.t 45), (.t 50)], none⟩,
      ⟨(some 52), .un .not (.t 51), none⟩])
    (.cond (.t 52)
      (.seq (.ops [⟨(some 4), .mv (.c (.bool false)), none⟩])
      .ret)
      .skip)))
  (.ops [⟨(some 39), .mv (.t 5), none⟩,
    ⟨(some 40), .binI .add 3 (.tmp 39) (.const (.int .i64 1)) (.t 39) (.c (.int .i64 1)), none⟩,
    ⟨(some 5), .mv (.t 40), none⟩])))
noncomputable def x19 : XC :=
  (.seq (.ops [⟨(some 2), .box 38 (.t 0), none⟩,
    ⟨(some 3), .box 38 (.t 1), none⟩,
    ⟨(some 4), .mv (.c (.bool false)), none⟩])
  (.seq (.seq (.ops [⟨(some 6), .fieldAddr 0 (.t 2), none⟩,
    ⟨(some 7), .load false 1 (.t 6), none⟩,
    ⟨(some 8), .fieldAddr 0 (.t 3), none⟩,
    ⟨(some 9), .load false 1 (.t 8), none⟩,
    ⟨(some 10), .binI .neq 3 (.tmp 7) (.tmp 9) (.t 7) (.t 9), none⟩,
    ⟨(some 11), .mv (.t 10), none⟩,
    ⟨(some 12), .fieldAddr 1 (.t 2), (some (some 11, false))⟩,
    ⟨(some 13), .load false 1 (.t 12), (some (some 11, false))⟩,
    ⟨(some 14), .fieldAddr 1 (.t 3), (some (some 11, false))⟩,
    ⟨(some 15), .load false 1 (.t 14), (some (some 11, false))⟩,
    ⟨(some 16), .binI .neq 3 (.tmp 13) (.tmp 15) (.t 13) (.t 15), (some (some 11, false))⟩,
    ⟨(some 17), .pick (.t 11) (.c (.bool true)) (.t 16), none⟩,
    ⟨(some 18), .mv (.t 17), none⟩,
    ⟨(some 19), .fieldAddr 2 (.t 2), (some (some 18, false))⟩,
    ⟨(some 20), .load false 1 (.t 19), (some (some 18, false))⟩,
    ⟨(some 21), .fieldAddr 2 (.t 3), (some (some 18, false))⟩,
    ⟨(some 22), .load false 1 (.t 21), (some (some 18, false))⟩,
    ⟨(some 23), .binS .neq 9 (.tmp 20) (.tmp 22) (.t 20) (.t 22), (some (some 18, false))⟩,
    ⟨(some 24), .pick (.t 18) (.c (.bool true)) (.t 23), none⟩,
    ⟨(some 25), .mv (.t 24), none⟩,
    ⟨(some 26), .fieldAddr 3 (.t 2), (some (some 25, false))⟩,
    ⟨(some 27), .load false 1 (.t 26), (some (some 25, false))⟩,
    ⟨(some 28), .lenS (.t 27), (some (some 25, false))⟩,
    ⟨(some 29), .fieldAddr 3 (.t 3), (some (some 25, false))⟩,
    ⟨(some 30), .load false 1 (.t 29), (some (some 25, false))⟩,
    ⟨(some 31), .lenS (.t 30), (some (some 25, false))⟩,
    ⟨(some 32), .binI .neq 3 (.tmp 28) (.tmp 31) (.t 28) (.t 31), (some (some 25, false))⟩,
    ⟨(some 33), .pick (.t 25) (.c (.bool true)) (.t 32), none⟩])
  (.cond (.t 33)
    (.seq (.ops [⟨(some 4), .mv (.c (.bool false)), none⟩])
    .ret)
    .skip))
  (.seq (.seq (.ops [⟨(some 5), .mv (.c (.int .i64 0)), none⟩])
  (.block 0
    (.loop l19_0)))
  (.seq (.ops [⟨(some 4), .mv (.c (.bool true)), none⟩])
  .ret))))
theorem code19 : codeOf C 19 F19 = x19 := by kernel_rfl
noncomputable def b30 : Code := Tryz.f30.body.getD .skip
noncomputable def F30 : FI := ⟨9, [.tmp 2], b30⟩
theorem fn30 : C.fn 30 = some F30 := by kernel_rfl
noncomputable def x30 : XC :=
  (.seq (.ops [⟨(some 2), .mv (.c (.bool false)), none⟩])
  (.seq (.ops [⟨(some 3), .mv (.t 0), none⟩,
    ⟨(some 4), .binI .geq 3 (.tmp 3) (.const (.int .i64 0)) (.t 3) (.c (.int .i64 0)), none⟩,
    ⟨(some 5), .mv (.t 4), none⟩,
    ⟨(some 6), .mv (.t 0), (some (some 5, true))⟩,
    ⟨(some 7), .binI .leq 3 (.tmp 6) (.const (.int .i64 40)) (.t 6) (.c (.int .i64 40)), (some (some 5, true))⟩,
    ⟨(some 8), .pick (.t 5) (.t 7) (.c (.bool false)), none⟩,
    ⟨(some 2), .mv (.t 8), none⟩])
  .ret))
theorem code30 : codeOf C 30 F30 = x30 := by kernel_rfl
noncomputable def b31 : Code := Tryz.f31.body.getD .skip
noncomputable def F31 : FI := ⟨13, [.cell 2 38], b31⟩
theorem fn31 : C.fn 31 = some F31 := by kernel_rfl
noncomputable def l31_0 : XC :=
  (.seq (.ops [⟨(some 7), .binI .lss 3 (.tmp 6) (.tmp 5) (.t 6) (.t 5), none⟩])
  (.seq (.cond (.t 7)
    .skip
    (.exit 0))
  (.seq (.block 1
    (.ops [⟨(some 8), .load true 4 (.t 3), none⟩,
      ⟨(some 9), .buildS false 38 4 1 [(0, (.t 8))], none⟩,
      ⟨(some 10), .call (.c (.func (.func 47) [] [])) [(.c (.str [115, 64, 110, 97, 116])), (.t 9)], none⟩,
      ⟨none, .store 4 (.t 3) (.t 10), none⟩]))
  (.ops [⟨(some 11), .binI .add 3 (.tmp 6) (.const (.int .i64 1)) (.t 6) (.c (.int .i64 1)), none⟩,
    ⟨(some 6), .mv (.t 11), none⟩]))))
noncomputable def x31 : XC :=
  (.seq (.ops [⟨(some 2), .alloc 38 [(.int .i64 0), (.int .i64 0), (.str []), (.slice .nil [])], none⟩])
  (.seq (.ops [⟨(some 4), .call (.c (.func (.func 47) [] [])) [(.c (.str [122, 64, 110, 97, 116])), (.c (.slice .nil []))], none⟩,
    ⟨(some 3), .alloc 38 [(.int .i64 0), (.int .i64 0), (.str []), (.slice .nil [])], none⟩,
    ⟨none, .store 4 (.t 3) (.t 4), none⟩])
  (.seq (.seq (.ops [⟨(some 5), .mv (.t 0), none⟩,
    ⟨(some 6), .mv (.c (.int .i64 0)), none⟩])
  (.block 0
    (.loop l31_0)))
  (.seq (.ops [⟨(some 12), .load true 4 (.t 3), none⟩,
    ⟨none, .store 4 (.t 2) (.t 12), none⟩])
  .ret))))
theorem code31 : codeOf C 31 F31 = x31 := by kernel_rfl
noncomputable def b32 : Code := Tryz.f32.body.getD .skip
noncomputable def F32 : FI := ⟨11, [.tmp 2], b32⟩
theorem fn32 : C.fn 32 = some F32 := by kernel_rfl
noncomputable def x32 : XC :=
  (.seq (.ops [⟨(some 2), .mv (.c (.bool false)), none⟩])
  (.seq (.ops [⟨(some 3), .mv (.t 0), none⟩,
    ⟨(some 4), .lenS (.t 3), none⟩,
    ⟨(some 5), .binI .leq 3 (.tmp 4) (.const (.int .i64 12)) (.t 4) (.c (.int .i64 12)), none⟩,
    ⟨(some 6), .mv (.t 5), none⟩,
    ⟨(some 7), .mv (.t 0), (some (some 6, true))⟩,
    ⟨(some 8), .call (.c (.func (.func 48) [] [])) [(.t 7), (.c (.func (.func 49) [] []))], (some (some 6, true))⟩,
    ⟨(some 9), .un .not (.t 8), (some (some 6, true))⟩,
    ⟨(some 10), .pick (.t 6) (.t 9) (.c (.bool false)), none⟩,
    ⟨(some 2), .mv (.t 10), none⟩])
  .ret))
theorem code32 : codeOf C 32 F32 = x32 := by kernel_rfl
noncomputable def b33 : Code := Tryz.f33.body.getD .skip
noncomputable def F33 : FI := ⟨17, [.cell 2 38], b33⟩
theorem fn33 : C.fn 33 = some F33 := by kernel_rfl
noncomputable def d33_0 : Array Oper := (drawsOf b33).getD 0 #[]
theorem dr33_0 : drawable d33_0 = true := by kernel_rfl
noncomputable def q33_0 : Code × Code := (rangesOf b33).getD 0 (.skip, .skip)
noncomputable def x33 : XC :=
  (.seq (.ops [⟨(some 2), .alloc 38 [(.int .i64 0), (.int .i64 0), (.str []), (.slice .nil [])], none⟩])
  (.seq (.ops [⟨(some 6), .call (.c (.func (.func 47) [] [])) [(.c (.str [110, 105, 108, 64, 108, 105, 115, 116])), (.c (.slice .nil []))], none⟩,
    ⟨(some 3), .alloc 38 [(.int .i64 0), (.int .i64 0), (.str []), (.slice .nil [])], none⟩,
    ⟨none, .store 4 (.t 3) (.t 6), none⟩])
  (.seq (.seq (.ops [⟨(some 7), .mv (.t 0), none⟩,
    ⟨(some 8), .call (.c (.func (.func 50) [] [])) [(.t 7)], none⟩])
  (.block 0
    (.rangeFunc (.t 8) [9, 10] (q33_0).1 (q33_0).2)))
  (.seq (.ops [⟨(some 16), .load true 4 (.t 3), none⟩,
    ⟨none, .store 4 (.t 2) (.t 16), none⟩])
  .ret))))
theorem code33 : codeOf C 33 F33 = x33 := by kernel_rfl
noncomputable def xa33_0 : XC :=
  (.ops [⟨(some 5), .mv (.t 10), none⟩])
theorem codea33_0 : compC C (C.mu 33) (resolveC q33_0.1) = xa33_0 := by kernel_rfl
noncomputable def xb33_0 : XC :=
  (.block 1
    (.draw d33_0 [⟨(some 11), .mv (.t 5), none⟩,
      ⟨(some 12), .call (.c (.func (.func 31) [] [])) [(.t 11)], none⟩,
      ⟨(some 13), .load true 4 (.t 3), none⟩,
      ⟨(some 14), .buildS false 38 4 2 [(0, (.t 12)), (1, (.t 13))], none⟩,
      ⟨(some 15), .call (.c (.func (.func 47) [] [])) [(.c (.str [99, 111, 110, 115, 64, 108, 105, 115, 116])), (.t 14)], none⟩,
      ⟨none, .store 4 (.t 3) (.t 15), none⟩]))
theorem codeb33_0 : compC C (C.mu 33) (resolveC q33_0.2) = xb33_0 := by kernel_rfl
noncomputable def b34 : Code := Tryz.f34.body.getD .skip
noncomputable def F34 : FI := ⟨8, [.cell 4 38], b34⟩
theorem fn34 : C.fn 34 = some F34 := by kernel_rfl
noncomputable def x34 : XC :=
  (.seq (.ops [⟨(some 4), .alloc 38 [(.int .i64 0), (.int .i64 0), (.str []), (.slice .nil [])], none⟩])
  (.seq (.ops [⟨(some 5), .mv (.t 0), none⟩,
    ⟨(some 6), .mv (.t 1), none⟩,
    ⟨(some 7), .build [(.int .i64 0), (.int .i64 0), (.str []), (.slice .nil [])] [(0, 1), (1, 1), (2, 1), (3, 1)] [(0, (.c (.int .i64 1))), (2, (.t 5)), (3, (.t 6))], none⟩,
    ⟨none, .store 4 (.t 4) (.t 7), none⟩])
  .ret))
theorem code34 : codeOf C 34 F34 = x34 := by kernel_rfl
noncomputable def b35 : Code := Tryz.f35.body.getD .skip
noncomputable def F35 : FI := ⟨28, [.tmp 6], b35⟩
theorem fn35 : C.fn 35 = some F35 := by kernel_rfl
noncomputable def x35 : XC :=
  (.seq (.ops [⟨(some 3), .box 38 (.t 0), none⟩,
    ⟨(some 6), .mv (.c (.bool false)), none⟩])
  (.seq (.ops [⟨(some 7), .fieldAddr 0 (.t 3), none⟩,
    ⟨(some 8), .load false 1 (.t 7), none⟩,
    ⟨(some 9), .binI .eql 3 (.tmp 8) (.const (.int .i64 1)) (.t 8) (.c (.int .i64 1)), none⟩,
    ⟨(some 10), .mv (.t 9), none⟩,
    ⟨(some 11), .fieldAddr 1 (.t 3), (some (some 10, true))⟩,
    ⟨(some 12), .load false 1 (.t 11), (some (some 10, true))⟩,
    ⟨(some 13), .binI .eql 3 (.tmp 12) (.const (.int .i64 0)) (.t 12) (.c (.int .i64 0)), (some (some 10, true))⟩,
    ⟨(some 14), .pick (.t 10) (.t 13) (.c (.bool false)), none⟩,
    ⟨(some 15), .mv (.t 14), none⟩,
    ⟨(some 16), .fieldAddr 2 (.t 3), (some (some 15, true))⟩,
    ⟨(some 17), .load false 1 (.t 16), (some (some 15, true))⟩,
    ⟨(some 18), .mv (.t 1), (some (some 15, true))⟩,
    ⟨(some 19), .binS .eql 9 (.tmp 17) (.tmp 18) (.t 17) (.t 18), (some (some 15, true))⟩,
    ⟨(some 20), .pick (.t 15) (.t 19) (.c (.bool false)), none⟩,
    ⟨(some 21), .mv (.t 20), none⟩,
    ⟨(some 22), .fieldAddr 3 (.t 3), (some (some 21, true))⟩,
    ⟨(some 23), .load false 1 (.t 22), (some (some 21, true))⟩,
    ⟨(some 24), .lenS (.t 23), (some (some 21, true))⟩,
    ⟨(some 25), .mv (.t 2), (some (some 21, true))⟩,
    ⟨(some 26), .binI .eql 3 (.tmp 24) (.tmp 25) (.t 24) (.t 25), (some (some 21, true))⟩,
    ⟨(some 27), .pick (.t 21) (.t 26) (.c (.bool false)), none⟩,
    ⟨(some 6), .mv (.t 27), none⟩])
  .ret))
theorem code35 : codeOf C 35 F35 = x35 := by kernel_rfl
noncomputable def b36 : Code := Tryz.f36.body.getD .skip
noncomputable def F36 : FI := ⟨28, [.tmp 6], b36⟩
theorem fn36 : C.fn 36 = some F36 := by kernel_rfl
noncomputable def x36 : XC :=
  (.seq (.ops [⟨(some 3), .box 38 (.t 0), none⟩,
    ⟨(some 6), .mv (.c (.bool false)), none⟩])
  (.seq (.ops [⟨(some 7), .fieldAddr 0 (.t 3), none⟩,
    ⟨(some 8), .load false 1 (.t 7), none⟩,
    ⟨(some 9), .binI .eql 3 (.tmp 8) (.const (.int .i64 1)) (.t 8) (.c (.int .i64 1)), none⟩,
    ⟨(some 10), .mv (.t 9), none⟩,
    ⟨(some 11), .fieldAddr 2 (.t 3), (some (some 10, true))⟩,
    ⟨(some 12), .load false 1 (.t 11), (some (some 10, true))⟩,
    ⟨(some 13), .mv (.t 1), (some (some 10, true))⟩,
    ⟨(some 14), .binS .eql 9 (.tmp 12) (.tmp 13) (.t 12) (.t 13), (some (some 10, true))⟩,
    ⟨(some 15), .pick (.t 10) (.t 14) (.c (.bool false)), none⟩,
    ⟨(some 16), .mv (.t 15), none⟩,
    ⟨(some 17), .fieldAddr 1 (.t 3), (some (some 16, true))⟩,
    ⟨(some 18), .load false 1 (.t 17), (some (some 16, true))⟩,
    ⟨(some 19), .binI .eql 3 (.tmp 18) (.const (.int .i64 0)) (.t 18) (.c (.int .i64 0)), (some (some 16, true))⟩,
    ⟨(some 20), .pick (.t 16) (.t 19) (.c (.bool false)), none⟩,
    ⟨(some 21), .mv (.t 20), none⟩,
    ⟨(some 22), .fieldAddr 3 (.t 3), (some (some 21, true))⟩,
    ⟨(some 23), .load false 1 (.t 22), (some (some 21, true))⟩,
    ⟨(some 24), .lenS (.t 23), (some (some 21, true))⟩,
    ⟨(some 25), .mv (.t 2), (some (some 21, true))⟩,
    ⟨(some 26), .binI .eql 3 (.tmp 24) (.tmp 25) (.t 24) (.t 25), (some (some 21, true))⟩,
    ⟨(some 27), .pick (.t 21) (.t 26) (.c (.bool false)), none⟩,
    ⟨(some 6), .mv (.t 27), none⟩])
  .ret))
theorem code36 : codeOf C 36 F36 = x36 := by kernel_rfl
noncomputable def b47 : Code := Tryz.f47.body.getD .skip
noncomputable def F47 : FI := ⟨8, [.cell 4 38], b47⟩
theorem fn47 : C.fn 47 = some F47 := by kernel_rfl
noncomputable def x47 : XC :=
  (.seq (.ops [⟨(some 4), .alloc 38 [(.int .i64 0), (.int .i64 0), (.str []), (.slice .nil [])], none⟩])
  (.seq (.ops [⟨(some 5), .mv (.t 0), none⟩,
    ⟨(some 6), .mv (.t 1), none⟩,
    ⟨(some 7), .build [(.int .i64 0), (.int .i64 0), (.str []), (.slice .nil [])] [(0, 1), (1, 1), (2, 1), (3, 1)] [(0, (.c (.int .i64 1))), (2, (.t 5)), (3, (.t 6))], none⟩,
    ⟨none, .store 4 (.t 4) (.t 7), none⟩])
  .ret))
theorem code47 : codeOf C 47 F47 = x47 := by kernel_rfl
noncomputable def b48 : Code := Tryz.f48.body.getD .skip
noncomputable def F48 : FI := ⟨9, [.tmp 4], b48⟩
theorem fn48 : C.fn 48 = some F48 := by kernel_rfl
noncomputable def x48 : XC :=
  (.seq (.ops [⟨(some 4), .mv (.c (.bool false)), none⟩])
  (.seq (.ops [⟨(some 5), .mv (.t 0), none⟩,
    ⟨(some 6), .mv (.t 1), none⟩,
    ⟨(some 7), .call (.c (.func (.func 90) [] [])) [(.t 5), (.t 6)], none⟩,
    ⟨(some 8), .binI .geq 3 (.tmp 7) (.const (.int .i64 0)) (.t 7) (.c (.int .i64 0)), none⟩,
    ⟨(some 4), .mv (.t 8), none⟩])
  .ret))
theorem code48 : codeOf C 48 F48 = x48 := by kernel_rfl
noncomputable def b49 : Code := Tryz.f49.body.getD .skip
noncomputable def F49 : FI := ⟨6, [.tmp 2], b49⟩
theorem fn49 : C.fn 49 = some F49 := by kernel_rfl
noncomputable def x49 : XC :=
  (.seq (.ops [⟨(some 2), .mv (.c (.bool false)), none⟩])
  (.seq (.ops [⟨(some 3), .mv (.t 0), none⟩,
    ⟨(some 4), .call (.c (.func (.func 30) [] [])) [(.t 3)], none⟩,
    ⟨(some 5), .un .not (.t 4), none⟩,
    ⟨(some 2), .mv (.t 5), none⟩])
  .ret))
theorem code49 : codeOf C 49 F49 = x49 := by kernel_rfl
noncomputable def b50 : Code := Tryz.f50.body.getD .skip
noncomputable def F50 : FI := ⟨4, [.tmp 2], b50⟩
theorem fn50 : C.fn 50 = some F50 := by kernel_rfl
noncomputable def x50 : XC :=
  (.seq (.ops [⟨(some 1), .box 22 (.t 0), none⟩,
    ⟨(some 2), .mv (.c .nilfn), none⟩])
  (.seq (.ops [⟨(some 3), .mkFunc 91 [] [(.t 1)], none⟩,
    ⟨(some 2), .mv (.t 3), none⟩])
  .ret))
theorem code50 : codeOf C 50 F50 = x50 := by kernel_rfl
noncomputable def b73 : Code := Tryz.f73.body.getD .skip
noncomputable def F73 : FI := ⟨64, [.tmp 2], b73⟩
theorem fn73 : C.fn 73 = some F73 := by kernel_rfl
noncomputable def l73_0 : XC :=
  (.seq (.ops [⟨(some 40), .gen { dst := some 40, op := .next (.tmp 39) false, type := 0, pos := "", after := #[], guard := none }, none⟩,
    ⟨(some 41), .extract (.t 40) 0, none⟩])
  (.seq (.cond (.t 41)
    .skip
    (.exit 2))
  (.block 3
    (.seq (.ops [⟨(some 42), .gen { dst := some 42, op := .entry (.tmp 39), type := 0, pos := "", after := #[], guard := none }, none⟩,
      ⟨(some 43), .extract (.t 42) 0, none⟩,
      ⟨(some 7), .alloc 131 [(.int .i64 0), (.int .i64 0)], none⟩,
      ⟨none, .store 2 (.t 7) (.t 43), none⟩])
    (.seq (.ops [⟨(some 44), .fieldAddr 0 (.t 7), none⟩,
      ⟨(some 45), .load false 1 (.t 44), none⟩,
      ⟨(some 46), .mv (.t 6), none⟩,
      ⟨(some 47), .binI .eql 3 (.tmp 45) (.tmp 46) (.t 45) (.t 46), none⟩,
      ⟨(some 48), .mv (.t 47), none⟩,
      ⟨(some 49), .mv (.t 4), (some (some 48, true))⟩,
      ⟨(some 50), .fieldAddr 1 (.t 7), (some (some 48, true))⟩,
      ⟨(some 51), .load false 1 (.t 50), (some (some 48, true))⟩,
      ⟨(some 52), .gen { dst := some 52, op := .lookup 129 (.tmp 49) (.tmp 51) false, type := 0, pos := "", after := #[], guard := none }, (some (some 48, true))⟩,
      ⟨(some 53), .un .not (.t 52), (some (some 48, true))⟩,
      ⟨(some 54), .pick (.t 48) (.t 53) (.c (.bool false)), none⟩])
    (.cond (.t 54)
      (.seq (.ops [⟨(some 55), .mv (.t 4), none⟩,
        ⟨(some 56), .fieldAddr 1 (.t 7), none⟩,
        ⟨(some 57), .load false 1 (.t 56), none⟩,
        ⟨none, .gen { dst := none, op := .mapUpdate 129 (.tmp 55) (.tmp 57) (.const (.bool true)), type := 0, pos := "", after := #[], guard := none }, none⟩])
      (.ops [⟨(some 58), .mv (.t 5), none⟩,
        ⟨(some 59), .fieldAddr 1 (.t 7), none⟩,
        ⟨(some 60), .load false 1 (.t 59), none⟩,
        ⟨(some 61), .buildS true 3 1 1 [(0, (.t 60))], none⟩,
        ⟨(some 62), .app true 3 T3 (.t 58) (.t 61), none⟩,
        ⟨(some 5), .mv (.t 62), none⟩]))
      .skip))))))
noncomputable def l73_1 : XC :=
  (.seq (.seq (.ops [⟨(some 24), .mv (.t 5), none⟩,
    ⟨(some 25), .lenS (.t 24), none⟩,
    ⟨(some 26), .binI .gtr 3 (.tmp 25) (.const (.int .i64 0)) (.t 25) (.c (.int .i64 0)), none⟩])
  (.cond (.t 26)
    .skip
    (.exit 0)))
  (.block 1
    (.seq (.ops [⟨(some 27), .mv (.t 5), none⟩,
      ⟨(some 28), .idxS 1 (.t 27) (.c (.int .i64 0)), none⟩,
      ⟨(some 29), .load false 1 (.t 28), none⟩,
      ⟨(some 6), .mv (.t 29), none⟩])
    (.seq (.ops [⟨(some 30), .mv (.t 5), none⟩,
      ⟨(some 31), .gen { dst := some 31, op := .slice 22 (.tmp 30) (some (.const (.int .i64 1))) none none, type := 0, pos := "", after := #[], guard := none }, none⟩,
      ⟨(some 5), .mv (.t 31), none⟩])
    (.seq (.ops [⟨(some 32), .mv (.t 2), none⟩,
      ⟨(some 33), .mv (.t 6), none⟩,
      ⟨(some 34), .call (.c (.func (.func 53) [] [])) [(.t 33)], none⟩,
      ⟨(some 35), .buildS true 24 3 1 [(0, (.t 34))], none⟩,
      ⟨(some 36), .buildS true 33 1 1 [(0, (.t 35))], none⟩,
      ⟨(some 37), .app true 33 T33 (.t 32) (.t 36), none⟩,
      ⟨(some 2), .mv (.t 37), none⟩])
    (.seq (.ops [⟨(some 38), .mv (.t 3), none⟩,
      ⟨(some 39), .gen { dst := some 39, op := .range 127 (.tmp 38), type := 0, pos := "", after := #[], guard := none }, none⟩])
    (.block 2
      (.loop l73_0))))))))
noncomputable def x73 : XC :=
  (.seq (.ops [⟨(some 2), .mv (.c (.slice .nil [])), none⟩])
  (.seq (.ops [⟨(some 8), .mv (.t 0), none⟩,
    ⟨(some 9), .idxS 3 (.t 8) (.c (.int .i64 1)), none⟩,
    ⟨(some 10), .fieldAddr 2 (.t 9), none⟩,
    ⟨(some 11), .load false 1 (.t 10), none⟩,
    ⟨(some 12), .call (.c (.func (.func 101) [] [])) [(.t 11)], none⟩,
    ⟨(some 3), .mv (.t 12), none⟩])
  (.seq (.ops [⟨(some 13), .gen { dst := some 13, op := .makeMap 129 none, type := 0, pos := "", after := #[], guard := none }, none⟩,
    ⟨(some 14), .mv (.t 0), none⟩,
    ⟨(some 15), .idxS 3 (.t 14) (.c (.int .i64 0)), none⟩,
    ⟨(some 16), .fieldAddr 1 (.t 15), none⟩,
    ⟨(some 17), .load false 1 (.t 16), none⟩,
    ⟨none, .gen { dst := none, op := .insert 129 (.tmp 13) (.tmp 17) (.const (.bool true)), type := 0, pos := "", after := #[], guard := none }, none⟩,
    ⟨(some 18), .mv (.t 13), none⟩,
    ⟨(some 4), .mv (.t 18), none⟩])
  (.seq (.ops [⟨(some 19), .mv (.t 0), none⟩,
    ⟨(some 20), .idxS 3 (.t 19) (.c (.int .i64 0)), none⟩,
    ⟨(some 21), .fieldAddr 1 (.t 20), none⟩,
    ⟨(some 22), .load false 1 (.t 21), none⟩,
    ⟨(some 23), .buildS true 3 1 1 [(0, (.t 22))], none⟩,
    ⟨(some 5), .mv (.t 23), none⟩])
  (.seq (.block 0
    (.loop l73_1))
  (.seq (.ops [⟨(some 63), .mv (.t 2), none⟩,
    ⟨(some 2), .mv (.t 63), none⟩])
  .ret))))))
theorem code73 : codeOf C 73 F73 = x73 := by kernel_rfl
noncomputable def b90 : Code := Tryz.f90.body.getD .skip
noncomputable def F90 : FI := ⟨19, [.tmp 4], b90⟩
theorem fn90 : C.fn 90 = some F90 := by kernel_rfl
noncomputable def l90_0 : XC :=
  (.seq (.ops [⟨(some 9), .binI .lss 3 (.tmp 8) (.tmp 7) (.t 8) (.t 7), none⟩])
  (.seq (.cond (.t 9)
    .skip
    (.exit 0))
  (.seq (.block 1
    (.seq (.ops [⟨(some 10), .mv (.t 8), none⟩,
      ⟨(some 5), .mv (.t 10), none⟩])
    (.seq (.ops [⟨(some 11), .mv (.t 1), none⟩,
      ⟨(some 12), .mv (.t 0), none⟩,
      ⟨(some 13), .mv (.t 5), none⟩,
      ⟨(some 14), .idxS 1 (.t 12) (.t 13), none⟩,
      ⟨(some 15), .load false 1 (.t 14), none⟩,
      ⟨(some 16), .call (.t 11) [(.t 15)], none⟩])
    (.cond (.t 16)
      (.seq (.ops [⟨(some 17), .mv (.t 5), none⟩,
        ⟨(some 4), .mv (.t 17), none⟩])
      .ret)
      .skip))))
  (.ops [⟨(some 18), .binI .add 3 (.tmp 8) (.const (.int .i64 1)) (.t 8) (.c (.int .i64 1)), none⟩,
    ⟨(some 8), .mv (.t 18), none⟩]))))
noncomputable def x90 : XC :=
  (.seq (.ops [⟨(some 4), .mv (.c (.int .i64 0)), none⟩])
  (.seq (.seq (.ops [⟨(some 6), .mv (.t 0), none⟩,
    ⟨(some 7), .lenS (.t 6), none⟩,
    ⟨(some 8), .mv (.c (.int .i64 0)), none⟩])
  (.block 0
    (.loop l90_0)))
  (.seq (.ops [⟨(some 4), .mv (.c (.int .i64 (-1))), none⟩])
  .ret)))
theorem code90 : codeOf C 90 F90 = x90 := by kernel_rfl
noncomputable def b91 : Code := Tryz.f91.body.getD .skip
noncomputable def F91 : FI := ⟨19, [], b91⟩
theorem fn91 : C.fn 91 = some F91 := by kernel_rfl
noncomputable def l91_0 : XC :=
  (.seq (.seq (.ops [⟨(some 7), .mv (.t 3), none⟩,
    ⟨(some 8), .binI .geq 3 (.tmp 7) (.const (.int .i64 0)) (.t 7) (.c (.int .i64 0)), none⟩])
  (.cond (.t 8)
    .skip
    (.exit 0)))
  (.seq (.block 1
    (.seq (.ops [⟨(some 11), .mv (.t 0), none⟩,
      ⟨(some 12), .mv (.t 3), none⟩,
      ⟨(some 13), .load false 1 (.t 1), none⟩,
      ⟨(some 14), .mv (.t 3), none⟩,
      ⟨(some 15), .idxS 1 (.t 13) (.t 14), none⟩,
      ⟨(some 16), .load false 1 (.t 15), none⟩,
      ⟨(some 17), .call (.t 11) [(.t 12), (.t 16)], none⟩,
      ⟨(some 18), .un .not (.t 17), none⟩])
    (.cond (.t 18)
      .ret
      .skip)))
  (.ops [⟨(some 9), .mv (.t 3), none⟩,
    ⟨(some 10), .binI .sub 3 (.tmp 9) (.const (.int .i64 1)) (.t 9) (.c (.int .i64 1)), none⟩,
    ⟨(some 3), .mv (.t 10), none⟩])))
noncomputable def x91 : XC :=
  (.seq (.ops [⟨(some 4), .load false 1 (.t 1), none⟩,
    ⟨(some 5), .lenS (.t 4), none⟩,
    ⟨(some 6), .binI .sub 3 (.tmp 5) (.const (.int .i64 1)) (.t 5) (.c (.int .i64 1)), none⟩,
    ⟨(some 3), .mv (.t 6), none⟩])
  (.block 0
    (.loop l91_0)))
theorem code91 : codeOf C 91 F91 = x91 := by kernel_rfl
end Go.Proofs.L31
