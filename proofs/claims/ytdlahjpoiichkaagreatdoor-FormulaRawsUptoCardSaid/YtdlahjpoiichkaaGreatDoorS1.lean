/- The contexts of law 06 and its types. -/
import Derived.Test.YtdlahjpoiichkaaGreatDoorE8
import Derived.Test.YtdlahjpoiichkaaGreatDoorProg
import Derived.KernelRfl
set_option linter.unusedVariables false
set_option linter.unusedSimpArgs false
set_option linter.unusedSectionVars false
namespace Go.Proofs.L06
open Go Go.AE
def muL:List Nat:=[153,174,221,223,270,272,283]
def pow10:List AV:=[1,10,100,1000,10000,100000,1000000,10000000,100000000,1000000000,10000000000,100000000000,1000000000000,10000000000000,100000000000000,1000000000000000,10000000000000000,100000000000000000,1000000000000000000,10000000000000000000].map fun n:Int => .int .u64 n
def gl06 (g:Nat):Option (List AV):=if Nat.beq g 1 then some pow10 else none
abbrev XF:=FuncId → List AV → St → Option (AV × St)
noncomputable def C:Ctx:=(ctxOf Tryz.prog (fun _ _ _ => none) (fun f => muL.any (Nat.beq f)) (fun f => !(muL.any (Nat.beq f)))).withG gl06
theorem ctxOk0:CtxOk C:=ctxOk_withG (ctxOf_ok (by kernel_rfl))
theorem globC {g:Nat} {cs:List AV} (h:C.glob g = some cs):g = 1 ∧ cs = pow10:=by
 change gl06 g = some cs at h
 unfold gl06 at h
 split at h
 ·rename_i hc
  cases h
  exact ⟨Nat.eq_of_beq_eq_true hc,rfl⟩
 ·cases h
theorem globClean:∀ g cs,C.glob g = some cs → CleanV (.cptr cs):=fun g cs h => by
 obtain ⟨_,rfl⟩:=globC h
 rfl
def cmpS (a b:List Nat):Int:=if a == b then 0 else if strLt a b then -1 else 1
def idxB (s:List Nat) (c:Int):Int:=match s.findIdx? (fun b:Nat => decide ((b:Int) = c)) with | some i => (i:Int) | none => -1
def known (f:Nat):Bool:=Nat.beq f 6 || (Nat.beq f 243 || (Nat.beq f 399 || (Nat.beq f 304 || Nat.beq f 241)))
structure K (Q:Ctx):Prop where
 ex:∃ X:XF,Q = C.withX X
 nx:∀ f args st,known f = false → Q.X f args st = none
 x243:∀ a b st,Q.X 243 [.str a,.str b] st = some (.int .i64 (cmpS a b),st)
 x399:∀ s c st,0 ≤ c → c < 256 → Q.X 399 [.str s,.int .u8 c] st = some (.int .i64 (idxB s c),st)
 x304:∀ v st,Q.X 304 [v] st = some (v,st)
section
variable {D:Ctx} {X:XF}
theorem wx_ty {t:Nat} {ti:TI} (e:D.ty t = some ti):(D.withX X).ty t = some ti:=e
theorem wx_ok {f:FuncId} {fi:FI} {x:XC} {mu:Bool} (e:FnOk D f fi x mu):FnOk (D.withX X) f fi x mu:=⟨e.fn,codeW.trans e.code,e.mu,e.draws⟩
theorem wx_frz {f:FuncId} {b:Bool} (e:D.frz f = b):(D.withX X).frz f = b:=e
end
theorem K.ty_ {Q:Ctx} (h:K Q) {t:Nat} {ti:TI} (e:C.ty t = some ti):Q.ty t = some ti:=by
 obtain ⟨X,rfl⟩:=h.ex
 exact wx_ty e
theorem K.ok_ {Q:Ctx} (h:K Q) {f:FuncId} {fi:FI} {x:XC} {mu:Bool} (e:FnOk C f fi x mu):FnOk Q f fi x mu:=by
 obtain ⟨X,rfl⟩:=h.ex
 exact wx_ok e
theorem K.frz_ {Q:Ctx} (h:K Q) {f:FuncId} {b:Bool} (e:C.frz f = b):Q.frz f = b:=by
 obtain ⟨X,rfl⟩:=h.ex
 exact wx_frz e
def cD:XC → Nat
 | .draw _ _ => 1
 | .seq a b => cD a + cD b
 | .cond _ a b => cD a + cD b
 | .block _ b => cD b
 | .loop b => cD b
 | _ => 0
def cL:XC → Nat
 | .seq a b => cL a + cL b
 | .cond _ a b => cL a + cL b
 | .block _ b => cL b
 | .loop b => cL b + 1
 | _ => 0
def nm (d:List (Array Oper)) (l:List XC):XC → Nat → Nat → XC
 | .draw _ r,i,_ => .draw (d.getD i #[]) r
 | .seq a b,i,j => .seq (nm d l a i j) (nm d l b (i + cD a) (j + cL a))
 | .cond c a b,i,j => .cond c (nm d l a i j) (nm d l b (i + cD a) (j + cL a))
 | .block k b,i,j => .block k (nm d l b i j)
 | .loop b,_,j => .loop (l.getD (j + cL b) .bad)
 | c,_,_ => c
def lps (d:List (Array Oper)) (l:List XC):XC → Nat → Nat → List XC
 | .seq a b,i,j => lps d l a i j ++ lps d l b (i + cD a) (j + cL a)
 | .cond _ a b,i,j => lps d l a i j ++ lps d l b (i + cD a) (j + cL a)
 | .block _ b,i,j => lps d l b i j
 | .loop b,i,j => lps d l b i j ++ [nm d l b i j]
 | _,_,_ => []
abbrev Ret (Q:Ctx) (f:FuncId) (args:List AV) (v:AV):Prop:=∀ st,callW Q (.fn f) args .normal st = some (.ret v,st,none)
end Go.Proofs.L06

namespace Go.Proofs.L06
open Go Go.AE
set_option maxRecDepth 100000
noncomputable def T1:TI:=⟨Tryz.t1.desc,1,8,false,[.nilfn],[]⟩
theorem ty1:C.ty 1 = some T1:=by kernel_rfl
noncomputable def T2:TI:=⟨(.int .i64),1,8,false,[(.int .i64 0)],[]⟩
theorem ty2:C.ty 2 = some T2:=by kernel_rfl
noncomputable def T3:TI:=⟨(.int .i64),1,8,false,[(.int .i64 0)],[]⟩
theorem ty3:C.ty 3 = some T3:=by kernel_rfl
theorem tw3 {Q:Ctx} (hK:K Q):Q.ty 3 = some T3:=hK.ty_ ty3
noncomputable def T4:TI:=⟨.bool,1,1,false,[(.bool false)],[]⟩
theorem ty4:C.ty 4 = some T4:=by kernel_rfl
theorem tw4 {Q:Ctx} (hK:K Q):Q.ty 4 = some T4:=hK.ty_ ty4
noncomputable def T5:TI:=⟨(.int .u8),1,1,false,[(.int .u8 0)],[]⟩
theorem ty5:C.ty 5 = some T5:=by kernel_rfl
theorem tw5 {Q:Ctx} (hK:K Q):Q.ty 5 = some T5:=hK.ty_ ty5
noncomputable def T9:TI:=⟨.string,1,16,false,[(.str [])],[]⟩
theorem ty9:C.ty 9 = some T9:=by kernel_rfl
theorem tw9 {Q:Ctx} (hK:K Q):Q.ty 9 = some T9:=hK.ty_ ty9
noncomputable def T20:TI:=⟨Tryz.t20.desc,1,16,false,[.nilif],[]⟩
theorem ty20:C.ty 20 = some T20:=by kernel_rfl
theorem tw20 {Q:Ctx} (hK:K Q):Q.ty 20 = some T20:=hK.ty_ ty20
noncomputable def T30:TI:=⟨(.int .i64),1,8,false,[(.int .i64 0)],[]⟩
theorem ty30:C.ty 30 = some T30:=by kernel_rfl
theorem tw30 {Q:Ctx} (hK:K Q):Q.ty 30 = some T30:=hK.ty_ ty30
noncomputable def T90:TI:=⟨Tryz.t89.desc,0,0,true,[],[]⟩
theorem ty90:C.ty 90 = some T90:=by kernel_rfl
theorem tw90 {Q:Ctx} (hK:K Q):Q.ty 90 = some T90:=hK.ty_ ty90
theorem ni90:noIface T90.und = true:=by kernel_rfl
noncomputable def T93:TI:=⟨(.pointer 96),1,8,false,[.nilp],[]⟩
theorem ty93:C.ty 93 = some T93:=by kernel_rfl
theorem tw93 {Q:Ctx} (hK:K Q):Q.ty 93 = some T93:=hK.ty_ ty93
noncomputable def T94:TI:=⟨(.slice 5),1,24,false,[(.slice .nil [])],[]⟩
theorem ty94:C.ty 94 = some T94:=by kernel_rfl
theorem tw94 {Q:Ctx} (hK:K Q):Q.ty 94 = some T94:=hK.ty_ ty94
noncomputable def T96:TI:=⟨Tryz.t95.desc,2,32,true,[.nilp,(.slice .nil [])],[(0,1),(1,1)]⟩
theorem ty96:C.ty 96 = some T96:=by kernel_rfl
theorem tw96 {Q:Ctx} (hK:K Q):Q.ty 96 = some T96:=hK.ty_ ty96
noncomputable def T151:TI:=⟨(.map 3 9),1,8,false,[.nilmap],[]⟩
theorem ty151:C.ty 151 = some T151:=by kernel_rfl
theorem tw151 {Q:Ctx} (hK:K Q):Q.ty 151 = some T151:=hK.ty_ ty151
noncomputable def T153:TI:=⟨(.pointer 5),1,8,false,[.nilp],[]⟩
theorem ty153:C.ty 153 = some T153:=by kernel_rfl
theorem tw153 {Q:Ctx} (hK:K Q):Q.ty 153 = some T153:=hK.ty_ ty153
noncomputable def T203:TI:=⟨(.array 13 3),13,104,true,[(.int .i64 0),(.int .i64 0),(.int .i64 0),(.int .i64 0),(.int .i64 0),(.int .i64 0),(.int .i64 0),(.int .i64 0),(.int .i64 0),(.int .i64 0),(.int .i64 0),(.int .i64 0),(.int .i64 0)],[]⟩
theorem ty203:C.ty 203 = some T203:=by kernel_rfl
theorem tw203 {Q:Ctx} (hK:K Q):Q.ty 203 = some T203:=hK.ty_ ty203
noncomputable def T207:TI:=⟨Tryz.t206.desc,3,32,true,[(.int .i64 0),(.str []),(.int .i64 0)],[(0,1),(1,1),(2,1)]⟩
theorem ty207:C.ty 207 = some T207:=by kernel_rfl
theorem tw207 {Q:Ctx} (hK:K Q):Q.ty 207 = some T207:=hK.ty_ ty207
noncomputable def T217:TI:=⟨Tryz.t216.desc,1,8,true,[(.int .i64 0)],[(0,1)]⟩
theorem ty217:C.ty 217 = some T217:=by kernel_rfl
theorem tw217 {Q:Ctx} (hK:K Q):Q.ty 217 = some T217:=hK.ty_ ty217
theorem ni217:noIface T217.und = true:=by kernel_rfl
noncomputable def T301:TI:=⟨(.slice 207),1,24,false,[(.slice .nil [])],[]⟩
theorem ty301:C.ty 301 = some T301:=by kernel_rfl
theorem tw301 {Q:Ctx} (hK:K Q):Q.ty 301 = some T301:=hK.ty_ ty301
noncomputable def T307:TI:=⟨Tryz.t307.desc,1,8,false,[.nilp],[]⟩
theorem ty307:C.ty 307 = some T307:=by kernel_rfl
theorem tw307 {Q:Ctx} (hK:K Q):Q.ty 307 = some T307:=hK.ty_ ty307
noncomputable def T333:TI:=⟨Tryz.t332.desc,2,16,true,[(.int .i64 0),(.int .i64 0)],[(0,1),(1,1)]⟩
theorem ty333:C.ty 333 = some T333:=by kernel_rfl
theorem tw333 {Q:Ctx} (hK:K Q):Q.ty 333 = some T333:=hK.ty_ ty333
theorem ni333:noIface T333.und = true:=by kernel_rfl
noncomputable def T369:TI:=⟨(.array 256 4),256,256,true,[(.bool false),(.bool false),(.bool false),(.bool false),(.bool false),(.bool false),(.bool false),(.bool false),(.bool false),(.bool false),(.bool false),(.bool false),(.bool false),(.bool false),(.bool false),(.bool false),(.bool false),(.bool false),(.bool false),(.bool false),(.bool false),(.bool false),(.bool false),(.bool false),(.bool false),(.bool false),(.bool false),(.bool false),(.bool false),(.bool false),(.bool false),(.bool false),(.bool false),(.bool false),(.bool false),(.bool false),(.bool false),(.bool false),(.bool false),(.bool false),(.bool false),(.bool false),(.bool false),(.bool false),(.bool false),(.bool false),(.bool false),(.bool false),(.bool false),(.bool false),(.bool false),(.bool false),(.bool false),(.bool false),(.bool false),(.bool false),(.bool false),(.bool false),(.bool false),(.bool false),(.bool false),(.bool false),(.bool false),(.bool false),(.bool false),(.bool false),(.bool false),(.bool false),(.bool false),(.bool false),(.bool false),(.bool false),(.bool false),(.bool false),(.bool false),(.bool false),(.bool false),(.bool false),(.bool false),(.bool false),(.bool false),(.bool false),(.bool false),(.bool false),(.bool false),(.bool false),(.bool false),(.bool false),(.bool false),(.bool false),(.bool false),(.bool false),(.bool false),(.bool false),(.bool false),(.bool false),(.bool false),(.bool false),(.bool false),(.bool false),(.bool false),(.bool false),(.bool false),(.bool false),(.bool false),(.bool false),(.bool false),(.bool false),(.bool false),(.bool false),(.bool false),(.bool false),(.bool false),(.bool false),(.bool false),(.bool false),(.bool false),(.bool false),(.bool false),(.bool false),(.bool false),(.bool false),(.bool false),(.bool false),(.bool false),(.bool false),(.bool false),(.bool false),(.bool false),(.bool false),(.bool false),(.bool false),(.bool false),(.bool false),(.bool false),(.bool false),(.bool false),(.bool false),(.bool false),(.bool false),(.bool false),(.bool false),(.bool false),(.bool false),(.bool false),(.bool false),(.bool false),(.bool false),(.bool false),(.bool false),(.bool false),(.bool false),(.bool false),(.bool false),(.bool false),(.bool false),(.bool false),(.bool false),(.bool false),(.bool false),(.bool false),(.bool false),(.bool false),(.bool false),(.bool false),(.bool false),(.bool false),(.bool false),(.bool false),(.bool false),(.bool false),(.bool false),(.bool false),(.bool false),(.bool false),(.bool false),(.bool false),(.bool false),(.bool false),(.bool false),(.bool false),(.bool false),(.bool false),(.bool false),(.bool false),(.bool false),(.bool false),(.bool false),(.bool false),(.bool false),(.bool false),(.bool false),(.bool false),(.bool false),(.bool false),(.bool false),(.bool false),(.bool false),(.bool false),(.bool false),(.bool false),(.bool false),(.bool false),(.bool false),(.bool false),(.bool false),(.bool false),(.bool false),(.bool false),(.bool false),(.bool false),(.bool false),(.bool false),(.bool false),(.bool false),(.bool false),(.bool false),(.bool false),(.bool false),(.bool false),(.bool false),(.bool false),(.bool false),(.bool false),(.bool false),(.bool false),(.bool false),(.bool false),(.bool false),(.bool false),(.bool false),(.bool false),(.bool false),(.bool false),(.bool false),(.bool false),(.bool false),(.bool false),(.bool false),(.bool false),(.bool false),(.bool false),(.bool false),(.bool false),(.bool false),(.bool false),(.bool false),(.bool false),(.bool false),(.bool false),(.bool false),(.bool false),(.bool false),(.bool false),(.bool false),(.bool false)],[]⟩
theorem ty369:C.ty 369 = some T369:=by kernel_rfl
theorem tw369 {Q:Ctx} (hK:K Q):Q.ty 369 = some T369:=hK.ty_ ty369
end Go.Proofs.L06
