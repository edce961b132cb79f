/- An abstract interpreter over a loaded program and its soundness against the model, part 6: for every context that fits the program. -/
import Derived.Test.YtdlahjpoiichkaaGreatDoorE5
set_option linter.unusedVariables false
set_option linter.unusedSimpArgs false
set_option linter.unusedSectionVars false
namespace Go.AE
open Go
structure XR where
 d:Option Tmp
 o:XOp
 g:Option (Option Tmp × Bool)
inductive XC where
 | skip
 | ops (l:List XR)
 | draw (ops:Array Oper) (l:List XR)
 | seq (a b:XC)
 | cond (c:XO) (a b:XC)
 | block (id:Nat) (b:XC)
 | loop (b:XC)
 | rangeFunc (f:XO) (params:List Tmp) (assign body:Code)
 | exit (id:Nat)
 | goto (l:Nat)
 | ret
 | bad
def compR (C:Ctx) (mu:Bool) (o:RO):XR:=⟨o.d,compOp C mu o.oper,o.g⟩
def compC (C:Ctx) (mu:Bool):RC → XC
 | .skip => .skip
 | .ops l => .ops (l.map (compR C mu))
 | .draw ops => .draw ops ((ops.toList.map (resolve ops)).map (compR C mu))
 | .seq a b => .seq (compC C mu a) (compC C mu b)
 | .cond c a b => .cond (compO C c) (compC C mu a) (compC C mu b)
 | .block id b => .block id (compC C mu b)
 | .loop b => .loop (compC C mu b)
 | .rangeFunc f params assign body _ _ => .rangeFunc (compO C f) params assign body
 | .exit id => .exit id
 | .goto l => .goto l
 | .ret => .ret
 | .bad => .bad
def runX (call:CallF) (C:Ctx) (mu:Bool) (ro:Bool):List XR → Fr → St → Option Out
 | [],fr,st => some (.norm,fr,st)
 | o :: rest,fr,st => (guardA fr o.g).bind fun b =>
   if b then (match runOpX call C mu ro o.d o.o fr st with
    | some (.norm,fr,st) => runX call C mu ro rest fr st
    | r => r)
   else runX call C mu ro rest (fr.put o.d undefA) st
theorem runR_eq {call:CallF} {C:Ctx} {mu ro:Bool}:∀ {l:List RO} {fr:Fr} {st:St},runR call C mu ro l fr st = runX call C mu ro (l.map (compR C mu)) fr st
 | [],_,_ => rfl
 | o :: l,fr,st => by
  simp only [runR,List.map_cons,runX]
  have h:(compR C mu o).g = o.g ∧ (compR C mu o).d = o.d:=⟨rfl,rfl⟩
  rw [h.1,h.2]
  cases guardA fr o.g with
  | none => rfl
  | some b =>
   cases b with
   | false => exact runR_eq
   | true =>
    simp only [Option.bind_some,if_true]
    have e:runOpX call C mu ro o.d (compR C mu o).o fr st = runOp call C mu ro o.oper fr st:=runOpX_eq o.oper
    rw [e]
    cases runOp call C mu ro o.oper fr st with
    | none => rfl
    | some o1 =>
     obtain ⟨e,fr1,st1⟩:=o1
     cases e with
     | norm => exact runR_eq
     | _ => rfl
noncomputable def execX (call:CallF) (C:Ctx) (mu:Bool) (n:Option Nat) (self:FuncId) (ro:Option Nat):XC → Fr → St → Option Out
 | .skip,fr,st => some (.norm,fr,st)
 | .ops l,fr,st => runX call C mu ro.isSome l fr st
 | .draw ops _,fr,st => region call C mu ro.isSome ops true fr st
 | .seq a b,fr,st => (match execX call C mu n self ro a fr st with
  | some (.norm,fr,st) => execX call C mu n self ro b fr st
  | r => r)
 | .cond c a b,fr,st => (match c.val fr with
  | .bool x => if x then execX call C mu n self ro a fr st else execX call C mu n self ro b fr st
  | _ => none)
 | .block id b,fr,st => (match execX call C mu n self ro b fr st with
  | some (.exit i,fr,st) => if i = id then some (.norm,fr,st) else some (.exit i,fr,st)
  | r => r)
 | .loop b,fr,st => iterO (execX call C mu n self ro b) n fr st
 | .rangeFunc f params assign body,fr,st => (match f.val fr with
  | .func (.func g) first captured => if (C.fn g).isNone then none else (match ro with
   | none => rangeLoop call self g first captured params assign body st.next { fr with defs:=⟨none,st.next,[]⟩ :: fr.defs } (st.push .dfr)
   | some l0 => (match st.heap l0 with
    | .loop _ _ _ _ _ _ _ _ d => rangeLoop call self g first captured params assign body d fr st
    | _ => none))
  | _ => none)
 | .exit id,fr,st => some (.exit id,fr,st)
 | .goto l,fr,st => some (.goto l,fr,st)
 | .ret,fr,st => some (.ret,fr,st)
 | .bad,_,_ => none
theorem execR_eq (call:CallF) (C:Ctx) (n:Option Nat) (self:FuncId) (ro:Option Nat):∀ c:RC,execR call C n self ro c = execX call C (C.mu self) n self ro (compC C (C.mu self) c):=by
 intro c
 induction c with
 | ops l => funext fr st; simp only [execR,compC,execX]; exact runR_eq
 | seq a b iha ihb => funext fr st; simp only [execR,compC,execX,iha,ihb]; rfl
 | cond x a b iha ihb => funext fr st; simp only [execR,compC,execX,iha,ihb,compO_val]; rfl
 | block id a iha => funext fr st; simp only [execR,compC,execX,iha]; rfl
 | loop a iha => funext fr st; simp only [execR,compC,execX,iha]
 | rangeFunc f params assign body _ _ => funext fr st; simp only [execR,compC,execX,compO_val]; rfl
 | _ => rfl
def codeOf (C:Ctx) (f:FuncId) (fi:FI):XC:=compC C (C.mu f) (resolveC fi.body)
theorem exec_codeOf (call:CallF) (C:Ctx) (n:Option Nat) (f:FuncId) (ro:Option Nat) (fi:FI):exec call C n f ro fi.body = execX call C (C.mu f) n f ro (codeOf C f fi):=by
 rw [exec_eq,execR_eq]; rfl
def drawsOf:Code → List (Array Oper)
 | .region _ ops true => [ops]
 | .seq a b => drawsOf a ++ drawsOf b
 | .cond _ a b => drawsOf a ++ drawsOf b
 | .block _ b => drawsOf b
 | .loop b => drawsOf b
 | .rangeFunc _ _ a b => drawsOf a ++ drawsOf b
 | .scope b => drawsOf b
 | _ => []
def rangesOf:Code → List (Code × Code)
 | .seq a b => rangesOf a ++ rangesOf b
 | .cond _ a b => rangesOf a ++ rangesOf b
 | .block _ b => rangesOf b
 | .loop b => rangesOf b
 | .rangeFunc _ _ a b => (a,b) :: (rangesOf a ++ rangesOf b)
 | .scope b => rangesOf b
 | _ => []
end Go.AE
