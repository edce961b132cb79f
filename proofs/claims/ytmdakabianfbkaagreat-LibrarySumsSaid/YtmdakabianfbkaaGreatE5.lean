/- An abstract interpreter over a loaded program and its soundness against the model, part 5: for every context that fits the program. -/
import Derived.Test.YtmdakabianfbkaaGreatE4
set_option linter.unusedVariables false
set_option linter.unusedSimpArgs false
set_option linter.unusedSectionVars false
namespace Go.AE
open Go
inductive XO where
  | t (n : Nat)
  | c (v : AV)
def XO.val (fr : Fr) : XO → AV | .t n => fr.tmps n | .c v => v
def compO (C : Ctx) : Operand → XO
  | .tmp t => .t t
  | .const v => .c (ofV v)
  | .global g => .c (match C.glob g with | some cs => .cptr cs | none => .any)
  | .func f => .c (.func (.func f) [] [])
theorem compO_val {C : Ctx} {fr : Fr} (x : Operand) : (compO C x).val fr = oval C fr x := by cases x <;> rfl
inductive XOp where
  | mv (x : XO)
  | pick (c a b : XO)
  | alloc (e : TypeId) (zero : List AV)
  | box (e : TypeId) (x : XO)
  | build (zero : List AV) (places : List (Nat × Nat)) (parts : List (Nat × XO))
  | buildS (mu : Bool) (e : TypeId) (size len : Nat) (parts : List (Nat × XO))
  | load (agg : Bool) (size : Nat) (a : XO)
  | store (size : Nat) (a x : XO)
  | binI (op : BinOp) (t : TypeId) (xo yo : Operand) (x y : XO)
  | binS (op : BinOp) (t : TypeId) (xo yo : Operand) (x y : XO)
  | un (op : UnOp) (x : XO)
  | fieldAddr (off : Nat) (x : XO)
  | field (off : Nat) (agg : Bool) (size : Nat) (x : XO)
  | idxS (size : Nat) (x i : XO)
  | idxStr (x i : XO)
  | extract (x : XO) (i : Nat)
  | lenS (x : XO)
  | lenStr (x : XO)
  | app (mu : Bool) (e : TypeId) (ei : TI) (s x : XO)
  | mkFunc (f : FuncId) (first captured : List XO)
  | call (f : XO) (args : List XO)
  | gen (o : Oper)
def partX (agg : Bool) (size : Nat) (cs : List AV) : Option AV :=
  if agg then (if (cs.take size).length = size then some (.agg (cs.take size)) else none) else cs.head?
def ldX (st : St) (agg : Bool) (size : Nat) : AV → Option AV
  | .ptr l off => (match st.heap l with
    | .mem _ cells _ _ => partX agg size (cells.drop off)
    | _ => none)
  | .cptr cells => partX agg size cells
  | _ => none
def addrX (off : Nat) : AV → Option AV
  | .ptr l o => some (.ptr l (o + off))
  | .cptr cells => some (.cptr (cells.drop off))
  | _ => none
def idxX (size : Nat) (x : AV) (i : Nat) : Option AV :=
  match x with
  | .slice _ es => (match es[i]? with
    | some v => if v.cells.length = size then some (.cptr v.cells) else none
    | none => none)
  | .row l off len _ => if i < len then some (.ptr l (off + i * size)) else none
  | _ => none
def lenX : AV → Option AV
  | .slice _ es => some (goI es.length)
  | .row _ _ len _ => some (goI len)
  | _ => none
def partsX (fr : Fr) (ps : List (Nat × XO)) : List (Nat × AV) := ps.map fun p => (p.1, p.2.val fr)
def binIX (C : Ctx) (op : BinOp) (t : TypeId) (xo yo : Operand) (x y : AV) : Option AV :=
  match x, y with
  | .int k a, .int k' b => (match op with
    | .shl | .shr => shiftOp op k a b
    | _ => if k = k' then intOp op k a b else none)
  | x, y => binA C op t xo yo x y
def binSX (C : Ctx) (op : BinOp) (t : TypeId) (xo yo : Operand) (x y : AV) : Option AV :=
  match x, y with
  | .str a, .str b => strOp op a b
  | x, y => binA C op t xo yo x y
def opX (C : Ctx) (mu ro : Bool) (fr : Fr) (st : St) : XOp → Option OPR
  | .mv x => some (.val (x.val fr) st)
  | .pick c a b => (match c.val fr with | .bool x => some (.val (if x then a.val fr else b.val fr) st) | _ => none)
  | .alloc e zero => some (.val (.ptr st.next 0) (st.push (.mem e zero true 0)))
  | .box e x => if (x.val fr).isAny then none else some (.val (.ptr st.next 0) (st.push (.mem e (x.val fr).cells true 0)))
  | .build zero places parts => ov st ((fillA (places[·]?) zero (partsX fr parts)).map .agg)
  | .buildS mu e size len parts => if (partsX fr parts).length = len ∧ len * size ≤ 1048576 then (match elemsA size 0 (partsX fr parts) with
    | some es => if mu then (if 0 < size then some (.val (.row st.next 0 len none) (st.push (.mem e (flat es) true 0))) else none) else some (.val (.slice .exact es) st)
    | none => none) else none
  | .load agg size a => ov st (ldX st agg size (a.val fr))
  | .store size a x => (match a.val fr with
    | .ptr l off => if (x.val fr).cells.length = size then (sto st l off (x.val fr).cells).map fun st => .val undefA st else none
    | _ => none)
  | .binI op t xo yo x y => ov st (binIX C op t xo yo (x.val fr) (y.val fr))
  | .binS op t xo yo x y => ov st (binSX C op t xo yo (x.val fr) (y.val fr))
  | .un op x => ov st (unA op (x.val fr))
  | .fieldAddr off x => ov st (addrX off (x.val fr))
  | .field off agg size x => (match x.val fr with | .agg cs => ov st (partX agg size (cs.drop off)) | _ => none)
  | .idxS size x i => (match natOf (i.val fr) with | some i => ov st (idxX size (x.val fr) i) | none => none)
  | .idxStr x i => (match natOf (i.val fr), x.val fr with | some i, .str s => ov st ((s[i]?).map fun b => .int .u8 (.ofNat b)) | _, _ => none)
  | .extract x i => (match x.val fr with | .tuple vs => ov st vs[i]? | _ => none)
  | .lenS x => ov st (lenX (x.val fr))
  | .lenStr x => (match x.val fr with | .str s => some (.val (goI s.length) st) | _ => none)
  | .app mu e ei s x => ovs ((elemsOf st ei (x.val fr)).bind (appendA mu st e ei (s.val fr)))
  | .mkFunc f first captured => some (.val (.func (.func f) (first.map (XO.val fr)) (captured.map (XO.val fr))) st)
  | .call _ _ => none
  | .gen o => opA C mu ro fr st o
def calleeX (fr : Fr) (f : XO) (args : List XO) : Option (Tgt × List AV) :=
  match f.val fr with
  | .func (.func g) first captured => some (.fn g, first ++ args.map (XO.val fr) ++ captured)
  | .func (.yield l) [] [] => some (.yield l, args.map (XO.val fr))
  | _ => none
def callX (call : CallF) (C : Ctx) (d : Option Tmp) (fr : Fr) (st : St) : XOp → Option Out
  | .call f args => (match calleeX fr f args with
    | some (tgt, args) => (match call tgt args .normal st with
      | some (.ret v, st, _) => some (.norm, fr.put d v, st)
      | some (.pan v, st, _) => some (.pan v, fr, st)
      | none => none)
    | none => none)
  | .gen o => callA call C o fr st
  | _ => none
def runOpX (call : CallF) (C : Ctx) (mu : Bool) (ro : Bool) (d : Option Tmp) (o : XOp) (fr : Fr) (st : St) : Option Out :=
  match opX C mu ro fr st o with
  | some (.val v st) => some (.norm, fr.put d v, st)
  | some (.pan v st) => some (.pan v, fr, st)
  | some (.dfr x st) => some (.norm, Fr.put { fr with defs := x :: fr.defs } d undefA, st)
  | some .rcv => (match fr.pv with | some v => some (.norm, Fr.put { fr with pv := none } d v, st) | none => none)
  | none => callX call C d fr st o
def compCall (C : Ctx) (mu : Bool) (o : Oper) (c : Call) : XOp :=
  match c.callee, c.args.toList, c.argTypes.toList with
  | .value f, args, _ => .call (compO C f) (args.map (compO C))
  | .builtin .len, [x], t :: _ => (match C.ty t with
    | some { und := .slice _, .. } => .lenS (compO C x)
    | some { und := .string, .. } => .lenStr (compO C x)
    | _ => .gen o)
  | .builtin .append, [s, x], t :: u :: _ => (match elemTI C t, C.ty u with
    | some (e, ei), some { und := .slice _, .. } => .app mu e ei (compO C s) (compO C x)
    | some (e, ei), some { und := .string, .. } => .app mu e ei (compO C s) (compO C x)
    | _, _ => .gen o)
  | _, _, _ => .gen o
def compOp (C : Ctx) (mu : Bool) (o : Oper) : XOp :=
  match o.op with
  | .move x | .assign x => .mv (compO C x)
  | .pick c a b => .pick (compO C c) (compO C a) (compO C b)
  | .alloc e => (match C.ty e with | some ei => .alloc e ei.zero | none => .gen o)
  | .box e x => .box e (compO C x)
  | .build t parts => (match C.ty t with
    | some { und := .struct _, zero := z, places := pl, .. } => .build z pl (parts.toList.map fun p => (p.1, compO C p.2))
    | _ => .gen o)
  | .buildSlice t len parts => (match elemTI C t with
    | some (e, ei) => .buildS mu e ei.size len (parts.toList.map fun p => (p.1, compO C p.2))
    | none => .gen o)
  | .load t a => (match C.ty t with | some ti => .load ti.isAgg ti.size (compO C a) | none => .gen o)
  | .store t a x => (match C.ty t with | some ti => .store ti.size (compO C a) (compO C x) | none => .gen o)
  | .binOp op t x y _ => (match C.ty t with
    | some { und := .int _, .. } => .binI op t x y (compO C x) (compO C y)
    | some { und := .string, .. } => .binS op t x y (compO C x) (compO C y)
    | _ => .gen o)
  | .unOp op _ x => .un op (compO C x)
  | .fieldAddr t x f => (match fieldPl C t f with
    | some (off, fi) => if fi.size = 0 then .gen o else .fieldAddr off (compO C x)
    | none => .gen o)
  | .field t x f => (match fieldPl C t f with
    | some (off, fi) => .field off fi.isAgg fi.size (compO C x)
    | none => .gen o)
  | .indexAddr t x i => (match elemTI C t with
    | some (_, ei) => .idxS ei.size (compO C x) (compO C i)
    | none => .gen o)
  | .index t x i => (match C.ty t with
    | some { und := .string, .. } => .idxStr (compO C x) (compO C i)
    | _ => .gen o)
  | .extract x i => .extract (compO C x) i
  | .makeFunc (.func f) first captured => .mkFunc f (first.toList.map (compO C)) (captured.toList.map (compO C))
  | .call c => compCall C mu o c
  | _ => .gen o
section
variable {C : Ctx} {mu ro : Bool} {fr : Fr} {st : St} {call : CallF}
theorem parts_eq (ps : Array (Nat × Operand)) : partsX fr (ps.toList.map fun p => (p.1, compO C p.2)) = ps.toList.map fun p => (p.1, oval C fr p.2) := by
  simp only [partsX, List.map_map]
  exact List.map_congr_left fun p _ => by simp [compO_val]
theorem vals_eq (xs : Array Operand) : (xs.toList.map (compO C)).map (XO.val fr) = xs.toList.map (oval C fr) := by
  rw [List.map_map]
  exact List.map_congr_left fun p _ => by simp [compO_val]
theorem elemTI_some {t e : TypeId} {ei : TI} (h : elemTI C t = some (e, ei)) : ∃ ti, C.ty t = some ti ∧ ti.und = .slice e ∧ C.ty e = some ei := by
  unfold elemTI at h
  split at h
  · rename_i e' a b c d f heq
    cases he : C.ty e' with
    | none => rw [he] at h; cases h
    | some x => rw [he] at h; cases h; exact ⟨_, heq, rfl, he⟩
  · cases h
theorem compOp_eq (o : Oper) : opX C mu ro fr st (compOp C mu o) = opA C mu ro fr st o ∧ callX call C o.dst fr st (compOp C mu o) = callA call C o fr st := by
  obtain ⟨dst, op, ty, pos, after, guard⟩ := o
  have gen : ∀ o : Oper, opX C mu ro fr st (.gen o) = opA C mu ro fr st o ∧ callX call C o.dst fr st (.gen o) = callA call C o fr st := fun o => ⟨rfl, rfl⟩
  cases op <;> simp only [compOp] <;> first | exact gen _ | skip
  case move x => exact ⟨by simp [opX, opA, compO_val], rfl⟩
  case assign x => exact ⟨by simp [opX, opA, compO_val], rfl⟩
  case pick c a b => exact ⟨by simp only [opX, opA, compO_val]; rfl, rfl⟩
  case alloc e =>
    split
    · rename_i ei he; exact ⟨by simp [opX, opA, he], rfl⟩
    · exact gen _
  case box e x => exact ⟨by simp [opX, opA, compO_val], rfl⟩
  case build t ps =>
    split
    · rename_i he; exact ⟨by simp only [opX, opA, buildA, parts_eq, he], rfl⟩
    · exact gen _
  case buildSlice t len ps =>
    split
    · rename_i e ei he
      refine ⟨?_, rfl⟩
      simp only [opX, opA, buildSliceA, parts_eq, he]
      generalize (ps.toList.map fun p => (p.1, oval C fr p.2)) = q
      split
      · cases elemsA ei.size 0 q with
        | none => rfl
        | some es =>
          simp only
          split
          · split <;> rfl
          · rfl
      · rfl
    · exact gen _
  case load t a =>
    split
    · rename_i ti he
      refine ⟨?_, rfl⟩
      simp only [opX, opA, ld, he, compO_val]
      cases oval C fr a <;> rfl
    · exact gen _
  case store t a x =>
    split
    · rename_i ti he
      refine ⟨?_, rfl⟩
      simp only [opX, opA, sizeIs, he, compO_val, Option.map_some]
      cases oval C fr a <;> rfl
    · exact gen _
  case binOp op t x y yt =>
    split
    · refine ⟨?_, rfl⟩
      simp only [opX, opA, compO_val]
      congr 1
      unfold binIX
      split
      · rename_i h1 h2; rw [h1, h2]; rfl
      · rfl
    · refine ⟨?_, rfl⟩
      simp only [opX, opA, compO_val]
      congr 1
      unfold binSX
      split
      · rename_i h1 h2; rw [h1, h2]; rfl
      · rfl
    · exact gen _
  case unOp op t x => exact ⟨by simp [opX, opA, compO_val], rfl⟩
  case fieldAddr t x f =>
    split
    · rename_i off fi he
      split
      · exact gen _
      · rename_i hz
        refine ⟨?_, rfl⟩
        simp only [opX, opA, fieldAddrA, he, compO_val, if_neg hz]
        cases oval C fr x <;> rfl
    · exact gen _
  case field t x f =>
    split
    · rename_i off fi he
      refine ⟨?_, rfl⟩
      simp only [opX, opA, fieldA, he, compO_val]
      cases oval C fr x <;> rfl
    · exact gen _
  case indexAddr t x i =>
    split
    · rename_i e ei he
      obtain ⟨ti, h1, h2, h3⟩ := elemTI_some he
      obtain ⟨u, y1, y2, y3, y4, y5⟩ := ti
      simp only at h2
      subst h2
      refine ⟨?_, rfl⟩
      simp only [opX, opA, compO_val, indexAddrA, h1, sizeIs, h3, Option.map_some]
      cases natOf (oval C fr i) with
      | none => rfl
      | some n => cases oval C fr x <;> rfl
    · exact gen _
  case index t x i =>
    split
    · rename_i he
      refine ⟨?_, rfl⟩
      simp only [opX, opA, compO_val, indexA, he]
      cases natOf (oval C fr i) with
      | none => rfl
      | some n => cases oval C fr x <;> rfl
    · exact gen _
  case extract x i => exact ⟨by simp only [opX, opA, compO_val]; cases oval C fr x <;> rfl, rfl⟩
  case makeFunc fn first captured =>
    cases fn <;> simp only [] <;> first | exact gen _ | skip
    exact ⟨by simp only [opX, opA, vals_eq], rfl⟩
  case call c =>
    unfold compCall
    split
    · rename_i _ _ _ f h1
      refine ⟨?_, ?_⟩
      · simp only [opX, opA, h1]
      · simp only [callX, callA, calleeX, calleeA, compO_val, h1, vals_eq]
        rfl
    · rename_i x t ts h1 h2 h3
      split
      · rename_i he
        refine ⟨?_, by simp only [callX, callA, calleeA, h1]⟩
        simp only [opX, opA, builtinA, h1, h2, h3, List.map_cons, List.map_nil, lenA, he, compO_val]
        cases oval C fr x <;> rfl
      · rename_i he
        refine ⟨?_, by simp only [callX, callA, calleeA, h1]⟩
        simp only [opX, opA, builtinA, h1, h2, h3, List.map_cons, List.map_nil, lenA, he, compO_val]
        cases oval C fr x <;> rfl
      · exact gen _
    · rename_i s x t u ts h1 h2 h3
      split
      · rename_i k1 k2
        refine ⟨?_, by simp only [callX, callA, calleeA, h1]⟩
        simp only [opX, opA, builtinA, h1, h2, h3, List.map_cons, List.map_nil, builtinAppend, k1, k2, compO_val]
      · rename_i k1 k2
        refine ⟨?_, by simp only [callX, callA, calleeA, h1]⟩
        simp only [opX, opA, builtinA, h1, h2, h3, List.map_cons, List.map_nil, builtinAppend, k1, k2, compO_val]
      · exact gen _
    · exact gen _
theorem runOpX_eq (o : Oper) : runOpX call C mu ro o.dst (compOp C mu o) fr st = runOp call C mu ro o fr st := by
  unfold runOpX runOp
  rw [(compOp_eq (ro := ro) (call := call) o).1, (compOp_eq (mu := mu) (ro := ro) o).2]
  rfl
end
end Go.AE

namespace Go.AE
open Go
structure XR where
  d : Option Tmp
  o : XOp
  g : Option (Option Tmp × Bool)
inductive XC where
  | skip
  | ops (l : List XR)
  | draw (ops : Array Oper) (l : List XR)
  | seq (a b : XC)
  | cond (c : XO) (a b : XC)
  | block (id : Nat) (b : XC)
  | loop (b : XC)
  | rangeFunc (f : XO) (params : List Tmp) (assign body : Code)
  | exit (id : Nat)
  | goto (l : Nat)
  | ret
  | bad
def compR (C : Ctx) (mu : Bool) (o : RO) : XR := ⟨o.d, compOp C mu o.oper, o.g⟩
def compC (C : Ctx) (mu : Bool) : RC → XC
  | .skip => .skip
  | .ops l => .ops (l.map (compR C mu))
  | .draw ops => .draw ops ((ops.toList.map (resolve ops)).map (compR C mu))
  | .seq a b => .seq (compC C mu a) (compC C mu b)
  | .cond c a b => .cond (compO C c) (compC C mu a) (compC C mu b)
  | .block id b => .block id (compC C mu b)
  | .loop b => .loop (compC C mu b)
  | .rangeFunc f params assign body _ _ => .rangeFunc (compO C f) params assign body
  | .exit id => .exit id
  | .goto l => .goto l
  | .ret => .ret
  | .bad => .bad
def runX (call : CallF) (C : Ctx) (mu : Bool) (ro : Bool) : List XR → Fr → St → Option Out
  | [], fr, st => some (.norm, fr, st)
  | o :: rest, fr, st => (guardA fr o.g).bind fun b =>
      if b then (match runOpX call C mu ro o.d o.o fr st with
        | some (.norm, fr, st) => runX call C mu ro rest fr st
        | r => r)
      else runX call C mu ro rest (fr.put o.d undefA) st
theorem runR_eq {call : CallF} {C : Ctx} {mu ro : Bool} : ∀ {l : List RO} {fr : Fr} {st : St}, runR call C mu ro l fr st = runX call C mu ro (l.map (compR C mu)) fr st
  | [], _, _ => rfl
  | o :: l, fr, st => by
    simp only [runR, List.map_cons, runX]
    have h : (compR C mu o).g = o.g ∧ (compR C mu o).d = o.d := ⟨rfl, rfl⟩
    rw [h.1, h.2]
    cases guardA fr o.g with
    | none => rfl
    | some b =>
      cases b with
      | false => exact runR_eq
      | true =>
        simp only [Option.bind_some, if_true]
        have e : runOpX call C mu ro o.d (compR C mu o).o fr st = runOp call C mu ro o.oper fr st := runOpX_eq o.oper
        rw [e]
        cases runOp call C mu ro o.oper fr st with
        | none => rfl
        | some o1 =>
          obtain ⟨e, fr1, st1⟩ := o1
          cases e with
          | norm => exact runR_eq
          | _ => rfl
noncomputable def execX (call : CallF) (C : Ctx) (mu : Bool) (n : Option Nat) (self : FuncId) (ro : Option Nat) : XC → Fr → St → Option Out
  | .skip, fr, st => some (.norm, fr, st)
  | .ops l, fr, st => runX call C mu ro.isSome l fr st
  | .draw ops _, fr, st => region call C mu ro.isSome ops true fr st
  | .seq a b, fr, st => (match execX call C mu n self ro a fr st with
    | some (.norm, fr, st) => execX call C mu n self ro b fr st
    | r => r)
  | .cond c a b, fr, st => (match c.val fr with
    | .bool x => if x then execX call C mu n self ro a fr st else execX call C mu n self ro b fr st
    | _ => none)
  | .block id b, fr, st => (match execX call C mu n self ro b fr st with
    | some (.exit i, fr, st) => if i = id then some (.norm, fr, st) else some (.exit i, fr, st)
    | r => r)
  | .loop b, fr, st => iterO (execX call C mu n self ro b) n fr st
  | .rangeFunc f params assign body, fr, st => (match f.val fr with
    | .func (.func g) first captured => if (C.fn g).isNone then none else (match ro with
      | none => rangeLoop call self g first captured params assign body st.next { fr with defs := ⟨none, st.next, []⟩ :: fr.defs } (st.push .dfr)
      | some l0 => (match st.heap l0 with
        | .loop _ _ _ _ _ _ _ _ d => rangeLoop call self g first captured params assign body d fr st
        | _ => none))
    | _ => none)
  | .exit id, fr, st => some (.exit id, fr, st)
  | .goto l, fr, st => some (.goto l, fr, st)
  | .ret, fr, st => some (.ret, fr, st)
  | .bad, _, _ => none
theorem execR_eq (call : CallF) (C : Ctx) (n : Option Nat) (self : FuncId) (ro : Option Nat) : ∀ c : RC, execR call C n self ro c = execX call C (C.mu self) n self ro (compC C (C.mu self) c) := by
  intro c
  induction c with
  | ops l => funext fr st; simp only [execR, compC, execX]; exact runR_eq
  | seq a b iha ihb => funext fr st; simp only [execR, compC, execX, iha, ihb]; rfl
  | cond x a b iha ihb => funext fr st; simp only [execR, compC, execX, iha, ihb, compO_val]; rfl
  | block id a iha => funext fr st; simp only [execR, compC, execX, iha]; rfl
  | loop a iha => funext fr st; simp only [execR, compC, execX, iha]
  | rangeFunc f params assign body _ _ => funext fr st; simp only [execR, compC, execX, compO_val]; rfl
  | _ => rfl
def codeOf (C : Ctx) (f : FuncId) (fi : FI) : XC := compC C (C.mu f) (resolveC fi.body)
theorem exec_codeOf (call : CallF) (C : Ctx) (n : Option Nat) (f : FuncId) (ro : Option Nat) (fi : FI) : exec call C n f ro fi.body = execX call C (C.mu f) n f ro (codeOf C f fi) := by
  rw [exec_eq, execR_eq]; rfl
def drawsOf : Code → List (Array Oper)
  | .region _ ops true => [ops]
  | .seq a b => drawsOf a ++ drawsOf b
  | .cond _ a b => drawsOf a ++ drawsOf b
  | .block _ b => drawsOf b
  | .loop b => drawsOf b
  | .rangeFunc _ _ a b => drawsOf a ++ drawsOf b
  | .scope b => drawsOf b
  | _ => []
def rangesOf : Code → List (Code × Code)
  | .seq a b => rangesOf a ++ rangesOf b
  | .cond _ a b => rangesOf a ++ rangesOf b
  | .block _ b => rangesOf b
  | .loop b => rangesOf b
  | .rangeFunc _ _ a b => (a, b) :: (rangesOf a ++ rangesOf b)
  | .scope b => rangesOf b
  | _ => []
end Go.AE
