/- An abstract interpreter over a loaded program and its soundness against the model, part 6: for every context that fits the program. -/
import Derived.Test.YtmdakabianfbkaaGreatE5
set_option linter.unusedVariables false
set_option linter.unusedSimpArgs false
set_option linter.unusedSectionVars false
namespace Go.AE
open Go
theorem call_by {C : Ctx} {f : FuncId} {fi : FI} {x : XC} {args : List AV} {st : St} {r : CR × St × Option AV} (hf : C.fn f = some fi) (hX : C.X f args st = none) (hx : codeOf C f fi = x) {mu : Bool} (hmu : C.mu f = mu)
    (h : (execX (callW C) C mu none f none x ⟨argTmps args, max fi.ntmps args.length, [], none⟩ ⟨st.heap, st.next, []⟩).bind (fun o => finishFn (callW C) C f fi .normal st o.1 o.2.1 o.2.2) = some r) :
    callW C (.fn f) args .normal st = some r := by
  refine callW_fn hf hX ?_
  unfold enterFn
  rw [exec_codeOf, hx, hmu]
  simp only [Knd.pv]
  cases hq : execX (callW C) C mu none f none x ⟨argTmps args, max fi.ntmps args.length, [], none⟩ ⟨st.heap, st.next, []⟩ with
  | none => rw [hq] at h; cases h
  | some o => rw [hq] at h; exact h
theorem id_false : ¬ False := id
def seqK (k : Fr → St → Option Out) : Out → Option Out
  | (.norm, fr, st) => k fr st
  | r => some r
def blockK (id : Nat) : Out → Option Out
  | (.exit i, fr, st) => if i = id then some (.norm, fr, st) else some (.exit i, fr, st)
  | r => some r
theorem seqK_norm {k : Fr → St → Option Out} {fr : Fr} {st : St} : seqK k (.norm, fr, st) = k fr st := (rfl)
theorem seqK_ret {k : Fr → St → Option Out} {fr : Fr} {st : St} : seqK k (.ret, fr, st) = some (.ret, fr, st) := (rfl)
theorem seqK_exit {k : Fr → St → Option Out} {i : Nat} {fr : Fr} {st : St} : seqK k (.exit i, fr, st) = some (.exit i, fr, st) := (rfl)
theorem seqK_pan {k : Fr → St → Option Out} {v : AV} {fr : Fr} {st : St} : seqK k (.pan v, fr, st) = some (.pan v, fr, st) := (rfl)
theorem blockK_norm {id : Nat} {fr : Fr} {st : St} : blockK id (.norm, fr, st) = some (.norm, fr, st) := (rfl)
theorem blockK_ret {id : Nat} {fr : Fr} {st : St} : blockK id (.ret, fr, st) = some (.ret, fr, st) := (rfl)
theorem blockK_pan {id : Nat} {v : AV} {fr : Fr} {st : St} : blockK id (.pan v, fr, st) = some (.pan v, fr, st) := (rfl)
theorem blockK_hit {id : Nat} {fr : Fr} {st : St} : blockK id (.exit id, fr, st) = some (.norm, fr, st) := if_pos rfl
theorem blockK_miss {id i : Nat} {fr : Fr} {st : St} (h : (i = id) = False) : blockK id (.exit i, fr, st) = some (.exit i, fr, st) := if_neg (by rw [h]; exact id_false)
section
variable {call : CallF} {C : Ctx} {mu mu2 ro : Bool} {fr : Fr} {st : St} {d : Option Tmp} {l : List XR} {n : Option Nat} {self : FuncId} {ro' : Option Nat}
theorem put_mk {t : Nat → AV} {m : Nat} {ds : List ADef} {p : Option AV} {x : Nat} {v : AV} (h : x < m) : Fr.put ⟨t, m, ds, p⟩ (some x) v = ⟨upd t x v, m, ds, p⟩ := by simp only [Fr.put, if_pos h]
theorem put_none {v : AV} : Fr.put fr none v = fr := (rfl)
theorem val_t {t : Nat → AV} {m : Nat} {ds : List ADef} {p : Option AV} {k : Nat} : XO.val ⟨t, m, ds, p⟩ (.t k) = t k := (rfl)
theorem val_c {v : AV} : XO.val fr (.c v) = v := (rfl)
theorem push_mk {h : Nat → AO} {k : Nat} {lg : List Nat} {o : AO} : St.push ⟨h, k, lg⟩ o = ⟨upd h k o, k + 1, lg⟩ := (rfl)
theorem set_mk {h : Nat → AO} {k : Nat} {lg : List Nat} {q : Nat} {o : AO} : St.set ⟨h, k, lg⟩ q o = ⟨upd h q o, k, q :: lg⟩ := (rfl)
theorem runX_nil : runX call C mu ro [] fr st = some (.norm, fr, st) := (rfl)
theorem runX_tt {o : XOp} {t : Nat} (h : fr.tmps t = .bool true) : runX call C mu ro (⟨d, o, some (some t, true)⟩ :: l) fr st = runX call C mu ro (⟨d, o, none⟩ :: l) fr st := by
  simp only [runX, guardA, h, beq_self_eq_true]
theorem runX_ff {o : XOp} {t : Nat} (h : fr.tmps t = .bool false) : runX call C mu ro (⟨d, o, some (some t, false)⟩ :: l) fr st = runX call C mu ro (⟨d, o, none⟩ :: l) fr st := by
  simp only [runX, guardA, h, beq_self_eq_true]
theorem runX_tf {o : XOp} {t : Nat} (h : fr.tmps t = .bool false) : runX call C mu ro (⟨d, o, some (some t, true)⟩ :: l) fr st = runX call C mu ro l (fr.put d undefA) st := by
  simp only [runX, guardA, h]; rfl
theorem runX_ft {o : XOp} {t : Nat} (h : fr.tmps t = .bool true) : runX call C mu ro (⟨d, o, some (some t, false)⟩ :: l) fr st = runX call C mu ro l (fr.put d undefA) st := by
  simp only [runX, guardA, h]; rfl
theorem runX_mv {x : XO} : runX call C mu ro (⟨d, .mv x, none⟩ :: l) fr st = runX call C mu ro l (fr.put d (x.val fr)) st := (rfl)
theorem runX_pt {c a b : XO} (h : c.val fr = .bool true) : runX call C mu ro (⟨d, .pick c a b, none⟩ :: l) fr st = runX call C mu ro l (fr.put d (a.val fr)) st := by
  simp only [runX, guardA, Option.bind_some, if_true, runOpX, opX, h]
theorem runX_pf {c a b : XO} (h : c.val fr = .bool false) : runX call C mu ro (⟨d, .pick c a b, none⟩ :: l) fr st = runX call C mu ro l (fr.put d (b.val fr)) st := by
  simp only [runX, guardA, Option.bind_some, if_true, runOpX, opX, h, Bool.false_eq_true, if_false]
theorem runX_alloc {e : TypeId} {z : List AV} : runX call C mu ro (⟨d, .alloc e z, none⟩ :: l) fr st = runX call C mu ro l (fr.put d (.ptr st.next 0)) (st.push (.mem e z true 0)) := (rfl)
theorem runX_box {e : TypeId} {x : XO} (h : (x.val fr).isAny = false) : runX call C mu ro (⟨d, .box e x, none⟩ :: l) fr st = runX call C mu ro l (fr.put d (.ptr st.next 0)) (st.push (.mem e (x.val fr).cells true 0)) := by
  simp only [runX, guardA, Option.bind_some, if_true, runOpX, opX, h, Bool.false_eq_true, if_false]
theorem ov_run {o : XOp} {r : Option AV} (ho : opX C mu ro fr st o = ov st r) (hc : callX call C d fr st o = none) : runX call C mu ro (⟨d, o, none⟩ :: l) fr st = r.bind fun v => runX call C mu ro l (fr.put d v) st := by
  simp only [runX, guardA, Option.bind_some, if_true, runOpX, ho]
  cases r with
  | none => simp [ov, hc]
  | some v => rfl
theorem ovs_run {o : XOp} {r : Option (AV × St)} (ho : opX C mu ro fr st o = ovs r) (hc : callX call C d fr st o = none) : runX call C mu ro (⟨d, o, none⟩ :: l) fr st = r.bind fun v => runX call C mu ro l (fr.put d v.1) v.2 := by
  simp only [runX, guardA, Option.bind_some, if_true, runOpX, ho]
  cases r with
  | none => simp [ovs, hc]
  | some v => rfl
theorem runX_build {z : List AV} {pl : List (Nat × Nat)} {ps : List (Nat × XO)} : runX call C mu ro (⟨d, .build z pl ps, none⟩ :: l) fr st = (fillA (pl[·]?) z (partsX fr ps)).bind fun v => runX call C mu ro l (fr.put d (.agg v)) st := by
  rw [ov_run (r := (fillA (pl[·]?) z (partsX fr ps)).map .agg) rfl rfl]
  cases fillA (pl[·]?) z (partsX fr ps) <;> rfl
theorem runX_load {agg : Bool} {size : Nat} {x : XO} : runX call C mu ro (⟨d, .load agg size x, none⟩ :: l) fr st = (ldX st agg size (x.val fr)).bind fun v => runX call C mu ro l (fr.put d v) st := ov_run rfl rfl
theorem runX_binI {op : BinOp} {t : TypeId} {xo yo : Operand} {x y : XO} : runX call C mu ro (⟨d, .binI op t xo yo x y, none⟩ :: l) fr st = (binIX C op t xo yo (x.val fr) (y.val fr)).bind fun v => runX call C mu ro l (fr.put d v) st := ov_run rfl rfl
theorem runX_binS {op : BinOp} {t : TypeId} {xo yo : Operand} {x y : XO} : runX call C mu ro (⟨d, .binS op t xo yo x y, none⟩ :: l) fr st = (binSX C op t xo yo (x.val fr) (y.val fr)).bind fun v => runX call C mu ro l (fr.put d v) st := ov_run rfl rfl
theorem runX_un {op : UnOp} {x : XO} : runX call C mu ro (⟨d, .un op x, none⟩ :: l) fr st = (unA op (x.val fr)).bind fun v => runX call C mu ro l (fr.put d v) st := ov_run rfl rfl
theorem runX_fieldAddr {off : Nat} {x : XO} : runX call C mu ro (⟨d, .fieldAddr off x, none⟩ :: l) fr st = (addrX off (x.val fr)).bind fun v => runX call C mu ro l (fr.put d v) st := ov_run rfl rfl
def idxK (size : Nat) (x : AV) : Option Nat → Option AV | some k => idxX size x k | none => none
theorem idxK_some {size : Nat} {x : AV} {k : Nat} : idxK size x (some k) = idxX size x k := (rfl)
theorem runX_idxS {size : Nat} {x i : XO} : runX call C mu ro (⟨d, .idxS size x i, none⟩ :: l) fr st = (idxK size (x.val fr) (natOf (i.val fr))).bind fun v => runX call C mu ro l (fr.put d v) st :=
  ov_run (by simp only [opX, idxK]; cases natOf (i.val fr) <;> rfl) rfl
theorem runX_lenS {x : XO} : runX call C mu ro (⟨d, .lenS x, none⟩ :: l) fr st = (lenX (x.val fr)).bind fun v => runX call C mu ro l (fr.put d v) st := ov_run rfl rfl
def exV (i : Nat) : AV → Option AV | .tuple vs => vs[i]? | _ => none
theorem exV_tuple {i : Nat} {vs : List AV} : exV i (.tuple vs) = vs[i]? := (rfl)
theorem runX_extract {x : XO} {i : Nat} : runX call C mu ro (⟨d, .extract x i, none⟩ :: l) fr st = (exV i (x.val fr)).bind fun v => runX call C mu ro l (fr.put d v) st :=
  ov_run (by simp only [opX, exV]; cases x.val fr <;> rfl) rfl
theorem runX_mkFunc {f : FuncId} {a b : List XO} : runX call C mu ro (⟨d, .mkFunc f a b, none⟩ :: l) fr st = runX call C mu ro l (fr.put d (.func (.func f) (a.map (XO.val fr)) (b.map (XO.val fr)))) st := (rfl)
def stK (k : St → Option Out) : Option St → Option Out | some st => k st | none => none
theorem stK_some {k : St → Option Out} : stK k (some st) = k st := (rfl)
def stoV (st : St) (new : List AV) : AV → Option St | .ptr p off => sto st p off new | _ => none
theorem stoV_ptr {new : List AV} {p off : Nat} : stoV st new (.ptr p off) = sto st p off new := (rfl)
theorem runX_store {size : Nat} {a x : XO} (hs : (x.val fr).cells.length = size) : runX call C mu ro (⟨d, .store size a x, none⟩ :: l) fr st = stK (runX call C mu ro l (fr.put d undefA)) (stoV st (x.val fr).cells (a.val fr)) := by
  simp only [runX, guardA, Option.bind_some, if_true, runOpX, opX, stoV]
  generalize a.val fr = av
  cases av with
  | ptr p off =>
    simp only [if_pos hs]
    cases sto st p off (x.val fr).cells <;> rfl
  | _ => rfl
theorem runX_buildS {e : TypeId} {size len : Nat} {ps : List (Nat × XO)} (h1 : (ps.length = len) = True) (h2 : (len * size ≤ 1048576) = True) :
    runX call C mu ro (⟨d, .buildS false e size len ps, none⟩ :: l) fr st = (elemsA size 0 (partsX fr ps)).bind fun es => runX call C mu ro l (fr.put d (.slice .exact es)) st := by
  have h3 := of_eq_true h1
  have h4 := of_eq_true h2
  have : (partsX fr ps).length = len := by simpa [partsX] using h3
  simp only [runX, guardA, Option.bind_some, if_true, runOpX, opX, this, h4, and_self, Bool.false_eq_true, if_false]
  cases elemsA size 0 (partsX fr ps) <;> rfl
theorem runX_buildM {e : TypeId} {size len : Nat} {ps : List (Nat × XO)} (h1 : (ps.length = len) = True) (h2 : (len * size ≤ 1048576) = True) (h3 : (0 < size) = True) :
    runX call C mu ro (⟨d, .buildS true e size len ps, none⟩ :: l) fr st = (elemsA size 0 (partsX fr ps)).bind fun es => runX call C mu ro l (fr.put d (.row st.next 0 len none)) (st.push (.mem e (flat es) true 0)) := by
  have h1 := of_eq_true h1
  have h4 := of_eq_true h2
  have h5 := of_eq_true h3
  have : (partsX fr ps).length = len := by simpa [partsX] using h1
  simp only [runX, guardA, Option.bind_some, if_true, runOpX, opX, this, h4, and_self, h5]
  cases elemsA size 0 (partsX fr ps) <;> rfl
theorem runX_app {mu2 : Bool} {e : TypeId} {ei : TI} {s x : XO} : runX call C mu ro (⟨d, .app mu2 e ei s x, none⟩ :: l) fr st = ((elemsOf st ei (x.val fr)).bind (appendA mu2 st e ei (s.val fr))).bind fun v => runX call C mu ro l (fr.put d v.1) v.2 := ovs_run rfl rfl
def callK (k : Fr → St → Option Out) (d : Option Tmp) (fr : Fr) : Option (CR × St × Option AV) → Option Out
  | some (.ret v, st, _) => k (fr.put d v) st
  | some (.pan v, st, _) => some (.pan v, fr, st)
  | none => none
def callD (call : CallF) (args : List AV) (st : St) : AV → Option (CR × St × Option AV)
  | .func (.func g) a b => call (.fn g) (a ++ args ++ b) .normal st
  | .func (.yield l) [] [] => call (.yield l) args .normal st
  | _ => none
theorem callK_ret {k : Fr → St → Option Out} {v : AV} {p : Option AV} : callK k d fr (some (.ret v, st, p)) = k (fr.put d v) st := (rfl)
theorem callK_pan {k : Fr → St → Option Out} {v : AV} {p : Option AV} : callK k d fr (some (.pan v, st, p)) = some (.pan v, fr, st) := (rfl)
theorem callD_fn {args a b : List AV} {g : FuncId} : callD call args st (.func (.func g) a b) = call (.fn g) (a ++ args ++ b) .normal st := (rfl)
theorem callD_yield {args : List AV} {q : Nat} : callD call args st (.func (.yield q) [] []) = call (.yield q) args .normal st := (rfl)
theorem runX_call {f : XO} {xs : List XO} : runX call C mu ro (⟨d, .call f xs, none⟩ :: l) fr st = callK (runX call C mu ro l) d fr (callD call (xs.map (XO.val fr)) st (f.val fr)) := by
  simp only [runX, guardA, Option.bind_some, if_true, runOpX, opX, callX, calleeX, callK, callD]
  generalize f.val fr = fv
  cases fv with
  | func g a b =>
    cases g with
    | func g =>
      simp only
      cases call (.fn g) (a ++ xs.map (XO.val fr) ++ b) .normal st with
      | none => rfl
      | some r => obtain ⟨r1, r2, r3⟩ := r; cases r1 <;> rfl
    | yield q =>
      cases a with
      | nil =>
        cases b with
        | nil =>
          simp only
          cases call (.yield q) (xs.map (XO.val fr)) .normal st with
          | none => rfl
          | some r => obtain ⟨r1, r2, r3⟩ := r; cases r1 <;> rfl
        | cons _ _ => rfl
      | cons _ _ => rfl
    | _ => rfl
  | _ => rfl
theorem mapv_nil : ([] : List XO).map (XO.val fr) = [] := (rfl)
theorem mapv_cons {x : XO} {xs : List XO} : (x :: xs).map (XO.val fr) = x.val fr :: xs.map (XO.val fr) := (rfl)
theorem app_nil {α : Type} (l : List α) : l ++ [] = l := List.append_nil l
theorem nil_app {α : Type} (l : List α) : [] ++ l = l := (rfl)
theorem cons_app {α : Type} (x : α) (l r : List α) : (x :: l) ++ r = x :: (l ++ r) := (rfl)
theorem execX_seq {a b : XC} : execX call C mu n self ro' (.seq a b) fr st = (execX call C mu n self ro' a fr st).bind (seqK (execX call C mu n self ro' b)) := by
  simp only [execX]
  cases execX call C mu n self ro' a fr st with
  | none => rfl
  | some o => obtain ⟨e, f, s⟩ := o; cases e <;> rfl
theorem execX_block {id : Nat} {b : XC} : execX call C mu n self ro' (.block id b) fr st = (execX call C mu n self ro' b fr st).bind (blockK id) := by
  simp only [execX]
  cases execX call C mu n self ro' b fr st with
  | none => rfl
  | some o => obtain ⟨e, f, s⟩ := o; cases e <;> rfl
end
section
variable {fr : Fr} {C : Ctx}
theorem argTmps_at (args : List AV) (i : Nat) : argTmps args i = args.getD i undefA := (rfl)
theorem getD_0 {α : Type} (x : α) (l : List α) (d : α) : (x :: l).getD 0 d = x := (rfl)
theorem getD_1 {α : Type} (x y : α) (l : List α) (d : α) : (x :: y :: l).getD 1 d = y := (rfl)
theorem getD_2 {α : Type} (x y z : α) (l : List α) (d : α) : (x :: y :: z :: l).getD 2 d = z := (rfl)
theorem getD_3 {α : Type} (x y z u : α) (l : List α) (d : α) : (x :: y :: z :: u :: l).getD 3 d = u := (rfl)
theorem cells_agg {cs : List AV} : (AV.agg cs).cells = cs := (rfl)
theorem cells_int {k : IntKind} {n : Int} : (AV.int k n).cells = [.int k n] := (rfl)
theorem cells_bool {b : Bool} : (AV.bool b).cells = [.bool b] := (rfl)
theorem cells_str {s : List Nat} : (AV.str s).cells = [.str s] := (rfl)
theorem cells_slice {k : SK} {es : List AV} : (AV.slice k es).cells = [.slice k es] := (rfl)
theorem any_agg {cs : List AV} : (AV.agg cs).isAny = false := (rfl)
theorem any_int {k : IntKind} {n : Int} : (AV.int k n).isAny = false := (rfl)
theorem any_bool {b : Bool} : (AV.bool b).isAny = false := (rfl)
theorem any_str {s : List Nat} : (AV.str s).isAny = false := (rfl)
theorem any_slice {k : SK} {es : List AV} : (AV.slice k es).isAny = false := (rfl)
theorem any_ptr {l o : Nat} : (AV.ptr l o).isAny = false := (rfl)
theorem addrX_ptr {off l o : Nat} : addrX off (.ptr l o) = some (.ptr l (o + off)) := (rfl)
theorem addrX_cptr {off : Nat} {cs : List AV} : addrX off (.cptr cs) = some (.cptr (cs.drop off)) := (rfl)
def ldO (agg : Bool) (size off : Nat) : AO → Option AV
  | .mem _ cells _ _ => partX agg size (cells.drop off)
  | _ => none
theorem ldX_ptr {st : St} {agg : Bool} {size l off : Nat} : ldX st agg size (.ptr l off) = ldO agg size off (st.heap l) := by
  simp only [ldX, ldO]
  cases st.heap l <;> rfl
theorem ldO_mem {agg : Bool} {size off : Nat} {e : TypeId} {cells : List AV} {full : Bool} {fz : Nat} : ldO agg size off (.mem e cells full fz) = partX agg size (cells.drop off) := (rfl)
def stO (st : St) (l off : Nat) (new : List AV) : AO → Option St
  | .mem e cells full fz => if off + new.length ≤ cells.length ∧ fz ≤ off ∧ new.all AV.isCell = true then some (st.set l (.mem e (splice off new cells) full fz)) else none
  | _ => none
theorem sto_cons {st : St} {l off : Nat} {x : AV} {xs : List AV} : sto st l off (x :: xs) = stO st l off (x :: xs) (st.heap l) := by
  simp only [sto, stO]
  cases st.heap l <;> rfl
theorem stO_mem {st : St} {l off : Nat} {new : List AV} {e : TypeId} {cells : List AV} {full : Bool} {fz : Nat} (h : off + new.length ≤ cells.length) (h2 : fz ≤ off) (h3 : new.all AV.isCell = true) :
    stO st l off new (.mem e cells full fz) = some (st.set l (.mem e (splice off new cells) full fz)) := by simp only [stO, if_pos (And.intro h (And.intro h2 h3))]
theorem ldX_cptr {st : St} {agg : Bool} {size : Nat} {cells : List AV} : ldX st agg size (.cptr cells) = partX agg size cells := (rfl)
theorem partX_cell {size : Nat} {x : AV} {cs : List AV} : partX false size (x :: cs) = some x := (rfl)
theorem partX_agg {size : Nat} {cs : List AV} (h : size ≤ cs.length) : partX true size cs = some (.agg (cs.take size)) := by
  simp only [partX, if_true]; rw [if_pos]; simp [h]
theorem binIX_int {op : BinOp} {t : TypeId} {xo yo : Operand} {k : IntKind} {a b : Int} (h : op ≠ .shl) (h2 : op ≠ .shr) : binIX C op t xo yo (.int k a) (.int k b) = intOp op k a b := by
  cases op <;> first | exact absurd rfl h | exact absurd rfl h2 | simp [binIX]
theorem binSX_str {op : BinOp} {t : TypeId} {xo yo : Operand} {a b : List Nat} : binSX C op t xo yo (.str a) (.str b) = strOp op a b := (rfl)
theorem i_add {k : IntKind} {x y : Int} : intOp .add k x y = some (.int k (k.wrap (x + y))) := (rfl)
theorem i_sub {k : IntKind} {x y : Int} : intOp .sub k x y = some (.int k (k.wrap (x - y))) := (rfl)
theorem i_mul {k : IntKind} {x y : Int} : intOp .mul k x y = some (.int k (k.wrap (x * y))) := (rfl)
theorem i_eql {k : IntKind} {x y : Int} : intOp .eql k x y = some (.bool (x == y)) := (rfl)
theorem i_neq {k : IntKind} {x y : Int} : intOp .neq k x y = some (.bool (x != y)) := (rfl)
theorem i_lss {k : IntKind} {x y : Int} : intOp .lss k x y = some (.bool (decide (x < y))) := (rfl)
theorem i_leq {k : IntKind} {x y : Int} : intOp .leq k x y = some (.bool (decide (x ≤ y))) := (rfl)
theorem i_gtr {k : IntKind} {x y : Int} : intOp .gtr k x y = some (.bool (decide (x > y))) := (rfl)
theorem i_geq {k : IntKind} {x y : Int} : intOp .geq k x y = some (.bool (decide (x ≥ y))) := (rfl)
theorem s_eql {x y : List Nat} : strOp .eql x y = some (.bool (x == y)) := (rfl)
theorem s_neq {x y : List Nat} : strOp .neq x y = some (.bool (!(x == y))) := (rfl)
theorem lenX_slice {k : SK} {es : List AV} : lenX (.slice k es) = some (.int .i64 (es.length : Int)) := (rfl)
theorem lenX_row {l o n : Nat} {m : Option Nat} : lenX (.row l o n m) = some (.int .i64 (n : Int)) := (rfl)
theorem un_not {b : Bool} : unA .not (.bool b) = some (.bool (!b)) := (rfl)
theorem natOf_cast {k : IntKind} {n : Nat} : natOf (.int k (n : Int)) = some n := (rfl)
def idxO (size : Nat) : Option AV → Option AV
  | some v => if v.cells.length = size then some (.cptr v.cells) else none
  | none => none
theorem idxX_slice {size : Nat} {k : SK} {es : List AV} {i : Nat} : idxX size (.slice k es) i = idxO size es[i]? := by
  simp only [idxX, idxO]
  cases es[i]? <;> rfl
theorem idxO_some {size : Nat} {v : AV} (h : v.cells.length = size) : idxO size (some v) = some (.cptr v.cells) := by simp only [idxO, if_pos h]
theorem idxX_row {size l off len i : Nat} {m : Option Nat} (h : i < len) : idxX size (.row l off len m) i = some (.ptr l (off + i * size)) := by simp only [idxX, if_pos h]
theorem partsX_cons {i : Nat} {x : XO} {l : List (Nat × XO)} : partsX fr ((i, x) :: l) = (i, x.val fr) :: partsX fr l := (rfl)
theorem partsX_nil : partsX fr [] = [] := (rfl)
theorem endOf_ret : endOf .ret = some none := (rfl)
theorem endOf_norm : endOf .norm = some none := (rfl)
theorem finish_by {call : CallF} {f : FuncId} {fi : FI} {st0 st1 : St} {e : EX} {t : Nat → AV} {m : Nat} {vs : List AV} {v : AV} {st3 : St} (he : endOf e = some none) (hr : resultsA C st1 t fi.results = some vs)
    (hv : (if C.frz f then (freezeR C st1 (packA vs)).map (fun x => (untok x.1, x.2)) else some (packA vs, st1)) = some (v, st3)) :
    finishFn call C f fi .normal st0 e ⟨t, m, [], none⟩ st1 = some (.ret v, leaveSt st0 [v] st3, none) := by
  simp only [finishFn, he, runDefs, hr, hv, Option.toList]
end
theorem bindS {α β : Type} (v : α) (f : α → Option β) : (some v).bind f = f v := (rfl)
theorem drop0 {α : Type} (l : List α) : l.drop 0 = l := (rfl)
theorem drop1 {α : Type} (x : α) (l : List α) : (x :: l).drop 1 = l := (rfl)
theorem drop2 {α : Type} (x y : α) (l : List α) : (x :: y :: l).drop 2 = l := (rfl)
theorem drop3 {α : Type} (x y z : α) (l : List α) : (x :: y :: z :: l).drop 3 = l := (rfl)
theorem drop4 {α : Type} (x y z u : α) (l : List α) : (x :: y :: z :: u :: l).drop 4 = l := (rfl)
theorem upd_hit {α : Type} {f : Nat → α} {k : Nat} {v : α} : upd f k v k = v := if_pos rfl
theorem upd_miss {α : Type} {f : Nat → α} {k : Nat} {v : α} {m : Nat} (h : (m = k) = False) : upd f k v m = f m := if_neg (by rw [h]; exact id)
theorem zadd (n : Nat) : 0 + n = n := Nat.zero_add n
theorem iteT {α : Type} {a b : α} : (if true = true then a else b) = a := (rfl)
theorem iteF {α : Type} {a b : α} : (if false = true then a else b) = b := (rfl)
theorem notT : (!true) = false := (rfl)
theorem notF : (!false) = true := (rfl)
theorem leave_log {st0 : St} {vs : List AV} {st : St} (hl : ∀ l ∈ st.log, st0.next ≤ l) (hv : belowA.belowL st0.next vs = true) : leaveSt st0 vs st = st0 := by
  have : (st.log.all fun l => decide (st0.next ≤ l)) = true := List.all_eq_true.2 fun l h => decide_eq_true (hl l h)
  simp only [leaveSt, this, hv, Bool.and_self, if_true]
theorem belowL_one {n : Nat} {v : AV} (h : belowA n v = true) : belowA.belowL n [v] = true := by simp only [belowA.belowL, h, Bool.and_self]
theorem resA_nil {C : Ctx} {st : St} {t : Nat → AV} : resultsA C st t [] = some [] := (rfl)
theorem resA_tmp {C : Ctx} {st : St} {t : Nat → AV} {k : Nat} {r : List ResultVar} : resultsA C st t (.tmp k :: r) = (resultsA C st t r).map (t k :: ·) := (rfl)
theorem elemsA_nil {size j : Nat} : elemsA size j [] = some [] := (rfl)
theorem elemsA_cons {size j : Nat} {v : AV} {r : List (Nat × AV)} (h1 : v.isAny = false) (h2 : (v.cells.length = size) = True) : elemsA size j ((j, v) :: r) = (elemsA size (j + 1) r).bind fun l => some (v :: l) := by
  have h2 := of_eq_true h2
  rw [elemsA, if_pos ⟨rfl, h1, h2⟩]
  cases elemsA size (j + 1) r <;> rfl
def fillK (pl : Nat → Option (Nat × Nat)) (cells : List AV) (v : AV) (rest : List (Nat × AV)) : Option (Nat × Nat) → Option (List AV)
  | some (off, size) => if v.isAny = false ∧ v.cells.length = size ∧ off + v.cells.length ≤ cells.length then fillA pl (splice off v.cells cells) rest else none
  | none => none
theorem fillA_nil {pl : Nat → Option (Nat × Nat)} {cells : List AV} : fillA pl cells [] = some cells := (rfl)
theorem fillA_cons {pl : Nat → Option (Nat × Nat)} {cells : List AV} {i : Nat} {v : AV} {rest : List (Nat × AV)} : fillA pl cells ((i, v) :: rest) = fillK pl cells v rest (pl i) := by
  rw [fillA]
  cases pl i <;> rfl
theorem fillK_some {pl : Nat → Option (Nat × Nat)} {cells : List AV} {v : AV} {rest : List (Nat × AV)} {off size : Nat} (h1 : v.isAny = false) (h2 : (v.cells.length = size) = True) (h3 : (off + v.cells.length ≤ cells.length) = True) :
    fillK pl cells v rest (some (off, size)) = fillA pl (splice off v.cells cells) rest := by
  rw [fillK, if_pos ⟨h1, of_eq_true h2, of_eq_true h3⟩]
theorem le0 {α : Type} {x : α} {l : List α} : (x :: l)[0]? = some x := (rfl)
theorem le1 {α : Type} {x y : α} {l : List α} : (x :: y :: l)[1]? = some y := (rfl)
theorem le2 {α : Type} {x y z : α} {l : List α} : (x :: y :: z :: l)[2]? = some z := (rfl)
theorem le3 {α : Type} {x y z u : α} {l : List α} : (x :: y :: z :: u :: l)[3]? = some u := (rfl)
theorem splice0 {x a : AV} {l : List AV} : splice 0 [x] (a :: l) = x :: l := (rfl)
theorem splice1 {x a b : AV} {l : List AV} : splice 1 [x] (a :: b :: l) = a :: x :: l := (rfl)
theorem splice2 {x a b c : AV} {l : List AV} : splice 2 [x] (a :: b :: c :: l) = a :: b :: x :: l := (rfl)
theorem splice3 {x a b c d : AV} {l : List AV} : splice 3 [x] (a :: b :: c :: d :: l) = a :: b :: c :: x :: l := (rfl)
theorem spliceA {new cells : List AV} (h : (new.length = cells.length) = True) : splice 0 new cells = new := by
  have h := of_eq_true h
  simp [splice, h]
theorem len_nil {α : Type} : ([] : List α).length = 0 := (rfl)
theorem len_cons {α : Type} {x : α} {l : List α} : (x :: l).length = l.length + 1 := (rfl)
theorem all_nil {p : AV → Bool} : ([] : List AV).all p = true := (rfl)
theorem all_cons {p : AV → Bool} {x : AV} {l : List AV} : (x :: l).all p = (p x && l.all p) := (rfl)
theorem ic_int {k : IntKind} {n : Int} : AV.isCell (.int k n) = true := (rfl)
theorem ic_bool {b : Bool} : AV.isCell (.bool b) = true := (rfl)
theorem ic_str {s : List Nat} : AV.isCell (.str s) = true := (rfl)
theorem ic_slice {k : SK} {es : List AV} : AV.isCell (.slice k es) = true := (rfl)
theorem andT {b : Bool} : (true && b) = b := (rfl)
theorem wrap64 {n : Int} (h1 : -9223372036854775808 ≤ n) (h2 : n ≤ 9223372036854775807) : IntKind.i64.wrap n = n := by
  have e1 : (2 : Int) ^ IntKind.i64.bits = 18446744073709551616 := rfl
  have e2 : (2 : Int) ^ (IntKind.i64.bits - 1) = 9223372036854775808 := rfl
  have e3 : IntKind.i64.signed = true := rfl
  simp only [IntKind.wrap, e1, e2, e3, Bool.true_and, decide_eq_true_eq]
  split <;> omega
end Go.AE

namespace Go.AE
open Go
mutual
theorem untok_clean : ∀ (v : AV), belowA 0 v = true → untok v = v
  | .any, _ => rfl
  | .bool _, _ => rfl
  | .int _ _, _ => rfl
  | .str _, _ => rfl
  | .nilp, _ => rfl
  | .ptr _ _, h => rfl
  | .cptr _, _ => rfl
  | .slice k es, h => by
    have hk : k.forget = k := by
      cases k with
      | tok t s => simp [belowA] at h
      | _ => rfl
    have he : belowA.belowL 0 es = true := by
      cases k with
      | tok t s => simp [belowA] at h
      | _ => simpa [belowA] using h
    rw [untok, hk, untokL_clean es he]
  | .row _ _ _ _, _ => rfl
  | .nilmap, _ => rfl
  | .map _, _ => rfl
  | .func _ _ _, _ => rfl
  | .nilfn, _ => rfl
  | .iface t v, h => by rw [belowA] at h; rw [untok, untok_clean v h]
  | .nilif, _ => rfl
  | .agg xs, h => by rw [belowA] at h; rw [untok, untokL_clean xs h]
  | .tuple xs, h => by rw [belowA] at h; rw [untok, untokL_clean xs h]
theorem untokL_clean : ∀ (xs : List AV), belowA.belowL 0 xs = true → untok.untokL xs = xs
  | [], _ => rfl
  | x :: xs, h => by
    rw [belowA.belowL, Bool.and_eq_true] at h
    rw [untok.untokL, untok_clean x h.1, untokL_clean xs h.2]
end
mutual
theorem below_mono {n m : Nat} (hnm : n ≤ m) : ∀ (v : AV), belowA n v = true → belowA m v = true
  | .any, _ => by simp [belowA]
  | .bool _, _ => by simp [belowA]
  | .int _ _, _ => by simp [belowA]
  | .str _, _ => by simp [belowA]
  | .nilp, _ => by simp [belowA]
  | .ptr _ _, h => by simp [belowA] at h ⊢; omega
  | .cptr xs, h => by rw [belowA] at h ⊢; exact belowL_mono hnm xs h
  | .slice k es, h => by
    cases k with
    | tok t s => simp only [belowA, Bool.and_eq_true, decide_eq_true_eq] at h ⊢; exact ⟨by omega, belowL_mono hnm es h.2⟩
    | _ => simp only [belowA] at h ⊢; exact belowL_mono hnm es h
  | .row _ _ _ _, h => by simp [belowA] at h ⊢; omega
  | .nilmap, _ => by simp [belowA]
  | .map _, h => by simp [belowA] at h ⊢; omega
  | .func fn a b, h => by
    cases fn with
    | yield l => simp [belowA] at h ⊢; omega
    | _ => simp only [belowA, Bool.and_eq_true] at h ⊢; exact ⟨belowL_mono hnm a h.1, belowL_mono hnm b h.2⟩
  | .nilfn, _ => by simp [belowA]
  | .iface t v, h => by rw [belowA] at h ⊢; exact below_mono hnm v h
  | .nilif, _ => by simp [belowA]
  | .agg xs, h => by rw [belowA] at h ⊢; exact belowL_mono hnm xs h
  | .tuple xs, h => by rw [belowA] at h ⊢; exact belowL_mono hnm xs h
theorem belowL_mono {n m : Nat} (hnm : n ≤ m) : ∀ (xs : List AV), belowA.belowL n xs = true → belowA.belowL m xs = true
  | [], _ => rfl
  | x :: xs, h => by
    rw [belowA.belowL, Bool.and_eq_true] at h ⊢
    exact ⟨below_mono hnm x h.1, belowL_mono hnm xs h.2⟩
end
def CleanV (v : AV) : Prop := belowA 0 v = true
theorem CleanV.below {v : AV} (h : CleanV v) (n : Nat) : belowA n v = true := below_mono (Nat.zero_le n) v h
theorem CleanV.untok {v : AV} (h : CleanV v) : AE.untok v = v := untok_clean v h
section
variable {C : Ctx} {st st1 : St} {t : Nat → AV}
theorem freezeVs_noRow : ∀ (vs : List AV) (st : St), (∀ v ∈ vs, ∀ a b c d, v ≠ .row a b c d) → freezeVs C st vs = some (vs, st)
  | [], st, _ => rfl
  | v :: vs, st, h => by
    have h1 : freezeV C st v = some (v, st) := by
      cases v with
      | row a b c d => exact absurd rfl (h _ (by simp) a b c d)
      | _ => rfl
    simp only [freezeVs, h1, freezeVs_noRow vs st fun v hv => h v (by simp [hv])]
theorem freezeR_clean {v : AV} (h : CleanV v) : freezeR C st v = some (v, st) := by
  have nr : ∀ {n : Nat} (xs : List AV), n = 0 → belowA.belowL n xs = true → ∀ v ∈ xs, ∀ a b c d, v ≠ .row a b c d := fun xs hn hx v hv a b c d e => by
    have := belowL_mem hx v hv
    subst e hn
    simp [belowA] at this
  unfold CleanV at h
  cases v with
  | tuple xs => rw [belowA] at h; simp only [freezeR, freezeVs_noRow xs st (nr xs rfl h), Option.map_some]
  | agg xs => rw [belowA] at h; simp only [freezeR, freezeVs_noRow xs st (nr xs rfl h), Option.map_some]
  | row a b c d => simp [belowA] at h
  | _ => rfl
end
theorem sto_pos {st : St} {l off : Nat} {new : List AV} (h : (0 < new.length) = True) : sto st l off new = stO st l off new (st.heap l) := by
  have h := of_eq_true h
  cases new with
  | nil => simp at h
  | cons x xs => exact sto_cons
theorem natOf_0 {k : IntKind} : natOf (.int k 0) = some 0 := (rfl)
theorem natOf_1 {k : IntKind} : natOf (.int k 1) = some 1 := (rfl)
theorem natOf_2 {k : IntKind} : natOf (.int k 2) = some 2 := (rfl)
theorem natOf_3 {k : IntKind} : natOf (.int k 3) = some 3 := (rfl)
end Go.AE

namespace Go.AE
open Go
section
variable {C : Ctx} {G : Gh} {st st' : St} {w : World}
def NextM (st : St) (l : Nat) (Q : AV → St → Prop) : Prop :=
  ∃ m since seen last es clk, st.heap l = .miter (some m) since seen last ∧ st.heap m = .amap es clk ∧ (seen = [] ∨ es = [] ∨ ∃ e ∈ es, e.2.2 < last) ∧
    ((∀ e ∈ es, e.2.2 ∉ seen → since ≤ e.2.2) → Q (.tuple [.bool false]) st) ∧
    ∀ e ∈ es, e.2.2 ∉ seen → Q (.tuple [.bool true, e.1, e.2.1]) (st.set l (.miter (some m) since (seen ++ [e.2.2]) clk))
theorem run_choose_next {n : Nat} (hn : 0 < n) : ∃ i w', i < n ∧ (choose (.mapNext n)).run C.P w = .ok i w' ∧ w'.heap = w.heap ∧ w'.tape = w.tape ∧ w'.os = w.os ∧ w'.output = w.output := by
  by_cases h1 : n ≤ 1
  · exact ⟨0, w, hn, by simp [choose, Sem.run, Question.forced, h1], rfl, rfl, rfl, rfl⟩
  · exact ⟨w.tape w.drawn (.mapNext n) % n, { w with drawn := w.drawn + 1 }, Nat.mod_lt _ hn, by simp [choose, Sem.run, Question.forced, Question.cut, h1], rfl, rfl, rfl, rfl⟩
theorem next_map (hr : Rel C G st w) {l : Nat} {Q : AV → St → Prop} (h : NextM st l Q) {u : Value} (hx : VR G w (.ptr l 0) u) (ty : TypeId) : ∃ v st', Q v st' ∧ ValR C G st w (Instr.next u false ty) v st' := by
  obtain ⟨m, since, seen, last, es, clk, h1, h2, h3, h4, h5⟩ := h
  cases hx with
  | ptr _ _ L hL =>
    have hob := (hr.obj l L hL).2.2.2
    have hlt := (hr.obj l L hL).2.1
    rw [h1] at hob
    obtain ⟨h0, Lm, hLm, hi⟩ := hob
    have hom := (hr.obj m Lm hLm).2.2.2
    rw [h2] at hom
    obtain ⟨res, hm, hrel⟩ := hom
    have hg1 := run_getObj (C := C) hi (fun _ _ _ => by simp)
    have hg2 := run_getObj (C := C) hm (fun _ _ _ => by simp)
    have hcond : (!seen.toArray.isEmpty && !res.isEmpty && res.all (·.born ≥ last)) = false := by
      rcases h3 with h3 | h3 | ⟨e, he, hlt⟩
      · simp [h3]
      · have := hrel.empty.1 h3
        have : res = #[] := by cases res; simp_all
        simp [this]
      · obtain ⟨mE, k1, _, _, k2⟩ := hrel.mem' he
        have : (res.all (·.born ≥ last)) = false := by
          rw [Array.all_eq_false]
          obtain ⟨i, hi⟩ := List.getElem?_of_mem k1
          rw [Array.getElem?_toList] at hi
          obtain ⟨hi1, hi2⟩ := Array.getElem?_eq_some_iff.1 hi
          refine ⟨i, hi1, ?_⟩
          rw [hi2]
          simp
          omega
        rw [this, Bool.and_false]
    obtain ⟨cands, hcands⟩ : ∃ cands : Array (Option MapEntry), cands = (if ((res.filter fun e => !seen.toArray.contains e.born).filter (·.born < since)).isEmpty then #[none] else #[]) ++ (((res.filter fun e => !seen.toArray.contains e.born).filter (·.born < since)) ++ ((res.filter fun e => !seen.toArray.contains e.born).filter (·.born ≥ since))).map some := ⟨_, rfl⟩
    have hpos : 0 < cands.size := by
      rw [hcands]
      split
      · simp; omega
      · rename_i hne
        simp only [Array.isEmpty_iff_size_eq_zero] at hne
        simp only [Array.size_append, Array.size_map]
        omega
    obtain ⟨i, w1, hi1, hch, q1, q2, q3, q4⟩ := run_choose_next (C := C) (w := w) hpos
    have hok1 : Ok C G st w [] G st w1 := Ok.same hr q1 q2 q3 q4
    have hget : cands[i]? = some cands[i] := Array.getElem?_eq_getElem hi1
    have hmem : cands[i] ∈ cands := Array.getElem_mem hi1
    have hstep : (Instr.next (.pointer (some ⟨L.blk, L.dl + 0, none⟩)) false ty).run C.P w = (match cands[i]? with
        | some (some e) => (do setObj L.blk (.mapIter (some Lm.blk) since (seen.toArray.push e.born) clk); pure (.tuple #[.bool true, e.key, e.val]) : Sem Value)
        | some none => pure (.tuple #[.bool false])
        | none => stuck "Next: no such candidate").run C.P w1 := by
      simp only [h0, Nat.zero_add, Instr.next, Sem.run_bind, hg1, Result.andThen_ok, hg2, hcond, Bool.false_eq_true, if_false, Sem.run_pure]
      rw [← hcands, hch]
      rfl
    cases hc : cands[i] with
    | none =>
      rw [hget, hc] at hstep
      refine ⟨_, st, h4 fun e he hs => ?_, .tuple #[.bool false], w1, G, [], hstep, hok1, rfl, VR.mkTuple ⟨.bool false, trivial⟩⟩
      -- no older entry is left
      rw [hc, hcands] at hmem
      split at hmem
      · rename_i hemp
        obtain ⟨mE, k1, _, _, k2⟩ := hrel.mem' he
        rcases Nat.lt_or_ge e.2.2 since with hlt2 | hge
        · exfalso
          have : mE ∈ (res.filter fun e => !seen.toArray.contains e.born).filter (·.born < since) := by
            rw [Array.mem_filter, Array.mem_filter]
            refine ⟨⟨by simpa using k1, ?_⟩, by simp; omega⟩
            rw [← k2]
            simpa using hs
          rw [Array.isEmpty_iff] at hemp
          rw [hemp] at this
          simp at this
        · exact hge
      · simp at hmem
    | some mE =>
      rw [hget, hc] at hstep
      have hin : mE ∈ res.toList ∧ mE.born ∉ seen := by
        rw [hc, hcands] at hmem
        have : mE ∈ (res.filter fun e => !seen.toArray.contains e.born) := by
          rcases Array.mem_append.1 hmem with h | h
          · split at h <;> simp at h
          · simp only [Array.mem_map, Option.some.injEq, exists_eq_right, Array.mem_append, Array.mem_filter] at h
            rcases h with h | h
            · exact Array.mem_filter.2 h.1
            · exact Array.mem_filter.2 h.1
        have := Array.mem_filter.1 this
        exact ⟨by simpa using this.1, by simpa using this.2⟩
      obtain ⟨e, k1, k2, k3, k4⟩ := hrel.mem hin.1
      have hi' : w1.heap[L.blk]? = some (.mapIter (some Lm.blk) since seen.toArray last) := by rw [q1]; exact hi
      have hk := Ok.write (C := C) (w' := { w1 with heap := w1.heap.setIfInBounds L.blk (.mapIter (some Lm.blk) since (seen.toArray.push mE.born) clk) }) hok1.rel hL (by rw [h1]; trivial) (.miter (some m) since (seen ++ [e.2.2]) clk) (fun _ _ => False) (fun _ _ h => h.elim)
        (by simp) (fun b hb => by simp [Array.getElem?_setIfInBounds, Ne.symm hb]) (fun j _ => by rw [World.cell?, World.cell?, hi', Array.getElem?_setIfInBounds_self_of_lt (by rw [q1]; exact hlt)]) rfl rfl rfl
        (fun he => ⟨h0, Lm, he.loc _ _ hLm, by simp [q1, hlt, k4]⟩)
      rw [Gh.addK_none] at hk
      have hok2 := (hok1.trans hk).mono (ls' := [l]) (by simp)
      refine ⟨_, _, h5 e k1 (by rw [k4]; exact hin.2), .tuple #[.bool true, mE.key, mE.val], _, G, [l], ?_, hok2, rfl, VR.mkTuple ⟨.bool true, k2.ext hok2.ext, k3.ext hok2.ext, trivial⟩⟩
      rw [hstep]
      simp only [Sem.run_bind, run_setObj _ hi' (fun _ _ _ => by simp), Result.andThen_ok, Sem.run_pure]
end
end Go.AE

namespace Go.AE
open Go
def Tri (C : Ctx) (self : FuncId) (ro : Option Nat) (c : Code) (fr : Fr) (st : St) (Q : Out → Prop) : Prop :=
  ∀ (b : Frame) (K : FrameMode → List Frame) (k : List Item) (G : Gh) (w : World) (u : FrameMode) (a : Act), b.fn = self → CtOk b K → Sit C G st w b fr a u → RoRel G b ro →
    ∃ out, Q out ∧ Goes C b K k G st w (lone (fa b a (.code c :: k)) (K u) w) out
def TriOps (C : Ctx) (mu : Bool) (ro : Option Nat) (ops : Array Oper) (i : Nat) (fr : Fr) (st : St) (Q : Out → Prop) : Prop :=
  ∀ (b : Frame) (K : FrameMode → List Frame) (k : List Item) (G : Gh) (w : World) (u : FrameMode) (a : Act), CtOk b K → Sit C G st w b fr a u → RoRel G b ro →
    ∃ out, Q out ∧ Goes C b K k G st w (lone (fa b a (.inRegion ops (List.range' i (ops.size - i)) :: k)) (K u) w) out
def CallN (C : Ctx) (f : FuncId) (args : List AV) (st : St) (R : CR × St × Option AV → Prop) : Prop :=
  ∀ G w vals, Rel C G st w → VRs G w args vals → FnCall C.P f vals.toArray w fun e w' => ∃ r, R r ∧ ∃ G' ls, Ok C G st w ls G' r.2.1 w' ∧ r.2.1.log = ls ++ st.log ∧ EndRel G' w' r.1 e
section
variable {C : Ctx} {self : FuncId} {ro : Option Nat} {fr : Fr} {st : St} {Q R : Out → Prop}
theorem Tri.mono {c : Code} (h : Tri C self ro c fr st R) (k : ∀ o, R o → Q o) : Tri C self ro c fr st Q := fun b K k' G w u a h1 h2 h3 h4 => by
  obtain ⟨o, h5, h6⟩ := h b K k' G w u a h1 h2 h3 h4
  exact ⟨o, k o h5, h6⟩
theorem tri_det (hC : CtxOk C) {call : CallF} (hcall : CallsOk C call) {n : Option Nat} {c : Code} {out : Out} (h : exec call C n self ro c fr st = some out) (hq : Q out) : Tri C self ro c fr st Q :=
  fun b K k G w u a h1 h2 h3 h4 => ⟨out, hq, exec_sound hC hcall (draw_ok hC hcall) h1 ro c K k G st w u fr a out h2 h3 h4 h⟩
theorem tri_seq {x y : Code} (hx : Tri C self ro x fr st R) (hy : ∀ fr' st', R (.norm, fr', st') → Tri C self ro y fr' st' Q) (he : ∀ e fr' st', e ≠ .norm → R (e, fr', st') → Q (e, fr', st')) : Tri C self ro (.seq x y) fr st Q := by
  intro b K k G w u a h1 h2 h3 h4
  obtain ⟨⟨e, fr1, st1⟩, hr, g1⟩ := hx b K (.code y :: k) G w u a h1 h2 h3 h4
  by_cases hn : e = .norm
  · subst hn
    obtain ⟨a', u', w', G', ls, f, k1, k2, k3, k4, k5⟩ := g1
    cases k4
    obtain ⟨out, q1, q2⟩ := hy fr1 st1 hr b K k G' w' u' a' h1 h2 k3 (h4.ext k1.ext)
    exact ⟨out, q1, Goes.head fa_seq (Goes.bind k1 k2 (Goes.head k5 q2))⟩
  · exact ⟨_, he e fr1 st1 hn hr, Goes.head fa_seq (Goes.plain plain_code hn g1)⟩
theorem tri_block {x : Code} {id : Nat} (hx : Tri C self ro x fr st fun o => match o with | (.exit i, fr', st') => if i = id then Q (.norm, fr', st') else Q (.exit i, fr', st') | o => Q o) : Tri C self ro (.block id x) fr st Q := by
  intro b K k G w u a h1 h2 h3 h4
  obtain ⟨⟨e, fr1, st1⟩, hr, g1⟩ := hx b K (.inBlock id :: k) G w u a h1 h2 h3 h4
  obtain ⟨a', u', w', G', ls, f', k1, k2, k3, k4, k5⟩ := g1
  cases e with
  | norm => cases k4; exact ⟨_, hr, Goes.head fa_block ⟨a', u', w', G', ls, _, k1, k2, k3, rfl, k5.trans fa_inBlock⟩⟩
  | exit i =>
    obtain ⟨q1, e1, e2⟩ := k4
    simp only at hr
    split at hr
    · rename_i hi
      subst hi
      have e3 : exitTo i q1 = some k := by rw [e2]; simp [exitTo]
      subst e1
      exact ⟨_, hr, Goes.head fa_block ⟨a', u', w', G', ls, _, k1, k2, k3, rfl, k5.trans (fa_exit e3)⟩⟩
    · rename_i hi
      refine ⟨_, hr, Goes.head fa_block ⟨a', u', w', G', ls, _, k1, k2, k3, ⟨q1, e1, e2.trans ?_⟩, k5⟩⟩
      have : (id == i) = false := by simpa using fun h => hi h.symm
      simp [exitTo, this]
  | goto l => obtain ⟨q1, e1, e2⟩ := k4; exact ⟨_, hr, Goes.head fa_block ⟨a', u', w', G', ls, _, k1, k2, k3, ⟨q1, e1, e2⟩, k5⟩⟩
  | ret => exact ⟨_, hr, Goes.head fa_block ⟨a', u', w', G', ls, _, k1, k2, k3, k4, k5⟩⟩
  | pan v => exact ⟨_, hr, Goes.head fa_block ⟨a', u', w', G', ls, _, k1, k2, k3, k4, k5⟩⟩
theorem tri_cond {x y : Code} {c : Operand} {t : Bool} (hc : oval C fr c = .bool t) (h : Tri C self ro (if t then x else y) fr st Q) : Tri C self ro (.cond c x y) fr st Q := by
  intro b K k G w u a h1 h2 h3 h4
  obtain ⟨out, q1, q2⟩ := h b K k G w u a h1 h2 h3 h4
  have hv := oval_sound h3.rel h3.frs c
  rw [hc] at hv
  generalize hq : a.eval c = q at hv
  cases hv
  exact ⟨out, q1, Goes.head (fa_cond hq) q2⟩
theorem tri_loop {x : Code} (I : Nat → Fr → St → Prop) (hx : ∀ m fr st, I m fr st → Tri C self ro x fr st fun o => match o with | (.norm, fr', st') => ∃ m', m' < m ∧ I m' fr' st' | o => Q o) {m : Nat} (h0 : I m fr st) : Tri C self ro (.loop x) fr st Q := by
  have key : ∀ m fr st, I m fr st → ∀ (b : Frame) (K : FrameMode → List Frame) (k : List Item) (G : Gh) (w : World) (u : FrameMode) (a : Act), b.fn = self → CtOk b K → Sit C G st w b fr a u → RoRel G b ro →
      ∃ out, Q out ∧ Goes C b K k G st w (lone (fa b a (.code x :: .inLoop x :: k)) (K u) w) out := by
    intro m
    induction m using Nat.strongRecOn with
    | _ m ih =>
      intro fr st hI b K k G w u a h1 h2 h3 h4
      obtain ⟨⟨e, fr1, st1⟩, hr, g1⟩ := hx m fr st hI b K (.inLoop x :: k) G w u a h1 h2 h3 h4
      by_cases hn : e = .norm
      · subst hn
        obtain ⟨m', hm, hI'⟩ := hr
        obtain ⟨a', u', w', G', ls, f, k1, k2, k3, k4, k5⟩ := g1
        cases k4
        obtain ⟨out, q1, q2⟩ := ih m' hm fr1 st1 hI' b K k G' w' u' a' h1 h2 k3 (h4.ext k1.ext)
        exact ⟨out, q1, Goes.bind k1 k2 (Goes.head k5 (Goes.head fa_inLoop q2))⟩
      · refine ⟨_, ?_, Goes.plain plain_loop hn g1⟩
        cases e with
        | norm => exact absurd rfl hn
        | _ => exact hr
  intro b K k G w u a h1 h2 h3 h4
  obtain ⟨out, q1, q2⟩ := key m fr st h0 b K k G w u a h1 h2 h3 h4
  exact ⟨out, q1, Goes.head fa_loop q2⟩
theorem triOps_det (hC : CtxOk C) {call : CallF} (hcall : CallsOk C call) {mu : Bool} {ops : Array Oper} {i : Nat} {out : Out} (h : runOps call C mu ro.isSome ops (ops.toList.drop i) fr st = some out) (hq : Q out) : TriOps C mu ro ops i fr st Q :=
  fun b K k G w u a h2 h3 h4 => ⟨out, hq, by
    have := runOps_sound (k := k) hC hcall h2 (ro := ro) (ops.toList.drop i) i G st w u fr a rfl h3 h4 out h
    rwa [List.length_drop, Array.length_toList] at this⟩
theorem tri_region {id : Nat} {ops : Array Oper} (h : TriOps C (C.mu self) ro ops 0 fr st Q) : Tri C self ro (.region id ops false) fr st Q := fun b K k G w u a h1 h2 h3 h4 => by
  obtain ⟨out, q1, q2⟩ := h b K k G w u a h2 h3 h4
  refine ⟨out, q1, Goes.head fa_region ?_⟩
  rw [List.range_eq_range']
  exact q2
theorem triOps_next {mu : Bool} {ops : Array Oper} {i : Nat} {o : Oper} (ho : ops[i]? = some o) {it : Operand} (hop : o.op = .next it false) (hw : wantedA ops fr o = some true) {l : Nat} (hit : oval C fr it = .ptr l 0)
    (h : NextM st l fun v st' => TriOps C mu ro ops (i + 1) (fr.put o.dst v) st' Q) : TriOps C mu ro ops i fr st Q := by
  intro b K k G w u a h2 h3 h4
  have hv := oval_sound h3.rel h3.frs it
  rw [hit] at hv
  obtain ⟨v, st', hQ, q, w', G', ls, e1, e2, e3, e4⟩ := next_map h3.rel h hv o.type
  have hsize : ops.size - i = (ops.size - (i + 1)) + 1 := by have := (Array.getElem?_eq_some_iff.1 ho).1; omega
  obtain ⟨out, k1, k2⟩ := hQ b K k G' w' u (a.put o.dst q) h2 ((h3.ext e2).put e4 o.dst) (h4.ext e2.ext)
  refine ⟨out, k1, Goes.bind e2 e3 ?_⟩
  rw [hsize, List.range'_succ]
  refine Goes.head (fa_value ho (wanted_sound h3.frs hw) (.inr fun c hc => by rw [hop] at hc; cases hc) ?_) k2
  have : (execOp a.eval o).run C.P w = ((Instr.next (a.eval it) false o.type).run C.P w).andThen fun v w => .ok (.value v) w := by simp [execOp, hop]
  rw [this, e1]
  rfl
theorem callN_enter (hC : CtxOk C) {call : CallF} (hcall : CallsOk C call) {f : FuncId} {fi : FI} (hfi : C.fn f = some fi) {args : List AV} {Rc : CR × St × Option AV → Prop}
    (h : Tri C f none fi.body ⟨argTmps args, max fi.ntmps args.length, [], none⟩ ⟨st.heap, st.next, []⟩ R) (hfin : ∀ e fr st1, R (e, fr, st1) → ∃ r, finishFn call C f fi .normal st e fr st1 = some r ∧ Rc r) : CallN C f args st Rc := by
  intro G w vals hr hv
  obtain ⟨fn, f1, f2, f3, f4, f5⟩ := hC.fn f fi hfi
  refine .inl ⟨fn, f1, by rw [f2]; rfl, f5, fun cs => ?_⟩
  have hfr := argTmps_rel hv fi.ntmps
  have hent : Frame.enter C.P f vals.toArray .normal = fa (Frame.enter C.P f vals.toArray .normal) ⟨vals.toArray ++ Array.replicate (fi.ntmps - vals.toArray.size) undef, []⟩ [.code fi.body] := by
    simp [Frame.enter, fa, f1, f2, f4]
  have hs : Sit C G ⟨st.heap, st.next, []⟩ w (Frame.enter C.P f vals.toArray .normal) ⟨argTmps args, max fi.ntmps args.length, [], none⟩ ⟨vals.toArray ++ Array.replicate (fi.ntmps - vals.toArray.size) undef, []⟩ .returning :=
    ⟨hr.log [], ⟨hfr.size, hfr.val⟩, trivial, .inl rfl⟩
  obtain ⟨⟨e, fr1, st1⟩, hR, hgo⟩ := h (Frame.enter C.P f vals.toArray .normal) (fun _ => cs) [] G w .returning _ rfl (.inl rfl) hs rfl
  rw [← hent] at hgo
  obtain ⟨r, hr1, hr2⟩ := hfin e fr1 st1 hR
  obtain ⟨fn', w', G', ls, u', F, e1, e2, e3, e4, e5, e6, e7, e8, e9⟩ := finish_sound (K := fun _ => cs) (u := .returning) (kind := .normal) (kd := .normal) hC hcall hfi hr hgo hr1
  rw [f1] at e1
  cases e1
  obtain ⟨r1, r2, r3⟩ := r
  cases r1 with
  | ret v =>
    obtain ⟨v', k1, k2, k3⟩ := e9
    exact ⟨.returned v', w', F, ⟨_, hr2, G', ls, e5, e6, k1⟩, e8, e2, k2, e4, e3, fn, by rw [e2]; exact f1, k3⟩
  | pan v =>
    obtain ⟨v', k1, k2⟩ := e9
    exact ⟨.panicked [{ v := v', recovered := false }], w', F, ⟨_, hr2, G', ls, e5, e6, k1⟩, e8, e2, k2, e4, fn, by rw [e2]; exact f1⟩
end
end Go.AE

namespace Go.AE
open Go
def TriX (C : Ctx) (self : FuncId) (ro : Option Nat) (x : XC) (fr : Fr) (st : St) (Q : Out → Prop) : Prop := ∀ c, compC C (C.mu self) (resolveC c) = x → Tri C self ro c fr st Q
def TriXO (C : Ctx) (mu : Bool) (ro : Option Nat) (l : List XR) (fr : Fr) (st : St) (Q : Out → Prop) : Prop :=
  ∀ (ops : Array Oper) (i : Nat), ((ops.toList.drop i).map (resolve ops)).map (compR C mu) = l → TriOps C mu ro ops i fr st Q
section
variable {C : Ctx} {self : FuncId} {ro : Option Nat} {fr : Fr} {st : St} {Q R : Out → Prop}
theorem compOp_gen {mu : Bool} {o o' : Oper} (h : compOp C mu o = .gen o') : o' = o := by
  unfold compOp compCall at h
  repeat' split at h
  all_goals first
    | (injection h with h; exact h.symm)
    | (exfalso; injection h)
    | cases h
theorem comp_seq {mu : Bool} {c : Code} {a b : XC} (h : compC C mu (resolveC c) = .seq a b) : ∃ ca cb, c = .seq ca cb ∧ compC C mu (resolveC ca) = a ∧ compC C mu (resolveC cb) = b := by
  cases c <;> simp only [resolveC, compC] at h <;> first | cases h | skip
  · rename_i id ops draw
    cases draw <;> simp [compC] at h
  · exact ⟨_, _, rfl, rfl, rfl⟩
theorem comp_block {mu : Bool} {c : Code} {id : Nat} {b : XC} (h : compC C mu (resolveC c) = .block id b) : ∃ cb, c = .block id cb ∧ compC C mu (resolveC cb) = b := by
  cases c <;> simp only [resolveC, compC] at h <;> first | cases h | skip
  · rename_i id ops draw
    cases draw <;> simp [compC] at h
  · exact ⟨_, rfl, rfl⟩
theorem comp_loop {mu : Bool} {c : Code} {b : XC} (h : compC C mu (resolveC c) = .loop b) : ∃ cb, c = .loop cb ∧ compC C mu (resolveC cb) = b := by
  cases c <;> simp only [resolveC, compC] at h <;> first | cases h | skip
  · rename_i id ops draw
    cases draw <;> simp [compC] at h
  · exact ⟨_, rfl, rfl⟩
theorem comp_cond {mu : Bool} {c : Code} {x : XO} {a b : XC} (h : compC C mu (resolveC c) = .cond x a b) : ∃ cx ca cb, c = .cond cx ca cb ∧ compO C cx = x ∧ compC C mu (resolveC ca) = a ∧ compC C mu (resolveC cb) = b := by
  cases c <;> simp only [resolveC, compC] at h <;> first | cases h | skip
  · rename_i id ops draw
    cases draw <;> simp [compC] at h
  · exact ⟨_, _, _, rfl, rfl, rfl, rfl⟩
theorem comp_ops {mu : Bool} {c : Code} {l : List XR} (h : compC C mu (resolveC c) = .ops l) : ∃ id ops, c = .region id ops false ∧ (ops.toList.map (resolve ops)).map (compR C mu) = l := by
  cases c <;> simp only [resolveC, compC] at h <;> first | cases h | skip
  rename_i id ops draw
  cases draw with
  | true => simp [compC] at h
  | false =>
    simp only [Bool.false_eq_true, if_false, compC] at h
    injection h with h
    exact ⟨id, ops, rfl, h⟩
theorem TriX.mono {x : XC} (h : TriX C self ro x fr st R) (k : ∀ o, R o → Q o) : TriX C self ro x fr st Q := fun c hc => (h c hc).mono k
theorem trix_det (hC : CtxOk C) {call : CallF} (hcall : CallsOk C call) {x : XC} {out : Out} {mu : Bool} (hmu : C.mu self = mu) {n : Option Nat} (h : execX call C mu n self ro x fr st = some out) (hq : Q out) : TriX C self ro x fr st Q := fun c hc => by
  subst hmu hc
  refine tri_det hC hcall (n := n) ?_ hq
  rw [exec_eq, execR_eq]
  exact h
theorem trix_seq {a b : XC} (ha : TriX C self ro a fr st R) (hb : ∀ fr' st', R (.norm, fr', st') → TriX C self ro b fr' st' Q) (he : ∀ e fr' st', e ≠ .norm → R (e, fr', st') → Q (e, fr', st')) : TriX C self ro (.seq a b) fr st Q := fun c hc => by
  obtain ⟨ca, cb, rfl, h1, h2⟩ := comp_seq hc
  exact tri_seq (ha ca h1) (fun fr' st' hr => hb fr' st' hr cb h2) he
theorem trix_block {id : Nat} {b : XC} (h : TriX C self ro b fr st fun o => match o with | (.exit i, fr', st') => if i = id then Q (.norm, fr', st') else Q (.exit i, fr', st') | o => Q o) : TriX C self ro (.block id b) fr st Q := fun c hc => by
  obtain ⟨cb, rfl, h1⟩ := comp_block hc
  exact tri_block (h cb h1)
theorem trix_ct {x : XO} {a b : XC} (hx : x.val fr = .bool true) (h : TriX C self ro a fr st Q) : TriX C self ro (.cond x a b) fr st Q := fun c hc => by
  obtain ⟨cx, ca, cb, rfl, h1, h2, h3⟩ := comp_cond hc
  subst h1
  rw [compO_val] at hx
  exact tri_cond (t := true) hx (h ca h2)
theorem trix_cf {x : XO} {a b : XC} (hx : x.val fr = .bool false) (h : TriX C self ro b fr st Q) : TriX C self ro (.cond x a b) fr st Q := fun c hc => by
  obtain ⟨cx, ca, cb, rfl, h1, h2, h3⟩ := comp_cond hc
  subst h1
  rw [compO_val] at hx
  exact tri_cond (t := false) hx (h cb h3)
theorem trix_loop {b : XC} (I : Nat → Fr → St → Prop) (h : ∀ m fr st, I m fr st → TriX C self ro b fr st fun o => match o with | (.norm, fr', st') => ∃ m', m' < m ∧ I m' fr' st' | o => Q o) {m : Nat} (h0 : I m fr st) : TriX C self ro (.loop b) fr st Q := fun c hc => by
  obtain ⟨cb, rfl, h1⟩ := comp_loop hc
  exact tri_loop I (fun m fr st hI => h m fr st hI cb h1) h0
theorem trix_ops {l : List XR} {mu : Bool} (hmu : C.mu self = mu) (h : TriXO C mu ro l fr st Q) : TriX C self ro (.ops l) fr st Q := fun c hc => by
  subst hmu
  obtain ⟨id, ops, rfl, h1⟩ := comp_ops hc
  exact tri_region (h ops 0 (by simpa using h1))
theorem trixo_det (hC : CtxOk C) {call : CallF} (hcall : CallsOk C call) {l : List XR} {mu : Bool} {out : Out} (h : runX call C mu ro.isSome l fr st = some out) (hq : Q out) : TriXO C mu ro l fr st Q := fun ops i hl => by
  refine triOps_det hC hcall ?_ hq
  rw [runOps_eq, runR_eq, hl]
  exact h
theorem trixo_next {mu : Bool} {d : Option Tmp} {o : Oper} {r : List XR} {it : Operand} (hop : o.op = .next it false) {l : Nat} (hit : oval C fr it = .ptr l 0)
    (h : NextM st l fun v st' => TriXO C mu ro r (fr.put d v) st' Q) : TriXO C mu ro (⟨d, .gen o, none⟩ :: r) fr st Q := fun ops i hl => by
  cases hd : ops.toList.drop i with
  | nil => rw [hd] at hl; cases hl
  | cons o0 rest =>
    rw [hd] at hl
    simp only [List.map_cons, List.cons.injEq] at hl
    obtain ⟨h1, h2⟩ := hl
    have ho : ops[i]? = some o0 := by
      have := congrArg List.head? hd
      rw [List.head?_drop, Array.getElem?_toList] at this
      simpa using this
    have hrest : ops.toList.drop (i + 1) = rest := by
      have := congrArg List.tail hd
      rw [List.tail_drop] at this
      simpa using this
    simp only [compR, resolve, XR.mk.injEq] at h1
    obtain ⟨e1, e2, e3⟩ := h1
    have hop0 : o0.op = .next it false := by
      have := compOp_gen e2
      rw [this] at hop
      exact hop
    have hg : wantedA ops fr o0 = some true := by
      rw [guardA_eq (ops := ops) (o := o0)]
      unfold resolve
      rw [e3]
      rfl
    subst e1
    obtain ⟨m, since, seen, last, es, clk, k1, k2, k3, k4, k5⟩ := h
    refine triOps_next ho hop0 hg hit ⟨m, since, seen, last, es, clk, k1, k2, k3, fun hq => ?_, fun e he hs => ?_⟩
    · exact k4 hq ops (i + 1) (by rw [hrest]; exact h2)
    · exact k5 e he hs ops (i + 1) (by rw [hrest]; exact h2)
end
end Go.AE

namespace Go.AE
open Go
section
variable {C : Ctx}
theorem CleanV.vr {G G' : Gh} {w : World} {x : AV} {v : Value} (h : CleanV x) (hK : ∀ b o, G.K b o → G'.K b o) (hv : VR G w x v) : VR G' w x v :=
  VR.belowKeep (n := 0) (fun l L hl _ => absurd hl (Nat.not_lt_zero _)) hK hv h
theorem iterO_bound {f g : Fr → St → Option Out} (h : ∀ fr st out, f fr st = some out → g fr st = some out) {n : Option Nat} {fr : Fr} {st : St} {out : Out} (hr : iterO f n fr st = some out) : iterO g none fr st = some out := by
  have lift : ∀ n, iter f n fr st = some out → iterW g fr st = some out := fun n hn =>
    (iter_cont (f := f) (g := fun _ => g) (fun fr st out h' => Ev.pure fun _ => h fr st out h') hn).const |> fun e => iterW_iff.2 ⟨n, e⟩
  cases n with
  | some n => exact lift n hr
  | none => obtain ⟨n, hn⟩ := iterW_iff.1 (show iterW f fr st = some out from hr); exact lift n hn
theorem exec_bound {call : CallF} {n : Option Nat} {self : FuncId} {ro : Option Nat} : ∀ (c : Code) {fr : Fr} {st : St} {out : Out}, exec call C n self ro c fr st = some out → exec call C none self ro c fr st = some out := by
  intro c
  induction c with
  | seq a b iha ihb =>
    intro fr st out h
    simp only [exec] at h ⊢
    cases h1 : exec call C n self ro a fr st with
    | none => rw [h1] at h; cases h
    | some o =>
      obtain ⟨e, f1, s1⟩ := o
      rw [h1] at h
      rw [iha h1]
      cases e with
      | norm => exact ihb h
      | _ => exact h
  | cond x a b iha ihb =>
    intro fr st out h
    simp only [exec] at h ⊢
    split at h
    · rename_i t _
      cases t with
      | true => exact iha h
      | false => exact ihb h
    · cases h
  | block id a iha =>
    intro fr st out h
    simp only [exec] at h ⊢
    cases h1 : exec call C n self ro a fr st with
    | none => rw [h1] at h; cases h
    | some o => rw [h1] at h; rw [iha h1]; exact h
  | loop a iha => intro fr st out h; simp only [exec] at h ⊢; exact iterO_bound (fun fr st out h => iha h) h
  | rangeFunc f params assign body _ _ => intro fr st out h; simp only [exec] at h ⊢; exact h
  | region id ops draw => intro fr st out h; simp only [exec] at h ⊢; exact h
  | _ => intro fr st out h; exact h
theorem callN_bound {lp : Nat → Option Nat} : ∀ n, CLe (callN C lp n) (callN C (fun _ => none) n)
  | 0 => fun t a k s r h => by cases t <;> cases h
  | n + 1 => by
    have ih := callN_bound (lp := lp) n
    intro t a k s r h
    have enter : ∀ {f fi kd}, enterFn (callN C lp n) C (lp n) f fi a kd s = some r → enterFn (callN C (fun _ => none) n) C none f fi a kd s = some r := fun {f fi kd} h => by
      have h1 := (enterFn_cont ih.chain h).const
      unfold enterFn at h1 ⊢
      split at h1
      · cases h1
      · rename_i e fr st1 hx; rw [exec_bound _ hx]; exact h1
    cases t with
    | fn f =>
      simp only [callN] at h ⊢
      split at h
      · exact h
      · split at h
        · cases h
        · exact enter h
    | yield l =>
      simp only [callN] at h ⊢
      split at h
      · rename_i self t m p assign body s0 pe0 d0 ho
        have h1 := (roundA_cont ih.chain h).const
        unfold roundA at h1 ⊢
        split at h1
        · rename_i hc
          simp only [if_pos hc]
          cases hx : exec (callN C (fun _ => none) n) C (lp n) self (some l) assign ⟨setParams (p.zip a) m t, m, [], none⟩ s with
          | none => rw [hx] at h1; cases h1
          | some o =>
            obtain ⟨e, fr, st1⟩ := o
            rw [hx] at h1
            rw [exec_bound _ hx]
            cases e with
            | norm =>
              simp only at h1 ⊢
              split at h1
              · rename_i s' t' m' p' a' b' pe' d' hl
                cases hx2 : exec (callN C (fun _ => none) n) C (lp n) self (some l) body fr (st1.set l (.loop s' t' m' p' a' b' .busy pe' d')) with
                | none => rw [hx2] at h1; cases h1
                | some o2 => rw [hx2] at h1; rw [exec_bound _ hx2]; exact h1
              · cases h1
            | _ => cases h1
        · cases h1
      · cases h
theorem callW_eval {lp : Nat → Option Nat} {n : Nat} {t : Tgt} {a : List AV} {k : Knd} {s : St} {r : CR × St × Option AV} (h : callN C lp n t a k s = some r) : callW C t a k s = some r :=
  callW_iff.2 ⟨n, callN_bound n t a k s r h⟩
theorem rel_nothing (hg : ∀ g, C.glob g = none) {G : Gh} {st : St} {w : World} (hr : Rel C G st w) : Rel C ⟨fun _ => none, G.K, G.base⟩ st00 w where
  obj := fun l L h => by cases h
  sep := fun l1 l2 L1 L2 h => by cases h
  kold := hr.kold
  glob := fun g cs h => by rw [hg] at h; cases h
  low := hr.low
theorem vrs_clean {G G' : Gh} {w : World} (hK : ∀ b o, G.K b o → G'.K b o) : ∀ {xs : List AV} {vs : List Value}, (∀ x ∈ xs, CleanV x) → VRs G w xs vs → VRs G' w xs vs
  | [], [], _, _ => trivial
  | x :: xs, v :: vs, h, k => ⟨(h x (by simp)).vr hK k.1, vrs_clean hK (fun y hy => h y (by simp [hy])) k.2⟩
theorem callOk_eval (hC : CtxOk C) (hX : XOk C) (hg : ∀ g, C.glob g = none) {f : FuncId} {args : List AV} {v : AV} {st' : St} {p : Option AV} (h : callW C (.fn f) args .normal st00 = some (.ret v, st', p)) (hargs : ∀ a ∈ args, CleanV a) (hcl : CleanV v) (st : St) :
    CallOk C (.fn f) args .normal st (.ret v, st, none) := by
  intro G w vals hr hv
  have hok := callW_ok hC hX _ _ _ _ _ h ⟨fun _ => none, G.K, G.base⟩ w vals (rel_nothing hg hr) (vrs_clean (G := G) (G' := ⟨fun _ => none, G.K, G.base⟩) (fun _ _ h => h) hargs hv)
  have conv : ∀ (e' : Ending) w', (∃ G' ls, Ok C ⟨fun _ => none, G.K, G.base⟩ st00 w ls G' st' w' ∧ st'.log = ls ++ st00.log ∧ EndRel G' w' (.ret v) e') → ∃ G' ls, Ok C G st w ls G' st w' ∧ st.log = ls ++ st.log ∧ EndRel G' w' (.ret v) e' := by
    rintro e' w' ⟨G', ls, ok, _, hend⟩
    have hnt : ∀ b, ¬ Touches ⟨fun _ => none, G.K, G.base⟩ ls b := fun b ⟨_, _, _, h, _⟩ => by cases h
    have hext : Ext G w ⟨G.loc, G'.K, G.base⟩ w' := ⟨fun _ _ h => h, ok.ext.K, ok.ext.cell⟩
    have hblk : ∀ b, b < w.heap.size → w'.heap[b]? = w.heap[b]? := fun b hb => ok.frame b hb (hnt b)
    have hKold : ∀ b, b < w.heap.size → ∀ o, G'.K b o → G.K b o := fun b hb o hk => by
      rcases ok.newK b o hk with h1 | h1 | h1
      · exact h1
      · omega
      · exact absurd h1 (hnt b)
    refine ⟨⟨G.loc, G'.K, G.base⟩, [], ?_, rfl, ?_⟩
    · exact {
        ext := hext
        rel := {
          obj := fun l L h => by
            obtain ⟨a1, a2, a3, a4⟩ := hr.obj l L h
            exact ⟨a1, Nat.lt_of_lt_of_le a2 ok.size, a3, a4.keep hext (hblk _ a2) (hKold _ a2)⟩
          sep := hr.sep
          kold := ok.rel.kold
          glob := fun g cs h => (hr.glob g cs h).ext hext
          low := Nat.le_trans hr.low ok.size }
        base := rfl
        next := Nat.le_refl _
        size := ok.size
        keep := fun _ _ _ => rfl
        frame := fun b hb _ => hblk b hb
        newloc := fun l L h1 h2 => by rw [show Gh.loc ⟨G.loc, G'.K, G.base⟩ l = G.loc l from rfl, h1] at h2; cases h2
        newK := fun b o h => by
          rcases ok.newK b o h with h1 | h1 | h1
          · exact .inl h1
          · exact .inr (.inl h1)
          · exact absurd h1 (hnt b)
        tape := ok.tape
        os := ok.os
        output := ok.output }
    · cases e' with
      | panicked c => exact hend.elim
      | outgrown => exact hend.elim
      | returned v' => exact hcl.vr (G := G') (fun _ _ h => h) hend
  rcases hok with ⟨fn, q1, q2, q3, q4⟩ | ⟨v1, w', q1, q2⟩
  · exact .inl ⟨fn, q1, q2, q3, q4.mono fun e' w' hh => conv e' w' hh⟩
  · exact .inr ⟨v1, w', q1, conv _ _ q2⟩
def Ctx.withX (C : Ctx) (X : FuncId → List AV → St → Option (AV × St)) : Ctx := { C with X := X }
theorem objRel_withX {X : FuncId → List AV → St → Option (AV × St)} {G : Gh} {w : World} {L : Loc} {o : AO} : ObjRel (C.withX X) G w L o ↔ ObjRel C G w L o := by cases o <;> exact Iff.rfl
theorem rel_withX {X : FuncId → List AV → St → Option (AV × St)} {G : Gh} {st : St} {w : World} : Rel (C.withX X) G st w ↔ Rel C G st w :=
  ⟨fun h => ⟨fun l L hl => by have := h.obj l L hl; exact ⟨this.1, this.2.1, this.2.2.1, objRel_withX.1 this.2.2.2⟩, h.sep, h.kold, h.glob, h.low⟩,
   fun h => ⟨fun l L hl => by have := h.obj l L hl; exact ⟨this.1, this.2.1, this.2.2.1, objRel_withX.2 this.2.2.2⟩, h.sep, h.kold, h.glob, h.low⟩⟩
theorem ok_withX {X : FuncId → List AV → St → Option (AV × St)} {G G' : Gh} {st st' : St} {w w' : World} {ls : List Nat} (h : Ok C G st w ls G' st' w') : Ok (C.withX X) G st w ls G' st' w' :=
  ⟨h.ext, rel_withX.2 h.rel, h.base, h.next, h.size, h.keep, h.frame, h.newloc, h.newK, h.tape, h.os, h.output⟩
theorem callOk_withX {X : FuncId → List AV → St → Option (AV × St)} {f : FuncId} {args : List AV} {st : St} {r : CR × St × Option AV} (h : CallOk C (.fn f) args .normal st r) : CallOk (C.withX X) (.fn f) args .normal st r := by
  intro G w vals hr hv
  have conv : ∀ (e' : Ending) w', (∃ G' ls, Ok C G st w ls G' r.2.1 w' ∧ r.2.1.log = ls ++ st.log ∧ EndRel G' w' r.1 e') → ∃ G' ls, Ok (C.withX X) G st w ls G' r.2.1 w' ∧ r.2.1.log = ls ++ st.log ∧ EndRel G' w' r.1 e' :=
    fun e' w' ⟨G', ls, h1, h2, h3⟩ => ⟨G', ls, ok_withX h1, h2, h3⟩
  rcases h G w vals (rel_withX.1 hr) hv with ⟨fn, q1, q2, q3, q4⟩ | ⟨v1, w', q1, q2⟩
  · exact .inl ⟨fn, q1, q2, q3, q4.mono fun e' w' hh => conv e' w' hh⟩
  · exact .inr ⟨v1, w', q1, conv _ _ q2⟩
theorem ctxOk_withX {X : FuncId → List AV → St → Option (AV × St)} (h : CtxOk C) : CtxOk (C.withX X) := ⟨h.und, h.info, h.agg, h.places, h.fn, h.zv, h.mixed⟩
end
end Go.AE

namespace Go.AE
open Go
def appL : List Out → Option (List Out) → Option (List Out)
  | a, some b => some (a ++ b)
  | _, none => none
def bindL (k : Fr → St → Option (List Out)) : List Out → Option (List Out)
  | [] => some []
  | (.norm, fr, st) :: r => (match k fr st with | some a => appL a (bindL k r) | none => none)
  | o :: r => appL [o] (bindL k r)
def nextCands (l m since : Nat) (seen : List Nat) (clk : Nat) (st : St) : List Ent → List (AV × St)
  | [] => []
  | e :: r => if seen.contains e.2.2 then nextCands l m since seen clk st r else (.tuple [.bool true, e.1, e.2.1], st.set l (.miter (some m) since (seen ++ [e.2.2]) clk)) :: nextCands l m since seen clk st r
def nextL (st : St) : AV → Option (List (AV × St))
  | .ptr l 0 => (match st.heap l with
    | .miter (some m) since seen last => (match st.heap m with
      | .amap es clk => if seen.isEmpty || es.isEmpty || es.any (fun e => decide (e.2.2 < last)) then
          some ((if es.all (fun e => seen.contains e.2.2 || decide (since ≤ e.2.2)) then [(.tuple [.bool false], st)] else []) ++ nextCands l m since seen clk st es) else none
      | _ => none)
    | _ => none)
  | _ => none
def isNext : XOp → Option Operand
  | .gen o => (match o.op with | .next it false => some it | _ => none)
  | _ => none
def overL (k : AV → St → Option (List Out)) : List (AV × St) → Option (List Out)
  | [] => some []
  | (v, st) :: r => (match k v st with | some a => appL a (overL k r) | none => none)
def runXL (call : CallF) (C : Ctx) (mu : Bool) (ro : Bool) : List XR → Fr → St → Option (List Out)
  | [], fr, st => some [(.norm, fr, st)]
  | o :: rest, fr, st => (match isNext o.o, o.g with
    | some it, none => (match nextL st (oval C fr it) with
      | some l => overL (fun v st => runXL call C mu ro rest (fr.put o.d v) st) l
      | none => none)
    | some _, some _ => none
    | none, g => (match guardA fr g with
      | none => none
      | some false => runXL call C mu ro rest (fr.put o.d undefA) st
      | some true => (match runOpX call C mu ro o.d o.o fr st with
        | some (.norm, fr, st) => runXL call C mu ro rest fr st
        | some (e, fr, st) => some [(e, fr, st)]
        | none => none)))
def blockL (id : Nat) : List Out → List Out
  | [] => []
  | (.exit i, fr, st) :: r => (if i = id then (.norm, fr, st) else (.exit i, fr, st)) :: blockL id r
  | o :: r => o :: blockL id r
def loopL (f : Fr → St → Option (List Out)) : Nat → Fr → St → Option (List Out)
  | 0, _, _ => none
  | n + 1, fr, st => (match f fr st with | some l => bindL (loopL f n) l | none => none)
noncomputable def outsX (call : CallF) (C : Ctx) (mu : Bool) (n : Nat) (self : FuncId) (ro : Option Nat) : XC → Fr → St → Option (List Out)
  | .ops l, fr, st => runXL call C mu ro.isSome l fr st
  | .seq a b, fr, st => (match outsX call C mu n self ro a fr st with | some l => bindL (outsX call C mu n self ro b) l | none => none)
  | .cond c a b, fr, st => (match c.val fr with
    | .bool x => if x then outsX call C mu n self ro a fr st else outsX call C mu n self ro b fr st
    | _ => none)
  | .block id b, fr, st => (match outsX call C mu n self ro b fr st with | some l => some (blockL id l) | none => none)
  | .loop b, fr, st => loopL (outsX call C mu n self ro b) n fr st
  | x, fr, st => (match execX call C mu (some n) self ro x fr st with | some o => some [o] | none => none)
section
variable {C : Ctx} {self : FuncId} {ro : Option Nat} {fr : Fr} {st : St} {Q R : Out → Prop}
theorem appL_some {a L : List Out} {b : Option (List Out)} (h : appL a b = some L) : ∃ b', b = some b' ∧ L = a ++ b' := by
  cases b with
  | none => cases h
  | some b => exact ⟨b, rfl, (Option.some.inj h).symm⟩
theorem bindL_spec {k : Fr → St → Option (List Out)} : ∀ {l L : List Out}, bindL k l = some L → (∀ fr st, (.norm, fr, st) ∈ l → ∃ L', k fr st = some L' ∧ ∀ o ∈ L', o ∈ L) ∧ ∀ e fr st, e ≠ .norm → (e, fr, st) ∈ l → (e, fr, st) ∈ L
  | [], L, h => ⟨fun fr st hm => (nomatch hm), fun e fr st _ hm => (nomatch hm)⟩
  | (e0, fr0, st0) :: r, L, h => by
    by_cases hn : e0 = .norm
    · subst hn
      simp only [bindL] at h
      split at h
      · rename_i a ha
        obtain ⟨b, hb, rfl⟩ := appL_some h
        obtain ⟨h1, h2⟩ := bindL_spec hb
        refine ⟨fun fr st hm => ?_, fun e fr st hne hm => ?_⟩
        · rcases List.mem_cons.1 hm with h | h
          · cases h; exact ⟨a, ha, fun o ho => by simp [ho]⟩
          · obtain ⟨L', k1, k2⟩ := h1 fr st h; exact ⟨L', k1, fun o ho => by simp [k2 o ho]⟩
        · rcases List.mem_cons.1 hm with h | h
          · cases h; exact absurd rfl hne
          · simp [h2 e fr st hne h]
      · cases h
    · have h' : appL [(e0, fr0, st0)] (bindL k r) = some L := by
        cases e0 with
        | norm => exact absurd rfl hn
        | _ => exact h
      obtain ⟨b, hb, rfl⟩ := appL_some h'
      obtain ⟨h1, h2⟩ := bindL_spec hb
      refine ⟨fun fr st hm => ?_, fun e fr st hne hm => ?_⟩
      · rcases List.mem_cons.1 hm with h | h
        · cases h; exact absurd rfl hn
        · obtain ⟨L', k1, k2⟩ := h1 fr st h; exact ⟨L', k1, fun o ho => by simp [k2 o ho]⟩
      · rcases List.mem_cons.1 hm with h | h
        · cases h; simp
        · simp [h2 e fr st hne h]
theorem overL_spec {k : AV → St → Option (List Out)} : ∀ {l : List (AV × St)} {L : List Out}, overL k l = some L → ∀ v st, (v, st) ∈ l → ∃ L', k v st = some L' ∧ ∀ o ∈ L', o ∈ L
  | [], L, h, v, st, hm => nomatch hm
  | (v0, st0) :: r, L, h, v, st, hm => by
    simp only [overL] at h
    split at h
    · rename_i a ha
      obtain ⟨b, hb, rfl⟩ := appL_some h
      rcases List.mem_cons.1 hm with h | h
      · cases h; exact ⟨a, ha, fun o ho => by simp [ho]⟩
      · obtain ⟨L', k1, k2⟩ := overL_spec hb v st h; exact ⟨L', k1, fun o ho => by simp [k2 o ho]⟩
    · cases h
theorem nextCands_mem {l m since : Nat} {seen : List Nat} {clk : Nat} {st : St} : ∀ {es : List Ent} {e : Ent}, e ∈ es → e.2.2 ∉ seen → (AV.tuple [.bool true, e.1, e.2.1], st.set l (.miter (some m) since (seen ++ [e.2.2]) clk)) ∈ nextCands l m since seen clk st es
  | x :: r, e, hm, hs => by
    simp only [nextCands]
    rcases List.mem_cons.1 hm with rfl | h
    · have : seen.contains e.2.2 = false := by simpa using hs
      rw [this]; simp
    · split
      · exact nextCands_mem h hs
      · exact List.mem_cons_of_mem _ (nextCands_mem h hs)
theorem nextL_spec {l : Nat} {cands : List (AV × St)} (h : nextL st (.ptr l 0) = some cands) {P : AV → St → Prop} (hP : ∀ v st', (v, st') ∈ cands → P v st') : NextM st l P := by
  simp only [nextL] at h
  split at h
  · rename_i m since seen last ho
    split at h
    · rename_i es clk hm
      split at h
      · rename_i hc
        cases h
        refine ⟨m, since, seen, last, es, clk, ho, hm, ?_, fun hq => ?_, fun e he hs => ?_⟩
        · simp only [Bool.or_eq_true, List.isEmpty_iff, List.any_eq_true, decide_eq_true_eq] at hc
          rcases hc with (h | h) | ⟨e, h1, h2⟩
          · exact .inl h
          · exact .inr (.inl h)
          · exact .inr (.inr ⟨e, h1, h2⟩)
        · refine hP _ _ (List.mem_append_left _ ?_)
          rw [if_pos]
          · simp
          · rw [List.all_eq_true]
            intro e he
            by_cases hs : e.2.2 ∈ seen
            · simp [hs]
            · simp [hq e he hs]
        · exact hP _ _ (List.mem_append_right _ (nextCands_mem he hs))
      · cases h
    · cases h
  · cases h
theorem isNext_spec {x : XOp} {it : Operand} (h : isNext x = some it) : ∃ o, x = .gen o ∧ o.op = .next it false := by
  cases x <;> simp only [isNext] at h <;> (try (cases h; done))
  rename_i o
  split at h
  · rename_i it' ho; cases h; exact ⟨o, rfl, ho⟩
  · cases h
section
variable {mu : Bool} {ops : Array Oper} {i : Nat} {o : Oper}
theorem range_at (ho : ops[i]? = some o) : List.range' i (ops.size - i) = i :: List.range' (i + 1) (ops.size - (i + 1)) := by
  have hsize : ops.size - i = (ops.size - (i + 1)) + 1 := by have := (Array.getElem?_eq_some_iff.1 ho).1; omega
  rw [hsize, List.range'_succ]
theorem triOps_skip (ho : ops[i]? = some o) (hw : wantedA ops fr o = some false) (h : TriOps C mu ro ops (i + 1) (fr.put o.dst undefA) st Q) : TriOps C mu ro ops i fr st Q := by
  intro b K k G w u a h2 h3 h4
  obtain ⟨out, k1, k2⟩ := h b K k G w u (a.put o.dst undef) h2 (h3.put VR.undef o.dst) h4
  rw [range_at ho]
  exact ⟨out, k1, Goes.head (fa_op_skip ho (wanted_sound h3.frs hw)) k2⟩
theorem triOps_op (hC : CtxOk C) {call : CallF} (hcall : CallsOk C call) (ho : ops[i]? = some o) (hw : wantedA ops fr o = some true) {fr' : Fr} {st' : St} (h1 : runOp call C mu ro.isSome o fr st = some (.norm, fr', st')) (h : TriOps C mu ro ops (i + 1) fr' st' Q) : TriOps C mu ro ops i fr st Q := by
  intro b K k G w u a h2 h3 h4
  have g := runOp_sound (k := k) (rest := List.range' (i + 1) (ops.size - (i + 1))) hC hcall h2 ho (wanted_sound h3.frs hw) h3 h4 h1
  obtain ⟨a', u', w', G', ls, f, q1, q2, q3, q4, q5⟩ := g
  cases q4
  obtain ⟨out, k1, k2⟩ := h b K k G' w' u' a' h2 q3 (h4.ext q1.ext)
  rw [range_at ho]
  exact ⟨out, k1, Goes.bind q1 q2 (Goes.head q5 k2)⟩
theorem triOps_end (hC : CtxOk C) {call : CallF} (hcall : CallsOk C call) (ho : ops[i]? = some o) (hw : wantedA ops fr o = some true) {e : EX} {fr' : Fr} {st' : St} (he : e ≠ .norm) (h1 : runOp call C mu ro.isSome o fr st = some (e, fr', st')) (h : Q (e, fr', st')) : TriOps C mu ro ops i fr st Q := by
  intro b K k G w u a h2 h3 h4
  have g := runOp_sound (k := k) (rest := List.range' (i + 1) (ops.size - (i + 1))) hC hcall h2 ho (wanted_sound h3.frs hw) h3 h4 h1
  rw [range_at ho]
  exact ⟨_, h, Goes.region he g⟩
end
theorem xr_head {mu : Bool} {ops : Array Oper} {i : Nat} {o : XR} {rest : List XR} (h : ((ops.toList.drop i).map (resolve ops)).map (compR C mu) = o :: rest) :
    ∃ o0, ops[i]? = some o0 ∧ compR C mu (resolve ops o0) = o ∧ ((ops.toList.drop (i + 1)).map (resolve ops)).map (compR C mu) = rest := by
  cases hd : ops.toList.drop i with
  | nil => rw [hd] at h; cases h
  | cons o0 r =>
    rw [hd] at h
    simp only [List.map_cons, List.cons.injEq] at h
    have ho : ops[i]? = some o0 := by
      have := congrArg List.head? hd
      rw [List.head?_drop, Array.getElem?_toList] at this
      simpa using this
    have hrest : ops.toList.drop (i + 1) = r := by
      have := congrArg List.tail hd
      rw [List.tail_drop] at this
      simpa using this
    exact ⟨o0, ho, h.1, by rw [hrest]; exact h.2⟩
theorem runXL_sound (hC : CtxOk C) {call : CallF} (hcall : CallsOk C call) {mu : Bool} : ∀ {l : List XR} {fr : Fr} {st : St} {L : List Out}, runXL call C mu ro.isSome l fr st = some L → TriXO C mu ro l fr st (· ∈ L)
  | [], fr, st, L, h => by
    simp only [runXL, Option.some.injEq] at h
    subst h
    exact trixo_det hC hcall (out := (.norm, fr, st)) rfl (by simp)
  | o :: rest, fr, st, L, h => by
    simp only [runXL] at h
    split at h
    · rename_i it hn hg
      obtain ⟨o0, e1, e2⟩ := isNext_spec hn
      split at h
      · rename_i cands hc
        obtain ⟨d, x, g⟩ := o
        simp only at e1 hg h
        subst e1 hg
        cases hit : oval C fr it with
        | ptr q off =>
          rw [hit] at hc
          cases off with
          | zero =>
            refine trixo_next e2 hit (nextL_spec hc fun v st' hm => ?_)
            obtain ⟨L', k1, k2⟩ := overL_spec h v st' hm
            have := runXL_sound hC hcall k1
            intro ops i hl b K k G w u a h1 h2 h3
            obtain ⟨out, q1, q2⟩ := this ops i hl b K k G w u a h1 h2 h3
            exact ⟨out, k2 out q1, q2⟩
          | succ n => cases hc
        | _ => rw [hit] at hc; cases hc
      · cases h
    · cases h
    · rename_i hn
      have gw : ∀ (ops : Array Oper) (o0 : Oper), compR C mu (resolve ops o0) = o → wantedA ops fr o0 = guardA fr o.g ∧ o0.dst = o.d ∧ ∀ st, runOp call C mu ro.isSome o0 fr st = runOpX call C mu ro.isSome o.d o.o fr st := fun ops o0 e => by
        subst e
        refine ⟨guardA_eq, rfl, fun st => ?_⟩
        exact (runOpX_eq (C := C) (mu := mu) (ro := ro.isSome) (fr := fr) (st := st) (call := call) (resolve ops o0).oper).symm
      split at h
      · cases h
      · rename_i hg
        intro ops i hl
        obtain ⟨o0, ho, e1, e2⟩ := xr_head hl
        obtain ⟨g1, g2, g3⟩ := gw ops o0 e1
        exact triOps_skip ho (by rw [g1]; exact hg) (by rw [g2]; exact runXL_sound hC hcall h ops (i + 1) e2)
      · rename_i hg
        split at h
        · rename_i fr1 st1 hr
          intro ops i hl
          obtain ⟨o0, ho, e1, e2⟩ := xr_head hl
          obtain ⟨g1, g2, g3⟩ := gw ops o0 e1
          exact triOps_op hC hcall ho (by rw [g1]; exact hg) (by rw [g3]; exact hr) (runXL_sound hC hcall h ops (i + 1) e2)
        · rename_i e fr1 st1 hne hr
          cases h
          intro ops i hl
          obtain ⟨o0, ho, e1, e2⟩ := xr_head hl
          obtain ⟨g1, g2, g3⟩ := gw ops o0 e1
          exact triOps_end hC hcall ho (by rw [g1]; exact hg) (fun he => hne he) (by rw [g3]; exact hr) (by simp)
        · cases h
theorem blockL_spec {id : Nat} : ∀ {l : List Out} {e : EX} {fr : Fr} {st : St}, (e, fr, st) ∈ l → (match (e, fr, st) with | ((.exit i, fr', st') : Out) => if i = id then ((.norm, fr', st') : Out) ∈ blockL id l else (.exit i, fr', st') ∈ blockL id l | o => o ∈ blockL id l)
  | x :: r, e, fr, st, h => by
    rcases List.mem_cons.1 h with h | h
    · subst h
      cases e with
      | exit i => simp only [blockL]; split <;> simp
      | _ => simp [blockL]
    · have ih := blockL_spec (id := id) h
      have sub : ∀ o, o ∈ blockL id r → o ∈ blockL id (x :: r) := fun o ho => by
        obtain ⟨e0, f0, s0⟩ := x
        cases e0 <;> simp [blockL, ho]
      cases e with
      | exit i => simp only at ih ⊢; split <;> rename_i hi <;> simp only [hi, if_true, if_false] at ih <;> exact sub _ ih
      | _ => exact sub _ ih
theorem outsX_sound (hC : CtxOk C) {call : CallF} (hcall : CallsOk C call) {n : Nat} : ∀ (x : XC) {fr : Fr} {st : St} {L : List Out}, outsX call C (C.mu self) n self ro x fr st = some L → TriX C self ro x fr st (· ∈ L) := by
  intro x
  have det : ∀ (x : XC) {fr : Fr} {st : St} {L : List Out}, (match execX call C (C.mu self) (some n) self ro x fr st with | some o => some [o] | none => none) = some L → TriX C self ro x fr st (· ∈ L) := fun x fr st L h => by
    split at h
    · rename_i o ho; cases h; exact trix_det hC hcall rfl ho (by simp)
    · cases h
  induction x with
  | ops l => intro fr st L h; simp only [outsX] at h; exact trix_ops rfl (runXL_sound hC hcall h)
  | seq a b iha ihb =>
    intro fr st L h
    simp only [outsX] at h
    split at h
    · rename_i l hl
      obtain ⟨h1, h2⟩ := bindL_spec h
      refine trix_seq (iha hl) (fun fr' st' hm => ?_) fun e fr' st' hne hm => h2 e fr' st' hne hm
      obtain ⟨L', k1, k2⟩ := h1 fr' st' hm
      exact (ihb k1).mono k2
    · cases h
  | cond c a b iha ihb =>
    intro fr st L h
    simp only [outsX] at h
    split at h
    · rename_i t ht
      cases t with
      | true => exact trix_ct ht (iha h)
      | false => exact trix_cf ht (ihb h)
    · cases h
  | block id b ih =>
    intro fr st L h
    simp only [outsX] at h
    split at h
    · rename_i l hl
      cases h
      exact trix_block ((ih hl).mono fun o ho => by obtain ⟨e, f, s⟩ := o; exact blockL_spec ho)
    · cases h
  | loop b ih =>
    intro fr st L h
    simp only [outsX] at h
    refine trix_loop (fun m fr st => ∃ L', loopL (outsX call C (C.mu self) n self ro b) m fr st = some L' ∧ ∀ o ∈ L', o ∈ L) (fun m fr st hI => ?_) (m := n) ⟨L, h, fun o ho => ho⟩
    obtain ⟨L', hL', hsub⟩ := hI
    cases m with
    | zero => cases hL'
    | succ m =>
      simp only [loopL] at hL'
      split at hL'
      · rename_i l hl
        obtain ⟨h1, h2⟩ := bindL_spec hL'
        refine (ih hl).mono fun o ho => ?_
        obtain ⟨e, f, s⟩ := o
        cases e with
        | norm =>
          obtain ⟨L2, k1, k2⟩ := h1 f s ho
          exact ⟨m, Nat.lt_succ_self m, L2, k1, fun o ho => hsub o (k2 o ho)⟩
        | _ => exact hsub _ (h2 _ f s (by simp) ho)
      · cases hL'
  | skip => intro fr st L h; exact det _ h
  | draw ops l => intro fr st L h; exact det _ h
  | rangeFunc f ps a b => intro fr st L h; exact det _ h
  | exit id => intro fr st L h; exact det _ h
  | goto l => intro fr st L h; exact det _ h
  | ret => intro fr st L h; exact det _ h
  | bad => intro fr st L h; exact det _ h
end
end Go.AE

namespace Go.AE
open Go
def RenC (l : Nat → Nat) (b k : Nat) (x y : AV) : Prop := (CleanV x ∧ x = y) ∨ ∃ i o n lim, i < k ∧ x = .row (l i) o n lim ∧ y = .row (b + i) o n lim
def RenCs (l : Nat → Nat) (b k : Nat) (xs ys : List AV) : Prop := xs.length = ys.length ∧ ∀ i, i < xs.length → RenC l b k (xs.getD i .any) (ys.getD i .any)
def pushL (st : St) (os : List AO) : St := ⟨fun q => if q < st.next then st.heap q else (match os[q - st.next]? with | some o => o | none => st.heap q), st.next + os.length, st.log⟩
theorem pushL_old {st : St} {os : List AO} {q : Nat} (h : q < st.next) : (pushL st os).heap q = st.heap q := by simp [pushL, h]
theorem pushL_new {st : St} {os : List AO} {i : Nat} {o : AO} (h : os[i]? = some o) : (pushL st os).heap (st.next + i) = o := by
  simp only [pushL]
  rw [if_neg (by omega), show st.next + i - st.next = i by omega, h]
theorem RenC.vr {G' G2 : Gh} {w : World} {l : Nat → Nat} {b k : Nat} {x y : AV} (h : RenC l b k x y) (hloc : ∀ i, i < k → G2.loc (b + i) = G'.loc (l i)) (hK : G2.K = G'.K) {v : Value} (hv : VR G' w x v) : VR G2 w y v := by
  rcases h with ⟨h1, rfl⟩ | ⟨i, o, n, lim, hi, rfl, rfl⟩
  · exact h1.vr (fun b o hk => by rw [hK]; exact hk) hv
  · cases hv with
    | row _ _ _ _ L a cap h h1 h2 h3 h4 h5 h6 => exact .row (b + i) o n lim L a cap (by rw [hloc i hi]; exact h) h1 h2 h3 h4 h5 h6
section
variable {C : Ctx}
theorem callOk_tree0 (hg0 : ∀ g, C.glob g = none) {f : FuncId} {args : List AV} {R : CR × St × Option AV → Prop} (h : CallN C f args st00 R) {v : Nat → AV} {os : Nat → List AO} {k : Nat} (hk : ∀ b, (os b).length = k)
    (hR : ∀ r, R r → ∀ b, ∃ (l : Nat → Nat) (v1 : AV) (st1 : St), r = (.ret v1, st1, none) ∧ (∀ i j, i < k → j < k → l i = l j → i = j) ∧ RenC l b k v1 (v b) ∧
      ∀ i, i < k → ∃ e cs cs' full fz, st1.heap (l i) = .mem e cs full fz ∧ (os b)[i]? = some (.mem e cs' full fz) ∧ RenCs l b k cs cs')
    (hargs : ∀ a ∈ args, CleanV a) (st : St) : CallOk C (.fn f) args .normal st (.ret (v st.next), pushL st (os st.next), none) := by
  intro G w vals hr hv
  have conv : ∀ (e' : Ending) w', (∃ r, R r ∧ ∃ G' ls, Ok C ⟨fun _ => none, G.K, G.base⟩ st00 w ls G' r.2.1 w' ∧ r.2.1.log = ls ++ st00.log ∧ EndRel G' w' r.1 e') →
      ∃ G' ls, Ok C G st w ls G' (pushL st (os st.next)) w' ∧ (pushL st (os st.next)).log = ls ++ st.log ∧ EndRel G' w' (.ret (v st.next)) e' := by
    rintro e' w' ⟨r, hr1, G', ls, ok, hlog, hend⟩
    obtain ⟨l, v1, st1, rfl, hinj, hv1, ho⟩ := hR r hr1 st.next
    cases e' with
    | panicked c => exact hend.elim
    | outgrown => exact hend.elim
    | returned v' =>
      have hvr : VR G' w' v1 v' := hend
      have hnt : ∀ b, ¬ Touches ⟨fun _ => none, G.K, G.base⟩ ls b := fun b ⟨_, _, _, h, _⟩ => by cases h
      have hnew : ∀ q L, G'.loc q = some L → w.heap.size ≤ L.blk := fun q L hL => by
        rcases (ok.newloc q L rfl hL).2 with h | h
        · exact h
        · exact absurd h (hnt _)
      obtain ⟨G2, hG2⟩ : ∃ G2 : Gh, G2 = ⟨fun q => if st.next ≤ q ∧ q < st.next + k then G'.loc (l (q - st.next)) else G.loc q, G'.K, G.base⟩ := ⟨_, rfl⟩
      have g1 : ∀ i, i < k → G2.loc (st.next + i) = G'.loc (l i) := fun i hi => by
        rw [hG2]; simp only
        rw [if_pos ⟨by omega, by omega⟩, show st.next + i - st.next = i by omega]
      have g2 : ∀ q, ¬ (st.next ≤ q ∧ q < st.next + k) → G2.loc q = G.loc q := fun q hq => by rw [hG2]; simp only; rw [if_neg hq]
      have g3 : ∀ q, (st.next ≤ q ∧ q < st.next + k) ∨ ¬ (st.next ≤ q ∧ q < st.next + k) := fun q => by omega
      have gK : G2.K = G'.K := by rw [hG2]
      have hne : ∀ q L0, G.loc q = some L0 → q < st.next := fun q L0 hq => (hr.obj q L0 hq).1
      have hext : Ext G w G2 w' := ⟨fun q L0 hq => by rw [g2 q (by have := hne q L0 hq; omega)]; exact hq, fun b o hk => by rw [gK]; exact ok.ext.K b o hk, ok.ext.cell⟩
      refine ⟨G2, [], ?_, rfl, ?_⟩
      · exact {
          ext := hext
          rel := {
            obj := fun q L hq => by
              rcases g3 q with hqn | hqn
              · obtain ⟨i, rfl⟩ : ∃ i, q = st.next + i := ⟨q - st.next, by omega⟩
                have hi : i < k := by omega
                rw [g1 i hi] at hq
                obtain ⟨e, cs, cs', full, fz, a1, a2, a3, a4⟩ := ho i hi
                obtain ⟨b1, b2, b3, b4⟩ := ok.rel.obj _ L hq
                refine ⟨by simp only [pushL, hk]; omega, b2, by rw [hG2]; rw [ok.base] at b3; exact b3, ?_⟩
                rw [pushL_new a2]
                rw [show (CR.ret v1, st1, (none : Option AV)).2.1.heap (l i) = .mem e cs full fz from a1] at b4
                obtain ⟨c, fr, o1, o2, o3, o4, o5, o6, o7, o8, o9⟩ := b4
                refine ⟨c, fr, o1, o2, by rw [← a3]; exact o3, fun hf => by rw [← a3]; exact o4 hf, fun j hj => ?_, o6, o7, by rw [← a3]; exact o8, fun o ho hk => o9 o ho (by rw [← gK]; exact hk)⟩
                have hj' : j < cs.length := by rw [a3]; exact hj
                obtain ⟨x, k1, k2⟩ := o5 j hj'
                exact ⟨x, k1, (a4 j hj').vr g1 gK k2⟩
              · rw [g2 q hqn] at hq
                obtain ⟨a1, a2, a3, a4⟩ := hr.obj q L hq
                refine ⟨by simp only [pushL]; omega, Nat.lt_of_lt_of_le a2 ok.size, by rw [hG2]; exact a3, ?_⟩
                rw [pushL_old a1]
                refine a4.keep hext (ok.frame _ a2 (hnt _)) fun o hk => ?_
                rcases ok.newK _ _ (by rw [← gK]; exact hk) with h1 | h1 | h1
                · exact h1
                · omega
                · exact absurd h1 (hnt _)
            sep := fun l1 l2 L1 L2 h1 h2 a1 a2 hb => by
              rcases g3 l1 with c1 | c1 <;> rcases g3 l2 with c2 | c2
              · obtain ⟨i, rfl⟩ : ∃ i, l1 = st.next + i := ⟨l1 - st.next, by omega⟩
                obtain ⟨j, rfl⟩ : ∃ j, l2 = st.next + j := ⟨l2 - st.next, by omega⟩
                have hi : i < k := by omega
                have hj : j < k := by omega
                rw [g1 i hi] at h1
                rw [g1 j hj] at h2
                obtain ⟨_, _, _, _, _, o1, _⟩ := ho i hi
                obtain ⟨_, _, _, _, _, o2, _⟩ := ho j hj
                have := ok.rel.sep _ _ L1 L2 h1 h2 (by show alive (st1.heap (l i)); rw [o1]; trivial) (by show alive (st1.heap (l j)); rw [o2]; trivial) hb
                rw [hinj i j hi hj this]
              · obtain ⟨i, rfl⟩ : ∃ i, l1 = st.next + i := ⟨l1 - st.next, by omega⟩
                rw [g1 i (by omega)] at h1
                rw [g2 l2 c2] at h2
                have := (hr.obj l2 L2 h2).2.1
                have := hnew _ _ h1
                omega
              · obtain ⟨i, rfl⟩ : ∃ i, l2 = st.next + i := ⟨l2 - st.next, by omega⟩
                rw [g1 i (by omega)] at h2
                rw [g2 l1 c1] at h1
                have := (hr.obj l1 L1 h1).2.1
                have := hnew _ _ h2
                omega
              · rw [g2 l1 c1] at h1
                rw [g2 l2 c2] at h2
                rw [pushL_old (hr.obj l1 L1 h1).1] at a1
                rw [pushL_old (hr.obj l2 L2 h2).1] at a2
                exact hr.sep l1 l2 L1 L2 h1 h2 a1 a2 hb
            kold := fun b o hk => ok.rel.kold b o (by rw [← gK]; exact hk)
            glob := fun g cs hg => (hr.glob g cs hg).ext hext
            low := by rw [hG2]; exact Nat.le_trans hr.low ok.size }
          base := by rw [hG2]
          next := by simp [pushL]
          size := ok.size
          keep := fun q hq _ => pushL_old hq
          frame := fun b hb _ => ok.frame b hb (hnt b)
          newloc := fun q L0 h1 h2 => by
            rcases g3 q with hqn | hqn
            · obtain ⟨i, rfl⟩ : ∃ i, q = st.next + i := ⟨q - st.next, by omega⟩
              rw [g1 i (by omega)] at h2
              exact ⟨by omega, .inl (hnew _ _ h2)⟩
            · rw [g2 q hqn, h1] at h2; cases h2
          newK := fun b o hk => (ok.newK b o (by rw [← gK]; exact hk)).imp id (·.imp id fun h => absurd h (hnt b))
          tape := ok.tape
          os := ok.os
          output := ok.output }
      · exact hv1.vr g1 gK hvr
  rcases h ⟨fun _ => none, G.K, G.base⟩ w vals (rel_nothing hg0 hr) (vrs_clean (G := G) (G' := ⟨fun _ => none, G.K, G.base⟩) (fun _ _ h => h) hargs hv) with ⟨fn, q1, q2, q3, q4⟩ | ⟨v, w', q1, q2⟩
  · exact .inl ⟨fn, q1, q2, q3, q4.mono fun e' w' hh => conv e' w' hh⟩
  · exact .inr ⟨v, w', q1, conv _ _ q2⟩
end
end Go.AE

namespace Go.AE
open Go
inductive TV where
  | flat (x : AV)
  | ref (i o n : Nat) (lim : Option Nat)
structure TO where
  e : TypeId
  cs : List TV
  full : Bool
  fz : Nat
def TV.av (b : Nat) : TV → AV
  | .flat x => x
  | .ref i o n lim => .row (b + i) o n lim
def TO.ao (b : Nat) (t : TO) : AO := .mem t.e (t.cs.map (TV.av b)) t.full t.fz
def eqF : AV → AV → Bool
  | .bool a, .bool b => a == b
  | .int k n, .int k' n' => decide (k = k') && decide (n = n')
  | .str a, .str b => a == b
  | .slice .nil [], .slice .nil [] => true
  | _, _ => false
theorem eqF_spec {x y : AV} (h : eqF x y = true) : CleanV x ∧ x = y := by
  unfold eqF at h
  split at h
  · exact ⟨rfl, by rw [beq_iff_eq.1 h]⟩
  · rw [Bool.and_eq_true] at h
    exact ⟨rfl, by rw [of_decide_eq_true h.1, of_decide_eq_true h.2]⟩
  · exact ⟨rfl, by rw [beq_iff_eq.1 h]⟩
  · exact ⟨rfl, rfl⟩
  · cases h
def limEq : Option Nat → Option Nat → Bool
  | none, none => true
  | some a, some b => Nat.beq a b
  | _, _ => false
theorem limEq_spec {a b : Option Nat} (h : limEq a b = true) : a = b := by
  cases a <;> cases b <;> simp_all [limEq]
def chkV (ls : List Nat) : AV → TV → Bool
  | .row q o n lim, .ref i o' n' lim' => (match ls[i]? with | some q' => Nat.beq q q' | none => false) && (Nat.beq o o' && (Nat.beq n n' && limEq lim lim'))
  | x, .flat y => eqF x y
  | _, _ => false
def chkVs (ls : List Nat) : List AV → List TV → Bool
  | [], [] => true
  | x :: xs, t :: ts => chkV ls x t && chkVs ls xs ts
  | _, _ => false
def chkO (ls : List Nat) : AO → TO → Bool
  | .mem e cs full fz, t => (Nat.beq e t.e && (full == t.full && Nat.beq fz t.fz)) && chkVs ls cs t.cs
  | _, _ => false
def chkOs (st : St) (all : List Nat) : List Nat → List TO → Bool
  | [], [] => true
  | q :: qs, t :: ts => chkO all (st.heap q) t && chkOs st all qs ts
  | _, _ => false
def freshB (q : Nat) : List Nat → Bool
  | [] => true
  | x :: xs => (if Nat.beq q x then false else true) && freshB q xs
def nodupB : List Nat → Bool
  | [] => true
  | x :: xs => freshB x xs && nodupB xs
def rowLoc : AV → Nat
  | .row q _ _ _ => q
  | _ => 0
def locsOf (st : St) : AV → List Nat
  | .row p _ _ _ => (match st.heap p with
    | .mem _ cs _ _ => cs.map rowLoc ++ [p]
    | _ => [])
  | _ => []
def chkAll (v : TV) (os : List TO) (v1 : AV) (st1 : St) (ls : List Nat) : Bool := nodupB ls && (chkV ls v1 v && chkOs st1 ls ls os)
def chk (v : TV) (os : List TO) : CR × St × Option AV → Bool
  | (.ret v1, st1, none) => chkAll v os v1 st1 (locsOf st1 v1)
  | _ => false
theorem chkV_spec {ls : List Nat} {x : AV} {t : TV} {b k : Nat} (hk : ls.length = k) (h : chkV ls x t = true) : RenC (fun i => ls.getD i 0) b k x (t.av b) := by
  unfold chkV at h
  split at h
  · rename_i q o n lim i o' n' lim'
    simp only [Bool.and_eq_true, Nat.beq_eq] at h
    obtain ⟨h1, h2, h3, h4⟩ := h
    split at h1
    · rename_i q' hq
      have hi : i < ls.length := by
        rw [List.getElem?_eq_some_iff] at hq; exact hq.1
      rw [Nat.beq_eq] at h1
      subst h1
      refine .inr ⟨i, o, n, lim, by omega, ?_, ?_⟩
      · simp only [List.getD_eq_getElem?_getD, hq, Option.getD_some]
      · rw [h2, h3, limEq_spec h4]; rfl
    · cases h1
  · exact .inl (eqF_spec h)
  · cases h
theorem chkVs_spec {ls : List Nat} {b k : Nat} (hk : ls.length = k) : ∀ {xs : List AV} {ts : List TV}, chkVs ls xs ts = true → RenCs (fun i => ls.getD i 0) b k xs (ts.map (TV.av b))
  | [], [], _ => ⟨rfl, fun i hi => absurd hi (Nat.not_lt_zero _)⟩
  | [], t :: ts, h => by cases h
  | x :: xs, [], h => by cases h
  | x :: xs, t :: ts, h => by
    rw [chkVs, Bool.and_eq_true] at h
    have ih := chkVs_spec (b := b) hk h.2
    refine ⟨by simp [ih.1], fun i hi => ?_⟩
    cases i with
    | zero => exact chkV_spec hk h.1
    | succ i => simpa using ih.2 i (by simpa using hi)
theorem chkOs_spec {st : St} {all : List Nat} {b k : Nat} (hk : all.length = k) : ∀ {qs : List Nat} {ts : List TO}, chkOs st all qs ts = true → qs.length = ts.length ∧ ∀ i, i < qs.length →
    ∃ e cs cs' full fz, st.heap (qs.getD i 0) = .mem e cs full fz ∧ (ts.map (TO.ao b))[i]? = some (.mem e cs' full fz) ∧ RenCs (fun i => all.getD i 0) b k cs cs'
  | [], [], _ => ⟨rfl, fun i hi => absurd hi (Nat.not_lt_zero _)⟩
  | [], t :: ts, h => by cases h
  | q :: qs, [], h => by cases h
  | q :: qs, t :: ts, h => by
    rw [chkOs, Bool.and_eq_true] at h
    have ih := chkOs_spec (b := b) hk h.2
    refine ⟨by simp [ih.1], fun i hi => ?_⟩
    cases i with
    | zero =>
      have h1 := h.1
      unfold chkO at h1
      split at h1
      · rename_i e cs full fz heq
        simp only [Bool.and_eq_true, Nat.beq_eq, beq_iff_eq] at h1
        obtain ⟨⟨a1, a2, a3⟩, a4⟩ := h1
        refine ⟨e, cs, _, full, fz, heq, ?_, chkVs_spec hk a4⟩; simp only [List.map_cons, List.getElem?_cons_zero, TO.ao, a1, a2, a3]
      · cases h1
    | succ i => simpa using ih.2 i (by simpa using hi)
theorem freshB_spec {q : Nat} : ∀ {l : List Nat}, freshB q l = true → ∀ i, i < l.length → l.getD i 0 ≠ q
  | [], _, i, hi => absurd hi (Nat.not_lt_zero _)
  | x :: xs, h, i, hi => by
    rw [freshB, Bool.and_eq_true] at h
    cases i with
    | zero =>
      intro e
      have h1 := h.1
      simp only [List.getD_cons_zero] at e
      rw [e] at h1
      simp at h1
    | succ i => simpa using freshB_spec h.2 i (by simpa using hi)
theorem nodupB_spec : ∀ {l : List Nat}, nodupB l = true → ∀ i j, i < l.length → j < l.length → l.getD i 0 = l.getD j 0 → i = j
  | [], _, i, _, hi, _, _ => absurd hi (Nat.not_lt_zero _)
  | x :: xs, h, i, j, hi, hj, e => by
    rw [nodupB, Bool.and_eq_true] at h
    cases i with
    | zero => cases j with
      | zero => rfl
      | succ j => exact absurd (by simpa using e.symm) (freshB_spec h.1 j (by simpa using hj))
    | succ i => cases j with
      | zero => exact absurd (by simpa using e) (freshB_spec h.1 i (by simpa using hi))
      | succ j => rw [nodupB_spec h.2 i j (by simpa using hi) (by simpa using hj) (by simpa using e)]
theorem chk_spec {v : TV} {os : List TO} {r : CR × St × Option AV} (h : chk v os r = true) (b : Nat) : ∃ (l : Nat → Nat) (v1 : AV) (st1 : St), r = (.ret v1, st1, none) ∧ (∀ i j, i < os.length → j < os.length → l i = l j → i = j) ∧ RenC l b os.length v1 (v.av b) ∧
      ∀ i, i < os.length → ∃ e cs cs' full fz, st1.heap (l i) = .mem e cs full fz ∧ (os.map (TO.ao b))[i]? = some (.mem e cs' full fz) ∧ RenCs l b os.length cs cs' := by
  unfold chk at h
  split at h
  · rename_i v1 st1
    generalize locsOf st1 v1 = ls at h
    unfold chkAll at h
    simp only [Bool.and_eq_true] at h
    obtain ⟨h1, h2, h3⟩ := h
    have hlen : ls.length = os.length := by
      have h4 := chkOs_spec (b := 0) (rfl : ls.length = ls.length) h3
      exact h4.1
    have h4 := chkOs_spec (b := b) hlen h3
    refine ⟨fun i => ls.getD i 0, v1, st1, rfl, fun i j hi hj e => nodupB_spec h1 i j (by omega) (by omega) e, chkV_spec hlen h2, fun i hi => ?_⟩
    exact h4.2 i (by omega)
  · cases h
noncomputable def outsChk (call : CallF) (C : Ctx) (mu : Bool) (m : Nat) (f : FuncId) (fi : FI) (x : XC) (args : List AV) (N : Nat) (v : TV) (os : List TO) : Bool :=
  match outsX call C mu m f none x ⟨argTmps args, N, [], none⟩ ⟨st00.heap, st00.next, []⟩ with
  | some l => l.all fun o => (match finishFn call C f fi .normal st00 o.1 o.2.1 o.2.2 with | some r => chk v os r | none => false)
  | none => false
theorem callOk_outs {C : Ctx} (hC : CtxOk C) (hX : XOk C) (hg : ∀ g, C.glob g = none) {f : FuncId} {fi : FI} {x : XC} {args : List AV} {mu : Bool} {N m n : Nat} {lp : Nat → Option Nat} {v : TV} {os : List TO} (hf : C.fn f = some fi) (hx : codeOf C f fi = x) (hmu : C.mu f = mu)
    (hN : max fi.ntmps args.length = N) (hargs : ∀ a ∈ args, CleanV a) (h : outsChk (callN C lp n) C mu m f fi x args N v os = true) (st : St) :
    CallOk C (.fn f) args .normal st (.ret (v.av st.next), pushL st (os.map (TO.ao st.next)), none) := by
  subst hmu hN
  unfold outsChk at h
  split at h
  · rename_i l hl
    have hcall := callN_ok hC hX lp n
    have hT := outsX_sound hC hcall x hl fi.body hx
    have hN : CallN C f args st00 (fun r => chk v os r = true) := callN_enter hC hcall hf hT fun e fr st1 ho => by
      have h1 := List.all_eq_true.1 h (e, fr, st1) ho
      simp only at h1
      split at h1
      · rename_i r hr; exact ⟨r, hr, h1⟩
      · cases h1
    exact callOk_tree0 hg hN (v := fun b => v.av b) (os := fun b => os.map (TO.ao b)) (k := os.length) (fun b => by simp) (fun r hr b => chk_spec hr b) hargs st
  · cases h
end Go.AE

namespace Go.AE
open Go
theorem compC_withX {C : Ctx} {X : FuncId → List AV → St → Option (AV × St)} {mu : Bool} (c : RC) : compC (C.withX X) mu c = compC C mu c := by
  induction c with
  | ops l => rfl
  | draw ops => rfl
  | seq a b iha ihb => simp only [compC, iha, ihb]
  | cond c a b iha ihb => simp only [compC, iha, ihb]; rfl
  | block id b ih => simp only [compC, ih]
  | loop b ih => simp only [compC, ih]
  | rangeFunc f p a b n m => rfl
  | _ => rfl
theorem codeW {C : Ctx} {X : FuncId → List AV → St → Option (AV × St)} {f : FuncId} {F : FI} : codeOf (C.withX X) f F = codeOf C f F := compC_withX _
mutual
def eqA : AV → AV → Bool
  | .bool a, .bool b => a == b
  | .int k n, .int k' n' => decide (k = k') && decide (n = n')
  | .str a, .str b => a == b
  | .slice .nil xs, .slice .nil ys => eqAs xs ys
  | .slice .exact xs, .slice .exact ys => eqAs xs ys
  | .agg xs, .agg ys => eqAs xs ys
  | _, _ => false
def eqAs : List AV → List AV → Bool
  | [], [] => true
  | x :: xs, y :: ys => eqA x y && eqAs xs ys
  | _, _ => false
end
mutual
theorem eqA_spec : ∀ (x y : AV), eqA x y = true → x = y := fun x y h => by
  cases x with
  | slice k xs =>
    cases y with
    | slice k' ys => cases k <;> cases k' <;> first | (simp only [eqA] at h; rw [eqAs_spec xs ys h]) | simp [eqA] at h
    | _ => cases k <;> simp [eqA] at h
  | agg xs =>
    cases y with
    | agg ys => simp only [eqA] at h; rw [eqAs_spec xs ys h]
    | _ => simp [eqA] at h
  | _ => cases y <;> simp_all [eqA]
theorem eqAs_spec : ∀ (xs ys : List AV), eqAs xs ys = true → xs = ys
  | [], [], _ => rfl
  | x :: xs, [], h => by simp [eqAs] at h
  | [], y :: ys, h => by simp [eqAs] at h
  | x :: xs, y :: ys, h => by
    rw [eqAs, Bool.and_eq_true] at h
    rw [eqA_spec x y h.1, eqAs_spec xs ys h.2]
end
end Go.AE

namespace Go.AE
open Go
theorem mayMeet_low {n0 b l : Nat} (h : l < n0) : ∀ {info : List Info} {k : Nat}, mayMeet n0 b l k info = true
  | [], k => decide_eq_true h
  | x :: r, k => by rw [mayMeet, mayMeet_low h, Bool.or_true]
end Go.AE

namespace Go.AE
open Go
section
variable {call : CallF} {C : Ctx} {mu ro : Bool}
theorem runX_single {o : XR} {fr : Fr} {st : St} : runX call C mu ro [o] fr st = (guardA fr o.g).bind fun b => if b then runOpX call C mu ro o.d o.o fr st else some (.norm, fr.put o.d undefA, st) := by
  simp only [runX]
  cases guardA fr o.g with
  | none => rfl
  | some b =>
    simp only [Option.bind_some]
    cases b with
    | false => rfl
    | true =>
      simp only [if_true]
      split
      · rename_i h; exact h.symm
      · rfl
def drawOps (C : Ctx) (mu : Bool) (ops : Array Oper) : List XR := (ops.toList.map (resolve ops)).map (compR C mu)
end
end Go.AE
