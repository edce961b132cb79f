/- An abstract interpreter over a loaded program and its soundness against the model, part 7: for every context that fits the program. -/
import Derived.Test.YtmdakabianfbkaaGreatE6
set_option linter.unusedVariables false
set_option linter.unusedSimpArgs false
/- Steps of the operations that are not compiled further. -/
namespace Go.AE
open Go

def genK (k : Fr → St → Option Out) (d : Option Tmp) (fr : Fr) : Option OPR → Option Out
  | some (.val v st) => k (fr.put d v) st
  | some (.pan v st) => some (.pan v, fr, st)
  | some (.dfr x st) => k (Fr.put { fr with defs := x :: fr.defs } d undefA) st
  | some .rcv => (match fr.pv with | some v => k (Fr.put { fr with pv := none } d v) st0 | none => none)
  | none => none
where st0 : St := ⟨fun _ => .dead, 0, []⟩
def genKs (k : Fr → St → Option Out) (d : Option Tmp) (fr : Fr) (st0 : St) : Option OPR → Option Out
  | some (.val v st) => k (fr.put d v) st
  | some (.pan v st) => some (.pan v, fr, st)
  | some (.dfr x st) => k (Fr.put { fr with defs := x :: fr.defs } d undefA) st
  | some .rcv => (match fr.pv with | some v => k (Fr.put { fr with pv := none } d v) st0 | none => none)
  | none => none
def noCall : Op → Bool
  | .call { callee := .value _, .. } => false
  | _ => true
section
variable {call : CallF} {C : Ctx} {mu ro : Bool} {fr : Fr} {st : St} {d : Option Tmp} {l : List XR}
theorem runX_gen {o : Oper} (hn : noCall o.op = true) : runX call C mu ro (⟨d, .gen o, none⟩ :: l) fr st = genKs (runX call C mu ro l) d fr st (opA C mu ro fr st o) := by
  have hc : callX call C d fr st (.gen o) = none := by
    simp only [callX, callA]
    cases ho : o.op with
    | call c =>
      obtain ⟨callee, args, ts⟩ := c
      rw [ho] at hn
      cases callee with
      | value f => cases hn
      | _ => rfl
    | _ => rfl
  simp only [runX, guardA, Option.bind_some, if_true, runOpX, opX, hc]
  cases h : opA C mu ro fr st o with
  | none => rfl
  | some r =>
    cases r with
    | rcv => simp only [genKs]; cases fr.pv <;> rfl
    | _ => rfl
theorem genKs_val {k : Fr → St → Option Out} {v : AV} {st0 : St} : genKs k d fr st0 (some (.val v st)) = k (fr.put d v) st := (rfl)
theorem genKs_pan {k : Fr → St → Option Out} {v : AV} {st0 : St} : genKs k d fr st0 (some (.pan v st)) = some (.pan v, fr, st) := (rfl)
theorem genKs_dfr {k : Fr → St → Option Out} {x : ADef} {st0 : St} {t : Nat → AV} {m : Nat} {ds : List ADef} {pv : Option AV} : genKs k d ⟨t, m, ds, pv⟩ st0 (some (.dfr x st)) = k (Fr.put ⟨t, m, x :: ds, pv⟩ d undefA) st := (rfl)
theorem genKs_rcv {k : Fr → St → Option Out} {st0 : St} {t : Nat → AV} {m : Nat} {ds : List ADef} {v : AV} : genKs k d ⟨t, m, ds, some v⟩ st0 (some .rcv) = k (Fr.put ⟨t, m, ds, none⟩ d v) st0 := (rfl)
theorem ov_some {v : AV} : ov st (some v) = some (.val v st) := (rfl)
theorem ovs_some {v : AV} {st' : St} : ovs (some (v, st')) = some (.val v st') := (rfl)
theorem oval_t {t : Nat → AV} {m : Nat} {ds : List ADef} {pv : Option AV} {k : Nat} : oval C ⟨t, m, ds, pv⟩ (.tmp k) = t k := (rfl)
theorem oval_c {v : Value} : oval C fr (.const v) = ofV v := (rfl)
theorem oval_f {f : FuncId} : oval C fr (.func f) = .func (.func f) [] [] := (rfl)
variable {ds : Option Tmp} {ty : TypeId} {pos : String} {af : Array Edge} {g : Option (Nat × Bool)}
theorem gA_bin {op : BinOp} {t yt : TypeId} {x y : Operand} : opA C mu ro fr st ⟨ds, .binOp op t x y yt, ty, pos, af, g⟩ = ov st (binA C op t x y (oval C fr x) (oval C fr y)) := (rfl)
theorem gA_conv {s t : TypeId} {x : Operand} : opA C mu ro fr st ⟨ds, .convert s t x, ty, pos, af, g⟩ = ov st (convA C st s t (oval C fr x)) := (rfl)
theorem gA_lookup {t : TypeId} {x i : Operand} {ok : Bool} : opA C mu ro fr st ⟨ds, .lookup t x i ok, ty, pos, af, g⟩ = ov st (lookupA C st t (oval C fr x) (oval C fr i) ok) := (rfl)
theorem gA_assert {a t : TypeId} {x : Operand} {ok : Bool} : opA C mu ro fr st ⟨ds, .typeAssert x a t ok, ty, pos, af, g⟩ = ov st (assertA C (oval C fr x) t ok) := (rfl)
theorem gA_nilCheck {x : Operand} : opA C mu ro fr st ⟨ds, .nilCheck x, ty, pos, af, g⟩ = (match oval C fr x with
    | .ptr l a => some (.val (.ptr l a) st)
    | .cptr cs => some (.val (.cptr cs) st)
    | .func (.func f) a b => some (.val (.func (.func f) a b) st)
    | _ => none) := (rfl)
def sliceK3 (C : Ctx) (st : St) (t : TypeId) (x : AV) (lo hi mx : Option (Option Nat)) : Option OPR :=
  match lo, hi, mx with
  | some lo, some hi, some mx => ov st (sliceA C st t x lo hi mx)
  | _, _, _ => none
theorem gA_slice {t : TypeId} {x : Operand} {lo hi mx : Option Operand} : opA C mu ro fr st ⟨ds, .slice t x lo hi mx, ty, pos, af, g⟩ = sliceK3 C st t (oval C fr x) (boundA C fr lo) (boundA C fr hi) (boundA C fr mx) := by
  simp only [opA, sliceK3]
  cases boundA C fr lo <;> cases boundA C fr hi <;> cases boundA C fr mx <;> rfl
theorem sliceK3_some {t : TypeId} {x : AV} {lo hi mx : Option Nat} : sliceK3 C st t x (some lo) (some hi) (some mx) = ov st (sliceA C st t x lo hi mx) := (rfl)
theorem boundA_none : boundA C fr none = some none := (rfl)
theorem boundA_some {x : Operand} : boundA C fr (some x) = (natOf (oval C fr x)).map some := (rfl)
theorem gA_panic {x : Operand} : opA C mu ro fr st ⟨ds, .panic x, ty, pos, af, g⟩ = (match oval C fr x with | .iface t v => some (.pan (.iface t v) st) | _ => none) := (rfl)
def panK (st : St) : AV → Option OPR | .iface t v => some (.pan (.iface t v) st) | _ => none
theorem gA_panK {x : Operand} : opA C mu ro fr st ⟨ds, .panic x, ty, pos, af, g⟩ = panK st (oval C fr x) := by
  simp only [opA, panK]
  cases oval C fr x <;> rfl
theorem panK_iface {t : TypeId} {v : AV} : panK st (.iface t v) = some (.pan (.iface t v) st) := (rfl)
def ifaceK (st : St) (v : AV) (t : TypeId) : Option TI → Option OPR
  | some ⟨.interface _, _, _, _, _, _⟩ => none
  | some _ => some (.val (.iface t v) st)
  | none => none
theorem gA_iface {t : TypeId} {x : Operand} : opA C mu ro fr st ⟨ds, .makeInterface t x, ty, pos, af, g⟩ = ifaceK st (oval C fr x) t (C.ty t) := by
  simp only [opA]
  cases C.ty t with
  | none => rfl
  | some ti => obtain ⟨u, a, b, c, d, e⟩ := ti; cases u <;> rfl
def noIface : TypeDesc → Bool | .interface _ => false | _ => true
theorem ifaceK_some {v : AV} {t : TypeId} {ti : TI} (h : noIface ti.und = true) : ifaceK st v t (some ti) = some (.val (.iface t v) st) := by
  obtain ⟨u, a, b, c, d, e⟩ := ti
  cases u <;> first | rfl | cases h
def assertC (v : AV) (t u : TypeId) (ok : Bool) (ti : TI) : Option AV :=
  if u = t then some (if ok then .tuple [v, .bool true] else v) else if ok then some (.tuple [ti.zeroV, .bool false]) else none
theorem assertA_nil {t : TypeId} {ti : TI} (h : C.ty t = some ti) (hn : noIface ti.und = true) : assertA C .nilif t true = some (.tuple [ti.zeroV, .bool false]) := by
  simp only [assertA, h]
  obtain ⟨u, a, b, c, d, e⟩ := ti
  cases u <;> first | rfl | cases hn
theorem assertA_hit {t : TypeId} {ti : TI} {v : AV} (h : C.ty t = some ti) (hn : noIface ti.und = true) : assertA C (.iface t v) t true = some (.tuple [v, .bool true]) := by
  simp only [assertA, h]
  obtain ⟨u, a, b, c, d, e⟩ := ti
  cases u <;> first | (simp only [if_true]; done) | cases hn
theorem assertA_miss {t u : TypeId} {ti : TI} {v : AV} (h : C.ty t = some ti) (hn : noIface ti.und = true) (hu : (u = t) = False) : assertA C (.iface u v) t true = some (.tuple [ti.zeroV, .bool false]) := by
  simp only [assertA, h]
  obtain ⟨u', a, b, c, d, e⟩ := ti
  cases u' <;> first | (simp only [if_neg (fun e => (hu ▸ e : False)), if_true]; done) | cases hn
def deferK (args : List AV) (st : St) : AV → Option OPR
  | .func (.func g) first captured => some (.dfr ⟨some g, 0, first ++ args ++ captured⟩ st)
  | _ => none
theorem gA_defer {f : Operand} {args : Array Operand} {ts : Array TypeId} : opA C mu false fr st ⟨ds, .defer ⟨.value f, args, ts⟩, ty, pos, af, g⟩ = deferK (args.toList.map (oval C fr)) st (oval C fr f) := by
  simp only [opA, deferK, Bool.false_eq_true, if_false]
  cases oval C fr f with
  | func g a b => cases g <;> rfl
  | _ => rfl
theorem deferK_fn {args a b : List AV} {f : FuncId} : deferK args st (.func (.func f) a b) = some (.dfr ⟨some f, 0, a ++ args ++ b⟩ st) := (rfl)
def rcvK (st : St) : Option AV → Option OPR | some _ => some .rcv | none => some (.val .nilif st)
theorem gA_recover {ts : Array TypeId} : opA C mu false fr st ⟨ds, .call ⟨.builtin .recover, #[], ts⟩, ty, pos, af, g⟩ = rcvK st fr.pv := by
  simp only [opA, builtinA, List.map_nil, Bool.false_eq_true, if_false]
  unfold rcvK
  cases fr.pv <;> rfl
theorem rcvK_some {v : AV} : rcvK st (some v) = some .rcv := (rfl)
theorem rcvK_none : rcvK st none = some (.val .nilif st) := (rfl)
theorem gA_max {x y : Operand} {ts : Array TypeId} : opA C mu ro fr st ⟨ds, .call ⟨.builtin .max, #[x, y], ts⟩, ty, pos, af, g⟩ = ov st (maxA true (oval C fr x) [oval C fr y]) := (rfl)
theorem gA_min {x y : Operand} {ts : Array TypeId} : opA C mu ro fr st ⟨ds, .call ⟨.builtin .min, #[x, y], ts⟩, ty, pos, af, g⟩ = ov st (maxA false (oval C fr x) [oval C fr y]) := (rfl)
theorem maxA_int {b : Bool} {k j : IntKind} {x y : Int} : maxA b (.int k x) [.int j y] = some (.int k (if b then (if y > x then y else x) else (if y < x then y else x))) := (rfl)
theorem gA_makeMap {t : TypeId} : opA C mu ro fr st ⟨ds, .makeMap t none, ty, pos, af, g⟩ = some (.val (.map st.next) (st.push (.amap [] 0))) := (rfl)
def stOv : Option St → Option OPR | some st => some (.val undefA st) | none => none
theorem gA_insert {t : TypeId} {m k x : Operand} : opA C mu ro fr st ⟨ds, .insert t m k x, ty, pos, af, g⟩ = stOv (mapUpd C st t (oval C fr m) (oval C fr k) (oval C fr x) true) := by
  simp only [opA]; cases mapUpd C st t (oval C fr m) (oval C fr k) (oval C fr x) true <;> rfl
theorem gA_mapUpdate {t : TypeId} {m k x : Operand} : opA C mu ro fr st ⟨ds, .mapUpdate t m k x, ty, pos, af, g⟩ = stOv (mapUpd C st t (oval C fr m) (oval C fr k) (oval C fr x) false) := by
  simp only [opA]; cases mapUpd C st t (oval C fr m) (oval C fr k) (oval C fr x) false <;> rfl
theorem stOv_some : stOv (some st) = some (.val undefA st) := (rfl)
theorem nc_bin {a1 : BinOp} {a2 a5 : TypeId} {a3 a4 : Operand} : noCall (.binOp a1 a2 a3 a4 a5) = true := (rfl)
theorem nc_conv {a1 a2 : TypeId} {a3 : Operand} : noCall (.convert a1 a2 a3) = true := (rfl)
theorem nc_lookup {a1 : TypeId} {a2 a3 : Operand} {a4 : Bool} : noCall (.lookup a1 a2 a3 a4) = true := (rfl)
theorem nc_assert {a1 : Operand} {a2 a3 : TypeId} {a4 : Bool} : noCall (.typeAssert a1 a2 a3 a4) = true := (rfl)
theorem nc_slice {a1 : TypeId} {a2 : Operand} {a3 a4 a5 : Option Operand} : noCall (.slice a1 a2 a3 a4 a5) = true := (rfl)
theorem nc_panic {a1 : Operand} : noCall (.panic a1) = true := (rfl)
theorem nc_iface {a1 : TypeId} {a2 : Operand} : noCall (.makeInterface a1 a2) = true := (rfl)
theorem nc_defer {a1 : Call} : noCall (.defer a1) = true := (rfl)
theorem nc_makeMap {a1 : TypeId} {a2 : Option Operand} : noCall (.makeMap a1 a2) = true := (rfl)
theorem nc_insert {a1 : TypeId} {a2 a3 a4 : Operand} : noCall (.insert a1 a2 a3 a4) = true := (rfl)
theorem nc_mapUpdate {a1 : TypeId} {a2 a3 a4 : Operand} : noCall (.mapUpdate a1 a2 a3 a4) = true := (rfl)
theorem nc_nil {a1 : Operand} : noCall (.nilCheck a1) = true := (rfl)
theorem nc_ia {a1 : TypeId} {a2 a3 : Operand} : noCall (.indexAddr a1 a2 a3) = true := (rfl)
theorem nc_ix {a1 : TypeId} {a2 a3 : Operand} : noCall (.index a1 a2 a3) = true := (rfl)
theorem nc_ms {a1 : TypeId} {a2 a3 : Operand} : noCall (.makeSlice a1 a2 a3) = true := (rfl)
theorem nc_range {a1 : TypeId} {a2 : Operand} : noCall (.range a1 a2) = true := (rfl)
theorem nc_next {a1 : Operand} {a2 : Bool} : noCall (.next a1 a2) = true := (rfl)
theorem nc_entry {a1 : Operand} : noCall (.entry a1) = true := (rfl)
theorem nc_build {a1 : TypeId} {a2 : Array (Nat × Operand)} : noCall (.build a1 a2) = true := (rfl)
theorem noCall_b {b : Builtin} {xs : Array Operand} {ts : Array TypeId} : noCall (.call ⟨.builtin b, xs, ts⟩) = true := (rfl)
theorem elemsOf_slice {ei : TI} {k : SK} {es : List AV} : elemsOf st ei (.slice k es) = some es := (rfl)
theorem elemsOf_str {ei : TI} {s : List Nat} : elemsOf st ei (.str s) = some (s.map fun b => .int .u8 (.ofNat b)) := (rfl)

/-! ### equality -/
def eqT (C : Ctx) (x y : AV) : Option TI → Option Bool
  | none => none
  | some ti => (match ti.und, x, y with
    | .bool, .bool a, .bool b => some (a == b)
    | .slice _, .slice .nil _, .slice k _ => some (match k with | .nil => true | _ => false)
    | .slice _, .slice k _, .slice .nil _ => some (match k with | .nil => true | _ => false)
    | .func _ _ _, .nilfn, .nilfn => some true
    | .func _ _ _, .nilfn, .func _ _ _ => some false
    | .func _ _ _, .func _ _ _, .nilfn => some false
    | .interface _, .nilif, .iface _ _ => some false
    | .interface _, .iface _ _, .nilif => some false
    | _, _, _ => none)
theorem binA_bool {op : BinOp} {t : TypeId} {xo yo : Operand} {a b : Bool} {n m : Nat} {ag : Bool} {z : List AV} {pl : List (Nat × Nat)} (h : C.ty t = some ⟨.bool, n, m, ag, z, pl⟩) :
    binA C op t xo yo (.bool a) (.bool b) = (match op with | .eql => some (.bool (a == b)) | .neq => some (.bool (a != b)) | _ => none) := by
  cases op <;> simp only [binA, eqV, h, boolA]
  · cases (a == b) <;> rfl
  · simp only [bne]; cases (a == b) <;> rfl
theorem binA_beql {t : TypeId} {xo yo : Operand} {a b : Bool} {n m : Nat} {ag : Bool} {z : List AV} {pl : List (Nat × Nat)} (h : C.ty t = some ⟨.bool, n, m, ag, z, pl⟩) : binA C .eql t xo yo (.bool a) (.bool b) = some (.bool (a == b)) := binA_bool h
theorem binA_bneq {t : TypeId} {xo yo : Operand} {a b : Bool} {n m : Nat} {ag : Bool} {z : List AV} {pl : List (Nat × Nat)} (h : C.ty t = some ⟨.bool, n, m, ag, z, pl⟩) : binA C .neq t xo yo (.bool a) (.bool b) = some (.bool (a != b)) := binA_bool h
end
end Go.AE

/- The rules together. -/
namespace Go.AE
open Go
theorem one_ne0 : ((1 : Nat) = 0) = False := eq_false (by decide)
theorem RS0 : type_of% (And.intro (And.intro (And.intro (And.intro (And.intro (@execY_seq) (@execY_ops)) (And.intro (@execY_ret) (And.intro (@execY_skip) (@execY_exit)))) (And.intro (And.intro (@execY_block) (@execY_ct)) (And.intro (@execY_cf) (And.intro (@execY_draw) (@drawK_some))))) (And.intro (And.intro (And.intro (@execY_drawL) (@lastK_some)) (And.intro (@lastK2_some) (And.intro (@live_nil) (@live_cons)))) (And.intro (And.intro (@runXE_cons) (@nextE_norm)) (And.intro (@runXE_nil) (And.intro (@seqK_norm) (@seqK_ret)))))) (And.intro (And.intro (And.intro (And.intro (@seqK_exit) (@seqK_pan)) (And.intro (@blockK_norm) (And.intro (@blockK_ret) (@blockK_hit)))) (And.intro (And.intro (@blockK_miss) (@bind_assoc')) (And.intro (@post_some) (And.intro (@runX_mv) (@runX_box))))) (And.intro (And.intro (And.intro (@runX_fieldAddr) (@runX_load)) (And.intro (@runX_binI) (And.intro (@runX_binS) (@runX_un)))) (And.intro (And.intro (@runX_pt) (@runX_pf)) (And.intro (@runX_lenS) (And.intro (@runX_idxS) (@runX_extract))))))) := And.intro (And.intro (And.intro (And.intro (And.intro (@execY_seq) (@execY_ops)) (And.intro (@execY_ret) (And.intro (@execY_skip) (@execY_exit)))) (And.intro (And.intro (@execY_block) (@execY_ct)) (And.intro (@execY_cf) (And.intro (@execY_draw) (@drawK_some))))) (And.intro (And.intro (And.intro (@execY_drawL) (@lastK_some)) (And.intro (@lastK2_some) (And.intro (@live_nil) (@live_cons)))) (And.intro (And.intro (@runXE_cons) (@nextE_norm)) (And.intro (@runXE_nil) (And.intro (@seqK_norm) (@seqK_ret)))))) (And.intro (And.intro (And.intro (And.intro (@seqK_exit) (@seqK_pan)) (And.intro (@blockK_norm) (And.intro (@blockK_ret) (@blockK_hit)))) (And.intro (And.intro (@blockK_miss) (@bind_assoc')) (And.intro (@post_some) (And.intro (@runX_mv) (@runX_box))))) (And.intro (And.intro (And.intro (@runX_fieldAddr) (@runX_load)) (And.intro (@runX_binI) (And.intro (@runX_binS) (@runX_un)))) (And.intro (And.intro (@runX_pt) (@runX_pf)) (And.intro (@runX_lenS) (And.intro (@runX_idxS) (@runX_extract))))))
theorem RS1 : type_of% (And.intro (And.intro (And.intro (And.intro (And.intro (@runX_alloc) (@runX_store)) (And.intro (@runX_call) (And.intro (@runX_mkFunc) (@runX_build)))) (And.intro (And.intro (@runX_buildS) (@runX_app)) (And.intro (@elemsOf_slice) (And.intro (@runX_gen) (@noCall_b))))) (And.intro (And.intro (And.intro (@nc_bin) (@nc_conv)) (And.intro (@nc_lookup) (And.intro (@nc_assert) (@nc_slice)))) (And.intro (And.intro (@nc_panic) (@nc_iface)) (And.intro (@nc_defer) (And.intro (@nc_makeMap) (@nc_insert)))))) (And.intro (And.intro (And.intro (And.intro (@nc_mapUpdate) (@nc_nil)) (And.intro (@nc_ia) (And.intro (@nc_ix) (@nc_ms)))) (And.intro (And.intro (@nc_range) (@nc_next)) (And.intro (@nc_entry) (And.intro (@nc_build) (@genKs_val))))) (And.intro (And.intro (And.intro (@genKs_pan) (@genKs_dfr)) (And.intro (@genKs_rcv) (And.intro (@ov_some) (@ovs_some)))) (And.intro (And.intro (@oval_t) (@oval_c)) (And.intro (@oval_f) (And.intro (@gA_bin) (@gA_conv))))))) := And.intro (And.intro (And.intro (And.intro (And.intro (@runX_alloc) (@runX_store)) (And.intro (@runX_call) (And.intro (@runX_mkFunc) (@runX_build)))) (And.intro (And.intro (@runX_buildS) (@runX_app)) (And.intro (@elemsOf_slice) (And.intro (@runX_gen) (@noCall_b))))) (And.intro (And.intro (And.intro (@nc_bin) (@nc_conv)) (And.intro (@nc_lookup) (And.intro (@nc_assert) (@nc_slice)))) (And.intro (And.intro (@nc_panic) (@nc_iface)) (And.intro (@nc_defer) (And.intro (@nc_makeMap) (@nc_insert)))))) (And.intro (And.intro (And.intro (And.intro (@nc_mapUpdate) (@nc_nil)) (And.intro (@nc_ia) (And.intro (@nc_ix) (@nc_ms)))) (And.intro (And.intro (@nc_range) (@nc_next)) (And.intro (@nc_entry) (And.intro (@nc_build) (@genKs_val))))) (And.intro (And.intro (And.intro (@genKs_pan) (@genKs_dfr)) (And.intro (@genKs_rcv) (And.intro (@ov_some) (@ovs_some)))) (And.intro (And.intro (@oval_t) (@oval_c)) (And.intro (@oval_f) (And.intro (@gA_bin) (@gA_conv))))))
theorem RS2 : type_of% (And.intro (And.intro (And.intro (And.intro (And.intro (@gA_lookup) (@gA_assert)) (And.intro (@gA_slice) (And.intro (@sliceK3_some) (@boundA_none)))) (And.intro (And.intro (@boundA_some) (@gA_panK)) (And.intro (@panK_iface) (And.intro (@gA_iface) (@gA_defer))))) (And.intro (And.intro (And.intro (@deferK_fn) (@gA_recover)) (And.intro (@rcvK_some) (And.intro (@rcvK_none) (@gA_max)))) (And.intro (And.intro (@gA_min) (@maxA_int)) (And.intro (@gA_makeMap) (And.intro (@gA_insert) (@gA_mapUpdate)))))) (And.intro (And.intro (And.intro (And.intro (@stOv_some) (@runX_tt)) (And.intro (@runX_tf) (And.intro (@runX_ff) (@runX_ft)))) (And.intro (And.intro (@runX_nil) (@put_mk)) (And.intro (@put_none) (And.intro (@val_t) (@val_c))))) (And.intro (And.intro (And.intro (@push_mk) (@set_mk)) (And.intro (@upd_hit) (And.intro (@upd_miss) (@argTmps_at)))) (And.intro (And.intro (@getD_0) (@getD_1)) (And.intro (@getD_2) (And.intro (@getD_3) (@cells_agg))))))) := And.intro (And.intro (And.intro (And.intro (And.intro (@gA_lookup) (@gA_assert)) (And.intro (@gA_slice) (And.intro (@sliceK3_some) (@boundA_none)))) (And.intro (And.intro (@boundA_some) (@gA_panK)) (And.intro (@panK_iface) (And.intro (@gA_iface) (@gA_defer))))) (And.intro (And.intro (And.intro (@deferK_fn) (@gA_recover)) (And.intro (@rcvK_some) (And.intro (@rcvK_none) (@gA_max)))) (And.intro (And.intro (@gA_min) (@maxA_int)) (And.intro (@gA_makeMap) (And.intro (@gA_insert) (@gA_mapUpdate)))))) (And.intro (And.intro (And.intro (And.intro (@stOv_some) (@runX_tt)) (And.intro (@runX_tf) (And.intro (@runX_ff) (@runX_ft)))) (And.intro (And.intro (@runX_nil) (@put_mk)) (And.intro (@put_none) (And.intro (@val_t) (@val_c))))) (And.intro (And.intro (And.intro (@push_mk) (@set_mk)) (And.intro (@upd_hit) (And.intro (@upd_miss) (@argTmps_at)))) (And.intro (And.intro (@getD_0) (@getD_1)) (And.intro (@getD_2) (And.intro (@getD_3) (@cells_agg))))))
theorem RS3 : type_of% (And.intro (And.intro (And.intro (And.intro (And.intro (@cells_int) (@cells_bool)) (And.intro (@cells_str) (And.intro (@cells_slice) (@any_agg)))) (And.intro (And.intro (@any_int) (@any_bool)) (And.intro (@any_str) (And.intro (@any_slice) (@any_ptr))))) (And.intro (And.intro (And.intro (@Nat.add_assoc) (@Nat.add_eq_left)) (And.intro (@Nat.left_eq_add) (And.intro (@Nat.le_add_right) (@Nat.le_refl)))) (And.intro (And.intro (@Nat.lt_irrefl) (@bindS)) (And.intro (@addrX_ptr) (And.intro (@addrX_cptr) (@ldX_ptr)))))) (And.intro (And.intro (And.intro (And.intro (@ldX_cptr) (@ldO_mem)) (And.intro (@partX_cell) (And.intro (@partX_agg) (@binIX_int)))) (And.intro (And.intro (@binSX_str) (@i_add)) (And.intro (@i_sub) (And.intro (@i_mul) (@i_eql))))) (And.intro (And.intro (And.intro (@i_neq) (@i_lss)) (And.intro (@i_leq) (And.intro (@i_gtr) (@i_geq)))) (And.intro (And.intro (@s_eql) (@s_neq)) (And.intro (@lenX_slice) (And.intro (@un_not) (@idxK_some))))))) := And.intro (And.intro (And.intro (And.intro (And.intro (@cells_int) (@cells_bool)) (And.intro (@cells_str) (And.intro (@cells_slice) (@any_agg)))) (And.intro (And.intro (@any_int) (@any_bool)) (And.intro (@any_str) (And.intro (@any_slice) (@any_ptr))))) (And.intro (And.intro (And.intro (@Nat.add_assoc) (@Nat.add_eq_left)) (And.intro (@Nat.left_eq_add) (And.intro (@Nat.le_add_right) (@Nat.le_refl)))) (And.intro (And.intro (@Nat.lt_irrefl) (@bindS)) (And.intro (@addrX_ptr) (And.intro (@addrX_cptr) (@ldX_ptr)))))) (And.intro (And.intro (And.intro (And.intro (@ldX_cptr) (@ldO_mem)) (And.intro (@partX_cell) (And.intro (@partX_agg) (@binIX_int)))) (And.intro (And.intro (@binSX_str) (@i_add)) (And.intro (@i_sub) (And.intro (@i_mul) (@i_eql))))) (And.intro (And.intro (And.intro (@i_neq) (@i_lss)) (And.intro (@i_leq) (And.intro (@i_gtr) (@i_geq)))) (And.intro (And.intro (@s_eql) (@s_neq)) (And.intro (@lenX_slice) (And.intro (@un_not) (@idxK_some))))))
theorem RS4 : type_of% (And.intro (And.intro (And.intro (And.intro (And.intro (@idxX_slice) (@idxO_some)) (And.intro (@natOf_0) (And.intro (@natOf_1) (@natOf_2)))) (And.intro (And.intro (@natOf_3) (@natOf_cast)) (And.intro (@drop0) (And.intro (@drop1) (@drop2))))) (And.intro (And.intro (And.intro (@drop3) (@drop4)) (And.intro (@zadd) (And.intro (@notT) (@notF)))) (And.intro (And.intro (@callK_ret) (@callK_pan)) (And.intro (@callD_fn) (And.intro (@callD_yield) (@mapv_nil)))))) (And.intro (And.intro (And.intro (And.intro (@mapv_cons) (@app_nil)) (And.intro (@nil_app) (And.intro (@cons_app) (@stK_some)))) (And.intro (And.intro (@stoV_ptr) (@sto_cons)) (And.intro (@stO_mem) (And.intro (@exV_tuple) (@partsX_cons))))) (And.intro (And.intro (And.intro (@partsX_nil) (@elemsA_nil)) (And.intro (@elemsA_cons) (And.intro (@fillA_nil) (@fillA_cons)))) (And.intro (And.intro (@fillK_some) (@le0)) (And.intro (@le1) (And.intro (@le2) (@le3))))))) := And.intro (And.intro (And.intro (And.intro (And.intro (@idxX_slice) (@idxO_some)) (And.intro (@natOf_0) (And.intro (@natOf_1) (@natOf_2)))) (And.intro (And.intro (@natOf_3) (@natOf_cast)) (And.intro (@drop0) (And.intro (@drop1) (@drop2))))) (And.intro (And.intro (And.intro (@drop3) (@drop4)) (And.intro (@zadd) (And.intro (@notT) (@notF)))) (And.intro (And.intro (@callK_ret) (@callK_pan)) (And.intro (@callD_fn) (And.intro (@callD_yield) (@mapv_nil)))))) (And.intro (And.intro (And.intro (And.intro (@mapv_cons) (@app_nil)) (And.intro (@nil_app) (And.intro (@cons_app) (@stK_some)))) (And.intro (And.intro (@stoV_ptr) (@sto_cons)) (And.intro (@stO_mem) (And.intro (@exV_tuple) (@partsX_cons))))) (And.intro (And.intro (And.intro (@partsX_nil) (@elemsA_nil)) (And.intro (@elemsA_cons) (And.intro (@fillA_nil) (@fillA_cons)))) (And.intro (And.intro (@fillK_some) (@le0)) (And.intro (@le1) (And.intro (@le2) (@le3))))))
theorem RS5 : type_of% (And.intro (And.intro (And.intro (And.intro (And.intro (@splice0) (@splice1)) (And.intro (@splice2) (And.intro (@splice3) (@spliceA)))) (And.intro (And.intro (@len_nil) (@len_cons)) (And.intro (@all_nil) (And.intro (@all_cons) (@ic_int))))) (And.intro (And.intro (And.intro (@ic_bool) (@ic_str)) (And.intro (@ic_slice) (And.intro (@andT) (@not_false_eq_true)))) (And.intro (And.intro (@not_true_eq_false) (@endOf_ret)) (And.intro (@endOf_norm) (And.intro (@resA_nil) (@resA_tmp)))))) (And.intro (And.intro (And.intro (And.intro (@resA_cellR) (@cellR_ptr)) (And.intro (@packA_0) (And.intro (@packA_1) (@packA_2)))) (And.intro (And.intro (@logOk_nil) (@logOk_cons)) (And.intro (@true_and) (And.intro (@and_true) (@and_self))))) (And.intro (And.intro (And.intro (@false_and) (@or_false)) (And.intro (@false_or) (And.intro (@Int.ofNat_lt) (@Int.ofNat_le)))) (And.intro (And.intro (@decide_true) (@decide_false)) (And.intro (@Bool.not_true) (And.intro (@Bool.not_false) (@Bool.true_and))))))) := And.intro (And.intro (And.intro (And.intro (And.intro (@splice0) (@splice1)) (And.intro (@splice2) (And.intro (@splice3) (@spliceA)))) (And.intro (And.intro (@len_nil) (@len_cons)) (And.intro (@all_nil) (And.intro (@all_cons) (@ic_int))))) (And.intro (And.intro (And.intro (@ic_bool) (@ic_str)) (And.intro (@ic_slice) (And.intro (@andT) (@not_false_eq_true)))) (And.intro (And.intro (@not_true_eq_false) (@endOf_ret)) (And.intro (@endOf_norm) (And.intro (@resA_nil) (@resA_tmp)))))) (And.intro (And.intro (And.intro (And.intro (@resA_cellR) (@cellR_ptr)) (And.intro (@packA_0) (And.intro (@packA_1) (@packA_2)))) (And.intro (And.intro (@logOk_nil) (@logOk_cons)) (And.intro (@true_and) (And.intro (@and_true) (@and_self))))) (And.intro (And.intro (And.intro (@false_and) (@or_false)) (And.intro (@false_or) (And.intro (@Int.ofNat_lt) (@Int.ofNat_le)))) (And.intro (And.intro (@decide_true) (@decide_false)) (And.intro (@Bool.not_true) (And.intro (@Bool.not_false) (@Bool.true_and))))))
theorem RS6 : type_of% (And.intro (@Bool.false_and) (And.intro (@Bool.and_true) (@Bool.and_false))) := And.intro (@Bool.false_and) (And.intro (@Bool.and_true) (@Bool.and_false))
theorem RS : type_of% (And.intro (And.intro (And.intro (@RS0) (@RS1)) (And.intro (@RS2) (@RS3))) (And.intro (And.intro (@RS4) (@RS5)) (And.intro (@RS6) (@one_ne0)))) := And.intro (And.intro (And.intro (@RS0) (@RS1)) (And.intro (@RS2) (@RS3))) (And.intro (And.intro (@RS4) (@RS5)) (And.intro (@RS6) (@one_ne0)))
end Go.AE
