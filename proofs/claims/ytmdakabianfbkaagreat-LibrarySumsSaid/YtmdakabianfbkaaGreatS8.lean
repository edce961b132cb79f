/- sort and perm: at every argument. -/
import Derived.Test.YtmdakabianfbkaaGreatS7
set_option linter.unusedVariables false
set_option linter.unusedSimpArgs false
set_option linter.unusedSectionVars false
namespace Go.Proofs.P31
open Go Go.AE
open Nat (reduceLT reduceLeDiff reduceEqDiff reduceMul reduceAdd reduceSub)
set_option maxHeartbeats 8000000
section
variable {Q : Ctx} (hK : K Q)
include hK
theorem frz72 : Q.frz 72 = true := hK.frz_ (by kernel_rfl)
theorem values_c {k : SK} {l : List AV} {st : St} : callW Q (.fn 72) [.slice k l] .normal st = some (.ret (.func (.func 100) [] [.ptr st.next 0]), ⟨upd st.heap st.next (.mem 22 [.slice k l] true 0), st.next + 1, st.log⟩, none) := by
  obtain ⟨v, st3, h1, rfl, rfl⟩ := frz_end (R := fun v st3 => v = .func (.func 100) [] [.ptr st.next 0] ∧ st3 = ⟨upd st.heap st.next (.mem 22 [.slice k l] true 0), st.next + 1, []⟩) (N := 4) (ok72 hK) (hK.nx 72 [.slice k l] st rfl) rfl (frz72 hK) (by
    simp only [RS, RT, RZ, tsc0, tz0, nq0, bs0, bn0, reduceLT, reduceLeDiff, reduceEqDiff, reduceMul, reduceAdd, reduceSub, reduceCtorEq, x72, F72]
    exact ⟨_, rfl, _, _, rfl, rfl, rfl⟩)
  rw [h1, leave_row (by simp [belowA.belowL, belowA])]
  rfl
end
end Go.Proofs.P31

namespace Go.Proofs.P31
open Go Go.AE
open Nat (reduceLT reduceLeDiff reduceEqDiff reduceMul reduceAdd reduceSub)
set_option maxHeartbeats 8000000
section
variable {Q : Ctx} (hK : K Q)
include hK
theorem vals_loop {Y p : Nat} {k : SK} {l : List Int} (hl : l.length < 1000) {I : Nat → St → Prop} (hy : ∀ i (hi : i < l.length) st, I i st → ∃ st', callW Q (.yield Y) [.int .i64 l[i]] .normal st = some (.ret (.bool true), st', none) ∧ I (i + 1) st') :
    ∀ (n : Nat) T st, (∃ i : Nat, T 0 = .func (.yield Y) [] [] ∧ T 5 = .slice k (intsA l) ∧ T 6 = .int .i64 (l.length : Int) ∧ T 7 = .int .i64 (i : Int) ∧ i + n = l.length + 1 ∧ i ≤ l.length ∧ I i st) →
      Post 16 [] none (execY (callW Q) Q false 100 none (.loop l100_0) ⟨T, 16, [], none⟩ st) fun e T' st' => e = .exit 0 ∧ I l.length st' := by
  refine post_loop fun n T st => ?_
  rintro ⟨i, t0, t5, t6, t7, hn, hi, hI⟩
  by_cases hc : i < l.length
  · have a1 : (intsA l)[i]? = some (.int .i64 l[i]) := by rw [intsA_at, List.getElem?_eq_getElem hc]; rfl
    have w1 := wrapN (z := (i : Int) + 1) (n := i + 1) (by omega) (by omega)
    obtain ⟨st', c1, hI'⟩ := hy i hc st hI
    obtain ⟨h, nx, lg⟩ := st
    obtain ⟨h', nx', lg'⟩ := st'
    simp only [RS, RT, RZ, tsc0, tz0, nq0, bs0, bn0, reduceLT, reduceLeDiff, reduceEqDiff, reduceMul, reduceAdd, reduceSub, reduceCtorEq, l100_0, t0, t5, t6, t7, hc, a1, w1, c1]
    exact ⟨n - 1, by omega, i + 1, rfl, by omega, by omega, hI'⟩
  · have : i = l.length := by omega
    subst this
    simp only [RS, RT, RZ, tsc0, tz0, nq0, bs0, bn0, reduceLT, reduceLeDiff, reduceEqDiff, reduceMul, reduceAdd, reduceSub, reduceCtorEq, l100_0, t0, t5, t6, t7, hc]
    exact hI
theorem vals_c {Y p : Nat} {k : SK} {l : List Int} (hl : l.length < 1000) {I : Nat → St → Prop} (hy : ∀ i (hi : i < l.length) st, I i st → ∃ st', callW Q (.yield Y) [.int .i64 l[i]] .normal st = some (.ret (.bool true), st', none) ∧ I (i + 1) st') {st : St} (hp : st.heap p = .mem 22 [.slice k (intsA l)] true 0) (hI : I 0 ⟨st.heap, st.next, []⟩) :
    ∃ st1, callW Q (.fn 100) [.func (.yield Y) [] [], .ptr p 0] .normal st = some (.ret (.tuple []), leaveSt st [.tuple []] st1, none) ∧ I l.length st1 := by
  have hB : Post 16 [] none (execY (callW Q) Q false 100 none x100 ⟨argTmps [.func (.yield Y) [] [], .ptr p 0], 16, [], none⟩ ⟨st.heap, st.next, []⟩) fun e T st' => e = .norm ∧ I l.length st' := by
    simp only [RS, RT, RZ, tsc0, tz0, nq0, bs0, bn0, reduceLT, reduceLeDiff, reduceEqDiff, reduceMul, reduceAdd, reduceSub, reduceCtorEq, x100, hp, intsA_len]
    refine post_bind (vals_loop hK (Y := Y) (p := p) (k := k) hl hy (l.length + 1) _ _ ⟨0, ?_, ?_, ?_, ?_, by omega, by omega, hI⟩) ?_
    all_goals try (simp only [RS, RT, RZ, tsc0, tz0, nq0, bs0, bn0, reduceLT, reduceLeDiff, reduceEqDiff, reduceMul, reduceAdd, reduceSub, reduceCtorEq, cast_0]; done)
    rintro e T st' ⟨rfl, h⟩
    simp only [RS, RT, RZ, tsc0, tz0, nq0, bs0, bn0, reduceLT, reduceLeDiff, reduceEqDiff, reduceMul, reduceAdd, reduceSub, reduceCtorEq]
    exact h
  obtain ⟨e, T, st1, h1, rfl, h3⟩ := hB
  refine ⟨st1, ?_, h3⟩
  refine callYr (N := 16) (ok100 hK) (hK.nx _ _ _ rfl) rfl ⟨_, h1, ?_⟩
  simp only
  rw [finish_ret (v0 := .tuple []) (v := .tuple []) (st3 := st1) endOf_norm (by simp only [RS, RT, RZ, tsc0, tz0, nq0, bs0, bn0, reduceLT, reduceLeDiff, reduceEqDiff, reduceMul, reduceAdd, reduceSub, reduceCtorEq, F100]) (frz_noRow rfl fun _ => rfl)]
  rfl
end
end Go.Proofs.P31

namespace Go.Proofs.P31
open Go Go.AE
open Nat (reduceLT reduceLeDiff reduceEqDiff reduceMul reduceAdd reduceSub)
set_option maxHeartbeats 8000000
theorem appI0 {h : Nat → AO} {nx : Nat} {lg : List Nat} {x : Int} : appendA true ⟨h, nx, lg⟩ 3 T3 (.slice .nil []) [.int .i64 x] = some (.row nx 0 1 none, ⟨upd h nx (.mem 3 [.int .i64 x] false 0), nx + 1, lg⟩) := by
  simp only [appendA]
  rw [if_pos ⟨rfl, by decide, rfl⟩, if_pos ⟨rfl, by rfl⟩]
  rfl
theorem appI1 {h : Nat → AO} {nx r n : Nat} {lg : List Nat} {x : Int} {cs : List AV} (hp : h r = .mem 3 cs false 0) (hl : cs.length = n) (hn : n < 1000) : appendA true ⟨h, nx, lg⟩ 3 T3 (.row r 0 n none) [.int .i64 x] = some (.row nx 0 (n + 1) none, ⟨upd (upd h r .dead) nx (.mem 3 (cs ++ [.int .i64 x]) false 0), nx + 1, r :: lg⟩) := by
  have e3 : roomy (n + [AV.int .i64 x].length) T3.bytes = true := by
    show (decide ((n + 1) * 8 ≤ 1099511627776) && decide (8 ≤ 1048576) && decide (n + 1 ≤ 1099511627776)) = true
    rw [decide_eq_true (by omega), decide_eq_true (by omega)]; rfl
  have e5 : ¬ (0 + (n + [AV.int .i64 x].length) * T3.size ≤ cs.length) := by rw [hl]; show ¬ (0 + (n + 1) * 1 ≤ n); omega
  have e6 : 0 + n * T3.size = cs.length := by rw [hl]; show 0 + n * 1 = n; omega
  simp only [appendA]
  rw [if_pos ⟨rfl, by decide, rfl⟩, if_pos e3]
  simp only [appendRow, hp]
  rw [if_neg (by decide), if_pos (by rfl), if_neg e5, if_neg (by decide), if_pos e6]
  rfl
theorem row3 {x : Int} {B : Nat} {st : St} {fu : Bool} (hp : st.heap B = .mem 3 [.int .i64 x] fu 0) : elemsOf st T3 (.row B 0 1 none) = some [.int .i64 x] := by
  show rowElems st T3 B 0 1 = _
  rw [rowElems_cells (ei := T3) rfl rfl hp (by simp) (by intro y hy; rw [List.mem_singleton] at hy; subst hy; rfl)]
  rfl
theorem fnis {Q : Ctx} {f : FuncId} {fi : FI} {x : XC} {mu : Bool} (h : FnOk Q f fi x mu) : (Q.fn f).isNone = false := by rw [h.fn]; rfl
theorem comp_ {Q : Ctx} (hK : K Q) {mu : Bool} {c : RC} {x : XC} (h : compC C mu c = x) : compC Q mu c = x := by
  obtain ⟨X, rfl⟩ := hK.ex
  exact (compC_withX c).trans h
end Go.Proofs.P31

namespace Go.Proofs.P31
open Go Go.AE
open Nat (reduceLT reduceLeDiff reduceEqDiff reduceMul reduceAdd reduceSub)
set_option maxHeartbeats 8000000
noncomputable def lp107 (T : Nat → AV) (s : LoopState) (d : Nat) : AO := .loop 107 T 13 [7] q107_0.1 q107_0.2 s none d
structure AS (l : List Int) (T : Nat → AV) (n : Nat) (h0 : Nat → AO) (i : Nat) (st : St) : Prop where
  lst : (i = 0 ∧ st.heap n = .mem 22 [.slice .nil []] true 0) ∨ (0 < i ∧ ∃ r, st.heap n = .mem 22 [.row r 0 i none] true 0 ∧ st.heap r = .mem 3 (intsA (l.take i)) false 0 ∧ n + 3 ≤ r ∧ r < st.next)
  lp : st.heap (n + 2) = lp107 T .ready (n + 1)
  mrk : st.heap (n + 1) = .dfr
  nx : n + 3 ≤ st.next
  log : ∀ q ∈ st.log, n ≤ q
  old : ∀ q, q < n → st.heap q = h0 q
  ne : 0 < i → n ∈ st.log
section
variable {Q : Ctx} (hK : K Q)
include hK
theorem yield107 {l : List Int} (hl : l.length < 1000) {T : Nat → AV} {n : Nat} {h0 : Nat → AO} (t2 : T 2 = .ptr n 0) {i : Nat} (hi : i < l.length) {st : St} (hI : AS l T n h0 i st) :
    ∃ st', callW Q (.yield (n + 2)) [.int .i64 l[i]] .normal st = some (.ret (.bool true), st', none) ∧ AS l T n h0 (i + 1) st' := by
  obtain ⟨lst, lp, mk, nx2, log, old, ne⟩ := hI
  obtain ⟨h, nx, lg⟩ := st
  simp only at lst lp mk nx2 log old ne
  have e0 : (n = nx) = False := eq_false (by omega)
  have e5 : (n + 2 = nx) = False := eq_false (by omega)
  have e5' : (nx = n + 2) = False := eq_false (by omega)
  have e1 : (n = nx + 1) = False := eq_false (by omega)
  have e6 : (n + 2 = nx + 1) = False := eq_false (by omega)
  have e7 : (n + 2 = n) = False := eq_false (by omega)
  have eB : ∀ hh : Nat → AO, elemsOf ⟨upd hh nx (.mem 3 [.int .i64 l[i]] true 0), nx + 1, (n + 2) :: lg⟩ T3 (.row nx 0 1 none) = some [.int .i64 l[i]] := fun hh => row3 (upd_same ..)
  rcases lst with ⟨hi0, hn⟩ | ⟨hpos, r, hn, hr, hr1, hr2⟩
  · obtain ⟨st', y1, y2⟩ := yield_norm (C := Q) (l := n + 2) (self := 107) (tmps := T) (m := 13) (params := [7]) (assign := q107_0.1) (body := q107_0.2) (d := n + 1) (pe := none) (args := [.int .i64 l[i]]) (st := ⟨h, nx, lg⟩) (mu := true) (xa := xa107_0) (xb := xb107_0)
      (R := fun st' => st' = ⟨upd (upd (upd (upd (upd h (n + 2) (lp107 T .busy (n + 1))) nx (.mem 3 [.int .i64 l[i]] true 0)) (nx + 1) (.mem 3 [.int .i64 l[i]] false 0)) n (.mem 22 [.row (nx + 1) 0 1 none] true 0)) (n + 2) (lp107 T .ready (n + 1)), nx + 2, (n + 2) :: n :: (n + 2) :: lg⟩) lp rfl (fnis (ok107 hK)) (ok107 hK).mu (comp_ hK codea107_0) (comp_ hK codeb107_0) (by kernel_rfl) (by kernel_rfl) (by
        simp only [List.zip_cons_cons, List.zip_nil_right, setParams, Nat.reduceLT, if_true]
        simp only [RS, RT, RZ, tsc0, tz0, nq0, bs0, bn0, reduceLT, reduceLeDiff, reduceEqDiff, reduceMul, reduceAdd, reduceSub, reduceCtorEq, if_false, runX_buildM, flat_cons, flat_nil, cells_row, any_row, ic_row, Nat.lt_add_one, xa107_0, e5, e5', lp, lp107]
        simp only [RS, RT, RZ, tsc0, tz0, nq0, bs0, bn0, reduceLT, reduceLeDiff, reduceEqDiff, reduceMul, reduceAdd, reduceSub, reduceCtorEq, if_false, runX_buildM, flat_cons, flat_nil, cells_row, any_row, ic_row, Nat.lt_add_one, xb107_0, t2, e0, e5, e5', hn, eB, appI0, lp107, e1, e6, e7]
        done)
    subst y2
    refine ⟨_, y1, ?_⟩
    subst hi0
    have hx : intsA (l.take (0 + 1)) = [.int .i64 l[0]] := by
      obtain ⟨x, xs, rfl⟩ : ∃ x xs, l = x :: xs := by cases l with | nil => simp at hi | cons x xs => exact ⟨x, xs, rfl⟩
      simp [intsA]
    exact {
      lst := .inr ⟨by omega, nx + 1, by simp only; rw [upd_ne _ _ (by omega), upd_same], by simp only; rw [upd_ne _ _ (by omega), upd_ne _ _ (by omega), upd_same, hx], by omega, by simp only; omega⟩
      lp := by simp only; rw [upd_same]
      mrk := by simp only; rw [upd_ne _ _ (by omega), upd_ne _ _ (by omega), upd_ne _ _ (by omega), upd_ne _ _ (by omega), upd_ne _ _ (by omega)]; exact mk
      nx := by simp only; omega
      log := fun q hq => by
        simp only [List.mem_cons] at hq
        rcases hq with rfl | rfl | rfl | hq
        · omega
        · omega
        · omega
        · exact log q hq
      old := fun q hq => by simp only; rw [upd_ne _ _ (by omega), upd_ne _ _ (by omega), upd_ne _ _ (by omega), upd_ne _ _ (by omega), upd_ne _ _ (by omega)]; exact old q hq
      ne := fun _ => by simp }
  · have er : (r = nx) = False := eq_false (by omega)
    have er2 : (r = n + 2) = False := eq_false (by omega)
    have er3 : r ≠ n + 2 := by omega
    have hcs : (intsA (l.take i)).length = i := by rw [intsA_len, List.length_take]; omega
    have ap := appI1 (r := r) (n := i) (nx := nx + 1) (lg := (n + 2) :: lg) (x := l[i]) (cs := intsA (l.take i)) (h := upd (upd h (n + 2) (lp107 T .busy (n + 1))) nx (.mem 3 [.int .i64 l[i]] true 0)) (by rw [upd_ne _ _ (by omega), upd_ne _ _ er3, hr]) hcs (by omega)
    have e8 : (n = r) = False := eq_false (by omega)
    have e9 : (n + 2 = r) = False := eq_false (by omega)
    simp only [lp107] at ap
    obtain ⟨st', y1, y2⟩ := yield_norm (C := Q) (l := n + 2) (self := 107) (tmps := T) (m := 13) (params := [7]) (assign := q107_0.1) (body := q107_0.2) (d := n + 1) (pe := none) (args := [.int .i64 l[i]]) (st := ⟨h, nx, lg⟩) (mu := true) (xa := xa107_0) (xb := xb107_0)
      (R := fun st' => st' = ⟨upd (upd (upd (upd (upd (upd h (n + 2) (lp107 T .busy (n + 1))) nx (.mem 3 [.int .i64 l[i]] true 0)) r .dead) (nx + 1) (.mem 3 (intsA (l.take i) ++ [AV.int IntKind.i64 (l[i]'hi)]) false 0)) n (.mem 22 [.row (nx + 1) 0 (i + 1) none] true 0)) (n + 2) (lp107 T .ready (n + 1)), nx + 2, (n + 2) :: n :: r :: (n + 2) :: lg⟩) lp rfl (fnis (ok107 hK)) (ok107 hK).mu (comp_ hK codea107_0) (comp_ hK codeb107_0) (by kernel_rfl) (by kernel_rfl) (by
        simp only [List.zip_cons_cons, List.zip_nil_right, setParams, Nat.reduceLT, if_true]
        simp only [RS, RT, RZ, tsc0, tz0, nq0, bs0, bn0, reduceLT, reduceLeDiff, reduceEqDiff, reduceMul, reduceAdd, reduceSub, reduceCtorEq, if_false, runX_buildM, flat_cons, flat_nil, cells_row, any_row, ic_row, Nat.lt_add_one, xa107_0, e5, e5', lp, lp107]
        simp only [RS, RT, RZ, tsc0, tz0, nq0, bs0, bn0, reduceLT, reduceLeDiff, reduceEqDiff, reduceMul, reduceAdd, reduceSub, reduceCtorEq, if_false, runX_buildM, flat_cons, flat_nil, cells_row, any_row, ic_row, Nat.lt_add_one, xb107_0, t2, e0, e5, e5', hn, eB, ap, lp107, e1, e6, e7, e8, e9]
        done)
    subst y2
    refine ⟨_, y1, ?_⟩
    have hx : intsA (l.take (i + 1)) = intsA (l.take i) ++ [.int .i64 l[i]] := by rw [List.take_add_one, List.getElem?_eq_getElem hi]; simp only [intsA, Option.toList, List.map_append, List.map_cons, List.map_nil]
    exact {
      lst := .inr ⟨by omega, nx + 1, by simp only; rw [upd_ne _ _ (by omega), upd_same], by simp only; rw [upd_ne _ _ (by omega), upd_ne _ _ (by omega), upd_same, hx], by omega, by simp only; omega⟩
      lp := by simp only; rw [upd_same]
      mrk := by simp only; rw [upd_ne _ _ (by omega), upd_ne _ _ (by omega), upd_ne _ _ (by omega), upd_ne _ _ (by omega), upd_ne _ _ (by omega), upd_ne _ _ (by omega)]; exact mk
      nx := by simp only; omega
      log := fun q hq => by
        simp only [List.mem_cons] at hq
        rcases hq with rfl | rfl | rfl | rfl | hq
        · omega
        · omega
        · omega
        · omega
        · exact log q hq
      old := fun q hq => by simp only; rw [upd_ne _ _ (by omega), upd_ne _ _ (by omega), upd_ne _ _ (by omega), upd_ne _ _ (by omega), upd_ne _ _ (by omega), upd_ne _ _ (by omega)]; exact old q hq
      ne := fun _ => by simp }
end
end Go.Proofs.P31

namespace Go.Proofs.P31
open Go Go.AE
open Nat (reduceLT reduceLeDiff reduceEqDiff reduceMul reduceAdd reduceSub)
set_option maxHeartbeats 8000000
structure AR (l : List Int) (n : Nat) (h0 : Nat → AO) (st : St) : Prop where
  lst : (l = [] ∧ st.heap n = .mem 22 [.slice .nil []] true 0) ∨ (l ≠ [] ∧ ∃ r, st.heap n = .mem 22 [.row r 0 l.length none] true 0 ∧ st.heap r = .mem 3 (intsA l) false 0 ∧ n + 3 ≤ r ∧ r < st.next)
  mrk : st.heap (n + 1) = .dfr
  nx : n + 2 ≤ st.next
  log : ∀ q ∈ st.log, n ≤ q
  old : ∀ q, q < n → st.heap q = h0 q
section
variable {Q : Ctx} (hK : K Q)
include hK
theorem range107 {l : List Int} {k : SK} {p : Nat} (hl : l.length < 1000) {T : Nat → AV} {n : Nat} {D : List ADef} {h : Nat → AO} {lg : List Nat} (t2 : T 2 = .ptr n 0) (hpn : p < n) (hp : h p = .mem 22 [.slice k (intsA l)] true 0) (h0 : h n = .mem 22 [.slice .nil []] true 0) (h1 : h (n + 1) = .dfr) (hlg : ∀ q ∈ lg, n ≤ q) :
    Post 13 D none (rangeLoop (callW Q) 107 100 [] [.ptr p 0] [7] q107_0.1 q107_0.2 (n + 1) ⟨T, 13, D, none⟩ ⟨h, n + 2, lg⟩) fun e T' st => T' = T ∧ e = .norm ∧ AR l n h st := by
  have hI : AS l T n h 0 ⟨upd h (n + 2) (lp107 T .ready (n + 1)), n + 3, []⟩ := {
    lst := .inl ⟨rfl, by simp only; rw [upd_ne _ _ (by omega), h0]⟩
    lp := by simp only; rw [upd_same]
    mrk := by simp only; rw [upd_ne _ _ (by omega), h1]
    nx := Nat.le_refl _
    log := fun q hq => nomatch hq
    old := fun q hq => by simp only; rw [upd_ne _ _ (by omega)]
    ne := fun h => absurd h (by omega) }
  obtain ⟨st1, e1, e2⟩ := vals_c hK (Y := n + 2) (p := p) (k := k) hl (I := AS l T n h) (fun i hi st hI => yield107 hK hl t2 hi hI) (st := ⟨upd h (n + 2) (lp107 T .ready (n + 1)), n + 3, lg⟩) (by simp only; rw [upd_ne _ _ (by omega), hp]) hI
  obtain ⟨st2, hst2⟩ : ∃ st2, st2 = leaveSt ⟨upd h (n + 2) (lp107 T .ready (n + 1)), n + 3, lg⟩ [.tuple []] st1 := ⟨_, rfl⟩
  rw [← hst2] at e1
  obtain ⟨b1, b2⟩ : st2.heap (n + 2) = lp107 T .ready (n + 1) ∧ AR l n h st2 := by
    rcases leave_cases (st0 := ⟨upd h (n + 2) (lp107 T .ready (n + 1)), n + 3, lg⟩) (st1 := st1) (vs := [.tuple []]) with ⟨c1, c2⟩ | c1
    · have hnil : l = [] := by
        cases l with
        | nil => rfl
        | cons x xs =>
          have h5 := c2 n (e2.ne (by simp))
          simp only at h5; omega
      rw [hst2, c1]
      exact ⟨by simp only; rw [upd_same], ⟨.inl ⟨hnil, by simp only; rw [upd_ne _ _ (by omega), h0]⟩, by simp only; rw [upd_ne _ _ (by omega), h1], by simp only; omega, hlg, fun q hq => by simp only; rw [upd_ne _ _ (by omega)]⟩⟩
    · rw [hst2, c1]
      obtain ⟨lst, lp, mk, nx2, log, old, ne⟩ := e2
      refine ⟨lp, ⟨?_, mk, by simp only; omega, fun q hq => ?_, old⟩⟩
      · rcases lst with ⟨h9, h10⟩ | ⟨h9, r, h10, h11, h12, h13⟩
        · exact .inl ⟨List.length_eq_zero_iff.1 h9, h10⟩
        · rw [List.take_length] at h11
          exact .inr ⟨fun e => by subst e; simp at h9, r, h10, h11, h12, h13⟩
      · simp only at hq
        rcases List.mem_append.1 hq with hq | hq
        · exact log q (List.mem_filter.1 hq).1
        · exact hlg q hq
  unfold rangeLoop
  simp only [List.nil_append, List.cons_append, St.push]
  simp only [lp107] at e1 b1
  rw [e1]
  simp only [b1, reduceCtorEq, if_false, jumpEx, Option.map_some, post_some]
  refine ⟨trivial, trivial, ?_⟩
  obtain ⟨lst, mk, nx2, log, old⟩ := b2
  refine ⟨?_, by simp only [St.set]; rw [upd_ne _ _ (by omega)]; exact mk, nx2, fun q hq => ?_, fun q hq => by simp only [St.set]; rw [upd_ne _ _ (by omega)]; exact old q hq⟩
  · rcases lst with ⟨h9, h10⟩ | ⟨h9, r, h10, h11, h12, h13⟩
    · exact .inl ⟨h9, by simp only [St.set]; rw [upd_ne _ _ (by omega)]; exact h10⟩
    · exact .inr ⟨h9, r, by simp only [St.set]; rw [upd_ne _ _ (by omega)]; exact h10, by simp only [St.set]; rw [upd_ne _ _ (by omega)]; exact h11, h12, h13⟩
  · simp only [St.set, List.mem_cons] at hq
    rcases hq with rfl | hq
    · omega
    · exact log q hq
end
end Go.Proofs.P31

namespace Go.Proofs.P31
open Go Go.AE
open Nat (reduceLT reduceLeDiff reduceEqDiff reduceMul reduceAdd reduceSub)
set_option maxHeartbeats 8000000
section
variable {Q : Ctx} (hK : K Q)
include hK
theorem frz107 : Q.frz 107 = false := hK.frz_ (by kernel_rfl)
theorem aseq_body {l : List Int} {k : SK} {p : Nat} (hl : l.length < 1000) {st : St} (hp : st.heap p = .mem 22 [.slice k (intsA l)] true 0) (hpn : p < st.next) :
    Post 13 [⟨none, st.next + 1, []⟩] none (execY (callW Q) Q true 107 none x107 ⟨argTmps [.slice .nil [], .func (.func 100) [] [.ptr p 0]], 13, [], none⟩ ⟨st.heap, st.next, []⟩) fun e T st1 => e = .ret ∧ AR l st.next st.heap st1 ∧ ∃ v, st1.heap st.next = .mem 22 [v] true 0 ∧ T 4 = v := by
  simp only [RS, RT, RZ, tsc0, tz0, nq0, bs0, bn0, reduceLT, reduceLeDiff, reduceEqDiff, reduceMul, reduceAdd, reduceSub, reduceCtorEq, x107, execY_rangeF, rangeK_fn (fnis (ok100 hK))]
  refine post_bind (range107 hK (l := l) (k := k) (p := p) hl ?_ hpn ?_ ?_ ?_ (fun q hq => nomatch hq)) ?_
  · simp only [RS, RT, RZ, tsc0, tz0, nq0, bs0, bn0, reduceLT, reduceLeDiff, reduceEqDiff, reduceMul, reduceAdd, reduceSub, reduceCtorEq]
  · rw [upd_ne _ _ (by omega), upd_ne _ _ (by omega), hp]
  · simp only [RS, RT, RZ, tsc0, tz0, nq0, bs0, bn0, reduceLT, reduceLeDiff, reduceEqDiff, reduceMul, reduceAdd, reduceSub, reduceCtorEq, Nat.left_eq_add]
  · simp only [RS, RT, RZ, tsc0, tz0, nq0, bs0, bn0, reduceLT, reduceLeDiff, reduceEqDiff, reduceMul, reduceAdd, reduceSub, reduceCtorEq]
  · rintro e T ⟨h, nx, lg⟩ ⟨rfl, rfl, hR⟩
    obtain ⟨lst, mk, nx2, log, old⟩ := hR
    have hold : ∀ q, q < st.next → h q = st.heap q := fun q hq => by
      have := old q hq; simp only at this; rw [this, upd_ne _ _ (by omega), upd_ne _ _ (by omega)]
    rcases lst with ⟨h9, h10⟩ | ⟨h9, r, h10, h11, h12, h13⟩
    · simp only at h10
      simp only [RS, RT, RZ, tsc0, tz0, nq0, bs0, bn0, reduceLT, reduceLeDiff, reduceEqDiff, reduceMul, reduceAdd, reduceSub, reduceCtorEq, h10]
      exact ⟨⟨.inl ⟨h9, h10⟩, mk, nx2, log, hold⟩, _, rfl, rfl⟩
    · simp only at h10
      simp only [RS, RT, RZ, tsc0, tz0, nq0, bs0, bn0, reduceLT, reduceLeDiff, reduceEqDiff, reduceMul, reduceAdd, reduceSub, reduceCtorEq, h10]
      exact ⟨⟨.inr ⟨h9, r, h10, h11, h12, h13⟩, mk, nx2, log, hold⟩, _, rfl, rfl⟩
theorem aseq_c {l : List Int} {k : SK} {p : Nat} (hl : l.length < 1000) {st : St} (hp : st.heap p = .mem 22 [.slice k (intsA l)] true 0) (hpn : p < st.next) :
    (l = [] ∧ callW Q (.fn 107) [.slice .nil [], .func (.func 100) [] [.ptr p 0]] .normal st = some (.ret (.slice .nil []), st, none)) ∨
    (l ≠ [] ∧ ∃ g h' nx', callW Q (.fn 107) [.slice .nil [], .func (.func 100) [] [.ptr p 0]] .normal st = some (.ret (.row g 0 l.length none), ⟨h', nx', st.log⟩, none) ∧ NewI st g l h' nx') := by
  obtain ⟨e, T, st1, h1, he, ⟨lst, mk, nx2, log, old⟩, v, hv, t4⟩ := aseq_body hK (k := k) hl hp hpn
  subst he
  have hrs : resultsA Q (st1.set (st.next + 1) .dead) T F107.results = some [v] := by
    obtain ⟨h', n', lg'⟩ := st1
    simp only [RS, RT, RZ, tsc0, tz0, nq0, bs0, bn0, reduceLT, reduceLeDiff, reduceEqDiff, reduceMul, reduceAdd, reduceSub, reduceCtorEq, F107, t4]
  have hlog : ∀ q ∈ (st1.set (st.next + 1) .dead).log, st.next ≤ q := fun q hq => by
    simp only [St.set, List.mem_cons] at hq
    rcases hq with rfl | hq
    · omega
    · exact log q hq
  rcases lst with ⟨h9, h10⟩ | ⟨h9, r, h10, h11, h12, h13⟩
  · refine .inl ⟨h9, callYr (N := 13) (ok107 hK) (hK.nx _ _ _ rfl) rfl ⟨_, h1, ?_⟩⟩
    rw [h10] at hv
    cases hv
    simp only [finishFn, endOf, runDefs, mk, hrs, frz107 hK, Bool.false_eq_true, if_false, packA, Option.map_some, Option.toList]
    rw [leave_log hlog (belowL_one rfl)]
  · rw [h10] at hv
    cases hv
    refine .inr ⟨h9, r, (st1.set (st.next + 1) .dead).heap, st1.next, callYr (N := 13) (ok107 hK) (hK.nx _ _ _ rfl) rfl ⟨_, h1, ?_⟩, ⟨false, ?_⟩, by omega, h13, fun q hq => ?_⟩
    · simp only [finishFn, endOf, runDefs, mk, hrs, frz107 hK, Bool.false_eq_true, if_false, packA, Option.map_some, Option.toList]
      rw [leave_row (below_row1 (by omega)), filt_nil hlog]
      rfl
    · simp only [St.set]; rw [upd_ne _ _ (by omega)]; exact h11
    · simp only [St.set]; rw [upd_ne _ _ (by omega)]; exact old q hq
end
end Go.Proofs.P31

namespace Go.Proofs.P31
open Go Go.AE
open Nat (reduceLT reduceLeDiff reduceEqDiff reduceMul reduceAdd reduceSub)
set_option maxHeartbeats 8000000
section
variable {Q : Ctx} (hK : K Q)
include hK
theorem frz98 : Q.frz 98 = false := hK.frz_ (by kernel_rfl)
theorem frz71 : Q.frz 71 = false := hK.frz_ (by kernel_rfl)
theorem frz70 : Q.frz 70 = false := hK.frz_ (by kernel_rfl)
theorem collect_c {l : List Int} {k : SK} {p : Nat} (hl : l.length < 1000) {st : St} (hp : st.heap p = .mem 22 [.slice k (intsA l)] true 0) (hpn : p < st.next) :
    (l = [] ∧ callW Q (.fn 98) [.func (.func 100) [] [.ptr p 0]] .normal st = some (.ret (.slice .nil []), st, none)) ∨
    (l ≠ [] ∧ ∃ g h' nx', callW Q (.fn 98) [.func (.func 100) [] [.ptr p 0]] .normal st = some (.ret (.row g 0 l.length none), ⟨h', nx', st.log⟩, none) ∧ NewI st g l h' nx') := by
  rcases aseq_c hK (l := l) (k := k) (p := p) hl (st := ⟨st.heap, st.next, []⟩) hp hpn with ⟨h1, c1⟩ | ⟨h1, g, h', nx', c1, hN⟩
  · refine .inl ⟨h1, ?_⟩
    refine callY (N := 5) (ok98 hK) (hK.nx _ _ _ rfl) rfl rfl ?_
    simp only [RS, RT, RZ, tsc0, tz0, nq0, bs0, bn0, reduceLT, reduceLeDiff, reduceEqDiff, reduceMul, reduceAdd, reduceSub, reduceCtorEq, x98, F98, c1]
  · obtain ⟨v, st1, q1, rfl, rfl⟩ := row_end (R := fun v st1 => v = .row g 0 l.length none ∧ st1 = ⟨h', nx', []⟩) (N := 5) (ok98 hK) (hK.nx 98 [.func (.func 100) [] [.ptr p 0]] st rfl) rfl (frz98 hK) (by
      simp only [RS, RT, RZ, tsc0, tz0, nq0, bs0, bn0, reduceLT, reduceLeDiff, reduceEqDiff, reduceMul, reduceAdd, reduceSub, reduceCtorEq, x98, F98, c1]
      exact ⟨_, rfl, below_row1 hN.lo, rfl⟩)
    exact .inr ⟨h1, g, h', nx', q1, ⟨hN.at_, hN.lo, hN.hi, hN.old⟩⟩
theorem sorted71_c {l : List Int} {k : SK} {p : Nat} (hl : l.length ≤ 12) {st : St} (hp : st.heap p = .mem 22 [.slice k (intsA l)] true 0) (hpn : p < st.next) :
    (l = [] ∧ callW Q (.fn 71) [.func (.func 100) [] [.ptr p 0]] .normal st = some (.ret (.slice .nil []), st, none)) ∨
    (l ≠ [] ∧ ∃ L g h' nx', callW Q (.fn 71) [.func (.func 100) [] [.ptr p 0]] .normal st = some (.ret (.row g 0 L.length none), ⟨h', nx', st.log⟩, none) ∧ L.Perm l ∧ Ord L L.length ∧ NewI st g L h' nx') := by
  rcases collect_c hK (l := l) (k := k) (p := p) (by omega) (st := ⟨st.heap, st.next, []⟩) hp hpn with ⟨h1, c1⟩ | ⟨h1, g, h', nx', c1, hN⟩
  · refine .inl ⟨h1, ?_⟩
    refine callY (N := 9) (ok71 hK) (hK.nx _ _ _ rfl) rfl rfl ?_
    simp only [RS, RT, RZ, tsc0, tz0, nq0, bs0, bn0, reduceLT, reduceLeDiff, reduceEqDiff, reduceMul, reduceAdd, reduceSub, reduceCtorEq, x71, F71, c1, sortI_nil hK]
  · obtain ⟨⟨fu, hg⟩, lo, hi, old⟩ := hN
    simp only at lo old
    have hpos : 1 ≤ l.length := by
      cases l with
      | nil => exact absurd rfl h1
      | cons x xs => simp
    obtain ⟨⟨h2, nx2, lg2⟩, L, c2, hO, hI⟩ := sortI_c hK (g := g) (fu := fu) (L0 := l) (st := ⟨h', nx', []⟩) hi hpos hl hg
    obtain ⟨a1, a2, a3, a4, a5, a6⟩ := hI
    simp only at a1 a2 a3 a5
    have hlen := a4.length_eq
    obtain ⟨v, st1, q1, rfl, rfl⟩ := row_end (R := fun v st1 => v = .row g 0 l.length none ∧ st1 = ⟨h2, nx2, lg2⟩) (N := 9) (ok71 hK) (hK.nx 71 [.func (.func 100) [] [.ptr p 0]] st rfl) rfl (frz71 hK) (by
      simp only [RS, RT, RZ, tsc0, tz0, nq0, bs0, bn0, reduceLT, reduceLeDiff, reduceEqDiff, reduceMul, reduceAdd, reduceSub, reduceCtorEq, x71, F71, c1, c2]
      exact ⟨_, rfl, below_row1 lo, rfl⟩)
    refine .inr ⟨h1, L, g, h2, nx2, ?_, a4, by rw [hlen]; exact hO, ⟨fu, a1⟩, lo, by omega, fun q hq => by rw [a2 q (by omega)]; exact old q hq⟩
    rw [filt_nil (lg := lg2) (fun q hq => by
      rcases a5 q hq with rfl | h
      · exact lo
      · cases h), List.nil_append] at q1
    rw [hlen]
    exact q1
end
end Go.Proofs.P31

namespace Go.Proofs.P31
open Go Go.AE
open Nat (reduceLT reduceLeDiff reduceEqDiff reduceMul reduceAdd reduceSub)
set_option maxHeartbeats 8000000
def sortP (l : List Int) (o : List LV) : Prop := ∃ L k, o = [⟨true, 0, k, L⟩] ∧ L.Perm l ∧ Ord L L.length
section
variable {Q : Ctx} (hK : K Q)
include hK
theorem sort70_c {v : AV} {a : LV} {st : St} (hV : InV st.heap st.next v [a]) (hl : a.es.length ≤ 12) :
    ∃ o st', callW Q (.fn 70) [v] .normal st = some (.ret o, st', none) ∧ OutR (sortP a.es) st st' o ∧ (true = true → ∃ r, o = .row r 0 1 none) := by
  obtain ⟨ai, an, ak, ae⟩ := a
  simp only at hl
  have v1 := values_c hK (k := ak) (l := intsA ae) (st := ⟨st.heap, st.next, []⟩)
  simp only at v1
  rcases sorted71_c hK (l := ae) (k := ak) (p := st.next) hl (st := ⟨upd st.heap st.next (.mem 22 [.slice ak (intsA ae)] true 0), st.next + 1, []⟩) (upd_same ..) (Nat.lt_succ_self _) with ⟨h1, c1⟩ | ⟨h1, L, g, h', nx', c1, hP, hO, hN⟩
  · have n1 := fun s => nums_slice hK (k := .nil) (l := []) (st := s)
    simp only [intsA, List.map_nil, SK.forget] at n1
    obtain ⟨w, st1, q1, rfl, rfl⟩ := row_end (R := fun w st1 => w = .row (st.next + 2) 0 1 none ∧ st1 = ⟨upd (upd (upd st.heap st.next (.mem 22 [.slice ak (intsA ae)] true 0)) (st.next + 1) (.mem 24 [.bool true, .int .i64 0, .slice .nil []] true 0)) (st.next + 2) (.mem 33 [.row (st.next + 1) 0 1 none] true 0), st.next + 3, []⟩) (N := 12) (ok70 hK) (hK.nx 70 [v] st rfl) rfl (frz70 hK) (by
      rcases hV.ex with ⟨k0, rfl⟩ | ⟨A, rfl, hA, hAn⟩
      · simp only [RS, RT, RZ, tsc0, tz0, nq0, bs0, bn0, reduceLT, reduceLeDiff, reduceEqDiff, reduceMul, reduceAdd, reduceSub, reduceCtorEq, if_false, mkd_c, mb_t, mb_n, true_or, or_true, runX_buildM, flat_cons, flat_nil, cells_row, any_row, ic_row, Nat.lt_add_one, x70, F70, List.map_cons, List.map_nil, LV.av, LV.cells, v1, c1, n1, one_c hK]
        exact ⟨_, rfl, below_row1 (by omega), rfl⟩
      · simp only [flatL, List.flatMap_cons, List.flatMap_nil, LV.cells, List.cons_append, List.nil_append] at hA
        simp only [RS, RT, RZ, tsc0, tz0, nq0, bs0, bn0, reduceLT, reduceLeDiff, reduceEqDiff, reduceMul, reduceAdd, reduceSub, reduceCtorEq, if_false, mkd_c, mb_t, mb_n, true_or, or_true, runX_buildM, flat_cons, flat_nil, cells_row, any_row, ic_row, Nat.lt_add_one, x70, F70, idxX_row, Nat.zero_add, Nat.zero_mul, Nat.one_mul, hA, List.getElem?_cons_succ, List.getElem?_cons_zero, v1, c1, n1, one_c hK]
        exact ⟨_, rfl, below_row1 (by omega), rfl⟩)
    simp only [List.filter_nil, List.nil_append] at q1
    refine ⟨_, _, q1, ⟨⟨st.next + 2, [.row (st.next + 1) 0 1 none], true, rfl, upd_same .., by omega, by simp only; omega, by simp, by simp, fun c hc => ?_⟩, fun q hq => ?_, by simp only; omega, fun q hq => .inl hq⟩, fun _ => ⟨_, rfl⟩⟩
    · rw [List.mem_singleton] at hc
      subst hc
      exact ⟨[⟨true, 0, .nil, []⟩], rowB_new (A := st.next + 1) (lv := [⟨true, 0, .nil, []⟩]) (by simp only; rw [upd_ne _ _ (by omega), upd_same]; rfl) (by omega) (by simp only; omega) (by simp) (by simp), [], .nil, rfl, by rw [h1], fun p q x y _ _ hx _ => by simp at hx⟩
    · simp only
      rw [upd_ne _ _ (by omega), upd_ne _ _ (by omega), upd_ne _ _ (by omega)]
  · obtain ⟨⟨fu, hg⟩, lo, hi, old⟩ := hN
    simp only at lo old
    have hLl := hP.length_eq
    have n1 := nums_row hK (g := g) (l := L) (st := ⟨h', nx', []⟩) hi hg
    simp only at n1
    obtain ⟨w, st1, q1, rfl, rfl⟩ := row_end (R := fun w st1 => w = .row (nx' + 2) 0 1 none ∧ st1 = ⟨upd (upd (upd (upd (upd h' nx' (.mem 24 [.bool false, .int .i64 0, .slice .nil []] true 0)) nx' (.mem 24 [.bool true, .int .i64 0, .row g 0 L.length none] true 0)) g .dead) (nx' + 1) (.mem 24 [.bool true, .int .i64 0, .slice .open_ (intsA L)] true 0)) (nx' + 2) (.mem 33 [.row (nx' + 1) 0 1 none] true 0), nx' + 3, [g]⟩) (N := 12) (ok70 hK) (hK.nx 70 [v] st rfl) rfl (frz70 hK) (by
      rcases hV.ex with ⟨k0, rfl⟩ | ⟨A, rfl, hA, hAn⟩
      · simp only [RS, RT, RZ, tsc0, tz0, nq0, bs0, bn0, reduceLT, reduceLeDiff, reduceEqDiff, reduceMul, reduceAdd, reduceSub, reduceCtorEq, if_false, mkd_c, mb_t, mb_n, true_or, or_true, runX_buildM, flat_cons, flat_nil, cells_row, any_row, ic_row, Nat.lt_add_one, x70, F70, List.map_cons, List.map_nil, LV.av, LV.cells, v1, c1, n1, one_c hK]
        exact ⟨_, rfl, below_row1 (by omega), rfl⟩
      · simp only [flatL, List.flatMap_cons, List.flatMap_nil, LV.cells, List.cons_append, List.nil_append] at hA
        simp only [RS, RT, RZ, tsc0, tz0, nq0, bs0, bn0, reduceLT, reduceLeDiff, reduceEqDiff, reduceMul, reduceAdd, reduceSub, reduceCtorEq, if_false, mkd_c, mb_t, mb_n, true_or, or_true, runX_buildM, flat_cons, flat_nil, cells_row, any_row, ic_row, Nat.lt_add_one, x70, F70, idxX_row, Nat.zero_add, Nat.zero_mul, Nat.one_mul, hA, List.getElem?_cons_succ, List.getElem?_cons_zero, v1, c1, n1, one_c hK]
        exact ⟨_, rfl, below_row1 (by omega), rfl⟩)
    simp only at q1
    rw [filt_nil (lg := [g]) (fun l hl => by rw [List.mem_singleton] at hl; omega), List.nil_append] at q1
    refine ⟨_, _, q1, ⟨⟨nx' + 2, [.row (nx' + 1) 0 1 none], true, rfl, upd_same .., by omega, by simp only; omega, by simp, by simp, fun c hc => ?_⟩, fun q hq => ?_, by simp only; omega, fun q hq => .inl hq⟩, fun _ => ⟨_, rfl⟩⟩
    · rw [List.mem_singleton] at hc
      subst hc
      exact ⟨[⟨true, 0, .open_, L⟩], rowB_new (A := nx' + 1) (lv := [⟨true, 0, .open_, L⟩]) (by simp only; rw [upd_ne _ _ (by omega), upd_same]; rfl) (by omega) (by simp only; omega) (by simp) (by simp; omega), L, .open_, rfl, hP, hO⟩
    · simp only
      rw [upd_ne _ _ (by omega), upd_ne _ _ (by omega), upd_ne _ _ (by omega), upd_ne _ _ (by omega), upd_ne _ _ (by omega), old q (by omega), upd_ne _ _ (by omega)]
end
end Go.Proofs.P31

namespace Go.Proofs.P31
open Go Go.AE
open Nat (reduceLT reduceLeDiff reduceEqDiff reduceMul reduceAdd reduceSub)
set_option maxHeartbeats 8000000
section
variable {Q : Ctx} (hK : K Q)
include hK
theorem orders_c {k : SK} {l : List AV} {st : St} : callW Q (.fn 67) [.slice k l] .normal st = some (.ret (.func (.func 93) [] [.ptr st.next 0]), ⟨upd st.heap st.next (.mem 22 [.slice k l] true 0), st.next + 1, st.log⟩, none) := by
  obtain ⟨v, st3, h1, rfl, rfl⟩ := frz_end (R := fun v st3 => v = .func (.func 93) [] [.ptr st.next 0] ∧ st3 = ⟨upd st.heap st.next (.mem 22 [.slice k l] true 0), st.next + 1, []⟩) (N := 4) (ok67 hK) (hK.nx 67 [.slice k l] st rfl) rfl (hK.frz_ (by kernel_rfl)) (by
    simp only [RS, RT, RZ, tsc0, tz0, nq0, bs0, bn0, reduceLT, reduceLeDiff, reduceEqDiff, reduceMul, reduceAdd, reduceSub, reduceCtorEq, x67, F67]
    exact ⟨_, rfl, _, _, rfl, rfl, rfl⟩)
  rw [h1, leave_row (by simp [belowA.belowL, belowA])]
  rfl
theorem clip_c {k : SK} {l : List Int} : Ret Q 95 [.slice k (intsA l)] (.slice (k.lim true) (intsA l)) := fun st => by
  have s1 : ∀ st, sliceA Q st 22 (.slice k (intsA l)) none (some l.length) (some l.length) = some (.slice (k.lim true) (intsA l)) := fun st => by
    have t := tw22 hK
    unfold T22 at t
    have t3 := tw3 hK
    unfold T3 at t3
    simp only [sliceA, t, Option.isNone_some, Bool.false_and, Bool.false_eq_true, if_false, sizeIs, t3, Option.map_some]
    rw [if_pos (ints_sizedH l)]
    simp only [sliceC, Option.getD_some, Option.getD_none, intsA_len]
    rw [if_pos ⟨Nat.zero_le _, Nat.le_refl _⟩, if_pos ⟨Nat.le_refl _, Nat.le_refl _⟩]
    simp only [beq_self_eq_true, List.drop_zero, Nat.sub_zero]
    rw [List.take_of_length_le (by rw [intsA_len]; exact Nat.le_refl _)]
  refine callY (N := 9) (ok95 hK) (hK.nx _ _ _ rfl) rfl (by cases k <;> simp [CleanV, SK.lim, belowA, belL_ints]) ?_
  simp only [RS, RT, RZ, tsc0, tz0, nq0, bs0, bn0, reduceLT, reduceLeDiff, reduceEqDiff, reduceMul, reduceAdd, reduceSub, reduceCtorEq, x95, F95, intsA_len, gA_slice, sliceK3_some, boundA_none, boundA_some, s1]
theorem slr {h : Nat → AO} {nx : Nat} {lg : List Nat} {g off len : Nat} {cs : List AV} {fu : Bool} {lo hi : Option Nat} {mx : Option Nat} (hp : h g = .mem 3 cs fu 0) (hm : (hi.isNone && mx.isSome) = false) : sliceA Q ⟨h, nx, lg⟩ 22 (.row g off len none) lo hi mx = sliceR g off len none 1 cs.length lo hi mx := by
  have t := tw22 hK
  unfold T22 at t
  have t3 := tw3 hK
  unfold T3 at t3
  simp only [sliceA, t, hm, Bool.false_eq_true, if_false, sizeIs, t3, Option.map_some, hp]
  rw [if_pos ⟨trivial, by decide⟩]
end
theorem rowElems_off {st : St} {ei : TI} {l off k : Nat} {cs : List AV} {e : TypeId} {fu : Bool} {fz : Nat} (h1 : ei.isAgg = false) (h2 : ei.size = 1) (hp : st.heap l = .mem e cs fu fz) (hk : off + k ≤ cs.length) (hn : ∀ c ∈ cs, c.noAgg = true) : rowElems st ei l off k = some ((cs.drop off).take k) := by
  have e2 : ((cs.drop off).take k).length = k := by simp; omega
  simp only [rowElems, rowCells, hp]
  rw [h2, Nat.mul_one, if_pos e2]
  simp only [h1, Bool.false_or, beq_self_eq_true, Bool.true_and]
  rw [if_pos (List.all_eq_true.2 fun c hc => hn c (List.mem_of_mem_drop (List.mem_of_mem_take hc))), chunk_cells h1 h2 k _ (by rw [e2]; exact Nat.le_refl _), List.take_take, Nat.min_self]
theorem rowE3 {h : Nat → AO} {nx : Nat} {lg : List Nat} {g off n : Nat} {A L tl : List Int} {fu : Bool} {lim : Option Nat} (hp : h g = .mem 3 (intsA (A ++ L ++ tl)) fu 0) (ho : off = A.length) (hn : n = L.length) : elemsOf ⟨h, nx, lg⟩ T3 (.row g off n lim) = some (intsA L) := by
  subst ho hn
  show rowElems ⟨h, nx, lg⟩ T3 g A.length L.length = _
  rw [rowElems_off (ei := T3) rfl rfl hp (by rw [intsA_len]; simp only [List.length_append]; omega) (ints_noAgg _)]
  simp only [intsA, List.map_append]
  rw [List.append_assoc, List.drop_left' (by simp), List.take_left' (by simp)]
section
variable {Q : Ctx} (hK : K Q)
include hK
theorem clone_row {g : Nat} {L tl : List Int} {fu : Bool} {st : St} (hp : st.heap g = .mem 3 (intsA (L ++ tl)) fu 0) (hg : g < st.next) (hl : L ≠ []) (hl2 : L.length < 1000) :
    ∃ g' h' nx', callW Q (.fn 62) [.row g 0 L.length none] .normal st = some (.ret (.row g' 0 L.length none), ⟨h', nx', st.log⟩, none) ∧ (h' g' = .mem 3 (intsA L) false 0 ∧ st.next ≤ g' ∧ g' < nx' ∧ ∀ q, q < st.next → h' q = st.heap q) := by
  have en : ∀ xo yo, binA Q .eql 22 xo yo (.row g 0 L.length none) (ofV (.slice none 0 0)) = some (.bool false) := fun xo yo => by
    show binA Q .eql 22 xo yo (.row g 0 L.length none) (.slice .nil []) = _
    have t := tw22 hK
    unfold T22 at t
    simp [binA, eqV, t, boolA]
  have eE : ∀ o, elemsOf ⟨upd st.heap st.next o, st.next + 1, []⟩ T3 (.row g 0 L.length none) = some (intsA L) := fun o => rowE3 (A := []) (tl := tl) (fu := fu) (by rw [upd_ne _ _ (by omega)]; simpa using hp) rfl rfl
  obtain ⟨v, st1, h1, rfl, rfl⟩ := row_end (R := fun v st1 => v = .row (st.next + 1) 0 L.length none ∧ st1 = ⟨upd (upd st.heap st.next (.mem 3 [] true 0)) (st.next + 1) (.mem 3 (intsA L) false 0), st.next + 2, []⟩) (N := 8) (ok62 hK) (hK.nx 62 [.row g 0 L.length none] st rfl) rfl (frz62 hK) (by
    have ea := app_new (A := st.next) (h := upd st.heap st.next (.mem 3 [] true 0)) (nx := st.next + 1) (lg := []) (l := L) (upd_same ..) hl (by omega)
    simp only [RS, RT, RZ, tsc0, tz0, nq0, bs0, bn0, reduceLT, reduceLeDiff, reduceEqDiff, reduceMul, reduceAdd, reduceSub, reduceCtorEq, if_false, mkd_c, mb_t, mb_n, true_or, or_true, runX_buildM, flat_cons, flat_nil, cells_row, any_row, ic_row, Nat.lt_add_one, x62, F62, gA_bin, en, eE, ea]
    exact ⟨_, rfl, below_row1 (Nat.le_succ _), rfl⟩)
  exact ⟨_, _, _, h1, upd_same .., Nat.le_succ _, by simp only; omega, fun q hq => by simp only; rw [upd_ne _ _ (by omega), upd_ne _ _ (by omega)]⟩
theorem clone_sl {k : SK} {L : List Int} {st : St} (hk : SK.isNil k = false) (hl : L ≠ []) (hl2 : L.length < 1000) :
    ∃ g' h' nx', callW Q (.fn 62) [.slice k (intsA L)] .normal st = some (.ret (.row g' 0 L.length none), ⟨h', nx', st.log⟩, none) ∧ (h' g' = .mem 3 (intsA L) false 0 ∧ st.next ≤ g' ∧ g' < nx' ∧ ∀ q, q < st.next → h' q = st.heap q) := by
  obtain ⟨v, st1, h1, rfl, rfl⟩ := row_end (R := fun v st1 => v = .row (st.next + 1) 0 L.length none ∧ st1 = ⟨upd (upd st.heap st.next (.mem 3 [] true 0)) (st.next + 1) (.mem 3 (intsA L) false 0), st.next + 2, []⟩) (N := 8) (ok62 hK) (hK.nx 62 [.slice k (intsA L)] st rfl) rfl (frz62 hK) (by
    have ea := app_new (A := st.next) (h := upd st.heap st.next (.mem 3 [] true 0)) (nx := st.next + 1) (lg := []) (l := L) (upd_same ..) hl (by omega)
    simp only [RS, RT, RZ, tsc0, tz0, nq0, bs0, bn0, reduceLT, reduceLeDiff, reduceEqDiff, reduceMul, reduceAdd, reduceSub, reduceCtorEq, if_false, mkd_c, mb_t, mb_n, true_or, or_true, runX_buildM, flat_cons, flat_nil, cells_row, any_row, ic_row, Nat.lt_add_one, x62, F62, gA_bin, eqnil hK, hk, ea]
    exact ⟨_, rfl, below_row1 (Nat.le_succ _), rfl⟩)
  exact ⟨_, _, _, h1, upd_same .., Nat.le_succ _, by simp only; omega, fun q hq => by simp only; rw [upd_ne _ _ (by omega), upd_ne _ _ (by omega)]⟩
omit hK in
theorem eraseIdx_split (L : List Int) (i : Nat) : L.eraseIdx i = L.take i ++ L.drop (i + 1) := List.eraseIdx_eq_take_drop_succ L i
omit hK in
theorem del_cells {L : List Int} {i : Nat} (hi : i < L.length) : splice (L.length - 1) [AV.int .i64 0] (splice i (intsA (L.drop (i + 1))) (intsA L)) = intsA (L.eraseIdx i ++ [0]) := by
  have h1 : splice i (intsA (L.drop (i + 1))) (intsA L) = intsA (L.take i ++ L.drop (i + 1) ++ L.drop (L.length - 1)) := by
    simp only [splice, intsA_len, List.length_drop]
    rw [show i + (L.length - (i + 1)) = L.length - 1 by omega]
    simp only [intsA, List.map_append, List.map_take, List.map_drop]
  rw [h1, eraseIdx_split]
  have h2 : (intsA (L.take i ++ L.drop (i + 1))).length = L.length - 1 := by rw [intsA_len]; simp; omega
  have h3 : (intsA (L.drop (L.length - 1))).length = 1 := by rw [intsA_len]; simp; omega
  rw [show intsA (L.take i ++ L.drop (i + 1) ++ L.drop (L.length - 1)) = intsA (L.take i ++ L.drop (i + 1)) ++ intsA (L.drop (L.length - 1)) by simp [intsA]]
  rw [show intsA (L.take i ++ L.drop (i + 1) ++ [0]) = intsA (L.take i ++ L.drop (i + 1)) ++ [AV.int .i64 0] by simp [intsA]]
  simp only [splice]
  have h4 : (intsA (L.take i ++ L.drop (i + 1)) ++ intsA (L.drop (L.length - 1))).drop (L.length - 1 + [AV.int .i64 0].length) = [] := List.drop_of_length_le (by rw [List.length_append, h2, h3]; exact Nat.le_refl _)
  rw [List.take_left' h2, h4, List.append_nil]
omit hK in
theorem capp_ne {g m nx : Nat} {h : Nat → AO} {lg : List Nat} {cs : List AV} {L : List Int} (hL : L ≠ []) (hp : h g = .mem 3 cs false 0) (hm : m + L.length ≤ cs.length) (hl : cs.length < 1000) :
    appendA true ⟨h, nx, lg⟩ 3 T3 (.row g 0 m none) (intsA L) = some (.row g 0 (m + L.length) none, ⟨upd h g (.mem 3 (splice m (intsA L) cs) false 0), nx, g :: lg⟩) := by
  cases L with
  | nil => exact absurd rfl hL
  | cons x xs =>
    have e1 : sized T3.size (intsA (x :: xs)) = true := ints_sized _
    have e2 : (flat (intsA (x :: xs))).all AV.isCell = true := by rw [ints_flat]; exact ints_cell _
    have e3 : roomy (m + (intsA (x :: xs)).length) T3.bytes = true := by
      rw [intsA_len]
      show (decide ((m + (x :: xs).length) * 8 ≤ 1099511627776) && decide (8 ≤ 1048576) && decide (m + (x :: xs).length ≤ 1099511627776)) = true
      rw [decide_eq_true (by omega), decide_eq_true (by omega)]; rfl
    have e6 : appendA true ⟨h, nx, lg⟩ 3 T3 (.row g 0 m none) (intsA (x :: xs)) = appendRow true ⟨h, nx, lg⟩ 3 T3 g 0 m none (intsA (x :: xs)) := by
      show appendA true ⟨h, nx, lg⟩ 3 T3 (.row g 0 m none) (.int .i64 x :: intsA xs) = _
      simp only [appendA]
      rw [if_pos ⟨e1, by decide, e2⟩]
      exact if_pos e3
    rw [e6]
    have e7 : 0 + (m + (intsA (x :: xs)).length) * T3.size ≤ cs.length := by rw [intsA_len]; show 0 + (m + (x :: xs).length) * 1 ≤ _; omega
    have e8 : 0 + m * T3.size = m := by show 0 + m * 1 = m; omega
    simp only [appendRow, hp]
    rw [if_neg (by decide), if_pos (by rfl), if_pos e7, e8, ints_flat]
    rw [sto_pos (eq_true (by rw [intsA_len]; simp)), show (⟨h, nx, lg⟩ : St).heap g = _ from hp, stO_mem (by rw [intsA_len]; omega) (Nat.zero_le _) (ints_cell _)]
    simp only [Option.map_some, intsA_len]
    rfl
theorem clr3 {h : Nat → AO} {nx : Nat} {lg : List Nat} {g m : Nat} {cs : List AV} (hp : h g = .mem 3 cs false 0) (hm : m + 1 ≤ cs.length) : builtinClear Q ⟨h, nx, lg⟩ 22 (.row g m 1 none) = some (undefA, ⟨upd h g (.mem 3 (splice m [AV.int .i64 0] cs) false 0), nx, g :: lg⟩) := by
  have tw := tw22 hK
  unfold T22 at tw
  rw [clear_row tw (tw3 hK)]
  show (sto ⟨h, nx, lg⟩ g m [AV.int .i64 0]).map _ = _
  rw [sto_pos (eq_true (by simp)), show (⟨h, nx, lg⟩ : St).heap g = _ from hp, stO_mem (by simpa using hm) (Nat.zero_le _) rfl]
  rfl
theorem sl31 {h : Nat → AO} {nx : Nat} {lg : List Nat} {g n m : Nat} {cs : List AV} (hp : h g = .mem 3 cs false 0) (hn : cs.length = n) (hm : m + 1 = n) : sliceA Q ⟨h, nx, lg⟩ 22 (.row g 0 m none) (some m) (some n) none = some (.row g m 1 none) := by
  rw [slr hK hp rfl]
  simp only [sliceR, Option.getD_some, limOk]
  rw [if_pos ⟨by omega, by omega, trivial⟩]
  have : n - m = 1 := by omega
  simp [this]
theorem delete_c {g i : Nat} {L : List Int} {st : St} (hp : st.heap g = .mem 3 (intsA L) false 0) (hg : g < st.next) (hi : i < L.length) (hl : L.length < 100) :
    ∃ h' lg', callW Q (.fn 96) [.row g 0 L.length none, .int .i64 (i : Int), .int .i64 ((i + 1 : Nat) : Int)] .normal st = some (.ret (.row g 0 (L.length - 1) none), ⟨h', st.next, lg' ++ st.log⟩, none) ∧ h' g = .mem 3 (intsA (L.eraseIdx i ++ [0])) false 0 ∧ (∀ q, q ≠ g → h' q = st.heap q) ∧ (lg' = [g] ∨ lg' = [g, g]) := by
  have s1 : ∀ lg, sliceA Q ⟨st.heap, st.next, lg⟩ 22 (.row g 0 L.length none) (some i) (some (i + 1)) (some L.length) = some (.row g i 1 (some (L.length - i))) := fun lg => by
    rw [slr hK hp rfl]
    simp only [sliceR, Option.getD_some, limOk, intsA_len]
    rw [if_pos ⟨by omega, by omega, trivial⟩, if_pos ⟨by omega, by omega, trivial⟩]
    simp
  have s2 : ∀ lg, sliceA Q ⟨st.heap, st.next, lg⟩ 22 (.row g 0 L.length none) none (some i) none = some (.row g 0 i none) := fun lg => by
    rw [slr hK hp rfl]
    simp only [sliceR, Option.getD_some, Option.getD_none, limOk, intsA_len]
    rw [if_pos ⟨by omega, by omega, trivial⟩]
    simp
  have s3 : ∀ lg, sliceA Q ⟨st.heap, st.next, lg⟩ 22 (.row g 0 L.length none) (some (i + 1)) none none = some (.row g (i + 1) (L.length - (i + 1)) none) := fun lg => by
    rw [slr hK hp rfl]
    simp only [sliceR, Option.getD_some, Option.getD_none, limOk, intsA_len]
    rw [if_pos ⟨by omega, by omega, trivial⟩]
    simp
  have e3 : ∀ lg, elemsOf ⟨st.heap, st.next, lg⟩ T3 (.row g (i + 1) (L.length - (i + 1)) none) = some (intsA (L.drop (i + 1))) := fun lg => rowE3 (A := L.take (i + 1)) (tl := []) (fu := false) (by rw [List.append_nil, List.take_append_drop]; exact hp) (by simp; omega) (by simp)
  have dg : (st.heap g).isDead = false := by rw [hp]; rfl
  have b1 : (((i : Nat) : Int) == ((i + 1 : Nat) : Int)) = false := by rw [beq_eq_false_iff_ne]; omega
  have tw := tw22 hK
  unfold T22 at tw
  have z3 : flat (List.replicate 1 T3.zeroV) = [AV.int .i64 0] := rfl
  by_cases hlast : i + 1 = L.length
  · have hd : L.drop (i + 1) = [] := List.drop_of_length_le (by omega)
    rw [hd] at e3
    have el : L.length - 1 = i := by omega
    have s4 := fun lg => sl31 hK (h := st.heap) (nx := st.next) (lg := lg) (g := g) (n := L.length) (m := i) hp (intsA_len L) hlast
    have c4 := fun lg => clr3 hK (h := st.heap) (nx := st.next) (lg := lg) (g := g) (m := i) hp (by rw [intsA_len]; omega)
    have dc := del_cells hi
    rw [hd, el] at dc
    have dc' : splice i [AV.int .i64 0] (intsA L) = intsA (L.eraseIdx i ++ [0]) := by
      rw [← dc]
      congr 1
      simp [splice, intsA]
    rw [dc'] at c4
    refine ⟨_, [g], callYr (N := 33) (ok96 hK) (hK.nx _ _ _ rfl) rfl (Post.raw (N := 33) (D := []) (pv := none) (R := fun o => finishFn (callW Q) Q 96 F96 .normal st o.1 o.2.1 o.2.2 = some (.ret (.row g 0 (L.length - 1) none), ⟨upd st.heap g (.mem 3 (intsA (L.eraseIdx i ++ [0])) false 0), st.next, [g] ++ st.log⟩, none)) (Q := fun e T st1 => e = .ret ∧ T 6 = .row g 0 (L.length - 1) none ∧ st1 = ⟨upd st.heap g (.mem 3 (intsA (L.eraseIdx i ++ [0])) false 0), st.next, [g]⟩) ?_ ?_), upd_same .., fun q hq => upd_ne _ _ hq, .inl rfl⟩
    · simp only [RS, RT, RZ, tsc0, tz0, nq0, bs0, bn0, reduceLT, reduceLeDiff, reduceEqDiff, reduceMul, reduceAdd, reduceSub, reduceCtorEq, if_false, mkd_c, mb_t, mb_n, true_or, or_true, runX_buildM, flat_cons, flat_nil, cells_row, any_row, ic_row, Nat.lt_add_one, x96, kd96_0, gA_slice, gA_clear, sliceK3_some, boundA_none, boundA_some, lenX_row, s1, s2, s3, e3, b1, s4, c4, intsA, List.map_nil, appendA, el]
    · rintro e T st1 ⟨rfl, t6, rfl⟩
      simp only
      rw [finish_ret (N := 33) (v0 := .row g 0 (L.length - 1) none) (v := .row g 0 (L.length - 1) none) (st3 := ⟨upd st.heap g (.mem 3 (intsA (L.eraseIdx i ++ [0])) false 0), st.next, [g]⟩) endOf_ret (by simp only [RS, RT, RZ, tsc0, tz0, nq0, bs0, bn0, reduceLT, reduceLeDiff, reduceEqDiff, reduceMul, reduceAdd, reduceSub, reduceCtorEq, F96, t6]) (by rw [hK.frz_ (show C.frz 96 = false by kernel_rfl)]; rfl)]
      rw [leave_old (g := g) (by simp) hg]
      simp [hg]
  · have hne : L.drop (i + 1) ≠ [] := by
      intro e
      have := congrArg List.length e
      simp at this; omega
    have hld : i + (L.drop (i + 1)).length = L.length - 1 := by simp; omega
    have a4 := fun lg => capp_ne (g := g) (m := i) (nx := st.next) (lg := lg) (h := st.heap) (L := L.drop (i + 1)) hne hp (by rw [hld, intsA_len]; omega) (by rw [intsA_len]; omega)
    rw [hld] at a4
    have hlen : (splice i (intsA (L.drop (i + 1))) (intsA L)).length = L.length := by
      simp only [splice, List.length_append, List.length_take, List.length_drop, intsA_len]; omega
    have s4 := fun lg => sl31 hK (h := upd st.heap g (.mem 3 (splice i (intsA (L.drop (i + 1))) (intsA L)) false 0)) (nx := st.next) (lg := lg) (g := g) (n := L.length) (m := L.length - 1) (upd_same ..) hlen (by omega)
    have c4 := fun lg => clr3 hK (h := upd st.heap g (.mem 3 (splice i (intsA (L.drop (i + 1))) (intsA L)) false 0)) (nx := st.next) (lg := lg) (g := g) (m := L.length - 1) (upd_same ..) (by rw [hlen]; omega)
    rw [del_cells hi] at c4
    refine ⟨_, [g, g], callYr (N := 33) (ok96 hK) (hK.nx _ _ _ rfl) rfl (Post.raw (N := 33) (D := []) (pv := none) (R := fun o => finishFn (callW Q) Q 96 F96 .normal st o.1 o.2.1 o.2.2 = some (.ret (.row g 0 (L.length - 1) none), ⟨upd (upd st.heap g (.mem 3 (splice i (intsA (L.drop (i + 1))) (intsA L)) false 0)) g (.mem 3 (intsA (L.eraseIdx i ++ [0])) false 0), st.next, [g, g] ++ st.log⟩, none)) (Q := fun e T st1 => e = .ret ∧ T 6 = .row g 0 (L.length - 1) none ∧ st1 = ⟨upd (upd st.heap g (.mem 3 (splice i (intsA (L.drop (i + 1))) (intsA L)) false 0)) g (.mem 3 (intsA (L.eraseIdx i ++ [0])) false 0), st.next, [g, g]⟩) ?_ ?_), upd_same .., fun q hq => by rw [upd_ne _ _ hq, upd_ne _ _ hq], .inr rfl⟩
    · simp only [RS, RT, RZ, tsc0, tz0, nq0, bs0, bn0, reduceLT, reduceLeDiff, reduceEqDiff, reduceMul, reduceAdd, reduceSub, reduceCtorEq, if_false, mkd_c, mb_t, mb_n, true_or, or_true, runX_buildM, flat_cons, flat_nil, cells_row, any_row, ic_row, Nat.lt_add_one, x96, kd96_0, gA_slice, gA_clear, sliceK3_some, boundA_none, boundA_some, lenX_row, s1, s2, s3, e3, b1, a4, s4, c4, hg, dg]
    · rintro e T st1 ⟨rfl, t6, rfl⟩
      simp only
      rw [finish_ret (N := 33) (v0 := .row g 0 (L.length - 1) none) (v := .row g 0 (L.length - 1) none) (st3 := ⟨_, st.next, [g, g]⟩) endOf_ret (by simp only [RS, RT, RZ, tsc0, tz0, nq0, bs0, bn0, reduceLT, reduceLeDiff, reduceEqDiff, reduceMul, reduceAdd, reduceSub, reduceCtorEq, F96, t6]) (by rw [hK.frz_ (show C.frz 96 = false by kernel_rfl)]; rfl)]
      rw [leave_old (g := g) (by simp) hg]
      simp [hg]
end
end Go.Proofs.P31

namespace Go.Proofs.P31
open Go Go.AE
open Nat (reduceLT reduceLeDiff reduceEqDiff reduceMul reduceAdd reduceSub)
set_option maxHeartbeats 8000000
abbrev YI' := Nat → (Nat → Prop) → (Nat → AO) → Nat → Prop
structure Yld (Q : Ctx) (Y : Nat) (B : Nat) (Pm : List Int → Prop) (I : YI') : Prop where
  frame : ∀ {m P h nx h' nx'}, I m P h nx → (∀ q, P q → h' q = h q) → nx ≤ nx' → I m P h' nx'
  lt : ∀ {m P h nx q}, I m P h nx → P q → q < nx
  live : ∀ {m P h nx q}, I m P h nx → P q → (h q).isDead = false
  run : ∀ {m P h nx k o}, I m P h nx → m < B → Pm o → ∃ P' h' nx' lg, callW Q (.yield Y) [.slice k (intsA o)] .normal ⟨h, nx, []⟩ = some (.ret (.bool true), ⟨h', nx', lg⟩, none) ∧
    I (m + 1) P' h' nx' ∧ (∀ q, q < nx → ¬ P q → h' q = h q) ∧ (∀ q, P' q → P q ∨ nx ≤ q) ∧ nx ≤ nx' ∧ lg ≠ [] ∧ ∀ q ∈ lg, P q
def LeftV (h : Nat → AO) (nx : Nat) (P : Nat → Prop) (v : AV) (L : List Int) : Prop := (∃ k, v = .slice k (intsA L) ∧ (L ≠ [] → SK.isNil k = false)) ∨ ∃ e tl, v = .row e 0 L.length none ∧ h e = .mem 3 (intsA (L ++ tl)) false 0 ∧ e < nx ∧ ¬ P e
theorem LeftV.lenX {h : Nat → AO} {nx : Nat} {P : Nat → Prop} {v : AV} {L : List Int} (a : LeftV h nx P v L) : lenX v = some (.int .i64 (L.length : Int)) := by
  rcases a with ⟨k, rfl, _⟩ | ⟨e, tl, rfl, _⟩
  · simp [Go.AE.lenX, goI, intsA_len]
  · rfl
theorem LeftV.ld {h : Nat → AO} {nx : Nat} {lg : List Nat} {P : Nat → Prop} {v : AV} {L : List Int} (a : LeftV h nx P v L) {i : Nat} (hi : i < L.length) : ∃ p, idxX 1 v i = some p ∧ ldX ⟨h, nx, lg⟩ false 1 p = some (.int .i64 L[i]) := by
  rcases a with ⟨k, rfl, _⟩ | ⟨e, tl, rfl, he, _⟩
  · refine ⟨.cptr [.int .i64 L[i]], ?_, rfl⟩
    simp only [idxX, intsA_at, List.getElem?_eq_getElem hi, Option.map_some]
    rfl
  · refine ⟨.ptr e i, by rw [idxX_row (eq_true hi), Nat.zero_add, Nat.mul_one], ?_⟩
    rw [ldX_ptr]; simp only [he, ldO_mem]
    have : (intsA (L ++ tl))[i]? = some (.int .i64 L[i]) := by rw [intsA_at, List.getElem?_append_left hi, List.getElem?_eq_getElem hi]; rfl
    have h2 : ((intsA (L ++ tl)).drop i).head? = some (.int .i64 L[i]) := by rw [List.head?_drop, this]
    obtain ⟨x, xs, hx⟩ : ∃ x xs, (intsA (L ++ tl)).drop i = x :: xs := by
      cases hd : (intsA (L ++ tl)).drop i with
      | nil => rw [hd] at h2; cases h2
      | cons x xs => exact ⟨_, _, rfl⟩
    rw [hx] at h2 ⊢
    cases h2
    rfl
theorem appC {k : SK} (hk : k = .nil ∨ k = .exact) {h : Nat → AO} {nx : Nat} {lg : List Nat} {ch : List Int} {x : Int} (hl : ch.length < 1000) : appendA false ⟨h, nx, lg⟩ 3 T3 (.slice k (intsA ch)) [.int .i64 x] = some (.slice (.tok nx 1) (intsA (ch ++ [x])), ⟨upd h nx .tok, nx + 1, lg⟩) := by
  have e3 : roomy ((intsA ch).length + [AV.int .i64 x].length) T3.bytes = true := by
    rw [intsA_len]
    show (decide ((ch.length + 1) * 8 ≤ 1099511627776) && decide (8 ≤ 1048576) && decide (ch.length + 1 ≤ 1099511627776)) = true
    rw [decide_eq_true (by omega), decide_eq_true (by omega)]; rfl
  have e4 : sizedH T3.size (intsA ch) = true := ints_sizedH ch
  simp only [appendA]
  rw [if_pos ⟨rfl, by decide, rfl⟩, if_pos ⟨e4, e3⟩]
  rcases hk with rfl | rfl <;> simp [appendSl, fresh, intsA, T3, St.push]
theorem allLive_of {n0 n : Nat} {h : Nat → AO} : ∀ {ls : List Nat}, (∀ q ∈ ls, q < n ∧ (h q).isDead = false) → allLive n0 n h ls
  | [], _ => trivial
  | x :: ls, hh => ⟨hh x (by simp), allLive_of fun q hq => hh q (by simp [hq])⟩
theorem allMade_of {n0 : Nat} {b : List Bool} {ws : List (Nat × Nat)} : ∀ {ls : List Nat}, (∀ q ∈ ls, q < n0 ∨ madeBy q b ws) → allMade n0 b ws ls
  | [], _ => trivial
  | x :: ls, hh => ⟨hh x (by simp), allMade_of fun q hq => hh q (by simp [hq])⟩
theorem cons_erase {L : List Int} {i : Nat} (hi : i < L.length) : (L[i] :: L.eraseIdx i).Perm L := by
  rw [eraseIdx_split]
  refine List.perm_middle.symm.trans (.of_eq ?_)
  rw [← List.drop_eq_getElem_cons hi, List.take_append_drop]
theorem lim_ne {k : SK} : k.lim true = .nil ∨ k.lim true = .exact := by cases k <;> simp [SK.lim]
section
variable {Q : Ctx} (hK : K Q)
include hK
theorem clone_left {h : Nat → AO} {nx : Nat} {P : Nat → Prop} {v : AV} {L : List Int} (a : LeftV h nx P v L) (hl : L ≠ []) (hl2 : L.length < 1000) : ∃ g' h' nx', callW Q (.fn 62) [v] .normal ⟨h, nx, []⟩ = some (.ret (.row g' 0 L.length none), ⟨h', nx', []⟩, none) ∧ (h' g' = .mem 3 (intsA L) false 0 ∧ nx ≤ g' ∧ g' < nx' ∧ ∀ q, q < nx → h' q = h q) := by
  rcases a with ⟨k, rfl, hk⟩ | ⟨e, tl, rfl, he, hlt, _⟩
  · exact clone_sl hK (st := ⟨h, nx, []⟩) (hk hl) hl hl2
  · exact clone_row hK (st := ⟨h, nx, []⟩) he hlt hl hl2
end
structure WkI (I : YI') (m0 f : Nat) (P0 : Nat → Prop) (h0 : Nat → AO) (nx0 : Nat) (i : Nat) (st : St) : Prop where
  ex : ∃ P, I (m0 + i * f) P st.heap st.next ∧ ∀ q, P q → P0 q ∨ nx0 ≤ q
  old : ∀ q, q < nx0 → ¬ P0 q → st.heap q = h0 q
  nx : nx0 ≤ st.next
  log : ∀ q ∈ st.log, P0 q ∨ nx0 ≤ q
  ne : 0 < i → ∃ q ∈ st.log, P0 q
  z : i = 0 → st.next = nx0
section
variable {Q : Ctx} (hK : K Q)
include hK
def WalkC (Q : Ctx) (Y B : Nat) (Pm : List Int → Prop) (I : YI') (y w f n : Nat) : Prop := ∀ (L ch : List Int) (m : Nat) (P : Nat → Prop) (h : Nat → AO) (nx : Nat) (ck : SK) (lv : AV), L.length = n → I m P h nx → LeftV h nx P lv L → h y = .mem 74 [.func (.yield Y) [] []] true 0 → h w = .mem 34 [.func (.func 94) [] [.ptr y 0, .ptr w 0]] true 0 → ¬ P y → ¬ P w → y < nx → w < nx →
  (∀ o : List Int, o.Perm (ch ++ L) → Pm o) → m + f ≤ B → ch.length + n < 100 → ∃ P' h' nx' lg, (∀ lg0, callW Q (.fn 94) [.slice ck (intsA ch), lv, .ptr y 0, .ptr w 0] .normal ⟨h, nx, lg0⟩ = some (.ret (.bool true), ⟨h', nx', lg ++ lg0⟩, none)) ∧
    I (m + f) P' h' nx' ∧ (∀ q, q < nx → ¬ P q → h' q = h q) ∧ (∀ q, P' q → P q ∨ nx ≤ q) ∧ nx ≤ nx' ∧ lg ≠ [] ∧ ∀ q ∈ lg, P q
theorem walk_0 {Y B : Nat} {Pm : List Int → Prop} {I : YI'} (hY : Yld Q Y B Pm I) {y w : Nat} : WalkC Q Y B Pm I y w 1 0 := by
  intro L ch m P h nx ck lv hL hI hV hy hw hPy hPw hyn hwn hPm hm hn
  obtain rfl : L = [] := List.eq_nil_of_length_eq_zero hL
  have el := hV.lenX
  obtain ⟨P', h', nx', lg, c1, c2, c3, c4, c5, c6, c7⟩ := hY.run (k := ck) hI (by omega) (hPm ch (by simp))
  obtain ⟨q0, lg', rfl⟩ : ∃ a b, lg = a :: b := by cases lg with | nil => exact absurd rfl c6 | cons a b => exact ⟨_, _, rfl⟩
  have hq0 := hY.lt hI (c7 q0 (by simp))
  refine ⟨P', h', nx', q0 :: lg', fun lg0 => callYr (N := 37) (ok94 hK) (hK.nx _ _ _ rfl) rfl (Post.raw (N := 37) (D := []) (pv := none) (R := fun o => finishFn (callW Q) Q 94 F94 .normal ⟨h, nx, lg0⟩ o.1 o.2.1 o.2.2 = some (.ret (.bool true), ⟨h', nx', q0 :: lg' ++ lg0⟩, none)) (Q := fun e T st1 => e = .ret ∧ T 6 = .bool true ∧ st1 = ⟨h', nx', q0 :: lg'⟩) ?_ ?_), c2, c3, c4, c5, c6, c7⟩
  · simp only [RS, RT, RZ, tsc0, tz0, nq0, bs0, bn0, reduceLT, reduceLeDiff, reduceEqDiff, reduceMul, reduceAdd, reduceSub, reduceCtorEq, x94, kd94_0, el, hy, c1, List.length_nil]
  · rintro e T st1 ⟨rfl, t6, rfl⟩
    simp only
    rw [finish_ret (N := 37) (v0 := .bool true) (v := .bool true) (st3 := ⟨h', nx', q0 :: lg'⟩) endOf_ret (by simp only [RS, RT, RZ, tsc0, tz0, nq0, bs0, bn0, reduceLT, reduceLeDiff, reduceEqDiff, reduceMul, reduceAdd, reduceSub, reduceCtorEq, F94, t6]) (frz_noRow rfl fun _ => rfl)]
    rw [leave_old (g := q0) (by simp) hq0]
    have : (q0 :: lg').filter (fun x => decide (x < nx)) = q0 :: lg' := List.filter_eq_self.2 fun a ha => decide_eq_true (hY.lt hI (c7 a ha))
    simp only [this]
omit hK in
theorem LeftV.mono {h h' : Nat → AO} {nx nx' : Nat} {P P' : Nat → Prop} {v : AV} {L : List Int} (a : LeftV h nx P v L) (hh : ∀ q, q < nx → ¬ P q → h' q = h q) (hP : ∀ q, P' q → P q ∨ nx ≤ q) (hn : nx ≤ nx') : LeftV h' nx' P' v L := by
  rcases a with a | ⟨e, tl, rfl, h1, h2, h3⟩
  · exact .inl a
  · exact .inr ⟨e, tl, rfl, by rw [hh e h2 h3]; exact h1, by omega, fun h => by
      rcases hP e h with h | h
      · exact h3 h
      · omega⟩
theorem walk_round {Y B : Nat} {Pm : List Int → Prop} {I : YI'} (hY : Yld Q Y B Pm I) {y w f n : Nat} (hW : WalkC Q Y B Pm I y w f n) {L ch : List Int} {m : Nat} {P0 : Nat → Prop} {h0 : Nat → AO} {nx0 : Nat} {ck : SK} {lv : AV} (hL : L.length = n + 1) (hV : LeftV h0 nx0 P0 lv L) (hy : h0 y = .mem 74 [.func (.yield Y) [] []] true 0) (hw : h0 w = .mem 34 [.func (.func 94) [] [.ptr y 0, .ptr w 0]] true 0) (hPy : ¬ P0 y) (hPw : ¬ P0 w) (hyn : y < nx0) (hwn : w < nx0)
    (hPm : ∀ o : List Int, o.Perm (ch ++ L) → Pm o) (hm : m + (n + 1) * f ≤ B) (hn : ch.length + (n + 1) < 100) :
    ∀ (j : Nat) T st, (∃ i : Nat, T 0 = .slice ck (intsA ch) ∧ T 1 = lv ∧ T 2 = .ptr y 0 ∧ T 3 = .ptr w 0 ∧ T 15 = lv ∧ T 16 = .int .i64 (L.length : Int) ∧ T 17 = .int .i64 (i : Int) ∧ i + j = n + 2 ∧ i ≤ n + 1 ∧ WkI I m f P0 h0 nx0 i st) →
      Post 37 [] none (execY (callW Q) Q false 94 none (.loop l94_0) ⟨T, 37, [], none⟩ st) fun e T' st' => e = .exit 0 ∧ WkI I m f P0 h0 nx0 (n + 1) st' := by
  refine post_loop fun j T st => ?_
  rintro ⟨i, t0, t1, t2, t3, t15, t16, t17, hj, hi, hI⟩
  by_cases hc : i < n + 1
  · obtain ⟨h, nx, lg⟩ := st
    obtain ⟨⟨P, hI1, hP1⟩, old, hnx, log, ne, hz⟩ := hI
    simp only at hI1 old hnx log ne hz
    have hiL : i < L.length := by omega
    have hV2 : LeftV h nx P lv L := hV.mono old hP1 hnx
    obtain ⟨p, p1, p2⟩ := hV2.ld (lg := lg) hiL
    have w1 := wrapN (z := (i : Int) + 1) (n := i + 1) (by omega) (by omega)
    have npw : ¬ P w := fun hh => by rcases hP1 w hh with hh | hh; exact hPw hh; omega
    have npy : ¬ P y := fun hh => by rcases hP1 y hh with hh | hh; exact hPy hh; omega
    have hw1 : h w = .mem 34 [.func (.func 94) [] [.ptr y 0, .ptr w 0]] true 0 := by rw [old w hwn hPw]; exact hw
    have hy1 : h y = .mem 74 [.func (.yield Y) [] []] true 0 := by rw [old y hyn hPy]; exact hy
    have c95 := clip_c hK (k := ck) (l := ch)
    have ca := fun lg' => appC (k := ck.lim true) lim_ne (h := h) (nx := nx) (lg := lg') (ch := ch) (x := L[i]) (by omega)
    have hV3 : LeftV (upd h nx .tok) (nx + 1) P lv L := hV2.mono (fun q hq _ => upd_ne _ _ (by omega)) (fun q hq => .inl hq) (by omega)
    obtain ⟨g, h1, nx1, c62, g1, g2, g3, g4⟩ := clone_left hK hV3 (by intro e; subst e; simp at hL) (by omega)
    obtain ⟨h2, lg2, c96, d1, d2, d3⟩ := delete_c hK (g := g) (i := i) (L := L) (st := ⟨h1, nx1, []⟩) g1 g3 hiL (by omega)
    simp only [List.append_nil] at c96 d2
    have hold2 : ∀ q, q < nx → h2 q = h q := fun q hq => by
      rw [d2 q (by omega), g4 q (by omega), upd_ne _ _ (by omega)]
    have hI2 : I (m + i * f) P h2 nx1 := hY.frame hI1 (fun q hq => hold2 q (hY.lt hI1 hq)) (by omega)
    have hml : m + i * f + f ≤ B := by
      have : (i + 1) * f ≤ (n + 1) * f := Nat.mul_le_mul_right _ (by omega)
      rw [Nat.add_mul, Nat.one_mul] at this; omega
    have hmm : (i + 1) * f = i * f + f := by rw [Nat.add_mul, Nat.one_mul]
    have ngP : ¬ P g := fun hh => by have := hY.lt hI1 hh; omega
    obtain ⟨P', h3, nx3, lg3, c94, e1, e2, e3, e4, e5, e6⟩ := hW (L.eraseIdx i) (ch ++ [L[i]]) (m + i * f) P h2 nx1 (.tok nx 1) (.row g 0 (L.length - 1) none) (by rw [List.length_eraseIdx, if_pos hiL]; omega) hI2 (.inr ⟨g, [0], by rw [List.length_eraseIdx, if_pos hiL], d1, g3, ngP⟩)
      (by rw [hold2 y (by omega)]; exact hy1) (by rw [hold2 w (by omega)]; exact hw1) npy npw (by omega) (by omega) (fun o ho => hPm o (ho.trans (by
        rw [List.append_assoc, List.singleton_append]
        exact List.Perm.append_left _ (cons_erase hiL)))) hml (by simp; omega)
    replace c94 := c94 []
    rw [List.append_nil] at c94
    obtain ⟨q0, lg4, rfl⟩ : ∃ a b, lg3 = a :: b := by cases lg3 with | nil => exact absurd rfl e5 | cons a b => exact ⟨_, _, rfl⟩
    have hq0 : q0 < nx := hY.lt hI1 (e6 q0 (by simp))
    have hq1 : q0 < nx1 := by omega
    have hq2 : (h2 q0).isDead = false := by rw [hold2 q0 hq0]; exact hY.live hI1 (e6 q0 (by simp))
    have hlv : allLive nx nx1 h2 lg4 = True := eq_true (allLive_of fun q hq => by
      have hq' := e6 q (by simp [hq])
      have := hY.lt hI1 hq'
      exact ⟨by omega, by rw [hold2 q this]; exact hY.live hI1 hq'⟩)
    have hmd : ∀ b ws, allMade nx b ws lg4 = True := fun b ws => eq_true (allMade_of fun q hq => .inl (hY.lt hI1 (e6 q (by simp [hq]))))
    have gd : (h1 g).isDead = false := by rw [g1]; rfl
    have gw : g ≠ w := by omega
    have gne : (g = w) = False := eq_false gw
    have hfin : ∀ lgx, (∀ q ∈ lgx, q = g) → WkI I m f P0 h0 nx0 (i + 1) ⟨h3, nx3, q0 :: (lg4 ++ (lgx ++ lg))⟩ := fun lgx hx => by
      refine ⟨⟨P', by rw [hmm, ← Nat.add_assoc]; exact e1, fun q hq => ?_⟩, fun q hq hq2 => ?_, by simp only; omega, fun q hq => ?_, fun _ => ?_, fun h => absurd h (by omega)⟩
      · rcases e3 q hq with h | h
        · exact hP1 q h
        · omega
      · have : ¬ P q := fun hh => by
          rcases hP1 q hh with h | h
          · exact hq2 h
          · omega
        simp only
        rw [e2 q (by omega) this, hold2 q (by omega)]
        exact old q hq hq2
      · simp only [List.mem_cons, List.mem_append] at hq
        rcases hq with rfl | hq | hq | hq
        · exact hP1 _ (e6 _ (by simp))
        · exact hP1 _ (e6 _ (by simp [hq]))
        · have := hx q hq; omega
        · exact log q hq
      · by_cases hi0 : i = 0
        · refine ⟨q0, by simp, ?_⟩
          have := hz hi0
          rcases hP1 q0 (e6 _ (by simp)) with h | h
          · exact h
          · omega
        · obtain ⟨q, h1, h2⟩ := ne (by omega)
          exact ⟨q, by simp [h1], h2⟩
    rcases d3 with rfl | rfl
    · simp only [RS, RT, RZ, tsc0, tz0, nq0, bs0, bn0, reduceLT, reduceLeDiff, reduceEqDiff, reduceMul, reduceAdd, reduceSub, reduceCtorEq, if_false, mkd_c, mb_t, mb_n, true_or, or_true, runX_buildM, flat_cons, flat_nil, cells_row, any_row, ic_row, Nat.lt_add_one, l94_0, kd94_0, t0, t1, t2, t3, t15, t16, t17, hiL, p1, p2, hw1, c95, ca, c62, c96, c94, w1, hq0, hq1, hq2, hlv, hmd, gd, gne, g2, g3]
      exact ⟨j - 1, by omega, i + 1, rfl, by omega, by omega, hfin [g] (by simp)⟩
    · simp only [RS, RT, RZ, tsc0, tz0, nq0, bs0, bn0, reduceLT, reduceLeDiff, reduceEqDiff, reduceMul, reduceAdd, reduceSub, reduceCtorEq, if_false, mkd_c, mb_t, mb_n, true_or, or_true, runX_buildM, flat_cons, flat_nil, cells_row, any_row, ic_row, Nat.lt_add_one, l94_0, kd94_0, t0, t1, t2, t3, t15, t16, t17, hiL, p1, p2, hw1, c95, ca, c62, c96, c94, w1, hq0, hq1, hq2, hlv, hmd, gd, gne, g2, g3]
      exact ⟨j - 1, by omega, i + 1, rfl, by omega, by omega, hfin [g, g] (by simp)⟩
  · have : i = n + 1 := by omega
    subst this
    have d1 : ¬ n + 1 < L.length := by omega
    simp only [RS, RT, RZ, tsc0, tz0, nq0, bs0, bn0, reduceLT, reduceLeDiff, reduceEqDiff, reduceMul, reduceAdd, reduceSub, reduceCtorEq, l94_0, kd94_0, t0, t1, t2, t3, t15, t16, t17, d1]
    exact hI
theorem walk_s {Y B : Nat} {Pm : List Int → Prop} {I : YI'} (hY : Yld Q Y B Pm I) {y w f n : Nat} (hW : WalkC Q Y B Pm I y w f n) : WalkC Q Y B Pm I y w ((n + 1) * f) (n + 1) := by
  intro L ch m P h nx ck lv hL hI hV hy hw hPy hPw hyn hwn hPm hm hn
  have el := hV.lenX
  have hl0 : ((L.length : Int) == 0) = false := by rw [beq_eq_false_iff_ne]; omega
  have hB : Post 37 [] none (execY (callW Q) Q false 94 none x94 ⟨argTmps [.slice ck (intsA ch), lv, .ptr y 0, .ptr w 0], 37, [], none⟩ ⟨h, nx, []⟩) fun e T st1 => e = .ret ∧ T 6 = .bool true ∧ WkI I m f P h nx (n + 1) st1 := by
    simp only [RS, RT, RZ, tsc0, tz0, nq0, bs0, bn0, reduceLT, reduceLeDiff, reduceEqDiff, reduceMul, reduceAdd, reduceSub, reduceCtorEq, x94, kd94_0, el, hl0]
    refine post_bind (walk_round hK hY hW (ck := ck) (ch := ch) (m := m) (P0 := P) (h0 := h) (nx0 := nx) hL hV hy hw hPy hPw hyn hwn hPm hm hn (n + 2) _ _ ⟨0, ?_, ?_, ?_, ?_, ?_, ?_, ?_, by omega, by omega, ⟨⟨P, by rw [Nat.zero_mul]; exact hI, fun q hq => .inl hq⟩, fun _ _ _ => rfl, Nat.le_refl _, (fun q hq => nomatch hq), fun h => absurd h (by omega), fun _ => rfl⟩⟩) ?_
    all_goals try (simp only [RS, RT, RZ, tsc0, tz0, nq0, bs0, bn0, reduceLT, reduceLeDiff, reduceEqDiff, reduceMul, reduceAdd, reduceSub, reduceCtorEq, cast_0]; done)
    rintro e T st1 ⟨rfl, hI2⟩
    obtain ⟨h1, nx1, lg1⟩ := st1
    simp only [RS, RT, RZ, tsc0, tz0, nq0, bs0, bn0, reduceLT, reduceLeDiff, reduceEqDiff, reduceMul, reduceAdd, reduceSub, reduceCtorEq]
    exact hI2
  obtain ⟨e, T, ⟨h1, nx1, lg1⟩, r1, rfl, t6, ⟨⟨P', i1, i2⟩, old, hnx, log, ne, _⟩⟩ := hB
  simp only at i1 old hnx log ne
  obtain ⟨q0, hq0, hq1⟩ := ne (by omega)
  refine ⟨P', h1, nx1, lg1.filter (· < nx), fun lg0 => callYr (N := 37) (ok94 hK) (hK.nx _ _ _ rfl) rfl ⟨_, r1, ?_⟩, i1, old, i2, hnx, ?_, fun q hq => ?_⟩
  · simp only
    rw [finish_ret (N := 37) (v0 := .bool true) (v := .bool true) (st3 := ⟨h1, nx1, lg1⟩) endOf_ret (by simp only [RS, RT, RZ, tsc0, tz0, nq0, bs0, bn0, reduceLT, reduceLeDiff, reduceEqDiff, reduceMul, reduceAdd, reduceSub, reduceCtorEq, F94, t6]) (frz_noRow rfl fun _ => rfl)]
    rw [leave_old (g := q0) hq0 (hY.lt hI hq1)]
  · intro e
    have : q0 ∈ lg1.filter (· < nx) := List.mem_filter.2 ⟨hq0, decide_eq_true (hY.lt hI hq1)⟩
    rw [e] at this
    cases this
  · have h5 := List.mem_filter.1 hq
    have h6 : q < nx := of_decide_eq_true h5.2
    rcases log q h5.1 with h | h
    · exact h
    · omega
def fct : Nat → Nat | 0 => 1 | n + 1 => (n + 1) * fct n
theorem walk_c {Y B : Nat} {Pm : List Int → Prop} {I : YI'} (hY : Yld Q Y B Pm I) {y w : Nat} : ∀ n, WalkC Q Y B Pm I y w (fct n) n
  | 0 => walk_0 hK hY
  | n + 1 => walk_s hK hY (walk_c hY n)
end
end Go.Proofs.P31

namespace Go.Proofs.P31
open Go Go.AE
open Nat (reduceLT reduceLeDiff reduceEqDiff reduceMul reduceAdd reduceSub)
set_option maxHeartbeats 8000000
noncomputable def lp66 (T : Nat → AV) (s : LoopState) (d : Nat) : AO := .loop 66 T 17 [9] q66_0.1 q66_0.2 s none d
def rw1 (A : Nat) : AV := .row A 0 1 none
def ListO (okP : List LV → Prop) (h : Nat → AO) (Y nx r A : Nat) : Prop := Y < A ∧ A < nx ∧ A ≠ r ∧ ∃ l, h A = .mem 24 (flatL l) true 0 ∧ l.length = 1 ∧ (∀ x ∈ l, x.es.length < 1000000) ∧ okP l
structure PI (okP : List LV → Prop) (T : Nat → AV) (n Y d : Nat) (m : Nat) (P : Nat → Prop) (h : Nat → AO) (nx : Nat) : Prop where
  ex : ∃ (As : List Nat) (r : Nat), As.length = m ∧ (∀ q, P q ↔ (q = n ∨ q = Y ∨ (0 < m ∧ q = r) ∨ q ∈ As)) ∧
    ((m = 0 ∧ h n = .mem 28 [.slice .nil []] true 0) ∨ (0 < m ∧ h n = .mem 28 [.row r 0 m none] true 0 ∧ h r = .mem 33 (As.map rw1) false 0 ∧ Y < r ∧ r < nx)) ∧ ∀ A ∈ As, ListO okP h Y nx r A
  lp : h Y = lp66 T .ready d
  ny : n < Y
  yx : Y < nx
section
variable {Q : Ctx} (hK : K Q)
include hK
theorem yield66 {okP : List LV → Prop} {T : Nat → AV} {n Y d m : Nat} {P : Nat → Prop} {h : Nat → AO} {nx : Nat} {k : SK} {o : List Int} (t2 : T 2 = .ptr n 0) (hI : PI okP T n Y d m P h nx) (hm : m < 1000) (ho : o.length < 1000000) (hP : okP [⟨true, 0, k.forget, o⟩]) :
    ∃ P' h' nx' lg, callW Q (.yield Y) [.slice k (intsA o)] .normal ⟨h, nx, []⟩ = some (.ret (.bool true), ⟨h', nx', lg⟩, none) ∧
    PI okP T n Y d (m + 1) P' h' nx' ∧ (∀ q, q < nx → ¬ P q → h' q = h q) ∧ (∀ q, P' q → P q ∨ nx ≤ q) ∧ nx ≤ nx' ∧ lg ≠ [] ∧ ∀ q ∈ lg, P q := by
  obtain ⟨⟨As, r, hAl, hPq, hor, hAs⟩, lp, ny, yx⟩ := hI
  have e0 : (n = nx) = False := eq_false (by omega)
  have e0' : (n = nx + 1) = False := eq_false (by omega)
  have e0'' : (n = nx + 2) = False := eq_false (by omega)
  have e1 : (n = Y) = False := eq_false (by omega)
  have e1' : (Y = n) = False := eq_false (by omega)
  have e2 : (Y = nx) = False := eq_false (by omega)
  have e2' : (Y = nx + 1) = False := eq_false (by omega)
  have e2'' : (Y = nx + 2) = False := eq_false (by omega)
  have e3 : (nx = Y) = False := eq_false (by omega)
  have n1 := fun s => nums_slice hK (k := k) (l := o) (st := s)
  have hnlt : n < nx := by omega
  have hnlt3 : n < nx + 3 := by omega
  have eB : ∀ hh : Nat → AO, elemsOf ⟨upd hh (nx + 1) (.mem 33 [.row nx 0 1 none] true 0), nx + 2, []⟩ T33 (.row (nx + 1) 0 1 none) = some [.row nx 0 1 none] := fun hh => row33 (upd_same ..) rfl
  rcases hor with ⟨hm0, hn⟩ | ⟨hpos, hn, hr, hr1, hr2⟩
  · subst hm0
    obtain rfl : As = [] := List.eq_nil_of_length_eq_zero hAl
    obtain ⟨st', y1, y2⟩ := yield_norm (C := Q) (l := Y) (self := 66) (tmps := T) (m := 17) (params := [9]) (assign := q66_0.1) (body := q66_0.2) (d := d) (pe := none) (args := [.slice k (intsA o)]) (st := ⟨h, nx, []⟩) (mu := true) (xa := xa66_0) (xb := xb66_0)
      (R := fun st' => st' = ⟨upd (upd (upd (upd (upd (upd h Y (lp66 T .busy d)) nx (.mem 24 [.bool true, .int .i64 0, .slice k.forget (intsA o)] true 0)) (nx + 1) (.mem 33 [.row nx 0 1 none] true 0)) (nx + 2) (.mem 33 [.row nx 0 1 none] false 0)) n (.mem 28 [.row (nx + 2) 0 1 none] true 0)) Y (lp66 T .ready d), nx + 3, [Y, n, Y]⟩) lp rfl (fnis (ok66 hK)) (ok66 hK).mu (comp_ hK codea66_0) (comp_ hK codeb66_0) (by kernel_rfl) (by kernel_rfl) (by
        simp only [List.zip_cons_cons, List.zip_nil_right, setParams, Nat.reduceLT, if_true]
        simp only [RS, RT, RZ, tsc0, tz0, nq0, bs0, bn0, reduceLT, reduceLeDiff, reduceEqDiff, reduceMul, reduceAdd, reduceSub, reduceCtorEq, if_false, mkd_c, mb_t, mb_n, true_or, or_true, runX_buildM, flat_cons, flat_nil, cells_row, any_row, ic_row, Nat.lt_add_one, xa66_0, e3, e2, lp, lp66]
        simp only [RS, RT, RZ, tsc0, tz0, nq0, bs0, bn0, reduceLT, reduceLeDiff, reduceEqDiff, reduceMul, reduceAdd, reduceSub, reduceCtorEq, if_false, mkd_c, mb_t, mb_n, true_or, or_true, runX_buildM, flat_cons, flat_nil, cells_row, any_row, ic_row, Nat.lt_add_one, xb66_0, kd66_0, t2, e0, e0', e0'', e1, e1', e2, e2', e2'', e3, hn, eB, app33n, lp66, n1, hnlt, hnlt3]
        done)
    subst y2
    refine ⟨fun q => q = n ∨ q = Y ∨ q = nx + 2 ∨ q = nx, _, _, _, y1, ⟨⟨[nx], nx + 2, rfl, fun q => by simp, .inr ⟨by omega, ?_, ?_, by omega, by omega⟩, ?_⟩, upd_same .., ny, by omega⟩, fun q hq hq2 => ?_, ?_, by omega, by simp, ?_⟩
    · rw [upd_ne _ _ (by omega), upd_same]
    · rw [upd_ne _ _ (by omega), upd_ne _ _ (by omega), upd_same]; rfl
    · intro A hA
      rw [List.mem_singleton] at hA; subst hA
      refine ⟨yx, by omega, by omega, [⟨true, 0, k.forget, o⟩], ?_, rfl, by simpa using ho, hP⟩
      rw [upd_ne _ _ (by omega), upd_ne _ _ (by omega), upd_ne _ _ (by omega), upd_ne _ _ (by omega), upd_same]
      rfl
    · have h1 : q ≠ n := fun e => hq2 ((hPq q).2 (.inl e))
      have h2 : q ≠ Y := fun e => hq2 ((hPq q).2 (.inr (.inl e)))
      rw [upd_ne _ _ h2, upd_ne _ _ h1, upd_ne _ _ (by omega), upd_ne _ _ (by omega), upd_ne _ _ (by omega), upd_ne _ _ h2]
    · rintro q (h1 | h1 | h1 | h1)
      · exact .inl ((hPq q).2 (.inl h1))
      · exact .inl ((hPq q).2 (.inr (.inl h1)))
      · exact .inr (by omega)
      · exact .inr (by omega)
    · intro q hq
      simp only [List.mem_cons, List.not_mem_nil, or_false] at hq
      rcases hq with h1 | h1 | h1
      · exact (hPq q).2 (.inr (.inl h1))
      · exact (hPq q).2 (.inl h1)
      · exact (hPq q).2 (.inr (.inl h1))
  · have f0 : (n = r) = False := eq_false (by omega)
    have f1 : (Y = r) = False := eq_false (by omega)
    have f2' : (r = nx) = False := eq_false (by omega)
    have f3' : (r = nx + 1) = False := eq_false (by omega)
    have f4 : (r = Y) = False := eq_false (by omega)
    have hr3 : r < nx + 2 := by omega
    have hcl : (As.map rw1).length = m := by rw [List.length_map, hAl]
    have ea := app33 (A := nx) (k := 1) (m := none) (n := m) (r := r) (cells := As.map rw1) (nx := nx + 2) (h := upd (upd (upd h Y (lp66 T .busy d)) nx (.mem 24 [.bool true, .int .i64 0, .slice k.forget (intsA o)] true 0)) (nx + 1) (.mem 33 [.row nx 0 1 none] true 0)) (by rw [upd_ne _ _ (by omega), upd_ne _ _ (by omega), upd_ne _ _ (by omega)]; exact hr) hcl (by omega)
    simp only [lp66] at ea
    have hrd : (h r).isDead = false := by rw [hr]; rfl
    obtain ⟨st', y1, y2⟩ := yield_norm (C := Q) (l := Y) (self := 66) (tmps := T) (m := 17) (params := [9]) (assign := q66_0.1) (body := q66_0.2) (d := d) (pe := none) (args := [.slice k (intsA o)]) (st := ⟨h, nx, []⟩) (mu := true) (xa := xa66_0) (xb := xb66_0)
      (R := fun st' => st' = ⟨upd (upd (upd (upd (upd (upd (upd h Y (lp66 T .busy d)) nx (.mem 24 [.bool true, .int .i64 0, .slice k.forget (intsA o)] true 0)) (nx + 1) (.mem 33 [.row nx 0 1 none] true 0)) r .dead) (nx + 2) (.mem 33 (As.map rw1 ++ [.row nx 0 1 none]) false 0)) n (.mem 28 [.row (nx + 2) 0 (m + 1) none] true 0)) Y (lp66 T .ready d), nx + 3, [Y, n, r, Y]⟩) lp rfl (fnis (ok66 hK)) (ok66 hK).mu (comp_ hK codea66_0) (comp_ hK codeb66_0) (by kernel_rfl) (by kernel_rfl) (by
        simp only [List.zip_cons_cons, List.zip_nil_right, setParams, Nat.reduceLT, if_true]
        simp only [RS, RT, RZ, tsc0, tz0, nq0, bs0, bn0, reduceLT, reduceLeDiff, reduceEqDiff, reduceMul, reduceAdd, reduceSub, reduceCtorEq, if_false, mkd_c, mb_t, mb_n, true_or, or_true, runX_buildM, flat_cons, flat_nil, cells_row, any_row, ic_row, Nat.lt_add_one, xa66_0, e3, e2, lp, lp66]
        simp only [RS, RT, RZ, tsc0, tz0, nq0, bs0, bn0, reduceLT, reduceLeDiff, reduceEqDiff, reduceMul, reduceAdd, reduceSub, reduceCtorEq, if_false, mkd_c, mb_t, mb_n, true_or, or_true, runX_buildM, flat_cons, flat_nil, cells_row, any_row, ic_row, Nat.lt_add_one, xb66_0, kd66_0, t2, e0, e0', e0'', e1, e1', e2, e2', e2'', e3, hn, eB, ea, lp66, n1, hnlt, hnlt3, f0, f1, f2', f3', f4, hr2, hr3, hrd, hr]
        done)
    subst y2
    refine ⟨fun q => q = n ∨ q = Y ∨ q = nx + 2 ∨ q ∈ As ++ [nx], _, _, _, y1, ⟨⟨As ++ [nx], nx + 2, by simp [hAl], fun q => by simp, .inr ⟨by omega, ?_, ?_, by omega, by omega⟩, ?_⟩, upd_same .., ny, by omega⟩, fun q hq hq2 => ?_, ?_, by omega, by simp, ?_⟩
    · rw [upd_ne _ _ (by omega), upd_same]
    · rw [upd_ne _ _ (by omega), upd_ne _ _ (by omega), upd_same, List.map_append]; rfl
    · intro A hA
      rcases List.mem_append.1 hA with hA | hA
      · obtain ⟨a1, a2, a3, l, a4, a5⟩ := hAs A hA
        refine ⟨a1, by omega, by omega, l, ?_, a5⟩
        rw [upd_ne _ _ (by omega), upd_ne _ _ (by omega), upd_ne _ _ (by omega), upd_ne _ _ a3, upd_ne _ _ (by omega), upd_ne _ _ (by omega), upd_ne _ _ (by omega)]
        exact a4
      · rw [List.mem_singleton] at hA; subst hA
        refine ⟨yx, by omega, by omega, [⟨true, 0, k.forget, o⟩], ?_, rfl, by simpa using ho, hP⟩
        rw [upd_ne _ _ (by omega), upd_ne _ _ (by omega), upd_ne _ _ (by omega), upd_ne _ _ (by omega), upd_ne _ _ (by omega), upd_same]
        rfl
    · have h1 : q ≠ n := fun e => hq2 ((hPq q).2 (.inl e))
      have h2 : q ≠ Y := fun e => hq2 ((hPq q).2 (.inr (.inl e)))
      have h3 : q ≠ r := fun e => hq2 ((hPq q).2 (.inr (.inr (.inl ⟨hpos, e⟩))))
      rw [upd_ne _ _ h2, upd_ne _ _ h1, upd_ne _ _ (by omega), upd_ne _ _ h3, upd_ne _ _ (by omega), upd_ne _ _ (by omega), upd_ne _ _ h2]
    · rintro q (h1 | h1 | h1 | h1)
      · exact .inl ((hPq q).2 (.inl h1))
      · exact .inl ((hPq q).2 (.inr (.inl h1)))
      · exact .inr (by omega)
      · rcases List.mem_append.1 h1 with h1 | h1
        · exact .inl ((hPq q).2 (.inr (.inr (.inr h1))))
        · rw [List.mem_singleton] at h1; exact .inr (by omega)
    · intro q hq
      simp only [List.mem_cons, List.not_mem_nil, or_false] at hq
      rcases hq with h1 | h1 | h1 | h1
      · exact (hPq q).2 (.inr (.inl h1))
      · exact (hPq q).2 (.inl h1)
      · exact (hPq q).2 (.inr (.inr (.inl ⟨hpos, h1⟩)))
      · exact (hPq q).2 (.inr (.inl h1))
end
end Go.Proofs.P31

namespace Go.Proofs.P31
open Go Go.AE
open Nat (reduceLT reduceLeDiff reduceEqDiff reduceMul reduceAdd reduceSub)
set_option maxHeartbeats 8000000
theorem any_fn {f : Fn} {a b : List AV} : (AV.func f a b).isAny = false := (rfl)
theorem cells_fn {f : Fn} {a b : List AV} : (AV.func f a b).cells = [.func f a b] := (rfl)
def permP (l : List Int) (x : List LV) : Prop := ∃ k o, x = [⟨true, 0, k, o⟩] ∧ o.Perm l
theorem ListO.mono {okP : List LV → Prop} {h h' : Nat → AO} {Y nx nx' r A : Nat} (a : ListO okP h Y nx r A) (hh : h' A = h A) (hn : nx ≤ nx') : ListO okP h' Y nx' r A := by
  obtain ⟨a1, a2, a3, l, a4, a5⟩ := a
  exact ⟨a1, by omega, a3, l, by rw [hh]; exact a4, a5⟩
section
variable {Q : Ctx} (hK : K Q)
include hK
theorem yld66 {l : List Int} {T : Nat → AV} {n Y d : Nat} (hl : l.length < 1000) (t2 : T 2 = .ptr n 0) : Yld Q Y 1000 (fun o => o.Perm l) (PI (permP l) T n Y d) where
  frame := by
    rintro m P h nx h' nx' ⟨⟨As, r, hAl, hPq, hor, hAs⟩, lp, ny, yx⟩ hh hn
    refine ⟨⟨As, r, hAl, hPq, ?_, fun A hA => (hAs A hA).mono (hh A ((hPq A).2 (.inr (.inr (.inr hA))))) hn⟩, by rw [hh Y ((hPq Y).2 (.inr (.inl rfl)))]; exact lp, ny, by omega⟩
    have hn1 := hh n ((hPq n).2 (.inl rfl))
    rcases hor with ⟨h1, h2⟩ | ⟨h1, h2, h3, h4, h5⟩
    · exact .inl ⟨h1, by rw [hn1]; exact h2⟩
    · exact .inr ⟨h1, by rw [hn1]; exact h2, by rw [hh r ((hPq r).2 (.inr (.inr (.inl ⟨h1, rfl⟩))))]; exact h3, h4, by omega⟩
  lt := by
    rintro m P h nx q ⟨⟨As, r, hAl, hPq, hor, hAs⟩, lp, ny, yx⟩ hq
    rcases (hPq q).1 hq with h1 | h1 | ⟨h0, h1⟩ | h1
    · omega
    · omega
    · rcases hor with ⟨h2, _⟩ | ⟨_, _, _, _, h5⟩ <;> omega
    · exact (hAs q h1).2.1
  live := by
    rintro m P h nx q ⟨⟨As, r, hAl, hPq, hor, hAs⟩, lp, ny, yx⟩ hq
    rcases (hPq q).1 hq with rfl | rfl | ⟨h0, rfl⟩ | h1
    · rcases hor with ⟨_, h2⟩ | ⟨_, h2, _⟩ <;> rw [h2] <;> rfl
    · rw [lp]; rfl
    · rcases hor with ⟨h2, _⟩ | ⟨_, _, h2, _⟩
      · omega
      · rw [h2]; rfl
    · obtain ⟨_, _, _, _, h2, _⟩ := hAs q h1
      rw [h2]; rfl
  run := by
    intro m P h nx k o hI hm ho
    exact yield66 hK t2 hI hm (by rw [ho.length_eq]; omega) ⟨_, o, rfl, ho⟩
theorem orders1_c {Y B : Nat} {Pm : List Int → Prop} {I : YI'} (hY : Yld Q Y B Pm I) {m p : Nat} {P : Nat → Prop} {h : Nat → AO} {nx : Nat} {k : SK} {l : List Int} (hI : I m P h nx) (hp : h p = .mem 22 [.slice k (intsA l)] true 0) (hpn : p < nx) (hk : l ≠ [] → SK.isNil k = false) (hPm : ∀ o : List Int, o.Perm l → Pm o) (hm : m + fct l.length ≤ B) (hl : l.length < 100) :
    ∃ P' h' nx' lg, (∀ lg0, callW Q (.fn 93) [.func (.yield Y) [] [], .ptr p 0] .normal ⟨h, nx, lg0⟩ = some (.ret (.tuple []), ⟨h', nx', lg ++ lg0⟩, none)) ∧
    I (m + fct l.length) P' h' nx' ∧ (∀ q, q < nx → ¬ P q → h' q = h q) ∧ (∀ q, P' q → P q ∨ nx ≤ q) ∧ nx ≤ nx' ∧ ∀ q ∈ lg, P q := by
  have np : ∀ q, nx ≤ q → ¬ P q := fun q hq hh => by have := hY.lt hI hh; omega
  obtain ⟨P', h', nx', lg, c1, c2, c3, c4, c5, c6, c7⟩ := walk_c hK hY (y := nx) (w := nx + 1) l.length l [] m P (upd (upd (upd h nx (.mem 74 [.func (.yield Y) [] []] true 0)) (nx + 1) (.mem 34 [.nilfn] true 0)) (nx + 1) (.mem 34 [.func (.func 94) [] [.ptr nx 0, .ptr (nx + 1) 0]] true 0)) (nx + 2) .nil (.slice k (intsA l)) rfl
    (hY.frame hI (fun q hq => by have := hY.lt hI hq; rw [upd_ne _ _ (by omega), upd_ne _ _ (by omega), upd_ne _ _ (by omega)]) (by omega)) (.inl ⟨k, rfl, hk⟩) (by rw [upd_ne _ _ (by omega), upd_ne _ _ (by omega), upd_same]) (upd_same ..) (np _ (by omega)) (np _ (by omega)) (by omega) (by omega) (by simpa using hPm) hm (by simpa using hl)
  simp only [intsA, List.map_nil] at c1
  obtain ⟨q0, lg', rfl⟩ : ∃ a b, lg = a :: b := by cases lg with | nil => exact absurd rfl c6 | cons a b => exact ⟨_, _, rfl⟩
  refine ⟨P', h', nx', q0 :: lg', fun lg0 => callYr (N := 8) (ok93 hK) (hK.nx _ _ _ rfl) rfl (Post.raw (N := 8) (D := []) (pv := none) (R := fun o => finishFn (callW Q) Q 93 F93 .normal ⟨h, nx, lg0⟩ o.1 o.2.1 o.2.2 = some (.ret (.tuple []), ⟨h', nx', q0 :: lg' ++ lg0⟩, none)) (Q := fun e T st1 => endOf e = some none ∧ st1 = ⟨h', nx', q0 :: lg' ++ [nx + 1]⟩) ?_ ?_), c2, fun q hq hq2 => ?_, fun q hq => ?_, by omega, c7⟩
  · have e0 : (nx + 1 = nx) = False := eq_false (by omega)
    have e1 : (p = nx) = False := eq_false (by omega)
    have e2 : (p = nx + 1) = False := eq_false (by omega)
    have hp' : h p = .mem 22 [.slice k (l.map fun z => .int .i64 z)] true 0 := hp
    simp only [RS, RT, RZ, tsc0, tz0, nq0, bs0, bn0, reduceLT, reduceLeDiff, reduceEqDiff, reduceMul, reduceAdd, reduceSub, reduceCtorEq, x93, e0, e1, e2, hp', c1, ic_fn, ic_nf, any_fn, cells_fn]
  · rintro e T st1 ⟨he, rfl⟩
    simp only
    rw [finish_ret (N := 8) (v0 := .tuple []) (v := .tuple []) (st3 := ⟨h', nx', q0 :: lg' ++ [nx + 1]⟩) he (by simp only [RS, RT, RZ, tsc0, tz0, nq0, bs0, bn0, reduceLT, reduceLeDiff, reduceEqDiff, reduceMul, reduceAdd, reduceSub, reduceCtorEq, F93]) (frz_noRow rfl fun _ => rfl)]
    rw [leave_old (g := q0) (by simp) (hY.lt hI (c7 q0 (by simp)))]
    have h1 : (q0 :: lg').filter (fun x => decide (x < nx)) = q0 :: lg' := List.filter_eq_self.2 fun a ha => decide_eq_true (hY.lt hI (c7 a ha))
    have h2 : [nx + 1].filter (fun x => decide (x < nx)) = [] := by simp
    simp only [List.filter_append, h1, h2, List.append_nil]
  · rw [c3 q (by omega) hq2, upd_ne _ _ (by omega), upd_ne _ _ (by omega), upd_ne _ _ (by omega)]
  · rcases c4 q hq with h | h
    · exact .inl h
    · exact .inr (by omega)
end
end Go.Proofs.P31

namespace Go.Proofs.P31
open Go Go.AE
open Nat (reduceLT reduceLeDiff reduceEqDiff reduceMul reduceAdd reduceSub)
set_option maxHeartbeats 8000000
structure PR (l : List Int) (n : Nat) (h0 : Nat → AO) (st : St) : Prop where
  ex : ∃ (As : List Nat) (r : Nat), As.length = fct l.length ∧ st.heap n = .mem 28 [.row r 0 As.length none] true 0 ∧ st.heap r = .mem 33 (As.map rw1) false 0 ∧ n + 3 < r ∧ r < st.next ∧ ∀ A ∈ As, ListO (permP l) st.heap (n + 3) st.next r A
  mrk : st.heap (n + 2) = .dfr
  nx : n + 3 ≤ st.next
  log : ∀ q ∈ st.log, n ≤ q
  old : ∀ q, q < n → st.heap q = h0 q
theorem fct_pos : ∀ n, 0 < fct n
  | 0 => by decide
  | n + 1 => Nat.mul_pos (by omega) (fct_pos n)
theorem fct_le {n : Nat} (h : n ≤ 6) : fct n ≤ 1000 := by
  have : n = 0 ∨ n = 1 ∨ n = 2 ∨ n = 3 ∨ n = 4 ∨ n = 5 ∨ n = 6 := by omega
  rcases this with rfl | rfl | rfl | rfl | rfl | rfl | rfl <;> decide
section
variable {Q : Ctx} (hK : K Q)
include hK
theorem range66 {l : List Int} {k : SK} (hl : l.length ≤ 6) (hk : l ≠ [] → SK.isNil k = false) {T : Nat → AV} {n : Nat} {D : List ADef} {h : Nat → AO} {lg : List Nat} (t2 : T 2 = .ptr n 0) (hp : h (n + 1) = .mem 22 [.slice k (intsA l)] true 0) (h0 : h n = .mem 28 [.slice .nil []] true 0) (h1 : h (n + 2) = .dfr) (hlg : ∀ q ∈ lg, n ≤ q) :
    Post 17 D none (rangeLoop (callW Q) 66 93 [] [.ptr (n + 1) 0] [9] q66_0.1 q66_0.2 (n + 2) ⟨T, 17, D, none⟩ ⟨h, n + 3, lg⟩) fun e T' st => T' = T ∧ e = .norm ∧ PR l n h st := by
  have hY := yld66 hK (l := l) (T := T) (n := n) (Y := n + 3) (d := n + 2) (by omega) t2
  have hI : PI (permP l) T n (n + 3) (n + 2) 0 (fun q => q = n ∨ q = n + 3) (upd h (n + 3) (lp66 T .ready (n + 2))) (n + 4) :=
    ⟨⟨[], 0, rfl, fun q => by simp, .inl ⟨rfl, by rw [upd_ne _ _ (by omega), h0]⟩, fun A hA => nomatch hA⟩, upd_same .., by omega, by omega⟩
  obtain ⟨P', h', nx', lg', c1, ⟨⟨As, r, a1, a2, a3, a4⟩, lp, _, yx⟩, c3, c4, c5, c6⟩ := orders1_c hK hY (p := n + 1) (k := k) (l := l) hI (by rw [upd_ne _ _ (by omega)]; exact hp) (by omega) hk (fun o ho => ho) (by rw [Nat.zero_add]; exact fct_le hl) (by omega)
  have a3' : h' n = .mem 28 [.row r 0 (0 + fct l.length) none] true 0 ∧ h' r = .mem 33 (As.map rw1) false 0 ∧ n + 3 < r ∧ r < nx' := by
    have := fct_pos l.length
    rcases a3 with ⟨h2, _⟩ | ⟨_, h2⟩
    · omega
    · exact h2
  obtain ⟨b1, b2, b3, b4⟩ := a3'
  unfold rangeLoop
  simp only [List.nil_append, List.cons_append, St.push]
  simp only [lp66] at c1 lp
  rw [c1]
  simp only [lp, reduceCtorEq, if_false, jumpEx, Option.map_some, post_some]
  refine ⟨trivial, trivial, ⟨As, r, by rw [a1, Nat.zero_add], ?_, ?_, b3, b4, fun A hA => (a4 A hA).mono (by simp only [St.set]; rw [upd_ne _ _ (by have := (a4 A hA).1; omega)]) (Nat.le_refl _)⟩, ?_, ?_, fun q hq => ?_, fun q hq => ?_⟩
  · simp only [St.set]; rw [upd_ne _ _ (by omega), b1, a1]
  · simp only [St.set]; rw [upd_ne _ _ (by omega), b2]
  · simp only [St.set]; rw [upd_ne _ _ (by omega), c3 (n + 2) (by omega) (by omega), upd_ne _ _ (by omega)]; exact h1
  · simp only [St.set]; omega
  · simp only [St.set, List.mem_cons, List.mem_append] at hq
    rcases hq with rfl | hq | hq
    · omega
    · rcases c6 q hq with h | h <;> omega
    · exact hlg q hq
  · simp only [St.set]; rw [upd_ne _ _ (by omega), c3 q (by omega) (by omega), upd_ne _ _ (by omega)]
theorem frz66 : Q.frz 66 = false := hK.frz_ (by kernel_rfl)
theorem perm66_c {k0 : SK} {a : LV} {st : St} (hk : a.es ≠ [] → SK.isNil a.k = false) (hl : a.es.length ≤ 6) :
    ∃ o st', callW Q (.fn 66) [.slice k0 [a.av]] .normal st = some (.ret o, st', none) ∧ OutR (permP a.es) st st' o ∧ (false = true → ∃ r, o = .row r 0 1 none) := by
  obtain ⟨ai, an, ak, ae⟩ := a
  simp only at hk hl
  have v1 := orders_c hK (k := ak) (l := intsA ae) (st := ⟨upd st.heap st.next (.mem 28 [.slice .nil []] true 0), st.next + 1, []⟩)
  simp only at v1
  have hB : Post 17 [⟨none, st.next + 2, []⟩] none (execY (callW Q) Q true 66 none x66 ⟨argTmps [.slice k0 [(⟨ai, an, ak, ae⟩ : LV).av]], 17, [], none⟩ ⟨st.heap, st.next, []⟩) fun e T st1 => e = .ret ∧ T 2 = .ptr st.next 0 ∧ PR ae st.next st.heap st1 := by
    simp only [RS, RT, RZ, tsc0, tz0, nq0, bs0, bn0, reduceLT, reduceLeDiff, reduceEqDiff, reduceMul, reduceAdd, reduceSub, reduceCtorEq, x66, kd66_0, LV.av, LV.cells, v1, execY_rangeF, rangeK_fn (fnis (ok93 hK))]
    refine post_bind (range66 hK (l := ae) (k := ak) hl hk ?_ ?_ ?_ ?_ (fun q hq => nomatch hq)) ?_
    · simp only [RS, RT, RZ, tsc0, tz0, nq0, bs0, bn0, reduceLT, reduceLeDiff, reduceEqDiff, reduceMul, reduceAdd, reduceSub, reduceCtorEq]
    · simp only [RS, RT, RZ, tsc0, tz0, nq0, bs0, bn0, reduceLT, reduceLeDiff, reduceEqDiff, reduceMul, reduceAdd, reduceSub, reduceCtorEq]
    · simp only [RS, RT, RZ, tsc0, tz0, nq0, bs0, bn0, reduceLT, reduceLeDiff, reduceEqDiff, reduceMul, reduceAdd, reduceSub, reduceCtorEq, Nat.left_eq_add]
    · simp only [RS, RT, RZ, tsc0, tz0, nq0, bs0, bn0, reduceLT, reduceLeDiff, reduceEqDiff, reduceMul, reduceAdd, reduceSub, reduceCtorEq]
    · rintro e T ⟨h, nx, lg⟩ ⟨rfl, rfl, ⟨As, r, a1, a2, a3, a4, a5, a6⟩, mk, nx2, log, old⟩
      simp only at a2 a3 mk nx2 old
      simp only [RS, RT, RZ, tsc0, tz0, nq0, bs0, bn0, reduceLT, reduceLeDiff, reduceEqDiff, reduceMul, reduceAdd, reduceSub, reduceCtorEq, if_false, mkd_c, mb_t, mb_n, true_or, or_true, runX_buildM, flat_cons, flat_nil, cells_row, any_row, ic_row, Nat.lt_add_one, a2]
      refine ⟨⟨As, r, a1, by simp only; rw [upd_same], by simp only; rw [upd_ne _ _ (by omega)]; exact a3, a4, a5, fun A hA => (a6 A hA).mono (by have := (a6 A hA).1; simp only; rw [upd_ne _ _ (by omega)]) (Nat.le_refl _)⟩, by simp only; rw [upd_ne _ _ (by omega)]; exact mk, nx2, fun q hq => ?_, fun q hq => ?_⟩
      · simp only [List.mem_cons] at hq
        rcases hq with rfl | hq
        · exact Nat.le_refl _
        · exact log q hq
      · have := old q hq
        simp only at this ⊢
        rw [upd_ne _ _ (by omega), this, upd_ne _ _ (by omega), upd_ne _ _ (by omega), upd_ne _ _ (by omega)]
  obtain ⟨e, T, st1, h1, rfl, t2, ⟨As, r, a1, a2, a3, a4, a5, a6⟩, mk, nx2, log, old⟩ := hB
  have hrs : resultsA Q (st1.set (st.next + 2) .dead) T F66.results = some [.row r 0 As.length none] := by
    have tw := tw28 hK
    obtain ⟨h', n', lg'⟩ := st1
    simp only at a2
    have e0 : (st.next = st.next + 2) = False := eq_false (by omega)
    simp only [RS, RT, RZ, tsc0, tz0, nq0, bs0, bn0, reduceLT, reduceLeDiff, reduceEqDiff, reduceMul, reduceAdd, reduceSub, reduceCtorEq, if_false, mkd_c, mb_t, mb_n, true_or, or_true, runX_buildM, flat_cons, flat_nil, cells_row, any_row, ic_row, Nat.lt_add_one, F66, t2, a2, tw, T28, e0, St.set]
  have hfp := fct_pos ae.length
  have hfl := fct_le hl
  refine ⟨.row r 0 As.length none, ⟨(st1.set (st.next + 2) .dead).heap, st1.next, [] ++ st.log⟩, callYr (N := 17) (ok66 hK) (hK.nx _ _ _ rfl) rfl ⟨_, h1, ?_⟩, ⟨⟨r, As.map rw1, false, by rw [List.length_map], ?_, by omega, a5, by rw [List.length_map]; omega, by rw [List.length_map]; omega, fun c hc => ?_⟩, fun q hq => ?_, by simp only; omega, fun q hq => .inl hq⟩, fun h => by cases h⟩
  · simp only [finishFn, endOf, runDefs, mk, hrs, frz66 hK, Bool.false_eq_true, if_false, packA, Option.map_some, Option.toList]
    rw [leave_row (below_row1 (by omega)), filt_nil (fun q hq => ?_)]
    · rfl
    · simp only [St.set, List.mem_cons] at hq
      rcases hq with rfl | hq
      · omega
      · exact log q hq
  · simp only [St.set]; rw [upd_ne _ _ (by omega)]; exact a3
  · obtain ⟨A, hA, rfl⟩ := List.mem_map.1 hc
    obtain ⟨b1, b2, b3, l, b4, b5, b6, b7⟩ := a6 A hA
    refine ⟨l, ⟨⟨⟨A, by rw [b5]; rfl, by simp only [St.set]; rw [upd_ne _ _ (by omega)]; exact b4, b2⟩, by omega, b6⟩, ⟨A, _, _, rfl, by omega⟩⟩, b7⟩
  · simp only [St.set]; rw [upd_ne _ _ (by omega)]; exact old q hq
end
end Go.Proofs.P31
