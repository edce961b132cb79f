/- Comparing, CompactFunc, fit: at every argument. -/
import Derived.Test.YtmdakabianfbkaaGreatS4
set_option linter.unusedVariables false
set_option linter.unusedSimpArgs false
set_option linter.unusedSectionVars false
namespace Go.Proofs.P31
open Go Go.AE
open Nat (reduceLT reduceLeDiff reduceEqDiff reduceMul reduceAdd reduceSub)
set_option maxHeartbeats 8000000
theorem callYe {C : Ctx} {f : FuncId} {fi : FI} {x : XC} {mu : Bool} {N : Nat} {args : List AV} {st : St} {R : AV → Prop} (ok : FnOk C f fi x mu) (hX : C.X f args st = none) (hN : max fi.ntmps args.length = N)
    (h : Post N [] none (execY (callW C) C mu f none x ⟨argTmps args, N, [], none⟩ ⟨st.heap, st.next, []⟩) fun e T st1 => endOf e = some none ∧ ∃ v, (resultsA C st1 T fi.results).map packA = some v ∧ R v ∧ CleanV v ∧ LogOk st.next st1.log) :
    ∃ v, callW C (.fn f) args .normal st = some (.ret v, st, none) ∧ R v := by
  obtain ⟨e, T, st1, h1, h2, v, h3, h4, h5, h6⟩ := h
  exact ⟨v, callY ok hX hN h5 ⟨e, T, st1, h1, h2, h3, h6⟩, h4⟩
structure LV where
  il : Bool
  n : Int
  k : SK
  es : List Int
def intsA (l : List Int) : List AV := l.map fun z => .int .i64 z
theorem intsA_len (l : List Int) : (intsA l).length = l.length := by simp [intsA]
theorem intsA_at (l : List Int) (i : Nat) : (intsA l)[i]? = (l[i]?).map fun z => .int .i64 z := by simp [intsA]
def LV.cells (v : LV) : List AV := [.bool v.il, .int .i64 v.n, .slice v.k (intsA v.es)]
def LV.av (v : LV) : AV := .agg v.cells
section
variable {Q : Ctx} (hK : K Q)
include hK
theorem nan_c {a : Int} : Ret Q 88 [.int .i64 a] (.bool false) := fun st => by
  refine callY (N := 6) (ok88 hK) (hK.nx _ _ _ rfl) rfl rfl ?_
  simp only [RS, RT, RZ, tsc0, tz0, nq0, bs0, bn0, reduceLT, reduceLeDiff, reduceEqDiff, reduceMul, reduceAdd, reduceSub, reduceCtorEq, x88, F88]
def cmpI (a b : Int) : Int := if a < b then -1 else if b < a then 1 else 0
theorem cmpI_c {a b : Int} : Ret Q 45 [.int .i64 a, .int .i64 b] (.int .i64 (cmpI a b)) := fun st => by
  refine callY (N := 20) (ok45 hK) (hK.nx _ _ _ rfl) rfl rfl ?_
  unfold cmpI
  by_cases h1 : a < b
  · have e1 := decT h1
    simp only [RS, RT, RZ, tsc0, tz0, nq0, bs0, bn0, reduceLT, reduceLeDiff, reduceEqDiff, reduceMul, reduceAdd, reduceSub, reduceCtorEq, x45, F45, nan_c hK, e1, if_pos h1]
  · have e1 := decF h1
    by_cases h2 : b < a
    · have e2 := decT h2
      simp only [RS, RT, RZ, tsc0, tz0, nq0, bs0, bn0, reduceLT, reduceLeDiff, reduceEqDiff, reduceMul, reduceAdd, reduceSub, reduceCtorEq, x45, F45, nan_c hK, e1, e2, if_neg h1, if_pos h2]
    · have e2 := decF h2
      simp only [RS, RT, RZ, tsc0, tz0, nq0, bs0, bn0, reduceLT, reduceLeDiff, reduceEqDiff, reduceMul, reduceAdd, reduceSub, reduceCtorEq, x45, F45, nan_c hK, e1, e2, if_neg h1, if_neg h2]
theorem cmpL_loop {st0 : St} {k1 k2 : SK} {l1 l2 : List Int} (hl : l1.length < 1000000) : ∀ (n : Nat) T st, (∃ (i : Nat), T 0 = .slice k1 (intsA l1) ∧ T 1 = .slice k2 (intsA l2) ∧ T 2 = .func (.func 45) [] [] ∧ T 11 = .slice k1 (intsA l1) ∧ T 12 = .int .i64 (l1.length : Int) ∧ T 13 = .int .i64 (i : Int) ∧ l1.length < i + n ∧ i ≤ l1.length ∧ st = st0) →
    Post 39 [] none (execY (callW Q) Q false 89 none (.loop l89_0) ⟨T, 39, [], none⟩ st) fun e T' st' => st' = st0 ∧ ((e = .ret ∧ ∃ z, T' 6 = .int .i64 z) ∨ (e = .exit 0 ∧ T' 0 = .slice k1 (intsA l1) ∧ T' 1 = .slice k2 (intsA l2))) := by
  refine post_loop fun n T st => ?_
  rintro ⟨i, t0, t1, t2, t11, t12, t13, hn, hi, rfl⟩
  by_cases hc : i < l1.length
  · have a1 : (intsA l1)[i]? = some (.int .i64 l1[i]) := by rw [intsA_at, List.getElem?_eq_getElem hc]; rfl
    by_cases hc2 : i < l2.length
    · have a2 : (intsA l2)[i]? = some (.int .i64 l2[i]) := by rw [intsA_at, List.getElem?_eq_getElem hc2]; rfl
      have hc2n : ¬ l2.length ≤ i := by omega
      have w1 := wrapN (z := (i : Int) + 1) (n := i + 1) (by omega) (by omega)
      cases hz : (cmpI l1[i] l2[i] == 0) with
      | true =>
        have hz' : (cmpI l1[i] l2[i] != 0) = false := by simp [bne, hz]
        simp only [RS, RT, RZ, tsc0, tz0, nq0, bs0, bn0, reduceLT, reduceLeDiff, reduceEqDiff, reduceMul, reduceAdd, reduceSub, reduceCtorEq, getD_4, getD_5, idxX_row, lenX_row, l89_0, t0, t1, t2, t11, t12, t13, hc, hc2n, a1, a2, cmpI_c hK, hz', w1, intsA_len]
        exact ⟨n - 1, by omega, i + 1, rfl, by omega, by omega⟩
      | false =>
        have hz' : (cmpI l1[i] l2[i] != 0) = true := by simp [bne, hz]
        simp only [RS, RT, RZ, tsc0, tz0, nq0, bs0, bn0, reduceLT, reduceLeDiff, reduceEqDiff, reduceMul, reduceAdd, reduceSub, reduceCtorEq, getD_4, getD_5, idxX_row, lenX_row, l89_0, t0, t1, t2, t11, t12, t13, hc, hc2n, a1, a2, cmpI_c hK, hz', w1, intsA_len]
        exact ⟨_, rfl⟩
    · have hc2' : l2.length ≤ i := by omega
      simp only [RS, RT, RZ, tsc0, tz0, nq0, bs0, bn0, reduceLT, reduceLeDiff, reduceEqDiff, reduceMul, reduceAdd, reduceSub, reduceCtorEq, getD_4, getD_5, idxX_row, lenX_row, l89_0, t0, t1, t2, t11, t12, t13, hc, hc2, hc2', a1, cmpI_c hK, intsA_len]
      exact ⟨_, rfl⟩
  · simp only [RS, RT, RZ, tsc0, tz0, nq0, bs0, bn0, reduceLT, reduceLeDiff, reduceEqDiff, reduceMul, reduceAdd, reduceSub, reduceCtorEq, getD_4, getD_5, idxX_row, lenX_row, l89_0, t0, t1, t2, t11, t12, t13, hc]
theorem cmpL_c {k1 k2 : SK} {l1 l2 : List Int} (hl : l1.length < 1000000) {st : St} : ∃ v, callW Q (.fn 89) [.slice k1 (intsA l1), .slice k2 (intsA l2), .func (.func 45) [] []] .normal st = some (.ret v, st, none) ∧ ∃ z : Int, v = .int .i64 z := by
  refine callYe (N := 39) (ok89 hK) (hK.nx _ _ _ rfl) rfl ?_
  simp only [RS, RT, RZ, tsc0, tz0, nq0, bs0, bn0, reduceLT, reduceLeDiff, reduceEqDiff, reduceMul, reduceAdd, reduceSub, reduceCtorEq, getD_4, getD_5, idxX_row, lenX_row, x89, intsA_len]
  refine post_bind (cmpL_loop hK (st0 := ⟨st.heap, st.next, []⟩) (k1 := k1) (k2 := k2) (l1 := l1) (l2 := l2) hl (l1.length + 1) _ _ ⟨0, ?_, ?_, ?_, ?_, ?_, ?_, by omega, by omega, rfl⟩) ?_
  all_goals try (simp only [RS, RT, RZ, tsc0, tz0, nq0, bs0, bn0, reduceLT, reduceLeDiff, reduceEqDiff, reduceMul, reduceAdd, reduceSub, reduceCtorEq, getD_4, getD_5, idxX_row, lenX_row, cast_0]; done)
  rintro e T' st1 ⟨rfl, ⟨rfl, z, hz⟩ | ⟨rfl, t0, t1⟩⟩
  · simp only [RS, RT, RZ, tsc0, tz0, nq0, bs0, bn0, reduceLT, reduceLeDiff, reduceEqDiff, reduceMul, reduceAdd, reduceSub, reduceCtorEq, getD_4, getD_5, idxX_row, lenX_row, F89, hz]
    exact ⟨.int .i64 z, rfl, ⟨z, rfl⟩, rfl⟩
  · by_cases hd : l1.length < l2.length
    · simp only [RS, RT, RZ, tsc0, tz0, nq0, bs0, bn0, reduceLT, reduceLeDiff, reduceEqDiff, reduceMul, reduceAdd, reduceSub, reduceCtorEq, getD_4, getD_5, idxX_row, lenX_row, F89, t0, t1, intsA_len, hd]
      exact ⟨.int .i64 (-1), rfl, ⟨_, rfl⟩, rfl⟩
    · simp only [RS, RT, RZ, tsc0, tz0, nq0, bs0, bn0, reduceLT, reduceLeDiff, reduceEqDiff, reduceMul, reduceAdd, reduceSub, reduceCtorEq, getD_4, getD_5, idxX_row, lenX_row, F89, t0, t1, intsA_len, hd]
      exact ⟨.int .i64 0, rfl, ⟨_, rfl⟩, rfl⟩
theorem ordL_c {k1 k2 : SK} {l1 l2 : List Int} (hl : l1.length < 1000000) {st : St} : ∃ v, callW Q (.fn 46) [.slice k1 (intsA l1), .slice k2 (intsA l2), .func (.func 45) [] []] .normal st = some (.ret v, st, none) ∧ ∃ z : Int, v = .int .i64 z := by
  refine callYe (N := 11) (ok46 hK) (hK.nx _ _ _ rfl) rfl ?_
  obtain ⟨v, h1, z, rfl⟩ := cmpL_c hK (k1 := k1) (k2 := k2) (l1 := l1) (l2 := l2) hl (st := ⟨st.heap, st.next, []⟩)
  simp only [RS, RT, RZ, tsc0, tz0, nq0, bs0, bn0, reduceLT, reduceLeDiff, reduceEqDiff, reduceMul, reduceAdd, reduceSub, reduceCtorEq, getD_4, getD_5, idxX_row, lenX_row, x46, F46, h1]
  exact ⟨.int .i64 z, rfl, ⟨z, rfl⟩, rfl⟩
theorem or_loop {st0 : St} {k : SK} {l : List Int} (hl : l.length < 1000000) : ∀ (n : Nat) T st, (∃ (i : Nat), T 3 = .int .i64 0 ∧ T 6 = .slice k (intsA l) ∧ T 7 = .int .i64 (l.length : Int) ∧ T 8 = .int .i64 (i : Int) ∧ l.length < i + n ∧ i ≤ l.length ∧ st = st0) →
    Post 18 [] none (execY (callW Q) Q false 44 none (.loop l44_0) ⟨T, 18, [], none⟩ st) fun e T' st' => st' = st0 ∧ ((e = .ret ∧ ∃ z, T' 2 = .int .i64 z) ∨ (e = .exit 0 ∧ T' 3 = .int .i64 0)) := by
  refine post_loop fun n T st => ?_
  rintro ⟨i, t3, t6, t7, t8, hn, hi, rfl⟩
  by_cases hc : i < l.length
  · have a1 : (intsA l)[i]? = some (.int .i64 l[i]) := by rw [intsA_at, List.getElem?_eq_getElem hc]; rfl
    have w1 := wrapN (z := (i : Int) + 1) (n := i + 1) (by omega) (by omega)
    cases hz : (l[i] == 0) with
    | true =>
      have hz' : (l[i] != 0) = false := by simp [bne, hz]
      simp only [RS, RT, RZ, tsc0, tz0, nq0, bs0, bn0, reduceLT, reduceLeDiff, reduceEqDiff, reduceMul, reduceAdd, reduceSub, reduceCtorEq, getD_4, getD_5, idxX_row, lenX_row, l44_0, t3, t6, t7, t8, hc, a1, hz', w1]
      exact ⟨n - 1, by omega, i + 1, rfl, by omega, by omega⟩
    | false =>
      have hz' : (l[i] != 0) = true := by simp [bne, hz]
      simp only [RS, RT, RZ, tsc0, tz0, nq0, bs0, bn0, reduceLT, reduceLeDiff, reduceEqDiff, reduceMul, reduceAdd, reduceSub, reduceCtorEq, getD_4, getD_5, idxX_row, lenX_row, l44_0, t3, t6, t7, t8, hc, a1, hz', w1]
      exact ⟨_, rfl⟩
  · simp only [RS, RT, RZ, tsc0, tz0, nq0, bs0, bn0, reduceLT, reduceLeDiff, reduceEqDiff, reduceMul, reduceAdd, reduceSub, reduceCtorEq, getD_4, getD_5, idxX_row, lenX_row, l44_0, t3, t6, t7, t8, hc]
theorem or_c {k : SK} {l : List Int} (hl : l.length < 1000000) {st : St} : ∃ v, callW Q (.fn 44) [.slice k (intsA l)] .normal st = some (.ret v, st, none) ∧ ∃ z : Int, v = .int .i64 z := by
  refine callYe (N := 18) (ok44 hK) (hK.nx _ _ _ rfl) rfl ?_
  simp only [RS, RT, RZ, tsc0, tz0, nq0, bs0, bn0, reduceLT, reduceLeDiff, reduceEqDiff, reduceMul, reduceAdd, reduceSub, reduceCtorEq, getD_4, getD_5, idxX_row, lenX_row, x44, intsA_len]
  refine post_bind (or_loop hK (st0 := ⟨st.heap, st.next, []⟩) (k := k) (l := l) hl (l.length + 1) _ _ ⟨0, ?_, ?_, ?_, ?_, by omega, by omega, rfl⟩) ?_
  all_goals try (simp only [RS, RT, RZ, tsc0, tz0, nq0, bs0, bn0, reduceLT, reduceLeDiff, reduceEqDiff, reduceMul, reduceAdd, reduceSub, reduceCtorEq, getD_4, getD_5, idxX_row, lenX_row, cast_0]; done)
  rintro e T' st1 ⟨rfl, ⟨rfl, z, hz⟩ | ⟨rfl, t3⟩⟩
  · simp only [RS, RT, RZ, tsc0, tz0, nq0, bs0, bn0, reduceLT, reduceLeDiff, reduceEqDiff, reduceMul, reduceAdd, reduceSub, reduceCtorEq, getD_4, getD_5, idxX_row, lenX_row, F44, hz]
    exact ⟨.int .i64 z, rfl, ⟨z, rfl⟩, rfl⟩
  · simp only [RS, RT, RZ, tsc0, tz0, nq0, bs0, bn0, reduceLT, reduceLeDiff, reduceEqDiff, reduceMul, reduceAdd, reduceSub, reduceCtorEq, getD_4, getD_5, idxX_row, lenX_row, F44, t3]
    exact ⟨.int .i64 0, rfl, ⟨_, rfl⟩, rfl⟩
theorem cmpV_c {v w : LV} (hl : v.es.length < 1000000) {st : St} : ∃ r, callW Q (.fn 43) [v.av, w.av] .normal st = some (.ret r, st, none) ∧ ∃ z : Int, r = .int .i64 z := by
  refine callYe (N := 17) (ok43 hK) (hK.nx _ _ _ rfl) rfl ?_
  have h1 := fun st => ordL_c hK (k1 := v.k) (k2 := w.k) (l1 := v.es) (l2 := w.es) hl (st := st)
  obtain ⟨a, b1, z1, rfl⟩ := h1 ⟨upd (upd st.heap st.next (.mem 24 [.bool v.il, .int .i64 v.n, .slice v.k (intsA v.es)] true 0)) (st.next + 1) (.mem 24 [.bool w.il, .int .i64 w.n, .slice w.k (intsA w.es)] true 0), st.next + 2, []⟩
  obtain ⟨a, b2, z2, rfl⟩ := or_c hK (k := .exact) (l := [cmpI v.n w.n, z1]) (by simp) (st := ⟨upd (upd st.heap st.next (.mem 24 [.bool v.il, .int .i64 v.n, .slice v.k (intsA v.es)] true 0)) (st.next + 1) (.mem 24 [.bool w.il, .int .i64 w.n, .slice w.k (intsA w.es)] true 0), st.next + 2, []⟩)
  simp only [intsA, List.map_cons, List.map_nil] at b2
  simp only [intsA] at b1
  simp only [RS, RT, RZ, tsc0, tz0, nq0, bs0, bn0, reduceLT, reduceLeDiff, reduceEqDiff, reduceMul, reduceAdd, reduceSub, reduceCtorEq, getD_4, getD_5, idxX_row, lenX_row, x43, kd43_0, F43, LV.av, LV.cells, cmpI_c hK, b1, b2, intsA]
  exact ⟨.int .i64 z2, rfl, ⟨z2, rfl⟩, rfl⟩
end
end Go.Proofs.P31

namespace Go.Proofs.P31
open Go Go.AE
open Nat (reduceLT reduceLeDiff reduceEqDiff reduceMul reduceAdd reduceSub)
set_option maxHeartbeats 8000000
def flatL (l : List LV) : List AV := l.flatMap LV.cells
theorem flatL_drop : ∀ (l : List LV) (i : Nat), (flatL l).drop (i * 3) = flatL (l.drop i)
  | [], i => by simp [flatL]
  | v :: l, 0 => rfl
  | v :: l, i + 1 => by
    have := flatL_drop l i
    rw [show (i + 1) * 3 = 3 + i * 3 by omega, ← List.drop_drop, List.drop_succ_cons]
    exact this
theorem part_flat {l : List LV} {i : Nat} {v : LV} (h : l[i]? = some v) : partX true 3 ((flatL l).drop (i * 3)) = some (.agg [.bool v.il, .int .i64 v.n, .slice v.k (intsA v.es)]) := by
  obtain ⟨h1, rfl⟩ := List.getElem?_eq_some_iff.1 h
  rw [flatL_drop, List.drop_eq_getElem_cons h1]
  rfl
structure RowL (h : Nat → AO) (nx : Nat) (v : AV) (l : List LV) : Prop where
  ex : ∃ A, v = .row A 0 l.length none ∧ h A = .mem 24 (flatL l) true 0 ∧ A < nx
  len : l.length < 1000000
  sm : ∀ x ∈ l, x.es.length < 1000000
theorem RowL.mono {h h' : Nat → AO} {nx nx' : Nat} {v : AV} {l : List LV} (a : RowL h nx v l) (hh : ∀ q, q < nx → (∃ cs, h q = .mem 24 cs true 0) → h' q = h q) (hn : nx ≤ nx') : RowL h' nx' v l := by
  obtain ⟨⟨A, h1, h2, h3⟩, h4, h5⟩ := a
  exact ⟨⟨A, h1, by rw [hh A h3 ⟨_, h2⟩]; exact h2, by omega⟩, h4, h5⟩
section
variable {Q : Ctx} (hK : K Q)
include hK
theorem cmpW_c {v w : LV} (hl : v.es.length < 1000000) {st : St} : ∃ z : Int, callW Q (.fn 43) [v.av, w.av] .normal st = some (.ret (.int .i64 z), st, none) := by
  obtain ⟨_, h, z, rfl⟩ := cmpV_c hK (v := v) (w := w) hl (st := st)
  exact ⟨z, h⟩
theorem cmpR_loop {n0 : Nat} {v w : AV} {l1 l2 : List LV} : ∀ (n : Nat) T st, (∃ (i : Nat), T 0 = v ∧ T 1 = w ∧ T 2 = .func (.func 43) [] [] ∧ T 11 = v ∧ T 12 = .int .i64 (l1.length : Int) ∧ T 13 = .int .i64 (i : Int) ∧ l1.length < i + n ∧ i ≤ l1.length ∧ RowL st.heap n0 v l1 ∧ RowL st.heap n0 w l2 ∧ n0 ≤ st.next ∧ LogOk n0 st.log) →
    Post 39 [] none (execY (callW Q) Q false 87 none (.loop l87_0) ⟨T, 39, [], none⟩ st) fun e T' st' => LogOk n0 st'.log ∧ ((e = .ret ∧ ∃ z, T' 6 = .int .i64 z) ∨ (e = .exit 0 ∧ T' 0 = v ∧ T' 1 = w)) := by
  refine post_loop fun n T st => ?_
  rintro ⟨i, t0, t1, t2, t11, t12, t13, hn, hi, hv, hw, hnx, hlg⟩
  obtain ⟨h, nx, lg⟩ := st
  obtain ⟨⟨A, rfl, hA, hA3⟩, hl1, hs1⟩ := hv
  obtain ⟨⟨B, rfl, hB, hB3⟩, hl2, hs2⟩ := hw
  simp only at hA hB hnx hlg
  by_cases hc : i < l1.length
  · have a1 := part_flat (List.getElem?_eq_getElem hc)
    have nA : (A = nx) = False := eq_false (by omega)
    have nB : (B = nx) = False := eq_false (by omega)
    have nA1 : (A = nx + 1) = False := eq_false (by omega)
    have nB1 : (B = nx + 1) = False := eq_false (by omega)
    by_cases hc2 : i < l2.length
    · have a2 := part_flat (List.getElem?_eq_getElem hc2)
      have hc2n : ¬ l2.length ≤ i := by omega
      have w1 := wrapN (z := (i : Int) + 1) (n := i + 1) (by omega) (by omega)
      obtain ⟨zf, hz1⟩ := Classical.axiomOfChoice (fun st : St => cmpW_c hK (v := l1[i]) (w := l2[i]) (hs1 _ (List.getElem_mem hc)) (st := st))
      simp only [LV.av, LV.cells] at hz1
      simp only [RS, RT, RZ, tsc0, tz0, nq0, bs0, bn0, reduceLT, reduceLeDiff, reduceEqDiff, reduceMul, reduceAdd, reduceSub, reduceCtorEq, getD_4, getD_5, idxX_row, lenX_row, l87_0, t0, t1, t2, t11, t12, t13, hc, hc2, hc2n, a1, a2, hA, hB, Nat.zero_add, nA, nB, nA1, nB1, hz1]
      generalize zf _ = z
      cases hz0 : (z == 0) with
      | true =>
        have hz' : (z != 0) = false := by simp [bne, hz0]
        simp only [RS, RT, RZ, tsc0, tz0, nq0, bs0, bn0, reduceLT, reduceLeDiff, reduceEqDiff, reduceMul, reduceAdd, reduceSub, reduceCtorEq, getD_4, getD_5, idxX_row, lenX_row, hz', w1, t0, t1, t2, t11, t12, t13]
        refine ⟨n - 1, by omega, i + 1, rfl, by omega, by omega, ⟨⟨A, rfl, ?_, hA3⟩, hl1, hs1⟩, ⟨⟨B, rfl, ?_, hB3⟩, hl2, hs2⟩, by omega, ⟨by omega, hnx, hlg⟩⟩
        · rw [upd_ne _ _ (by omega), upd_ne _ _ (by omega), upd_ne _ _ (by omega), upd_ne _ _ (by omega), hA]
        · rw [upd_ne _ _ (by omega), upd_ne _ _ (by omega), upd_ne _ _ (by omega), upd_ne _ _ (by omega), hB]
      | false =>
        have hz' : (z != 0) = true := by simp [bne, hz0]
        simp only [RS, RT, RZ, tsc0, tz0, nq0, bs0, bn0, reduceLT, reduceLeDiff, reduceEqDiff, reduceMul, reduceAdd, reduceSub, reduceCtorEq, getD_4, getD_5, idxX_row, lenX_row, hz', w1, t0, t1, t2, t11, t12, t13]
        exact ⟨⟨by omega, hnx, hlg⟩, _, rfl⟩
    · have hc2' : l2.length ≤ i := by omega
      simp only [RS, RT, RZ, tsc0, tz0, nq0, bs0, bn0, reduceLT, reduceLeDiff, reduceEqDiff, reduceMul, reduceAdd, reduceSub, reduceCtorEq, getD_4, getD_5, idxX_row, lenX_row, l87_0, t0, t1, t2, t11, t12, t13, hc, hc2', a1, hA, hB, Nat.zero_add]
      exact ⟨⟨hnx, hlg⟩, _, rfl⟩
  · simp only [RS, RT, RZ, tsc0, tz0, nq0, bs0, bn0, reduceLT, reduceLeDiff, reduceEqDiff, reduceMul, reduceAdd, reduceSub, reduceCtorEq, getD_4, getD_5, idxX_row, lenX_row, l87_0, t0, t1, t2, t11, t12, t13, hc]
    exact hlg
theorem cmpR_c {v w : AV} {l1 l2 : List LV} {st : St} (hv : RowL st.heap st.next v l1) (hw : RowL st.heap st.next w l2) : ∃ r, callW Q (.fn 87) [v, w, .func (.func 43) [] []] .normal st = some (.ret r, st, none) ∧ ∃ z : Int, r = .int .i64 z := by
  refine callYe (N := 39) (ok87 hK) (hK.nx _ _ _ rfl) rfl ?_
  have hlv : lenX v = some (.int .i64 (l1.length : Int)) := by obtain ⟨⟨A, rfl, _⟩, _⟩ := hv; rfl
  have hlw : lenX w = some (.int .i64 (l2.length : Int)) := by obtain ⟨⟨A, rfl, _⟩, _⟩ := hw; rfl
  simp only [RS, RT, RZ, tsc0, tz0, nq0, bs0, bn0, reduceLT, reduceLeDiff, reduceEqDiff, reduceMul, reduceAdd, reduceSub, reduceCtorEq, getD_4, getD_5, idxX_row, lenX_row, x87, hlv]
  refine post_bind (cmpR_loop hK (n0 := st.next) (v := v) (w := w) (l1 := l1) (l2 := l2) (l1.length + 1) _ _ ⟨0, ?_, ?_, ?_, ?_, ?_, ?_, by omega, by omega, hv, hw, Nat.le_refl _, fun l hl => nomatch hl⟩) ?_
  all_goals try (simp only [RS, RT, RZ, tsc0, tz0, nq0, bs0, bn0, reduceLT, reduceLeDiff, reduceEqDiff, reduceMul, reduceAdd, reduceSub, reduceCtorEq, getD_4, getD_5, idxX_row, lenX_row, cast_0]; done)
  rintro e T' ⟨h1, nx1, lg1⟩ ⟨hlg, ⟨rfl, z, hz⟩ | ⟨rfl, t0, t1⟩⟩
  · simp only [RS, RT, RZ, tsc0, tz0, nq0, bs0, bn0, reduceLT, reduceLeDiff, reduceEqDiff, reduceMul, reduceAdd, reduceSub, reduceCtorEq, getD_4, getD_5, idxX_row, lenX_row, F87, hz]
    exact ⟨.int .i64 z, rfl, ⟨z, rfl⟩, rfl, hlg⟩
  · by_cases hd : l1.length < l2.length
    · simp only [RS, RT, RZ, tsc0, tz0, nq0, bs0, bn0, reduceLT, reduceLeDiff, reduceEqDiff, reduceMul, reduceAdd, reduceSub, reduceCtorEq, getD_4, getD_5, idxX_row, lenX_row, F87, t0, t1, hlv, hlw, hd]
      exact ⟨.int .i64 (-1), rfl, ⟨_, rfl⟩, rfl, hlg⟩
    · simp only [RS, RT, RZ, tsc0, tz0, nq0, bs0, bn0, reduceLT, reduceLeDiff, reduceEqDiff, reduceMul, reduceAdd, reduceSub, reduceCtorEq, getD_4, getD_5, idxX_row, lenX_row, F87, t0, t1, hlv, hlw, hd]
      exact ⟨.int .i64 0, rfl, ⟨_, rfl⟩, rfl, hlg⟩
theorem cmpO_c {v w : AV} {l1 l2 : List LV} {st : St} (hv : RowL st.heap st.next v l1) (hw : RowL st.heap st.next w l2) : ∃ r, callW Q (.fn 42) [v, w, .func (.func 43) [] []] .normal st = some (.ret r, st, none) ∧ ∃ z : Int, r = .int .i64 z := by
  refine callYe (N := 11) (ok42 hK) (hK.nx _ _ _ rfl) rfl ?_
  obtain ⟨_, h1, z, rfl⟩ := cmpR_c hK (v := v) (w := w) (l1 := l1) (l2 := l2) (st := ⟨st.heap, st.next, []⟩) hv hw
  simp only [RS, RT, RZ, tsc0, tz0, nq0, bs0, bn0, reduceLT, reduceLeDiff, reduceEqDiff, reduceMul, reduceAdd, reduceSub, reduceCtorEq, getD_4, getD_5, idxX_row, lenX_row, x42, F42, h1]
  exact ⟨.int .i64 z, rfl, ⟨z, rfl⟩, rfl⟩
theorem cmp_c {v w : AV} {l1 l2 : List LV} {st : St} (hv : RowL st.heap st.next v l1) (hw : RowL st.heap st.next w l2) : ∃ z : Int, callW Q (.fn 27) [v, w] .normal st = some (.ret (.int .i64 z), st, none) := by
  have : ∃ r, callW Q (.fn 27) [v, w] .normal st = some (.ret r, st, none) ∧ ∃ z : Int, r = .int .i64 z := by
    refine callYe (N := 8) (ok27 hK) (hK.nx _ _ _ rfl) rfl ?_
    obtain ⟨_, h1, z, rfl⟩ := cmpO_c hK (v := v) (w := w) (l1 := l1) (l2 := l2) (st := ⟨st.heap, st.next, []⟩) hv hw
    simp only [RS, RT, RZ, tsc0, tz0, nq0, bs0, bn0, reduceLT, reduceLeDiff, reduceEqDiff, reduceMul, reduceAdd, reduceSub, reduceCtorEq, getD_4, getD_5, idxX_row, lenX_row, x27, F27, h1]
    exact ⟨.int .i64 z, rfl, ⟨z, rfl⟩, rfl⟩
  obtain ⟨r, h, z, rfl⟩ := this
  exact ⟨z, h⟩
theorem eqv_c {v w : AV} {l1 l2 : List LV} {st : St} (hv : RowL st.heap st.next v l1) (hw : RowL st.heap st.next w l2) : ∃ z : Bool, callW Q (.fn 29) [v, w] .normal st = some (.ret (.bool z), st, none) := by
  have : ∃ r, callW Q (.fn 29) [v, w] .normal st = some (.ret r, st, none) ∧ ∃ z : Bool, r = .bool z := by
    refine callYe (N := 9) (ok29 hK) (hK.nx _ _ _ rfl) rfl ?_
    obtain ⟨z, h1⟩ := cmp_c hK (v := v) (w := w) (l1 := l1) (l2 := l2) (st := ⟨st.heap, st.next, []⟩) hv hw
    simp only [RS, RT, RZ, tsc0, tz0, nq0, bs0, bn0, reduceLT, reduceLeDiff, reduceEqDiff, reduceMul, reduceAdd, reduceSub, reduceCtorEq, getD_4, getD_5, idxX_row, lenX_row, x29, F29, h1]
    exact ⟨_, rfl, ⟨_, rfl⟩, rfl⟩
  obtain ⟨r, h, z, rfl⟩ := this
  exact ⟨z, h⟩
end
end Go.Proofs.P31

namespace Go.Proofs.P31
open Go Go.AE
open Nat (reduceLT reduceLeDiff reduceEqDiff reduceMul reduceAdd reduceSub)
set_option maxHeartbeats 8000000
theorem sliceA_row {C : Ctx} {st : St} {t e : TypeId} {n1 m1 : Nat} {ag : Bool} {z : List AV} {pl : List (Nat × Nat)} {ei : TI} {l off len : Nat} {lim : Option Nat} {lo hi mx : Option Nat} {cs : List AV} {fu : Bool} {fz : Nat}
    (h : C.ty t = some ⟨.slice e, n1, m1, ag, z, pl⟩) (he : C.ty e = some ei) (hm : (hi.isNone && mx.isSome) = false) (hp : st.heap l = .mem e cs fu fz) (hs : 0 < ei.size) : sliceA C st t (.row l off len lim) lo hi mx = sliceR l off len lim ei.size cs.length lo hi mx := by
  simp only [sliceA, h, hm, Bool.false_eq_true, if_false, sizeIs, he, Option.map_some, hp]
  rw [if_pos ⟨trivial, hs⟩]
theorem sliceR_lo {l len size room a : Nat} (h : (a ≤ len ∧ len * size ≤ room) = True) : sliceR l 0 len none size room (some a) none none = some (.row l (a * size) (len - a) none) := by
  have h := of_eq_true h
  simp only [sliceR, Option.getD_none, Option.getD_some, Nat.zero_add, limOk]
  rw [if_pos ⟨h.1, h.2, trivial⟩]
  rfl
theorem sliceR_hi {l len size room b : Nat} (h : (b * size ≤ room) = True) : sliceR l 0 len none size room none (some b) none = some (.row l 0 b none) := by
  have h := of_eq_true h
  simp only [sliceR, Option.getD_none, Option.getD_some, Nat.zero_add, Nat.zero_mul, Nat.sub_zero, limOk]
  rw [if_pos ⟨Nat.zero_le _, h, trivial⟩]
  rfl
theorem gA_clear {C : Ctx} {mu ro : Bool} {fr : Fr} {st : St} {x : Operand} {t : TypeId} {ds : Option Tmp} {ty : TypeId} {pos : String} {af : Array Edge} {g : Option (Nat × Bool)} :
    opA C mu ro fr st ⟨ds, .call { callee := .builtin .clear, args := #[x], argTypes := #[t] }, ty, pos, af, g⟩ = ovs (builtinClear C st t (oval C fr x)) := (rfl)
theorem clear_row {C : Ctx} {st : St} {t e : TypeId} {n1 m1 : Nat} {ag : Bool} {z : List AV} {pl : List (Nat × Nat)} {ei : TI} {l off len : Nat} {lim : Option Nat}
    (h : C.ty t = some ⟨.slice e, n1, m1, ag, z, pl⟩) (he : C.ty e = some ei) : builtinClear C st t (.row l off len lim) = (sto st l off (flat (List.replicate len ei.zeroV))).map fun st => (undefA, st) := by
  simp only [builtinClear, h, he]
theorem chunk_cells {ei : TI} (h1 : ei.isAgg = false) (h2 : ei.size = 1) : ∀ (n : Nat) (cs : List AV), n ≤ cs.length → chunk ei n cs = some (cs.take n)
  | 0, cs, _ => by simp [chunk]
  | n + 1, [], h => by simp at h
  | n + 1, c :: cs, h => by
    have := chunk_cells h1 h2 n cs (by simpa using h)
    simp only [chunk, TI.part, h1, Bool.false_eq_true, if_false, h2, List.head?_cons, List.drop_succ_cons, List.drop_zero, this, List.take_succ_cons]
theorem rowElems_cells {st : St} {ei : TI} {l k : Nat} {cs : List AV} {e : TypeId} {fu : Bool} {fz : Nat} (h1 : ei.isAgg = false) (h2 : ei.size = 1) (hp : st.heap l = .mem e cs fu fz) (hk : k ≤ cs.length) (hn : ∀ c ∈ cs, c.noAgg = true) : rowElems st ei l 0 k = some (cs.take k) := by
  have e1 : ((cs.drop 0).take (k * ei.size)) = cs.take k := by rw [h2, Nat.mul_one, List.drop_zero]
  have e2 : (cs.take k).length = k := by simp; omega
  simp only [rowElems, rowCells, hp]
  rw [e1, h2, Nat.mul_one, if_pos e2]
  simp only [h1, Bool.false_or, beq_self_eq_true, Bool.true_and]
  rw [if_pos (List.all_eq_true.2 fun c hc => hn c (List.mem_of_mem_take hc)), chunk_cells h1 h2 k _ (by rw [e2]; exact Nat.le_refl _), List.take_take, Nat.min_self]
structure CI (G : Srt) (cs : List AV) (st : St) : Prop where
  row : st.heap G.r = .mem 33 cs G.full 0
  old : ∀ l, l < G.n0 → l ≠ G.r → st.heap l = G.h l
  nx : G.n0 ≤ st.next
  len : cs.length = G.cs0.length
  sub : ∀ c ∈ cs, c ∈ G.cs0
  log : ∀ l ∈ st.log, l = G.r ∨ G.n0 ≤ l ∨ l ∈ G.lg
structure Srt.OK2 (G : Srt) (Q : Ctx) : Prop extends G.OK Q where
  lim : G.lim = none
  na : ∀ v, G.S v → v.noAgg = true
  ut : ∀ v, G.S v → untok v = v
  eq : ∀ v w st, (∀ l, l < G.n0 → l ≠ G.r → st.heap l = G.h l) → G.n0 ≤ st.next → G.S v → G.S w → ∃ z : Bool, callW Q (.fn 29) [v, w] .normal st = some (.ret (.bool z), st, none)
theorem SI.ci {G : Srt} {cs : List AV} {st : St} (h : SI G cs st) : CI G cs st := ⟨h.row, h.old, h.nx, h.len, fun c hc => h.perm.mem_iff.1 hc, h.log⟩
variable {G : Srt} {Q : Ctx} {cs : List AV}
theorem CI.el {st : St} (hI : CI G cs st) (ok : G.OK2 Q) {i : Nat} (hi : i < G.cs0.length) : ∃ v, cs[i]? = some v ∧ v.cells = [v] ∧ v.isCell = true ∧ i + 1 ≤ G.cs0.length ∧ G.S v ∧ v ∈ G.cs0 := by
  have h1 : i < cs.length := by rw [hI.len]; exact hi
  have h2 := hI.sub _ (List.getElem_mem h1)
  have := ok.all _ h2
  exact ⟨cs[i], List.getElem?_eq_getElem h1, ok.cell _ this, ok.ic _ this, hi, this, h2⟩
theorem CI.eqv {h : Nat → AO} {nx : Nat} {lg : List Nat} (hI : CI G cs ⟨h, nx, lg⟩) (ok : G.OK2 Q) {v w : AV} (hv : G.S v) (hw : G.S w) : ∃ n : Bool, callW Q (.fn 29) [v, w] .normal ⟨h, nx, []⟩ = some (.ret (.bool n), ⟨h, nx, []⟩, none) :=
  ok.eq v w ⟨h, nx, []⟩ hI.old hI.nx hv hw
theorem CI.set {h : Nat → AO} {nx : Nat} {lg : List Nat} {i : Nat} {v : AV} (a : CI G cs ⟨h, nx, lg⟩) (hv : v ∈ G.cs0) : CI G (cs.set i v) ⟨upd h G.r (.mem 33 (cs.set i v) G.full 0), nx, G.r :: lg⟩ :=
  ⟨upd_same .., fun l hl hr => by simp only; rw [upd_ne _ _ hr]; exact a.old l hl hr, a.nx, by rw [List.length_set]; exact a.len, fun c hc => by
    rcases List.mem_or_eq_of_mem_set hc with h | h
    · exact a.sub c h
    · rw [h]; exact hv, fun l hl => by
    simp only [List.mem_cons] at hl
    rcases hl with rfl | hl
    · exact .inl rfl
    · exact a.log l hl⟩
def eqvV : AV := .func (.func 29) [] []
structure CmpD (G : Srt) (kk : SK) (es : List AV) (st' : St) : Prop where
  ne : 1 ≤ es.length
  le : es.length ≤ G.cs0.length
  sub : ∀ e ∈ es, e ∈ G.cs0
  old : ∀ l, l < G.n0 → l ≠ G.r → st'.heap l = G.h l
  nx : G.n0 ≤ st'.next
  log : ∀ l ∈ st'.log, l = G.r ∨ G.n0 ≤ l ∨ l ∈ G.lg
  kk : kk = .exact ∨ kk = .open_
section
variable (hK : K Q) (ok : G.OK2 Q)
include hK ok
omit hK ok in
theorem flat_rep (n : Nat) : (flat (List.replicate n (AV.slice .nil []))).length = n := by
  induction n with
  | zero => rfl
  | succ n ih => rw [List.replicate_succ]; show (_ :: flat _).length = _; rw [List.length_cons, ih]
omit hK ok in
theorem clr_len (cs : List AV) (k : Nat) {len : Nat} (hl : cs.length = len) (hk : k < len) : (splice k (flat (List.replicate (len - k) (.slice .nil []))) cs).length = len := by
  simp only [splice, List.length_append, List.length_take, List.length_drop, flat_rep]; omega
omit hK ok in
theorem clr_take (cs : List AV) (k : Nat) {len : Nat} (hl : cs.length = len) (hk : k < len) : (splice k (flat (List.replicate (len - k) (.slice .nil []))) cs).take k = cs.take k := by
  simp only [splice, List.append_assoc]
  rw [List.take_append_of_le_length (by simp; omega), List.take_take, Nat.min_self]
omit hK ok in
theorem clr_sub (cs : List AV) (k : Nat) {len : Nat} {c : AV} (h : c ∈ splice k (flat (List.replicate (len - k) (.slice .nil []))) cs) : c ∈ cs ∨ c = .slice .nil [] := by
  simp only [splice, List.mem_append] at h
  rcases h with (h | h) | h
  · exact .inl (List.mem_of_mem_take h)
  · right
    simp only [flat, List.mem_flatMap, List.mem_replicate] at h
    obtain ⟨a, ⟨_, rfl⟩, h⟩ := h
    simpa [AV.cells] using h
  · exact .inl (List.mem_of_mem_drop h)
omit ok in
theorem slice28_lo {st : St} {r len k : Nat} {cs : List AV} {fu : Bool} {fz : Nat} (hp : st.heap r = .mem 33 cs fu fz) (hl : cs.length = len) (hk : k ≤ len) : sliceA Q st 28 (.row r 0 len none) (some k) none none = some (.row r k (len - k) none) := by
  have hty := tw28 hK
  unfold T28 at hty
  rw [sliceA_row hty (tw33 hK) rfl hp (by decide), hl, sliceR_lo (eq_true ⟨hk, by simp [T33]⟩)]
  simp [T33]
omit ok in
theorem slice28_hi {st : St} {r len k : Nat} {cs : List AV} {fu : Bool} {fz : Nat} (hp : st.heap r = .mem 33 cs fu fz) (hl : cs.length = len) (hk : k ≤ len) : sliceA Q st 28 (.row r 0 len none) none (some k) none = some (.row r 0 k none) := by
  have hty := tw28 hK
  unfold T28 at hty
  rw [sliceA_row hty (tw33 hK) rfl hp (by decide), hl, sliceR_hi (eq_true (by simp [T33]; exact hk))]
omit ok in
theorem clear28 {h : Nat → AO} {nx : Nat} {lg : List Nat} {r len k : Nat} {cs : List AV} {fu : Bool} (hp : h r = .mem 33 cs fu 0) (hl : cs.length = len) (hk : k < len) :
    builtinClear Q ⟨h, nx, lg⟩ 28 (.row r k (len - k) none) = some (undefA, ⟨upd h r (.mem 33 (splice k (flat (List.replicate (len - k) (.slice .nil []))) cs) fu 0), nx, r :: lg⟩) := by
  have hty := tw28 hK
  unfold T28 at hty
  have e : (flat (List.replicate (len - k) (AV.slice .nil []))).length = len - k := by
    generalize len - k = n
    induction n with
    | zero => rfl
    | succ n ih => rw [List.replicate_succ]; show (_ :: flat _).length = _; rw [List.length_cons, ih]
  have e2 : (flat (List.replicate (len - k) (AV.slice .nil []))).all AV.isCell = true := by
    generalize len - k = n
    induction n with
    | zero => rfl
    | succ n ih => rw [List.replicate_succ]; show (AV.isCell _ && (flat _).all _) = true; rw [ih]; rfl
  rw [clear_row hty (tw33 hK), show T33.zeroV = .slice .nil [] from rfl, sto_pos (eq_true (by rw [e]; omega)), show ({ heap := h, next := nx, log := lg } : St).heap r = _ from hp, stO_mem (by rw [e]; omega) (Nat.zero_le _) e2]
  rfl
theorem cpt_in {k0 : Nat} (hk0 : 1 ≤ k0) (hkl : k0 < G.cs0.length) : ∀ (n : Nat) T st, (∃ (k k2 : Nat) (cs : List AV), T 0 = rowV G ∧ T 1 = eqvV ∧ T 5 = .int .i64 (k : Int) ∧ T 6 = .row G.r k0 (G.cs0.length - k0) none ∧ T 7 = .int .i64 (k2 : Int) ∧ k0 ≤ k ∧ k < k0 + k2 ∧ k0 + k2 ≤ G.cs0.length ∧ G.cs0.length < k2 + n ∧ 1 ≤ k2 ∧ CI G cs st) →
    Post 66 [] none (execY (callW Q) Q false 28 none (.loop l28_0) ⟨T, 66, [], none⟩ st) fun e T' st' => e = .exit 2 ∧ ∃ (k : Nat) (cs : List AV), T' 0 = rowV G ∧ T' 5 = .int .i64 (k : Int) ∧ 1 ≤ k ∧ k < G.cs0.length ∧ CI G cs st' := by
  refine post_loop fun n T st => ?_
  rintro ⟨k, k2, cs, t0, t1, t5, t6, t7, hk1, hk2, hk3, hn, hk4, hI⟩
  obtain ⟨h, nx, lg⟩ := st
  have hsm := ok.small
  have hlen := hI.len
  have hrow := hI.row
  have hrn : G.r < nx := Nat.lt_of_lt_of_le ok.rn hI.nx
  have hlim := ok.lim
  simp only [rowV, eqvV, hlim] at t0 t1 hrow
  by_cases hc : k2 < G.cs0.length - k0
  · have l1 : k0 + k2 < G.cs0.length := by omega
    have l2 : k0 + (k2 - 1) < G.cs0.length := by omega
    have l3 : k < G.cs0.length := by omega
    have l4 : k2 - 1 < G.cs0.length - k0 := by omega
    obtain ⟨v, v1, v2, v3, v4, v5, v6⟩ := hI.el ok l1
    obtain ⟨w, w1, w2, w3, w4, w5, w6⟩ := hI.el ok l2
    obtain ⟨b, e1⟩ := hI.eqv ok v5 w5
    have q1 := wrapN (z := (k2 : Int) - 1) (n := k2 - 1) (by omega) (by omega)
    have q2 := wrapN (z := (k2 : Int) + 1) (n := k2 + 1) (by omega) (by omega)
    have q3 := wrapN (z := (k : Int) + 1) (n := k + 1) (by omega) (by omega)
    cases b with
    | true =>
      simp only [RS, RT, RZ, tsc0, tz0, nq0, bs0, bn0, reduceLT, reduceLeDiff, reduceEqDiff, reduceMul, reduceAdd, reduceSub, reduceCtorEq, hlen, hrn, hrow, idxX_row, lenX_row, Nat.zero_add, Nat.mul_one, splice_set, List.length_set, rowV, l28_0, kd28_0, kd28_1, hlim, eqvV, t0, t1, t5, t6, t7, hc, l1, l2, l3, l4, v1, v2, v3, w1, w2, w3, e1, q1, q2, q3]
      exact ⟨n - 1, by omega, k, k2 + 1, cs, rfl, rfl, by omega, by omega, by omega, by omega, by omega, hI⟩
    | false =>
      have l5 : k + 1 ≤ G.cs0.length := l3
      simp only [RS, RT, RZ, tsc0, tz0, nq0, bs0, bn0, reduceLT, reduceLeDiff, reduceEqDiff, reduceMul, reduceAdd, reduceSub, reduceCtorEq, hlen, hrn, hrow, idxX_row, lenX_row, Nat.zero_add, Nat.mul_one, splice_set, List.length_set, rowV, l28_0, kd28_0, kd28_1, hlim, eqvV, t0, t1, t5, t6, t7, hc, l1, l2, l3, l4, l5, v1, v2, v3, w1, w2, w3, e1, q1, q2, q3]
      exact ⟨n - 1, by omega, k + 1, k2 + 1, _, rfl, rfl, by omega, by omega, by omega, by omega, by omega, hI.set v6⟩
  · simp only [RS, RT, RZ, tsc0, tz0, nq0, bs0, bn0, reduceLT, reduceLeDiff, reduceEqDiff, reduceMul, reduceAdd, reduceSub, reduceCtorEq, hlen, hrn, hrow, idxX_row, lenX_row, Nat.zero_add, Nat.mul_one, splice_set, List.length_set, rowV, l28_0, kd28_0, kd28_1, hlim, eqvV, t0, t1, t5, t6, t7, hc]
    exact ⟨k, cs, rfl, by omega, by omega, hI⟩
theorem cpt_out : ∀ (n : Nat) T st, (∃ (k : Nat) (cs : List AV), T 0 = rowV G ∧ T 1 = eqvV ∧ T 5 = .int .i64 (k : Int) ∧ 1 ≤ k ∧ k ≤ G.cs0.length ∧ G.cs0.length < k + n ∧ CI G cs st) →
    Post 66 [] none (execY (callW Q) Q false 28 none (.loop l28_1) ⟨T, 66, [], none⟩ st) fun e T' st' => (e = .exit 0 ∧ T' 0 = rowV G ∧ ∃ (cs : List AV), CI G cs st') ∨ (e = .ret ∧ ∃ (k : Nat) (cs : List AV) (h : Nat → AO) (nx : Nat) (lg : List Nat), T' 4 = .row G.r 0 k none ∧ 1 ≤ k ∧ k < G.cs0.length ∧ CI G cs ⟨h, nx, lg⟩ ∧ st' = ⟨upd h G.r (.mem 33 (splice k (flat (List.replicate (G.cs0.length - k) (.slice .nil []))) cs) G.full 0), nx, G.r :: lg⟩) := by
  refine post_loop fun n T st => ?_
  rintro ⟨k, cs, t0, t1, t5, hk1, hk2, hn, hI⟩
  obtain ⟨h, nx, lg⟩ := st
  have hsm := ok.small
  have hlen := hI.len
  have hrow := hI.row
  have hrn : G.r < nx := Nat.lt_of_lt_of_le ok.rn hI.nx
  have hlim := ok.lim
  have hty := tw28 hK
  unfold T28 at hty
  have hty2 := tw33 hK
  simp only [rowV, eqvV, hlim] at t0 t1 hrow
  by_cases hc : k < G.cs0.length
  · have l2 : k - 1 < G.cs0.length := by omega
    obtain ⟨v, v1, v2, v3, v4, v5, v6⟩ := hI.el ok hc
    obtain ⟨w, w1, w2, w3, w4, w5, w6⟩ := hI.el ok l2
    obtain ⟨b, e1⟩ := hI.eqv ok v5 w5
    have q1 := wrapN (z := (k : Int) - 1) (n := k - 1) (by omega) (by omega)
    have q3 := wrapN (z := (k : Int) + 1) (n := k + 1) (by omega) (by omega)
    cases b with
    | false =>
      simp only [RS, RT, RZ, tsc0, tz0, nq0, bs0, bn0, reduceLT, reduceLeDiff, reduceEqDiff, reduceMul, reduceAdd, reduceSub, reduceCtorEq, hlen, hrn, hrow, idxX_row, lenX_row, Nat.zero_add, Nat.mul_one, splice_set, List.length_set, rowV, l28_1, kd28_0, kd28_1, hlim, eqvV, t0, t1, t5, hc, l2, v1, w1, e1, q1, q3]
      exact ⟨n - 1, by omega, k + 1, cs, rfl, by omega, by omega, by omega, hI⟩
    | true =>
      have s1 := slice28_lo hK (st := ⟨h, nx, lg⟩) hrow hlen (Nat.le_of_lt hc)
      simp only [RS, RT, RZ, tsc0, tz0, nq0, bs0, bn0, reduceLT, reduceLeDiff, reduceEqDiff, reduceMul, reduceAdd, reduceSub, reduceCtorEq, hlen, hrn, hrow, idxX_row, lenX_row, Nat.zero_add, Nat.mul_one, splice_set, List.length_set, rowV, l28_1, kd28_0, kd28_1, hlim, eqvV, t0, t1, t5, hc, l2, v1, w1, e1, q1, q3, s1]
      refine post_bind (cpt_in hK ok (k0 := k) hk1 hc (G.cs0.length) _ _ ⟨k, 1, cs, ?_, ?_, ?_, ?_, ?_, by omega, by omega, by omega, by omega, by omega, hI⟩) ?_
      all_goals try (simp only [RS, RT, RZ, tsc0, tz0, nq0, bs0, bn0, reduceLT, reduceLeDiff, reduceEqDiff, reduceMul, reduceAdd, reduceSub, reduceCtorEq, hlen, hrn, hrow, idxX_row, lenX_row, Nat.zero_add, Nat.mul_one, splice_set, List.length_set, rowV, hlim, eqvV, t0, t1, t5, cast_1]; done)
      rintro e T' ⟨h', nx', lg'⟩ ⟨rfl, k', cs', u0, u5, hk1', hk2', hI'⟩
      have hrow' := hI'.row
      have hlen' := hI'.len
      simp only [rowV, hlim] at u0 hrow'
      have s2 := slice28_lo hK (st := ⟨h', nx', lg'⟩) hrow' hlen' (Nat.le_of_lt hk2')
      have s3 := clear28 hK (lg := lg') (nx := nx') hrow' hlen' hk2'
      have s4 := slice28_hi hK (k := k') (st := ⟨upd h' G.r (.mem 33 (splice k' (flat (List.replicate (G.cs0.length - k') (.slice .nil []))) cs') G.full 0), nx', G.r :: lg'⟩) (upd_same ..) (len := G.cs0.length) (by
        rw [clr_len _ _ hlen' hk2']) (Nat.le_of_lt hk2')
      simp only [RS, RT, RZ, tsc0, tz0, nq0, bs0, bn0, reduceLT, reduceLeDiff, reduceEqDiff, reduceMul, reduceAdd, reduceSub, reduceCtorEq, u0, u5, s2, s3, s4, gA_clear]
      exact ⟨k', cs', h', nx', lg', rfl, hk1', hk2', hI', rfl⟩
  · simp only [RS, RT, RZ, tsc0, tz0, nq0, bs0, bn0, reduceLT, reduceLeDiff, reduceEqDiff, reduceMul, reduceAdd, reduceSub, reduceCtorEq, hlen, hrn, hrow, idxX_row, lenX_row, Nat.zero_add, Nat.mul_one, splice_set, List.length_set, rowV, l28_1, kd28_0, kd28_1, hlim, eqvV, t0, t1, t5, hc]
    exact ⟨_, hI⟩
omit ok in
theorem frz28 : Q.frz 28 = true := hK.frz_ (b := true) (by kernel_rfl)
theorem compact_c (hne : 1 ≤ G.cs0.length) {st : St} {cs : List AV} (hI : CI G cs st) (hrx : G.r < st.next) : ∃ kk es st', callW Q (.fn 28) [rowV G, eqvV] .normal st = some (.ret (.slice kk es), st', none) ∧ CmpD G kk es st' := by
  have hsm := ok.small
  have hlim := ok.lim
  have fin : ∀ (e : EX) (T : Nat → AV) (k : Nat) (h1 : Nat → AO) (nx1 : Nat) (lg1 : List Nat) (cs1 : List AV), endOf e = some none → T 4 = .row G.r 0 k none → h1 G.r = .mem 33 cs1 G.full 0 → cs1.length = G.cs0.length → 1 ≤ k → k ≤ G.cs0.length → (∀ c ∈ cs1, c.noAgg = true) → (∀ c ∈ cs1.take k, c ∈ G.cs0) → (∀ c ∈ cs1.take k, untok c = c) →
      (∀ l, l < G.n0 → l ≠ G.r → h1 l = G.h l) → G.n0 ≤ nx1 → (∀ l ∈ lg1, l = G.r ∨ G.n0 ≤ l ∨ l ∈ G.lg) → execY (callW Q) Q false 28 none x28 ⟨argTmps [rowV G, eqvV], 66, [], none⟩ ⟨st.heap, st.next, []⟩ = some (e, ⟨T, 66, [], none⟩, ⟨h1, nx1, lg1⟩) →
      ∃ kk es st', callW Q (.fn 28) [rowV G, eqvV] .normal st = some (.ret (.slice kk es), st', none) ∧ CmpD G kk es st' := by
    intro e T k h1 nx1 lg1 cs1 he ht hp hl hk1 hk hn hs hu old nx log hx
    have hut : untok (.slice .open_ (cs1.take k)) = .slice .open_ (cs1.take k) := by
      simp only [untok, SK.forget]
      congr 1
      have : ∀ l : List AV, (∀ c ∈ l, untok c = c) → untok.untokL l = l := fun l => by
        induction l with
        | nil => intro _; rfl
        | cons a l ih => intro h; simp only [untok.untokL]; rw [h a (by simp), ih fun c hc => h c (by simp [hc])]
      exact this _ hu
    have hfz : freezeR Q ⟨h1, nx1, lg1⟩ (.row G.r 0 k none) = some (.slice .open_ (cs1.take k), (⟨h1, nx1, lg1⟩ : St).set G.r .dead) := by
      simp only [freezeR, freezeV, hp, tw33 hK]
      rw [rowElems_cells (ei := T33) rfl rfl hp (by omega) hn]
      rfl
    have hc := callYr (st := st) (r := (.ret (.slice .open_ (cs1.take k)), leaveSt st [.slice .open_ (cs1.take k)] ((⟨h1, nx1, lg1⟩ : St).set G.r .dead), none)) (ok28 hK) (hK.nx _ _ _ rfl) (show max F28.ntmps [rowV G, eqvV].length = 66 from rfl) ⟨_, hx, by
      have := finish_ret (N := 66) (C := Q) (f := 28) (fi := F28) (kd := .normal) (call := callW Q) (pv := none) (T := T) (st1 := ⟨h1, nx1, lg1⟩) (st := st) (v0 := .row G.r 0 k none) (v := .slice .open_ (cs1.take k)) (st3 := (⟨h1, nx1, lg1⟩ : St).set G.r .dead) he (by simp only [RS, RT, RZ, tsc0, tz0, nq0, bs0, bn0, reduceLT, reduceLeDiff, reduceEqDiff, reduceMul, reduceAdd, reduceSub, reduceCtorEq, F28, ht]) (by
        rw [frz28 hK, if_pos rfl, hfz, Option.map_some, hut])
      exact this⟩
    rcases leave_cases (st0 := st) (st1 := (⟨h1, nx1, lg1⟩ : St).set G.r .dead) (vs := [.slice .open_ (cs1.take k)]) with ⟨_, e2⟩ | e1
    · exact absurd (e2 G.r (List.mem_cons_self ..)) (by omega)
    · refine ⟨.open_, cs1.take k, ⟨upd h1 G.r .dead, nx1, (G.r :: lg1).filter (· < st.next) ++ st.log⟩, by rw [hc, e1]; rfl, ⟨by rw [List.length_take]; omega, by rw [List.length_take]; omega, hs, fun l hl hr => ?_, nx, fun l hl => ?_, .inr rfl⟩⟩
      · simp only; rw [upd_ne _ _ hr]; exact old l hl hr
      · simp only at hl
        rcases List.mem_append.1 hl with hl | hl
        · have := (List.mem_filter.1 hl).1
          rcases List.mem_cons.1 this with rfl | h
          · exact .inl rfl
          · exact log l h
        · exact hI.log l hl
  have hna : ∀ c ∈ G.cs0, c.noAgg = true := fun c hc => ok.na _ (ok.all c hc)
  have hunt : ∀ c ∈ G.cs0, untok c = c := fun c hc => ok.ut _ (ok.all c hc)
  by_cases h2 : G.cs0.length < 2
  · have d2 : decide ((G.cs0.length : Int) < 2) = true := by rw [decide_eq_true_iff]; omega
    refine fin .ret _ G.cs0.length st.heap st.next [] cs rfl ?_ hI.row hI.len hne (Nat.le_refl _) (fun c hc => hna c (hI.sub c hc)) (fun c hc => hI.sub c (List.mem_of_mem_take hc)) (fun c hc => hunt c (hI.sub c (List.mem_of_mem_take hc))) hI.old hI.nx (fun l hl => nomatch hl) (by
      simp only [RS, RT, RZ, tsc0, tz0, nq0, bs0, bn0, reduceLT, reduceLeDiff, reduceEqDiff, reduceMul, reduceAdd, reduceSub, reduceCtorEq, x28, kd28_0, kd28_1, rowV, lenX_row, d2, hlim, eqvV]
      rfl)
    simp only [RS, RT, RZ, tsc0, tz0, nq0, bs0, bn0, reduceLT, reduceLeDiff, reduceEqDiff, reduceMul, reduceAdd, reduceSub, reduceCtorEq]
  · have d2 : decide ((G.cs0.length : Int) < 2) = false := by rw [decide_eq_false_iff_not]; omega
    have hB : Post 66 [] none (execY (callW Q) Q false 28 none x28 ⟨argTmps [rowV G, eqvV], 66, [], none⟩ ⟨st.heap, st.next, []⟩) fun e T st1 => endOf e = some none ∧ ∃ (k : Nat) (h1 : Nat → AO) (nx1 : Nat) (lg1 : List Nat) (cs1 : List AV), st1 = ⟨h1, nx1, lg1⟩ ∧ T 4 = .row G.r 0 k none ∧ h1 G.r = .mem 33 cs1 G.full 0 ∧ cs1.length = G.cs0.length ∧ 1 ≤ k ∧ k ≤ G.cs0.length ∧ (∀ c ∈ cs1, c.noAgg = true) ∧ (∀ c ∈ cs1.take k, c ∈ G.cs0) ∧
        (∀ l, l < G.n0 → l ≠ G.r → h1 l = G.h l) ∧ G.n0 ≤ nx1 ∧ (∀ l ∈ lg1, l = G.r ∨ G.n0 ≤ l ∨ l ∈ G.lg) := by
      simp only [RS, RT, RZ, tsc0, tz0, nq0, bs0, bn0, reduceLT, reduceLeDiff, reduceEqDiff, reduceMul, reduceAdd, reduceSub, reduceCtorEq, x28, kd28_0, kd28_1, rowV, lenX_row, d2, hlim, eqvV]
      refine post_bind (cpt_out hK ok (G.cs0.length) _ _ ⟨1, cs, ?_, ?_, ?_, by omega, by omega, by omega, ⟨hI.row, hI.old, hI.nx, hI.len, hI.sub, fun l hl => nomatch hl⟩⟩) ?_
      · simp only [RS, RT, RZ, tsc0, tz0, nq0, bs0, bn0, reduceLT, reduceLeDiff, reduceEqDiff, reduceMul, reduceAdd, reduceSub, reduceCtorEq, rowV, hlim]
      · simp only [RS, RT, RZ, tsc0, tz0, nq0, bs0, bn0, reduceLT, reduceLeDiff, reduceEqDiff, reduceMul, reduceAdd, reduceSub, reduceCtorEq, eqvV]
      · simp only [RS, RT, RZ, tsc0, tz0, nq0, bs0, bn0, reduceLT, reduceLeDiff, reduceEqDiff, reduceMul, reduceAdd, reduceSub, reduceCtorEq, cast_1]
      rintro e T' ⟨h', nx', lg'⟩ (⟨rfl, t0, cs', hI'⟩ | ⟨rfl, k, cs', h1, nx1, lg1, t4, hk1, hk2, hI', hst⟩)
      · simp only [rowV, hlim] at t0
        simp only [RS, RT, RZ, tsc0, tz0, nq0, bs0, bn0, reduceLT, reduceLeDiff, reduceEqDiff, reduceMul, reduceAdd, reduceSub, reduceCtorEq, t0]
        exact ⟨G.cs0.length, h', nx', lg', cs', rfl, rfl, hI'.row, hI'.len, hne, Nat.le_refl _, fun c hc => hna c (hI'.sub c hc), fun c hc => hI'.sub c (List.mem_of_mem_take hc), hI'.old, hI'.nx, hI'.log⟩
      · cases hst
        simp only [RS, RT, RZ, tsc0, tz0, nq0, bs0, bn0, reduceLT, reduceLeDiff, reduceEqDiff, reduceMul, reduceAdd, reduceSub, reduceCtorEq, t4]
        refine ⟨k, _, _, _, _, rfl, rfl, upd_same .., clr_len _ _ hI'.len hk2, hk1, Nat.le_of_lt hk2, fun c hc => ?_, fun c hc => ?_, fun l hl hr => ?_, hI'.nx, fun l hl => ?_⟩
        · rcases clr_sub cs' k hc with h | rfl
          · exact hna c (hI'.sub c h)
          · rfl
        · rw [clr_take _ _ hI'.len hk2] at hc
          exact hI'.sub c (List.mem_of_mem_take hc)
        · rw [upd_ne _ _ hr]; exact hI'.old l hl hr
        · rcases List.mem_cons.1 hl with rfl | h
          · exact .inl rfl
          · exact hI'.log l h
    obtain ⟨e, T, st1, hx, he, k, h1, nx1, lg1, cs1, rfl, c1, c2, c3, c4, c5, c6, c7, c8, c9, c10⟩ := hB
    exact fin e T k h1 nx1 lg1 cs1 he c1 c2 c3 c4 c5 c6 c7 (fun c hc => hunt c (c7 c hc)) c8 c9 c10 hx
end
end Go.Proofs.P31

namespace Go.Proofs.P31
open Go Go.AE
open Nat (reduceLT reduceLeDiff reduceEqDiff reduceMul reduceAdd reduceSub)
set_option maxHeartbeats 8000000
def isNumT (n : Int) : Bool := decide (0 ≤ n) && decide (n ≤ 40)
def isListT (l : List Int) : Bool := decide (l.length ≤ 12) && l.all isNumT
section
variable {Q : Ctx} (hK : K Q)
include hK
theorem isNum_c {n : Int} : Ret Q 30 [.int .i64 n] (.bool (isNumT n)) := fun st => by
  refine callY (N := 9) (ok30 hK) (hK.nx _ _ _ rfl) rfl rfl ?_
  unfold isNumT
  cases e1 : decide (0 ≤ n) <;> cases e2 : decide (n ≤ 40) <;> simp only [RS, RT, RZ, tsc0, tz0, nq0, bs0, bn0, reduceLT, reduceLeDiff, reduceEqDiff, reduceMul, reduceAdd, reduceSub, reduceCtorEq, x30, F30, e1, e2, runX_gu]
theorem notNum_c {n : Int} : Ret Q 49 [.int .i64 n] (.bool (!isNumT n)) := fun st => by
  refine callY (N := 6) (ok49 hK) (hK.nx _ _ _ rfl) rfl rfl ?_
  simp only [RS, RT, RZ, tsc0, tz0, nq0, bs0, bn0, reduceLT, reduceLeDiff, reduceEqDiff, reduceMul, reduceAdd, reduceSub, reduceCtorEq, x49, F49, isNum_c hK]
theorem ixf_loop {st0 : St} {k : SK} {l : List Int} (hl : l.length < 1000000) : ∀ (n : Nat) T st, (∃ (i : Nat), T 0 = .slice k (intsA l) ∧ T 1 = .func (.func 49) [] [] ∧ T 7 = .int .i64 (l.length : Int) ∧ T 8 = .int .i64 (i : Int) ∧ l.length < i + n ∧ i ≤ l.length ∧ (l.drop i).all isNumT = l.all isNumT ∧ st = st0) →
    Post 19 [] none (execY (callW Q) Q false 90 none (.loop l90_0) ⟨T, 19, [], none⟩ st) fun e T' st' => st' = st0 ∧ ((e = .ret ∧ l.all isNumT = false ∧ ∃ z : Nat, T' 4 = .int .i64 (z : Int)) ∨ (e = .exit 0 ∧ l.all isNumT = true)) := by
  refine post_loop fun n T st => ?_
  rintro ⟨i, t0, t1, t7, t8, hn, hi, ha, rfl⟩
  by_cases hc : i < l.length
  · have a1 : (intsA l)[i]? = some (.int .i64 l[i]) := by rw [intsA_at, List.getElem?_eq_getElem hc]; rfl
    have w1 := wrapN (z := (i : Int) + 1) (n := i + 1) (by omega) (by omega)
    rw [List.drop_eq_getElem_cons hc, List.all_cons] at ha
    cases hz : isNumT l[i] with
    | true =>
      rw [hz, Bool.true_and] at ha
      simp only [RS, RT, RZ, tsc0, tz0, nq0, bs0, bn0, reduceLT, reduceLeDiff, reduceEqDiff, reduceMul, reduceAdd, reduceSub, reduceCtorEq, l90_0, t0, t1, t7, t8, hc, a1, notNum_c hK, hz, w1]
      exact ⟨n - 1, by omega, i + 1, rfl, by omega, by omega, ha⟩
    | false =>
      rw [hz, Bool.false_and] at ha
      simp only [RS, RT, RZ, tsc0, tz0, nq0, bs0, bn0, reduceLT, reduceLeDiff, reduceEqDiff, reduceMul, reduceAdd, reduceSub, reduceCtorEq, l90_0, t0, t1, t7, t8, hc, a1, notNum_c hK, hz, w1]
      exact ⟨ha.symm, _, rfl⟩
  · rw [List.drop_of_length_le (by omega)] at ha
    simp only [RS, RT, RZ, tsc0, tz0, nq0, bs0, bn0, reduceLT, reduceLeDiff, reduceEqDiff, reduceMul, reduceAdd, reduceSub, reduceCtorEq, l90_0, t0, t1, t7, t8, hc]
    exact ha.symm
theorem ixf_c {k : SK} {l : List Int} (hl : l.length < 1000000) {st : St} : ∃ v, callW Q (.fn 90) [.slice k (intsA l), .func (.func 49) [] []] .normal st = some (.ret v, st, none) ∧ ∃ z : Int, v = .int .i64 z ∧ decide (0 ≤ z) = !(l.all isNumT) := by
  refine callYe (N := 19) (ok90 hK) (hK.nx _ _ _ rfl) rfl ?_
  simp only [RS, RT, RZ, tsc0, tz0, nq0, bs0, bn0, reduceLT, reduceLeDiff, reduceEqDiff, reduceMul, reduceAdd, reduceSub, reduceCtorEq, x90, intsA_len]
  refine post_bind (ixf_loop hK (st0 := ⟨st.heap, st.next, []⟩) (k := k) (l := l) hl (l.length + 1) _ _ ⟨0, ?_, ?_, ?_, ?_, by omega, by omega, rfl, rfl⟩) ?_
  all_goals try (simp only [RS, RT, RZ, tsc0, tz0, nq0, bs0, bn0, reduceLT, reduceLeDiff, reduceEqDiff, reduceMul, reduceAdd, reduceSub, reduceCtorEq, cast_0]; done)
  rintro e T' st1 ⟨rfl, ⟨rfl, ha, z, hz⟩ | ⟨rfl, ha⟩⟩
  · simp only [RS, RT, RZ, tsc0, tz0, nq0, bs0, bn0, reduceLT, reduceLeDiff, reduceEqDiff, reduceMul, reduceAdd, reduceSub, reduceCtorEq, F90, hz]
    exact ⟨.int .i64 (z : Int), rfl, ⟨z, rfl, by rw [ha, decide_eq_true (by omega)]; rfl⟩, rfl⟩
  · simp only [RS, RT, RZ, tsc0, tz0, nq0, bs0, bn0, reduceLT, reduceLeDiff, reduceEqDiff, reduceMul, reduceAdd, reduceSub, reduceCtorEq, F90]
    exact ⟨.int .i64 (-1), rfl, ⟨_, rfl, by rw [ha]; rfl⟩, rfl⟩
theorem has_c {k : SK} {l : List Int} (hl : l.length < 1000000) : Ret Q 48 [.slice k (intsA l), .func (.func 49) [] []] (.bool (!(l.all isNumT))) := fun st => by
  obtain ⟨_, h1, z, rfl, hz⟩ := ixf_c hK (k := k) (l := l) hl (st := ⟨st.heap, st.next, []⟩)
  refine callY (N := 9) (ok48 hK) (hK.nx _ _ _ rfl) rfl rfl ?_
  simp only [RS, RT, RZ, tsc0, tz0, nq0, bs0, bn0, reduceLT, reduceLeDiff, reduceEqDiff, reduceMul, reduceAdd, reduceSub, reduceCtorEq, x48, F48, h1, hz]
theorem isList_c {k : SK} {l : List Int} : Ret Q 32 [.slice k (intsA l)] (.bool (isListT l)) := fun st => by
  refine callY (N := 11) (ok32 hK) (hK.nx _ _ _ rfl) rfl rfl ?_
  unfold isListT
  have e0 : decide ((l.length : Int) ≤ 12) = decide (l.length ≤ 12) := by rw [Bool.eq_iff_iff, decide_eq_true_iff, decide_eq_true_iff]; omega
  by_cases hl : l.length ≤ 12
  · have h1 := has_c hK (k := k) (l := l) (by omega)
    have e1 := decide_eq_true hl
    cases e2 : l.all isNumT <;> rw [e2] at h1 <;> simp only [RS, RT, RZ, tsc0, tz0, nq0, bs0, bn0, reduceLT, reduceLeDiff, reduceEqDiff, reduceMul, reduceAdd, reduceSub, reduceCtorEq, x32, F32, e0, e1, e2, h1, intsA_len, runX_gu]
  · have e1 := decide_eq_false hl
    simp only [RS, RT, RZ, tsc0, tz0, nq0, bs0, bn0, reduceLT, reduceLeDiff, reduceEqDiff, reduceMul, reduceAdd, reduceSub, reduceCtorEq, x32, F32, e0, e1, intsA_len, runX_gu]
end
end Go.Proofs.P31

namespace Go.Proofs.P31
open Go Go.AE
open Nat (reduceLT reduceLeDiff reduceEqDiff reduceMul reduceAdd reduceSub)
set_option maxHeartbeats 8000000
section
variable {C : Ctx} {mu ro : Bool} {fr : Fr} {st : St} {ds : Option Tmp} {ty : TypeId} {pos : String} {af : Array Edge} {g : Option (Nat × Bool)}
def rngK (C : Ctx) (st : St) (t : TypeId) (x : AV) : Option OPR := match C.ty t, x with
  | some { und := .string, .. }, .str s => some (.val (.ptr st.next 0) (st.push (.siter s 0)))
  | some { und := .map _ _, .. }, x => ovs (rangeM st x)
  | _, _ => none
theorem gA_rng {t : TypeId} {x : Operand} : opA C mu ro fr st ⟨ds, .range t x, ty, pos, af, g⟩ = rngK C st t (oval C fr x) := (rfl)
theorem rngK_str {t : TypeId} {n m : Nat} {ag : Bool} {z : List AV} {pl : List (Nat × Nat)} {s : List Nat} (h : C.ty t = some ⟨.string, n, m, ag, z, pl⟩) : rngK C st t (.str s) = some (.val (.ptr st.next 0) (st.push (.siter s 0))) := by
  simp only [rngK, h]
theorem gA_nxt {it : Operand} : opA C mu ro fr st ⟨ds, .next it true, ty, pos, af, g⟩ = ovs (nextA st (oval C fr it)) := (rfl)
theorem nextA_end {l p : Nat} {s : List Nat} (h : st.heap l = .siter s p) (hp : s.length ≤ p) : nextA st (.ptr l 0) = some (.tuple [.bool false], st) := by
  simp only [nextA, h]; rw [List.drop_of_length_le hp]
theorem nextA_at {l p b : Nat} {s : List Nat} (h : st.heap l = .siter s p) (hp : s[p]? = some b) (hb : b < 128) : nextA st (.ptr l 0) = some (.tuple [.bool true, .int .i64 (p : Int), .int .i32 (b : Int)], st.set l (.siter s (p + 1))) := by
  obtain ⟨h1, rfl⟩ := List.getElem?_eq_some_iff.1 hp
  simp only [nextA, h]; rw [List.drop_eq_getElem_cons h1]; simp only; rw [if_pos hb]; rfl
end
theorem app_tk {h : Nat → AO} {nx lo : Nat} {lg : List Nat} {k : SK} {es : List AV} {e : TypeId} {ei : TI} {y : AV} {ys : List AV} (a : AccT h nx lo ei.size k es) (hlo : lo ≤ nx) (h1 : sized ei.size (y :: ys) = true) (h2 : 0 < ei.size) (h3 : (flat (y :: ys)).all AV.isCell = true)
    (h4 : sizedH ei.size es = true) (h5 : roomy (es.length + (y :: ys).length) ei.bytes = true) :
    ∃ h' lg', appendA false ⟨h, nx, lg⟩ e ei (.slice k es) (y :: ys) = some (.slice (.tok nx ei.size) (es ++ y :: ys), ⟨h', nx + 1, lg'⟩) ∧ AccT h' (nx + 1) lo ei.size (.tok nx ei.size) (es ++ y :: ys) ∧
      (∀ q, q ≠ nx → h q ≠ .tok → h' q = h q) ∧ (∀ l ∈ lg', l ∈ lg ∨ (lo ≤ l ∧ l < nx)) ∧ (∀ l ∈ lg, l ∈ lg') ∧ ∀ q, q < lo → h' q = h q := by
  unfold appendA
  simp only
  rw [if_pos ⟨h1, h2, h3⟩, if_pos ⟨h4, h5⟩]
  rcases a with ⟨rfl, rfl⟩ | ⟨q, rfl, a2, a3, a4, a5⟩
  · refine ⟨upd h nx .tok, lg, rfl, .inr ⟨nx, rfl, upd_same .., hlo, by omega, by simp⟩, fun q hq _ => upd_ne _ _ hq, fun l hl => .inl hl, fun l hl => hl, fun q hq => upd_ne _ _ (by omega)⟩
  · simp only [appendSl, a2, and_self, if_true]
    refine ⟨upd (upd h q .dead) nx .tok, q :: lg, rfl, .inr ⟨nx, rfl, upd_same .., hlo, by omega, by simp⟩, fun p hp hp2 => ?_, fun l hl => ?_, fun l hl => List.mem_cons_of_mem _ hl, fun p hp => ?_⟩
    · rw [upd_ne _ _ hp, upd_ne]
      intro e; subst e; exact hp2 a2
    · rcases List.mem_cons.1 hl with rfl | hl
      · exact .inr ⟨a3, a4⟩
      · exact .inl hl
    · rw [upd_ne _ _ (by omega), upd_ne _ _ (by omega)]
def srtOf (s : List Nat) : List Nat := s.filter fun b => decide (b = 110) || decide (b = 108)
def i32A (l : List Nat) : List AV := l.map fun b : Nat => .int .i32 (b : Int)
theorem i32A_len (l : List Nat) : (i32A l).length = l.length := by simp [i32A]
theorem i32A_sz (l : List Nat) : sizedH 1 (i32A l) = true := by cases l <;> rfl
structure FI0 (p it : Nat) (cells : List AV) (s : List Nat) (i lo : Nat) (k : SK) (st : St) : Prop where
  hp : st.heap p = .mem 65 cells true 0
  hi : st.heap it = .siter s i
  acc : AccT st.heap st.next lo 1 k (i32A (srtOf (s.take i)))
  nx : lo ≤ st.next
section
variable {Q : Ctx} (hK : K Q)
include hK
theorem fit_l0 {h0 : Nat → AO} {p it lo n0 : Nat} {v w : AV} {cells : List AV} {s : List Nat} (hs : ∀ b ∈ s, b < 128) (hl : s.length < 1000) (hp1 : n0 ≤ p) (hp2 : p < lo) (hi1 : n0 ≤ it) (hi2 : it < lo) (hpi : p ≠ it) :
    ∀ (n : Nat) T st, (∃ (i : Nat) (k : SK), T 1 = w ∧ T 2 = .ptr p 0 ∧ T 5 = .slice k (i32A (srtOf (s.take i))) ∧ T 12 = .ptr it 0 ∧ s.length < i + n ∧ i ≤ s.length ∧ FI0 p it cells s i lo k st ∧ LogOk n0 st.log ∧ (∀ q, q < n0 → st.heap q = h0 q)) →
    Post 115 [] none (execY (callW Q) Q false 39 none (.loop l39_0) ⟨T, 115, [], none⟩ st) fun e T' st' => e = .exit 0 ∧ ∃ k, T' 1 = w ∧ T' 2 = .ptr p 0 ∧ T' 5 = .slice k (i32A (srtOf s)) ∧ FI0 p it cells s s.length lo k st' ∧ LogOk n0 st'.log ∧ (∀ q, q < n0 → st'.heap q = h0 q) := by
  refine post_loop fun n T st => ?_
  rintro ⟨i, k, t1, t2, t5, t12, hn, hi, ⟨f1, f2, f3, f4⟩, hlg, hold⟩
  obtain ⟨h, nx, lg⟩ := st
  simp only at f1 f2 f3 f4 hlg hold
  by_cases hc : i < s.length
  · have hb := hs s[i] (List.getElem_mem hc)
    have nx1 := nextA_at (st := ⟨h, nx, lg⟩) (b := s[i]) f2 (List.getElem?_eq_getElem hc) hb
    have htk : s.take (i + 1) = s.take i ++ [s[i]] := by rw [List.take_add_one, List.getElem?_eq_getElem hc]; rfl
    have acc' : AccT (upd h it (.siter s (i + 1))) nx lo 1 k (i32A (srtOf (s.take i))) := f3.mono (fun q _ hh => by rw [upd_ne _ _ (by intro e; subst e; rw [f2] at hh; cases hh)]; exact hh) (Nat.le_refl _)
    by_cases hm : s[i] = 110 ∨ s[i] = 108
    · have hm' : (decide (s[i] = 110) || decide (s[i] = 108)) = true := by rcases hm with h | h <;> simp [h]
      have hst : srtOf (s.take (i + 1)) = srtOf (s.take i) ++ [s[i]] := by rw [htk]; simp only [srtOf, List.filter_append]; congr 1; rw [List.filter_cons, if_pos hm']; rfl
      have hle : (srtOf (s.take i)).length ≤ i := Nat.le_trans (List.length_filter_le _ _) (by simp; omega)
      obtain ⟨h', lg', b1, b2, b3, b4, b5, b6⟩ := app_tk (lg := it :: lg) (e := 21) (ei := T21) (y := .int .i32 (s[i] : Int)) (ys := []) (nx := nx) (lo := lo) (h := upd h it (.siter s (i + 1))) (k := k) (es := i32A (srtOf (s.take i))) acc' f4 rfl (by decide) rfl (i32A_sz _) (by
        rw [i32A_len]
        show (decide (((srtOf (s.take i)).length + 1) * 4 ≤ 1099511627776) && decide (4 ≤ 1048576) && decide ((srtOf (s.take i)).length + 1 ≤ 1099511627776)) = true
        rw [decide_eq_true (by omega), decide_eq_true (by omega)]; rfl)
      have e1 : i32A (srtOf (s.take i)) ++ [.int .i32 (s[i] : Int)] = i32A (srtOf (s.take (i + 1))) := by rw [hst]; simp [i32A]
      rw [e1] at b1 b2
      have fin : FI0 p it cells s (i + 1) lo (.tok nx T21.size) ⟨h', nx + 1, lg'⟩ := ⟨by
        simp only; rw [b3 p (by omega) (by rw [upd_ne _ _ hpi, f1]; simp), upd_ne _ _ hpi, f1], by
        simp only; rw [b3 it (by omega) (by rw [upd_same]; simp), upd_same], b2, by simp only; omega⟩
      have fl : LogOk n0 lg' := fun l hl => by
        rcases b4 l hl with h | h
        · rcases List.mem_cons.1 h with rfl | h
          · exact hi1
          · exact hlg l h
        · omega
      have fo : ∀ q, q < n0 → h' q = h0 q := fun q hq => by rw [b6 q (by omega), upd_ne _ _ (by omega)]; exact hold q hq
      by_cases h110 : s[i] = 110
      · have d1 : ((s[i] : Int) == 110) = true := by rw [h110]; rfl
        simp only [RS, RT, RZ, tsc0, tz0, nq0, bs0, bn0, reduceLT, reduceLeDiff, reduceEqDiff, reduceMul, reduceAdd, reduceSub, reduceCtorEq, l39_0, kd39_0, t1, t2, t5, t12, gA_nxt, nx1, d1, b1]
        exact ⟨n - 1, by omega, i + 1, _, rfl, by omega, by omega, fin, fl, fo⟩
      · have h108 : s[i] = 108 := by omega
        have d1 : ((s[i] : Int) == 110) = false := by rw [h108]; rfl
        have d2 : ((s[i] : Int) == 108) = true := by rw [h108]; rfl
        simp only [RS, RT, RZ, tsc0, tz0, nq0, bs0, bn0, reduceLT, reduceLeDiff, reduceEqDiff, reduceMul, reduceAdd, reduceSub, reduceCtorEq, l39_0, kd39_0, t1, t2, t5, t12, gA_nxt, nx1, d1, d2, b1]
        exact ⟨n - 1, by omega, i + 1, _, rfl, by omega, by omega, fin, fl, fo⟩
    · have d1 : ((s[i] : Int) == 110) = false := by rw [beq_eq_false_iff_ne]; omega
      have d2 : ((s[i] : Int) == 108) = false := by rw [beq_eq_false_iff_ne]; omega
      have hm' : (decide (s[i] = 110) || decide (s[i] = 108)) = false := by simp; omega
      have hst : srtOf (s.take (i + 1)) = srtOf (s.take i) := by rw [htk]; simp only [srtOf, List.filter_append]; rw [List.filter_cons, hm']; simp
      simp only [RS, RT, RZ, tsc0, tz0, nq0, bs0, bn0, reduceLT, reduceLeDiff, reduceEqDiff, reduceMul, reduceAdd, reduceSub, reduceCtorEq, l39_0, kd39_0, t1, t2, t5, t12, gA_nxt, nx1, d1, d2]
      refine ⟨n - 1, by omega, i + 1, k, by rw [hst], by omega, by omega, ⟨?_, ?_, ?_, f4⟩, ?_, ?_⟩
      · simp only; rw [upd_ne _ _ hpi, f1]
      · simp only; rw [upd_same]
      · rw [hst]; exact acc'
      · exact ⟨hi1, hlg⟩
      · intro q hq; rw [upd_ne _ _ (by omega)]; exact hold q hq
  · have nx1 := nextA_end (st := ⟨h, nx, lg⟩) f2 (by omega)
    have : i = s.length := by omega
    subst this
    rw [List.take_length] at t5 f3
    simp only [RS, RT, RZ, tsc0, tz0, nq0, bs0, bn0, reduceLT, reduceLeDiff, reduceEqDiff, reduceMul, reduceAdd, reduceSub, reduceCtorEq, l39_0, kd39_0, t1, t2, t5, t12, gA_nxt, nx1]
    exact ⟨k, rfl, ⟨f1, f2, by rw [List.take_length]; exact f3, f4⟩, hlg, hold⟩
end
end Go.Proofs.P31

namespace Go.Proofs.P31
open Go Go.AE
open Nat (reduceLT reduceLeDiff reduceEqDiff reduceMul reduceAdd reduceSub)
set_option maxHeartbeats 8000000
structure InV (h : Nat → AO) (nx : Nat) (v : AV) (l : List LV) : Prop where
  ex : (∃ k, v = .slice k (l.map LV.av)) ∨ ∃ A, v = .row A 0 l.length none ∧ h A = .mem 24 (flatL l) true 0 ∧ A < nx
  len : l.length < 1000000
theorem InV.mono {h h' : Nat → AO} {nx nx' : Nat} {v : AV} {l : List LV} (a : InV h nx v l) (hh : ∀ q, q < nx → (∃ cs, h q = .mem 24 cs true 0) → h' q = h q) (hn : nx ≤ nx') : InV h' nx' v l := by
  obtain ⟨h1 | ⟨A, h1, h2, h3⟩, h4⟩ := a
  · exact ⟨.inl h1, h4⟩
  · exact ⟨.inr ⟨A, h1, by rw [hh A h3 ⟨_, h2⟩]; exact h2, by omega⟩, h4⟩
theorem InV.lenX {h : Nat → AO} {nx : Nat} {v : AV} {l : List LV} (a : InV h nx v l) : lenX v = some (.int .i64 (l.length : Int)) := by
  obtain ⟨⟨k, rfl⟩ | ⟨A, rfl, _⟩, _⟩ := a
  · simp [Go.AE.lenX, goI]
  · rfl
theorem InV.ld {h : Nat → AO} {nx : Nat} {lg : List Nat} {v : AV} {l : List LV} (a : InV h nx v l) {i : Nat} (hi : i < l.length) : ∃ p, idxX 3 v i = some p ∧ ldX ⟨h, nx, lg⟩ true 3 p = some (.agg [.bool l[i].il, .int .i64 l[i].n, .slice l[i].k (intsA l[i].es)]) ∧
    ∃ p2, addrX 2 p = some p2 ∧ ldX ⟨h, nx, lg⟩ false 1 p2 = some (.slice l[i].k (intsA l[i].es)) := by
  obtain ⟨⟨k, rfl⟩ | ⟨A, rfl, hA, _⟩, _⟩ := a
  · refine ⟨.cptr l[i].cells, ?_, rfl, .cptr [.slice l[i].k (intsA l[i].es)], rfl, rfl⟩
    simp only [idxX, List.getElem?_map, List.getElem?_eq_getElem hi, Option.map_some]
    rfl
  · refine ⟨.ptr A (i * 3), by rw [idxX_row (eq_true hi), Nat.zero_add], ?_, .ptr A (i * 3 + 2), rfl, ?_⟩
    · rw [ldX_ptr]; simp only [hA, ldO_mem]; exact part_flat (List.getElem?_eq_getElem hi)
    · rw [ldX_ptr]; simp only [hA, ldO_mem]
      rw [← List.drop_drop, flatL_drop, List.drop_eq_getElem_cons hi]
      rfl
def okV (b : Nat) (x : LV) : Bool := (x.il == decide (b = 108)) && (if x.il then isListT x.es else isNumT x.n)
def fitsT : List Nat → List LV → Bool
  | b :: bs, x :: xs => okV b x && fitsT bs xs
  | _, _ => true
section
variable {Q : Ctx} (hK : K Q)
include hK
theorem fit_l2 {p n0 : Nat} {v : AV} {cells : List AV} {ss : List Nat} {k5 : SK} {l : List LV} (hS : l.length = ss.length) :
    ∀ (n : Nat) T st, (∃ (i : Nat), T 1 = v ∧ T 2 = .ptr p 0 ∧ T 5 = .slice k5 (i32A ss) ∧ T 39 = v ∧ T 40 = .int .i64 (l.length : Int) ∧ T 41 = .int .i64 (i : Int) ∧ l.length < i + n ∧ i ≤ l.length ∧ InV st.heap st.next v l ∧ n0 ≤ st.next ∧ p < st.next ∧ st.heap p = .mem 65 cells true 0 ∧ LogOk n0 st.log ∧ fitsT (ss.drop i) (l.drop i) = fitsT ss l) →
    Post 115 [] none (execY (callW Q) Q false 39 none (.loop l39_2) ⟨T, 115, [], none⟩ st) fun e T' st' => LogOk n0 st'.log ∧ ((e = .ret ∧ fitsT ss l = false ∧ T' 4 = .bool false) ∨ (e = .exit 4 ∧ fitsT ss l = true ∧ T' 1 = v ∧ T' 2 = .ptr p 0 ∧ InV st'.heap st'.next v l ∧ st'.heap p = .mem 65 cells true 0)) := by
  refine post_loop fun n T st => ?_
  rintro ⟨i, t1, t2, t5, t39, t40, t41, hn, hi, hV, hnx, hpn, hp, hlg, hfit⟩
  obtain ⟨h, nx, lg⟩ := st
  simp only at hV hnx hpn hp hlg
  have hlen := hV.len
  by_cases hc : i < l.length
  · have hcS : i < ss.length := by omega
    obtain ⟨a, a1, a2, _⟩ := hV.ld (lg := lg) hc
    have s1 : (i32A ss)[i]? = some (.int .i32 (ss[i] : Int)) := by simp [i32A, hcS]
    have w1 := wrapN (z := (i : Int) + 1) (n := i + 1) (by omega) (by omega)
    rw [List.drop_eq_getElem_cons hc, List.drop_eq_getElem_cons hcS, fitsT] at hfit
    have hV2 : InV (upd (upd h nx (.mem 24 [.bool false, .int .i64 0, .slice .nil []] true 0)) nx (.mem 24 [.bool l[i].il, .int .i64 l[i].n, .slice l[i].k (intsA l[i].es)] true 0)) (nx + 1) v l := hV.mono (fun q hq _ => by rw [upd_ne _ _ (by omega), upd_ne _ _ (by omega)]) (by omega)
    have hp2 : upd (upd h nx (.mem 24 [.bool false, .int .i64 0, .slice .nil []] true 0)) nx (.mem 24 [.bool l[i].il, .int .i64 l[i].n, .slice l[i].k (intsA l[i].es)] true 0) p = .mem 65 cells true 0 := by rw [upd_ne _ _ (by omega), upd_ne _ _ (by omega)]; exact hp
    have tb := tw4 hK
    unfold T4 at tb
    have d8 : ((ss[i] : Int) == 108) = decide (ss[i] = 108) := by rw [Bool.eq_iff_iff, decide_eq_true_iff, beq_iff_eq]; omega
    have hil := isList_c hK (k := l[i].k) (l := l[i].es)
    have hin := isNum_c hK (n := l[i].n)
    have nbr : ∀ xo yo a b, binA Q .neq 4 xo yo (.bool a) (.bool b) = some (.bool (a != b)) := fun xo yo a b => by rw [binA_bool tb]
    have hk : okV ss[i] l[i] = ((l[i].il == decide (ss[i] = 108)) && (if l[i].il then isListT l[i].es else isNumT l[i].n)) := rfl
    generalize l[i].il = il at *
    generalize l[i].n = nn at *
    generalize l[i].es = es at *
    generalize l[i].k = kk at *
    generalize hd : decide (ss[i] = 108) = d at *
    generalize hli : isListT es = li at *
    generalize hni : isNumT nn = ni at *
    have core : okV ss[i] l[i] = true → (∃ m, m < n ∧ ∃ (i' : Nat), v = v ∧ AV.ptr p 0 = .ptr p 0 ∧ (i + 1 : Nat) = i' ∧ l.length < i' + m ∧ i' ≤ l.length ∧ fitsT (ss.drop i') (l.drop i') = fitsT ss l) := fun ht => by
      rw [ht, Bool.true_and] at hfit
      exact ⟨n - 1, by omega, i + 1, rfl, rfl, rfl, by omega, by omega, hfit⟩
    have core2 : okV ss[i] l[i] = false → fitsT ss l = false := fun ht => by
      rw [ht, Bool.false_and] at hfit; exact hfit.symm
    cases il <;> cases d <;> cases li <;> cases ni <;> (
      simp only [RS, RT, RZ, tsc0, tz0, nq0, bs0, bn0, reduceLT, reduceLeDiff, reduceEqDiff, reduceMul, reduceAdd, reduceSub, reduceCtorEq, l39_2, kd39_0, t1, t2, t5, t39, t40, t41, hc, a1, a2, s1, gA_bin, nbr, d8, hil, hin, w1, i32A_len, hcS, Bool.true_bne, Bool.false_bne, runX_gu]
      first
        | exact ⟨⟨hnx, hlg⟩, core2 (by rw [hk]; rfl)⟩
        | (obtain ⟨m, hm, i', _, _, rfl, c1, c2, c3⟩ := core (by rw [hk]; rfl)
           exact ⟨m, hm, i + 1, rfl, c1, c2, hV2, by omega, by omega, hp2, ⟨hnx, hlg⟩, c3⟩))
  · rw [List.drop_of_length_le (by omega), List.drop_of_length_le (by omega)] at hfit
    simp only [RS, RT, RZ, tsc0, tz0, nq0, bs0, bn0, reduceLT, reduceLeDiff, reduceEqDiff, reduceMul, reduceAdd, reduceSub, reduceCtorEq, l39_2, kd39_0, t1, t2, t5, t39, t40, t41, hc]
    exact ⟨hlg, hfit.symm, hV, hp⟩
end
end Go.Proofs.P31

namespace Go.Proofs.P31
open Go Go.AE
open Nat (reduceLT reduceLeDiff reduceEqDiff reduceMul reduceAdd reduceSub)
set_option maxHeartbeats 8000000
def fewT (few : Bool) (l : List LV) : Bool := !few || (match l with | x :: _ => decide (x.es.length ≤ 6) | [] => true)
def fitT (s : List Nat) (few : Bool) (l : List LV) : Bool := decide (l.length = (srtOf s).length) && (fitsT (srtOf s) l && fewT few l)
section
variable {Q : Ctx} (hK : K Q)
include hK
theorem fit_l1 {T : Nat → AV} {st : St} (h1 : T 27 = .int .i64 0) (h2 : T 28 = .int .i64 0) : Post 115 [] none (execY (callW Q) Q false 39 none (.loop l39_1) ⟨T, 115, [], none⟩ st) fun e T' st' => e = .exit 2 ∧ T' = upd T 29 (.bool false) ∧ st' = st := by
  rw [execY_loop]
  have e0 : decide ((0 : Int) < 0) = false := by decide
  simp only [RS, RT, RZ, tsc0, tz0, nq0, bs0, bn0, reduceLT, reduceLeDiff, reduceEqDiff, reduceMul, reduceAdd, reduceSub, reduceCtorEq, l39_1, kd39_0, h1, h2, e0]
theorem fit_c {nm s : List Nat} {few : Bool} {fv v : AV} {l : List LV} {st : St} (hs : ∀ b ∈ s, b < 128) (hsl : s.length < 1000) (hpos : 0 < (srtOf s).length) (hV : InV st.heap st.next v l) :
    callW Q (.fn 39) [.agg [.str nm, .str s, .int .i64 0, .bool few, fv], v] .normal st = some (.ret (.bool (fitT s few l)), st, none) := by
  refine callY (N := 115) (ok39 hK) (hK.nx _ _ _ rfl) rfl rfl ?_
  have tb := tw9 hK
  unfold T9 at tb
  have hV' := hV
  have hlv := hV.lenX
  simp only [RS, RT, RZ, tsc0, tz0, nq0, bs0, bn0, reduceLT, reduceLeDiff, reduceEqDiff, reduceMul, reduceAdd, reduceSub, reduceCtorEq, x39, kd39_0, gA_rng, rngK_str tb]
  refine post_bind (fit_l0 hK (h0 := st.heap) (n0 := st.next) (p := st.next) (it := st.next + 1) (lo := st.next + 2) (v := v) (w := v) (cells := [.str nm, .str s, .int .i64 0, .bool few, fv]) (s := s) hs hsl (by omega) (by omega) (by omega) (by omega) (by omega) (s.length + 1) _ _ ⟨0, .nil, ?_, ?_, ?_, ?_, by omega, by omega, ⟨?_, ?_, ?_, ?_⟩, ?_, ?_⟩) ?_
  · simp only [RS, RT, RZ, tsc0, tz0, nq0, bs0, bn0, reduceLT, reduceLeDiff, reduceEqDiff, reduceMul, reduceAdd, reduceSub, reduceCtorEq]
  · simp only [RS, RT, RZ, tsc0, tz0, nq0, bs0, bn0, reduceLT, reduceLeDiff, reduceEqDiff, reduceMul, reduceAdd, reduceSub, reduceCtorEq]
  · simp only [RS, RT, RZ, tsc0, tz0, nq0, bs0, bn0, reduceLT, reduceLeDiff, reduceEqDiff, reduceMul, reduceAdd, reduceSub, reduceCtorEq]; rfl
  · simp only [RS, RT, RZ, tsc0, tz0, nq0, bs0, bn0, reduceLT, reduceLeDiff, reduceEqDiff, reduceMul, reduceAdd, reduceSub, reduceCtorEq]
  · simp only [RS, RT, RZ, tsc0, tz0, nq0, bs0, bn0, reduceLT, reduceLeDiff, reduceEqDiff, reduceMul, reduceAdd, reduceSub, reduceCtorEq, Nat.add_eq_left]
  · simp only [RS, RT, RZ, tsc0, tz0, nq0, bs0, bn0, reduceLT, reduceLeDiff, reduceEqDiff, reduceMul, reduceAdd, reduceSub, reduceCtorEq]
  · exact .inl ⟨rfl, rfl⟩
  · simp only [RS, RT, RZ, tsc0, tz0, nq0, bs0, bn0, reduceLT, reduceLeDiff, reduceEqDiff, reduceMul, reduceAdd, reduceSub, reduceCtorEq]
  · exact fun l hl => nomatch hl
  · intro q hq; simp only; rw [upd_ne _ _ (by omega), upd_ne _ _ (by omega)]
  rintro e T ⟨h1, nx1, lg1⟩ ⟨rfl, k, t1, t2, t5, ⟨f1, f2, f3, f4⟩, hlg, hold⟩
  simp only at f1 f2 f3 f4 hlg hold
  simp only [RS, RT, RZ, tsc0, tz0, nq0, bs0, bn0, reduceLT, reduceLeDiff, reduceEqDiff, reduceMul, reduceAdd, reduceSub, reduceCtorEq, t1, t2, t5, f1]
  refine post_bind (fit_l1 hK ?_ ?_) ?_
  · simp only [RS, RT, RZ, tsc0, tz0, nq0, bs0, bn0, reduceLT, reduceLeDiff, reduceEqDiff, reduceMul, reduceAdd, reduceSub, reduceCtorEq]
  · simp only [RS, RT, RZ, tsc0, tz0, nq0, bs0, bn0, reduceLT, reduceLeDiff, reduceEqDiff, reduceMul, reduceAdd, reduceSub, reduceCtorEq]
  rintro e T' st' ⟨rfl, rfl, rfl⟩
  have hV1 : InV h1 nx1 v l := hV'.mono (fun q hq _ => hold q hq) (by omega)
  by_cases hlen : l.length = (srtOf s).length
  · have d1 : ((l.length : Int) != ((srtOf s).length : Int)) = false := by rw [hlen]; simp
    simp only [RS, RT, RZ, tsc0, tz0, nq0, bs0, bn0, reduceLT, reduceLeDiff, reduceEqDiff, reduceMul, reduceAdd, reduceSub, reduceCtorEq, t1, t2, t5, hlv, i32A_len, d1]
    refine post_bind (fit_l2 hK (p := st.next) (n0 := st.next) (v := v) (cells := [.str nm, .str s, .int .i64 0, .bool few, fv]) (ss := srtOf s) (k5 := k) (l := l) hlen (l.length + 1) _ _ ⟨0, ?_, ?_, ?_, ?_, ?_, ?_, by omega, by omega, hV1, by simp only; omega, by simp only; omega, f1, hlg, rfl⟩) ?_
    · simp only [RS, RT, RZ, tsc0, tz0, nq0, bs0, bn0, reduceLT, reduceLeDiff, reduceEqDiff, reduceMul, reduceAdd, reduceSub, reduceCtorEq, t1]
    · simp only [RS, RT, RZ, tsc0, tz0, nq0, bs0, bn0, reduceLT, reduceLeDiff, reduceEqDiff, reduceMul, reduceAdd, reduceSub, reduceCtorEq, t2]
    · simp only [RS, RT, RZ, tsc0, tz0, nq0, bs0, bn0, reduceLT, reduceLeDiff, reduceEqDiff, reduceMul, reduceAdd, reduceSub, reduceCtorEq, t5]
    · simp only [RS, RT, RZ, tsc0, tz0, nq0, bs0, bn0, reduceLT, reduceLeDiff, reduceEqDiff, reduceMul, reduceAdd, reduceSub, reduceCtorEq]
    · simp only [RS, RT, RZ, tsc0, tz0, nq0, bs0, bn0, reduceLT, reduceLeDiff, reduceEqDiff, reduceMul, reduceAdd, reduceSub, reduceCtorEq]
    · simp only [RS, RT, RZ, tsc0, tz0, nq0, bs0, bn0, reduceLT, reduceLeDiff, reduceEqDiff, reduceMul, reduceAdd, reduceSub, reduceCtorEq, cast_0]
    rintro e T ⟨h2, nx2, lg2⟩ ⟨hlg2, ⟨rfl, hf, t4⟩ | ⟨rfl, hf, t1, t2, hV2, hp2⟩⟩
    · simp only [RS, RT, RZ, tsc0, tz0, nq0, bs0, bn0, reduceLT, reduceLeDiff, reduceEqDiff, reduceMul, reduceAdd, reduceSub, reduceCtorEq, F39, t4, fitT, hlen, hf]
      exact hlg2
    · simp only at hV2 hp2
      have e0 : decide ((0 : Int) < 0) = false := by decide
      cases few with
      | false =>
        simp only [RS, RT, RZ, tsc0, tz0, nq0, bs0, bn0, reduceLT, reduceLeDiff, reduceEqDiff, reduceMul, reduceAdd, reduceSub, reduceCtorEq, F39, t1, t2, hp2, e0, Int.reduceBEq, fitT, hlen, hf, fewT, runX_gu]
        exact hlg2
      | true =>
        have h0 : 0 < l.length := by omega
        obtain ⟨a, a1, _, a2, a3, a4⟩ := hV2.ld (lg := lg2) h0
        obtain ⟨x, xs, rfl⟩ : ∃ x xs, l = x :: xs := by cases l with | nil => simp at h0 | cons x xs => exact ⟨x, xs, rfl⟩
        have d6 : decide ((x.es.length : Int) ≤ 6) = decide (x.es.length ≤ 6) := by rw [Bool.eq_iff_iff, decide_eq_true_iff, decide_eq_true_iff]; omega
        simp only [List.getElem_cons_zero] at a4
        simp only [RS, RT, RZ, tsc0, tz0, nq0, bs0, bn0, reduceLT, reduceLeDiff, reduceEqDiff, reduceMul, reduceAdd, reduceSub, reduceCtorEq, F39, t1, t2, hp2, e0, Int.reduceBEq, fitT, hlen, hf, fewT, runX_gu, a1, a3, a4, intsA_len, d6]
        exact hlg2
  · have d1 : ((l.length : Int) != ((srtOf s).length : Int)) = true := by simp [bne]; omega
    simp only [RS, RT, RZ, tsc0, tz0, nq0, bs0, bn0, reduceLT, reduceLeDiff, reduceEqDiff, reduceMul, reduceAdd, reduceSub, reduceCtorEq, F39, t1, t2, t5, hlv, i32A_len, d1, fitT, hlen]
    exact hlg
end
end Go.Proofs.P31
