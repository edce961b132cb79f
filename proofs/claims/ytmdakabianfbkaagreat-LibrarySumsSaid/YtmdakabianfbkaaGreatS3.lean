/- Parts of SortFunc: bounds, and the row stays an order of itself. -/
import Derived.Test.YtmdakabianfbkaaGreatS2
set_option linter.unusedVariables false
set_option linter.unusedSimpArgs false
set_option linter.unusedSectionVars false
namespace Go.Proofs.P31
open Go Go.AE
open Nat (reduceLT reduceLeDiff reduceEqDiff reduceMul reduceAdd reduceSub)
set_option maxHeartbeats 8000000
theorem decF {p : Prop} [Decidable p] (h : ¬ p) : decide p = false := decide_eq_false h
theorem decT {p : Prop} [Decidable p] (h : p) : decide p = true := decide_eq_true h
theorem wrapN {z : Int} {n : Nat} (e : z = (n : Int)) (h : n < 4611686018427387904) : IntKind.i64.wrap z = (n : Int) := by
  subst e
  rw [wrap64 (by omega) (by omega)]
theorem idxX_row {size l off len k : Nat} {lim : Option Nat} (h : (k < len) = True) : idxX size (.row l off len lim) k = some (.ptr l (off + k * size)) := by
  simp only [idxX]; rw [if_pos (of_eq_true h)]
theorem lenX_row {l off len : Nat} {lim : Option Nat} : lenX (.row l off len lim) = some (.int .i64 (len : Int)) := (rfl)
structure Srt where
  h : Nat → AO
  n0 : Nat
  r : Nat
  full : Bool
  lim : Option Nat
  cs0 : List AV
  S : AV → Prop
  lg : List Nat
structure Srt.OK (G : Srt) (Q : Ctx) : Prop where
  rn : G.r < G.n0
  small : G.cs0.length < 60000
  all : ∀ v ∈ G.cs0, G.S v
  ic : ∀ v, G.S v → v.isCell = true
  cell : ∀ v, G.S v → v.cells = [v]
  cmp : ∀ v w st, (∀ l, l < G.n0 → l ≠ G.r → st.heap l = G.h l) → G.n0 ≤ st.next → G.S v → G.S w → ∃ n : Int, callW Q (.fn 27) [v, w] .normal st = some (.ret (.int .i64 n), st, none)
structure SI (G : Srt) (cs : List AV) (st : St) : Prop where
  row : st.heap G.r = .mem 33 cs G.full 0
  old : ∀ l, l < G.n0 → l ≠ G.r → st.heap l = G.h l
  nx : G.n0 ≤ st.next
  perm : cs.Perm G.cs0
  log : ∀ l ∈ st.log, l = G.r ∨ G.n0 ≤ l ∨ l ∈ G.lg
def rowV (G : Srt) : AV := .row G.r 0 G.cs0.length G.lim
def cmpV : AV := .func (.func 27) [] []
variable {G : Srt} {Q : Ctx} {cs : List AV}
theorem SI.len {st : St} (h : SI G cs st) : cs.length = G.cs0.length := h.perm.length_eq
theorem SI.at {st : St} (h : SI G cs st) {i : Nat} (hi : i < G.cs0.length) : ∃ v, cs[i]? = some v ∧ v ∈ cs := by
  have : i < cs.length := by rw [h.len]; exact hi
  exact ⟨cs[i], List.getElem?_eq_getElem this, List.getElem_mem this⟩
theorem SI.S {st : St} (h : SI G cs st) (ok : G.OK Q) {v : AV} (hv : v ∈ cs) : G.S v := ok.all v (h.perm.mem_iff.1 hv)
theorem perm_swap {i j : Nat} {v w : AV} {cs : List AV} (hi : cs[i]? = some v) (hj : cs[j]? = some w) : ((cs.set i w).set j v).Perm cs := by
  obtain ⟨hi1, rfl⟩ := List.getElem?_eq_some_iff.1 hi
  obtain ⟨hj1, rfl⟩ := List.getElem?_eq_some_iff.1 hj
  exact List.set_set_perm hi1 hj1
theorem SI.swap {h : Nat → AO} {nx : Nat} {lg : List Nat} {i j : Nat} {v w : AV} (a : SI G cs ⟨h, nx, lg⟩) (hi : cs[i]? = some v) (hj : cs[j]? = some w) :
    SI G ((cs.set i w).set j v) ⟨upd (upd h G.r (.mem 33 (cs.set i w) G.full 0)) G.r (.mem 33 ((cs.set i w).set j v) G.full 0), nx, G.r :: G.r :: lg⟩ :=
  ⟨upd_same .., fun l hl hr => by simp only; rw [upd_ne _ _ hr, upd_ne _ _ hr]; exact a.old l hl hr, a.nx, (perm_swap hi hj).trans a.perm, fun l hl => by
    simp only [List.mem_cons] at hl
    rcases hl with rfl | rfl | hl
    · exact .inl rfl
    · exact .inl rfl
    · exact a.log l hl⟩
theorem sort_end {f : FuncId} {fi : FI} {x : XC} {mu : Bool} {N : Nat} {args : List AV} {st : St} {R : AV → Prop} (ok : FnOk Q f fi x mu) (hX : Q.X f args st = none) (hN : max fi.ntmps args.length = N) (a : SI G cs st)
    (h : Post N [] none (execY (callW Q) Q mu f none x ⟨argTmps args, N, [], none⟩ ⟨st.heap, st.next, []⟩) fun e T st1 => endOf e = some none ∧ ∃ v, (resultsA Q st1 T fi.results).map packA = some v ∧ R v ∧ (∀ s : St, freezeR Q s v = some (v, s)) ∧ untok v = v ∧ ∃ cs', SI G cs' st1) :
    ∃ v st' cs', callW Q (.fn f) args .normal st = some (.ret v, st', none) ∧ R v ∧ SI G cs' st' := by
  obtain ⟨e, T, st1, h1, h2, v, h3, hR, h4, h5, cs', h6⟩ := h
  have hc := callYr (r := (.ret v, leaveSt st [v] st1, none)) ok hX hN ⟨_, h1, by
    have := finish_ret (N := N) (C := Q) (f := f) (fi := fi) (kd := .normal) (call := callW Q) (pv := none) (st := st) (v := v) (st3 := st1) h2 h3 (by rw [frz_noRow (h4 st1) (fun _ => h5), h5])
    exact this⟩
  rcases leave_cases (st0 := st) (st1 := st1) (vs := [v]) with ⟨e1, _⟩ | e1
  · exact ⟨v, st, cs, by rw [hc]; exact congrArg (fun s => some (CR.ret v, s, none)) e1, hR, a⟩
  · refine ⟨v, ⟨st1.heap, st1.next, st1.log.filter (· < st.next) ++ st.log⟩, cs', by rw [hc, e1], hR, ⟨h6.row, h6.old, h6.nx, h6.perm, fun l hl => ?_⟩⟩
    simp only at hl
    rcases List.mem_append.1 hl with hl | hl
    · exact h6.log l (List.mem_filter.1 hl).1
    · exact a.log l hl
theorem SI.fresh {st : St} (a : SI G cs st) : SI G cs ⟨st.heap, st.next, []⟩ := ⟨a.row, a.old, a.nx, a.perm, fun l hl => nomatch hl⟩
section
variable (hK : K Q) (ok : G.OK Q)
include hK ok
theorem ins_inner {a b i : Nat} (ha : a < 1000000) : ∀ n T st, (∃ cs, T 0 = rowV G ∧ T 1 = .int .i64 (a : Int) ∧ T 2 = .int .i64 (b : Int) ∧ T 3 = cmpV ∧ T 8 = .int .i64 (i : Int) ∧ T 9 = .int .i64 (n : Int) ∧ n < G.cs0.length ∧ SI G cs st) →
    Post 53 [] none (execY (callW Q) Q false 77 none (.loop l77_0) ⟨T, 53, [], none⟩ st) fun e T' st' => e = .exit 2 ∧ ∃ cs, T' 0 = rowV G ∧ T' 1 = .int .i64 (a : Int) ∧ T' 2 = .int .i64 (b : Int) ∧ T' 3 = cmpV ∧ T' 8 = .int .i64 (i : Int) ∧ SI G cs st' := by
  refine post_loop fun n T st => ?_
  rintro ⟨cs, t0, t1, t2, t3, t8, t9, hn, hI⟩
  obtain ⟨h, nx, lg⟩ := st
  have hsm := ok.small
  have hlen := hI.len
  have hrow := hI.row
  have hrn : G.r < nx := Nat.lt_of_lt_of_le ok.rn hI.nx
  simp only [rowV, cmpV] at t0 t3 hrow
  by_cases hj : a < n
  · obtain ⟨v, hv, hv2⟩ := hI.at hn
    obtain ⟨w, hw, hw2⟩ := hI.at (show n - 1 < G.cs0.length by omega)
    have hn1 : n - 1 < G.cs0.length := by omega
    have hwr := wrapN (z := (n : Int) - 1) (n := n - 1) (by omega) (by omega)
    obtain ⟨c, hc⟩ := ok.cmp v w ⟨h, nx, []⟩ hI.old hI.nx (hI.S ok hv2) (hI.S ok hw2)
    have f1 := ok.cell _ (hI.S ok hv2)
    have f2 := ok.cell _ (hI.S ok hw2)
    have f3 := ok.ic _ (hI.S ok hv2)
    have f4 := ok.ic _ (hI.S ok hw2)
    cases hd : decide (c < 0) with
    | false =>
      simp only [RS, RT, RZ, tsc0, tz0, nq0, bs0, bn0, reduceLT, reduceLeDiff, reduceEqDiff, reduceMul, reduceAdd, reduceSub, reduceCtorEq, t0, t1, t2, t3, hlen, hrn, hrow, idxX_row, lenX_row, Nat.zero_add, Nat.mul_one, splice_set, List.length_set, rowV, cmpV, l77_0, kd77_0, kd77_1, t8, t9, hj, hn, hn1, hwr, hv, hw, hc, hd, f1, f2]
      exact ⟨_, hI⟩
    | true =>
      simp only [RS, RT, RZ, tsc0, tz0, nq0, bs0, bn0, reduceLT, reduceLeDiff, reduceEqDiff, reduceMul, reduceAdd, reduceSub, reduceCtorEq, t0, t1, t2, t3, hlen, hrn, hrow, idxX_row, lenX_row, Nat.zero_add, Nat.mul_one, splice_set, List.length_set, rowV, cmpV, l77_0, kd77_0, kd77_1, t8, t9, hj, hn, hn1, hwr, hv, hw, hc, hd, f1, f2, f3, f4, Nat.succ_le_of_lt hn, Nat.succ_le_of_lt hn1]
      exact ⟨n - 1, by omega, _, rfl, hn1, hI.swap hv hw⟩
  · simp only [RS, RT, RZ, tsc0, tz0, nq0, bs0, bn0, reduceLT, reduceLeDiff, reduceEqDiff, reduceMul, reduceAdd, reduceSub, reduceCtorEq, t0, t1, t2, t3, hlen, hrn, hrow, idxX_row, lenX_row, Nat.zero_add, Nat.mul_one, splice_set, List.length_set, rowV, cmpV, l77_0, kd77_0, kd77_1, t8, t9, hj]
    exact ⟨_, hI⟩
theorem ins_outer {a b : Nat} (hb : b ≤ G.cs0.length) : ∀ n T st, (∃ (i : Nat) (cs : List AV), T 0 = rowV G ∧ T 1 = .int .i64 (a : Int) ∧ T 2 = .int .i64 (b : Int) ∧ T 3 = cmpV ∧ T 8 = .int .i64 (i : Int) ∧ b < i + n ∧ i < 2000000 ∧ a < 1000000 ∧ SI G cs st) →
    Post 53 [] none (execY (callW Q) Q false 77 none (.loop l77_1) ⟨T, 53, [], none⟩ st) fun e T' st' => e = .exit 0 ∧ ∃ cs, SI G cs st' := by
  refine post_loop fun n T st => ?_
  rintro ⟨i, cs, t0, t1, t2, t3, t8, hn, hi, ha, hI⟩
  obtain ⟨h, nx, lg⟩ := st
  have hsm := ok.small
  by_cases hj : i < b
  · simp only [rowV, cmpV] at t0 t3
    simp only [RS, RT, RZ, tsc0, tz0, nq0, bs0, bn0, reduceLT, reduceLeDiff, reduceEqDiff, reduceMul, reduceAdd, reduceSub, reduceCtorEq, t0, t1, t2, t3, rowV, cmpV, l77_1, kd77_0, kd77_1, t8, hj]
    refine post_bind (ins_inner hK ok (a := a) (b := b) (i := i) ha i _ _ ⟨cs, ?_, ?_, ?_, ?_, ?_, ?_, by omega, hI⟩) ?_
    all_goals try (simp only [RS, RT, RZ, tsc0, tz0, nq0, bs0, bn0, reduceLT, reduceLeDiff, reduceEqDiff, reduceMul, reduceAdd, reduceSub, reduceCtorEq, t0, t1, t2, t3, rowV, cmpV, t8]; done)
    rintro e T' ⟨h', nx', lg'⟩ ⟨rfl, cs', u0, u1, u2, u3, u8, hI'⟩
    simp only [rowV, cmpV] at u0 u3
    have hwr := wrapN (z := (i : Int) + 1) (n := i + 1) (by omega) (by omega)
    simp only [RS, RT, RZ, tsc0, tz0, nq0, bs0, bn0, reduceLT, reduceLeDiff, reduceEqDiff, reduceMul, reduceAdd, reduceSub, reduceCtorEq, u0, u1, u2, u3, u8, hwr, rowV, cmpV]
    exact ⟨n - 1, by omega, i + 1, cs', rfl, by omega, by omega, ha, hI'⟩
  · simp only [rowV, cmpV] at t0 t3
    simp only [RS, RT, RZ, tsc0, tz0, nq0, bs0, bn0, reduceLT, reduceLeDiff, reduceEqDiff, reduceMul, reduceAdd, reduceSub, reduceCtorEq, t0, t1, t2, t3, rowV, cmpV, l77_1, kd77_0, kd77_1, t8, hj]
    exact ⟨_, hI⟩
theorem ins_c {a b : Nat} (ha : a < 1000000) (hb : b ≤ G.cs0.length) {st : St} {cs : List AV} (hI : SI G cs st) : ∃ v st' cs', callW Q (.fn 77) [rowV G, .int .i64 (a : Int), .int .i64 (b : Int), cmpV] .normal st = some (.ret v, st', none) ∧ v = .tuple [] ∧ SI G cs' st' := by
  refine sort_end (N := 53) (ok77 hK) (hK.nx _ _ _ rfl) rfl hI ?_
  have hsm := ok.small
  have hwr := wrapN (z := (a : Int) + 1) (n := a + 1) (by omega) (by omega)
  simp only [RS, RT, RZ, tsc0, tz0, nq0, bs0, bn0, reduceLT, reduceLeDiff, reduceEqDiff, reduceMul, reduceAdd, reduceSub, reduceCtorEq, x77, kd77_0, kd77_1, rowV, cmpV, hwr]
  refine post_bind (ins_outer hK ok (a := a) (b := b) hb b _ _ ⟨a + 1, cs, ?_, ?_, ?_, ?_, ?_, by omega, by omega, ha, hI.fresh⟩) ?_
  all_goals try (simp only [RS, RT, RZ, tsc0, tz0, nq0, bs0, bn0, reduceLT, reduceLeDiff, reduceEqDiff, reduceMul, reduceAdd, reduceSub, reduceCtorEq, rowV, cmpV]; done)
  rintro e T' st1 ⟨rfl, cs', hI'⟩
  simp only [RS, RT, RZ, tsc0, tz0, nq0, bs0, bn0, reduceLT, reduceLeDiff, reduceEqDiff, reduceMul, reduceAdd, reduceSub, reduceCtorEq, F77]
  exact ⟨.tuple [], rfl, rfl, fun _ => rfl, rfl, cs', hI'⟩
end
end Go.Proofs.P31

namespace Go.Proofs.P31
open Go Go.AE
open Nat (reduceLT reduceLeDiff reduceEqDiff reduceMul reduceAdd reduceSub)
set_option maxHeartbeats 8000000
variable {G : Srt} {Q : Ctx} {cs : List AV}
theorem getD_4 {a b c d e z : AV} {l : List AV} : (a :: b :: c :: d :: e :: l).getD 4 z = e := (rfl)
theorem SI.el {st : St} (hI : SI G cs st) (ok : G.OK Q) {i : Nat} (hi : i < G.cs0.length) : ∃ v, cs[i]? = some v ∧ v.cells = [v] ∧ v.isCell = true ∧ i + 1 ≤ G.cs0.length ∧ G.S v := by
  obtain ⟨v, hv, hv2⟩ := hI.at hi
  have := hI.S ok hv2
  exact ⟨v, hv, ok.cell _ this, ok.ic _ this, hi, this⟩
theorem SI.cmp {h : Nat → AO} {nx : Nat} {lg : List Nat} (hI : SI G cs ⟨h, nx, lg⟩) (ok : G.OK Q) {v w : AV} (hv : G.S v) (hw : G.S w) : ∃ n : Int, callW Q (.fn 27) [v, w] .normal ⟨h, nx, []⟩ = some (.ret (.int .i64 n), ⟨h, nx, []⟩, none) :=
  ok.cmp v w ⟨h, nx, []⟩ hI.old hI.nx hv hw
section
variable (hK : K Q) (ok : G.OK Q)
include hK ok
theorem sift_loop {lo hi first : Nat} (hf : first + hi ≤ G.cs0.length) : ∀ n T st, (∃ (root : Nat) (cs : List AV), T 0 = rowV G ∧ T 2 = .int .i64 (hi : Int) ∧ T 3 = .int .i64 (first : Int) ∧ T 4 = cmpV ∧ T 10 = .int .i64 (root : Int) ∧ hi < root + n ∧ root < 1000000 ∧ SI G cs st) →
    Post 82 [] none (execY (callW Q) Q false 102 none (.loop l102_0) ⟨T, 82, [], none⟩ st) fun e T' st' => (e = .exit 0 ∨ e = .ret) ∧ ∃ cs, SI G cs st' := by
  refine post_loop fun n T st => ?_
  rintro ⟨root, cs, t0, t2, t3, t4, t10, hn, hr, hI⟩
  obtain ⟨h, nx, lg⟩ := st
  have hsm := ok.small
  have hlen := hI.len
  have hrow := hI.row
  have hrn : G.r < nx := Nat.lt_of_lt_of_le ok.rn hI.nx
  simp only [rowV, cmpV] at t0 t4 hrow
  have w1 := wrapN (z := (2 : Int) * (root : Int)) (n := 2 * root) (by omega) (by omega)
  have w2 := wrapN (z := ((2 * root : Nat) : Int) + 1) (n := 2 * root + 1) (by omega) (by omega)
  have w3 := wrapN (z := ((2 * root + 1 : Nat) : Int) + 1) (n := 2 * root + 2) (by omega) (by omega)
  by_cases hc : 2 * root + 1 < hi
  · have w4 := wrapN (z := (first : Int) + ((2 * root + 1 : Nat) : Int)) (n := first + (2 * root + 1)) (by omega) (by omega)
    have w5 := wrapN (z := ((first + (2 * root + 1) : Nat) : Int) + 1) (n := first + (2 * root + 2)) (by omega) (by omega)
    have w6 := wrapN (z := (first : Int) + ((root : Nat) : Int)) (n := first + root) (by omega) (by omega)
    have w7 := wrapN (z := (first : Int) + ((2 * root + 2 : Nat) : Int)) (n := first + (2 * root + 2)) (by omega) (by omega)
    have hge : ¬ hi ≤ 2 * root + 1 := by omega
    obtain ⟨a, a1, a2, a3, a4, a5⟩ := hI.el ok (show first + root < G.cs0.length by omega)
    obtain ⟨b, b1, b2, b3, b4, b5⟩ := hI.el ok (show first + (2 * root + 1) < G.cs0.length by omega)
    have l1 : first + root < G.cs0.length := by omega
    have l2 : first + (2 * root + 1) < G.cs0.length := by omega
    have m1 : first + (root + 1) ≤ G.cs0.length := by omega
    have m2 : first + (2 * root + 2) ≤ G.cs0.length := by omega
    obtain ⟨c2, e2⟩ := hI.cmp ok a5 b5
    by_cases hc2 : 2 * root + 2 < hi
    · have l3 : first + (2 * root + 2) < G.cs0.length := by omega
      have m3 : first + (2 * root + 3) ≤ G.cs0.length := by omega
      obtain ⟨d, d1, d2, d3, d4, d5⟩ := hI.el ok l3
      obtain ⟨c1, e1⟩ := hI.cmp ok b5 d5
      obtain ⟨c3, e3⟩ := hI.cmp ok a5 d5
      cases g1 : decide (c1 < 0) with
      | false =>
        cases g2 : decide (c2 < 0) with
        | false =>
          simp only [RS, RT, RZ, tsc0, tz0, nq0, bs0, bn0, reduceLT, reduceLeDiff, reduceEqDiff, reduceMul, reduceAdd, reduceSub, reduceCtorEq, hlen, hrn, hrow, idxX_row, lenX_row, Nat.zero_add, Nat.mul_one, splice_set, List.length_set, rowV, cmpV, l102_0, kd102_0, kd102_1, kd102_2, t0, t2, t3, t4, t10, w1, w2, w3, w4, w5, w6, w7, hc, hc2, hge, m1, m2, a1, a2, a3, a4, b1, b2, b3, b4, d1, d2, d3, d4, e1, e2, e3, m3, g1, g2, l1, l2, l3]
          exact ⟨cs, hI⟩
        | true =>
          simp only [RS, RT, RZ, tsc0, tz0, nq0, bs0, bn0, reduceLT, reduceLeDiff, reduceEqDiff, reduceMul, reduceAdd, reduceSub, reduceCtorEq, hlen, hrn, hrow, idxX_row, lenX_row, Nat.zero_add, Nat.mul_one, splice_set, List.length_set, rowV, cmpV, l102_0, kd102_0, kd102_1, kd102_2, t0, t2, t3, t4, t10, w1, w2, w3, w4, w5, w6, w7, hc, hc2, hge, m1, m2, a1, a2, a3, a4, b1, b2, b3, b4, d1, d2, d3, d4, e1, e2, e3, m3, g1, g2, l1, l2, l3]
          exact ⟨n - 1, by omega, 2 * root + 1, _, rfl, by omega, by omega, hI.swap a1 b1⟩
      | true =>
        cases g2 : decide (c3 < 0) with
        | false =>
          simp only [RS, RT, RZ, tsc0, tz0, nq0, bs0, bn0, reduceLT, reduceLeDiff, reduceEqDiff, reduceMul, reduceAdd, reduceSub, reduceCtorEq, hlen, hrn, hrow, idxX_row, lenX_row, Nat.zero_add, Nat.mul_one, splice_set, List.length_set, rowV, cmpV, l102_0, kd102_0, kd102_1, kd102_2, t0, t2, t3, t4, t10, w1, w2, w3, w4, w5, w6, w7, hc, hc2, hge, m1, m2, a1, a2, a3, a4, b1, b2, b3, b4, d1, d2, d3, d4, e1, e2, e3, m3, g1, g2, l1, l2, l3]
          exact ⟨cs, hI⟩
        | true =>
          simp only [RS, RT, RZ, tsc0, tz0, nq0, bs0, bn0, reduceLT, reduceLeDiff, reduceEqDiff, reduceMul, reduceAdd, reduceSub, reduceCtorEq, hlen, hrn, hrow, idxX_row, lenX_row, Nat.zero_add, Nat.mul_one, splice_set, List.length_set, rowV, cmpV, l102_0, kd102_0, kd102_1, kd102_2, t0, t2, t3, t4, t10, w1, w2, w3, w4, w5, w6, w7, hc, hc2, hge, m1, m2, a1, a2, a3, a4, b1, b2, b3, b4, d1, d2, d3, d4, e1, e2, e3, m3, g1, g2, l1, l2, l3]
          exact ⟨n - 1, by omega, 2 * root + 2, _, rfl, by omega, by omega, hI.swap a1 d1⟩
    · cases g2 : decide (c2 < 0) with
      | false =>
        simp only [RS, RT, RZ, tsc0, tz0, nq0, bs0, bn0, reduceLT, reduceLeDiff, reduceEqDiff, reduceMul, reduceAdd, reduceSub, reduceCtorEq, hlen, hrn, hrow, idxX_row, lenX_row, Nat.zero_add, Nat.mul_one, splice_set, List.length_set, rowV, cmpV, l102_0, kd102_0, kd102_1, kd102_2, t0, t2, t3, t4, t10, w1, w2, w3, w4, w5, w6, w7, hc, hc2, hge, m1, m2, a1, a2, a3, a4, b1, b2, b3, b4, e2, g2, l1, l2]
        exact ⟨cs, hI⟩
      | true =>
        simp only [RS, RT, RZ, tsc0, tz0, nq0, bs0, bn0, reduceLT, reduceLeDiff, reduceEqDiff, reduceMul, reduceAdd, reduceSub, reduceCtorEq, hlen, hrn, hrow, idxX_row, lenX_row, Nat.zero_add, Nat.mul_one, splice_set, List.length_set, rowV, cmpV, l102_0, kd102_0, kd102_1, kd102_2, t0, t2, t3, t4, t10, w1, w2, w3, w4, w5, w6, w7, hc, hc2, hge, m1, m2, a1, a2, a3, a4, b1, b2, b3, b4, e2, g2, l1, l2]
        exact ⟨n - 1, by omega, 2 * root + 1, _, rfl, by omega, by omega, hI.swap a1 b1⟩
  · have hge : hi ≤ 2 * root + 1 := by omega
    simp only [RS, RT, RZ, tsc0, tz0, nq0, bs0, bn0, reduceLT, reduceLeDiff, reduceEqDiff, reduceMul, reduceAdd, reduceSub, reduceCtorEq, hlen, hrn, hrow, idxX_row, lenX_row, Nat.zero_add, Nat.mul_one, splice_set, List.length_set, rowV, cmpV, l102_0, kd102_0, kd102_1, kd102_2, t0, t2, t3, t4, t10, w1, w2, hge]
    exact ⟨_, hI⟩
theorem sift_c {lo hi first : Nat} (hf : first + hi ≤ G.cs0.length) (hl : lo < 1000000) {st : St} {cs : List AV} (hI : SI G cs st) : ∃ v st' cs', callW Q (.fn 102) [rowV G, .int .i64 (lo : Int), .int .i64 (hi : Int), .int .i64 (first : Int), cmpV] .normal st = some (.ret v, st', none) ∧ v = .tuple [] ∧ SI G cs' st' := by
  refine sort_end (N := 82) (ok102 hK) (hK.nx _ _ _ rfl) rfl hI ?_
  simp only [RS, RT, RZ, tsc0, tz0, nq0, bs0, bn0, reduceLT, reduceLeDiff, reduceEqDiff, reduceMul, reduceAdd, reduceSub, reduceCtorEq, x102, kd102_0, kd102_1, kd102_2, rowV, cmpV]
  refine post_bind (sift_loop hK ok (lo := lo) (hi := hi) (first := first) hf (hi + 1) _ _ ⟨lo, cs, ?_, ?_, ?_, ?_, ?_, by omega, by omega, hI.fresh⟩) ?_
  all_goals try (simp only [RS, RT, RZ, tsc0, tz0, nq0, bs0, bn0, reduceLT, reduceLeDiff, reduceEqDiff, reduceMul, reduceAdd, reduceSub, reduceCtorEq, rowV, cmpV, getD_4]; done)
  rintro e T' st1 ⟨rfl | rfl, cs', hI'⟩
  · simp only [RS, RT, RZ, tsc0, tz0, nq0, bs0, bn0, reduceLT, reduceLeDiff, reduceEqDiff, reduceMul, reduceAdd, reduceSub, reduceCtorEq, F102]
    exact ⟨.tuple [], rfl, rfl, fun _ => rfl, rfl, cs', hI'⟩
  · simp only [RS, RT, RZ, tsc0, tz0, nq0, bs0, bn0, reduceLT, reduceLeDiff, reduceEqDiff, reduceMul, reduceAdd, reduceSub, reduceCtorEq, F102]
    exact ⟨.tuple [], rfl, rfl, fun _ => rfl, rfl, cs', hI'⟩
end
end Go.Proofs.P31

namespace Go.Proofs.P31
open Go Go.AE
open Nat (reduceLT reduceLeDiff reduceEqDiff reduceMul reduceAdd reduceSub)
set_option maxHeartbeats 8000000
variable {G : Srt} {Q : Ctx} {cs : List AV}
theorem i_quo {k : IntKind} {x y : Int} (h : ¬ y = 0) : intOp .quo k x y = some (.int k (k.wrap (x.tdiv y))) := by
  simp only [intOp, if_neg h]
section
variable (hK : K Q) (ok : G.OK Q)
include hK ok
theorem heap1 {a n : Nat} (hn : a + n ≤ G.cs0.length) : ∀ (m : Nat) T st, (∃ (cs : List AV), T 0 = rowV G ∧ T 8 = .int .i64 (a : Int) ∧ T 9 = .int .i64 0 ∧ T 10 = .int .i64 (n : Int) ∧ T 3 = cmpV ∧ T 11 = .int .i64 ((m : Int) - 1) ∧ m < 1000000 ∧ SI G cs st) →
    Post 60 [] none (execY (callW Q) Q false 78 none (.loop l78_0) ⟨T, 60, [], none⟩ st) fun e T' st' => e = .exit 0 ∧ ∃ cs, T' 0 = rowV G ∧ T' 8 = .int .i64 (a : Int) ∧ T' 9 = .int .i64 0 ∧ T' 10 = .int .i64 (n : Int) ∧ T' 3 = cmpV ∧ SI G cs st' := by
  refine post_loop fun m T st => ?_
  rintro ⟨cs, t0, t8, t9, t10, t3, t11, hm, hI⟩
  obtain ⟨h, nx, lg⟩ := st
  have hsm := ok.small
  simp only [rowV, cmpV] at t0 t3
  cases m with
  | zero =>
    have e0 : decide ((0 : Int) ≤ 0 - 1) = false := by decide
    simp only [RS, RT, RZ, tsc0, tz0, nq0, bs0, bn0, reduceLT, reduceLeDiff, reduceEqDiff, reduceMul, reduceAdd, reduceSub, reduceCtorEq, rowV, cmpV, getD_4, l78_0, kd78_0, t0, t8, t9, t10, t3, t11, e0]
    exact ⟨_, hI⟩
  | succ m =>
    have e0 : decide ((0 : Int) ≤ ((m + 1 : Nat) : Int) - 1) = true := by rw [decide_eq_true_iff]; omega
    have e1 : ((m + 1 : Nat) : Int) - 1 = (m : Int) := by omega
    obtain ⟨v, st', cs', c1, rfl, c2⟩ := sift_c hK ok (lo := m) (hi := n) (first := a) hn (by omega) hI
    obtain ⟨h', nx', lg'⟩ := st'
    simp only [rowV, cmpV] at c1
    have w1 : IntKind.i64.wrap ((m : Int) - 1) = (m : Int) - 1 := wrap64 (by omega) (by omega)
    rw [e1] at t11
    have e2 : decide ((0 : Int) ≤ (m : Int)) = true := by rw [decide_eq_true_iff]; omega
    simp only [RS, RT, RZ, tsc0, tz0, nq0, bs0, bn0, reduceLT, reduceLeDiff, reduceEqDiff, reduceMul, reduceAdd, reduceSub, reduceCtorEq, rowV, cmpV, getD_4, l78_0, kd78_0, t0, t8, t9, t10, t3, t11, e2, c1, w1]
    exact ⟨m, by omega, cs', rfl, by omega, c2⟩
theorem heap2 {a n : Nat} (hn : a + n ≤ G.cs0.length) : ∀ (m : Nat) T st, (∃ (cs : List AV), T 0 = rowV G ∧ T 8 = .int .i64 (a : Int) ∧ T 9 = .int .i64 0 ∧ T 3 = cmpV ∧ T 12 = .int .i64 ((m : Int) - 1) ∧ m ≤ n ∧ SI G cs st) →
    Post 60 [] none (execY (callW Q) Q false 78 none (.loop l78_1) ⟨T, 60, [], none⟩ st) fun e T' st' => e = .exit 2 ∧ ∃ cs, SI G cs st' := by
  refine post_loop fun m T st => ?_
  rintro ⟨cs, t0, t8, t9, t3, t12, hm, hI⟩
  obtain ⟨h, nx, lg⟩ := st
  have hsm := ok.small
  have hlen := hI.len
  have hrow := hI.row
  have hrn : G.r < nx := Nat.lt_of_lt_of_le ok.rn hI.nx
  simp only [rowV, cmpV] at t0 t3 hrow
  cases m with
  | zero =>
    have e0 : decide ((0 : Int) ≤ 0 - 1) = false := by decide
    simp only [RS, RT, RZ, tsc0, tz0, nq0, bs0, bn0, reduceLT, reduceLeDiff, reduceEqDiff, reduceMul, reduceAdd, reduceSub, reduceCtorEq, rowV, cmpV, getD_4, l78_1, kd78_0, t0, t8, t9, t3, t12, e0]
    exact ⟨_, hI⟩
  | succ m =>
    have e1 : ((m + 1 : Nat) : Int) - 1 = (m : Int) := by omega
    rw [e1] at t12
    have e2 : decide ((0 : Int) ≤ (m : Int)) = true := by rw [decide_eq_true_iff]; omega
    obtain ⟨v, v1, v2, v3, v4, v5⟩ := hI.el ok (show a < G.cs0.length by omega)
    obtain ⟨w, w1, w2, w3, w4, w5⟩ := hI.el ok (show a + m < G.cs0.length by omega)
    have hw := wrapN (z := (a : Int) + (m : Int)) (n := a + m) (by omega) (by omega)
    have l1 : a < G.cs0.length := by omega
    have l2 : a + m < G.cs0.length := by omega
    have m2 : a + (m + 1) ≤ G.cs0.length := by omega
    have hI2 := hI.swap v1 w1
    obtain ⟨u, st', cs', c1, rfl, c2⟩ := sift_c hK ok (lo := 0) (hi := m) (first := a) (by omega) (by omega) hI2
    obtain ⟨h', nx', lg'⟩ := st'
    simp only [rowV, cmpV, cast_0] at c1
    have hw1 : IntKind.i64.wrap ((m : Int) - 1) = (m : Int) - 1 := wrap64 (by omega) (by omega)
    simp only [RS, RT, RZ, tsc0, tz0, nq0, bs0, bn0, reduceLT, reduceLeDiff, reduceEqDiff, reduceMul, reduceAdd, reduceSub, reduceCtorEq, hlen, hrn, hrow, idxX_row, lenX_row, Nat.zero_add, Nat.mul_one, splice_set, List.length_set, rowV, cmpV, l78_1, kd78_0, t0, t8, t9, t3, t12, e2, hw, l1, l2, m2, v1, v2, v3, v4, w1, w2, w3, w4, c1, hw1]
    exact ⟨m, by omega, cs', rfl, by omega, c2⟩
theorem heap_c {a b : Nat} (hab : a ≤ b) (hb : b ≤ G.cs0.length) {st : St} {cs : List AV} (hI : SI G cs st) : ∃ v st' cs', callW Q (.fn 78) [rowV G, .int .i64 (a : Int), .int .i64 (b : Int), cmpV] .normal st = some (.ret v, st', none) ∧ v = .tuple [] ∧ SI G cs' st' := by
  refine sort_end (N := 60) (ok78 hK) (hK.nx _ _ _ rfl) rfl hI ?_
  have hsm := ok.small
  have w1 := wrapN (z := (b : Int) - (a : Int)) (n := b - a) (by omega) (by omega)
  have w2 : IntKind.i64.wrap (((b - a : Nat) : Int) - 1) = ((b - a : Nat) : Int) - 1 := wrap64 (by omega) (by omega)
  obtain ⟨m, hm, hm2⟩ : ∃ m : Nat, IntKind.i64.wrap (((((b - a : Nat) : Int) - 1)).tdiv 2) = (m : Int) - 1 ∧ m < 1000000 := by
    by_cases h0 : b - a = 0
    · exact ⟨1, by rw [h0]; decide, by omega⟩
    · refine ⟨(b - a - 1) / 2 + 1, ?_, by omega⟩
      have e : (((b - a : Nat) : Int) - 1) = ((b - a - 1 : Nat) : Int) := by omega
      rw [e, show ((b - a - 1 : Nat) : Int).tdiv 2 = (((b - a - 1) / 2 : Nat) : Int) from rfl, wrap64 (by omega) (by omega)]
      omega
  simp only [RS, RT, RZ, tsc0, tz0, nq0, bs0, bn0, reduceLT, reduceLeDiff, reduceEqDiff, reduceMul, reduceAdd, reduceSub, reduceCtorEq, rowV, cmpV, getD_4, x78, kd78_0, w1, w2, i_quo, Int.reduceEq, hm]
  refine post_bind (heap1 hK ok (a := a) (n := b - a) (by omega) m _ _ ⟨cs, ?_, ?_, ?_, ?_, ?_, ?_, hm2, hI.fresh⟩) ?_
  all_goals try (simp only [RS, RT, RZ, tsc0, tz0, nq0, bs0, bn0, reduceLT, reduceLeDiff, reduceEqDiff, reduceMul, reduceAdd, reduceSub, reduceCtorEq, rowV, cmpV, getD_4, cast_0]; done)
  rintro e T' ⟨h1, nx1, lg1⟩ ⟨rfl, cs1, t0, t8, t9, t10, t3, hI1⟩
  simp only [rowV, cmpV] at t0 t3
  simp only [RS, RT, RZ, tsc0, tz0, nq0, bs0, bn0, reduceLT, reduceLeDiff, reduceEqDiff, reduceMul, reduceAdd, reduceSub, reduceCtorEq, rowV, cmpV, getD_4, t0, t8, t9, t10, t3, w2]
  refine post_bind (heap2 hK ok (a := a) (n := b - a) (by omega) (b - a) _ _ ⟨cs1, ?_, ?_, ?_, ?_, ?_, by omega, hI1⟩) ?_
  all_goals try (simp only [RS, RT, RZ, tsc0, tz0, nq0, bs0, bn0, reduceLT, reduceLeDiff, reduceEqDiff, reduceMul, reduceAdd, reduceSub, reduceCtorEq, rowV, cmpV, getD_4, t0, t8, t9, t10, t3]; done)
  rintro e T' st1 ⟨rfl, cs', hI'⟩
  simp only [RS, RT, RZ, tsc0, tz0, nq0, bs0, bn0, reduceLT, reduceLeDiff, reduceEqDiff, reduceMul, reduceAdd, reduceSub, reduceCtorEq, rowV, cmpV, getD_4, F78]
  exact ⟨.tuple [], rfl, rfl, fun _ => rfl, rfl, cs', hI'⟩
theorem rev_loop : ∀ n T st, (∃ (i j : Nat) (cs : List AV), T 0 = rowV G ∧ T 8 = .int .i64 (i : Int) ∧ T 9 = .int .i64 ((j : Int) - 1) ∧ j < i + n ∧ i < 2000000 ∧ j ≤ G.cs0.length ∧ SI G cs st) →
    Post 34 [] none (execY (callW Q) Q false 81 none (.loop l81_0) ⟨T, 34, [], none⟩ st) fun e T' st' => e = .exit 0 ∧ ∃ cs, SI G cs st' := by
  refine post_loop fun n T st => ?_
  rintro ⟨i, j, cs, t0, t8, t9, hn, hi, hj, hI⟩
  obtain ⟨h, nx, lg⟩ := st
  have hsm := ok.small
  have hlen := hI.len
  have hrow := hI.row
  have hrn : G.r < nx := Nat.lt_of_lt_of_le ok.rn hI.nx
  simp only [rowV, cmpV] at t0 hrow
  by_cases hc : i + 1 < j
  · have e1 : (j : Int) - 1 = ((j - 1 : Nat) : Int) := by omega
    rw [e1] at t9
    have l1 : i < G.cs0.length := by omega
    have l2 : j - 1 < G.cs0.length := by omega
    have hij : i < j - 1 := by omega
    obtain ⟨v, v1, v2, v3, v4, v5⟩ := hI.el ok l1
    obtain ⟨w, w1, w2, w3, w4, w5⟩ := hI.el ok l2
    have hw1 := wrapN (z := (i : Int) + 1) (n := i + 1) (by omega) (by omega)
    have hw2 : IntKind.i64.wrap (((j - 1 : Nat) : Int) - 1) = ((j - 1 : Nat) : Int) - 1 := wrap64 (by omega) (by omega)
    simp only [RS, RT, RZ, tsc0, tz0, nq0, bs0, bn0, reduceLT, reduceLeDiff, reduceEqDiff, reduceMul, reduceAdd, reduceSub, reduceCtorEq, hlen, hrn, hrow, idxX_row, lenX_row, Nat.zero_add, Nat.mul_one, splice_set, List.length_set, rowV, cmpV, l81_0, kd81_0, t0, t8, t9, l1, l2, hij, v1, v2, v3, v4, w1, w2, w3, w4, hw1, hw2]
    exact ⟨n - 1, by omega, i + 1, j - 1, _, rfl, rfl, by omega, by omega, by omega, hI.swap v1 w1⟩
  · have hd : decide ((i : Int) < (j : Int) - 1) = false := by rw [decide_eq_false_iff_not]; omega
    simp only [RS, RT, RZ, tsc0, tz0, nq0, bs0, bn0, reduceLT, reduceLeDiff, reduceEqDiff, reduceMul, reduceAdd, reduceSub, reduceCtorEq, hlen, hrn, hrow, idxX_row, lenX_row, Nat.zero_add, Nat.mul_one, splice_set, List.length_set, rowV, cmpV, l81_0, kd81_0, t0, t8, t9, hd]
    exact ⟨_, hI⟩
theorem rev_c {a b : Nat} (hab : a ≤ b) (hb : b ≤ G.cs0.length) {st : St} {cs : List AV} (hI : SI G cs st) : ∃ v st' cs', callW Q (.fn 81) [rowV G, .int .i64 (a : Int), .int .i64 (b : Int), cmpV] .normal st = some (.ret v, st', none) ∧ v = .tuple [] ∧ SI G cs' st' := by
  refine sort_end (N := 34) (ok81 hK) (hK.nx _ _ _ rfl) rfl hI ?_
  have hsm := ok.small
  have w2 : IntKind.i64.wrap ((b : Int) - 1) = (b : Int) - 1 := wrap64 (by omega) (by omega)
  simp only [RS, RT, RZ, tsc0, tz0, nq0, bs0, bn0, reduceLT, reduceLeDiff, reduceEqDiff, reduceMul, reduceAdd, reduceSub, reduceCtorEq, rowV, cmpV, getD_4, x81, kd81_0, w2]
  refine post_bind (rev_loop hK ok (b + 1) _ _ ⟨a, b, cs, ?_, ?_, ?_, by omega, by omega, hb, hI.fresh⟩) ?_
  all_goals try (simp only [RS, RT, RZ, tsc0, tz0, nq0, bs0, bn0, reduceLT, reduceLeDiff, reduceEqDiff, reduceMul, reduceAdd, reduceSub, reduceCtorEq, rowV, cmpV, getD_4, cast_0]; done)
  rintro e T' st1 ⟨rfl, cs', hI'⟩
  simp only [RS, RT, RZ, tsc0, tz0, nq0, bs0, bn0, reduceLT, reduceLeDiff, reduceEqDiff, reduceMul, reduceAdd, reduceSub, reduceCtorEq, rowV, cmpV, getD_4, F81]
  exact ⟨.tuple [], rfl, rfl, fun _ => rfl, rfl, cs', hI'⟩
end
end Go.Proofs.P31

namespace Go.Proofs.P31
open Go Go.AE
open Nat (reduceLT reduceLeDiff reduceEqDiff reduceMul reduceAdd reduceSub)
set_option maxHeartbeats 8000000
variable {G : Srt} {Q : Ctx} {cs : List AV}
structure PT (G : Srt) (a b k : Nat) (T : Nat → AV) : Prop where
  t0 : T 0 = rowV G
  t1 : T 1 = .int .i64 (a : Int)
  t2 : T 2 = .int .i64 (b : Int)
  t3 : T 3 = cmpV
  t10 : T 10 = .int .i64 (k : Int)
section
variable (hK : K Q) (ok : G.OK Q)
include hK ok
theorem par_A {a b k : Nat} (hb : b ≤ G.cs0.length) : ∀ (n : Nat) T st, (∃ (i : Nat) (cs : List AV), PT G a b k T ∧ T 9 = .int .i64 (i : Int) ∧ a + 1 ≤ i ∧ i ≤ b ∧ b < i + n ∧ SI G cs st) →
    Post 141 [] none (execY (callW Q) Q false 82 none (.loop l82_0) ⟨T, 141, [], none⟩ st) fun e T' st' => e = .exit 2 ∧ ∃ (i : Nat) (cs : List AV), PT G a b k T' ∧ T' 9 = .int .i64 (i : Int) ∧ a + 1 ≤ i ∧ i ≤ b ∧ SI G cs st' := by
  refine post_loop fun n T st => ?_
  rintro ⟨i, cs, ⟨t0, t1, t2, t3, t10⟩, t9, hi1, hi2, hn, hI⟩
  obtain ⟨h, nx, lg⟩ := st
  have hsm := ok.small
  have hlen := hI.len
  have hrow := hI.row
  have hrn : G.r < nx := Nat.lt_of_lt_of_le ok.rn hI.nx
  simp only [rowV, cmpV] at t0 t3 hrow
  by_cases hc : i < b
  · have l1 : i < G.cs0.length := by omega
    have l2 : i - 1 < G.cs0.length := by omega
    obtain ⟨v, v1, v2, v3, v4, v5⟩ := hI.el ok l1
    obtain ⟨w, w1, w2, w3, w4, w5⟩ := hI.el ok l2
    obtain ⟨c, e1⟩ := hI.cmp ok v5 w5
    have hw1 := wrapN (z := (i : Int) - 1) (n := i - 1) (by omega) (by omega)
    have hw2 := wrapN (z := (i : Int) + 1) (n := i + 1) (by omega) (by omega)
    cases g : decide (c < 0) with
    | false =>
      simp only [RS, RT, RZ, tsc0, tz0, nq0, bs0, bn0, reduceLT, reduceLeDiff, reduceEqDiff, reduceMul, reduceAdd, reduceSub, reduceCtorEq, hlen, hrn, hrow, idxX_row, lenX_row, Nat.zero_add, Nat.mul_one, splice_set, List.length_set, rowV, cmpV, l82_0, kd82_0, kd82_1, kd82_2, kd82_3, kd82_4, kd82_5, t0, t1, t2, t3, t9, t10, hc, l1, l2, v1, v2, v3, w1, w2, w3, e1, g, hw1, hw2]
      exact ⟨n - 1, by omega, i + 1, cs, ⟨by simp only [RS, RT, RZ, tsc0, tz0, nq0, bs0, bn0, reduceLT, reduceLeDiff, reduceEqDiff, reduceMul, reduceAdd, reduceSub, reduceCtorEq, rowV, cmpV, getD_4, t0], by simp only [RS, RT, RZ, tsc0, tz0, nq0, bs0, bn0, reduceLT, reduceLeDiff, reduceEqDiff, reduceMul, reduceAdd, reduceSub, reduceCtorEq, rowV, cmpV, getD_4, t1], by simp only [RS, RT, RZ, tsc0, tz0, nq0, bs0, bn0, reduceLT, reduceLeDiff, reduceEqDiff, reduceMul, reduceAdd, reduceSub, reduceCtorEq, rowV, cmpV, getD_4, t2], by simp only [RS, RT, RZ, tsc0, tz0, nq0, bs0, bn0, reduceLT, reduceLeDiff, reduceEqDiff, reduceMul, reduceAdd, reduceSub, reduceCtorEq, rowV, cmpV, getD_4, t3], by simp only [RS, RT, RZ, tsc0, tz0, nq0, bs0, bn0, reduceLT, reduceLeDiff, reduceEqDiff, reduceMul, reduceAdd, reduceSub, reduceCtorEq, rowV, cmpV, getD_4, t10]⟩, rfl, by omega, by omega, by omega, hI⟩
    | true =>
      simp only [RS, RT, RZ, tsc0, tz0, nq0, bs0, bn0, reduceLT, reduceLeDiff, reduceEqDiff, reduceMul, reduceAdd, reduceSub, reduceCtorEq, hlen, hrn, hrow, idxX_row, lenX_row, Nat.zero_add, Nat.mul_one, splice_set, List.length_set, rowV, cmpV, l82_0, kd82_0, kd82_1, kd82_2, kd82_3, kd82_4, kd82_5, t0, t1, t2, t3, t9, t10, hc, l1, l2, v1, v2, v3, w1, w2, w3, e1, g, hw1, hw2]
      exact ⟨i, cs, ⟨by simp only [RS, RT, RZ, tsc0, tz0, nq0, bs0, bn0, reduceLT, reduceLeDiff, reduceEqDiff, reduceMul, reduceAdd, reduceSub, reduceCtorEq, rowV, cmpV, getD_4, t0], by simp only [RS, RT, RZ, tsc0, tz0, nq0, bs0, bn0, reduceLT, reduceLeDiff, reduceEqDiff, reduceMul, reduceAdd, reduceSub, reduceCtorEq, rowV, cmpV, getD_4, t1], by simp only [RS, RT, RZ, tsc0, tz0, nq0, bs0, bn0, reduceLT, reduceLeDiff, reduceEqDiff, reduceMul, reduceAdd, reduceSub, reduceCtorEq, rowV, cmpV, getD_4, t2], by simp only [RS, RT, RZ, tsc0, tz0, nq0, bs0, bn0, reduceLT, reduceLeDiff, reduceEqDiff, reduceMul, reduceAdd, reduceSub, reduceCtorEq, rowV, cmpV, getD_4, t3], by simp only [RS, RT, RZ, tsc0, tz0, nq0, bs0, bn0, reduceLT, reduceLeDiff, reduceEqDiff, reduceMul, reduceAdd, reduceSub, reduceCtorEq, rowV, cmpV, getD_4, t10]⟩, rfl, by omega, by omega, hI⟩
  · simp only [RS, RT, RZ, tsc0, tz0, nq0, bs0, bn0, reduceLT, reduceLeDiff, reduceEqDiff, reduceMul, reduceAdd, reduceSub, reduceCtorEq, hlen, hrn, hrow, idxX_row, lenX_row, Nat.zero_add, Nat.mul_one, splice_set, List.length_set, rowV, cmpV, l82_0, kd82_0, kd82_1, kd82_2, kd82_3, kd82_4, kd82_5, t0, t1, t2, t3, t9, t10, hc]
    exact ⟨i, cs, ⟨by simp only [RS, RT, RZ, tsc0, tz0, nq0, bs0, bn0, reduceLT, reduceLeDiff, reduceEqDiff, reduceMul, reduceAdd, reduceSub, reduceCtorEq, rowV, cmpV, getD_4, t0], by simp only [RS, RT, RZ, tsc0, tz0, nq0, bs0, bn0, reduceLT, reduceLeDiff, reduceEqDiff, reduceMul, reduceAdd, reduceSub, reduceCtorEq, rowV, cmpV, getD_4, t1], by simp only [RS, RT, RZ, tsc0, tz0, nq0, bs0, bn0, reduceLT, reduceLeDiff, reduceEqDiff, reduceMul, reduceAdd, reduceSub, reduceCtorEq, rowV, cmpV, getD_4, t2], by simp only [RS, RT, RZ, tsc0, tz0, nq0, bs0, bn0, reduceLT, reduceLeDiff, reduceEqDiff, reduceMul, reduceAdd, reduceSub, reduceCtorEq, rowV, cmpV, getD_4, t3], by simp only [RS, RT, RZ, tsc0, tz0, nq0, bs0, bn0, reduceLT, reduceLeDiff, reduceEqDiff, reduceMul, reduceAdd, reduceSub, reduceCtorEq, rowV, cmpV, getD_4, t10]⟩, rfl, by omega, by omega, hI⟩
theorem par_B {a b k i : Nat} (hb : b ≤ G.cs0.length) : ∀ (n : Nat) T st, (∃ (cs : List AV), PT G a b k T ∧ T 9 = .int .i64 (i : Int) ∧ T 11 = .int .i64 (n : Int) ∧ n < b ∧ SI G cs st) →
    Post 141 [] none (execY (callW Q) Q false 82 none (.loop l82_1) ⟨T, 141, [], none⟩ st) fun e T' st' => e = .exit 4 ∧ ∃ (cs : List AV), PT G a b k T' ∧ T' 9 = .int .i64 (i : Int) ∧ SI G cs st' := by
  refine post_loop fun n T st => ?_
  rintro ⟨cs, ⟨t0, t1, t2, t3, t10⟩, t9, t11, hn, hI⟩
  obtain ⟨h, nx, lg⟩ := st
  have hsm := ok.small
  have hlen := hI.len
  have hrow := hI.row
  have hrn : G.r < nx := Nat.lt_of_lt_of_le ok.rn hI.nx
  simp only [rowV, cmpV] at t0 t3 hrow
  by_cases hc : 1 ≤ n
  · have l1 : n < G.cs0.length := by omega
    have l2 : n - 1 < G.cs0.length := by omega
    obtain ⟨v, v1, v2, v3, v4, v5⟩ := hI.el ok l1
    obtain ⟨w, w1, w2, w3, w4, w5⟩ := hI.el ok l2
    obtain ⟨c, e1⟩ := hI.cmp ok v5 w5
    have hw1 := wrapN (z := (n : Int) - 1) (n := n - 1) (by omega) (by omega)
    have e0 : decide ((1 : Int) ≤ (n : Int)) = true := by rw [decide_eq_true_iff]; omega
    cases g : decide (c < 0) with
    | false =>
      simp only [RS, RT, RZ, tsc0, tz0, nq0, bs0, bn0, reduceLT, reduceLeDiff, reduceEqDiff, reduceMul, reduceAdd, reduceSub, reduceCtorEq, hlen, hrn, hrow, idxX_row, lenX_row, Nat.zero_add, Nat.mul_one, splice_set, List.length_set, rowV, cmpV, l82_1, kd82_0, kd82_1, kd82_2, kd82_3, kd82_4, kd82_5, t0, t1, t2, t3, t9, t10, t11, e0, l1, l2, v1, v2, v3, w1, w2, w3, e1, g, hw1]
      exact ⟨cs, ⟨by simp only [RS, RT, RZ, tsc0, tz0, nq0, bs0, bn0, reduceLT, reduceLeDiff, reduceEqDiff, reduceMul, reduceAdd, reduceSub, reduceCtorEq, rowV, cmpV, getD_4, t0], by simp only [RS, RT, RZ, tsc0, tz0, nq0, bs0, bn0, reduceLT, reduceLeDiff, reduceEqDiff, reduceMul, reduceAdd, reduceSub, reduceCtorEq, rowV, cmpV, getD_4, t1], by simp only [RS, RT, RZ, tsc0, tz0, nq0, bs0, bn0, reduceLT, reduceLeDiff, reduceEqDiff, reduceMul, reduceAdd, reduceSub, reduceCtorEq, rowV, cmpV, getD_4, t2], by simp only [RS, RT, RZ, tsc0, tz0, nq0, bs0, bn0, reduceLT, reduceLeDiff, reduceEqDiff, reduceMul, reduceAdd, reduceSub, reduceCtorEq, rowV, cmpV, getD_4, t3], by simp only [RS, RT, RZ, tsc0, tz0, nq0, bs0, bn0, reduceLT, reduceLeDiff, reduceEqDiff, reduceMul, reduceAdd, reduceSub, reduceCtorEq, rowV, cmpV, getD_4, t10]⟩, hI⟩
    | true =>
      simp only [RS, RT, RZ, tsc0, tz0, nq0, bs0, bn0, reduceLT, reduceLeDiff, reduceEqDiff, reduceMul, reduceAdd, reduceSub, reduceCtorEq, hlen, hrn, hrow, idxX_row, lenX_row, Nat.zero_add, Nat.mul_one, splice_set, List.length_set, rowV, cmpV, l82_1, kd82_0, kd82_1, kd82_2, kd82_3, kd82_4, kd82_5, t0, t1, t2, t3, t9, t10, t11, e0, l1, l2, v1, v2, v3, v4, w1, w2, w3, w4, e1, g, hw1]
      exact ⟨n - 1, by omega, _, ⟨by simp only [RS, RT, RZ, tsc0, tz0, nq0, bs0, bn0, reduceLT, reduceLeDiff, reduceEqDiff, reduceMul, reduceAdd, reduceSub, reduceCtorEq, rowV, cmpV, getD_4, t0], by simp only [RS, RT, RZ, tsc0, tz0, nq0, bs0, bn0, reduceLT, reduceLeDiff, reduceEqDiff, reduceMul, reduceAdd, reduceSub, reduceCtorEq, rowV, cmpV, getD_4, t1], by simp only [RS, RT, RZ, tsc0, tz0, nq0, bs0, bn0, reduceLT, reduceLeDiff, reduceEqDiff, reduceMul, reduceAdd, reduceSub, reduceCtorEq, rowV, cmpV, getD_4, t2], by simp only [RS, RT, RZ, tsc0, tz0, nq0, bs0, bn0, reduceLT, reduceLeDiff, reduceEqDiff, reduceMul, reduceAdd, reduceSub, reduceCtorEq, rowV, cmpV, getD_4, t3], by simp only [RS, RT, RZ, tsc0, tz0, nq0, bs0, bn0, reduceLT, reduceLeDiff, reduceEqDiff, reduceMul, reduceAdd, reduceSub, reduceCtorEq, rowV, cmpV, getD_4, t10]⟩, rfl, by omega, hI.swap v1 w1⟩
  · have e0 : decide ((1 : Int) ≤ (n : Int)) = false := by rw [decide_eq_false_iff_not]; omega
    simp only [RS, RT, RZ, tsc0, tz0, nq0, bs0, bn0, reduceLT, reduceLeDiff, reduceEqDiff, reduceMul, reduceAdd, reduceSub, reduceCtorEq, hlen, hrn, hrow, idxX_row, lenX_row, Nat.zero_add, Nat.mul_one, splice_set, List.length_set, rowV, cmpV, l82_1, kd82_0, kd82_1, kd82_2, kd82_3, kd82_4, kd82_5, t0, t1, t2, t3, t9, t10, t11, e0]
    exact ⟨cs, ⟨by simp only [RS, RT, RZ, tsc0, tz0, nq0, bs0, bn0, reduceLT, reduceLeDiff, reduceEqDiff, reduceMul, reduceAdd, reduceSub, reduceCtorEq, rowV, cmpV, getD_4, t0], by simp only [RS, RT, RZ, tsc0, tz0, nq0, bs0, bn0, reduceLT, reduceLeDiff, reduceEqDiff, reduceMul, reduceAdd, reduceSub, reduceCtorEq, rowV, cmpV, getD_4, t1], by simp only [RS, RT, RZ, tsc0, tz0, nq0, bs0, bn0, reduceLT, reduceLeDiff, reduceEqDiff, reduceMul, reduceAdd, reduceSub, reduceCtorEq, rowV, cmpV, getD_4, t2], by simp only [RS, RT, RZ, tsc0, tz0, nq0, bs0, bn0, reduceLT, reduceLeDiff, reduceEqDiff, reduceMul, reduceAdd, reduceSub, reduceCtorEq, rowV, cmpV, getD_4, t3], by simp only [RS, RT, RZ, tsc0, tz0, nq0, bs0, bn0, reduceLT, reduceLeDiff, reduceEqDiff, reduceMul, reduceAdd, reduceSub, reduceCtorEq, rowV, cmpV, getD_4, t10]⟩, hI⟩
theorem par_C {a b k i : Nat} (hb : b ≤ G.cs0.length) : ∀ (n : Nat) T st, (∃ (j : Nat) (cs : List AV), PT G a b k T ∧ T 9 = .int .i64 (i : Int) ∧ T 12 = .int .i64 (j : Int) ∧ 1 ≤ j ∧ b < j + n ∧ j ≤ b + 1 ∧ SI G cs st) →
    Post 141 [] none (execY (callW Q) Q false 82 none (.loop l82_2) ⟨T, 141, [], none⟩ st) fun e T' st' => e = .exit 6 ∧ ∃ (cs : List AV), PT G a b k T' ∧ T' 9 = .int .i64 (i : Int) ∧ SI G cs st' := by
  refine post_loop fun n T st => ?_
  rintro ⟨j, cs, ⟨t0, t1, t2, t3, t10⟩, t9, t12, hj, hn, hj2, hI⟩
  obtain ⟨h, nx, lg⟩ := st
  have hsm := ok.small
  have hlen := hI.len
  have hrow := hI.row
  have hrn : G.r < nx := Nat.lt_of_lt_of_le ok.rn hI.nx
  simp only [rowV, cmpV] at t0 t3 hrow
  by_cases hc : j < b
  · have l1 : j < G.cs0.length := by omega
    have l2 : j - 1 < G.cs0.length := by omega
    obtain ⟨v, v1, v2, v3, v4, v5⟩ := hI.el ok l1
    obtain ⟨w, w1, w2, w3, w4, w5⟩ := hI.el ok l2
    obtain ⟨c, e1⟩ := hI.cmp ok v5 w5
    have hw1 := wrapN (z := (j : Int) - 1) (n := j - 1) (by omega) (by omega)
    have hw2 := wrapN (z := (j : Int) + 1) (n := j + 1) (by omega) (by omega)
    cases g : decide (c < 0) with
    | false =>
      simp only [RS, RT, RZ, tsc0, tz0, nq0, bs0, bn0, reduceLT, reduceLeDiff, reduceEqDiff, reduceMul, reduceAdd, reduceSub, reduceCtorEq, hlen, hrn, hrow, idxX_row, lenX_row, Nat.zero_add, Nat.mul_one, splice_set, List.length_set, rowV, cmpV, l82_2, kd82_0, kd82_1, kd82_2, kd82_3, kd82_4, kd82_5, t0, t1, t2, t3, t9, t10, t12, hc, l1, l2, v1, v2, v3, w1, w2, w3, e1, g, hw1, hw2]
      exact ⟨cs, ⟨by simp only [RS, RT, RZ, tsc0, tz0, nq0, bs0, bn0, reduceLT, reduceLeDiff, reduceEqDiff, reduceMul, reduceAdd, reduceSub, reduceCtorEq, rowV, cmpV, getD_4, t0], by simp only [RS, RT, RZ, tsc0, tz0, nq0, bs0, bn0, reduceLT, reduceLeDiff, reduceEqDiff, reduceMul, reduceAdd, reduceSub, reduceCtorEq, rowV, cmpV, getD_4, t1], by simp only [RS, RT, RZ, tsc0, tz0, nq0, bs0, bn0, reduceLT, reduceLeDiff, reduceEqDiff, reduceMul, reduceAdd, reduceSub, reduceCtorEq, rowV, cmpV, getD_4, t2], by simp only [RS, RT, RZ, tsc0, tz0, nq0, bs0, bn0, reduceLT, reduceLeDiff, reduceEqDiff, reduceMul, reduceAdd, reduceSub, reduceCtorEq, rowV, cmpV, getD_4, t3], by simp only [RS, RT, RZ, tsc0, tz0, nq0, bs0, bn0, reduceLT, reduceLeDiff, reduceEqDiff, reduceMul, reduceAdd, reduceSub, reduceCtorEq, rowV, cmpV, getD_4, t10]⟩, hI⟩
    | true =>
      simp only [RS, RT, RZ, tsc0, tz0, nq0, bs0, bn0, reduceLT, reduceLeDiff, reduceEqDiff, reduceMul, reduceAdd, reduceSub, reduceCtorEq, hlen, hrn, hrow, idxX_row, lenX_row, Nat.zero_add, Nat.mul_one, splice_set, List.length_set, rowV, cmpV, l82_2, kd82_0, kd82_1, kd82_2, kd82_3, kd82_4, kd82_5, t0, t1, t2, t3, t9, t10, t12, hc, l1, l2, v1, v2, v3, v4, w1, w2, w3, w4, e1, g, hw1, hw2]
      exact ⟨n - 1, by omega, j + 1, _, ⟨by simp only [RS, RT, RZ, tsc0, tz0, nq0, bs0, bn0, reduceLT, reduceLeDiff, reduceEqDiff, reduceMul, reduceAdd, reduceSub, reduceCtorEq, rowV, cmpV, getD_4, t0], by simp only [RS, RT, RZ, tsc0, tz0, nq0, bs0, bn0, reduceLT, reduceLeDiff, reduceEqDiff, reduceMul, reduceAdd, reduceSub, reduceCtorEq, rowV, cmpV, getD_4, t1], by simp only [RS, RT, RZ, tsc0, tz0, nq0, bs0, bn0, reduceLT, reduceLeDiff, reduceEqDiff, reduceMul, reduceAdd, reduceSub, reduceCtorEq, rowV, cmpV, getD_4, t2], by simp only [RS, RT, RZ, tsc0, tz0, nq0, bs0, bn0, reduceLT, reduceLeDiff, reduceEqDiff, reduceMul, reduceAdd, reduceSub, reduceCtorEq, rowV, cmpV, getD_4, t3], by simp only [RS, RT, RZ, tsc0, tz0, nq0, bs0, bn0, reduceLT, reduceLeDiff, reduceEqDiff, reduceMul, reduceAdd, reduceSub, reduceCtorEq, rowV, cmpV, getD_4, t10]⟩, rfl, by omega, by omega, by omega, hI.swap v1 w1⟩
  · simp only [RS, RT, RZ, tsc0, tz0, nq0, bs0, bn0, reduceLT, reduceLeDiff, reduceEqDiff, reduceMul, reduceAdd, reduceSub, reduceCtorEq, hlen, hrn, hrow, idxX_row, lenX_row, Nat.zero_add, Nat.mul_one, splice_set, List.length_set, rowV, cmpV, l82_2, kd82_0, kd82_1, kd82_2, kd82_3, kd82_4, kd82_5, t0, t1, t2, t3, t9, t10, t12, hc]
    exact ⟨cs, ⟨by simp only [RS, RT, RZ, tsc0, tz0, nq0, bs0, bn0, reduceLT, reduceLeDiff, reduceEqDiff, reduceMul, reduceAdd, reduceSub, reduceCtorEq, rowV, cmpV, getD_4, t0], by simp only [RS, RT, RZ, tsc0, tz0, nq0, bs0, bn0, reduceLT, reduceLeDiff, reduceEqDiff, reduceMul, reduceAdd, reduceSub, reduceCtorEq, rowV, cmpV, getD_4, t1], by simp only [RS, RT, RZ, tsc0, tz0, nq0, bs0, bn0, reduceLT, reduceLeDiff, reduceEqDiff, reduceMul, reduceAdd, reduceSub, reduceCtorEq, rowV, cmpV, getD_4, t2], by simp only [RS, RT, RZ, tsc0, tz0, nq0, bs0, bn0, reduceLT, reduceLeDiff, reduceEqDiff, reduceMul, reduceAdd, reduceSub, reduceCtorEq, rowV, cmpV, getD_4, t3], by simp only [RS, RT, RZ, tsc0, tz0, nq0, bs0, bn0, reduceLT, reduceLeDiff, reduceEqDiff, reduceMul, reduceAdd, reduceSub, reduceCtorEq, rowV, cmpV, getD_4, t10]⟩, hI⟩
theorem par_O {a b : Nat} (hb : b ≤ G.cs0.length) : ∀ (n : Nat) T st, (∃ (k i : Nat) (cs : List AV), PT G a b k T ∧ T 9 = .int .i64 (i : Int) ∧ k + n = 6 ∧ a + 1 ≤ i ∧ i ≤ b ∧ SI G cs st) →
    Post 141 [] none (execY (callW Q) Q false 82 none (.loop l82_3) ⟨T, 141, [], none⟩ st) fun e T' st' => (e = .exit 0 ∨ (e = .ret ∧ ∃ r, T' 8 = .bool r)) ∧ ∃ (cs : List AV), SI G cs st' := by
  refine post_loop fun n T st => ?_
  rintro ⟨k, i, cs, ⟨t0, t1, t2, t3, t10⟩, t9, hk, hi1, hi2, hI⟩
  obtain ⟨h, nx, lg⟩ := st
  have hsm := ok.small
  simp only [rowV, cmpV] at t0 t3
  by_cases hc : k < 5
  · have e0 : decide ((k : Int) < 5) = true := by rw [decide_eq_true_iff]; omega
    simp only [RS, RT, RZ, tsc0, tz0, nq0, bs0, bn0, reduceLT, reduceLeDiff, reduceEqDiff, reduceMul, reduceAdd, reduceSub, reduceCtorEq, rowV, cmpV, getD_4, l82_3, kd82_0, kd82_1, kd82_2, kd82_3, kd82_4, kd82_5, t0, t1, t2, t3, t9, t10, e0]
    refine post_bind (par_A hK ok (a := a) (b := b) (k := k) hb (b + 1) _ _ ⟨i, cs, ⟨by simp only [RS, RT, RZ, tsc0, tz0, nq0, bs0, bn0, reduceLT, reduceLeDiff, reduceEqDiff, reduceMul, reduceAdd, reduceSub, reduceCtorEq, rowV, cmpV, getD_4, t0], by simp only [RS, RT, RZ, tsc0, tz0, nq0, bs0, bn0, reduceLT, reduceLeDiff, reduceEqDiff, reduceMul, reduceAdd, reduceSub, reduceCtorEq, rowV, cmpV, getD_4, t1], by simp only [RS, RT, RZ, tsc0, tz0, nq0, bs0, bn0, reduceLT, reduceLeDiff, reduceEqDiff, reduceMul, reduceAdd, reduceSub, reduceCtorEq, rowV, cmpV, getD_4, t2], by simp only [RS, RT, RZ, tsc0, tz0, nq0, bs0, bn0, reduceLT, reduceLeDiff, reduceEqDiff, reduceMul, reduceAdd, reduceSub, reduceCtorEq, rowV, cmpV, getD_4, t3], by simp only [RS, RT, RZ, tsc0, tz0, nq0, bs0, bn0, reduceLT, reduceLeDiff, reduceEqDiff, reduceMul, reduceAdd, reduceSub, reduceCtorEq, rowV, cmpV, getD_4, t10]⟩, ?_, hi1, hi2, by omega, hI⟩) ?_
    · simp only [RS, RT, RZ, tsc0, tz0, nq0, bs0, bn0, reduceLT, reduceLeDiff, reduceEqDiff, reduceMul, reduceAdd, reduceSub, reduceCtorEq, rowV, cmpV, getD_4, t9]
    rintro e T' ⟨h1, nx1, lg1⟩ ⟨rfl, i1, cs1, ⟨t0, t1, t2, t3, t10⟩, t9, hi3, hi4, hI1⟩
    have hlen := hI1.len
    have hrow := hI1.row
    have hrn : G.r < nx1 := Nat.lt_of_lt_of_le ok.rn hI1.nx
    simp only [rowV, cmpV] at t0 t3 hrow
    cases hq : ((i1 : Int) == (b : Int)) with
    | true =>
      simp only [RS, RT, RZ, tsc0, tz0, nq0, bs0, bn0, reduceLT, reduceLeDiff, reduceEqDiff, reduceMul, reduceAdd, reduceSub, reduceCtorEq, rowV, cmpV, getD_4, t0, t1, t2, t3, t9, t10, hq]
      exact ⟨⟨true, rfl⟩, cs1, hI1⟩
    | false =>
      have hib : i1 < b := by
        rw [beq_eq_false_iff_ne] at hq; omega
      have q1 := wrapN (z := (b : Int) - (a : Int)) (n := b - a) (by omega) (by omega)
      cases hs : decide (((b - a : Nat) : Int) < 50) with
      | true =>
        simp only [RS, RT, RZ, tsc0, tz0, nq0, bs0, bn0, reduceLT, reduceLeDiff, reduceEqDiff, reduceMul, reduceAdd, reduceSub, reduceCtorEq, rowV, cmpV, getD_4, t0, t1, t2, t3, t9, t10, hq, q1, hs]
        exact ⟨⟨false, rfl⟩, cs1, hI1⟩
      | false =>
        have l1 : i1 < G.cs0.length := by omega
        have l2 : i1 - 1 < G.cs0.length := by omega
        obtain ⟨v, v1, v2, v3, v4, v5⟩ := hI1.el ok l1
        obtain ⟨w, w1, w2, w3, w4, w5⟩ := hI1.el ok l2
        have q2 := wrapN (z := (i1 : Int) - 1) (n := i1 - 1) (by omega) (by omega)
        have q3 := wrapN (z := (i1 : Int) - (a : Int)) (n := i1 - a) (by omega) (by omega)
        have q4 := wrapN (z := (b : Int) - (i1 : Int)) (n := b - i1) (by omega) (by omega)
        have q5 := wrapN (z := (i1 : Int) + 1) (n := i1 + 1) (by omega) (by omega)
        have q6 := wrapN (z := (k : Int) + 1) (n := k + 1) (by omega) (by omega)
        have hI2 := hI1.swap v1 w1
        cases hB : decide ((2 : Int) ≤ ((i1 - a : Nat) : Int)) with
        | true =>
          simp only [RS, RT, RZ, tsc0, tz0, nq0, bs0, bn0, reduceLT, reduceLeDiff, reduceEqDiff, reduceMul, reduceAdd, reduceSub, reduceCtorEq, hlen, hrn, hrow, idxX_row, lenX_row, Nat.zero_add, Nat.mul_one, splice_set, List.length_set, rowV, cmpV, kd82_0, kd82_1, kd82_2, kd82_3, kd82_4, kd82_5, t0, t1, t2, t3, t9, t10, hq, q1, hs, l1, l2, v1, v2, v3, v4, w1, w2, w3, w4, q2, q3, hB]
          refine post_bind (par_B hK ok (a := a) (b := b) (k := k) (i := i1) hb (i1 - 1) _ _ ⟨_, ⟨by simp only [RS, RT, RZ, tsc0, tz0, nq0, bs0, bn0, reduceLT, reduceLeDiff, reduceEqDiff, reduceMul, reduceAdd, reduceSub, reduceCtorEq, rowV, cmpV, getD_4, t0], by simp only [RS, RT, RZ, tsc0, tz0, nq0, bs0, bn0, reduceLT, reduceLeDiff, reduceEqDiff, reduceMul, reduceAdd, reduceSub, reduceCtorEq, rowV, cmpV, getD_4, t1], by simp only [RS, RT, RZ, tsc0, tz0, nq0, bs0, bn0, reduceLT, reduceLeDiff, reduceEqDiff, reduceMul, reduceAdd, reduceSub, reduceCtorEq, rowV, cmpV, getD_4, t2], by simp only [RS, RT, RZ, tsc0, tz0, nq0, bs0, bn0, reduceLT, reduceLeDiff, reduceEqDiff, reduceMul, reduceAdd, reduceSub, reduceCtorEq, rowV, cmpV, getD_4, t3], by simp only [RS, RT, RZ, tsc0, tz0, nq0, bs0, bn0, reduceLT, reduceLeDiff, reduceEqDiff, reduceMul, reduceAdd, reduceSub, reduceCtorEq, rowV, cmpV, getD_4, t10]⟩, ?_, ?_, by omega, hI2⟩) ?_
          · simp only [RS, RT, RZ, tsc0, tz0, nq0, bs0, bn0, reduceLT, reduceLeDiff, reduceEqDiff, reduceMul, reduceAdd, reduceSub, reduceCtorEq, rowV, cmpV, getD_4, t9]
          · simp only [RS, RT, RZ, tsc0, tz0, nq0, bs0, bn0, reduceLT, reduceLeDiff, reduceEqDiff, reduceMul, reduceAdd, reduceSub, reduceCtorEq, rowV, cmpV, getD_4, ]
          rintro e T' ⟨h2, nx2, lg2⟩ ⟨rfl, cs2, ⟨t0, t1, t2, t3, t10⟩, t9, hI3⟩
          simp only [rowV, cmpV] at t0 t3
          cases hC : decide ((2 : Int) ≤ ((b - i1 : Nat) : Int)) with
          | true =>
            simp only [RS, RT, RZ, tsc0, tz0, nq0, bs0, bn0, reduceLT, reduceLeDiff, reduceEqDiff, reduceMul, reduceAdd, reduceSub, reduceCtorEq, rowV, cmpV, getD_4, t0, t1, t2, t3, t9, t10, q4, q5, hC]
            refine post_bind (par_C hK ok (a := a) (b := b) (k := k) (i := i1) hb (b + 1) _ _ ⟨i1 + 1, _, ⟨by simp only [RS, RT, RZ, tsc0, tz0, nq0, bs0, bn0, reduceLT, reduceLeDiff, reduceEqDiff, reduceMul, reduceAdd, reduceSub, reduceCtorEq, rowV, cmpV, getD_4, t0], by simp only [RS, RT, RZ, tsc0, tz0, nq0, bs0, bn0, reduceLT, reduceLeDiff, reduceEqDiff, reduceMul, reduceAdd, reduceSub, reduceCtorEq, rowV, cmpV, getD_4, t1], by simp only [RS, RT, RZ, tsc0, tz0, nq0, bs0, bn0, reduceLT, reduceLeDiff, reduceEqDiff, reduceMul, reduceAdd, reduceSub, reduceCtorEq, rowV, cmpV, getD_4, t2], by simp only [RS, RT, RZ, tsc0, tz0, nq0, bs0, bn0, reduceLT, reduceLeDiff, reduceEqDiff, reduceMul, reduceAdd, reduceSub, reduceCtorEq, rowV, cmpV, getD_4, t3], by simp only [RS, RT, RZ, tsc0, tz0, nq0, bs0, bn0, reduceLT, reduceLeDiff, reduceEqDiff, reduceMul, reduceAdd, reduceSub, reduceCtorEq, rowV, cmpV, getD_4, t10]⟩, ?_, ?_, by omega, by omega, by omega, hI3⟩) ?_
            · simp only [RS, RT, RZ, tsc0, tz0, nq0, bs0, bn0, reduceLT, reduceLeDiff, reduceEqDiff, reduceMul, reduceAdd, reduceSub, reduceCtorEq, rowV, cmpV, getD_4, t9]
            · simp only [RS, RT, RZ, tsc0, tz0, nq0, bs0, bn0, reduceLT, reduceLeDiff, reduceEqDiff, reduceMul, reduceAdd, reduceSub, reduceCtorEq, rowV, cmpV, getD_4, ]
            rintro e T' ⟨h3, nx3, lg3⟩ ⟨rfl, cs3, ⟨t0, t1, t2, t3, t10⟩, t9, hI4⟩
            simp only [rowV, cmpV] at t0 t3
            simp only [RS, RT, RZ, tsc0, tz0, nq0, bs0, bn0, reduceLT, reduceLeDiff, reduceEqDiff, reduceMul, reduceAdd, reduceSub, reduceCtorEq, rowV, cmpV, getD_4, t0, t1, t2, t3, t9, t10, q6]
            exact ⟨n - 1, by omega, k + 1, i1, _, ⟨by simp only [RS, RT, RZ, tsc0, tz0, nq0, bs0, bn0, reduceLT, reduceLeDiff, reduceEqDiff, reduceMul, reduceAdd, reduceSub, reduceCtorEq, rowV, cmpV, getD_4, t0], by simp only [RS, RT, RZ, tsc0, tz0, nq0, bs0, bn0, reduceLT, reduceLeDiff, reduceEqDiff, reduceMul, reduceAdd, reduceSub, reduceCtorEq, rowV, cmpV, getD_4, t1], by simp only [RS, RT, RZ, tsc0, tz0, nq0, bs0, bn0, reduceLT, reduceLeDiff, reduceEqDiff, reduceMul, reduceAdd, reduceSub, reduceCtorEq, rowV, cmpV, getD_4, t2], by simp only [RS, RT, RZ, tsc0, tz0, nq0, bs0, bn0, reduceLT, reduceLeDiff, reduceEqDiff, reduceMul, reduceAdd, reduceSub, reduceCtorEq, rowV, cmpV, getD_4, t3], by simp only [RS, RT, RZ, tsc0, tz0, nq0, bs0, bn0, reduceLT, reduceLeDiff, reduceEqDiff, reduceMul, reduceAdd, reduceSub, reduceCtorEq, rowV, cmpV, getD_4, ]⟩, rfl, by omega, by omega, by omega, hI4⟩
          | false =>
            simp only [RS, RT, RZ, tsc0, tz0, nq0, bs0, bn0, reduceLT, reduceLeDiff, reduceEqDiff, reduceMul, reduceAdd, reduceSub, reduceCtorEq, rowV, cmpV, getD_4, t0, t1, t2, t3, t9, t10, q4, q5, hC, q6]
            exact ⟨n - 1, by omega, k + 1, i1, _, ⟨by simp only [RS, RT, RZ, tsc0, tz0, nq0, bs0, bn0, reduceLT, reduceLeDiff, reduceEqDiff, reduceMul, reduceAdd, reduceSub, reduceCtorEq, rowV, cmpV, getD_4, t0], by simp only [RS, RT, RZ, tsc0, tz0, nq0, bs0, bn0, reduceLT, reduceLeDiff, reduceEqDiff, reduceMul, reduceAdd, reduceSub, reduceCtorEq, rowV, cmpV, getD_4, t1], by simp only [RS, RT, RZ, tsc0, tz0, nq0, bs0, bn0, reduceLT, reduceLeDiff, reduceEqDiff, reduceMul, reduceAdd, reduceSub, reduceCtorEq, rowV, cmpV, getD_4, t2], by simp only [RS, RT, RZ, tsc0, tz0, nq0, bs0, bn0, reduceLT, reduceLeDiff, reduceEqDiff, reduceMul, reduceAdd, reduceSub, reduceCtorEq, rowV, cmpV, getD_4, t3], by simp only [RS, RT, RZ, tsc0, tz0, nq0, bs0, bn0, reduceLT, reduceLeDiff, reduceEqDiff, reduceMul, reduceAdd, reduceSub, reduceCtorEq, rowV, cmpV, getD_4, ]⟩, rfl, by omega, by omega, by omega, hI3⟩
        | false =>
          cases hC : decide ((2 : Int) ≤ ((b - i1 : Nat) : Int)) with
          | true =>
            simp only [RS, RT, RZ, tsc0, tz0, nq0, bs0, bn0, reduceLT, reduceLeDiff, reduceEqDiff, reduceMul, reduceAdd, reduceSub, reduceCtorEq, hlen, hrn, hrow, idxX_row, lenX_row, Nat.zero_add, Nat.mul_one, splice_set, List.length_set, rowV, cmpV, kd82_0, kd82_1, kd82_2, kd82_3, kd82_4, kd82_5, t0, t1, t2, t3, t9, t10, hq, q1, hs, l1, l2, v1, v2, v3, v4, w1, w2, w3, w4, q2, q3, hB, q4, q5, hC]
            refine post_bind (par_C hK ok (a := a) (b := b) (k := k) (i := i1) hb (b + 1) _ _ ⟨i1 + 1, _, ⟨by simp only [RS, RT, RZ, tsc0, tz0, nq0, bs0, bn0, reduceLT, reduceLeDiff, reduceEqDiff, reduceMul, reduceAdd, reduceSub, reduceCtorEq, rowV, cmpV, getD_4, t0], by simp only [RS, RT, RZ, tsc0, tz0, nq0, bs0, bn0, reduceLT, reduceLeDiff, reduceEqDiff, reduceMul, reduceAdd, reduceSub, reduceCtorEq, rowV, cmpV, getD_4, t1], by simp only [RS, RT, RZ, tsc0, tz0, nq0, bs0, bn0, reduceLT, reduceLeDiff, reduceEqDiff, reduceMul, reduceAdd, reduceSub, reduceCtorEq, rowV, cmpV, getD_4, t2], by simp only [RS, RT, RZ, tsc0, tz0, nq0, bs0, bn0, reduceLT, reduceLeDiff, reduceEqDiff, reduceMul, reduceAdd, reduceSub, reduceCtorEq, rowV, cmpV, getD_4, t3], by simp only [RS, RT, RZ, tsc0, tz0, nq0, bs0, bn0, reduceLT, reduceLeDiff, reduceEqDiff, reduceMul, reduceAdd, reduceSub, reduceCtorEq, rowV, cmpV, getD_4, t10]⟩, ?_, ?_, by omega, by omega, by omega, hI2⟩) ?_
            · simp only [RS, RT, RZ, tsc0, tz0, nq0, bs0, bn0, reduceLT, reduceLeDiff, reduceEqDiff, reduceMul, reduceAdd, reduceSub, reduceCtorEq, rowV, cmpV, getD_4, t9]
            · simp only [RS, RT, RZ, tsc0, tz0, nq0, bs0, bn0, reduceLT, reduceLeDiff, reduceEqDiff, reduceMul, reduceAdd, reduceSub, reduceCtorEq, rowV, cmpV, getD_4, ]
            rintro e T' ⟨h3, nx3, lg3⟩ ⟨rfl, cs3, ⟨t0, t1, t2, t3, t10⟩, t9, hI4⟩
            simp only [rowV, cmpV] at t0 t3
            simp only [RS, RT, RZ, tsc0, tz0, nq0, bs0, bn0, reduceLT, reduceLeDiff, reduceEqDiff, reduceMul, reduceAdd, reduceSub, reduceCtorEq, rowV, cmpV, getD_4, t0, t1, t2, t3, t9, t10, q6]
            exact ⟨n - 1, by omega, k + 1, i1, _, ⟨by simp only [RS, RT, RZ, tsc0, tz0, nq0, bs0, bn0, reduceLT, reduceLeDiff, reduceEqDiff, reduceMul, reduceAdd, reduceSub, reduceCtorEq, rowV, cmpV, getD_4, t0], by simp only [RS, RT, RZ, tsc0, tz0, nq0, bs0, bn0, reduceLT, reduceLeDiff, reduceEqDiff, reduceMul, reduceAdd, reduceSub, reduceCtorEq, rowV, cmpV, getD_4, t1], by simp only [RS, RT, RZ, tsc0, tz0, nq0, bs0, bn0, reduceLT, reduceLeDiff, reduceEqDiff, reduceMul, reduceAdd, reduceSub, reduceCtorEq, rowV, cmpV, getD_4, t2], by simp only [RS, RT, RZ, tsc0, tz0, nq0, bs0, bn0, reduceLT, reduceLeDiff, reduceEqDiff, reduceMul, reduceAdd, reduceSub, reduceCtorEq, rowV, cmpV, getD_4, t3], by simp only [RS, RT, RZ, tsc0, tz0, nq0, bs0, bn0, reduceLT, reduceLeDiff, reduceEqDiff, reduceMul, reduceAdd, reduceSub, reduceCtorEq, rowV, cmpV, getD_4, ]⟩, rfl, by omega, by omega, by omega, hI4⟩
          | false =>
            simp only [RS, RT, RZ, tsc0, tz0, nq0, bs0, bn0, reduceLT, reduceLeDiff, reduceEqDiff, reduceMul, reduceAdd, reduceSub, reduceCtorEq, hlen, hrn, hrow, idxX_row, lenX_row, Nat.zero_add, Nat.mul_one, splice_set, List.length_set, rowV, cmpV, kd82_0, kd82_1, kd82_2, kd82_3, kd82_4, kd82_5, t0, t1, t2, t3, t9, t10, hq, q1, hs, l1, l2, v1, v2, v3, v4, w1, w2, w3, w4, q2, q3, hB, q4, q5, hC, q6]
            exact ⟨n - 1, by omega, k + 1, i1, _, ⟨by simp only [RS, RT, RZ, tsc0, tz0, nq0, bs0, bn0, reduceLT, reduceLeDiff, reduceEqDiff, reduceMul, reduceAdd, reduceSub, reduceCtorEq, rowV, cmpV, getD_4, t0], by simp only [RS, RT, RZ, tsc0, tz0, nq0, bs0, bn0, reduceLT, reduceLeDiff, reduceEqDiff, reduceMul, reduceAdd, reduceSub, reduceCtorEq, rowV, cmpV, getD_4, t1], by simp only [RS, RT, RZ, tsc0, tz0, nq0, bs0, bn0, reduceLT, reduceLeDiff, reduceEqDiff, reduceMul, reduceAdd, reduceSub, reduceCtorEq, rowV, cmpV, getD_4, t2], by simp only [RS, RT, RZ, tsc0, tz0, nq0, bs0, bn0, reduceLT, reduceLeDiff, reduceEqDiff, reduceMul, reduceAdd, reduceSub, reduceCtorEq, rowV, cmpV, getD_4, t3], by simp only [RS, RT, RZ, tsc0, tz0, nq0, bs0, bn0, reduceLT, reduceLeDiff, reduceEqDiff, reduceMul, reduceAdd, reduceSub, reduceCtorEq, rowV, cmpV, getD_4, ]⟩, rfl, by omega, by omega, by omega, hI2⟩
  · have e0 : decide ((k : Int) < 5) = false := by rw [decide_eq_false_iff_not]; omega
    simp only [RS, RT, RZ, tsc0, tz0, nq0, bs0, bn0, reduceLT, reduceLeDiff, reduceEqDiff, reduceMul, reduceAdd, reduceSub, reduceCtorEq, rowV, cmpV, getD_4, l82_3, kd82_0, kd82_1, kd82_2, kd82_3, kd82_4, kd82_5, t0, t1, t2, t3, t9, t10, e0]
    exact ⟨cs, hI⟩
theorem par_c {a b : Nat} (hab : a < b) (hb : b ≤ G.cs0.length) {st : St} {cs : List AV} (hI : SI G cs st) : ∃ v st' cs', callW Q (.fn 82) [rowV G, .int .i64 (a : Int), .int .i64 (b : Int), cmpV] .normal st = some (.ret v, st', none) ∧ (∃ r, v = .bool r) ∧ SI G cs' st' := by
  refine sort_end (N := 141) (ok82 hK) (hK.nx _ _ _ rfl) rfl hI ?_
  have hsm := ok.small
  have w1 := wrapN (z := (a : Int) + 1) (n := a + 1) (by omega) (by omega)
  simp only [RS, RT, RZ, tsc0, tz0, nq0, bs0, bn0, reduceLT, reduceLeDiff, reduceEqDiff, reduceMul, reduceAdd, reduceSub, reduceCtorEq, rowV, cmpV, getD_4, x82, kd82_0, kd82_1, kd82_2, kd82_3, kd82_4, kd82_5, w1]
  refine post_bind (par_O hK ok (a := a) (b := b) hb 6 _ _ ⟨0, a + 1, cs, ⟨by simp only [RS, RT, RZ, tsc0, tz0, nq0, bs0, bn0, reduceLT, reduceLeDiff, reduceEqDiff, reduceMul, reduceAdd, reduceSub, reduceCtorEq, rowV, cmpV, getD_4, ], by simp only [RS, RT, RZ, tsc0, tz0, nq0, bs0, bn0, reduceLT, reduceLeDiff, reduceEqDiff, reduceMul, reduceAdd, reduceSub, reduceCtorEq, rowV, cmpV, getD_4, ], by simp only [RS, RT, RZ, tsc0, tz0, nq0, bs0, bn0, reduceLT, reduceLeDiff, reduceEqDiff, reduceMul, reduceAdd, reduceSub, reduceCtorEq, rowV, cmpV, getD_4, ], by simp only [RS, RT, RZ, tsc0, tz0, nq0, bs0, bn0, reduceLT, reduceLeDiff, reduceEqDiff, reduceMul, reduceAdd, reduceSub, reduceCtorEq, rowV, cmpV, getD_4, ], by simp only [RS, RT, RZ, tsc0, tz0, nq0, bs0, bn0, reduceLT, reduceLeDiff, reduceEqDiff, reduceMul, reduceAdd, reduceSub, reduceCtorEq, rowV, cmpV, getD_4, cast_0]⟩, ?_, rfl, by omega, by omega, hI.fresh⟩) ?_
  · simp only [RS, RT, RZ, tsc0, tz0, nq0, bs0, bn0, reduceLT, reduceLeDiff, reduceEqDiff, reduceMul, reduceAdd, reduceSub, reduceCtorEq, rowV, cmpV, getD_4, ]
  rintro e T' st1 ⟨rfl | ⟨rfl, r, hr⟩, cs', hI'⟩
  · simp only [RS, RT, RZ, tsc0, tz0, nq0, bs0, bn0, reduceLT, reduceLeDiff, reduceEqDiff, reduceMul, reduceAdd, reduceSub, reduceCtorEq, rowV, cmpV, getD_4, F82]
    exact ⟨.bool false, rfl, ⟨_, rfl⟩, fun _ => rfl, rfl, cs', hI'⟩
  · simp only [RS, RT, RZ, tsc0, tz0, nq0, bs0, bn0, reduceLT, reduceLeDiff, reduceEqDiff, reduceMul, reduceAdd, reduceSub, reduceCtorEq, rowV, cmpV, getD_4, F82, hr]
    exact ⟨.bool r, rfl, ⟨_, rfl⟩, fun _ => rfl, rfl, cs', hI'⟩
end
end Go.Proofs.P31

namespace Go.Proofs.P31
open Go Go.AE
open Nat (reduceLT reduceLeDiff reduceEqDiff reduceMul reduceAdd reduceSub)
set_option maxHeartbeats 8000000
variable {G : Srt} {Q : Ctx} {cs : List AV}
structure PO (p t : Nat) (k : IntKind) (st st' : St) : Prop where
  at_ : ∃ z : Int, st'.heap p = .mem t [.int k z] true 0
  old : ∀ l, l ≠ p → st'.heap l = st.heap l
  nx : st'.next = st.next
  log : ∀ l ∈ st'.log, l = p ∨ l ∈ st.log
def nilK (st : St) : AV → Option OPR
  | .ptr l a => some (.val (.ptr l a) st)
  | .cptr cs => some (.val (.cptr cs) st)
  | .func (.func f) a b => some (.val (.func (.func f) a b) st)
  | _ => none
theorem gA_nl {C : Ctx} {mu ro : Bool} {fr : Fr} {st : St} {x : Operand} {ds : Option Tmp} {ty : TypeId} {pos : String} {af : Array Edge} {g : Option (Nat × Bool)} : opA C mu ro fr st ⟨ds, .nilCheck x, ty, pos, af, g⟩ = nilK st (oval C fr x) := by
  simp only [opA, nilK]
  rfl
theorem nilK_ptr {st : St} {l a : Nat} : nilK st (.ptr l a) = some (.val (.ptr l a) st) := (rfl)
theorem getD_5 {a b c d e f z : AV} {l : List AV} : (a :: b :: c :: d :: e :: f :: l).getD 5 z = f := (rfl)
theorem PO.refl {p t : Nat} {k : IntKind} {st : St} {z : Int} (h : st.heap p = .mem t [.int k z] true 0) : PO p t k st st := ⟨⟨z, h⟩, fun _ _ => rfl, rfl, fun _ h => .inr h⟩
theorem PO.trans {p t : Nat} {k : IntKind} {a b c : St} (x : PO p t k a b) (y : PO p t k b c) : PO p t k a c := ⟨y.at_, fun l hl => (y.old l hl).trans (x.old l hl), y.nx.trans x.nx, fun l hl => by
  rcases y.log l hl with h | h
  · exact .inl h
  · exact x.log l h⟩
theorem SI.po {p t : Nat} {k : IntKind} {st st' : St} (hI : SI G cs st) (ok : G.OK Q) (hp : G.n0 ≤ p) (x : PO p t k st st') : SI G cs st' := by
  have hrn := ok.rn
  refine ⟨by rw [x.old _ (by omega)]; exact hI.row, fun l hl hr => by rw [x.old _ (by omega)]; exact hI.old l hl hr, by rw [x.nx]; exact hI.nx, hI.perm, fun l hl => ?_⟩
  rcases x.log l hl with rfl | h
  · exact .inr (.inl hp)
  · exact hI.log l h
theorem po_end {f : FuncId} {fi : FI} {x : XC} {mu : Bool} {N p t : Nat} {k : IntKind} {args : List AV} {st : St} {R : AV → Prop} (ok : FnOk Q f fi x mu) (hX : Q.X f args st = none) (hN : max fi.ntmps args.length = N) (hp : p < st.next) (hz : ∃ z : Int, st.heap p = .mem t [.int k z] true 0)
    (h : Post N [] none (execY (callW Q) Q mu f none x ⟨argTmps args, N, [], none⟩ ⟨st.heap, st.next, []⟩) fun e T st1 => endOf e = some none ∧ ∃ v, (resultsA Q st1 T fi.results).map packA = some v ∧ R v ∧ (∀ s : St, freezeR Q s v = some (v, s)) ∧ untok v = v ∧ PO p t k ⟨st.heap, st.next, []⟩ st1) :
    ∃ v st', callW Q (.fn f) args .normal st = some (.ret v, st', none) ∧ R v ∧ PO p t k st st' := by
  obtain ⟨e, T, st1, h1, h2, v, h3, hR, h4, h5, h6⟩ := h
  have hc := callYr (r := (.ret v, leaveSt st [v] st1, none)) ok hX hN ⟨_, h1, by
    have := finish_ret (N := N) (C := Q) (f := f) (fi := fi) (kd := .normal) (call := callW Q) (pv := none) (st := st) (v := v) (st3 := st1) h2 h3 (by rw [frz_noRow (h4 st1) (fun _ => h5), h5])
    exact this⟩
  obtain ⟨z, hz⟩ := hz
  rcases leave_cases (st0 := st) (st1 := st1) (vs := [v]) with ⟨e1, _⟩ | e1
  · exact ⟨v, st, by rw [hc]; exact congrArg (fun s => some (CR.ret v, s, none)) e1, hR, .refl hz⟩
  · refine ⟨v, ⟨st1.heap, st1.next, st1.log.filter (· < st.next) ++ st.log⟩, by rw [hc, e1], hR, ⟨h6.at_, h6.old, h6.nx, fun l hl => ?_⟩⟩
    simp only at hl
    rcases List.mem_append.1 hl with hl | hl
    · rcases h6.log l (List.mem_filter.1 hl).1 with h | h
      · exact .inl h
      · cases h
    · exact .inr hl
section
variable (hK : K Q) (ok : G.OK Q)
include hK ok
theorem order2_c {i j p : Nat} (hi : i < G.cs0.length) (hj : j < G.cs0.length) (hp0 : G.n0 ≤ p) {st : St} {cs : List AV} (hp : p < st.next) (hz : ∃ z : Int, st.heap p = .mem 3 [.int .i64 z] true 0) (hI : SI G cs st) :
    ∃ v st', callW Q (.fn 109) [rowV G, .int .i64 (i : Int), .int .i64 (j : Int), .ptr p 0, cmpV] .normal st = some (.ret v, st', none) ∧ (v = .tuple [.int .i64 (i : Int), .int .i64 (j : Int)] ∨ v = .tuple [.int .i64 (j : Int), .int .i64 (i : Int)]) ∧ PO p 3 .i64 st st' := by
  refine po_end (N := 32) (ok109 hK) (hK.nx _ _ _ rfl) rfl hp hz ?_
  obtain ⟨h, nx, lg⟩ := st
  have hI' := hI.fresh
  have hlen := hI.len
  have hrow := hI.row
  have hrn : G.r < nx := Nat.lt_of_lt_of_le ok.rn hI.nx
  obtain ⟨z, hz⟩ := hz
  simp only at hrow hz hp
  obtain ⟨v, v1, v2, v3, v4, v5⟩ := hI.el ok hi
  obtain ⟨w, w1, w2, w3, w4, w5⟩ := hI.el ok hj
  obtain ⟨c, e1⟩ := hI.cmp ok w5 v5
  cases g : decide (c < 0) with
  | false =>
    simp only [RS, RT, RZ, tsc0, tz0, nq0, bs0, bn0, reduceLT, reduceLeDiff, reduceEqDiff, reduceMul, reduceAdd, reduceSub, reduceCtorEq, hlen, hrn, hrow, idxX_row, lenX_row, Nat.zero_add, Nat.mul_one, splice_set, List.length_set, rowV, cmpV, x109, kd109_0, F109, getD_4, hi, hj, v1, v2, w1, w2, e1, g]
    exact ⟨.tuple [.int .i64 (i : Int), .int .i64 (j : Int)], rfl, .inl rfl, fun _ => rfl, rfl, .refl hz⟩
  | true =>
    simp only [RS, RT, RZ, tsc0, tz0, nq0, bs0, bn0, reduceLT, reduceLeDiff, reduceEqDiff, reduceMul, reduceAdd, reduceSub, reduceCtorEq, hlen, hrn, hrow, idxX_row, lenX_row, Nat.zero_add, Nat.mul_one, splice_set, List.length_set, rowV, cmpV, x109, kd109_0, F109, getD_4, hi, hj, v1, v2, w1, w2, e1, g, hz, gA_nl, nilK_ptr]
    refine ⟨.tuple [.int .i64 (j : Int), .int .i64 (i : Int)], rfl, .inr rfl, fun _ => rfl, rfl, ⟨⟨_, upd_same ..⟩, fun l hl => ?_, rfl, fun l hl => ?_⟩⟩
    · simp only; rw [upd_ne _ _ hl]
    · simp only [List.mem_cons] at hl ⊢; exact hl
theorem median_c {i j k p lo hi : Nat} (h1 : lo ≤ i ∧ i < hi) (h2 : lo ≤ j ∧ j < hi) (h3 : lo ≤ k ∧ k < hi) (hh : hi ≤ G.cs0.length) (hp0 : G.n0 ≤ p) {st : St} {cs : List AV} (hp : p < st.next) (hz : ∃ z : Int, st.heap p = .mem 3 [.int .i64 z] true 0) (hI : SI G cs st) :
    ∃ v st', callW Q (.fn 106) [rowV G, .int .i64 (i : Int), .int .i64 (j : Int), .int .i64 (k : Int), .ptr p 0, cmpV] .normal st = some (.ret v, st', none) ∧ (∃ m : Nat, v = .int .i64 (m : Int) ∧ lo ≤ m ∧ m < hi) ∧ PO p 3 .i64 st st' := by
  refine po_end (N := 41) (ok106 hK) (hK.nx _ _ _ rfl) rfl hp hz ?_
  have hI' := hI.fresh
  obtain ⟨v1, st1, c1, hv1, p1⟩ := order2_c hK ok (i := i) (j := j) (p := p) (by omega) (by omega) hp0 (st := ⟨st.heap, st.next, []⟩) hp hz hI'
  obtain ⟨a, b, rfl, ha, hb⟩ : ∃ a b : Nat, v1 = .tuple [.int .i64 (a : Int), .int .i64 (b : Int)] ∧ (lo ≤ a ∧ a < hi) ∧ (lo ≤ b ∧ b < hi) := by
    rcases hv1 with rfl | rfl
    · exact ⟨i, j, rfl, h1, h2⟩
    · exact ⟨j, i, rfl, h2, h1⟩
  have hI1 := hI'.po ok hp0 p1
  obtain ⟨v2, st2, c2, hv2, p2⟩ := order2_c hK ok (i := b) (j := k) (p := p) (by omega) (by omega) hp0 (st := st1) (by rw [p1.nx]; exact hp) p1.at_ hI1
  obtain ⟨b2, d, rfl, hb2, hd⟩ : ∃ a b : Nat, v2 = .tuple [.int .i64 (a : Int), .int .i64 (b : Int)] ∧ (lo ≤ a ∧ a < hi) ∧ (lo ≤ b ∧ b < hi) := by
    rcases hv2 with rfl | rfl
    · exact ⟨b, k, rfl, hb, h3⟩
    · exact ⟨k, b, rfl, h3, hb⟩
  have hI2 := hI1.po ok hp0 p2
  obtain ⟨v3, st3, c3, hv3, p3⟩ := order2_c hK ok (i := a) (j := b2) (p := p) (by omega) (by omega) hp0 (st := st2) (by rw [p2.nx, p1.nx]; exact hp) p2.at_ hI2
  obtain ⟨a3, b3, rfl, ha3, hb3⟩ : ∃ a' b' : Nat, v3 = .tuple [.int .i64 (a' : Int), .int .i64 (b' : Int)] ∧ (lo ≤ a' ∧ a' < hi) ∧ (lo ≤ b' ∧ b' < hi) := by
    rcases hv3 with rfl | rfl
    · exact ⟨a, b2, rfl, ha, hb2⟩
    · exact ⟨b2, a, rfl, hb2, ha⟩
  obtain ⟨g1, n1, l1⟩ := st1
  obtain ⟨g2, n2, l2⟩ := st2
  obtain ⟨g3, n3, l3⟩ := st3
  simp only [rowV, cmpV] at c1 c2 c3
  simp only [RS, RT, RZ, tsc0, tz0, nq0, bs0, bn0, reduceLT, reduceLeDiff, reduceEqDiff, reduceMul, reduceAdd, reduceSub, reduceCtorEq, rowV, cmpV, getD_4, x106, F106, getD_5, c1, c2, c3]
  exact ⟨.int .i64 (b3 : Int), rfl, ⟨b3, rfl, hb3⟩, fun _ => rfl, rfl, (p1.trans p2).trans p3⟩
theorem medAdj_c {i p lo hi : Nat} (h1 : lo + 1 ≤ i ∧ i + 1 < hi) (hh : hi ≤ G.cs0.length) (hp0 : G.n0 ≤ p) {st : St} {cs : List AV} (hp : p < st.next) (hz : ∃ z : Int, st.heap p = .mem 3 [.int .i64 z] true 0) (hI : SI G cs st) :
    ∃ v st', callW Q (.fn 105) [rowV G, .int .i64 (i : Int), .ptr p 0, cmpV] .normal st = some (.ret v, st', none) ∧ (∃ m : Nat, v = .int .i64 (m : Int) ∧ lo ≤ m ∧ m < hi) ∧ PO p 3 .i64 st st' := by
  refine po_end (N := 18) (ok105 hK) (hK.nx _ _ _ rfl) rfl hp hz ?_
  have hsm := ok.small
  have hI' := hI.fresh
  obtain ⟨v1, st1, c1, ⟨m, rfl, hm⟩, p1⟩ := median_c hK ok (i := i - 1) (j := i) (k := i + 1) (p := p) (lo := lo) (hi := hi) (by omega) (by omega) (by omega) hh hp0 (st := ⟨st.heap, st.next, []⟩) hp hz hI'
  have q1 := wrapN (z := (i : Int) - 1) (n := i - 1) (by omega) (by omega)
  have q2 := wrapN (z := (i : Int) + 1) (n := i + 1) (by omega) (by omega)
  obtain ⟨g1, n1, l1⟩ := st1
  simp only [rowV, cmpV] at c1
  simp only [RS, RT, RZ, tsc0, tz0, nq0, bs0, bn0, reduceLT, reduceLeDiff, reduceEqDiff, reduceMul, reduceAdd, reduceSub, reduceCtorEq, rowV, cmpV, getD_4, x105, F105, c1, q1, q2]
  exact ⟨.int .i64 (m : Int), rfl, ⟨m, rfl, hm⟩, fun _ => rfl, rfl, p1⟩
end
end Go.Proofs.P31

namespace Go.Proofs.P31
open Go Go.AE
open Nat (reduceLT reduceLeDiff reduceEqDiff reduceMul reduceAdd reduceSub)
set_option maxHeartbeats 8000000
variable {G : Srt} {Q : Ctx} {cs : List AV}
theorem SI.push {h : Nat → AO} {nx : Nat} {lg : List Nat} {o : AO} (hI : SI G cs ⟨h, nx, lg⟩) (ok : G.OK Q) : SI G cs ⟨upd h nx o, nx + 1, lg⟩ := by
  have h1 := ok.rn
  have h2 := hI.nx
  simp only at h2
  exact ⟨by simp only; rw [upd_ne _ _ (by omega)]; exact hI.row, fun l hl hr => by simp only; rw [upd_ne _ _ (by omega)]; exact hI.old l hl hr, by simp only; omega, hI.perm, hI.log⟩
section
variable (hK : K Q) (ok : G.OK Q)
include hK ok
theorem pivot_c {a b : Nat} (hab : a + 12 ≤ b) (hb : b ≤ G.cs0.length) {st : St} {cs : List AV} (hI : SI G cs st) :
    ∃ v st' cs', callW Q (.fn 80) [rowV G, .int .i64 (a : Int), .int .i64 (b : Int), cmpV] .normal st = some (.ret v, st', none) ∧ (∃ (m : Nat) (c : Int), v = .tuple [.int .i64 (m : Int), .int .i64 c] ∧ a ≤ m ∧ m < b) ∧ SI G cs' st' := by
  refine sort_end (N := 63) (ok80 hK) (hK.nx _ _ _ rfl) rfl hI ?_
  have hsm := ok.small
  obtain ⟨h, nx, lg⟩ := st
  have hnx := hI.nx
  simp only at hnx
  have hI0 := (hI.fresh).push ok (o := .mem 3 [.int .i64 0] true 0)
  simp only at hI0
  have w1 := wrapN (z := (b : Int) - (a : Int)) (n := b - a) (by omega) (by omega)
  have w2 := wrapN (z := ((b - a : Nat) : Int).tdiv 4) (n := (b - a) / 4) rfl (by omega)
  have w3 := wrapN (z := (((b - a) / 4 : Nat) : Int) * 1) (n := (b - a) / 4) (by omega) (by omega)
  have w4 := wrapN (z := (((b - a) / 4 : Nat) : Int) * 2) (n := (b - a) / 4 * 2) (by omega) (by omega)
  have w5 := wrapN (z := (((b - a) / 4 : Nat) : Int) * 3) (n := (b - a) / 4 * 3) (by omega) (by omega)
  have w6 := wrapN (z := (a : Int) + (((b - a) / 4 : Nat) : Int)) (n := a + (b - a) / 4) (by omega) (by omega)
  have w7 := wrapN (z := (a : Int) + (((b - a) / 4 * 2 : Nat) : Int)) (n := a + (b - a) / 4 * 2) (by omega) (by omega)
  have w8 := wrapN (z := (a : Int) + (((b - a) / 4 * 3 : Nat) : Int)) (n := a + (b - a) / 4 * 3) (by omega) (by omega)
  have e8 : decide ((8 : Int) ≤ ((b - a : Nat) : Int)) = true := by rw [decide_eq_true_iff]; omega
  cases e50 : decide ((50 : Int) ≤ ((b - a : Nat) : Int)) with
  | false =>
    obtain ⟨v1, st1, c1, ⟨m, rfl, hm⟩, p1⟩ := median_c hK ok (i := a + (b - a) / 4) (j := a + (b - a) / 4 * 2) (k := a + (b - a) / 4 * 3) (p := nx) (lo := a) (hi := b) (by omega) (by omega) (by omega) hb hnx (st := ⟨upd h nx (.mem 3 [.int .i64 0] true 0), nx + 1, []⟩) (Nat.lt_succ_self _) ⟨0, upd_same ..⟩ hI0
    obtain ⟨z, hz⟩ := p1.at_
    have hI1 := hI0.po ok hnx p1
    obtain ⟨h1, n1, l1⟩ := st1
    simp only [rowV, cmpV] at c1 hz
    cases d0 : z == 0 with
    | true =>
      simp only [RS, RT, RZ, tsc0, tz0, nq0, bs0, bn0, reduceLT, reduceLeDiff, reduceEqDiff, reduceMul, reduceAdd, reduceSub, reduceCtorEq, rowV, cmpV, getD_4, getD_5, x80, F80, w1, w2, w3, w4, w5, w6, w7, w8, e8, e50, i_quo, Int.reduceEq, c1, hz, d0]
      exact ⟨_, rfl, ⟨m, 1, rfl, hm⟩, fun _ => rfl, rfl, _, hI1⟩
    | false =>
      cases d1 : z == 12 with
      | true =>
        simp only [RS, RT, RZ, tsc0, tz0, nq0, bs0, bn0, reduceLT, reduceLeDiff, reduceEqDiff, reduceMul, reduceAdd, reduceSub, reduceCtorEq, rowV, cmpV, getD_4, getD_5, x80, F80, w1, w2, w3, w4, w5, w6, w7, w8, e8, e50, i_quo, Int.reduceEq, c1, hz, d0, d1]
        exact ⟨_, rfl, ⟨m, 2, rfl, hm⟩, fun _ => rfl, rfl, _, hI1⟩
      | false =>
        simp only [RS, RT, RZ, tsc0, tz0, nq0, bs0, bn0, reduceLT, reduceLeDiff, reduceEqDiff, reduceMul, reduceAdd, reduceSub, reduceCtorEq, rowV, cmpV, getD_4, getD_5, x80, F80, w1, w2, w3, w4, w5, w6, w7, w8, e8, e50, i_quo, Int.reduceEq, c1, hz, d0, d1]
        exact ⟨_, rfl, ⟨m, 0, rfl, hm⟩, fun _ => rfl, rfl, _, hI1⟩
  | true =>
    have h50 : 50 ≤ b - a := by rw [decide_eq_true_iff] at e50; omega
    obtain ⟨u1, st1, c1, ⟨m1, rfl, hm1⟩, p1⟩ := medAdj_c hK ok (i := a + (b - a) / 4) (p := nx) (lo := a) (hi := b) (by omega) hb hnx (st := ⟨upd h nx (.mem 3 [.int .i64 0] true 0), nx + 1, []⟩) (Nat.lt_succ_self _) ⟨0, upd_same ..⟩ hI0
    have hI1 := hI0.po ok hnx p1
    obtain ⟨u2, st2, c2, ⟨m2, rfl, hm2⟩, p2⟩ := medAdj_c hK ok (i := a + (b - a) / 4 * 2) (p := nx) (lo := a) (hi := b) (by omega) hb hnx (st := st1) (by rw [p1.nx]; exact Nat.lt_succ_self _) p1.at_ hI1
    have hI2 := hI1.po ok hnx p2
    obtain ⟨u3, st3, c3, ⟨m3, rfl, hm3⟩, p3⟩ := medAdj_c hK ok (i := a + (b - a) / 4 * 3) (p := nx) (lo := a) (hi := b) (by omega) hb hnx (st := st2) (by rw [p2.nx, p1.nx]; exact Nat.lt_succ_self _) p2.at_ hI2
    have hI3 := hI2.po ok hnx p3
    obtain ⟨u4, st4, c4, ⟨m, rfl, hm⟩, p4⟩ := median_c hK ok (i := m1) (j := m2) (k := m3) (p := nx) (lo := a) (hi := b) hm1 hm2 hm3 hb hnx (st := st3) (by rw [p3.nx, p2.nx, p1.nx]; exact Nat.lt_succ_self _) p3.at_ hI3
    have hI4 := hI3.po ok hnx p4
    obtain ⟨z, hz⟩ := p4.at_
    obtain ⟨h1, n1, l1⟩ := st1
    obtain ⟨h2, n2, l2⟩ := st2
    obtain ⟨h3, n3, l3⟩ := st3
    obtain ⟨h4, n4, l4⟩ := st4
    simp only [rowV, cmpV] at c1 c2 c3 c4 hz
    cases d0 : z == 0 with
    | true =>
      simp only [RS, RT, RZ, tsc0, tz0, nq0, bs0, bn0, reduceLT, reduceLeDiff, reduceEqDiff, reduceMul, reduceAdd, reduceSub, reduceCtorEq, rowV, cmpV, getD_4, getD_5, x80, F80, w1, w2, w3, w4, w5, w6, w7, w8, e8, e50, i_quo, Int.reduceEq, c1, c2, c3, c4, hz, d0]
      exact ⟨_, rfl, ⟨m, 1, rfl, hm⟩, fun _ => rfl, rfl, _, hI4⟩
    | false =>
      cases d1 : z == 12 with
      | true =>
        simp only [RS, RT, RZ, tsc0, tz0, nq0, bs0, bn0, reduceLT, reduceLeDiff, reduceEqDiff, reduceMul, reduceAdd, reduceSub, reduceCtorEq, rowV, cmpV, getD_4, getD_5, x80, F80, w1, w2, w3, w4, w5, w6, w7, w8, e8, e50, i_quo, Int.reduceEq, c1, c2, c3, c4, hz, d0, d1]
        exact ⟨_, rfl, ⟨m, 2, rfl, hm⟩, fun _ => rfl, rfl, _, hI4⟩
      | false =>
        simp only [RS, RT, RZ, tsc0, tz0, nq0, bs0, bn0, reduceLT, reduceLeDiff, reduceEqDiff, reduceMul, reduceAdd, reduceSub, reduceCtorEq, rowV, cmpV, getD_4, getD_5, x80, F80, w1, w2, w3, w4, w5, w6, w7, w8, e8, e50, i_quo, Int.reduceEq, c1, c2, c3, c4, hz, d0, d1]
        exact ⟨_, rfl, ⟨m, 0, rfl, hm⟩, fun _ => rfl, rfl, _, hI4⟩
end
end Go.Proofs.P31

namespace Go.Proofs.P31
open Go Go.AE
open Nat (reduceLT reduceLeDiff reduceEqDiff reduceMul reduceAdd reduceSub)
set_option maxHeartbeats 8000000
variable {G : Srt} {Q : Ctx} {cs : List AV}
section
variable {C : Ctx} {t : TypeId} {xo yo : Operand} {k k' : IntKind} {a b : Int}
theorem b_shr : binIX C .shr t xo yo (.int k a) (.int k' b) = shiftOp .shr k a b := (rfl)
theorem b_shl : binIX C .shl t xo yo (.int k a) (.int k' b) = shiftOp .shl k a b := (rfl)
theorem s_shr (h : ¬ b < 0) : shiftOp .shr k a b = some (.int k (a.fdiv (2 ^ (min b.toNat k.bits)))) := by simp only [shiftOp, if_neg h]
theorem s_shl (h : ¬ b < 0) : shiftOp .shl k a b = some (.int k (k.wrap (a * 2 ^ (min b.toNat k.bits)))) := by simp only [shiftOp, if_neg h]
theorem i_xor : intOp .xor k a b = some (.int k (k.wrap ((BitVec.ofInt k.bits a ^^^ BitVec.ofInt k.bits b).toNat : Int))) := (rfl)
theorem i_and : intOp .and k a b = some (.int k (k.wrap ((BitVec.ofInt k.bits a &&& BitVec.ofInt k.bits b).toNat : Int))) := (rfl)
end
theorem wrapU {n : Nat} (h : n < 18446744073709551616) : IntKind.u64.wrap (n : Int) = (n : Int) := by
  simp only [IntKind.wrap, IntKind.bits, IntKind.signed, Bool.false_and, Bool.false_eq_true, if_false]
  omega
theorem wrapB {n : Nat} (h : n < 256) : IntKind.u8.wrap (n : Int) = (n : Int) := by
  simp only [IntKind.wrap, IntKind.bits, IntKind.signed, Bool.false_and, Bool.false_eq_true, if_false]
  omega
theorem and_bound {z : Int} {m : Nat} (h : m < 18446744073709551616) : ∃ r : Nat, r ≤ m ∧ IntKind.u64.wrap ((BitVec.ofInt IntKind.u64.bits z &&& BitVec.ofInt IntKind.u64.bits (m : Int)).toNat : Int) = (r : Int) := by
  have e : (BitVec.ofInt IntKind.u64.bits (m : Int)).toNat = m := by
    simp only [IntKind.bits]
    rw [show (BitVec.ofInt 64 (m : Int)) = BitVec.ofNat 64 m from BitVec.ofInt_natCast 64 m]
    simp only [BitVec.toNat_ofNat]; omega
  have h1 : (BitVec.ofInt IntKind.u64.bits z &&& BitVec.ofInt IntKind.u64.bits (m : Int)).toNat ≤ m := by
    rw [BitVec.toNat_and, e]
    exact Nat.and_le_right
  exact ⟨_, h1, wrapU (by omega)⟩
def lenTab : List Nat := [0, 1, 2, 2, 3, 3, 3, 3, 4, 4, 4, 4, 4, 4, 4, 4, 5, 5, 5, 5, 5, 5, 5, 5, 5, 5, 5, 5, 5, 5, 5, 5, 6, 6, 6, 6, 6, 6, 6, 6, 6, 6, 6, 6, 6, 6, 6, 6, 6, 6, 6, 6, 6, 6, 6, 6, 6, 6, 6, 6, 6, 6, 6, 6, 7, 7, 7, 7, 7, 7, 7, 7, 7, 7, 7, 7, 7, 7, 7, 7, 7, 7, 7, 7, 7, 7, 7, 7, 7, 7, 7, 7, 7, 7, 7, 7, 7, 7, 7, 7, 7, 7, 7, 7, 7, 7, 7, 7, 7, 7, 7, 7, 7, 7, 7, 7, 7, 7, 7, 7, 7, 7, 7, 7, 7, 7, 7, 7, 8, 8, 8, 8, 8, 8, 8, 8, 8, 8, 8, 8, 8, 8, 8, 8, 8, 8, 8, 8, 8, 8, 8, 8, 8, 8, 8, 8, 8, 8, 8, 8, 8, 8, 8, 8, 8, 8, 8, 8, 8, 8, 8, 8, 8, 8, 8, 8, 8, 8, 8, 8, 8, 8, 8, 8, 8, 8, 8, 8, 8, 8, 8, 8, 8, 8, 8, 8, 8, 8, 8, 8, 8, 8, 8, 8, 8, 8, 8, 8, 8, 8, 8, 8, 8, 8, 8, 8, 8, 8, 8, 8, 8, 8, 8, 8, 8, 8, 8, 8, 8, 8, 8, 8, 8, 8, 8, 8, 8, 8, 8, 8, 8, 8, 8, 8, 8, 8, 8, 8, 8, 8, 8, 8, 8, 8, 8, 8]
theorem lenTab_ok : ((List.range 256).all fun n => match lenTab[n]? with | some t => decide (t ≤ 8) && (decide (n = 0) || decide (2 ^ t ≤ 2 * n)) | none => false) = true := by kernel_rfl
theorem lenTab_at {n : Nat} (h : n < 256) (h0 : 1 ≤ n) : ∃ t, lenTab[n]? = some t ∧ t ≤ 8 ∧ 2 ^ t ≤ 2 * n := by
  have := List.all_eq_true.1 lenTab_ok n (List.mem_range.2 h)
  split at this
  · rename_i t ht
    simp only [Bool.and_eq_true, Bool.or_eq_true, decide_eq_true_eq] at this
    exact ⟨t, ht, this.1, by omega⟩
  · cases this
section
variable (hK : K Q)
include hK
set_option maxRecDepth 100000 in
theorem len64_c {n : Nat} (h : n < 65536) (h0 : 1 ≤ n) : ∃ L : Nat, Ret Q 86 [.int .u64 (n : Int)] (.int .i64 (L : Int)) ∧ 2 ^ L ≤ 2 * n ∧ L ≤ 16 := by
  have e1 : decide ((4294967296 : Int) ≤ (n : Int)) = false := by rw [decide_eq_false_iff_not]; omega
  have e2 : decide ((65536 : Int) ≤ (n : Int)) = false := by rw [decide_eq_false_iff_not]; omega
  have tw3 := tw3 hK
  have tw5 := tw5 hK
  have tw121 := tw121 hK
  unfold T3 at tw3
  unfold T5 at tw5
  unfold T121 at tw121
  by_cases hb : 256 ≤ n
  · obtain ⟨t, ht, ht8, ht2⟩ := lenTab_at (n := n / 256) (by omega) (by omega)
    have e3 : decide ((256 : Int) ≤ (n : Int)) = true := by rw [decide_eq_true_iff]; omega
    have e4 : ((n : Int)).fdiv (2 ^ (min (Int.toNat 8) (IntKind.bits .u64))) = ((n / 256 : Nat) : Int) := by
      show ((n : Int)).fdiv 256 = _
      rw [Int.fdiv_eq_ediv_of_nonneg _ (by omega)]; omega
    have e5 := wrapB (show n / 256 < 256 by omega)
    have e6 := wrapN (z := (t : Int)) (n := t) rfl (by omega)
    have e7 := wrapN (z := (8 : Int) + (t : Int)) (n := 8 + t) (by omega) (by omega)
    have e8 : IntKind.i64.wrap (0 + 8) = 8 := by decide
    simp only [lenTab] at ht
    refine ⟨8 + t, fun st => ?_, ?_, by omega⟩
    · refine callY (N := 25) (ok86 hK) (hK.nx _ _ _ rfl) rfl rfl ?_
      simp only [RS, RT, RZ, tsc0, tz0, nq0, bs0, bn0, reduceLT, reduceLeDiff, reduceEqDiff, reduceMul, reduceAdd, reduceSub, reduceCtorEq, x86, F86, e1, e2, e3, b_shr, s_shr, Int.reduceLT, e4, e5, e6, e7, e8, ht, convA_int tw121 tw5, convA_int tw5 tw3]
    · have : 2 ^ (8 + t) = 256 * 2 ^ t := by rw [Nat.pow_add]
      omega
  · obtain ⟨t, ht, ht8, ht2⟩ := lenTab_at (n := n) (by omega) (by omega)
    have e3 : decide ((256 : Int) ≤ (n : Int)) = false := by rw [decide_eq_false_iff_not]; omega
    have e5 := wrapB (show n < 256 by omega)
    have e6 := wrapN (z := (t : Int)) (n := t) rfl (by omega)
    have e7 := wrapN (z := (0 : Int) + (t : Int)) (n := t) (by omega) (by omega)
    simp only [lenTab] at ht
    refine ⟨t, fun st => ?_, ht2, by omega⟩
    refine callY (N := 25) (ok86 hK) (hK.nx _ _ _ rfl) rfl rfl ?_
    simp only [RS, RT, RZ, tsc0, tz0, nq0, bs0, bn0, reduceLT, reduceLeDiff, reduceEqDiff, reduceMul, reduceAdd, reduceSub, reduceCtorEq, x86, F86, e1, e2, e3, e5, e6, e7, ht, convA_int tw121 tw5, convA_int tw5 tw3]
theorem len_c {n : Nat} (h : n < 65536) (h0 : 1 ≤ n) : ∃ L : Nat, Ret Q 41 [.int .u64 (n : Int)] (.int .i64 (L : Int)) ∧ 2 ^ L ≤ 2 * n ∧ L ≤ 16 := by
  obtain ⟨L, h1, h2, h3⟩ := len64_c hK h h0
  refine ⟨L, fun st => ?_, h2, h3⟩
  refine callY (N := 8) (ok41 hK) (hK.nx _ _ _ rfl) rfl rfl ?_
  simp only [RS, RT, RZ, tsc0, tz0, nq0, bs0, bn0, reduceLT, reduceLeDiff, reduceEqDiff, reduceMul, reduceAdd, reduceSub, reduceCtorEq, x41, F41, h1]
theorem pow_c {n : Nat} (h : n < 65536) (h0 : 1 ≤ n) : ∃ m : Nat, Ret Q 103 [.int .i64 (n : Int)] (.int .u64 (m : Int)) ∧ m ≤ 2 * n ∧ 1 ≤ m := by
  obtain ⟨L, h1, h2, h3⟩ := len_c hK h h0
  have tw3 := tw3 hK
  have tw85 := tw85 hK
  unfold T3 at tw3
  unfold T85 at tw85
  have e1 := wrapU (show n < 18446744073709551616 by omega)
  have e2 : IntKind.u64.wrap ((1 : Int) * 2 ^ (min (Int.toNat (L : Int)) (IntKind.bits .u64))) = ((2 ^ L : Nat) : Int) := by
    rw [Int.toNat_natCast, show min L (IntKind.bits .u64) = L from Nat.min_eq_left (show L ≤ 64 by omega), Int.one_mul]
    have : ((2 ^ L : Nat) : Int) = 2 ^ L := by simp
    rw [← this]
    exact wrapU (by omega)
  have e3 : ¬ (L : Int) < 0 := by omega
  refine ⟨2 ^ L, fun st => ?_, h2, Nat.one_le_two_pow⟩
  refine callY (N := 7) (ok103 hK) (hK.nx _ _ _ rfl) rfl rfl ?_
  simp only [RS, RT, RZ, tsc0, tz0, nq0, bs0, bn0, reduceLT, reduceLeDiff, reduceEqDiff, reduceMul, reduceAdd, reduceSub, reduceCtorEq, x103, F103, e1, h1, b_shl, s_shl, e2, e3, convA_int tw3 tw85]
theorem rnd_c {p : Nat} {st : St} (hp : p < st.next) (hz : ∃ z : Int, st.heap p = .mem 132 [.int .u64 z] true 0) : ∃ v st', callW Q (.fn 104) [.ptr p 0] .normal st = some (.ret v, st', none) ∧ (∃ z, v = .int .u64 z) ∧ PO p 132 .u64 st st' := by
  refine po_end (N := 33) (ok104 hK) (hK.nx _ _ _ rfl) rfl hp hz ?_
  obtain ⟨h, nx, lg⟩ := st
  obtain ⟨z, hz⟩ := hz
  simp only at hz hp
  simp only [RS, RT, RZ, tsc0, tz0, nq0, bs0, bn0, reduceLT, reduceLeDiff, reduceEqDiff, reduceMul, reduceAdd, reduceSub, reduceCtorEq, x104, kd104_0, kd104_1, kd104_2, F104, hz, hp, gA_nl, nilK_ptr, b_shl, b_shr, s_shl, s_shr, i_xor, Int.reduceLT]
  refine ⟨_, rfl, ⟨_, rfl⟩, fun _ => rfl, rfl, ⟨⟨_, upd_same ..⟩, fun l hl => ?_, rfl, fun l hl => ?_⟩⟩
  · simp only; rw [upd_ne _ _ hl, upd_ne _ _ hl, upd_ne _ _ hl]
  · simp only [List.mem_cons] at hl ⊢; rcases hl with h | h | h | h <;> simp_all
end
end Go.Proofs.P31

namespace Go.Proofs.P31
open Go Go.AE
open Nat (reduceLT reduceLeDiff reduceEqDiff reduceMul reduceAdd reduceSub)
set_option maxHeartbeats 8000000
variable {G : Srt} {Q : Ctx} {cs : List AV}
section
variable (hK : K Q) (ok : G.OK Q)
include hK ok
theorem brk_loop {a b p m : Nat} (hab : a + 8 ≤ b) (hb : b ≤ G.cs0.length) (hp0 : G.n0 ≤ p) (hm : m ≤ 2 * (b - a)) (hm1 : 1 ≤ m) : ∀ (n : Nat) T st, (∃ (i : Nat) (cs : List AV), T 0 = rowV G ∧ T 1 = .int .i64 (a : Int) ∧ T 8 = .int .i64 ((b - a : Nat) : Int) ∧ T 9 = .ptr p 0 ∧ T 10 = .int .u64 (m : Int) ∧ T 11 = .int .i64 (i : Int) ∧ i + n = a + (b - a) / 4 * 2 + 2 ∧ a ≤ i ∧ SI G cs st ∧ p < st.next ∧ (∃ z : Int, st.heap p = .mem 132 [.int .u64 z] true 0)) →
    Post 67 [] none (execY (callW Q) Q false 79 none (.loop l79_0) ⟨T, 67, [], none⟩ st) fun e T' st' => e = .exit 0 ∧ ∃ cs, SI G cs st' := by
  refine post_loop fun n T st => ?_
  rintro ⟨i, cs, t0, t1, t8, t9, t10, t11, hn, hi, hI, hp, hz⟩
  have hsm := ok.small
  have hrn0 := ok.rn
  have w1 := wrapN (z := ((b - a : Nat) : Int).tdiv 4) (n := (b - a) / 4) rfl (by omega)
  have w2 := wrapN (z := (((b - a) / 4 : Nat) : Int) * 2) (n := (b - a) / 4 * 2) (by omega) (by omega)
  have w3 := wrapN (z := (a : Int) + (((b - a) / 4 * 2 : Nat) : Int)) (n := a + (b - a) / 4 * 2) (by omega) (by omega)
  have w4 := wrapN (z := ((a + (b - a) / 4 * 2 : Nat) : Int) + 1) (n := a + ((b - a) / 4 * 2 + 1)) (by omega) (by omega)
  simp only [rowV, cmpV] at t0
  by_cases hc : i ≤ a + ((b - a) / 4 * 2 + 1)
  · obtain ⟨v0, st1, c1, ⟨z, rfl⟩, p1⟩ := rnd_c hK (p := p) (st := st) hp hz
    have hI1 := hI.po ok hp0 p1
    obtain ⟨r, hr, e1⟩ := and_bound (z := z) (m := m - 1) (by omega)
    have hz1 := p1.at_
    have hn1 := p1.nx
    obtain ⟨h, nx, lg⟩ := st
    obtain ⟨h1, nx1, lg1⟩ := st1
    simp only at hz1 hn1 hp
    have hlen := hI1.len
    have hrow := hI1.row
    have hrn : G.r < nx1 := Nat.lt_of_lt_of_le ok.rn hI1.nx
    simp only at hrow
    have u1 : IntKind.u64.wrap ((m : Int) - 1) = ((m - 1 : Nat) : Int) := by
      rw [show (m : Int) - 1 = ((m - 1 : Nat) : Int) by omega]; exact wrapU (by omega)
    have u2 := wrapN (z := (r : Int)) (n := r) rfl (by omega)
    have tw3 := tw3 hK
    have tw85 := tw85 hK
    unfold T3 at tw3
    unfold T85 at tw85
    have key : ∀ o : Nat, o < b - a → ∃ v w, cs[i]? = some v ∧ cs[a + o]? = some w ∧ v.cells = [v] ∧ v.isCell = true ∧ w.cells = [w] ∧ w.isCell = true ∧ i < G.cs0.length ∧ a + o < G.cs0.length ∧ i + 1 ≤ G.cs0.length ∧ a + (o + 1) ≤ G.cs0.length ∧ IntKind.i64.wrap ((a : Int) + (o : Int)) = ((a + o : Nat) : Int) := by
      intro o ho
      obtain ⟨v, v1, v2, v3, v4, v5⟩ := hI1.el ok (show i < G.cs0.length by omega)
      obtain ⟨w, w1, w2, w3, w4, w5⟩ := hI1.el ok (show a + o < G.cs0.length by omega)
      exact ⟨v, w, v1, w1, v2, v3, w2, w3, by omega, by omega, by omega, by omega, wrapN (by omega) (by omega)⟩
    have pr : p ≠ G.r := by omega
    have u4 := wrapN (z := (i : Int) + 1) (n := i + 1) (by omega) (by omega)
    by_cases hlt : b - a ≤ r
    · obtain ⟨v, w, v1, w1', v2, v3, w2', w3', l1, l2, l3, l4, u3⟩ := key (r - (b - a)) (by omega)
      have u5 := wrapN (z := (r : Int) - ((b - a : Nat) : Int)) (n := r - (b - a)) (by omega) (by omega)
      simp only [RS, RT, RZ, tsc0, tz0, nq0, bs0, bn0, reduceLT, reduceLeDiff, reduceEqDiff, reduceMul, reduceAdd, reduceSub, reduceCtorEq, hlen, hrn, hrow, idxX_row, lenX_row, Nat.zero_add, Nat.mul_one, splice_set, List.length_set, rowV, cmpV, l79_0, kd79_0, t0, t1, t8, t9, t10, t11, w1, w2, w3, w4, i_quo, Int.reduceEq, hc, c1, i_and, u1, e1, u2, convA_int tw85 tw3, hlt, u5, u3, v1, w1', v2, v3, w2', w3', l1, l2, l3, l4, u4]
      refine ⟨n - 1, by omega, i + 1, _, rfl, by omega, by omega, hI1.swap v1 w1', by omega, ?_⟩
      obtain ⟨z1, hz1⟩ := hz1
      exact ⟨z1, by rw [upd_ne _ _ pr, upd_ne _ _ pr, hz1]⟩
    · obtain ⟨v, w, v1, w1', v2, v3, w2', w3', l1, l2, l3, l4, u3⟩ := key r (by omega)
      simp only [RS, RT, RZ, tsc0, tz0, nq0, bs0, bn0, reduceLT, reduceLeDiff, reduceEqDiff, reduceMul, reduceAdd, reduceSub, reduceCtorEq, hlen, hrn, hrow, idxX_row, lenX_row, Nat.zero_add, Nat.mul_one, splice_set, List.length_set, rowV, cmpV, l79_0, kd79_0, t0, t1, t8, t9, t10, t11, w1, w2, w3, w4, i_quo, Int.reduceEq, hc, c1, i_and, u1, e1, u2, convA_int tw85 tw3, hlt, u3, v1, w1', v2, v3, w2', w3', l1, l2, l3, l4, u4]
      refine ⟨n - 1, by omega, i + 1, _, rfl, by omega, by omega, hI1.swap v1 w1', by omega, ?_⟩
      obtain ⟨z1, hz1⟩ := hz1
      exact ⟨z1, by rw [upd_ne _ _ pr, upd_ne _ _ pr, hz1]⟩
  · obtain ⟨h, nx, lg⟩ := st
    simp only [RS, RT, RZ, tsc0, tz0, nq0, bs0, bn0, reduceLT, reduceLeDiff, reduceEqDiff, reduceMul, reduceAdd, reduceSub, reduceCtorEq, rowV, cmpV, getD_4, getD_5, l79_0, kd79_0, t0, t1, t8, t9, t10, t11, w1, w2, w3, w4, i_quo, Int.reduceEq, hc]
    exact ⟨cs, hI⟩
theorem brk_c {a b : Nat} (hab : a + 12 ≤ b) (hb : b ≤ G.cs0.length) {st : St} {cs : List AV} (hI : SI G cs st) : ∃ v st' cs', callW Q (.fn 79) [rowV G, .int .i64 (a : Int), .int .i64 (b : Int), cmpV] .normal st = some (.ret v, st', none) ∧ v = .tuple [] ∧ SI G cs' st' := by
  refine sort_end (N := 67) (ok79 hK) (hK.nx _ _ _ rfl) rfl hI ?_
  have hsm := ok.small
  obtain ⟨h, nx, lg⟩ := st
  have hnx := hI.nx
  simp only at hnx
  have hI0 := ((hI.fresh).push ok (o := .mem 132 [.int .u64 0] true 0))
  simp only at hI0
  have w0 := wrapN (z := (b : Int) - (a : Int)) (n := b - a) (by omega) (by omega)
  have w1 := wrapN (z := ((b - a : Nat) : Int).tdiv 4) (n := (b - a) / 4) rfl (by omega)
  have w2 := wrapN (z := (((b - a) / 4 : Nat) : Int) * 2) (n := (b - a) / 4 * 2) (by omega) (by omega)
  have w3 := wrapN (z := (a : Int) + (((b - a) / 4 * 2 : Nat) : Int)) (n := a + (b - a) / 4 * 2) (by omega) (by omega)
  have w4 := wrapN (z := ((a + (b - a) / 4 * 2 : Nat) : Int) - 1) (n := a + (b - a) / 4 * 2 - 1) (by omega) (by omega)
  have e8 : decide ((8 : Int) ≤ ((b - a : Nat) : Int)) = true := by rw [decide_eq_true_iff]; omega
  have u1 := wrapU (show b - a < 18446744073709551616 by omega)
  have tw3 := tw3 hK
  have tw132 := tw132 hK
  unfold T3 at tw3
  unfold T132 at tw132
  obtain ⟨m, hm, hm2, hm3⟩ := pow_c hK (n := b - a) (by omega) (by omega)
  simp only [RS, RT, RZ, tsc0, tz0, nq0, bs0, bn0, reduceLT, reduceLeDiff, reduceEqDiff, reduceMul, reduceAdd, reduceSub, reduceCtorEq, rowV, cmpV, getD_4, getD_5, x79, kd79_0, F79, w0, e8, w1, w2, w3, w4, u1, hm, i_quo, Int.reduceEq, convA_int tw3 tw132]
  refine post_bind (brk_loop hK ok (a := a) (b := b) (p := nx) (m := m) (by omega) hb hnx hm2 hm3 3 _ _ ⟨a + (b - a) / 4 * 2 - 1, cs, ?_, ?_, ?_, ?_, ?_, ?_, by omega, by omega, ?_, ?_, ?_⟩) ?_
  all_goals try (simp only [RS, RT, RZ, tsc0, tz0, nq0, bs0, bn0, reduceLT, reduceLeDiff, reduceEqDiff, reduceMul, reduceAdd, reduceSub, reduceCtorEq, rowV, cmpV, getD_4, getD_5, ]; done)
  · have hrn0 := ok.rn
    refine ⟨?_, fun l hl hr => ?_, ?_, hI.perm, fun l hl => ?_⟩
    · simp only; rw [upd_ne _ _ (by omega), upd_ne _ _ (by omega)]; exact hI.row
    · simp only; rw [upd_ne _ _ (by omega), upd_ne _ _ (by omega)]; exact hI.old l hl hr
    · simp only; omega
    · simp only [List.mem_cons, List.not_mem_nil, or_false] at hl; subst hl; exact .inr (.inl hnx)
  · exact ⟨_, upd_same ..⟩
  rintro e T' st1 ⟨rfl, cs', hI'⟩
  simp only [RS, RT, RZ, tsc0, tz0, nq0, bs0, bn0, reduceLT, reduceLeDiff, reduceEqDiff, reduceMul, reduceAdd, reduceSub, reduceCtorEq, rowV, cmpV, getD_4, getD_5, F79]
  exact ⟨.tuple [], rfl, rfl, fun _ => rfl, rfl, cs', hI'⟩
end
end Go.Proofs.P31
