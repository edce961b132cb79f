/- The partitions and SortFunc: at every row and comparing function. -/
import Derived.Test.YtmdakabianfbkaaGreatS3
set_option linter.unusedVariables false
set_option linter.unusedSimpArgs false
set_option linter.unusedSectionVars false
namespace Go.Proofs.P31
open Go Go.AE
open Nat (reduceLT reduceLeDiff reduceEqDiff reduceMul reduceAdd reduceSub)
set_option maxHeartbeats 8000000
variable {G : Srt} {Q : Ctx} {cs : List AV}
structure QT (G : Srt) (a b : Nat) (T : Nat → AV) : Prop where
  t0 : T 0 = rowV G
  t1 : T 1 = .int .i64 (a : Int)
  t2 : T 2 = .int .i64 (b : Int)
  t4 : T 4 = cmpV
section
variable (hK : K Q) (ok : G.OK Q)
include hK ok
theorem p83_0 {a b i0 : Nat} (hb : b ≤ G.cs0.length) : ∀ (n : Nat) T st, (∃ (i j : Nat) (cs : List AV), QT G a b T ∧ T 11 = .int .i64 (i : Int) ∧ T 12 = .int .i64 (j : Int) ∧ i0 ≤ i ∧ a + 1 ≤ i ∧ i ≤ b ∧ a ≤ j ∧ j < b ∧ j + 1 < i + n ∧ SI G cs st) →
    Post 90 [] none (execY (callW Q) Q false 83 none (.loop l83_0) ⟨T, 90, [], none⟩ st) fun e T' st' => e = .exit 2 ∧ ∃ (i j : Nat) (cs : List AV), QT G a b T' ∧ T' 11 = .int .i64 (i : Int) ∧ T' 12 = .int .i64 (j : Int) ∧ i0 ≤ i ∧ a + 1 ≤ i ∧ i ≤ b ∧ a ≤ j ∧ j < b ∧ SI G cs st' := by
  refine post_loop fun n T st => ?_
  rintro ⟨i, j, cs, ⟨t0, t1, t2, t4⟩, ti, tj, hi0, hi1, hi2, hj1, hj2, hn, hI⟩
  obtain ⟨h, nx, lg⟩ := st
  have hsm := ok.small
  have hlen := hI.len
  have hrow := hI.row
  have hrn : G.r < nx := Nat.lt_of_lt_of_le ok.rn hI.nx
  simp only [rowV, cmpV] at t0 t4 hrow
  by_cases hc : i ≤ j
  · have l1 : i < G.cs0.length := by omega
    have l2 : a < G.cs0.length := by omega
    obtain ⟨v, v1, v2, v3, v4, v5⟩ := hI.el ok l1
    obtain ⟨w, w1, w2, w3, w4, w5⟩ := hI.el ok l2
    obtain ⟨c, e1⟩ := hI.cmp ok w5 v5
    have hw1 := wrapN (z := (i : Int) + 1) (n := i + 1) (by omega) (by omega)
    cases g : decide (c < 0) with
    | false =>
      simp only [RS, RT, RZ, tsc0, tz0, nq0, bs0, bn0, reduceLT, reduceLeDiff, reduceEqDiff, reduceMul, reduceAdd, reduceSub, reduceCtorEq, hlen, hrn, hrow, idxX_row, lenX_row, Nat.zero_add, Nat.mul_one, splice_set, List.length_set, rowV, cmpV, l83_0, kd83_0, kd83_1, kd83_2, kd83_3, t0, t1, t2, t4, ti, tj, hc, l1, l2, v1, w1, e1, g, hw1]
      first
        | exact ⟨n - 1, by omega, i + 1, j, cs, ⟨by simp only [RS, RT, RZ, tsc0, tz0, nq0, bs0, bn0, reduceLT, reduceLeDiff, reduceEqDiff, reduceMul, reduceAdd, reduceSub, reduceCtorEq, rowV, cmpV, getD_4, getD_5, t0], by simp only [RS, RT, RZ, tsc0, tz0, nq0, bs0, bn0, reduceLT, reduceLeDiff, reduceEqDiff, reduceMul, reduceAdd, reduceSub, reduceCtorEq, rowV, cmpV, getD_4, getD_5, t1], by simp only [RS, RT, RZ, tsc0, tz0, nq0, bs0, bn0, reduceLT, reduceLeDiff, reduceEqDiff, reduceMul, reduceAdd, reduceSub, reduceCtorEq, rowV, cmpV, getD_4, getD_5, t2], by simp only [RS, RT, RZ, tsc0, tz0, nq0, bs0, bn0, reduceLT, reduceLeDiff, reduceEqDiff, reduceMul, reduceAdd, reduceSub, reduceCtorEq, rowV, cmpV, getD_4, getD_5, t4]⟩, rfl, rfl, by omega, by omega, by omega, by omega, by omega, by omega, hI⟩
        | exact ⟨i, j, cs, ⟨by simp only [RS, RT, RZ, tsc0, tz0, nq0, bs0, bn0, reduceLT, reduceLeDiff, reduceEqDiff, reduceMul, reduceAdd, reduceSub, reduceCtorEq, rowV, cmpV, getD_4, getD_5, t0], by simp only [RS, RT, RZ, tsc0, tz0, nq0, bs0, bn0, reduceLT, reduceLeDiff, reduceEqDiff, reduceMul, reduceAdd, reduceSub, reduceCtorEq, rowV, cmpV, getD_4, getD_5, t1], by simp only [RS, RT, RZ, tsc0, tz0, nq0, bs0, bn0, reduceLT, reduceLeDiff, reduceEqDiff, reduceMul, reduceAdd, reduceSub, reduceCtorEq, rowV, cmpV, getD_4, getD_5, t2], by simp only [RS, RT, RZ, tsc0, tz0, nq0, bs0, bn0, reduceLT, reduceLeDiff, reduceEqDiff, reduceMul, reduceAdd, reduceSub, reduceCtorEq, rowV, cmpV, getD_4, getD_5, t4]⟩, rfl, rfl, by omega, by omega, by omega, by omega, by omega, hI⟩
    | true =>
      simp only [RS, RT, RZ, tsc0, tz0, nq0, bs0, bn0, reduceLT, reduceLeDiff, reduceEqDiff, reduceMul, reduceAdd, reduceSub, reduceCtorEq, hlen, hrn, hrow, idxX_row, lenX_row, Nat.zero_add, Nat.mul_one, splice_set, List.length_set, rowV, cmpV, l83_0, kd83_0, kd83_1, kd83_2, kd83_3, t0, t1, t2, t4, ti, tj, hc, l1, l2, v1, w1, e1, g, hw1]
      first
        | exact ⟨n - 1, by omega, i + 1, j, cs, ⟨by simp only [RS, RT, RZ, tsc0, tz0, nq0, bs0, bn0, reduceLT, reduceLeDiff, reduceEqDiff, reduceMul, reduceAdd, reduceSub, reduceCtorEq, rowV, cmpV, getD_4, getD_5, t0], by simp only [RS, RT, RZ, tsc0, tz0, nq0, bs0, bn0, reduceLT, reduceLeDiff, reduceEqDiff, reduceMul, reduceAdd, reduceSub, reduceCtorEq, rowV, cmpV, getD_4, getD_5, t1], by simp only [RS, RT, RZ, tsc0, tz0, nq0, bs0, bn0, reduceLT, reduceLeDiff, reduceEqDiff, reduceMul, reduceAdd, reduceSub, reduceCtorEq, rowV, cmpV, getD_4, getD_5, t2], by simp only [RS, RT, RZ, tsc0, tz0, nq0, bs0, bn0, reduceLT, reduceLeDiff, reduceEqDiff, reduceMul, reduceAdd, reduceSub, reduceCtorEq, rowV, cmpV, getD_4, getD_5, t4]⟩, rfl, rfl, by omega, by omega, by omega, by omega, by omega, by omega, hI⟩
        | exact ⟨i, j, cs, ⟨by simp only [RS, RT, RZ, tsc0, tz0, nq0, bs0, bn0, reduceLT, reduceLeDiff, reduceEqDiff, reduceMul, reduceAdd, reduceSub, reduceCtorEq, rowV, cmpV, getD_4, getD_5, t0], by simp only [RS, RT, RZ, tsc0, tz0, nq0, bs0, bn0, reduceLT, reduceLeDiff, reduceEqDiff, reduceMul, reduceAdd, reduceSub, reduceCtorEq, rowV, cmpV, getD_4, getD_5, t1], by simp only [RS, RT, RZ, tsc0, tz0, nq0, bs0, bn0, reduceLT, reduceLeDiff, reduceEqDiff, reduceMul, reduceAdd, reduceSub, reduceCtorEq, rowV, cmpV, getD_4, getD_5, t2], by simp only [RS, RT, RZ, tsc0, tz0, nq0, bs0, bn0, reduceLT, reduceLeDiff, reduceEqDiff, reduceMul, reduceAdd, reduceSub, reduceCtorEq, rowV, cmpV, getD_4, getD_5, t4]⟩, rfl, rfl, by omega, by omega, by omega, by omega, by omega, hI⟩
  · simp only [RS, RT, RZ, tsc0, tz0, nq0, bs0, bn0, reduceLT, reduceLeDiff, reduceEqDiff, reduceMul, reduceAdd, reduceSub, reduceCtorEq, hlen, hrn, hrow, idxX_row, lenX_row, Nat.zero_add, Nat.mul_one, splice_set, List.length_set, rowV, cmpV, l83_0, kd83_0, kd83_1, kd83_2, kd83_3, t0, t1, t2, t4, ti, tj, hc]
    exact ⟨i, j, cs, ⟨by simp only [RS, RT, RZ, tsc0, tz0, nq0, bs0, bn0, reduceLT, reduceLeDiff, reduceEqDiff, reduceMul, reduceAdd, reduceSub, reduceCtorEq, rowV, cmpV, getD_4, getD_5, t0], by simp only [RS, RT, RZ, tsc0, tz0, nq0, bs0, bn0, reduceLT, reduceLeDiff, reduceEqDiff, reduceMul, reduceAdd, reduceSub, reduceCtorEq, rowV, cmpV, getD_4, getD_5, t1], by simp only [RS, RT, RZ, tsc0, tz0, nq0, bs0, bn0, reduceLT, reduceLeDiff, reduceEqDiff, reduceMul, reduceAdd, reduceSub, reduceCtorEq, rowV, cmpV, getD_4, getD_5, t2], by simp only [RS, RT, RZ, tsc0, tz0, nq0, bs0, bn0, reduceLT, reduceLeDiff, reduceEqDiff, reduceMul, reduceAdd, reduceSub, reduceCtorEq, rowV, cmpV, getD_4, getD_5, t4]⟩, rfl, rfl, by omega, by omega, by omega, by omega, by omega, hI⟩
theorem p83_1 {a b i0 : Nat} (hb : b ≤ G.cs0.length) : ∀ (n : Nat) T st, (∃ (i j : Nat) (cs : List AV), QT G a b T ∧ T 11 = .int .i64 (i : Int) ∧ T 12 = .int .i64 (j : Int) ∧ i0 ≤ i ∧ a + 1 ≤ i ∧ i ≤ b ∧ a ≤ j ∧ j < b ∧ j + 1 < i + n ∧ SI G cs st) →
    Post 90 [] none (execY (callW Q) Q false 83 none (.loop l83_1) ⟨T, 90, [], none⟩ st) fun e T' st' => e = .exit 4 ∧ ∃ (i j : Nat) (cs : List AV), QT G a b T' ∧ T' 11 = .int .i64 (i : Int) ∧ T' 12 = .int .i64 (j : Int) ∧ i0 ≤ i ∧ a + 1 ≤ i ∧ i ≤ b ∧ a ≤ j ∧ j < b ∧ SI G cs st' := by
  refine post_loop fun n T st => ?_
  rintro ⟨i, j, cs, ⟨t0, t1, t2, t4⟩, ti, tj, hi0, hi1, hi2, hj1, hj2, hn, hI⟩
  obtain ⟨h, nx, lg⟩ := st
  have hsm := ok.small
  have hlen := hI.len
  have hrow := hI.row
  have hrn : G.r < nx := Nat.lt_of_lt_of_le ok.rn hI.nx
  simp only [rowV, cmpV] at t0 t4 hrow
  by_cases hc : i ≤ j
  · have l1 : j < G.cs0.length := by omega
    have l2 : a < G.cs0.length := by omega
    obtain ⟨v, v1, v2, v3, v4, v5⟩ := hI.el ok l1
    obtain ⟨w, w1, w2, w3, w4, w5⟩ := hI.el ok l2
    obtain ⟨c, e1⟩ := hI.cmp ok w5 v5
    have hw1 := wrapN (z := (j : Int) - 1) (n := j - 1) (by omega) (by omega)
    cases g : decide (c < 0) with
    | false =>
      simp only [RS, RT, RZ, tsc0, tz0, nq0, bs0, bn0, reduceLT, reduceLeDiff, reduceEqDiff, reduceMul, reduceAdd, reduceSub, reduceCtorEq, hlen, hrn, hrow, idxX_row, lenX_row, Nat.zero_add, Nat.mul_one, splice_set, List.length_set, rowV, cmpV, l83_1, kd83_0, kd83_1, kd83_2, kd83_3, t0, t1, t2, t4, ti, tj, hc, l1, l2, v1, w1, e1, g, hw1]
      first
        | exact ⟨n - 1, by omega, i, j - 1, cs, ⟨by simp only [RS, RT, RZ, tsc0, tz0, nq0, bs0, bn0, reduceLT, reduceLeDiff, reduceEqDiff, reduceMul, reduceAdd, reduceSub, reduceCtorEq, rowV, cmpV, getD_4, getD_5, t0], by simp only [RS, RT, RZ, tsc0, tz0, nq0, bs0, bn0, reduceLT, reduceLeDiff, reduceEqDiff, reduceMul, reduceAdd, reduceSub, reduceCtorEq, rowV, cmpV, getD_4, getD_5, t1], by simp only [RS, RT, RZ, tsc0, tz0, nq0, bs0, bn0, reduceLT, reduceLeDiff, reduceEqDiff, reduceMul, reduceAdd, reduceSub, reduceCtorEq, rowV, cmpV, getD_4, getD_5, t2], by simp only [RS, RT, RZ, tsc0, tz0, nq0, bs0, bn0, reduceLT, reduceLeDiff, reduceEqDiff, reduceMul, reduceAdd, reduceSub, reduceCtorEq, rowV, cmpV, getD_4, getD_5, t4]⟩, rfl, rfl, by omega, by omega, by omega, by omega, by omega, by omega, hI⟩
        | exact ⟨i, j, cs, ⟨by simp only [RS, RT, RZ, tsc0, tz0, nq0, bs0, bn0, reduceLT, reduceLeDiff, reduceEqDiff, reduceMul, reduceAdd, reduceSub, reduceCtorEq, rowV, cmpV, getD_4, getD_5, t0], by simp only [RS, RT, RZ, tsc0, tz0, nq0, bs0, bn0, reduceLT, reduceLeDiff, reduceEqDiff, reduceMul, reduceAdd, reduceSub, reduceCtorEq, rowV, cmpV, getD_4, getD_5, t1], by simp only [RS, RT, RZ, tsc0, tz0, nq0, bs0, bn0, reduceLT, reduceLeDiff, reduceEqDiff, reduceMul, reduceAdd, reduceSub, reduceCtorEq, rowV, cmpV, getD_4, getD_5, t2], by simp only [RS, RT, RZ, tsc0, tz0, nq0, bs0, bn0, reduceLT, reduceLeDiff, reduceEqDiff, reduceMul, reduceAdd, reduceSub, reduceCtorEq, rowV, cmpV, getD_4, getD_5, t4]⟩, rfl, rfl, by omega, by omega, by omega, by omega, by omega, hI⟩
    | true =>
      simp only [RS, RT, RZ, tsc0, tz0, nq0, bs0, bn0, reduceLT, reduceLeDiff, reduceEqDiff, reduceMul, reduceAdd, reduceSub, reduceCtorEq, hlen, hrn, hrow, idxX_row, lenX_row, Nat.zero_add, Nat.mul_one, splice_set, List.length_set, rowV, cmpV, l83_1, kd83_0, kd83_1, kd83_2, kd83_3, t0, t1, t2, t4, ti, tj, hc, l1, l2, v1, w1, e1, g, hw1]
      first
        | exact ⟨n - 1, by omega, i, j - 1, cs, ⟨by simp only [RS, RT, RZ, tsc0, tz0, nq0, bs0, bn0, reduceLT, reduceLeDiff, reduceEqDiff, reduceMul, reduceAdd, reduceSub, reduceCtorEq, rowV, cmpV, getD_4, getD_5, t0], by simp only [RS, RT, RZ, tsc0, tz0, nq0, bs0, bn0, reduceLT, reduceLeDiff, reduceEqDiff, reduceMul, reduceAdd, reduceSub, reduceCtorEq, rowV, cmpV, getD_4, getD_5, t1], by simp only [RS, RT, RZ, tsc0, tz0, nq0, bs0, bn0, reduceLT, reduceLeDiff, reduceEqDiff, reduceMul, reduceAdd, reduceSub, reduceCtorEq, rowV, cmpV, getD_4, getD_5, t2], by simp only [RS, RT, RZ, tsc0, tz0, nq0, bs0, bn0, reduceLT, reduceLeDiff, reduceEqDiff, reduceMul, reduceAdd, reduceSub, reduceCtorEq, rowV, cmpV, getD_4, getD_5, t4]⟩, rfl, rfl, by omega, by omega, by omega, by omega, by omega, by omega, hI⟩
        | exact ⟨i, j, cs, ⟨by simp only [RS, RT, RZ, tsc0, tz0, nq0, bs0, bn0, reduceLT, reduceLeDiff, reduceEqDiff, reduceMul, reduceAdd, reduceSub, reduceCtorEq, rowV, cmpV, getD_4, getD_5, t0], by simp only [RS, RT, RZ, tsc0, tz0, nq0, bs0, bn0, reduceLT, reduceLeDiff, reduceEqDiff, reduceMul, reduceAdd, reduceSub, reduceCtorEq, rowV, cmpV, getD_4, getD_5, t1], by simp only [RS, RT, RZ, tsc0, tz0, nq0, bs0, bn0, reduceLT, reduceLeDiff, reduceEqDiff, reduceMul, reduceAdd, reduceSub, reduceCtorEq, rowV, cmpV, getD_4, getD_5, t2], by simp only [RS, RT, RZ, tsc0, tz0, nq0, bs0, bn0, reduceLT, reduceLeDiff, reduceEqDiff, reduceMul, reduceAdd, reduceSub, reduceCtorEq, rowV, cmpV, getD_4, getD_5, t4]⟩, rfl, rfl, by omega, by omega, by omega, by omega, by omega, hI⟩
  · simp only [RS, RT, RZ, tsc0, tz0, nq0, bs0, bn0, reduceLT, reduceLeDiff, reduceEqDiff, reduceMul, reduceAdd, reduceSub, reduceCtorEq, hlen, hrn, hrow, idxX_row, lenX_row, Nat.zero_add, Nat.mul_one, splice_set, List.length_set, rowV, cmpV, l83_1, kd83_0, kd83_1, kd83_2, kd83_3, t0, t1, t2, t4, ti, tj, hc]
    exact ⟨i, j, cs, ⟨by simp only [RS, RT, RZ, tsc0, tz0, nq0, bs0, bn0, reduceLT, reduceLeDiff, reduceEqDiff, reduceMul, reduceAdd, reduceSub, reduceCtorEq, rowV, cmpV, getD_4, getD_5, t0], by simp only [RS, RT, RZ, tsc0, tz0, nq0, bs0, bn0, reduceLT, reduceLeDiff, reduceEqDiff, reduceMul, reduceAdd, reduceSub, reduceCtorEq, rowV, cmpV, getD_4, getD_5, t1], by simp only [RS, RT, RZ, tsc0, tz0, nq0, bs0, bn0, reduceLT, reduceLeDiff, reduceEqDiff, reduceMul, reduceAdd, reduceSub, reduceCtorEq, rowV, cmpV, getD_4, getD_5, t2], by simp only [RS, RT, RZ, tsc0, tz0, nq0, bs0, bn0, reduceLT, reduceLeDiff, reduceEqDiff, reduceMul, reduceAdd, reduceSub, reduceCtorEq, rowV, cmpV, getD_4, getD_5, t4]⟩, rfl, rfl, by omega, by omega, by omega, by omega, by omega, hI⟩
theorem p84_0 {a b i0 : Nat} (hb : b ≤ G.cs0.length) : ∀ (n : Nat) T st, (∃ (i j : Nat) (cs : List AV), QT G a b T ∧ T 12 = .int .i64 (i : Int) ∧ T 13 = .int .i64 (j : Int) ∧ i0 ≤ i ∧ a + 1 ≤ i ∧ i ≤ b ∧ a ≤ j ∧ j < b ∧ j + 1 < i + n ∧ SI G cs st) →
    Post 178 [] none (execY (callW Q) Q false 84 none (.loop l84_0) ⟨T, 178, [], none⟩ st) fun e T' st' => e = .exit 0 ∧ ∃ (i j : Nat) (cs : List AV), QT G a b T' ∧ T' 12 = .int .i64 (i : Int) ∧ T' 13 = .int .i64 (j : Int) ∧ i0 ≤ i ∧ a + 1 ≤ i ∧ i ≤ b ∧ a ≤ j ∧ j < b ∧ SI G cs st' := by
  refine post_loop fun n T st => ?_
  rintro ⟨i, j, cs, ⟨t0, t1, t2, t4⟩, ti, tj, hi0, hi1, hi2, hj1, hj2, hn, hI⟩
  obtain ⟨h, nx, lg⟩ := st
  have hsm := ok.small
  have hlen := hI.len
  have hrow := hI.row
  have hrn : G.r < nx := Nat.lt_of_lt_of_le ok.rn hI.nx
  simp only [rowV, cmpV] at t0 t4 hrow
  by_cases hc : i ≤ j
  · have l1 : i < G.cs0.length := by omega
    have l2 : a < G.cs0.length := by omega
    obtain ⟨v, v1, v2, v3, v4, v5⟩ := hI.el ok l1
    obtain ⟨w, w1, w2, w3, w4, w5⟩ := hI.el ok l2
    obtain ⟨c, e1⟩ := hI.cmp ok v5 w5
    have hw1 := wrapN (z := (i : Int) + 1) (n := i + 1) (by omega) (by omega)
    cases g : decide (c < 0) with
    | false =>
      simp only [RS, RT, RZ, tsc0, tz0, nq0, bs0, bn0, reduceLT, reduceLeDiff, reduceEqDiff, reduceMul, reduceAdd, reduceSub, reduceCtorEq, hlen, hrn, hrow, idxX_row, lenX_row, Nat.zero_add, Nat.mul_one, splice_set, List.length_set, rowV, cmpV, l84_0, kd84_0, kd84_1, kd84_2, kd84_3, kd84_4, kd84_5, kd84_6, kd84_7, kd84_8, t0, t1, t2, t4, ti, tj, hc, l1, l2, v1, w1, e1, g, hw1]
      first
        | exact ⟨n - 1, by omega, i + 1, j, cs, ⟨by simp only [RS, RT, RZ, tsc0, tz0, nq0, bs0, bn0, reduceLT, reduceLeDiff, reduceEqDiff, reduceMul, reduceAdd, reduceSub, reduceCtorEq, rowV, cmpV, getD_4, getD_5, t0], by simp only [RS, RT, RZ, tsc0, tz0, nq0, bs0, bn0, reduceLT, reduceLeDiff, reduceEqDiff, reduceMul, reduceAdd, reduceSub, reduceCtorEq, rowV, cmpV, getD_4, getD_5, t1], by simp only [RS, RT, RZ, tsc0, tz0, nq0, bs0, bn0, reduceLT, reduceLeDiff, reduceEqDiff, reduceMul, reduceAdd, reduceSub, reduceCtorEq, rowV, cmpV, getD_4, getD_5, t2], by simp only [RS, RT, RZ, tsc0, tz0, nq0, bs0, bn0, reduceLT, reduceLeDiff, reduceEqDiff, reduceMul, reduceAdd, reduceSub, reduceCtorEq, rowV, cmpV, getD_4, getD_5, t4]⟩, rfl, rfl, by omega, by omega, by omega, by omega, by omega, by omega, hI⟩
        | exact ⟨i, j, cs, ⟨by simp only [RS, RT, RZ, tsc0, tz0, nq0, bs0, bn0, reduceLT, reduceLeDiff, reduceEqDiff, reduceMul, reduceAdd, reduceSub, reduceCtorEq, rowV, cmpV, getD_4, getD_5, t0], by simp only [RS, RT, RZ, tsc0, tz0, nq0, bs0, bn0, reduceLT, reduceLeDiff, reduceEqDiff, reduceMul, reduceAdd, reduceSub, reduceCtorEq, rowV, cmpV, getD_4, getD_5, t1], by simp only [RS, RT, RZ, tsc0, tz0, nq0, bs0, bn0, reduceLT, reduceLeDiff, reduceEqDiff, reduceMul, reduceAdd, reduceSub, reduceCtorEq, rowV, cmpV, getD_4, getD_5, t2], by simp only [RS, RT, RZ, tsc0, tz0, nq0, bs0, bn0, reduceLT, reduceLeDiff, reduceEqDiff, reduceMul, reduceAdd, reduceSub, reduceCtorEq, rowV, cmpV, getD_4, getD_5, t4]⟩, rfl, rfl, by omega, by omega, by omega, by omega, by omega, hI⟩
    | true =>
      simp only [RS, RT, RZ, tsc0, tz0, nq0, bs0, bn0, reduceLT, reduceLeDiff, reduceEqDiff, reduceMul, reduceAdd, reduceSub, reduceCtorEq, hlen, hrn, hrow, idxX_row, lenX_row, Nat.zero_add, Nat.mul_one, splice_set, List.length_set, rowV, cmpV, l84_0, kd84_0, kd84_1, kd84_2, kd84_3, kd84_4, kd84_5, kd84_6, kd84_7, kd84_8, t0, t1, t2, t4, ti, tj, hc, l1, l2, v1, w1, e1, g, hw1]
      first
        | exact ⟨n - 1, by omega, i + 1, j, cs, ⟨by simp only [RS, RT, RZ, tsc0, tz0, nq0, bs0, bn0, reduceLT, reduceLeDiff, reduceEqDiff, reduceMul, reduceAdd, reduceSub, reduceCtorEq, rowV, cmpV, getD_4, getD_5, t0], by simp only [RS, RT, RZ, tsc0, tz0, nq0, bs0, bn0, reduceLT, reduceLeDiff, reduceEqDiff, reduceMul, reduceAdd, reduceSub, reduceCtorEq, rowV, cmpV, getD_4, getD_5, t1], by simp only [RS, RT, RZ, tsc0, tz0, nq0, bs0, bn0, reduceLT, reduceLeDiff, reduceEqDiff, reduceMul, reduceAdd, reduceSub, reduceCtorEq, rowV, cmpV, getD_4, getD_5, t2], by simp only [RS, RT, RZ, tsc0, tz0, nq0, bs0, bn0, reduceLT, reduceLeDiff, reduceEqDiff, reduceMul, reduceAdd, reduceSub, reduceCtorEq, rowV, cmpV, getD_4, getD_5, t4]⟩, rfl, rfl, by omega, by omega, by omega, by omega, by omega, by omega, hI⟩
        | exact ⟨i, j, cs, ⟨by simp only [RS, RT, RZ, tsc0, tz0, nq0, bs0, bn0, reduceLT, reduceLeDiff, reduceEqDiff, reduceMul, reduceAdd, reduceSub, reduceCtorEq, rowV, cmpV, getD_4, getD_5, t0], by simp only [RS, RT, RZ, tsc0, tz0, nq0, bs0, bn0, reduceLT, reduceLeDiff, reduceEqDiff, reduceMul, reduceAdd, reduceSub, reduceCtorEq, rowV, cmpV, getD_4, getD_5, t1], by simp only [RS, RT, RZ, tsc0, tz0, nq0, bs0, bn0, reduceLT, reduceLeDiff, reduceEqDiff, reduceMul, reduceAdd, reduceSub, reduceCtorEq, rowV, cmpV, getD_4, getD_5, t2], by simp only [RS, RT, RZ, tsc0, tz0, nq0, bs0, bn0, reduceLT, reduceLeDiff, reduceEqDiff, reduceMul, reduceAdd, reduceSub, reduceCtorEq, rowV, cmpV, getD_4, getD_5, t4]⟩, rfl, rfl, by omega, by omega, by omega, by omega, by omega, hI⟩
  · simp only [RS, RT, RZ, tsc0, tz0, nq0, bs0, bn0, reduceLT, reduceLeDiff, reduceEqDiff, reduceMul, reduceAdd, reduceSub, reduceCtorEq, hlen, hrn, hrow, idxX_row, lenX_row, Nat.zero_add, Nat.mul_one, splice_set, List.length_set, rowV, cmpV, l84_0, kd84_0, kd84_1, kd84_2, kd84_3, kd84_4, kd84_5, kd84_6, kd84_7, kd84_8, t0, t1, t2, t4, ti, tj, hc]
    exact ⟨i, j, cs, ⟨by simp only [RS, RT, RZ, tsc0, tz0, nq0, bs0, bn0, reduceLT, reduceLeDiff, reduceEqDiff, reduceMul, reduceAdd, reduceSub, reduceCtorEq, rowV, cmpV, getD_4, getD_5, t0], by simp only [RS, RT, RZ, tsc0, tz0, nq0, bs0, bn0, reduceLT, reduceLeDiff, reduceEqDiff, reduceMul, reduceAdd, reduceSub, reduceCtorEq, rowV, cmpV, getD_4, getD_5, t1], by simp only [RS, RT, RZ, tsc0, tz0, nq0, bs0, bn0, reduceLT, reduceLeDiff, reduceEqDiff, reduceMul, reduceAdd, reduceSub, reduceCtorEq, rowV, cmpV, getD_4, getD_5, t2], by simp only [RS, RT, RZ, tsc0, tz0, nq0, bs0, bn0, reduceLT, reduceLeDiff, reduceEqDiff, reduceMul, reduceAdd, reduceSub, reduceCtorEq, rowV, cmpV, getD_4, getD_5, t4]⟩, rfl, rfl, by omega, by omega, by omega, by omega, by omega, hI⟩
theorem p84_1 {a b i0 : Nat} (hb : b ≤ G.cs0.length) : ∀ (n : Nat) T st, (∃ (i j : Nat) (cs : List AV), QT G a b T ∧ T 12 = .int .i64 (i : Int) ∧ T 13 = .int .i64 (j : Int) ∧ i0 ≤ i ∧ a + 1 ≤ i ∧ i ≤ b ∧ a ≤ j ∧ j < b ∧ j + 1 < i + n ∧ SI G cs st) →
    Post 178 [] none (execY (callW Q) Q false 84 none (.loop l84_1) ⟨T, 178, [], none⟩ st) fun e T' st' => e = .exit 2 ∧ ∃ (i j : Nat) (cs : List AV), QT G a b T' ∧ T' 12 = .int .i64 (i : Int) ∧ T' 13 = .int .i64 (j : Int) ∧ i0 ≤ i ∧ a + 1 ≤ i ∧ i ≤ b ∧ a ≤ j ∧ j < b ∧ SI G cs st' := by
  refine post_loop fun n T st => ?_
  rintro ⟨i, j, cs, ⟨t0, t1, t2, t4⟩, ti, tj, hi0, hi1, hi2, hj1, hj2, hn, hI⟩
  obtain ⟨h, nx, lg⟩ := st
  have hsm := ok.small
  have hlen := hI.len
  have hrow := hI.row
  have hrn : G.r < nx := Nat.lt_of_lt_of_le ok.rn hI.nx
  simp only [rowV, cmpV] at t0 t4 hrow
  by_cases hc : i ≤ j
  · have l1 : j < G.cs0.length := by omega
    have l2 : a < G.cs0.length := by omega
    obtain ⟨v, v1, v2, v3, v4, v5⟩ := hI.el ok l1
    obtain ⟨w, w1, w2, w3, w4, w5⟩ := hI.el ok l2
    obtain ⟨c, e1⟩ := hI.cmp ok v5 w5
    have hw1 := wrapN (z := (j : Int) - 1) (n := j - 1) (by omega) (by omega)
    cases g : decide (c < 0) with
    | false =>
      simp only [RS, RT, RZ, tsc0, tz0, nq0, bs0, bn0, reduceLT, reduceLeDiff, reduceEqDiff, reduceMul, reduceAdd, reduceSub, reduceCtorEq, hlen, hrn, hrow, idxX_row, lenX_row, Nat.zero_add, Nat.mul_one, splice_set, List.length_set, rowV, cmpV, l84_1, kd84_0, kd84_1, kd84_2, kd84_3, kd84_4, kd84_5, kd84_6, kd84_7, kd84_8, t0, t1, t2, t4, ti, tj, hc, l1, l2, v1, w1, e1, g, hw1]
      first
        | exact ⟨n - 1, by omega, i, j - 1, cs, ⟨by simp only [RS, RT, RZ, tsc0, tz0, nq0, bs0, bn0, reduceLT, reduceLeDiff, reduceEqDiff, reduceMul, reduceAdd, reduceSub, reduceCtorEq, rowV, cmpV, getD_4, getD_5, t0], by simp only [RS, RT, RZ, tsc0, tz0, nq0, bs0, bn0, reduceLT, reduceLeDiff, reduceEqDiff, reduceMul, reduceAdd, reduceSub, reduceCtorEq, rowV, cmpV, getD_4, getD_5, t1], by simp only [RS, RT, RZ, tsc0, tz0, nq0, bs0, bn0, reduceLT, reduceLeDiff, reduceEqDiff, reduceMul, reduceAdd, reduceSub, reduceCtorEq, rowV, cmpV, getD_4, getD_5, t2], by simp only [RS, RT, RZ, tsc0, tz0, nq0, bs0, bn0, reduceLT, reduceLeDiff, reduceEqDiff, reduceMul, reduceAdd, reduceSub, reduceCtorEq, rowV, cmpV, getD_4, getD_5, t4]⟩, rfl, rfl, by omega, by omega, by omega, by omega, by omega, by omega, hI⟩
        | exact ⟨i, j, cs, ⟨by simp only [RS, RT, RZ, tsc0, tz0, nq0, bs0, bn0, reduceLT, reduceLeDiff, reduceEqDiff, reduceMul, reduceAdd, reduceSub, reduceCtorEq, rowV, cmpV, getD_4, getD_5, t0], by simp only [RS, RT, RZ, tsc0, tz0, nq0, bs0, bn0, reduceLT, reduceLeDiff, reduceEqDiff, reduceMul, reduceAdd, reduceSub, reduceCtorEq, rowV, cmpV, getD_4, getD_5, t1], by simp only [RS, RT, RZ, tsc0, tz0, nq0, bs0, bn0, reduceLT, reduceLeDiff, reduceEqDiff, reduceMul, reduceAdd, reduceSub, reduceCtorEq, rowV, cmpV, getD_4, getD_5, t2], by simp only [RS, RT, RZ, tsc0, tz0, nq0, bs0, bn0, reduceLT, reduceLeDiff, reduceEqDiff, reduceMul, reduceAdd, reduceSub, reduceCtorEq, rowV, cmpV, getD_4, getD_5, t4]⟩, rfl, rfl, by omega, by omega, by omega, by omega, by omega, hI⟩
    | true =>
      simp only [RS, RT, RZ, tsc0, tz0, nq0, bs0, bn0, reduceLT, reduceLeDiff, reduceEqDiff, reduceMul, reduceAdd, reduceSub, reduceCtorEq, hlen, hrn, hrow, idxX_row, lenX_row, Nat.zero_add, Nat.mul_one, splice_set, List.length_set, rowV, cmpV, l84_1, kd84_0, kd84_1, kd84_2, kd84_3, kd84_4, kd84_5, kd84_6, kd84_7, kd84_8, t0, t1, t2, t4, ti, tj, hc, l1, l2, v1, w1, e1, g, hw1]
      first
        | exact ⟨n - 1, by omega, i, j - 1, cs, ⟨by simp only [RS, RT, RZ, tsc0, tz0, nq0, bs0, bn0, reduceLT, reduceLeDiff, reduceEqDiff, reduceMul, reduceAdd, reduceSub, reduceCtorEq, rowV, cmpV, getD_4, getD_5, t0], by simp only [RS, RT, RZ, tsc0, tz0, nq0, bs0, bn0, reduceLT, reduceLeDiff, reduceEqDiff, reduceMul, reduceAdd, reduceSub, reduceCtorEq, rowV, cmpV, getD_4, getD_5, t1], by simp only [RS, RT, RZ, tsc0, tz0, nq0, bs0, bn0, reduceLT, reduceLeDiff, reduceEqDiff, reduceMul, reduceAdd, reduceSub, reduceCtorEq, rowV, cmpV, getD_4, getD_5, t2], by simp only [RS, RT, RZ, tsc0, tz0, nq0, bs0, bn0, reduceLT, reduceLeDiff, reduceEqDiff, reduceMul, reduceAdd, reduceSub, reduceCtorEq, rowV, cmpV, getD_4, getD_5, t4]⟩, rfl, rfl, by omega, by omega, by omega, by omega, by omega, by omega, hI⟩
        | exact ⟨i, j, cs, ⟨by simp only [RS, RT, RZ, tsc0, tz0, nq0, bs0, bn0, reduceLT, reduceLeDiff, reduceEqDiff, reduceMul, reduceAdd, reduceSub, reduceCtorEq, rowV, cmpV, getD_4, getD_5, t0], by simp only [RS, RT, RZ, tsc0, tz0, nq0, bs0, bn0, reduceLT, reduceLeDiff, reduceEqDiff, reduceMul, reduceAdd, reduceSub, reduceCtorEq, rowV, cmpV, getD_4, getD_5, t1], by simp only [RS, RT, RZ, tsc0, tz0, nq0, bs0, bn0, reduceLT, reduceLeDiff, reduceEqDiff, reduceMul, reduceAdd, reduceSub, reduceCtorEq, rowV, cmpV, getD_4, getD_5, t2], by simp only [RS, RT, RZ, tsc0, tz0, nq0, bs0, bn0, reduceLT, reduceLeDiff, reduceEqDiff, reduceMul, reduceAdd, reduceSub, reduceCtorEq, rowV, cmpV, getD_4, getD_5, t4]⟩, rfl, rfl, by omega, by omega, by omega, by omega, by omega, hI⟩
  · simp only [RS, RT, RZ, tsc0, tz0, nq0, bs0, bn0, reduceLT, reduceLeDiff, reduceEqDiff, reduceMul, reduceAdd, reduceSub, reduceCtorEq, hlen, hrn, hrow, idxX_row, lenX_row, Nat.zero_add, Nat.mul_one, splice_set, List.length_set, rowV, cmpV, l84_1, kd84_0, kd84_1, kd84_2, kd84_3, kd84_4, kd84_5, kd84_6, kd84_7, kd84_8, t0, t1, t2, t4, ti, tj, hc]
    exact ⟨i, j, cs, ⟨by simp only [RS, RT, RZ, tsc0, tz0, nq0, bs0, bn0, reduceLT, reduceLeDiff, reduceEqDiff, reduceMul, reduceAdd, reduceSub, reduceCtorEq, rowV, cmpV, getD_4, getD_5, t0], by simp only [RS, RT, RZ, tsc0, tz0, nq0, bs0, bn0, reduceLT, reduceLeDiff, reduceEqDiff, reduceMul, reduceAdd, reduceSub, reduceCtorEq, rowV, cmpV, getD_4, getD_5, t1], by simp only [RS, RT, RZ, tsc0, tz0, nq0, bs0, bn0, reduceLT, reduceLeDiff, reduceEqDiff, reduceMul, reduceAdd, reduceSub, reduceCtorEq, rowV, cmpV, getD_4, getD_5, t2], by simp only [RS, RT, RZ, tsc0, tz0, nq0, bs0, bn0, reduceLT, reduceLeDiff, reduceEqDiff, reduceMul, reduceAdd, reduceSub, reduceCtorEq, rowV, cmpV, getD_4, getD_5, t4]⟩, rfl, rfl, by omega, by omega, by omega, by omega, by omega, hI⟩
theorem p84_2 {a b i0 : Nat} (hb : b ≤ G.cs0.length) : ∀ (n : Nat) T st, (∃ (i j : Nat) (cs : List AV), QT G a b T ∧ T 12 = .int .i64 (i : Int) ∧ T 13 = .int .i64 (j : Int) ∧ i0 ≤ i ∧ a + 1 ≤ i ∧ i ≤ b ∧ a ≤ j ∧ j < b ∧ j + 1 < i + n ∧ SI G cs st) →
    Post 178 [] none (execY (callW Q) Q false 84 none (.loop l84_2) ⟨T, 178, [], none⟩ st) fun e T' st' => e = .exit 6 ∧ ∃ (i j : Nat) (cs : List AV), QT G a b T' ∧ T' 12 = .int .i64 (i : Int) ∧ T' 13 = .int .i64 (j : Int) ∧ i0 ≤ i ∧ a + 1 ≤ i ∧ i ≤ b ∧ a ≤ j ∧ j < b ∧ SI G cs st' := by
  refine post_loop fun n T st => ?_
  rintro ⟨i, j, cs, ⟨t0, t1, t2, t4⟩, ti, tj, hi0, hi1, hi2, hj1, hj2, hn, hI⟩
  obtain ⟨h, nx, lg⟩ := st
  have hsm := ok.small
  have hlen := hI.len
  have hrow := hI.row
  have hrn : G.r < nx := Nat.lt_of_lt_of_le ok.rn hI.nx
  simp only [rowV, cmpV] at t0 t4 hrow
  by_cases hc : i ≤ j
  · have l1 : i < G.cs0.length := by omega
    have l2 : a < G.cs0.length := by omega
    obtain ⟨v, v1, v2, v3, v4, v5⟩ := hI.el ok l1
    obtain ⟨w, w1, w2, w3, w4, w5⟩ := hI.el ok l2
    obtain ⟨c, e1⟩ := hI.cmp ok v5 w5
    have hw1 := wrapN (z := (i : Int) + 1) (n := i + 1) (by omega) (by omega)
    cases g : decide (c < 0) with
    | false =>
      simp only [RS, RT, RZ, tsc0, tz0, nq0, bs0, bn0, reduceLT, reduceLeDiff, reduceEqDiff, reduceMul, reduceAdd, reduceSub, reduceCtorEq, hlen, hrn, hrow, idxX_row, lenX_row, Nat.zero_add, Nat.mul_one, splice_set, List.length_set, rowV, cmpV, l84_2, kd84_0, kd84_1, kd84_2, kd84_3, kd84_4, kd84_5, kd84_6, kd84_7, kd84_8, t0, t1, t2, t4, ti, tj, hc, l1, l2, v1, w1, e1, g, hw1]
      first
        | exact ⟨n - 1, by omega, i + 1, j, cs, ⟨by simp only [RS, RT, RZ, tsc0, tz0, nq0, bs0, bn0, reduceLT, reduceLeDiff, reduceEqDiff, reduceMul, reduceAdd, reduceSub, reduceCtorEq, rowV, cmpV, getD_4, getD_5, t0], by simp only [RS, RT, RZ, tsc0, tz0, nq0, bs0, bn0, reduceLT, reduceLeDiff, reduceEqDiff, reduceMul, reduceAdd, reduceSub, reduceCtorEq, rowV, cmpV, getD_4, getD_5, t1], by simp only [RS, RT, RZ, tsc0, tz0, nq0, bs0, bn0, reduceLT, reduceLeDiff, reduceEqDiff, reduceMul, reduceAdd, reduceSub, reduceCtorEq, rowV, cmpV, getD_4, getD_5, t2], by simp only [RS, RT, RZ, tsc0, tz0, nq0, bs0, bn0, reduceLT, reduceLeDiff, reduceEqDiff, reduceMul, reduceAdd, reduceSub, reduceCtorEq, rowV, cmpV, getD_4, getD_5, t4]⟩, rfl, rfl, by omega, by omega, by omega, by omega, by omega, by omega, hI⟩
        | exact ⟨i, j, cs, ⟨by simp only [RS, RT, RZ, tsc0, tz0, nq0, bs0, bn0, reduceLT, reduceLeDiff, reduceEqDiff, reduceMul, reduceAdd, reduceSub, reduceCtorEq, rowV, cmpV, getD_4, getD_5, t0], by simp only [RS, RT, RZ, tsc0, tz0, nq0, bs0, bn0, reduceLT, reduceLeDiff, reduceEqDiff, reduceMul, reduceAdd, reduceSub, reduceCtorEq, rowV, cmpV, getD_4, getD_5, t1], by simp only [RS, RT, RZ, tsc0, tz0, nq0, bs0, bn0, reduceLT, reduceLeDiff, reduceEqDiff, reduceMul, reduceAdd, reduceSub, reduceCtorEq, rowV, cmpV, getD_4, getD_5, t2], by simp only [RS, RT, RZ, tsc0, tz0, nq0, bs0, bn0, reduceLT, reduceLeDiff, reduceEqDiff, reduceMul, reduceAdd, reduceSub, reduceCtorEq, rowV, cmpV, getD_4, getD_5, t4]⟩, rfl, rfl, by omega, by omega, by omega, by omega, by omega, hI⟩
    | true =>
      simp only [RS, RT, RZ, tsc0, tz0, nq0, bs0, bn0, reduceLT, reduceLeDiff, reduceEqDiff, reduceMul, reduceAdd, reduceSub, reduceCtorEq, hlen, hrn, hrow, idxX_row, lenX_row, Nat.zero_add, Nat.mul_one, splice_set, List.length_set, rowV, cmpV, l84_2, kd84_0, kd84_1, kd84_2, kd84_3, kd84_4, kd84_5, kd84_6, kd84_7, kd84_8, t0, t1, t2, t4, ti, tj, hc, l1, l2, v1, w1, e1, g, hw1]
      first
        | exact ⟨n - 1, by omega, i + 1, j, cs, ⟨by simp only [RS, RT, RZ, tsc0, tz0, nq0, bs0, bn0, reduceLT, reduceLeDiff, reduceEqDiff, reduceMul, reduceAdd, reduceSub, reduceCtorEq, rowV, cmpV, getD_4, getD_5, t0], by simp only [RS, RT, RZ, tsc0, tz0, nq0, bs0, bn0, reduceLT, reduceLeDiff, reduceEqDiff, reduceMul, reduceAdd, reduceSub, reduceCtorEq, rowV, cmpV, getD_4, getD_5, t1], by simp only [RS, RT, RZ, tsc0, tz0, nq0, bs0, bn0, reduceLT, reduceLeDiff, reduceEqDiff, reduceMul, reduceAdd, reduceSub, reduceCtorEq, rowV, cmpV, getD_4, getD_5, t2], by simp only [RS, RT, RZ, tsc0, tz0, nq0, bs0, bn0, reduceLT, reduceLeDiff, reduceEqDiff, reduceMul, reduceAdd, reduceSub, reduceCtorEq, rowV, cmpV, getD_4, getD_5, t4]⟩, rfl, rfl, by omega, by omega, by omega, by omega, by omega, by omega, hI⟩
        | exact ⟨i, j, cs, ⟨by simp only [RS, RT, RZ, tsc0, tz0, nq0, bs0, bn0, reduceLT, reduceLeDiff, reduceEqDiff, reduceMul, reduceAdd, reduceSub, reduceCtorEq, rowV, cmpV, getD_4, getD_5, t0], by simp only [RS, RT, RZ, tsc0, tz0, nq0, bs0, bn0, reduceLT, reduceLeDiff, reduceEqDiff, reduceMul, reduceAdd, reduceSub, reduceCtorEq, rowV, cmpV, getD_4, getD_5, t1], by simp only [RS, RT, RZ, tsc0, tz0, nq0, bs0, bn0, reduceLT, reduceLeDiff, reduceEqDiff, reduceMul, reduceAdd, reduceSub, reduceCtorEq, rowV, cmpV, getD_4, getD_5, t2], by simp only [RS, RT, RZ, tsc0, tz0, nq0, bs0, bn0, reduceLT, reduceLeDiff, reduceEqDiff, reduceMul, reduceAdd, reduceSub, reduceCtorEq, rowV, cmpV, getD_4, getD_5, t4]⟩, rfl, rfl, by omega, by omega, by omega, by omega, by omega, hI⟩
  · simp only [RS, RT, RZ, tsc0, tz0, nq0, bs0, bn0, reduceLT, reduceLeDiff, reduceEqDiff, reduceMul, reduceAdd, reduceSub, reduceCtorEq, hlen, hrn, hrow, idxX_row, lenX_row, Nat.zero_add, Nat.mul_one, splice_set, List.length_set, rowV, cmpV, l84_2, kd84_0, kd84_1, kd84_2, kd84_3, kd84_4, kd84_5, kd84_6, kd84_7, kd84_8, t0, t1, t2, t4, ti, tj, hc]
    exact ⟨i, j, cs, ⟨by simp only [RS, RT, RZ, tsc0, tz0, nq0, bs0, bn0, reduceLT, reduceLeDiff, reduceEqDiff, reduceMul, reduceAdd, reduceSub, reduceCtorEq, rowV, cmpV, getD_4, getD_5, t0], by simp only [RS, RT, RZ, tsc0, tz0, nq0, bs0, bn0, reduceLT, reduceLeDiff, reduceEqDiff, reduceMul, reduceAdd, reduceSub, reduceCtorEq, rowV, cmpV, getD_4, getD_5, t1], by simp only [RS, RT, RZ, tsc0, tz0, nq0, bs0, bn0, reduceLT, reduceLeDiff, reduceEqDiff, reduceMul, reduceAdd, reduceSub, reduceCtorEq, rowV, cmpV, getD_4, getD_5, t2], by simp only [RS, RT, RZ, tsc0, tz0, nq0, bs0, bn0, reduceLT, reduceLeDiff, reduceEqDiff, reduceMul, reduceAdd, reduceSub, reduceCtorEq, rowV, cmpV, getD_4, getD_5, t4]⟩, rfl, rfl, by omega, by omega, by omega, by omega, by omega, hI⟩
theorem p84_3 {a b i0 : Nat} (hb : b ≤ G.cs0.length) : ∀ (n : Nat) T st, (∃ (i j : Nat) (cs : List AV), QT G a b T ∧ T 12 = .int .i64 (i : Int) ∧ T 13 = .int .i64 (j : Int) ∧ i0 ≤ i ∧ a + 1 ≤ i ∧ i ≤ b ∧ a ≤ j ∧ j < b ∧ j + 1 < i + n ∧ SI G cs st) →
    Post 178 [] none (execY (callW Q) Q false 84 none (.loop l84_3) ⟨T, 178, [], none⟩ st) fun e T' st' => e = .exit 8 ∧ ∃ (i j : Nat) (cs : List AV), QT G a b T' ∧ T' 12 = .int .i64 (i : Int) ∧ T' 13 = .int .i64 (j : Int) ∧ i0 ≤ i ∧ a + 1 ≤ i ∧ i ≤ b ∧ a ≤ j ∧ j < b ∧ SI G cs st' := by
  refine post_loop fun n T st => ?_
  rintro ⟨i, j, cs, ⟨t0, t1, t2, t4⟩, ti, tj, hi0, hi1, hi2, hj1, hj2, hn, hI⟩
  obtain ⟨h, nx, lg⟩ := st
  have hsm := ok.small
  have hlen := hI.len
  have hrow := hI.row
  have hrn : G.r < nx := Nat.lt_of_lt_of_le ok.rn hI.nx
  simp only [rowV, cmpV] at t0 t4 hrow
  by_cases hc : i ≤ j
  · have l1 : j < G.cs0.length := by omega
    have l2 : a < G.cs0.length := by omega
    obtain ⟨v, v1, v2, v3, v4, v5⟩ := hI.el ok l1
    obtain ⟨w, w1, w2, w3, w4, w5⟩ := hI.el ok l2
    obtain ⟨c, e1⟩ := hI.cmp ok v5 w5
    have hw1 := wrapN (z := (j : Int) - 1) (n := j - 1) (by omega) (by omega)
    cases g : decide (c < 0) with
    | false =>
      simp only [RS, RT, RZ, tsc0, tz0, nq0, bs0, bn0, reduceLT, reduceLeDiff, reduceEqDiff, reduceMul, reduceAdd, reduceSub, reduceCtorEq, hlen, hrn, hrow, idxX_row, lenX_row, Nat.zero_add, Nat.mul_one, splice_set, List.length_set, rowV, cmpV, l84_3, kd84_0, kd84_1, kd84_2, kd84_3, kd84_4, kd84_5, kd84_6, kd84_7, kd84_8, t0, t1, t2, t4, ti, tj, hc, l1, l2, v1, w1, e1, g, hw1]
      first
        | exact ⟨n - 1, by omega, i, j - 1, cs, ⟨by simp only [RS, RT, RZ, tsc0, tz0, nq0, bs0, bn0, reduceLT, reduceLeDiff, reduceEqDiff, reduceMul, reduceAdd, reduceSub, reduceCtorEq, rowV, cmpV, getD_4, getD_5, t0], by simp only [RS, RT, RZ, tsc0, tz0, nq0, bs0, bn0, reduceLT, reduceLeDiff, reduceEqDiff, reduceMul, reduceAdd, reduceSub, reduceCtorEq, rowV, cmpV, getD_4, getD_5, t1], by simp only [RS, RT, RZ, tsc0, tz0, nq0, bs0, bn0, reduceLT, reduceLeDiff, reduceEqDiff, reduceMul, reduceAdd, reduceSub, reduceCtorEq, rowV, cmpV, getD_4, getD_5, t2], by simp only [RS, RT, RZ, tsc0, tz0, nq0, bs0, bn0, reduceLT, reduceLeDiff, reduceEqDiff, reduceMul, reduceAdd, reduceSub, reduceCtorEq, rowV, cmpV, getD_4, getD_5, t4]⟩, rfl, rfl, by omega, by omega, by omega, by omega, by omega, by omega, hI⟩
        | exact ⟨i, j, cs, ⟨by simp only [RS, RT, RZ, tsc0, tz0, nq0, bs0, bn0, reduceLT, reduceLeDiff, reduceEqDiff, reduceMul, reduceAdd, reduceSub, reduceCtorEq, rowV, cmpV, getD_4, getD_5, t0], by simp only [RS, RT, RZ, tsc0, tz0, nq0, bs0, bn0, reduceLT, reduceLeDiff, reduceEqDiff, reduceMul, reduceAdd, reduceSub, reduceCtorEq, rowV, cmpV, getD_4, getD_5, t1], by simp only [RS, RT, RZ, tsc0, tz0, nq0, bs0, bn0, reduceLT, reduceLeDiff, reduceEqDiff, reduceMul, reduceAdd, reduceSub, reduceCtorEq, rowV, cmpV, getD_4, getD_5, t2], by simp only [RS, RT, RZ, tsc0, tz0, nq0, bs0, bn0, reduceLT, reduceLeDiff, reduceEqDiff, reduceMul, reduceAdd, reduceSub, reduceCtorEq, rowV, cmpV, getD_4, getD_5, t4]⟩, rfl, rfl, by omega, by omega, by omega, by omega, by omega, hI⟩
    | true =>
      simp only [RS, RT, RZ, tsc0, tz0, nq0, bs0, bn0, reduceLT, reduceLeDiff, reduceEqDiff, reduceMul, reduceAdd, reduceSub, reduceCtorEq, hlen, hrn, hrow, idxX_row, lenX_row, Nat.zero_add, Nat.mul_one, splice_set, List.length_set, rowV, cmpV, l84_3, kd84_0, kd84_1, kd84_2, kd84_3, kd84_4, kd84_5, kd84_6, kd84_7, kd84_8, t0, t1, t2, t4, ti, tj, hc, l1, l2, v1, w1, e1, g, hw1]
      first
        | exact ⟨n - 1, by omega, i, j - 1, cs, ⟨by simp only [RS, RT, RZ, tsc0, tz0, nq0, bs0, bn0, reduceLT, reduceLeDiff, reduceEqDiff, reduceMul, reduceAdd, reduceSub, reduceCtorEq, rowV, cmpV, getD_4, getD_5, t0], by simp only [RS, RT, RZ, tsc0, tz0, nq0, bs0, bn0, reduceLT, reduceLeDiff, reduceEqDiff, reduceMul, reduceAdd, reduceSub, reduceCtorEq, rowV, cmpV, getD_4, getD_5, t1], by simp only [RS, RT, RZ, tsc0, tz0, nq0, bs0, bn0, reduceLT, reduceLeDiff, reduceEqDiff, reduceMul, reduceAdd, reduceSub, reduceCtorEq, rowV, cmpV, getD_4, getD_5, t2], by simp only [RS, RT, RZ, tsc0, tz0, nq0, bs0, bn0, reduceLT, reduceLeDiff, reduceEqDiff, reduceMul, reduceAdd, reduceSub, reduceCtorEq, rowV, cmpV, getD_4, getD_5, t4]⟩, rfl, rfl, by omega, by omega, by omega, by omega, by omega, by omega, hI⟩
        | exact ⟨i, j, cs, ⟨by simp only [RS, RT, RZ, tsc0, tz0, nq0, bs0, bn0, reduceLT, reduceLeDiff, reduceEqDiff, reduceMul, reduceAdd, reduceSub, reduceCtorEq, rowV, cmpV, getD_4, getD_5, t0], by simp only [RS, RT, RZ, tsc0, tz0, nq0, bs0, bn0, reduceLT, reduceLeDiff, reduceEqDiff, reduceMul, reduceAdd, reduceSub, reduceCtorEq, rowV, cmpV, getD_4, getD_5, t1], by simp only [RS, RT, RZ, tsc0, tz0, nq0, bs0, bn0, reduceLT, reduceLeDiff, reduceEqDiff, reduceMul, reduceAdd, reduceSub, reduceCtorEq, rowV, cmpV, getD_4, getD_5, t2], by simp only [RS, RT, RZ, tsc0, tz0, nq0, bs0, bn0, reduceLT, reduceLeDiff, reduceEqDiff, reduceMul, reduceAdd, reduceSub, reduceCtorEq, rowV, cmpV, getD_4, getD_5, t4]⟩, rfl, rfl, by omega, by omega, by omega, by omega, by omega, hI⟩
  · simp only [RS, RT, RZ, tsc0, tz0, nq0, bs0, bn0, reduceLT, reduceLeDiff, reduceEqDiff, reduceMul, reduceAdd, reduceSub, reduceCtorEq, hlen, hrn, hrow, idxX_row, lenX_row, Nat.zero_add, Nat.mul_one, splice_set, List.length_set, rowV, cmpV, l84_3, kd84_0, kd84_1, kd84_2, kd84_3, kd84_4, kd84_5, kd84_6, kd84_7, kd84_8, t0, t1, t2, t4, ti, tj, hc]
    exact ⟨i, j, cs, ⟨by simp only [RS, RT, RZ, tsc0, tz0, nq0, bs0, bn0, reduceLT, reduceLeDiff, reduceEqDiff, reduceMul, reduceAdd, reduceSub, reduceCtorEq, rowV, cmpV, getD_4, getD_5, t0], by simp only [RS, RT, RZ, tsc0, tz0, nq0, bs0, bn0, reduceLT, reduceLeDiff, reduceEqDiff, reduceMul, reduceAdd, reduceSub, reduceCtorEq, rowV, cmpV, getD_4, getD_5, t1], by simp only [RS, RT, RZ, tsc0, tz0, nq0, bs0, bn0, reduceLT, reduceLeDiff, reduceEqDiff, reduceMul, reduceAdd, reduceSub, reduceCtorEq, rowV, cmpV, getD_4, getD_5, t2], by simp only [RS, RT, RZ, tsc0, tz0, nq0, bs0, bn0, reduceLT, reduceLeDiff, reduceEqDiff, reduceMul, reduceAdd, reduceSub, reduceCtorEq, rowV, cmpV, getD_4, getD_5, t4]⟩, rfl, rfl, by omega, by omega, by omega, by omega, by omega, hI⟩
end
end Go.Proofs.P31

namespace Go.Proofs.P31
open Go Go.AE
open Nat (reduceLT reduceLeDiff reduceEqDiff reduceMul reduceAdd reduceSub)
set_option maxHeartbeats 8000000
variable {G : Srt} {Q : Ctx} {cs : List AV}
section
variable (hK : K Q) (ok : G.OK Q)
include hK ok
theorem p83_2 {a b : Nat} (hb : b ≤ G.cs0.length) : ∀ (n : Nat) T st, (∃ (i j : Nat) (cs : List AV), QT G a b T ∧ T 11 = .int .i64 (i : Int) ∧ T 12 = .int .i64 (j : Int) ∧ a + 1 ≤ i ∧ i ≤ b ∧ a ≤ j ∧ j < b ∧ b < i + n ∧ SI G cs st) →
    Post 90 [] none (execY (callW Q) Q false 83 none (.loop l83_2) ⟨T, 90, [], none⟩ st) fun e T' st' => e = .exit 0 ∧ ∃ (i j : Nat) (cs : List AV), QT G a b T' ∧ T' 11 = .int .i64 (i : Int) ∧ T' 12 = .int .i64 (j : Int) ∧ a + 1 ≤ i ∧ i ≤ b ∧ a ≤ j ∧ j < b ∧ SI G cs st' := by
  refine post_loop fun n T st => ?_
  rintro ⟨i, j, cs, ⟨t0, t1, t2, t4⟩, ti, tj, hi1, hi2, hj1, hj2, hn, hI⟩
  have hsm := ok.small
  simp only [RS, RT, RZ, tsc0, tz0, nq0, bs0, bn0, reduceLT, reduceLeDiff, reduceEqDiff, reduceMul, reduceAdd, reduceSub, reduceCtorEq, rowV, cmpV, getD_4, getD_5, l83_2, kd83_0, kd83_1, kd83_2, kd83_3]
  refine post_bind (p83_0 hK ok (a := a) (b := b) (i0 := i) hb (j + 2) _ _ ⟨i, j, cs, ⟨t0, t1, t2, t4⟩, ti, tj, Nat.le_refl _, hi1, hi2, hj1, hj2, by omega, hI⟩) ?_
  rintro e T' st1 ⟨rfl, i1, j1, cs1, ⟨t0, t1, t2, t4⟩, ti, tj, hm1, hi3, hi4, hj3, hj4, hI1⟩
  simp only [RS, RT, RZ, tsc0, tz0, nq0, bs0, bn0, reduceLT, reduceLeDiff, reduceEqDiff, reduceMul, reduceAdd, reduceSub, reduceCtorEq, rowV, cmpV, getD_4, getD_5, ]
  refine post_bind (p83_1 hK ok (a := a) (b := b) (i0 := i) hb (j1 + 2) _ _ ⟨i1, j1, cs1, ⟨t0, t1, t2, t4⟩, ti, tj, hm1, hi3, hi4, hj3, hj4, by omega, hI1⟩) ?_
  rintro e T' st2 ⟨rfl, i2, j2, cs2, ⟨t0, t1, t2, t4⟩, ti, tj, hm2, hi5, hi6, hj5, hj6, hI2⟩
  obtain ⟨h, nx, lg⟩ := st2
  have hlen := hI2.len
  have hrow := hI2.row
  have hrn : G.r < nx := Nat.lt_of_lt_of_le ok.rn hI2.nx
  simp only [rowV, cmpV] at t0 t4 hrow
  by_cases hc : j2 < i2
  · simp only [RS, RT, RZ, tsc0, tz0, nq0, bs0, bn0, reduceLT, reduceLeDiff, reduceEqDiff, reduceMul, reduceAdd, reduceSub, reduceCtorEq, hlen, hrn, hrow, idxX_row, lenX_row, Nat.zero_add, Nat.mul_one, splice_set, List.length_set, rowV, cmpV, t0, t1, t2, t4, ti, tj, hc]
    exact ⟨i2, j2, cs2, ⟨by simp only [RS, RT, RZ, tsc0, tz0, nq0, bs0, bn0, reduceLT, reduceLeDiff, reduceEqDiff, reduceMul, reduceAdd, reduceSub, reduceCtorEq, rowV, cmpV, getD_4, getD_5, t0], by simp only [RS, RT, RZ, tsc0, tz0, nq0, bs0, bn0, reduceLT, reduceLeDiff, reduceEqDiff, reduceMul, reduceAdd, reduceSub, reduceCtorEq, rowV, cmpV, getD_4, getD_5, t1], by simp only [RS, RT, RZ, tsc0, tz0, nq0, bs0, bn0, reduceLT, reduceLeDiff, reduceEqDiff, reduceMul, reduceAdd, reduceSub, reduceCtorEq, rowV, cmpV, getD_4, getD_5, t2], by simp only [RS, RT, RZ, tsc0, tz0, nq0, bs0, bn0, reduceLT, reduceLeDiff, reduceEqDiff, reduceMul, reduceAdd, reduceSub, reduceCtorEq, rowV, cmpV, getD_4, getD_5, t4]⟩, rfl, rfl, by omega, by omega, by omega, by omega, hI2⟩
  · have l1 : i2 < G.cs0.length := by omega
    have l2 : j2 < G.cs0.length := by omega
    obtain ⟨v, v1, v2, v3, v4, v5⟩ := hI2.el ok l1
    obtain ⟨w, w1, w2, w3, w4, w5⟩ := hI2.el ok l2
    have hw1 := wrapN (z := (i2 : Int) + 1) (n := i2 + 1) (by omega) (by omega)
    have hw2 := wrapN (z := (j2 : Int) - 1) (n := j2 - 1) (by omega) (by omega)
    simp only [RS, RT, RZ, tsc0, tz0, nq0, bs0, bn0, reduceLT, reduceLeDiff, reduceEqDiff, reduceMul, reduceAdd, reduceSub, reduceCtorEq, hlen, hrn, hrow, idxX_row, lenX_row, Nat.zero_add, Nat.mul_one, splice_set, List.length_set, rowV, cmpV, kd83_0, kd83_1, kd83_2, kd83_3, t0, t1, t2, t4, ti, tj, hc, l1, l2, v1, v2, v3, v4, w1, w2, w3, w4, hw1, hw2]
    exact ⟨n - 1, by omega, i2 + 1, j2 - 1, _, ⟨by simp only [RS, RT, RZ, tsc0, tz0, nq0, bs0, bn0, reduceLT, reduceLeDiff, reduceEqDiff, reduceMul, reduceAdd, reduceSub, reduceCtorEq, rowV, cmpV, getD_4, getD_5, t0], by simp only [RS, RT, RZ, tsc0, tz0, nq0, bs0, bn0, reduceLT, reduceLeDiff, reduceEqDiff, reduceMul, reduceAdd, reduceSub, reduceCtorEq, rowV, cmpV, getD_4, getD_5, t1], by simp only [RS, RT, RZ, tsc0, tz0, nq0, bs0, bn0, reduceLT, reduceLeDiff, reduceEqDiff, reduceMul, reduceAdd, reduceSub, reduceCtorEq, rowV, cmpV, getD_4, getD_5, t2], by simp only [RS, RT, RZ, tsc0, tz0, nq0, bs0, bn0, reduceLT, reduceLeDiff, reduceEqDiff, reduceMul, reduceAdd, reduceSub, reduceCtorEq, rowV, cmpV, getD_4, getD_5, t4]⟩, rfl, rfl, by omega, by omega, by omega, by omega, by omega, hI2.swap v1 w1⟩
theorem p84_4 {a b : Nat} (hb : b ≤ G.cs0.length) : ∀ (n : Nat) T st, (∃ (i j : Nat) (cs : List AV), QT G a b T ∧ T 12 = .int .i64 (i : Int) ∧ T 13 = .int .i64 (j : Int) ∧ a + 1 ≤ i ∧ i ≤ b ∧ a ≤ j ∧ j < b ∧ b < i + n ∧ SI G cs st) →
    Post 178 [] none (execY (callW Q) Q false 84 none (.loop l84_4) ⟨T, 178, [], none⟩ st) fun e T' st' => e = .exit 4 ∧ ∃ (i j : Nat) (cs : List AV), QT G a b T' ∧ T' 12 = .int .i64 (i : Int) ∧ T' 13 = .int .i64 (j : Int) ∧ a + 1 ≤ i ∧ i ≤ b ∧ a ≤ j ∧ j < b ∧ SI G cs st' := by
  refine post_loop fun n T st => ?_
  rintro ⟨i, j, cs, ⟨t0, t1, t2, t4⟩, ti, tj, hi1, hi2, hj1, hj2, hn, hI⟩
  have hsm := ok.small
  simp only [RS, RT, RZ, tsc0, tz0, nq0, bs0, bn0, reduceLT, reduceLeDiff, reduceEqDiff, reduceMul, reduceAdd, reduceSub, reduceCtorEq, rowV, cmpV, getD_4, getD_5, l84_4, kd84_0, kd84_1, kd84_2, kd84_3, kd84_4, kd84_5, kd84_6, kd84_7, kd84_8]
  refine post_bind (p84_2 hK ok (a := a) (b := b) (i0 := i) hb (j + 2) _ _ ⟨i, j, cs, ⟨t0, t1, t2, t4⟩, ti, tj, Nat.le_refl _, hi1, hi2, hj1, hj2, by omega, hI⟩) ?_
  rintro e T' st1 ⟨rfl, i1, j1, cs1, ⟨t0, t1, t2, t4⟩, ti, tj, hm1, hi3, hi4, hj3, hj4, hI1⟩
  simp only [RS, RT, RZ, tsc0, tz0, nq0, bs0, bn0, reduceLT, reduceLeDiff, reduceEqDiff, reduceMul, reduceAdd, reduceSub, reduceCtorEq, rowV, cmpV, getD_4, getD_5, ]
  refine post_bind (p84_3 hK ok (a := a) (b := b) (i0 := i) hb (j1 + 2) _ _ ⟨i1, j1, cs1, ⟨t0, t1, t2, t4⟩, ti, tj, hm1, hi3, hi4, hj3, hj4, by omega, hI1⟩) ?_
  rintro e T' st2 ⟨rfl, i2, j2, cs2, ⟨t0, t1, t2, t4⟩, ti, tj, hm2, hi5, hi6, hj5, hj6, hI2⟩
  obtain ⟨h, nx, lg⟩ := st2
  have hlen := hI2.len
  have hrow := hI2.row
  have hrn : G.r < nx := Nat.lt_of_lt_of_le ok.rn hI2.nx
  simp only [rowV, cmpV] at t0 t4 hrow
  by_cases hc : j2 < i2
  · simp only [RS, RT, RZ, tsc0, tz0, nq0, bs0, bn0, reduceLT, reduceLeDiff, reduceEqDiff, reduceMul, reduceAdd, reduceSub, reduceCtorEq, hlen, hrn, hrow, idxX_row, lenX_row, Nat.zero_add, Nat.mul_one, splice_set, List.length_set, rowV, cmpV, t0, t1, t2, t4, ti, tj, hc]
    exact ⟨i2, j2, cs2, ⟨by simp only [RS, RT, RZ, tsc0, tz0, nq0, bs0, bn0, reduceLT, reduceLeDiff, reduceEqDiff, reduceMul, reduceAdd, reduceSub, reduceCtorEq, rowV, cmpV, getD_4, getD_5, t0], by simp only [RS, RT, RZ, tsc0, tz0, nq0, bs0, bn0, reduceLT, reduceLeDiff, reduceEqDiff, reduceMul, reduceAdd, reduceSub, reduceCtorEq, rowV, cmpV, getD_4, getD_5, t1], by simp only [RS, RT, RZ, tsc0, tz0, nq0, bs0, bn0, reduceLT, reduceLeDiff, reduceEqDiff, reduceMul, reduceAdd, reduceSub, reduceCtorEq, rowV, cmpV, getD_4, getD_5, t2], by simp only [RS, RT, RZ, tsc0, tz0, nq0, bs0, bn0, reduceLT, reduceLeDiff, reduceEqDiff, reduceMul, reduceAdd, reduceSub, reduceCtorEq, rowV, cmpV, getD_4, getD_5, t4]⟩, rfl, rfl, by omega, by omega, by omega, by omega, hI2⟩
  · have l1 : i2 < G.cs0.length := by omega
    have l2 : j2 < G.cs0.length := by omega
    obtain ⟨v, v1, v2, v3, v4, v5⟩ := hI2.el ok l1
    obtain ⟨w, w1, w2, w3, w4, w5⟩ := hI2.el ok l2
    have hw1 := wrapN (z := (i2 : Int) + 1) (n := i2 + 1) (by omega) (by omega)
    have hw2 := wrapN (z := (j2 : Int) - 1) (n := j2 - 1) (by omega) (by omega)
    simp only [RS, RT, RZ, tsc0, tz0, nq0, bs0, bn0, reduceLT, reduceLeDiff, reduceEqDiff, reduceMul, reduceAdd, reduceSub, reduceCtorEq, hlen, hrn, hrow, idxX_row, lenX_row, Nat.zero_add, Nat.mul_one, splice_set, List.length_set, rowV, cmpV, kd84_0, kd84_1, kd84_2, kd84_3, kd84_4, kd84_5, kd84_6, kd84_7, kd84_8, t0, t1, t2, t4, ti, tj, hc, l1, l2, v1, v2, v3, v4, w1, w2, w3, w4, hw1, hw2]
    exact ⟨n - 1, by omega, i2 + 1, j2 - 1, _, ⟨by simp only [RS, RT, RZ, tsc0, tz0, nq0, bs0, bn0, reduceLT, reduceLeDiff, reduceEqDiff, reduceMul, reduceAdd, reduceSub, reduceCtorEq, rowV, cmpV, getD_4, getD_5, t0], by simp only [RS, RT, RZ, tsc0, tz0, nq0, bs0, bn0, reduceLT, reduceLeDiff, reduceEqDiff, reduceMul, reduceAdd, reduceSub, reduceCtorEq, rowV, cmpV, getD_4, getD_5, t1], by simp only [RS, RT, RZ, tsc0, tz0, nq0, bs0, bn0, reduceLT, reduceLeDiff, reduceEqDiff, reduceMul, reduceAdd, reduceSub, reduceCtorEq, rowV, cmpV, getD_4, getD_5, t2], by simp only [RS, RT, RZ, tsc0, tz0, nq0, bs0, bn0, reduceLT, reduceLeDiff, reduceEqDiff, reduceMul, reduceAdd, reduceSub, reduceCtorEq, rowV, cmpV, getD_4, getD_5, t4]⟩, rfl, rfl, by omega, by omega, by omega, by omega, by omega, hI2.swap v1 w1⟩
end
end Go.Proofs.P31

namespace Go.Proofs.P31
open Go Go.AE
open Nat (reduceLT reduceLeDiff reduceEqDiff reduceMul reduceAdd reduceSub)
set_option maxHeartbeats 8000000
variable {G : Srt} {Q : Ctx} {cs : List AV}
section
variable (hK : K Q) (ok : G.OK Q)
include hK ok
theorem peq_c {a b p : Nat} (hab : a < b) (hp : a ≤ p ∧ p < b) (hb : b ≤ G.cs0.length) {st : St} {cs : List AV} (hI : SI G cs st) : ∃ v st' cs', callW Q (.fn 83) [rowV G, .int .i64 (a : Int), .int .i64 (b : Int), .int .i64 (p : Int), cmpV] .normal st = some (.ret v, st', none) ∧ (∃ i : Nat, v = .int .i64 (i : Int) ∧ a + 1 ≤ i ∧ i ≤ b) ∧ SI G cs' st' := by
  refine sort_end (N := 90) (ok83 hK) (hK.nx _ _ _ rfl) rfl hI ?_
  have hsm := ok.small
  have hI0 := hI.fresh
  obtain ⟨h, nx, lg⟩ := st
  have hlen := hI0.len
  have hrow := hI0.row
  have hrn : G.r < nx := Nat.lt_of_lt_of_le ok.rn hI0.nx
  simp only [rowV, cmpV] at hrow
  have l1 : a < G.cs0.length := by omega
  have l2 : p < G.cs0.length := by omega
  obtain ⟨v, v1, v2, v3, v4, v5⟩ := hI0.el ok l1
  obtain ⟨w, w1, w2, w3, w4, w5⟩ := hI0.el ok l2
  have hw1 := wrapN (z := (a : Int) + 1) (n := a + 1) (by omega) (by omega)
  have hw2 := wrapN (z := (b : Int) - 1) (n := b - 1) (by omega) (by omega)
  simp only [RS, RT, RZ, tsc0, tz0, nq0, bs0, bn0, reduceLT, reduceLeDiff, reduceEqDiff, reduceMul, reduceAdd, reduceSub, reduceCtorEq, hlen, hrn, hrow, idxX_row, lenX_row, Nat.zero_add, Nat.mul_one, splice_set, List.length_set, rowV, cmpV, x83, kd83_0, kd83_1, kd83_2, kd83_3, getD_4, l1, l2, v1, v2, v3, v4, w1, w2, w3, w4, hw1, hw2]
  refine post_bind (p83_2 hK ok (a := a) (b := b) hb (b + 1) _ _ ⟨a + 1, b - 1, _, ⟨by simp only [RS, RT, RZ, tsc0, tz0, nq0, bs0, bn0, reduceLT, reduceLeDiff, reduceEqDiff, reduceMul, reduceAdd, reduceSub, reduceCtorEq, rowV, cmpV, getD_4, getD_5, ], by simp only [RS, RT, RZ, tsc0, tz0, nq0, bs0, bn0, reduceLT, reduceLeDiff, reduceEqDiff, reduceMul, reduceAdd, reduceSub, reduceCtorEq, rowV, cmpV, getD_4, getD_5, ], by simp only [RS, RT, RZ, tsc0, tz0, nq0, bs0, bn0, reduceLT, reduceLeDiff, reduceEqDiff, reduceMul, reduceAdd, reduceSub, reduceCtorEq, rowV, cmpV, getD_4, getD_5, ], by simp only [RS, RT, RZ, tsc0, tz0, nq0, bs0, bn0, reduceLT, reduceLeDiff, reduceEqDiff, reduceMul, reduceAdd, reduceSub, reduceCtorEq, rowV, cmpV, getD_4, getD_5, ]⟩, ?_, ?_, by omega, by omega, by omega, by omega, by omega, hI0.swap v1 w1⟩) ?_
  · simp only [RS, RT, RZ, tsc0, tz0, nq0, bs0, bn0, reduceLT, reduceLeDiff, reduceEqDiff, reduceMul, reduceAdd, reduceSub, reduceCtorEq, rowV, cmpV, getD_4, getD_5, ]
  · simp only [RS, RT, RZ, tsc0, tz0, nq0, bs0, bn0, reduceLT, reduceLeDiff, reduceEqDiff, reduceMul, reduceAdd, reduceSub, reduceCtorEq, rowV, cmpV, getD_4, getD_5, ]
  rintro e T' st1 ⟨rfl, i, j, cs1, ⟨t0, t1, t2, t4⟩, ti, tj, hi1, hi2, hj1, hj2, hI1⟩
  simp only [RS, RT, RZ, tsc0, tz0, nq0, bs0, bn0, reduceLT, reduceLeDiff, reduceEqDiff, reduceMul, reduceAdd, reduceSub, reduceCtorEq, rowV, cmpV, getD_4, getD_5, F83, ti]
  exact ⟨_, rfl, ⟨i, rfl, hi1, hi2⟩, fun _ => rfl, rfl, _, hI1⟩
theorem part_c {a b p : Nat} (hab : a < b) (hp : a ≤ p ∧ p < b) (hb : b ≤ G.cs0.length) {st : St} {cs : List AV} (hI : SI G cs st) : ∃ v st' cs', callW Q (.fn 84) [rowV G, .int .i64 (a : Int), .int .i64 (b : Int), .int .i64 (p : Int), cmpV] .normal st = some (.ret v, st', none) ∧ (∃ (j : Nat) (r : Bool), v = .tuple [.int .i64 (j : Int), .bool r] ∧ a ≤ j ∧ j < b) ∧ SI G cs' st' := by
  refine sort_end (N := 178) (ok84 hK) (hK.nx _ _ _ rfl) rfl hI ?_
  have hsm := ok.small
  have hI0 := hI.fresh
  obtain ⟨h, nx, lg⟩ := st
  have hlen := hI0.len
  have hrow := hI0.row
  have hrn : G.r < nx := Nat.lt_of_lt_of_le ok.rn hI0.nx
  simp only [rowV, cmpV] at hrow
  have l1 : a < G.cs0.length := by omega
  have l2 : p < G.cs0.length := by omega
  obtain ⟨v, v1, v2, v3, v4, v5⟩ := hI0.el ok l1
  obtain ⟨w, w1, w2, w3, w4, w5⟩ := hI0.el ok l2
  have hw1 := wrapN (z := (a : Int) + 1) (n := a + 1) (by omega) (by omega)
  have hw2 := wrapN (z := (b : Int) - 1) (n := b - 1) (by omega) (by omega)
  simp only [RS, RT, RZ, tsc0, tz0, nq0, bs0, bn0, reduceLT, reduceLeDiff, reduceEqDiff, reduceMul, reduceAdd, reduceSub, reduceCtorEq, hlen, hrn, hrow, idxX_row, lenX_row, Nat.zero_add, Nat.mul_one, splice_set, List.length_set, rowV, cmpV, x84, kd84_0, kd84_1, kd84_2, kd84_3, kd84_4, kd84_5, kd84_6, kd84_7, kd84_8, getD_4, l1, l2, v1, v2, v3, v4, w1, w2, w3, w4, hw1, hw2]
  refine post_bind (p84_0 hK ok (a := a) (b := b) (i0 := 0) hb (b + 1) _ _ ⟨a + 1, b - 1, _, ⟨by simp only [RS, RT, RZ, tsc0, tz0, nq0, bs0, bn0, reduceLT, reduceLeDiff, reduceEqDiff, reduceMul, reduceAdd, reduceSub, reduceCtorEq, rowV, cmpV, getD_4, getD_5, ], by simp only [RS, RT, RZ, tsc0, tz0, nq0, bs0, bn0, reduceLT, reduceLeDiff, reduceEqDiff, reduceMul, reduceAdd, reduceSub, reduceCtorEq, rowV, cmpV, getD_4, getD_5, ], by simp only [RS, RT, RZ, tsc0, tz0, nq0, bs0, bn0, reduceLT, reduceLeDiff, reduceEqDiff, reduceMul, reduceAdd, reduceSub, reduceCtorEq, rowV, cmpV, getD_4, getD_5, ], by simp only [RS, RT, RZ, tsc0, tz0, nq0, bs0, bn0, reduceLT, reduceLeDiff, reduceEqDiff, reduceMul, reduceAdd, reduceSub, reduceCtorEq, rowV, cmpV, getD_4, getD_5, ]⟩, ?_, ?_, by omega, by omega, by omega, by omega, by omega, by omega, hI0.swap v1 w1⟩) ?_
  · simp only [RS, RT, RZ, tsc0, tz0, nq0, bs0, bn0, reduceLT, reduceLeDiff, reduceEqDiff, reduceMul, reduceAdd, reduceSub, reduceCtorEq, rowV, cmpV, getD_4, getD_5, ]
  · simp only [RS, RT, RZ, tsc0, tz0, nq0, bs0, bn0, reduceLT, reduceLeDiff, reduceEqDiff, reduceMul, reduceAdd, reduceSub, reduceCtorEq, rowV, cmpV, getD_4, getD_5, ]
  rintro e T' st1 ⟨rfl, i1, j1, cs1, ⟨t0, t1, t2, t4⟩, ti, tj, _, hi1, hi2, hj1, hj2, hI1⟩
  simp only [RS, RT, RZ, tsc0, tz0, nq0, bs0, bn0, reduceLT, reduceLeDiff, reduceEqDiff, reduceMul, reduceAdd, reduceSub, reduceCtorEq, rowV, cmpV, getD_4, getD_5, ]
  refine post_bind (p84_1 hK ok (a := a) (b := b) (i0 := 0) hb (b + 1) _ _ ⟨i1, j1, _, ⟨t0, t1, t2, t4⟩, ti, tj, by omega, hi1, hi2, hj1, hj2, by omega, hI1⟩) ?_
  rintro e T' ⟨h2, nx2, lg2⟩ ⟨rfl, i2, j2, cs2, ⟨t0, t1, t2, t4⟩, ti, tj, _, hi3, hi4, hj3, hj4, hI2⟩
  have hlen := hI2.len
  have hrow := hI2.row
  have hrn : G.r < nx2 := Nat.lt_of_lt_of_le ok.rn hI2.nx
  simp only [rowV, cmpV] at t0 t4 hrow
  by_cases hc : j2 < i2
  · have l2 : j2 < G.cs0.length := by omega
    obtain ⟨v, v1, v2, v3, v4, v5⟩ := hI2.el ok l1
    obtain ⟨w, w1, w2, w3, w4, w5⟩ := hI2.el ok l2
    simp only [RS, RT, RZ, tsc0, tz0, nq0, bs0, bn0, reduceLT, reduceLeDiff, reduceEqDiff, reduceMul, reduceAdd, reduceSub, reduceCtorEq, hlen, hrn, hrow, idxX_row, lenX_row, Nat.zero_add, Nat.mul_one, splice_set, List.length_set, rowV, cmpV, kd84_0, kd84_1, kd84_2, kd84_3, kd84_4, kd84_5, kd84_6, kd84_7, kd84_8, F84, t0, t1, t2, t4, ti, tj, hc, l1, l2, v1, v2, v3, v4, w1, w2, w3, w4]
    exact ⟨_, rfl, ⟨j2, true, rfl, hj3, hj4⟩, fun _ => rfl, rfl, _, hI2.swap w1 v1⟩
  · have l3 : i2 < G.cs0.length := by omega
    have l2 : j2 < G.cs0.length := by omega
    obtain ⟨v, v1, v2, v3, v4, v5⟩ := hI2.el ok l3
    obtain ⟨w, w1, w2, w3, w4, w5⟩ := hI2.el ok l2
    have hw1 := wrapN (z := (i2 : Int) + 1) (n := i2 + 1) (by omega) (by omega)
    have hw2 := wrapN (z := (j2 : Int) - 1) (n := j2 - 1) (by omega) (by omega)
    simp only [RS, RT, RZ, tsc0, tz0, nq0, bs0, bn0, reduceLT, reduceLeDiff, reduceEqDiff, reduceMul, reduceAdd, reduceSub, reduceCtorEq, hlen, hrn, hrow, idxX_row, lenX_row, Nat.zero_add, Nat.mul_one, splice_set, List.length_set, rowV, cmpV, kd84_0, kd84_1, kd84_2, kd84_3, kd84_4, kd84_5, kd84_6, kd84_7, kd84_8, t0, t1, t2, t4, ti, tj, hc, l3, l2, v1, v2, v3, v4, w1, w2, w3, w4, hw1, hw2]
    refine post_bind (p84_4 hK ok (a := a) (b := b) hb (b + 1) _ _ ⟨i2 + 1, j2 - 1, _, ⟨by simp only [RS, RT, RZ, tsc0, tz0, nq0, bs0, bn0, reduceLT, reduceLeDiff, reduceEqDiff, reduceMul, reduceAdd, reduceSub, reduceCtorEq, rowV, cmpV, getD_4, getD_5, t0], by simp only [RS, RT, RZ, tsc0, tz0, nq0, bs0, bn0, reduceLT, reduceLeDiff, reduceEqDiff, reduceMul, reduceAdd, reduceSub, reduceCtorEq, rowV, cmpV, getD_4, getD_5, t1], by simp only [RS, RT, RZ, tsc0, tz0, nq0, bs0, bn0, reduceLT, reduceLeDiff, reduceEqDiff, reduceMul, reduceAdd, reduceSub, reduceCtorEq, rowV, cmpV, getD_4, getD_5, t2], by simp only [RS, RT, RZ, tsc0, tz0, nq0, bs0, bn0, reduceLT, reduceLeDiff, reduceEqDiff, reduceMul, reduceAdd, reduceSub, reduceCtorEq, rowV, cmpV, getD_4, getD_5, t4]⟩, ?_, ?_, by omega, by omega, by omega, by omega, by omega, hI2.swap v1 w1⟩) ?_
    · simp only [RS, RT, RZ, tsc0, tz0, nq0, bs0, bn0, reduceLT, reduceLeDiff, reduceEqDiff, reduceMul, reduceAdd, reduceSub, reduceCtorEq, rowV, cmpV, getD_4, getD_5, ]
    · simp only [RS, RT, RZ, tsc0, tz0, nq0, bs0, bn0, reduceLT, reduceLeDiff, reduceEqDiff, reduceMul, reduceAdd, reduceSub, reduceCtorEq, rowV, cmpV, getD_4, getD_5, ]
    rintro e T' ⟨h3, nx3, lg3⟩ ⟨rfl, i3, j3, cs3, ⟨t0, t1, t2, t4⟩, ti, tj, hi5, hi6, hj5, hj6, hI3⟩
    have hlen := hI3.len
    have hrow := hI3.row
    have hrn : G.r < nx3 := Nat.lt_of_lt_of_le ok.rn hI3.nx
    simp only [rowV, cmpV] at t0 t4 hrow
    have l2 : j3 < G.cs0.length := by omega
    obtain ⟨v, v1, v2, v3, v4, v5⟩ := hI3.el ok l1
    obtain ⟨w, w1, w2, w3, w4, w5⟩ := hI3.el ok l2
    simp only [RS, RT, RZ, tsc0, tz0, nq0, bs0, bn0, reduceLT, reduceLeDiff, reduceEqDiff, reduceMul, reduceAdd, reduceSub, reduceCtorEq, hlen, hrn, hrow, idxX_row, lenX_row, Nat.zero_add, Nat.mul_one, splice_set, List.length_set, rowV, cmpV, kd84_0, kd84_1, kd84_2, kd84_3, kd84_4, kd84_5, kd84_6, kd84_7, kd84_8, F84, t0, t1, t2, t4, ti, tj, l1, l2, v1, v2, v3, v4, w1, w2, w3, w4]
    exact ⟨_, rfl, ⟨j3, false, rfl, hj5, hj6⟩, fun _ => rfl, rfl, _, hI3.swap w1 v1⟩
end
end Go.Proofs.P31

namespace Go.Proofs.P31
open Go Go.AE
open Nat (reduceLT reduceLeDiff reduceEqDiff reduceMul reduceAdd reduceSub)
set_option maxHeartbeats 8000000
noncomputable def s40_0 : XC := (.ops [⟨(some 21), .mv (.t 2), none⟩,
      ⟨(some 22), .mv (.t 1), none⟩,
      ⟨(some 23), .binI .sub 3 (.tmp 21) (.tmp 22) (.t 21) (.t 22), none⟩,
      ⟨(some 12), .mv (.t 23), none⟩])
noncomputable def s40_1 : XC := (.seq (.ops [⟨(some 24), .mv (.t 12), none⟩,
      ⟨(some 25), .binI .leq 3 (.tmp 24) (.const (.int .i64 12)) (.t 24) (.c (.int .i64 12)), none⟩])
    (.cond (.t 25)
      (.seq (.ops [⟨(some 26), .mv (.t 0), none⟩,
        ⟨(some 27), .mv (.t 1), none⟩,
        ⟨(some 28), .mv (.t 2), none⟩,
        ⟨(some 29), .mv (.t 4), none⟩,
        ⟨(some 30), .call (.c (.func (.func 77) [] [])) [(.t 26), (.t 27), (.t 28), (.t 29)], none⟩])
      .ret)
      .skip))
noncomputable def s40_2 : XC := (.seq (.ops [⟨(some 31), .mv (.t 3), none⟩,
      ⟨(some 32), .binI .eql 3 (.tmp 31) (.const (.int .i64 0)) (.t 31) (.c (.int .i64 0)), none⟩])
    (.cond (.t 32)
      (.seq (.ops [⟨(some 33), .mv (.t 0), none⟩,
        ⟨(some 34), .mv (.t 1), none⟩,
        ⟨(some 35), .mv (.t 2), none⟩,
        ⟨(some 36), .mv (.t 4), none⟩,
        ⟨(some 37), .call (.c (.func (.func 78) [] [])) [(.t 33), (.t 34), (.t 35), (.t 36)], none⟩])
      .ret)
      .skip))
noncomputable def s40_3 : XC := (.seq (.ops [⟨(some 38), .mv (.t 10), none⟩,
      ⟨(some 39), .un .not (.t 38), none⟩])
    (.cond (.t 39)
      (.seq (.ops [⟨(some 40), .mv (.t 0), none⟩,
        ⟨(some 41), .mv (.t 1), none⟩,
        ⟨(some 42), .mv (.t 2), none⟩,
        ⟨(some 43), .mv (.t 4), none⟩,
        ⟨(some 44), .call (.c (.func (.func 79) [] [])) [(.t 40), (.t 41), (.t 42), (.t 43)], none⟩])
      (.ops [⟨(some 45), .mv (.t 3), none⟩,
        ⟨(some 46), .binI .sub 3 (.tmp 45) (.const (.int .i64 1)) (.t 45) (.c (.int .i64 1)), none⟩,
        ⟨(some 3), .mv (.t 46), none⟩]))
      .skip))
noncomputable def s40_4 : XC := (.ops [⟨(some 48), .mv (.t 0), none⟩,
      ⟨(some 49), .mv (.t 1), none⟩,
      ⟨(some 50), .mv (.t 2), none⟩,
      ⟨(some 51), .mv (.t 4), none⟩,
      ⟨(some 52), .call (.c (.func (.func 80) [] [])) [(.t 48), (.t 49), (.t 50), (.t 51)], none⟩,
      ⟨(some 47), .mv (.t 52), none⟩,
      ⟨(some 53), .extract (.t 47) 0, none⟩,
      ⟨(some 54), .extract (.t 47) 1, none⟩,
      ⟨(some 13), .mv (.t 53), none⟩,
      ⟨(some 14), .mv (.t 54), none⟩])
noncomputable def s40_5 : XC := (.seq (.ops [⟨(some 55), .mv (.t 14), none⟩,
      ⟨(some 56), .binI .eql 112 (.tmp 55) (.const (.int .i64 2)) (.t 55) (.c (.int .i64 2)), none⟩])
    (.cond (.t 56)
      (.seq (.ops [⟨(some 57), .mv (.t 0), none⟩,
        ⟨(some 58), .mv (.t 1), none⟩,
        ⟨(some 59), .mv (.t 2), none⟩,
        ⟨(some 60), .mv (.t 4), none⟩,
        ⟨(some 61), .call (.c (.func (.func 81) [] [])) [(.t 57), (.t 58), (.t 59), (.t 60)], none⟩])
      (.seq (.ops [⟨(some 62), .mv (.t 2), none⟩,
        ⟨(some 63), .binI .sub 3 (.tmp 62) (.const (.int .i64 1)) (.t 62) (.c (.int .i64 1)), none⟩,
        ⟨(some 64), .mv (.t 13), none⟩,
        ⟨(some 65), .mv (.t 1), none⟩,
        ⟨(some 66), .binI .sub 3 (.tmp 64) (.tmp 65) (.t 64) (.t 65), none⟩,
        ⟨(some 67), .binI .sub 3 (.tmp 63) (.tmp 66) (.t 63) (.t 66), none⟩,
        ⟨(some 13), .mv (.t 67), none⟩])
      (.ops [⟨(some 14), .mv (.c (.int .i64 1)), none⟩])))
      .skip))
noncomputable def s40_6 : XC := (.seq (.ops [⟨(some 68), .mv (.t 10), none⟩,
      ⟨(some 69), .mv (.t 68), none⟩,
      ⟨(some 70), .mv (.t 11), (some (some 69, true))⟩,
      ⟨(some 71), .pick (.t 69) (.t 70) (.c (.bool false)), none⟩,
      ⟨(some 72), .mv (.t 71), none⟩,
      ⟨(some 73), .mv (.t 14), (some (some 72, true))⟩,
      ⟨(some 74), .binI .eql 112 (.tmp 73) (.const (.int .i64 1)) (.t 73) (.c (.int .i64 1)), (some (some 72, true))⟩,
      ⟨(some 75), .pick (.t 72) (.t 74) (.c (.bool false)), none⟩])
    (.cond (.t 75)
      (.seq (.ops [⟨(some 76), .mv (.t 0), none⟩,
        ⟨(some 77), .mv (.t 1), none⟩,
        ⟨(some 78), .mv (.t 2), none⟩,
        ⟨(some 79), .mv (.t 4), none⟩,
        ⟨(some 80), .call (.c (.func (.func 82) [] [])) [(.t 76), (.t 77), (.t 78), (.t 79)], none⟩])
      (.cond (.t 80)
        .ret
        .skip))
      .skip))
noncomputable def s40_7 : XC := (.seq (.draw d40_0 [⟨(some 81), .mv (.t 1), none⟩,
      ⟨(some 82), .binI .gtr 3 (.tmp 81) (.const (.int .i64 0)) (.t 81) (.c (.int .i64 0)), none⟩,
      ⟨(some 83), .mv (.t 82), none⟩,
      ⟨(some 84), .mv (.t 4), (some (some 83, true))⟩,
      ⟨(some 85), .mv (.t 0), (some (some 83, true))⟩,
      ⟨(some 86), .mv (.t 1), (some (some 83, true))⟩,
      ⟨(some 87), .binI .sub 3 (.tmp 86) (.const (.int .i64 1)) (.t 86) (.c (.int .i64 1)), (some (some 83, true))⟩,
      ⟨(some 88), .idxS 1 (.t 85) (.t 87), (some (some 83, true))⟩,
      ⟨(some 89), .load false 1 (.t 88), (some (some 83, true))⟩,
      ⟨(some 90), .mv (.t 0), (some (some 83, true))⟩,
      ⟨(some 91), .mv (.t 13), (some (some 83, true))⟩,
      ⟨(some 92), .idxS 1 (.t 90) (.t 91), (some (some 83, true))⟩,
      ⟨(some 93), .load false 1 (.t 92), (some (some 83, true))⟩,
      ⟨(some 94), .call (.t 84) [(.t 89), (.t 93)], (some (some 83, true))⟩,
      ⟨(some 95), .binI .lss 3 (.tmp 94) (.const (.int .i64 0)) (.t 94) (.c (.int .i64 0)), (some (some 83, true))⟩,
      ⟨(some 96), .un .not (.t 95), (some (some 83, true))⟩,
      ⟨(some 97), .pick (.t 83) (.t 96) (.c (.bool false)), none⟩])
    (.cond (.t 97)
      (.seq (.ops [⟨(some 98), .mv (.t 0), none⟩,
        ⟨(some 99), .mv (.t 1), none⟩,
        ⟨(some 100), .mv (.t 2), none⟩,
        ⟨(some 101), .mv (.t 13), none⟩,
        ⟨(some 102), .mv (.t 4), none⟩,
        ⟨(some 103), .call (.c (.func (.func 83) [] [])) [(.t 98), (.t 99), (.t 100), (.t 101), (.t 102)], none⟩,
        ⟨(some 15), .mv (.t 103), none⟩])
      (.seq (.ops [⟨(some 104), .mv (.t 15), none⟩,
        ⟨(some 1), .mv (.t 104), none⟩])
      (.exit 1)))
      .skip))
noncomputable def s40_8 : XC := (.ops [⟨(some 106), .mv (.t 0), none⟩,
      ⟨(some 107), .mv (.t 1), none⟩,
      ⟨(some 108), .mv (.t 2), none⟩,
      ⟨(some 109), .mv (.t 13), none⟩,
      ⟨(some 110), .mv (.t 4), none⟩,
      ⟨(some 111), .call (.c (.func (.func 84) [] [])) [(.t 106), (.t 107), (.t 108), (.t 109), (.t 110)], none⟩,
      ⟨(some 105), .mv (.t 111), none⟩,
      ⟨(some 112), .extract (.t 105) 0, none⟩,
      ⟨(some 113), .extract (.t 105) 1, none⟩,
      ⟨(some 16), .mv (.t 112), none⟩,
      ⟨(some 17), .mv (.t 113), none⟩])
noncomputable def s40_9 : XC := (.ops [⟨(some 114), .mv (.t 17), none⟩,
      ⟨(some 11), .mv (.t 114), none⟩])
noncomputable def s40_10 : XC := (.ops [⟨(some 115), .mv (.t 16), none⟩,
      ⟨(some 116), .mv (.t 1), none⟩,
      ⟨(some 117), .binI .sub 3 (.tmp 115) (.tmp 116) (.t 115) (.t 116), none⟩,
      ⟨(some 118), .mv (.t 2), none⟩,
      ⟨(some 119), .mv (.t 16), none⟩,
      ⟨(some 120), .binI .sub 3 (.tmp 118) (.tmp 119) (.t 118) (.t 119), none⟩,
      ⟨(some 18), .mv (.t 117), none⟩,
      ⟨(some 19), .mv (.t 120), none⟩])
noncomputable def s40_11 : XC := (.ops [⟨(some 121), .mv (.t 12), none⟩,
      ⟨(some 122), .binI .quo 3 (.tmp 121) (.const (.int .i64 8)) (.t 121) (.c (.int .i64 8)), none⟩,
      ⟨(some 20), .mv (.t 122), none⟩])
noncomputable def s40_12 : XC := (.ops [⟨(some 123), .mv (.t 18), none⟩,
      ⟨(some 124), .mv (.t 19), none⟩,
      ⟨(some 125), .binI .lss 3 (.tmp 123) (.tmp 124) (.t 123) (.t 124), none⟩])
noncomputable def s40_13 : XC := (.cond (.t 125)
      (.seq (.ops [⟨(some 126), .mv (.t 18), none⟩,
        ⟨(some 127), .mv (.t 20), none⟩,
        ⟨(some 128), .binI .geq 3 (.tmp 126) (.tmp 127) (.t 126) (.t 127), none⟩,
        ⟨(some 10), .mv (.t 128), none⟩])
      (.seq (.ops [⟨(some 129), .mv (.t 0), none⟩,
        ⟨(some 130), .mv (.t 1), none⟩,
        ⟨(some 131), .mv (.t 16), none⟩,
        ⟨(some 132), .mv (.t 3), none⟩,
        ⟨(some 133), .mv (.t 4), none⟩,
        ⟨(some 134), .call (.c (.func (.func 40) [] [])) [(.t 129), (.t 130), (.t 131), (.t 132), (.t 133)], none⟩])
      (.ops [⟨(some 135), .mv (.t 16), none⟩,
        ⟨(some 136), .binI .add 3 (.tmp 135) (.const (.int .i64 1)) (.t 135) (.c (.int .i64 1)), none⟩,
        ⟨(some 1), .mv (.t 136), none⟩])))
      (.seq (.ops [⟨(some 137), .mv (.t 19), none⟩,
        ⟨(some 138), .mv (.t 20), none⟩,
        ⟨(some 139), .binI .geq 3 (.tmp 137) (.tmp 138) (.t 137) (.t 138), none⟩,
        ⟨(some 10), .mv (.t 139), none⟩])
      (.seq (.ops [⟨(some 140), .mv (.t 0), none⟩,
        ⟨(some 141), .mv (.t 16), none⟩,
        ⟨(some 142), .binI .add 3 (.tmp 141) (.const (.int .i64 1)) (.t 141) (.c (.int .i64 1)), none⟩,
        ⟨(some 143), .mv (.t 2), none⟩,
        ⟨(some 144), .mv (.t 3), none⟩,
        ⟨(some 145), .mv (.t 4), none⟩,
        ⟨(some 146), .call (.c (.func (.func 40) [] [])) [(.t 140), (.t 142), (.t 143), (.t 144), (.t 145)], none⟩])
      (.ops [⟨(some 147), .mv (.t 16), none⟩,
        ⟨(some 2), .mv (.t 147), none⟩]))))
noncomputable def r40_13 : XC := s40_13
noncomputable def r40_12 : XC := .seq s40_12 r40_13
noncomputable def r40_11 : XC := .seq s40_11 r40_12
noncomputable def r40_10 : XC := .seq s40_10 r40_11
noncomputable def r40_9 : XC := .seq s40_9 r40_10
noncomputable def r40_8 : XC := .seq s40_8 r40_9
noncomputable def r40_7 : XC := .seq s40_7 r40_8
noncomputable def r40_6 : XC := .seq s40_6 r40_7
noncomputable def r40_5 : XC := .seq s40_5 r40_6
noncomputable def r40_4 : XC := .seq s40_4 r40_5
noncomputable def r40_3 : XC := .seq s40_3 r40_4
noncomputable def r40_2 : XC := .seq s40_2 r40_3
noncomputable def r40_1 : XC := .seq s40_1 r40_2
noncomputable def r40_0 : XC := .seq s40_0 r40_1
theorem l40_eq : l40_0 = .block 1 r40_0 := rfl
variable {G : Srt} {Q : Ctx} {cs : List AV}
theorem post_seq {call : CallF} {C : Ctx} {mu : Bool} {self : FuncId} {ro : Option Nat} {N : Nat} {D : List ADef} {pv : Option AV} {A B : XC} {T : Nat → AV} {st : St} {M : (Nat → AV) → St → Prop} {R : EX → (Nat → AV) → St → Prop}
    (h1 : Post N D pv (execY call C mu self ro A ⟨T, N, D, pv⟩ st) fun e T' st' => (e = .norm ∧ M T' st') ∨ (e ≠ .norm ∧ R e T' st')) (h2 : ∀ T' st', M T' st' → Post N D pv (execY call C mu self ro B ⟨T', N, D, pv⟩ st') R) :
    Post N D pv (execY call C mu self ro (.seq A B) ⟨T, N, D, pv⟩ st) R := by
  rw [execY_seq]
  refine post_bind h1 fun e T' st' h => ?_
  rcases h with ⟨rfl, h⟩ | ⟨hne, h⟩
  · exact h2 T' st' h
  · cases e with
    | norm => exact absurd rfl hne
    | exit k => exact ⟨_, _, _, rfl, h⟩
    | goto k => exact ⟨_, _, _, rfl, h⟩
    | ret => exact ⟨_, _, _, rfl, h⟩
    | pan v => exact ⟨_, _, _, rfl, h⟩
structure Z (G : Srt) (a b L : Nat) (T : Nat → AV) : Prop where
  t0 : T 0 = rowV G
  t1 : T 1 = .int .i64 (a : Int)
  t2 : T 2 = .int .i64 (b : Int)
  t3 : T 3 = .int .i64 (L : Int)
  t4 : T 4 = cmpV
  t10 : ∃ r, T 10 = .bool r
  t11 : ∃ r, T 11 = .bool r
def DoneQ (G : Srt) (e : EX) (st : St) : Prop := e = .ret ∧ ∃ cs, SI G cs st
section
variable (hK : K Q) (ok : G.OK Q)
include hK ok
theorem sg0 {a b L : Nat} (hab : a ≤ b) (hb : b ≤ G.cs0.length) {T : Nat → AV} {st : St} {cs : List AV} (hz : Z G a b L T) (hI : SI G cs st) :
    Post 148 [] none (execY (callW Q) Q false 40 none s40_0 ⟨T, 148, [], none⟩ st) fun e T' st' => (e = .norm ∧ Z G a b L T' ∧ T' 12 = .int .i64 ((b - a : Nat) : Int) ∧ SI G cs st') := by
  obtain ⟨t0, t1, t2, t3, t4, ⟨x, t10⟩, ⟨y, t11⟩⟩ := hz
  obtain ⟨h, nx, lg⟩ := st
  have hsm := ok.small
  have hw := wrapN (z := (b : Int) - (a : Int)) (n := b - a) (by omega) (by omega)
  simp only [RS, RT, RZ, tsc0, tz0, nq0, bs0, bn0, reduceLT, reduceLeDiff, reduceEqDiff, reduceMul, reduceAdd, reduceSub, reduceCtorEq, rowV, cmpV, getD_4, getD_5, s40_0, t1, t2, hw]
  exact ⟨⟨by simp only [RS, RT, RZ, tsc0, tz0, nq0, bs0, bn0, reduceLT, reduceLeDiff, reduceEqDiff, reduceMul, reduceAdd, reduceSub, reduceCtorEq, rowV, cmpV, getD_4, getD_5, t0], by simp only [RS, RT, RZ, tsc0, tz0, nq0, bs0, bn0, reduceLT, reduceLeDiff, reduceEqDiff, reduceMul, reduceAdd, reduceSub, reduceCtorEq, rowV, cmpV, getD_4, getD_5, t1], by simp only [RS, RT, RZ, tsc0, tz0, nq0, bs0, bn0, reduceLT, reduceLeDiff, reduceEqDiff, reduceMul, reduceAdd, reduceSub, reduceCtorEq, rowV, cmpV, getD_4, getD_5, t2], by simp only [RS, RT, RZ, tsc0, tz0, nq0, bs0, bn0, reduceLT, reduceLeDiff, reduceEqDiff, reduceMul, reduceAdd, reduceSub, reduceCtorEq, rowV, cmpV, getD_4, getD_5, t3], by simp only [RS, RT, RZ, tsc0, tz0, nq0, bs0, bn0, reduceLT, reduceLeDiff, reduceEqDiff, reduceMul, reduceAdd, reduceSub, reduceCtorEq, rowV, cmpV, getD_4, getD_5, t4], ⟨x, by simp only [RS, RT, RZ, tsc0, tz0, nq0, bs0, bn0, reduceLT, reduceLeDiff, reduceEqDiff, reduceMul, reduceAdd, reduceSub, reduceCtorEq, rowV, cmpV, getD_4, getD_5, t10]⟩, ⟨y, by simp only [RS, RT, RZ, tsc0, tz0, nq0, bs0, bn0, reduceLT, reduceLeDiff, reduceEqDiff, reduceMul, reduceAdd, reduceSub, reduceCtorEq, rowV, cmpV, getD_4, getD_5, t11]⟩⟩, hI⟩
theorem sg1 {a b L : Nat} (hab : a ≤ b) (hb : b ≤ G.cs0.length) {T : Nat → AV} {st : St} {cs : List AV} (hz : Z G a b L T) (t12 : T 12 = .int .i64 ((b - a : Nat) : Int)) (hI : SI G cs st) :
    Post 148 [] none (execY (callW Q) Q false 40 none s40_1 ⟨T, 148, [], none⟩ st) fun e T' st' => (e = .norm ∧ Z G a b L T' ∧ T' 12 = .int .i64 ((b - a : Nat) : Int) ∧ a + 12 < b ∧ SI G cs st') ∨ DoneQ G e st' := by
  obtain ⟨t0, t1, t2, t3, t4, ⟨x, t10⟩, ⟨y, t11⟩⟩ := hz
  have hsm := ok.small
  cases hc : decide (((b - a : Nat) : Int) ≤ 12) with
  | true =>
    obtain ⟨v, st', cs', c1, rfl, hI'⟩ := ins_c hK ok (a := a) (b := b) (by omega) hb hI
    obtain ⟨h, nx, lg⟩ := st
    obtain ⟨h1, nx1, lg1⟩ := st'
    simp only [rowV, cmpV] at t0 t4 c1
    simp only [RS, RT, RZ, tsc0, tz0, nq0, bs0, bn0, reduceLT, reduceLeDiff, reduceEqDiff, reduceMul, reduceAdd, reduceSub, reduceCtorEq, rowV, cmpV, getD_4, getD_5, s40_1, t0, t1, t2, t4, t12, hc, c1, DoneQ]
    exact ⟨_, hI'⟩
  | false =>
    rw [decide_eq_false_iff_not] at hc
    have hc' := decF hc
    obtain ⟨h, nx, lg⟩ := st
    simp only [RS, RT, RZ, tsc0, tz0, nq0, bs0, bn0, reduceLT, reduceLeDiff, reduceEqDiff, reduceMul, reduceAdd, reduceSub, reduceCtorEq, rowV, cmpV, getD_4, getD_5, s40_1, t0, t1, t2, t4, t12, hc', DoneQ]
    exact ⟨⟨by simp only [RS, RT, RZ, tsc0, tz0, nq0, bs0, bn0, reduceLT, reduceLeDiff, reduceEqDiff, reduceMul, reduceAdd, reduceSub, reduceCtorEq, rowV, cmpV, getD_4, getD_5, t0], by simp only [RS, RT, RZ, tsc0, tz0, nq0, bs0, bn0, reduceLT, reduceLeDiff, reduceEqDiff, reduceMul, reduceAdd, reduceSub, reduceCtorEq, rowV, cmpV, getD_4, getD_5, t1], by simp only [RS, RT, RZ, tsc0, tz0, nq0, bs0, bn0, reduceLT, reduceLeDiff, reduceEqDiff, reduceMul, reduceAdd, reduceSub, reduceCtorEq, rowV, cmpV, getD_4, getD_5, t2], by simp only [RS, RT, RZ, tsc0, tz0, nq0, bs0, bn0, reduceLT, reduceLeDiff, reduceEqDiff, reduceMul, reduceAdd, reduceSub, reduceCtorEq, rowV, cmpV, getD_4, getD_5, t3], by simp only [RS, RT, RZ, tsc0, tz0, nq0, bs0, bn0, reduceLT, reduceLeDiff, reduceEqDiff, reduceMul, reduceAdd, reduceSub, reduceCtorEq, rowV, cmpV, getD_4, getD_5, t4], ⟨x, by simp only [RS, RT, RZ, tsc0, tz0, nq0, bs0, bn0, reduceLT, reduceLeDiff, reduceEqDiff, reduceMul, reduceAdd, reduceSub, reduceCtorEq, rowV, cmpV, getD_4, getD_5, t10]⟩, ⟨y, by simp only [RS, RT, RZ, tsc0, tz0, nq0, bs0, bn0, reduceLT, reduceLeDiff, reduceEqDiff, reduceMul, reduceAdd, reduceSub, reduceCtorEq, rowV, cmpV, getD_4, getD_5, t11]⟩⟩, by omega, hI⟩
theorem sg2 {a b L : Nat} (hab : a ≤ b) (hb : b ≤ G.cs0.length) {T : Nat → AV} {st : St} {cs : List AV} (hz : Z G a b L T) (t12 : T 12 = .int .i64 ((b - a : Nat) : Int)) (hI : SI G cs st) :
    Post 148 [] none (execY (callW Q) Q false 40 none s40_2 ⟨T, 148, [], none⟩ st) fun e T' st' => (e = .norm ∧ Z G a b L T' ∧ T' 12 = .int .i64 ((b - a : Nat) : Int) ∧ 1 ≤ L ∧ SI G cs st') ∨ DoneQ G e st' := by
  obtain ⟨t0, t1, t2, t3, t4, ⟨x, t10⟩, ⟨y, t11⟩⟩ := hz
  have hsm := ok.small
  cases hc : ((L : Int) == 0) with
  | true =>
    obtain ⟨v, st', cs', c1, rfl, hI'⟩ := heap_c hK ok (a := a) (b := b) hab hb hI
    obtain ⟨h, nx, lg⟩ := st
    obtain ⟨h1, nx1, lg1⟩ := st'
    simp only [rowV, cmpV] at t0 t4 c1
    simp only [RS, RT, RZ, tsc0, tz0, nq0, bs0, bn0, reduceLT, reduceLeDiff, reduceEqDiff, reduceMul, reduceAdd, reduceSub, reduceCtorEq, rowV, cmpV, getD_4, getD_5, s40_2, t0, t1, t2, t3, t4, t12, hc, c1, DoneQ]
    exact ⟨_, hI'⟩
  | false =>
    have hL : 1 ≤ L := by rw [beq_eq_false_iff_ne] at hc; omega
    obtain ⟨h, nx, lg⟩ := st
    simp only [RS, RT, RZ, tsc0, tz0, nq0, bs0, bn0, reduceLT, reduceLeDiff, reduceEqDiff, reduceMul, reduceAdd, reduceSub, reduceCtorEq, rowV, cmpV, getD_4, getD_5, s40_2, t0, t1, t2, t3, t4, t12, hc, DoneQ]
    exact ⟨⟨by simp only [RS, RT, RZ, tsc0, tz0, nq0, bs0, bn0, reduceLT, reduceLeDiff, reduceEqDiff, reduceMul, reduceAdd, reduceSub, reduceCtorEq, rowV, cmpV, getD_4, getD_5, t0], by simp only [RS, RT, RZ, tsc0, tz0, nq0, bs0, bn0, reduceLT, reduceLeDiff, reduceEqDiff, reduceMul, reduceAdd, reduceSub, reduceCtorEq, rowV, cmpV, getD_4, getD_5, t1], by simp only [RS, RT, RZ, tsc0, tz0, nq0, bs0, bn0, reduceLT, reduceLeDiff, reduceEqDiff, reduceMul, reduceAdd, reduceSub, reduceCtorEq, rowV, cmpV, getD_4, getD_5, t2], by simp only [RS, RT, RZ, tsc0, tz0, nq0, bs0, bn0, reduceLT, reduceLeDiff, reduceEqDiff, reduceMul, reduceAdd, reduceSub, reduceCtorEq, rowV, cmpV, getD_4, getD_5, t3], by simp only [RS, RT, RZ, tsc0, tz0, nq0, bs0, bn0, reduceLT, reduceLeDiff, reduceEqDiff, reduceMul, reduceAdd, reduceSub, reduceCtorEq, rowV, cmpV, getD_4, getD_5, t4], ⟨x, by simp only [RS, RT, RZ, tsc0, tz0, nq0, bs0, bn0, reduceLT, reduceLeDiff, reduceEqDiff, reduceMul, reduceAdd, reduceSub, reduceCtorEq, rowV, cmpV, getD_4, getD_5, t10]⟩, ⟨y, by simp only [RS, RT, RZ, tsc0, tz0, nq0, bs0, bn0, reduceLT, reduceLeDiff, reduceEqDiff, reduceMul, reduceAdd, reduceSub, reduceCtorEq, rowV, cmpV, getD_4, getD_5, t11]⟩⟩, by omega, hI⟩
theorem sg3 {a b L : Nat} (hab : a + 12 < b) (hb : b ≤ G.cs0.length) (hL : 1 ≤ L) (hL2 : L < 100) {T : Nat → AV} {st : St} {cs : List AV} (hz : Z G a b L T) (t12 : T 12 = .int .i64 ((b - a : Nat) : Int)) (hI : SI G cs st) :
    Post 148 [] none (execY (callW Q) Q false 40 none s40_3 ⟨T, 148, [], none⟩ st) fun e T' st' => (e = .norm ∧ ∃ L' cs', L' < 100 ∧ Z G a b L' T' ∧ T' 12 = .int .i64 ((b - a : Nat) : Int) ∧ SI G cs' st') := by
  obtain ⟨t0, t1, t2, t3, t4, ⟨x, t10⟩, ⟨y, t11⟩⟩ := hz
  have hsm := ok.small
  cases x with
  | false =>
    obtain ⟨v, st', cs', c1, rfl, hI'⟩ := brk_c hK ok (a := a) (b := b) (by omega) hb hI
    obtain ⟨h, nx, lg⟩ := st
    obtain ⟨h1, nx1, lg1⟩ := st'
    have hw := wrapN (z := (L : Int) - 1) (n := L - 1) (by omega) (by omega)
    simp only [rowV, cmpV] at t0 t4 c1
    simp only [RS, RT, RZ, tsc0, tz0, nq0, bs0, bn0, reduceLT, reduceLeDiff, reduceEqDiff, reduceMul, reduceAdd, reduceSub, reduceCtorEq, rowV, cmpV, getD_4, getD_5, s40_3, t0, t1, t2, t3, t4, t10, t12, hw, c1]
    exact ⟨L - 1, cs', by omega, ⟨by simp only [RS, RT, RZ, tsc0, tz0, nq0, bs0, bn0, reduceLT, reduceLeDiff, reduceEqDiff, reduceMul, reduceAdd, reduceSub, reduceCtorEq, rowV, cmpV, getD_4, getD_5, t0], by simp only [RS, RT, RZ, tsc0, tz0, nq0, bs0, bn0, reduceLT, reduceLeDiff, reduceEqDiff, reduceMul, reduceAdd, reduceSub, reduceCtorEq, rowV, cmpV, getD_4, getD_5, t1], by simp only [RS, RT, RZ, tsc0, tz0, nq0, bs0, bn0, reduceLT, reduceLeDiff, reduceEqDiff, reduceMul, reduceAdd, reduceSub, reduceCtorEq, rowV, cmpV, getD_4, getD_5, t2], by simp only [RS, RT, RZ, tsc0, tz0, nq0, bs0, bn0, reduceLT, reduceLeDiff, reduceEqDiff, reduceMul, reduceAdd, reduceSub, reduceCtorEq, rowV, cmpV, getD_4, getD_5, ], by simp only [RS, RT, RZ, tsc0, tz0, nq0, bs0, bn0, reduceLT, reduceLeDiff, reduceEqDiff, reduceMul, reduceAdd, reduceSub, reduceCtorEq, rowV, cmpV, getD_4, getD_5, t4], ⟨false, by simp only [RS, RT, RZ, tsc0, tz0, nq0, bs0, bn0, reduceLT, reduceLeDiff, reduceEqDiff, reduceMul, reduceAdd, reduceSub, reduceCtorEq, rowV, cmpV, getD_4, getD_5, t10]⟩, ⟨y, by simp only [RS, RT, RZ, tsc0, tz0, nq0, bs0, bn0, reduceLT, reduceLeDiff, reduceEqDiff, reduceMul, reduceAdd, reduceSub, reduceCtorEq, rowV, cmpV, getD_4, getD_5, t11]⟩⟩, hI'⟩
  | true =>
    obtain ⟨h, nx, lg⟩ := st
    simp only [RS, RT, RZ, tsc0, tz0, nq0, bs0, bn0, reduceLT, reduceLeDiff, reduceEqDiff, reduceMul, reduceAdd, reduceSub, reduceCtorEq, rowV, cmpV, getD_4, getD_5, s40_3, t0, t1, t2, t3, t4, t10, t12]
    exact ⟨L, cs, by omega, ⟨by simp only [RS, RT, RZ, tsc0, tz0, nq0, bs0, bn0, reduceLT, reduceLeDiff, reduceEqDiff, reduceMul, reduceAdd, reduceSub, reduceCtorEq, rowV, cmpV, getD_4, getD_5, t0], by simp only [RS, RT, RZ, tsc0, tz0, nq0, bs0, bn0, reduceLT, reduceLeDiff, reduceEqDiff, reduceMul, reduceAdd, reduceSub, reduceCtorEq, rowV, cmpV, getD_4, getD_5, t1], by simp only [RS, RT, RZ, tsc0, tz0, nq0, bs0, bn0, reduceLT, reduceLeDiff, reduceEqDiff, reduceMul, reduceAdd, reduceSub, reduceCtorEq, rowV, cmpV, getD_4, getD_5, t2], by simp only [RS, RT, RZ, tsc0, tz0, nq0, bs0, bn0, reduceLT, reduceLeDiff, reduceEqDiff, reduceMul, reduceAdd, reduceSub, reduceCtorEq, rowV, cmpV, getD_4, getD_5, t3], by simp only [RS, RT, RZ, tsc0, tz0, nq0, bs0, bn0, reduceLT, reduceLeDiff, reduceEqDiff, reduceMul, reduceAdd, reduceSub, reduceCtorEq, rowV, cmpV, getD_4, getD_5, t4], ⟨true, by simp only [RS, RT, RZ, tsc0, tz0, nq0, bs0, bn0, reduceLT, reduceLeDiff, reduceEqDiff, reduceMul, reduceAdd, reduceSub, reduceCtorEq, rowV, cmpV, getD_4, getD_5, t10]⟩, ⟨y, by simp only [RS, RT, RZ, tsc0, tz0, nq0, bs0, bn0, reduceLT, reduceLeDiff, reduceEqDiff, reduceMul, reduceAdd, reduceSub, reduceCtorEq, rowV, cmpV, getD_4, getD_5, t11]⟩⟩, hI⟩
theorem sg4 {a b L : Nat} (hab : a + 12 < b) (hb : b ≤ G.cs0.length) {T : Nat → AV} {st : St} {cs : List AV} (hz : Z G a b L T) (t12 : T 12 = .int .i64 ((b - a : Nat) : Int)) (hI : SI G cs st) :
    Post 148 [] none (execY (callW Q) Q false 40 none s40_4 ⟨T, 148, [], none⟩ st) fun e T' st' => (e = .norm ∧ ∃ (p : Nat) (c : Int) (cs' : List AV), Z G a b L T' ∧ T' 12 = .int .i64 ((b - a : Nat) : Int) ∧ T' 13 = .int .i64 (p : Int) ∧ T' 14 = .int .i64 c ∧ (a ≤ p ∧ p < b) ∧ SI G cs' st') := by
  obtain ⟨t0, t1, t2, t3, t4, ⟨x, t10⟩, ⟨y, t11⟩⟩ := hz
  have hsm := ok.small
  obtain ⟨v, st', cs', c1, ⟨p, c, rfl, hp⟩, hI'⟩ := pivot_c hK ok (a := a) (b := b) (by omega) hb hI
  obtain ⟨h, nx, lg⟩ := st
  obtain ⟨h1, nx1, lg1⟩ := st'
  simp only [rowV, cmpV] at t0 t4 c1
  simp only [RS, RT, RZ, tsc0, tz0, nq0, bs0, bn0, reduceLT, reduceLeDiff, reduceEqDiff, reduceMul, reduceAdd, reduceSub, reduceCtorEq, rowV, cmpV, getD_4, getD_5, s40_4, t0, t1, t2, t3, t4, t10, t12, c1]
  exact ⟨p, c, cs', ⟨by simp only [RS, RT, RZ, tsc0, tz0, nq0, bs0, bn0, reduceLT, reduceLeDiff, reduceEqDiff, reduceMul, reduceAdd, reduceSub, reduceCtorEq, rowV, cmpV, getD_4, getD_5, t0], by simp only [RS, RT, RZ, tsc0, tz0, nq0, bs0, bn0, reduceLT, reduceLeDiff, reduceEqDiff, reduceMul, reduceAdd, reduceSub, reduceCtorEq, rowV, cmpV, getD_4, getD_5, t1], by simp only [RS, RT, RZ, tsc0, tz0, nq0, bs0, bn0, reduceLT, reduceLeDiff, reduceEqDiff, reduceMul, reduceAdd, reduceSub, reduceCtorEq, rowV, cmpV, getD_4, getD_5, t2], by simp only [RS, RT, RZ, tsc0, tz0, nq0, bs0, bn0, reduceLT, reduceLeDiff, reduceEqDiff, reduceMul, reduceAdd, reduceSub, reduceCtorEq, rowV, cmpV, getD_4, getD_5, t3], by simp only [RS, RT, RZ, tsc0, tz0, nq0, bs0, bn0, reduceLT, reduceLeDiff, reduceEqDiff, reduceMul, reduceAdd, reduceSub, reduceCtorEq, rowV, cmpV, getD_4, getD_5, t4], ⟨x, by simp only [RS, RT, RZ, tsc0, tz0, nq0, bs0, bn0, reduceLT, reduceLeDiff, reduceEqDiff, reduceMul, reduceAdd, reduceSub, reduceCtorEq, rowV, cmpV, getD_4, getD_5, t10]⟩, ⟨y, by simp only [RS, RT, RZ, tsc0, tz0, nq0, bs0, bn0, reduceLT, reduceLeDiff, reduceEqDiff, reduceMul, reduceAdd, reduceSub, reduceCtorEq, rowV, cmpV, getD_4, getD_5, t11]⟩⟩, rfl, rfl, hp, hI'⟩
theorem sg5 {a b L p : Nat} {c : Int} (hab : a + 12 < b) (hb : b ≤ G.cs0.length) (hp : a ≤ p ∧ p < b) {T : Nat → AV} {st : St} {cs : List AV} (hz : Z G a b L T) (t12 : T 12 = .int .i64 ((b - a : Nat) : Int)) (t13 : T 13 = .int .i64 (p : Int)) (t14 : T 14 = .int .i64 c) (hI : SI G cs st) :
    Post 148 [] none (execY (callW Q) Q false 40 none s40_5 ⟨T, 148, [], none⟩ st) fun e T' st' => (e = .norm ∧ ∃ (p : Nat) (c : Int) (cs' : List AV), Z G a b L T' ∧ T' 12 = .int .i64 ((b - a : Nat) : Int) ∧ T' 13 = .int .i64 (p : Int) ∧ T' 14 = .int .i64 c ∧ (a ≤ p ∧ p < b) ∧ SI G cs' st') := by
  obtain ⟨t0, t1, t2, t3, t4, ⟨x, t10⟩, ⟨y, t11⟩⟩ := hz
  have hsm := ok.small
  cases hc : (c == 2) with
  | true =>
    obtain ⟨v, st', cs', c1, rfl, hI'⟩ := rev_c hK ok (a := a) (b := b) (by omega) hb hI
    obtain ⟨h, nx, lg⟩ := st
    obtain ⟨h1, nx1, lg1⟩ := st'
    have w1 := wrapN (z := (b : Int) - 1) (n := b - 1) (by omega) (by omega)
    have w2 := wrapN (z := (p : Int) - (a : Int)) (n := p - a) (by omega) (by omega)
    have w3 := wrapN (z := ((b - 1 : Nat) : Int) - ((p - a : Nat) : Int)) (n := b - 1 - (p - a)) (by omega) (by omega)
    simp only [rowV, cmpV] at t0 t4 c1
    simp only [RS, RT, RZ, tsc0, tz0, nq0, bs0, bn0, reduceLT, reduceLeDiff, reduceEqDiff, reduceMul, reduceAdd, reduceSub, reduceCtorEq, rowV, cmpV, getD_4, getD_5, s40_5, t0, t1, t2, t3, t4, t10, t12, t13, t14, hc, c1, w1, w2, w3]
    exact ⟨b - 1 - (p - a), 1, cs', ⟨by simp only [RS, RT, RZ, tsc0, tz0, nq0, bs0, bn0, reduceLT, reduceLeDiff, reduceEqDiff, reduceMul, reduceAdd, reduceSub, reduceCtorEq, rowV, cmpV, getD_4, getD_5, t0], by simp only [RS, RT, RZ, tsc0, tz0, nq0, bs0, bn0, reduceLT, reduceLeDiff, reduceEqDiff, reduceMul, reduceAdd, reduceSub, reduceCtorEq, rowV, cmpV, getD_4, getD_5, t1], by simp only [RS, RT, RZ, tsc0, tz0, nq0, bs0, bn0, reduceLT, reduceLeDiff, reduceEqDiff, reduceMul, reduceAdd, reduceSub, reduceCtorEq, rowV, cmpV, getD_4, getD_5, t2], by simp only [RS, RT, RZ, tsc0, tz0, nq0, bs0, bn0, reduceLT, reduceLeDiff, reduceEqDiff, reduceMul, reduceAdd, reduceSub, reduceCtorEq, rowV, cmpV, getD_4, getD_5, t3], by simp only [RS, RT, RZ, tsc0, tz0, nq0, bs0, bn0, reduceLT, reduceLeDiff, reduceEqDiff, reduceMul, reduceAdd, reduceSub, reduceCtorEq, rowV, cmpV, getD_4, getD_5, t4], ⟨x, by simp only [RS, RT, RZ, tsc0, tz0, nq0, bs0, bn0, reduceLT, reduceLeDiff, reduceEqDiff, reduceMul, reduceAdd, reduceSub, reduceCtorEq, rowV, cmpV, getD_4, getD_5, t10]⟩, ⟨y, by simp only [RS, RT, RZ, tsc0, tz0, nq0, bs0, bn0, reduceLT, reduceLeDiff, reduceEqDiff, reduceMul, reduceAdd, reduceSub, reduceCtorEq, rowV, cmpV, getD_4, getD_5, t11]⟩⟩, rfl, rfl, by omega, hI'⟩
  | false =>
    obtain ⟨h, nx, lg⟩ := st
    simp only [RS, RT, RZ, tsc0, tz0, nq0, bs0, bn0, reduceLT, reduceLeDiff, reduceEqDiff, reduceMul, reduceAdd, reduceSub, reduceCtorEq, rowV, cmpV, getD_4, getD_5, s40_5, t0, t1, t2, t3, t4, t10, t12, t13, t14, hc]
    exact ⟨p, c, cs, ⟨by simp only [RS, RT, RZ, tsc0, tz0, nq0, bs0, bn0, reduceLT, reduceLeDiff, reduceEqDiff, reduceMul, reduceAdd, reduceSub, reduceCtorEq, rowV, cmpV, getD_4, getD_5, t0], by simp only [RS, RT, RZ, tsc0, tz0, nq0, bs0, bn0, reduceLT, reduceLeDiff, reduceEqDiff, reduceMul, reduceAdd, reduceSub, reduceCtorEq, rowV, cmpV, getD_4, getD_5, t1], by simp only [RS, RT, RZ, tsc0, tz0, nq0, bs0, bn0, reduceLT, reduceLeDiff, reduceEqDiff, reduceMul, reduceAdd, reduceSub, reduceCtorEq, rowV, cmpV, getD_4, getD_5, t2], by simp only [RS, RT, RZ, tsc0, tz0, nq0, bs0, bn0, reduceLT, reduceLeDiff, reduceEqDiff, reduceMul, reduceAdd, reduceSub, reduceCtorEq, rowV, cmpV, getD_4, getD_5, t3], by simp only [RS, RT, RZ, tsc0, tz0, nq0, bs0, bn0, reduceLT, reduceLeDiff, reduceEqDiff, reduceMul, reduceAdd, reduceSub, reduceCtorEq, rowV, cmpV, getD_4, getD_5, t4], ⟨x, by simp only [RS, RT, RZ, tsc0, tz0, nq0, bs0, bn0, reduceLT, reduceLeDiff, reduceEqDiff, reduceMul, reduceAdd, reduceSub, reduceCtorEq, rowV, cmpV, getD_4, getD_5, t10]⟩, ⟨y, by simp only [RS, RT, RZ, tsc0, tz0, nq0, bs0, bn0, reduceLT, reduceLeDiff, reduceEqDiff, reduceMul, reduceAdd, reduceSub, reduceCtorEq, rowV, cmpV, getD_4, getD_5, t11]⟩⟩, rfl, rfl, hp, hI⟩
theorem sg6 {a b L p : Nat} {c : Int} (hab : a + 12 < b) (hb : b ≤ G.cs0.length) (hp : a ≤ p ∧ p < b) {T : Nat → AV} {st : St} {cs : List AV} (hz : Z G a b L T) (t12 : T 12 = .int .i64 ((b - a : Nat) : Int)) (t13 : T 13 = .int .i64 (p : Int)) (t14 : T 14 = .int .i64 c) (hI : SI G cs st) :
    Post 148 [] none (execY (callW Q) Q false 40 none s40_6 ⟨T, 148, [], none⟩ st) fun e T' st' => (e = .norm ∧ ∃ (cs' : List AV), Z G a b L T' ∧ T' 12 = .int .i64 ((b - a : Nat) : Int) ∧ T' 13 = .int .i64 (p : Int) ∧ SI G cs' st') ∨ DoneQ G e st' := by
  obtain ⟨t0, t1, t2, t3, t4, ⟨x, t10⟩, ⟨y, t11⟩⟩ := hz
  have hsm := ok.small
  have off : (x && (y && (c == 1))) = false → Post 148 [] none (execY (callW Q) Q false 40 none s40_6 ⟨T, 148, [], none⟩ st) fun e T' st' => (e = .norm ∧ ∃ (cs' : List AV), Z G a b L T' ∧ T' 12 = .int .i64 ((b - a : Nat) : Int) ∧ T' 13 = .int .i64 (p : Int) ∧ SI G cs' st') ∨ DoneQ G e st' := by
    intro hh
    obtain ⟨h, nx, lg⟩ := st
    cases x with
    | false =>
      simp only [RS, RT, RZ, tsc0, tz0, nq0, bs0, bn0, reduceLT, reduceLeDiff, reduceEqDiff, reduceMul, reduceAdd, reduceSub, reduceCtorEq, rowV, cmpV, getD_4, getD_5, s40_6, t0, t1, t2, t3, t4, t10, t12, t13, t14, DoneQ, runX_gu]
      exact ⟨cs, ⟨by simp only [RS, RT, RZ, tsc0, tz0, nq0, bs0, bn0, reduceLT, reduceLeDiff, reduceEqDiff, reduceMul, reduceAdd, reduceSub, reduceCtorEq, rowV, cmpV, getD_4, getD_5, t0], by simp only [RS, RT, RZ, tsc0, tz0, nq0, bs0, bn0, reduceLT, reduceLeDiff, reduceEqDiff, reduceMul, reduceAdd, reduceSub, reduceCtorEq, rowV, cmpV, getD_4, getD_5, t1], by simp only [RS, RT, RZ, tsc0, tz0, nq0, bs0, bn0, reduceLT, reduceLeDiff, reduceEqDiff, reduceMul, reduceAdd, reduceSub, reduceCtorEq, rowV, cmpV, getD_4, getD_5, t2], by simp only [RS, RT, RZ, tsc0, tz0, nq0, bs0, bn0, reduceLT, reduceLeDiff, reduceEqDiff, reduceMul, reduceAdd, reduceSub, reduceCtorEq, rowV, cmpV, getD_4, getD_5, t3], by simp only [RS, RT, RZ, tsc0, tz0, nq0, bs0, bn0, reduceLT, reduceLeDiff, reduceEqDiff, reduceMul, reduceAdd, reduceSub, reduceCtorEq, rowV, cmpV, getD_4, getD_5, t4], ⟨false, by simp only [RS, RT, RZ, tsc0, tz0, nq0, bs0, bn0, reduceLT, reduceLeDiff, reduceEqDiff, reduceMul, reduceAdd, reduceSub, reduceCtorEq, rowV, cmpV, getD_4, getD_5, t10]⟩, ⟨y, by simp only [RS, RT, RZ, tsc0, tz0, nq0, bs0, bn0, reduceLT, reduceLeDiff, reduceEqDiff, reduceMul, reduceAdd, reduceSub, reduceCtorEq, rowV, cmpV, getD_4, getD_5, t11]⟩⟩, hI⟩
    | true =>
      cases y with
      | false =>
        simp only [RS, RT, RZ, tsc0, tz0, nq0, bs0, bn0, reduceLT, reduceLeDiff, reduceEqDiff, reduceMul, reduceAdd, reduceSub, reduceCtorEq, rowV, cmpV, getD_4, getD_5, s40_6, t0, t1, t2, t3, t4, t10, t11, t12, t13, t14, DoneQ, runX_gu]
        exact ⟨cs, ⟨by simp only [RS, RT, RZ, tsc0, tz0, nq0, bs0, bn0, reduceLT, reduceLeDiff, reduceEqDiff, reduceMul, reduceAdd, reduceSub, reduceCtorEq, rowV, cmpV, getD_4, getD_5, t0], by simp only [RS, RT, RZ, tsc0, tz0, nq0, bs0, bn0, reduceLT, reduceLeDiff, reduceEqDiff, reduceMul, reduceAdd, reduceSub, reduceCtorEq, rowV, cmpV, getD_4, getD_5, t1], by simp only [RS, RT, RZ, tsc0, tz0, nq0, bs0, bn0, reduceLT, reduceLeDiff, reduceEqDiff, reduceMul, reduceAdd, reduceSub, reduceCtorEq, rowV, cmpV, getD_4, getD_5, t2], by simp only [RS, RT, RZ, tsc0, tz0, nq0, bs0, bn0, reduceLT, reduceLeDiff, reduceEqDiff, reduceMul, reduceAdd, reduceSub, reduceCtorEq, rowV, cmpV, getD_4, getD_5, t3], by simp only [RS, RT, RZ, tsc0, tz0, nq0, bs0, bn0, reduceLT, reduceLeDiff, reduceEqDiff, reduceMul, reduceAdd, reduceSub, reduceCtorEq, rowV, cmpV, getD_4, getD_5, t4], ⟨true, by simp only [RS, RT, RZ, tsc0, tz0, nq0, bs0, bn0, reduceLT, reduceLeDiff, reduceEqDiff, reduceMul, reduceAdd, reduceSub, reduceCtorEq, rowV, cmpV, getD_4, getD_5, t10]⟩, ⟨false, by simp only [RS, RT, RZ, tsc0, tz0, nq0, bs0, bn0, reduceLT, reduceLeDiff, reduceEqDiff, reduceMul, reduceAdd, reduceSub, reduceCtorEq, rowV, cmpV, getD_4, getD_5, t11]⟩⟩, hI⟩
      | true =>
        have hc : (c == 1) = false := by simpa using hh
        simp only [RS, RT, RZ, tsc0, tz0, nq0, bs0, bn0, reduceLT, reduceLeDiff, reduceEqDiff, reduceMul, reduceAdd, reduceSub, reduceCtorEq, rowV, cmpV, getD_4, getD_5, s40_6, t0, t1, t2, t3, t4, t10, t11, t12, t13, t14, hc, DoneQ, runX_gu]
        exact ⟨cs, ⟨by simp only [RS, RT, RZ, tsc0, tz0, nq0, bs0, bn0, reduceLT, reduceLeDiff, reduceEqDiff, reduceMul, reduceAdd, reduceSub, reduceCtorEq, rowV, cmpV, getD_4, getD_5, t0], by simp only [RS, RT, RZ, tsc0, tz0, nq0, bs0, bn0, reduceLT, reduceLeDiff, reduceEqDiff, reduceMul, reduceAdd, reduceSub, reduceCtorEq, rowV, cmpV, getD_4, getD_5, t1], by simp only [RS, RT, RZ, tsc0, tz0, nq0, bs0, bn0, reduceLT, reduceLeDiff, reduceEqDiff, reduceMul, reduceAdd, reduceSub, reduceCtorEq, rowV, cmpV, getD_4, getD_5, t2], by simp only [RS, RT, RZ, tsc0, tz0, nq0, bs0, bn0, reduceLT, reduceLeDiff, reduceEqDiff, reduceMul, reduceAdd, reduceSub, reduceCtorEq, rowV, cmpV, getD_4, getD_5, t3], by simp only [RS, RT, RZ, tsc0, tz0, nq0, bs0, bn0, reduceLT, reduceLeDiff, reduceEqDiff, reduceMul, reduceAdd, reduceSub, reduceCtorEq, rowV, cmpV, getD_4, getD_5, t4], ⟨true, by simp only [RS, RT, RZ, tsc0, tz0, nq0, bs0, bn0, reduceLT, reduceLeDiff, reduceEqDiff, reduceMul, reduceAdd, reduceSub, reduceCtorEq, rowV, cmpV, getD_4, getD_5, t10]⟩, ⟨true, by simp only [RS, RT, RZ, tsc0, tz0, nq0, bs0, bn0, reduceLT, reduceLeDiff, reduceEqDiff, reduceMul, reduceAdd, reduceSub, reduceCtorEq, rowV, cmpV, getD_4, getD_5, t11]⟩⟩, hI⟩
  cases hh : (x && (y && (c == 1))) with
  | false => exact off hh
  | true =>
    simp only [Bool.and_eq_true] at hh
    obtain ⟨rfl, rfl, hc⟩ := hh
    obtain ⟨v, st', cs', c1, ⟨r, rfl⟩, hI'⟩ := par_c hK ok (a := a) (b := b) (by omega) hb hI
    obtain ⟨h, nx, lg⟩ := st
    obtain ⟨h1, nx1, lg1⟩ := st'
    simp only [rowV, cmpV] at t0 t4 c1
    cases r with
    | true =>
      simp only [RS, RT, RZ, tsc0, tz0, nq0, bs0, bn0, reduceLT, reduceLeDiff, reduceEqDiff, reduceMul, reduceAdd, reduceSub, reduceCtorEq, rowV, cmpV, getD_4, getD_5, s40_6, t0, t1, t2, t3, t4, t10, t11, t12, t13, t14, hc, DoneQ, c1]
      exact ⟨cs', hI'⟩
    | false =>
      simp only [RS, RT, RZ, tsc0, tz0, nq0, bs0, bn0, reduceLT, reduceLeDiff, reduceEqDiff, reduceMul, reduceAdd, reduceSub, reduceCtorEq, rowV, cmpV, getD_4, getD_5, s40_6, t0, t1, t2, t3, t4, t10, t11, t12, t13, t14, hc, DoneQ, c1]
      exact ⟨cs', ⟨by simp only [RS, RT, RZ, tsc0, tz0, nq0, bs0, bn0, reduceLT, reduceLeDiff, reduceEqDiff, reduceMul, reduceAdd, reduceSub, reduceCtorEq, rowV, cmpV, getD_4, getD_5, t0], by simp only [RS, RT, RZ, tsc0, tz0, nq0, bs0, bn0, reduceLT, reduceLeDiff, reduceEqDiff, reduceMul, reduceAdd, reduceSub, reduceCtorEq, rowV, cmpV, getD_4, getD_5, t1], by simp only [RS, RT, RZ, tsc0, tz0, nq0, bs0, bn0, reduceLT, reduceLeDiff, reduceEqDiff, reduceMul, reduceAdd, reduceSub, reduceCtorEq, rowV, cmpV, getD_4, getD_5, t2], by simp only [RS, RT, RZ, tsc0, tz0, nq0, bs0, bn0, reduceLT, reduceLeDiff, reduceEqDiff, reduceMul, reduceAdd, reduceSub, reduceCtorEq, rowV, cmpV, getD_4, getD_5, t3], by simp only [RS, RT, RZ, tsc0, tz0, nq0, bs0, bn0, reduceLT, reduceLeDiff, reduceEqDiff, reduceMul, reduceAdd, reduceSub, reduceCtorEq, rowV, cmpV, getD_4, getD_5, t4], ⟨true, by simp only [RS, RT, RZ, tsc0, tz0, nq0, bs0, bn0, reduceLT, reduceLeDiff, reduceEqDiff, reduceMul, reduceAdd, reduceSub, reduceCtorEq, rowV, cmpV, getD_4, getD_5, t10]⟩, ⟨true, by simp only [RS, RT, RZ, tsc0, tz0, nq0, bs0, bn0, reduceLT, reduceLeDiff, reduceEqDiff, reduceMul, reduceAdd, reduceSub, reduceCtorEq, rowV, cmpV, getD_4, getD_5, t11]⟩⟩, hI'⟩
theorem sg7 {a b L p : Nat} (hab : a + 12 < b) (hb : b ≤ G.cs0.length) (hp : a ≤ p ∧ p < b) {T : Nat → AV} {st : St} {cs : List AV} (hz : Z G a b L T) (t12 : T 12 = .int .i64 ((b - a : Nat) : Int)) (t13 : T 13 = .int .i64 (p : Int)) (hI : SI G cs st) :
    Post 148 [] none (execY (callW Q) Q false 40 none s40_7 ⟨T, 148, [], none⟩ st) fun e T' st' => (e = .norm ∧ ∃ (cs' : List AV), Z G a b L T' ∧ T' 12 = .int .i64 ((b - a : Nat) : Int) ∧ T' 13 = .int .i64 (p : Int) ∧ SI G cs' st') ∨ (e = .exit 1 ∧ ∃ (a' : Nat) (cs' : List AV), a < a' ∧ a' ≤ b ∧ Z G a' b L T' ∧ SI G cs' st') := by
  obtain ⟨t0, t1, t2, t3, t4, ⟨x, t10⟩, ⟨y, t11⟩⟩ := hz
  have hsm := ok.small
  by_cases ha : 0 < a
  · have ha' : decide ((0 : Int) < (a : Int)) = true := by rw [decide_eq_true_iff]; omega
    have l1 : a - 1 < G.cs0.length := by omega
    have l2 : p < G.cs0.length := by omega
    obtain ⟨v, v1, v2, v3, v4, v5⟩ := hI.el ok l1
    obtain ⟨w, w1, w2, w3, w4, w5⟩ := hI.el ok l2
    have hw := wrapN (z := (a : Int) - 1) (n := a - 1) (by omega) (by omega)
    obtain ⟨u, st', cs', c1, ⟨i, rfl, hi1, hi2⟩, hI'⟩ := peq_c hK ok (a := a) (b := b) (p := p) (by omega) hp hb hI
    obtain ⟨h, nx, lg⟩ := st
    obtain ⟨h1, nx1, lg1⟩ := st'
    obtain ⟨c, e1⟩ := hI.cmp ok v5 w5
    have hlen := hI.len
    have hrow := hI.row
    have hrn : G.r < nx := Nat.lt_of_lt_of_le ok.rn hI.nx
    simp only [rowV, cmpV] at t0 t4 c1 hrow
    cases g : decide (c < 0) with
    | false =>
      simp only [RS, RT, RZ, tsc0, tz0, nq0, bs0, bn0, reduceLT, reduceLeDiff, reduceEqDiff, reduceMul, reduceAdd, reduceSub, reduceCtorEq, hlen, hrn, hrow, idxX_row, lenX_row, Nat.zero_add, Nat.mul_one, splice_set, List.length_set, rowV, cmpV, s40_7, kd40_0, t0, t1, t2, t3, t4, t10, t11, t12, t13, ha', hw, l1, l2, v1, w1, e1, g, c1]
      exact ⟨i, cs', by omega, hi2, ⟨by simp only [RS, RT, RZ, tsc0, tz0, nq0, bs0, bn0, reduceLT, reduceLeDiff, reduceEqDiff, reduceMul, reduceAdd, reduceSub, reduceCtorEq, rowV, cmpV, getD_4, getD_5, t0], by simp only [RS, RT, RZ, tsc0, tz0, nq0, bs0, bn0, reduceLT, reduceLeDiff, reduceEqDiff, reduceMul, reduceAdd, reduceSub, reduceCtorEq, rowV, cmpV, getD_4, getD_5, ], by simp only [RS, RT, RZ, tsc0, tz0, nq0, bs0, bn0, reduceLT, reduceLeDiff, reduceEqDiff, reduceMul, reduceAdd, reduceSub, reduceCtorEq, rowV, cmpV, getD_4, getD_5, t2], by simp only [RS, RT, RZ, tsc0, tz0, nq0, bs0, bn0, reduceLT, reduceLeDiff, reduceEqDiff, reduceMul, reduceAdd, reduceSub, reduceCtorEq, rowV, cmpV, getD_4, getD_5, t3], by simp only [RS, RT, RZ, tsc0, tz0, nq0, bs0, bn0, reduceLT, reduceLeDiff, reduceEqDiff, reduceMul, reduceAdd, reduceSub, reduceCtorEq, rowV, cmpV, getD_4, getD_5, t4], ⟨x, by simp only [RS, RT, RZ, tsc0, tz0, nq0, bs0, bn0, reduceLT, reduceLeDiff, reduceEqDiff, reduceMul, reduceAdd, reduceSub, reduceCtorEq, rowV, cmpV, getD_4, getD_5, t10]⟩, ⟨y, by simp only [RS, RT, RZ, tsc0, tz0, nq0, bs0, bn0, reduceLT, reduceLeDiff, reduceEqDiff, reduceMul, reduceAdd, reduceSub, reduceCtorEq, rowV, cmpV, getD_4, getD_5, t11]⟩⟩, hI'⟩
    | true =>
      simp only [RS, RT, RZ, tsc0, tz0, nq0, bs0, bn0, reduceLT, reduceLeDiff, reduceEqDiff, reduceMul, reduceAdd, reduceSub, reduceCtorEq, hlen, hrn, hrow, idxX_row, lenX_row, Nat.zero_add, Nat.mul_one, splice_set, List.length_set, rowV, cmpV, s40_7, kd40_0, t0, t1, t2, t3, t4, t10, t11, t12, t13, ha', hw, l1, l2, v1, w1, e1, g, c1]
      exact ⟨cs, ⟨by simp only [RS, RT, RZ, tsc0, tz0, nq0, bs0, bn0, reduceLT, reduceLeDiff, reduceEqDiff, reduceMul, reduceAdd, reduceSub, reduceCtorEq, rowV, cmpV, getD_4, getD_5, t0], by simp only [RS, RT, RZ, tsc0, tz0, nq0, bs0, bn0, reduceLT, reduceLeDiff, reduceEqDiff, reduceMul, reduceAdd, reduceSub, reduceCtorEq, rowV, cmpV, getD_4, getD_5, t1], by simp only [RS, RT, RZ, tsc0, tz0, nq0, bs0, bn0, reduceLT, reduceLeDiff, reduceEqDiff, reduceMul, reduceAdd, reduceSub, reduceCtorEq, rowV, cmpV, getD_4, getD_5, t2], by simp only [RS, RT, RZ, tsc0, tz0, nq0, bs0, bn0, reduceLT, reduceLeDiff, reduceEqDiff, reduceMul, reduceAdd, reduceSub, reduceCtorEq, rowV, cmpV, getD_4, getD_5, t3], by simp only [RS, RT, RZ, tsc0, tz0, nq0, bs0, bn0, reduceLT, reduceLeDiff, reduceEqDiff, reduceMul, reduceAdd, reduceSub, reduceCtorEq, rowV, cmpV, getD_4, getD_5, t4], ⟨x, by simp only [RS, RT, RZ, tsc0, tz0, nq0, bs0, bn0, reduceLT, reduceLeDiff, reduceEqDiff, reduceMul, reduceAdd, reduceSub, reduceCtorEq, rowV, cmpV, getD_4, getD_5, t10]⟩, ⟨y, by simp only [RS, RT, RZ, tsc0, tz0, nq0, bs0, bn0, reduceLT, reduceLeDiff, reduceEqDiff, reduceMul, reduceAdd, reduceSub, reduceCtorEq, rowV, cmpV, getD_4, getD_5, t11]⟩⟩, hI⟩
  · have ha' : decide ((0 : Int) < (a : Int)) = false := by rw [decide_eq_false_iff_not]; omega
    obtain ⟨h, nx, lg⟩ := st
    simp only [RS, RT, RZ, tsc0, tz0, nq0, bs0, bn0, reduceLT, reduceLeDiff, reduceEqDiff, reduceMul, reduceAdd, reduceSub, reduceCtorEq, rowV, cmpV, getD_4, getD_5, s40_7, kd40_0, t0, t1, t2, t3, t4, t10, t11, t12, t13, ha']
    exact ⟨cs, ⟨by simp only [RS, RT, RZ, tsc0, tz0, nq0, bs0, bn0, reduceLT, reduceLeDiff, reduceEqDiff, reduceMul, reduceAdd, reduceSub, reduceCtorEq, rowV, cmpV, getD_4, getD_5, t0], by simp only [RS, RT, RZ, tsc0, tz0, nq0, bs0, bn0, reduceLT, reduceLeDiff, reduceEqDiff, reduceMul, reduceAdd, reduceSub, reduceCtorEq, rowV, cmpV, getD_4, getD_5, t1], by simp only [RS, RT, RZ, tsc0, tz0, nq0, bs0, bn0, reduceLT, reduceLeDiff, reduceEqDiff, reduceMul, reduceAdd, reduceSub, reduceCtorEq, rowV, cmpV, getD_4, getD_5, t2], by simp only [RS, RT, RZ, tsc0, tz0, nq0, bs0, bn0, reduceLT, reduceLeDiff, reduceEqDiff, reduceMul, reduceAdd, reduceSub, reduceCtorEq, rowV, cmpV, getD_4, getD_5, t3], by simp only [RS, RT, RZ, tsc0, tz0, nq0, bs0, bn0, reduceLT, reduceLeDiff, reduceEqDiff, reduceMul, reduceAdd, reduceSub, reduceCtorEq, rowV, cmpV, getD_4, getD_5, t4], ⟨x, by simp only [RS, RT, RZ, tsc0, tz0, nq0, bs0, bn0, reduceLT, reduceLeDiff, reduceEqDiff, reduceMul, reduceAdd, reduceSub, reduceCtorEq, rowV, cmpV, getD_4, getD_5, t10]⟩, ⟨y, by simp only [RS, RT, RZ, tsc0, tz0, nq0, bs0, bn0, reduceLT, reduceLeDiff, reduceEqDiff, reduceMul, reduceAdd, reduceSub, reduceCtorEq, rowV, cmpV, getD_4, getD_5, t11]⟩⟩, hI⟩
theorem sg8 {a b L p : Nat} (hab : a + 12 < b) (hb : b ≤ G.cs0.length) (hL : L < 100) (hp : a ≤ p ∧ p < b) (ih : ∀ a' b' st cs, b' - a' < b - a → a' ≤ b' → b' ≤ G.cs0.length → SI G cs st → ∃ v st' cs', callW Q (.fn 40) [rowV G, .int .i64 ((a' : Nat) : Int), .int .i64 ((b' : Nat) : Int), .int .i64 (L : Int), cmpV] .normal st = some (.ret v, st', none) ∧ v = .tuple [] ∧ SI G cs' st')
    {T : Nat → AV} {st : St} {cs : List AV} (hz : Z G a b L T) (t12 : T 12 = .int .i64 ((b - a : Nat) : Int)) (t13 : T 13 = .int .i64 (p : Int)) (hI : SI G cs st) :
    Post 148 [] none (execY (callW Q) Q false 40 none r40_8 ⟨T, 148, [], none⟩ st) fun e T' st' => (e = .norm ∧ ∃ (a' b' : Nat) (cs' : List AV), b' - a' < b - a ∧ a' ≤ b' ∧ b' ≤ b ∧ Z G a' b' L T' ∧ SI G cs' st') := by
  obtain ⟨t0, t1, t2, t3, t4, ⟨x, t10⟩, ⟨y, t11⟩⟩ := hz
  have hsm := ok.small
  obtain ⟨u, st1, cs1, c1, ⟨j, r, rfl, hj1, hj2⟩, hI1⟩ := part_c hK ok (a := a) (b := b) (p := p) (by omega) hp hb hI
  have w1 := wrapN (z := (j : Int) - (a : Int)) (n := j - a) (by omega) (by omega)
  have w2 := wrapN (z := (b : Int) - (j : Int)) (n := b - j) (by omega) (by omega)
  have w3 := wrapN (z := ((b - a : Nat) : Int).tdiv 8) (n := (b - a) / 8) rfl (by omega)
  have w4 := wrapN (z := (j : Int) + 1) (n := j + 1) (by omega) (by omega)
  by_cases hlr : j - a < b - j
  · obtain ⟨v, st2, cs2, c2, rfl, hI2⟩ := ih a j st1 cs1 (by omega) (by omega) (by omega) hI1
    obtain ⟨h, nx, lg⟩ := st
    obtain ⟨h1, nx1, lg1⟩ := st1
    obtain ⟨h2, nx2, lg2⟩ := st2
    simp only [rowV, cmpV] at t0 t4 c1 c2
    simp only [RS, RT, RZ, tsc0, tz0, nq0, bs0, bn0, reduceLT, reduceLeDiff, reduceEqDiff, reduceMul, reduceAdd, reduceSub, reduceCtorEq, rowV, cmpV, getD_4, getD_5, r40_8, r40_9, r40_10, r40_11, r40_12, r40_13, s40_8, s40_9, s40_10, s40_11, s40_12, s40_13, t0, t1, t2, t3, t4, t10, t11, t12, t13, w1, w2, w3, w4, i_quo, Int.reduceEq, c1, c2, hlr]
    exact ⟨j + 1, b, cs2, by omega, by omega, by omega, ⟨by simp only [RS, RT, RZ, tsc0, tz0, nq0, bs0, bn0, reduceLT, reduceLeDiff, reduceEqDiff, reduceMul, reduceAdd, reduceSub, reduceCtorEq, rowV, cmpV, getD_4, getD_5, t0], by simp only [RS, RT, RZ, tsc0, tz0, nq0, bs0, bn0, reduceLT, reduceLeDiff, reduceEqDiff, reduceMul, reduceAdd, reduceSub, reduceCtorEq, rowV, cmpV, getD_4, getD_5, ], by simp only [RS, RT, RZ, tsc0, tz0, nq0, bs0, bn0, reduceLT, reduceLeDiff, reduceEqDiff, reduceMul, reduceAdd, reduceSub, reduceCtorEq, rowV, cmpV, getD_4, getD_5, t2], by simp only [RS, RT, RZ, tsc0, tz0, nq0, bs0, bn0, reduceLT, reduceLeDiff, reduceEqDiff, reduceMul, reduceAdd, reduceSub, reduceCtorEq, rowV, cmpV, getD_4, getD_5, t3], by simp only [RS, RT, RZ, tsc0, tz0, nq0, bs0, bn0, reduceLT, reduceLeDiff, reduceEqDiff, reduceMul, reduceAdd, reduceSub, reduceCtorEq, rowV, cmpV, getD_4, getD_5, t4], ⟨_, by simp only [RS, RT, RZ, tsc0, tz0, nq0, bs0, bn0, reduceLT, reduceLeDiff, reduceEqDiff, reduceMul, reduceAdd, reduceSub, reduceCtorEq, rowV, cmpV, getD_4, getD_5, ]; rfl⟩, ⟨_, by simp only [RS, RT, RZ, tsc0, tz0, nq0, bs0, bn0, reduceLT, reduceLeDiff, reduceEqDiff, reduceMul, reduceAdd, reduceSub, reduceCtorEq, rowV, cmpV, getD_4, getD_5, ]; rfl⟩⟩, hI2⟩
  · obtain ⟨v, st2, cs2, c2, rfl, hI2⟩ := ih (j + 1) b st1 cs1 (by omega) (by omega) (by omega) hI1
    obtain ⟨h, nx, lg⟩ := st
    obtain ⟨h1, nx1, lg1⟩ := st1
    obtain ⟨h2, nx2, lg2⟩ := st2
    simp only [rowV, cmpV] at t0 t4 c1 c2
    simp only [RS, RT, RZ, tsc0, tz0, nq0, bs0, bn0, reduceLT, reduceLeDiff, reduceEqDiff, reduceMul, reduceAdd, reduceSub, reduceCtorEq, rowV, cmpV, getD_4, getD_5, r40_8, r40_9, r40_10, r40_11, r40_12, r40_13, s40_8, s40_9, s40_10, s40_11, s40_12, s40_13, t0, t1, t2, t3, t4, t10, t11, t12, t13, w1, w2, w3, w4, i_quo, Int.reduceEq, c1, c2, hlr]
    exact ⟨a, j, cs2, by omega, by omega, by omega, ⟨by simp only [RS, RT, RZ, tsc0, tz0, nq0, bs0, bn0, reduceLT, reduceLeDiff, reduceEqDiff, reduceMul, reduceAdd, reduceSub, reduceCtorEq, rowV, cmpV, getD_4, getD_5, t0], by simp only [RS, RT, RZ, tsc0, tz0, nq0, bs0, bn0, reduceLT, reduceLeDiff, reduceEqDiff, reduceMul, reduceAdd, reduceSub, reduceCtorEq, rowV, cmpV, getD_4, getD_5, t1], by simp only [RS, RT, RZ, tsc0, tz0, nq0, bs0, bn0, reduceLT, reduceLeDiff, reduceEqDiff, reduceMul, reduceAdd, reduceSub, reduceCtorEq, rowV, cmpV, getD_4, getD_5, ], by simp only [RS, RT, RZ, tsc0, tz0, nq0, bs0, bn0, reduceLT, reduceLeDiff, reduceEqDiff, reduceMul, reduceAdd, reduceSub, reduceCtorEq, rowV, cmpV, getD_4, getD_5, t3], by simp only [RS, RT, RZ, tsc0, tz0, nq0, bs0, bn0, reduceLT, reduceLeDiff, reduceEqDiff, reduceMul, reduceAdd, reduceSub, reduceCtorEq, rowV, cmpV, getD_4, getD_5, t4], ⟨_, by simp only [RS, RT, RZ, tsc0, tz0, nq0, bs0, bn0, reduceLT, reduceLeDiff, reduceEqDiff, reduceMul, reduceAdd, reduceSub, reduceCtorEq, rowV, cmpV, getD_4, getD_5, ]; rfl⟩, ⟨_, by simp only [RS, RT, RZ, tsc0, tz0, nq0, bs0, bn0, reduceLT, reduceLeDiff, reduceEqDiff, reduceMul, reduceAdd, reduceSub, reduceCtorEq, rowV, cmpV, getD_4, getD_5, ]; rfl⟩⟩, hI2⟩
theorem pdq_loop {M : Nat} (ih : ∀ a' b' L st cs, b' - a' < M → a' ≤ b' → b' ≤ G.cs0.length → L < 100 → SI G cs st → ∃ v st' cs', callW Q (.fn 40) [rowV G, .int .i64 ((a' : Nat) : Int), .int .i64 ((b' : Nat) : Int), .int .i64 ((L : Nat) : Int), cmpV] .normal st = some (.ret v, st', none) ∧ v = .tuple [] ∧ SI G cs' st') :
    ∀ (n : Nat) T st, (∃ (a b L : Nat) (cs : List AV), Z G a b L T ∧ L < 100 ∧ a ≤ b ∧ b ≤ G.cs0.length ∧ b - a ≤ M ∧ b - a ≤ n ∧ SI G cs st) →
    Post 148 [] none (execY (callW Q) Q false 40 none (.loop l40_0) ⟨T, 148, [], none⟩ st) fun e T' st' => DoneQ G e st' := by
  refine post_loop fun n T st => ?_
  rintro ⟨a, b, L, cs, hz, hL, hab, hb, hM, hn, hI⟩
  rw [l40_eq, execY_block]
  have key : Post 148 [] none (execY (callW Q) Q false 40 none r40_0 ⟨T, 148, [], none⟩ st) fun e T' st' => ((e = .norm ∨ e = .exit 1) ∧ ∃ (a' b' L' : Nat) (cs' : List AV), b' - a' < b - a ∧ a' ≤ b' ∧ b' ≤ b ∧ L' < 100 ∧ Z G a' b' L' T' ∧ SI G cs' st') ∨ DoneQ G e st' := by
    refine post_seq (M := fun T' st' => Z G a b L T' ∧ T' 12 = .int .i64 ((b - a : Nat) : Int) ∧ SI G cs st') ((sg0 hK ok hab hb hz hI).mono fun e T' st' h => .inl h) ?_
    rintro T st ⟨hz, t12, hI⟩
    refine post_seq (M := fun T' st' => Z G a b L T' ∧ T' 12 = .int .i64 ((b - a : Nat) : Int) ∧ a + 12 < b ∧ SI G cs st') ((sg1 hK ok hab hb hz t12 hI).mono fun e T' st' h => ?_) ?_
    · rcases h with h | h
      · exact .inl h
      · exact .inr ⟨by rw [h.1]; simp, .inr h⟩
    rintro T st ⟨hz, t12, hab12, hI⟩
    refine post_seq (M := fun T' st' => Z G a b L T' ∧ T' 12 = .int .i64 ((b - a : Nat) : Int) ∧ 1 ≤ L ∧ SI G cs st') ((sg2 hK ok hab hb hz t12 hI).mono fun e T' st' h => ?_) ?_
    · rcases h with h | h
      · exact .inl h
      · exact .inr ⟨by rw [h.1]; simp, .inr h⟩
    rintro T st ⟨hz, t12, hL1, hI⟩
    refine post_seq ((sg3 hK ok hab12 hb hL1 hL hz t12 hI).mono fun e T' st' h => .inl h) ?_
    rintro T st ⟨L', cs', hL', hz, t12, hI⟩
    refine post_seq ((sg4 hK ok hab12 hb hz t12 hI).mono fun e T' st' h => .inl h) ?_
    rintro T st ⟨p, c, cs', hz, t12, t13, t14, hp, hI⟩
    refine post_seq ((sg5 hK ok hab12 hb hp hz t12 t13 t14 hI).mono fun e T' st' h => .inl h) ?_
    rintro T st ⟨p, c, cs', hz, t12, t13, t14, hp, hI⟩
    refine post_seq (M := fun T' st' => ∃ (cs' : List AV), Z G a b L' T' ∧ T' 12 = .int .i64 ((b - a : Nat) : Int) ∧ T' 13 = .int .i64 (p : Int) ∧ SI G cs' st') ((sg6 hK ok hab12 hb hp hz t12 t13 t14 hI).mono fun e T' st' h => ?_) ?_
    · rcases h with h | h
      · exact .inl h
      · exact .inr ⟨by rw [h.1]; simp, .inr h⟩
    rintro T st ⟨cs', hz, t12, t13, hI⟩
    refine post_seq (M := fun T' st' => ∃ (cs' : List AV), Z G a b L' T' ∧ T' 12 = .int .i64 ((b - a : Nat) : Int) ∧ T' 13 = .int .i64 (p : Int) ∧ SI G cs' st') ((sg7 hK ok hab12 hb hp hz t12 t13 hI).mono fun e T' st' h => ?_) ?_
    · rcases h with h | ⟨rfl, a', cs', h1, h2, h3, h4⟩
      · exact .inl h
      · exact .inr ⟨by simp, .inl ⟨.inr rfl, a', b, L', cs', by omega, h2, Nat.le_refl _, hL', h3, h4⟩⟩
    rintro T st ⟨cs', hz, t12, t13, hI⟩
    refine (sg8 hK ok hab12 hb hL' hp (fun a' b' st cs h1 h2 h3 h4 => ih a' b' L' st cs (by omega) h2 h3 hL' h4) hz t12 t13 hI).mono fun e T' st' h => ?_
    obtain ⟨h0, a', b', cs'', h1, h2, h3, h4, h5⟩ := h
    exact .inl ⟨.inl h0, a', b', L', cs'', h1, h2, h3, hL', h4, h5⟩
  refine post_bind key fun e T' st' h => ?_
  rcases h with ⟨h0, a', b', L', cs', h1, h2, h3, h4, h5, h6⟩ | ⟨rfl, h⟩
  · have e0 : blockK 1 (e, ⟨T', 148, [], none⟩, st') = some (.norm, ⟨T', 148, [], none⟩, st') := by
      rcases h0 with rfl | rfl
      · exact blockK_norm
      · exact blockK_hit
    rw [e0]
    exact ⟨.norm, T', st', rfl, .inl ⟨rfl, b' - a', by omega, a', b', L', cs', h5, h4, h2, by omega, by omega, by omega, h6⟩⟩
  · exact ⟨.ret, T', st', rfl, .inr ⟨by simp, rfl, h⟩⟩
theorem pdq_c : ∀ (M a b L : Nat) (st : St) (cs : List AV), b - a < M → a ≤ b → b ≤ G.cs0.length → L < 100 → SI G cs st → ∃ v st' cs', callW Q (.fn 40) [rowV G, .int .i64 (a : Int), .int .i64 (b : Int), .int .i64 (L : Int), cmpV] .normal st = some (.ret v, st', none) ∧ v = .tuple [] ∧ SI G cs' st' := by
  intro M
  induction M with
  | zero => intro a b L st cs h; omega
  | succ M ih =>
    intro a b L st cs h hab hb hL hI
    refine sort_end (N := 148) (ok40 hK) (hK.nx _ _ _ rfl) rfl hI ?_
    have hsm := ok.small
    simp only [RS, RT, RZ, tsc0, tz0, nq0, bs0, bn0, reduceLT, reduceLeDiff, reduceEqDiff, reduceMul, reduceAdd, reduceSub, reduceCtorEq, rowV, cmpV, getD_4, getD_5, x40, kd40_0]
    refine post_bind (pdq_loop hK ok (M := M) (fun a' b' L st cs h1 h2 h3 h4 h5 => ih a' b' L st cs h1 h2 h3 h4 h5) (b - a) _ _ ⟨a, b, L, cs, ⟨by simp only [RS, RT, RZ, tsc0, tz0, nq0, bs0, bn0, reduceLT, reduceLeDiff, reduceEqDiff, reduceMul, reduceAdd, reduceSub, reduceCtorEq, rowV, cmpV, getD_4, getD_5, ], by simp only [RS, RT, RZ, tsc0, tz0, nq0, bs0, bn0, reduceLT, reduceLeDiff, reduceEqDiff, reduceMul, reduceAdd, reduceSub, reduceCtorEq, rowV, cmpV, getD_4, getD_5, ], by simp only [RS, RT, RZ, tsc0, tz0, nq0, bs0, bn0, reduceLT, reduceLeDiff, reduceEqDiff, reduceMul, reduceAdd, reduceSub, reduceCtorEq, rowV, cmpV, getD_4, getD_5, ], by simp only [RS, RT, RZ, tsc0, tz0, nq0, bs0, bn0, reduceLT, reduceLeDiff, reduceEqDiff, reduceMul, reduceAdd, reduceSub, reduceCtorEq, rowV, cmpV, getD_4, getD_5, ], by simp only [RS, RT, RZ, tsc0, tz0, nq0, bs0, bn0, reduceLT, reduceLeDiff, reduceEqDiff, reduceMul, reduceAdd, reduceSub, reduceCtorEq, rowV, cmpV, getD_4, getD_5, ], ⟨_, by simp only [RS, RT, RZ, tsc0, tz0, nq0, bs0, bn0, reduceLT, reduceLeDiff, reduceEqDiff, reduceMul, reduceAdd, reduceSub, reduceCtorEq, rowV, cmpV, getD_4, getD_5, ]; rfl⟩, ⟨_, by simp only [RS, RT, RZ, tsc0, tz0, nq0, bs0, bn0, reduceLT, reduceLeDiff, reduceEqDiff, reduceMul, reduceAdd, reduceSub, reduceCtorEq, rowV, cmpV, getD_4, getD_5, ]; rfl⟩⟩, hL, hab, hb, by omega, Nat.le_refl _, hI.fresh⟩) ?_
    rintro e T' st1 ⟨rfl, cs', hI'⟩
    simp only [RS, RT, RZ, tsc0, tz0, nq0, bs0, bn0, reduceLT, reduceLeDiff, reduceEqDiff, reduceMul, reduceAdd, reduceSub, reduceCtorEq, rowV, cmpV, getD_4, getD_5, F40]
    exact ⟨.tuple [], rfl, rfl, fun _ => rfl, rfl, cs', hI'⟩
theorem sort_c (hne : 1 ≤ G.cs0.length) {st : St} {cs : List AV} (hI : SI G cs st) : ∃ v st' cs', callW Q (.fn 26) [rowV G, cmpV] .normal st = some (.ret v, st', none) ∧ v = .tuple [] ∧ SI G cs' st' := by
  refine sort_end (N := 14) (ok26 hK) (hK.nx _ _ _ rfl) rfl hI ?_
  have hsm := ok.small
  obtain ⟨L, h1, h2, h3⟩ := len_c hK (n := G.cs0.length) (by omega) hne
  have tw3 := tw3 hK
  have tw85 := tw85 hK
  unfold T3 at tw3
  unfold T85 at tw85
  have e1 := wrapU (show G.cs0.length < 18446744073709551616 by omega)
  obtain ⟨v, st', cs', c1, rfl, hI'⟩ := pdq_c hK ok (G.cs0.length + 1) 0 G.cs0.length L ⟨st.heap, st.next, []⟩ cs (by omega) (by omega) (Nat.le_refl _) (by omega) hI.fresh
  obtain ⟨hh, nx, lg⟩ := st'
  simp only [rowV, cmpV, cast_0] at c1
  simp only [RS, RT, RZ, tsc0, tz0, nq0, bs0, bn0, reduceLT, reduceLeDiff, reduceEqDiff, reduceMul, reduceAdd, reduceSub, reduceCtorEq, rowV, cmpV, getD_4, getD_5, x26, F26, lenX_row, e1, h1, convA_int tw3 tw85, c1]
  exact ⟨.tuple [], rfl, rfl, fun _ => rfl, rfl, cs', hI'⟩
end
end Go.Proofs.P31
