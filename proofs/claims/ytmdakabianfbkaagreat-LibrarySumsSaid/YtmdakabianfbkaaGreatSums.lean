/- LibrarySums returns true at every input and leaves its arguments as they were: the statement as given, no further condition. -/
import Derived.Test.YtmdakabianfbkaaGreatS8
import Derived.Test.YtmdakabianfbkaaGreatRows
import Derived.WalkKit
import Derived.ProofKit
import Derived.OpenShut
import Derived.ShutString
import Derived.ChangeOld
import Derived.Below
import Derived.Carry
import Derived.SizedLaws
set_option linter.unusedVariables false
set_option linter.unusedSimpArgs false
set_option linter.unusedSectionVars false
namespace Go.Proofs.P31
open Go Go.AE
open Nat (reduceLT reduceLeDiff reduceEqDiff reduceMul reduceAdd reduceSub)
set_option maxHeartbeats 8000000
def LV.out (y : LV) : AV := .agg [.bool y.il, .int .i64 y.n, .slice y.k.forget (intsA y.es)]
section
variable {Q : Ctx} (hK : K Q)
include hK
theorem list9_c {k : SK} {l : List Int} : Ret Q 9 [.slice k (intsA l)] (.agg [.bool true, .int .i64 0, .slice k.forget (intsA l)]) := fun st => by
  refine callY0 (N := 5) (ok9 hK) (hK.nx _ _ _ rfl) rfl ?_
  simp only [RS, RT, RZ, tsc0, tz0, nq0, bs0, bn0, reduceLT, reduceLeDiff, reduceEqDiff, reduceMul, reduceAdd, reduceSub, reduceCtorEq, x9, F9, tw24 hK, T24]
  refine ⟨.agg [.bool true, .int .i64 0, .slice k (intsA l)], ⟨upd (upd st.heap st.next (.mem 24 [.bool false, .int .i64 0, .slice .nil []] true 0)) st.next (.mem 24 [.bool true, .int .i64 0, .slice k (intsA l)] true 0), st.next + 1, [st.next]⟩, rfl, ?_, ?_, ?_⟩
  · rw [hK.frz_ (show C.frz 9 = true by kernel_rfl), if_pos rfl]
    simp only [freezeR, freezeVs, freezeV, Option.map_some, untok, untok.untokL, untL_ints]
  · intro l hl; rw [List.mem_singleton] at hl; omega
  · cases k <;> simp [belowA, belowA.belowL, SK.forget, belL_ints]
theorem same_loop {k1 k2 : SK} {a b : List Int} (hl : a.length < 1000000) (hab : a.length = b.length) {s0 : St} : ∀ (n : Nat) T st, (∃ i : Nat, T 0 = .slice k1 (intsA a) ∧ T 1 = .slice k2 (intsA b) ∧ T 5 = .int .i64 (i : Int) ∧ i + n = a.length + 1 ∧ i ≤ a.length ∧ a.take i = b.take i ∧ st = s0) →
    Post 26 [] none (execY (callW Q) Q false 10 none (.loop l10_0) ⟨T, 26, [], none⟩ st) fun e T' st' => st' = s0 ∧ ((e = .ret ∧ T' 4 = .bool false ∧ a ≠ b) ∨ (e = .exit 0 ∧ a = b)) := by
  refine post_loop fun n T st => ?_
  rintro ⟨i, t0, t1, t5, hn, hi, hE, rfl⟩
  obtain ⟨h, nx, lg⟩ := st
  by_cases hc : i < a.length
  · have v1 : (intsA a)[i]? = some (.int .i64 a[i]) := by rw [intsA_at, List.getElem?_eq_getElem hc]; rfl
    have v2 : (intsA b)[i]? = some (.int .i64 b[i]) := by rw [intsA_at, List.getElem?_eq_getElem (by omega)]; rfl
    have w1 := wrapN (z := (i : Int) + 1) (n := i + 1) (by omega) (by omega)
    by_cases hd : a[i] = b[i]
    · have hd' : (a[i] != b[i]) = false := by simp [hd]
      simp only [RS, RT, RZ, tsc0, tz0, nq0, bs0, bn0, reduceLT, reduceLeDiff, reduceEqDiff, reduceMul, reduceAdd, reduceSub, reduceCtorEq, l10_0, kd10_0, t0, t1, t5, intsA_len, hc, v1, v2, hd', w1]
      refine ⟨n - 1, by omega, i + 1, rfl, by omega, by omega, ?_⟩
      rw [List.take_add_one, List.take_add_one, List.getElem?_eq_getElem hc, List.getElem?_eq_getElem (show i < b.length by omega), hE, hd]
    · have hd' : (a[i] != b[i]) = true := by simp [hd]
      simp only [RS, RT, RZ, tsc0, tz0, nq0, bs0, bn0, reduceLT, reduceLeDiff, reduceEqDiff, reduceMul, reduceAdd, reduceSub, reduceCtorEq, l10_0, kd10_0, t0, t1, t5, intsA_len, hc, v1, v2, hd']
      intro e; subst e; exact hd rfl
  · have : i = a.length := by omega
    subst this
    rw [List.take_of_length_le (Nat.le_refl _), List.take_of_length_le (by omega)] at hE
    simp only [RS, RT, RZ, tsc0, tz0, nq0, bs0, bn0, reduceLT, reduceLeDiff, reduceEqDiff, reduceMul, reduceAdd, reduceSub, reduceCtorEq, l10_0, kd10_0, t0, t1, t5, intsA_len, hc]
    exact hE
theorem same_c {k1 k2 : SK} {a b : List Int} (hl : a.length < 1000000) (hl2 : b.length < 1000000) : Ret Q 10 [.slice k1 (intsA a), .slice k2 (intsA b)] (.bool (decide (a = b))) := fun st => by
  by_cases hab : a.length = b.length
  · have hx : ∃ v, callW Q (.fn 10) [.slice k1 (intsA a), .slice k2 (intsA b)] .normal st = some (.ret v, st, none) ∧ v = .bool (decide (a = b)) := by
      refine callYe (N := 26) (ok10 hK) (hK.nx _ _ _ rfl) rfl ?_
      have hab' : ((a.length : Int) != (b.length : Int)) = false := by simp [hab]
      simp only [RS, RT, RZ, tsc0, tz0, nq0, bs0, bn0, reduceLT, reduceLeDiff, reduceEqDiff, reduceMul, reduceAdd, reduceSub, reduceCtorEq, x10, kd10_0, intsA_len, hab']
      refine post_bind (same_loop hK (k1 := k1) (k2 := k2) (a := a) (b := b) hl hab (s0 := ⟨st.heap, st.next, []⟩) (a.length + 1) _ _ ⟨0, ?_, ?_, ?_, by omega, by omega, rfl, rfl⟩) ?_
      all_goals try (simp only [RS, RT, RZ, tsc0, tz0, nq0, bs0, bn0, reduceLT, reduceLeDiff, reduceEqDiff, reduceMul, reduceAdd, reduceSub, reduceCtorEq, cast_0]; done)
      rintro e T' st1 ⟨rfl, ⟨rfl, t4, hne⟩ | ⟨rfl, he⟩⟩
      · simp only [RS, RT, RZ, tsc0, tz0, nq0, bs0, bn0, reduceLT, reduceLeDiff, reduceEqDiff, reduceMul, reduceAdd, reduceSub, reduceCtorEq, F10, t4]
        exact ⟨.bool false, rfl, by simp [hne], rfl⟩
      · simp only [RS, RT, RZ, tsc0, tz0, nq0, bs0, bn0, reduceLT, reduceLeDiff, reduceEqDiff, reduceMul, reduceAdd, reduceSub, reduceCtorEq, F10]
        exact ⟨.bool true, rfl, by simp [he], rfl⟩
    obtain ⟨v, h1, rfl⟩ := hx
    exact h1
  · have hab' : ((a.length : Int) != (b.length : Int)) = true := by simp; omega
    have hne : decide (a = b) = false := by
      rw [decide_eq_false_iff_not]; intro e; subst e; exact hab rfl
    rw [hne]
    refine callY (N := 26) (ok10 hK) (hK.nx _ _ _ rfl) rfl rfl ?_
    simp only [RS, RT, RZ, tsc0, tz0, nq0, bs0, bn0, reduceLT, reduceLeDiff, reduceEqDiff, reduceMul, reduceAdd, reduceSub, reduceCtorEq, x10, kd10_0, F10, intsA_len, hab']
end
end Go.Proofs.P31

namespace Go.Proofs.P31
open Go Go.AE
open Nat (reduceLT reduceLeDiff reduceEqDiff reduceMul reduceAdd reduceSub)
set_option maxHeartbeats 8000000
section
variable {Q : Ctx} (hK3 : K3 Q)
include hK3
theorem one_err {x : Fnd} (hx : x ∈ fnds) {v : AV} {l : List LV} {st : St} (hV : InV st.heap st.next v l) (hf : fitT x.ar x.few l = false) : callW Q (.fn 7) [.str x.nm, v] .normal st = some (.ret (.tuple [.agg [.bool false, .int .i64 0, .slice .nil []], .bool false]), st, none) := by
  have hK := hK3.toK
  refine callY (N := 34) (ok7 hK) (hK.nx _ _ _ rfl) rfl rfl ?_
  have c1 := means_err hK3 hx (v := v) (l := l) (st := ⟨upd st.heap st.next (.mem 24 [.bool false, .int .i64 0, .slice .nil []] true 0), st.next + 1, []⟩) (hV.mono (fun q hq _ => by simp only; rw [upd_ne _ _ (by omega)]) (by simp only; omega)) hf
  simp only [RS, RT, RZ, tsc0, tz0, nq0, bs0, bn0, reduceLT, reduceLeDiff, reduceEqDiff, reduceMul, reduceAdd, reduceSub, reduceCtorEq, x7, F7, c1, Int.reduceBEq, Int.reduceBNe, tw24 hK, T24]
theorem one_ok {x : Fnd} (hx : x ∈ fnds) {v : AV} {l : List LV} {st : St} {P : List LV → Prop} {R : LV → Prop} (hV : InV st.heap st.next v l) (hf : fitT x.ar x.few l = true)
    (hm : ∀ st, InV st.heap st.next v l → ∃ o st', callW Q (.fn x.f) [v] .normal st = some (.ret o, st', none) ∧ OutR P st st' o ∧ (true = true → ∃ r, o = .row r 0 1 none)) (hP : ∀ l, P l → ∃ y, l = [y] ∧ R y) :
    ∃ y, callW Q (.fn 7) [.str x.nm, v] .normal st = some (.ret (.tuple [LV.out y, .bool true]), st, none) ∧ R y := by
  have hK := hK3.toK
  obtain ⟨kk, es, ⟨h1, nx1, lg1⟩, c1, ⟨m1, m2, m3, m4, m5, m6, _⟩⟩ := means_c hK3 hx (v := v) (l := l) (n1 := true) (P := P) (st := ⟨upd st.heap st.next (.mem 24 [.bool false, .int .i64 0, .slice .nil []] true 0), st.next + 1, []⟩) (hV.mono (fun q hq _ => by simp only; rw [upd_ne _ _ (by omega)]) (by simp only; omega)) hf hm
  simp only at m2 m3 m4 m5 m6
  have hl1 := m2 trivial
  obtain ⟨e, rfl⟩ : ∃ e, es = [e] := by
    cases es with
    | nil => simp at hl1
    | cons e es => cases es with | nil => exact ⟨e, rfl⟩ | cons _ _ => simp at hl1
  obtain ⟨l', ⟨⟨⟨A, rfl, hA, hAn⟩, _, _⟩, A', _, _, hA1, hA2⟩, hPl⟩ := m3 e (by simp)
  cases hA1
  obtain ⟨y, rfl, hR⟩ := hP l' hPl
  refine ⟨y, ?_, hR⟩
  obtain ⟨yi, yn, yk, ye⟩ := y
  simp only [flatL, List.flatMap_cons, List.flatMap_nil, LV.cells, List.cons_append, List.nil_append] at hA
  have hn1 : h1 st.next = .mem 24 [.bool false, .int .i64 0, .slice .nil []] true 0 := by rw [m4 _ (by omega), upd_same]
  have e0 : (A = st.next) = False := eq_false (by omega)
  have f7 : Q.frz 7 = true := hK.frz_ (by kernel_rfl)
  refine callY0 (N := 34) (ok7 hK) (hK.nx _ _ _ rfl) rfl ?_
  simp only [RS, RT, RZ, tsc0, tz0, nq0, bs0, bn0, reduceLT, reduceLeDiff, reduceEqDiff, reduceMul, reduceAdd, reduceSub, reduceCtorEq, if_false, mkd_c, mb_t, mb_n, true_or, or_true, runX_buildM, flat_cons, flat_nil, cells_row, any_row, ic_row, Nat.lt_add_one, x7, F7, c1, Int.reduceBEq, Int.reduceBNe, tw24 hK, T24, lenX_row, idxX_row, Nat.zero_add, Nat.zero_mul, Nat.one_mul, List.getElem?_cons_zero, LV.out, hA, hn1, e0, cast_1]
  refine ⟨.tuple [.agg [.bool yi, .int .i64 yn, .slice yk (intsA ye)], .bool true], ⟨upd h1 st.next (.mem 24 [.bool yi, .int .i64 yn, .slice yk (intsA ye)] true 0), nx1, st.next :: lg1⟩, rfl, ?_, ?_, ?_⟩
  · rw [f7, if_pos rfl]
    simp only [freezeR, freezeVs, freezeV, Option.map_some, untok, untok.untokL, untL_ints]
  · intro q hq
    simp only [List.mem_cons] at hq
    rcases hq with rfl | hq
    · exact Nat.le_refl _
    · rcases m6 q hq with h | h
      · cases h
      · omega
  · cases yk <;> simp [LV.out, belowA, belowA.belowL, SK.forget, belL_ints]
end
end Go.Proofs.P31

namespace Go.Proofs.P31
open Go Go.AE
open Nat (reduceLT reduceLeDiff reduceEqDiff reduceMul reduceAdd reduceSub)
set_option maxHeartbeats 8000000
theorem fit_plus {a b : LV} : fitT fPlus.ar fPlus.few [a, b] = (okV 110 a && okV 110 b) := by simp [fitT, srtOf, fitsT, fewT, fPlus]
theorem fit_times {a b : LV} : fitT fTimes.ar fTimes.few [a, b] = (okV 110 a && okV 110 b) := by simp [fitT, srtOf, fitsT, fewT, fTimes]
theorem fit_append {a b : LV} : fitT fAppend.ar fAppend.few [a, b] = (okV 108 a && okV 108 b) := by simp [fitT, srtOf, fitsT, fewT, fAppend]
theorem fit_split {a : LV} : fitT fSplit.ar fSplit.few [a] = okV 108 a := by simp [fitT, srtOf, fitsT, fewT, fSplit]
theorem fit_sorted {a : LV} : fitT fSorted.ar fSorted.few [a] = okV 108 a := by simp [fitT, srtOf, fitsT, fewT, fSorted]
theorem fit_perm {a : LV} : fitT fPerm.ar fPerm.few [a] = (okV 108 a && decide (a.es.length ≤ 6)) := by simp [fitT, srtOf, fitsT, fewT, fPerm]
theorem fit_sort {a : LV} : fitT fSort.ar fSort.few [a] = (okV 108 a && decide (a.es.length ≤ 6)) := by simp [fitT, srtOf, fitsT, fewT, fSort]
theorem okV_l {n : Int} {k : SK} {l : List Int} : okV 108 ⟨true, n, k, l⟩ = isListT l := by simp [okV]
theorem inPlus : fPlus ∈ fnds := by simp [fnds]
theorem inTimes : fTimes ∈ fnds := by simp [fnds]
theorem inAppend : fAppend ∈ fnds := by simp [fnds]
theorem inSplit : fSplit ∈ fnds := by simp [fnds]
theorem inPerm : fPerm ∈ fnds := by simp [fnds]
theorem inSorted : fSorted ∈ fnds := by simp [fnds]
theorem inSort : fSort ∈ fnds := by simp [fnds]
theorem inV_slice {h : Nat → AO} {nx : Nat} {k : SK} {l : List LV} (hl : l.length < 1000000) : InV h nx (.slice k (l.map LV.av)) l := ⟨.inl ⟨k, rfl⟩, hl⟩
def zeroLV : LV := ⟨false, 0, .nil, []⟩
section
variable {Q : Ctx} (hK3 : K3 Q)
include hK3
theorem plus_one {a b : LV} (hf : (okV 110 a && okV 110 b) = true) : ∀ k st, callW Q (.fn 7) [.str fPlus.nm, .slice k [a.av, b.av]] .normal st = some (.ret (.tuple [LV.out ⟨false, IntKind.i64.wrap (a.n + b.n), .nil, []⟩, .bool true]), st, none) := fun k st => by
  obtain ⟨y, h1, rfl⟩ := one_ok hK3 (x := fPlus) inPlus (v := .slice k [a.av, b.av]) (l := [a, b]) (st := st) (R := fun y => y = ⟨false, IntKind.i64.wrap (a.n + b.n), .nil, []⟩) (inV_slice (l := [a, b]) (by simp)) (fit_plus.trans hf) (fun st _ => plus_c hK3.toK) (fun l h => ⟨_, h, rfl⟩)
  exact h1
theorem times_one {a b : LV} (hf : (okV 110 a && okV 110 b) = true) : ∀ k st, callW Q (.fn 7) [.str fTimes.nm, .slice k [a.av, b.av]] .normal st = some (.ret (.tuple [LV.out ⟨false, IntKind.i64.wrap (a.n * b.n), .nil, []⟩, .bool true]), st, none) := fun k st => by
  obtain ⟨y, h1, rfl⟩ := one_ok hK3 (x := fTimes) inTimes (v := .slice k [a.av, b.av]) (l := [a, b]) (st := st) (R := fun y => y = ⟨false, IntKind.i64.wrap (a.n * b.n), .nil, []⟩) (inV_slice (l := [a, b]) (by simp)) (fit_times.trans hf) (fun st _ => times_c hK3.toK) (fun l h => ⟨_, h, rfl⟩)
  exact h1
theorem plus_both {a b : LV} : ∃ (y : LV) (o : Bool), (∀ k st, callW Q (.fn 7) [.str fPlus.nm, .slice k [a.av, b.av]] .normal st = some (.ret (.tuple [y.out, .bool o]), st, none)) ∧ ∀ k st, callW Q (.fn 7) [.str fPlus.nm, .slice k [b.av, a.av]] .normal st = some (.ret (.tuple [y.out, .bool o]), st, none) := by
  cases hf : (okV 110 a && okV 110 b) with
  | true =>
    refine ⟨_, true, plus_one hK3 hf, ?_⟩
    have := plus_one hK3 (a := b) (b := a) (by rw [Bool.and_comm]; exact hf)
    rw [Int.add_comm] at this
    exact this
  | false =>
    exact ⟨zeroLV, false, fun k st => one_err hK3 inPlus (inV_slice (l := [a, b]) (by simp)) (fit_plus.trans hf), fun k st => one_err hK3 inPlus (inV_slice (l := [b, a]) (by simp)) (fit_plus.trans (by rw [Bool.and_comm]; exact hf))⟩
theorem times_both {a b : LV} : ∃ (y : LV) (o : Bool), (∀ k st, callW Q (.fn 7) [.str fTimes.nm, .slice k [a.av, b.av]] .normal st = some (.ret (.tuple [y.out, .bool o]), st, none)) ∧ ∀ k st, callW Q (.fn 7) [.str fTimes.nm, .slice k [b.av, a.av]] .normal st = some (.ret (.tuple [y.out, .bool o]), st, none) := by
  cases hf : (okV 110 a && okV 110 b) with
  | true =>
    refine ⟨_, true, times_one hK3 hf, ?_⟩
    have := times_one hK3 (a := b) (b := a) (by rw [Bool.and_comm]; exact hf)
    rw [Int.mul_comm] at this
    exact this
  | false =>
    exact ⟨zeroLV, false, fun k st => one_err hK3 inTimes (inV_slice (l := [a, b]) (by simp)) (fit_times.trans hf), fun k st => one_err hK3 inTimes (inV_slice (l := [b, a]) (by simp)) (fit_times.trans (by rw [Bool.and_comm]; exact hf))⟩
theorem append_one {A : Nat} {a b : LV} {st : St} (hA : st.heap A = .mem 24 (flatL [a, b]) true 0) (hAn : A < st.next) (hf : (okV 108 a && okV 108 b) = true) (ha : a.es.length ≤ 12) (hb : b.es.length ≤ 12) :
    ∃ y : LV, callW Q (.fn 7) [.str fAppend.nm, .row A 0 2 none] .normal st = some (.ret (.tuple [y.out, .bool true]), st, none) ∧ y.es = a.es ++ b.es := by
  refine one_ok hK3 (x := fAppend) inAppend (v := .row A 0 2 none) (l := [a, b]) (st := st) (P := fun l => ∃ k, l = [⟨true, 0, k, a.es ++ b.es⟩]) (R := fun y => y.es = a.es ++ b.es) ⟨.inr ⟨A, rfl, hA, hAn⟩, by simp⟩ (fit_append.trans hf) (fun st hV => ?_) (fun l ⟨k, h⟩ => ⟨_, h, rfl⟩)
  obtain ⟨⟨k, h1⟩ | ⟨A', h1, h2, h3⟩, _⟩ := hV
  · cases h1
  · cases h1
    have mono : ∀ {P1 P2 : List LV → Prop} {s0 s1 : St} {v : AV}, (∀ l, P1 l → P2 l) → OutR P1 s0 s1 v → OutR P2 s0 s1 v := fun hp ⟨⟨r, cells, fu, e1, e2, e3, e4, e5, e6, e7⟩, o, n, lg⟩ => ⟨⟨r, cells, fu, e1, e2, e3, e4, e5, e6, fun c hc => by
      obtain ⟨l, h8, h9⟩ := e7 c hc
      exact ⟨l, h8, hp l h9⟩⟩, o, n, lg⟩
    by_cases hpos : 0 < a.es.length + b.es.length
    · obtain ⟨o, st', c1, c2, c3⟩ := append_c hK3.toK (A := A) (a := a) (b := b) (st := st) h2 h3 (by omega) (by omega) hpos
      exact ⟨o, st', c1, mono (fun l h => ⟨_, h⟩) c2, c3⟩
    · obtain ⟨ai, an, ak, ae⟩ := a
      obtain ⟨bi, bn, bk, be⟩ := b
      simp only at hpos
      obtain rfl : ae = [] := List.eq_nil_of_length_eq_zero (by omega)
      obtain rfl : be = [] := List.eq_nil_of_length_eq_zero (by omega)
      obtain ⟨o, st', c1, c2, c3⟩ := append_0 hK3.toK (A := A) (ai := ai) (bi := bi) (an := an) (bn := bn) (ak := ak) (bk := bk) (st := st) h2 h3
      exact ⟨o, st', c1, mono (fun l h => ⟨_, h⟩) c2, c3⟩
theorem sort_one {v : AV} {a : LV} {st : St} (hV : InV st.heap st.next v [a]) (hf : (okV 108 a && decide (a.es.length ≤ 6)) = true) :
    ∃ y : LV, callW Q (.fn 7) [.str fSort.nm, v] .normal st = some (.ret (.tuple [y.out, .bool true]), st, none) ∧ (y.es.Perm a.es ∧ Ord y.es y.es.length) := by
  have hl : a.es.length ≤ 6 := by
    rw [Bool.and_eq_true, decide_eq_true_iff] at hf; exact hf.2
  exact one_ok hK3 (x := fSort) inSort (v := v) (l := [a]) (st := st) (P := sortP a.es) (R := fun y => y.es.Perm a.es ∧ Ord y.es y.es.length) hV (fit_sort.trans hf) (fun st hV => sort70_c hK3.toK hV (by omega)) (fun l ⟨L, k, h1, h2, h3⟩ => ⟨_, h1, h2, h3⟩)
end
end Go.Proofs.P31

namespace Go.Proofs.P31
open Go Go.AE
open Nat (reduceLT reduceLeDiff reduceEqDiff reduceMul reduceAdd reduceSub)
theorem isListT_app {a b : List Int} (h : isListT (a ++ b) = true) : isListT a = true ∧ isListT b = true ∧ a.length ≤ 12 ∧ b.length ≤ 12 := by
  simp only [isListT, Bool.and_eq_true, decide_eq_true_iff, List.all_append, List.length_append] at h ⊢
  exact ⟨⟨by omega, h.2.1⟩, ⟨by omega, h.2.2⟩, by omega, by omega⟩
theorem isListT_perm {a b : List Int} (h : a.Perm b) : isListT a = isListT b := by
  have h1 : a.all isNumT = b.all isNumT := by
    rw [Bool.eq_iff_iff, List.all_eq_true, List.all_eq_true]
    exact ⟨fun hh x hx => hh x (h.mem_iff.2 hx), fun hh x hx => hh x (h.mem_iff.1 hx)⟩
  simp only [isListT, h.length_eq, h1]
theorem ord_pair {l : List Int} (h : Ord l l.length) : l.Pairwise (· ≤ ·) := by
  rw [List.pairwise_iff_getElem]
  intro i j hi hj hij
  exact h i j _ _ hij (by omega) (List.getElem?_eq_getElem hi) (List.getElem?_eq_getElem hj)
theorem pair_eq : ∀ {a b : List Int}, a.Perm b → a.Pairwise (· ≤ ·) → b.Pairwise (· ≤ ·) → a = b
  | [], b, h, _, _ => by rw [h.nil_eq]
  | x :: a, [], h, _, _ => by have := h.length_eq; simp at this
  | x :: a, y :: b, h, ha, hb => by
    have hxy : x = y := by
      have h1 : x ∈ y :: b := h.mem_iff.1 (by simp)
      have h2 : y ∈ x :: a := h.mem_iff.2 (by simp)
      rcases List.mem_cons.1 h1 with h1 | h1
      · exact h1
      · rcases List.mem_cons.1 h2 with h2 | h2
        · exact h2.symm
        · have h3 := List.rel_of_pairwise_cons ha h2
          have h4 := List.rel_of_pairwise_cons hb h1
          omega
    subst hxy
    rw [pair_eq (h.cons_inv) ha.of_cons hb.of_cons]
theorem ord_unique {a b : List Int} (h : a.Perm b) (ha : Ord a a.length) (hb : Ord b b.length) : a = b := pair_eq h (ord_pair ha) (ord_pair hb)
end Go.Proofs.P31

namespace Go.Proofs.P31
open Go Go.AE
open Nat (reduceLT reduceLeDiff reduceEqDiff reduceMul reduceAdd reduceSub)
set_option maxHeartbeats 8000000
def Keep (h0 : Nat → AO) (n0 : Nat) (st : St) : Prop := n0 ≤ st.next ∧ ∀ q, q < n0 → st.heap q = h0 q
theorem Keep.row {h0 : Nat → AO} {n0 : Nat} {st : St} (k : Keep h0 n0 st) {v : AV} {l : List LV} (a : RowL h0 n0 v l) : RowL st.heap st.next v l := a.mono (fun q hq _ => k.2 q hq) k.1
theorem Keep.trans {h0 h1 : Nat → AO} {n0 n1 : Nat} {st : St} (k : Keep h0 n0 ⟨h1, n1, []⟩) (k2 : Keep h1 n1 st) : Keep h0 n0 st := ⟨Nat.le_trans k.1 k2.1, fun q hq => by rw [k2.2 q (Nat.lt_of_lt_of_le hq k.1)]; exact k.2 q hq⟩
section
variable {Q : Ctx} (hK3 : K3 Q)
include hK3
theorem loop0_end {T : Nat → AV} {st : St} (t16 : T 16 = .slice .nil []) (t18 : T 18 = .int .i64 0) : Post 198 [] none (execY (callW Q) Q false 3 none (.loop l3_0) ⟨T, 198, [], none⟩ st) fun e T' st' => e = .exit 0 ∧ T' 2 = T 2 ∧ st' = st := by
  have hK := hK3.toK
  have d0 : decide ((0 : Int) < 0) = false := by decide
  obtain ⟨h, nx, lg⟩ := st
  rw [execY_loop]
  simp only [RS, RT, RZ, tsc0, tz0, nq0, bs0, bn0, reduceLT, reduceLeDiff, reduceEqDiff, reduceMul, reduceAdd, reduceSub, reduceCtorEq, l3_0, kd3_0, t16, t18, d0, cast_0]
theorem loop0_c {kk k : SK} {es : List AV} {l : List Int} (hes : es.length < 1000000) (hl : isListT l = true) {h0 : Nat → AO} {n0 : Nat} (hR : ∀ e ∈ es, ∃ l', RowL h0 n0 e l' ∧ splitP l l') :
    ∀ (n : Nat) T st, (∃ i : Nat, T 2 = .slice k (intsA l) ∧ T 16 = .slice kk es ∧ T 17 = .int .i64 0 ∧ T 18 = .int .i64 (i : Int) ∧ i + n = es.length + 1 ∧ i ≤ es.length ∧ Keep h0 n0 st) →
      Post 198 [] none (execY (callW Q) Q false 3 none (.loop l3_0) ⟨T, 198, [], none⟩ st) fun e T' st' => e = .exit 0 ∧ T' 2 = .slice k (intsA l) ∧ Keep h0 n0 st' := by
  have hK := hK3.toK
  have hl12 : l.length ≤ 12 := by
    simp only [isListT, Bool.and_eq_true, decide_eq_true_iff] at hl; exact hl.1
  refine post_loop fun n T st => ?_
  rintro ⟨i, t2, t16, t17, t18, hn, hi, hKp⟩
  by_cases hc : i < es.length
  · obtain ⟨l', hr, a, b, rfl, hab, hai, hbi⟩ := hR es[i] (List.getElem_mem hc)
    obtain ⟨⟨A, hA1, hA2, hA3⟩, _, _⟩ := hKp.row hr
    have v1 : es[i]? = some (.row A 0 2 none) := by rw [List.getElem?_eq_getElem hc, hA1]; rfl
    have w1 := wrapN (z := (i : Int) + 1) (n := i + 1) (by omega) (by omega)
    rw [← hab] at hl
    obtain ⟨f1, f2, f3, f4⟩ := isListT_app hl
    have fa : (okV 108 a && okV 108 b) = true := by simp [okV, hai, hbi, f1, f2]
    obtain ⟨y, c1, c2⟩ := append_one hK3 (A := A) (a := a) (b := b) (st := st) hA2 hA3 fa f3 f4
    rw [hab] at c2
    have c3 := same_c hK (k1 := y.k.forget) (k2 := k) (a := y.es) (b := l) (by rw [c2]; omega) (by omega)
    rw [c2, decide_eq_true rfl] at c3
    obtain ⟨h, nx, lg⟩ := st
    simp only [LV.out, fAppend] at c1
    rw [c2] at c1
    simp only [RS, RT, RZ, tsc0, tz0, nq0, bs0, bn0, reduceLT, reduceLeDiff, reduceEqDiff, reduceMul, reduceAdd, reduceSub, reduceCtorEq, if_false, mkd_c, mb_t, mb_n, true_or, or_true, runX_buildM, flat_cons, flat_nil, cells_row, any_row, ic_row, Nat.lt_add_one, l3_0, kd3_0, t2, t16, t17, t18, hc, v1, c1, c3, w1]
    exact ⟨n - 1, by omega, i + 1, rfl, by omega, by omega, by simp only; have := hKp.1; simp only at this; omega, fun q hq => by
      have h1 := hKp.1
      have h2 := hKp.2 q hq
      simp only at h1 h2 ⊢
      rw [upd_ne _ _ (by omega), upd_ne _ _ (by omega)]; exact h2⟩
  · have : i = es.length := by omega
    subst this
    obtain ⟨h, nx, lg⟩ := st
    simp only [RS, RT, RZ, tsc0, tz0, nq0, bs0, bn0, reduceLT, reduceLeDiff, reduceEqDiff, reduceMul, reduceAdd, reduceSub, reduceCtorEq, l3_0, kd3_0, t2, t16, t17, t18, hc]
    exact hKp
theorem loop1_c {kk k kf kL : SK} {es : List AV} {l L : List Int} {A1 : Nat} (hes : es.length < 1000000) (hl : isListT l = true) (hl6 : l.length ≤ 6) (hL : L.Perm l) (hO : Ord L L.length) {h0 : Nat → AO} {n0 : Nat} (hR : ∀ e ∈ es, ∃ l', RowL h0 n0 e l' ∧ permP l l') (hA : h0 A1 = .mem 24 [.bool true, .int .i64 0, .slice kL (intsA L)] true 0) (hAn : A1 < n0) :
    ∀ (n : Nat) T st, (∃ i : Nat, T 2 = .slice k (intsA l) ∧ T 21 = .slice kf [.row A1 0 1 none] ∧ T 23 = .slice kk es ∧ T 25 = .int .i64 (i : Int) ∧ i + n = es.length + 1 ∧ i ≤ es.length ∧ Keep h0 n0 st) →
      Post 198 [] none (execY (callW Q) Q false 3 none (.loop l3_1) ⟨T, 198, [], none⟩ st) fun e T' st' => e = .exit 2 ∧ T' 2 = .slice k (intsA l) ∧ T' 21 = .slice kf [.row A1 0 1 none] ∧ Keep h0 n0 st' := by
  have hK := hK3.toK
  refine post_loop fun n T st => ?_
  rintro ⟨i, t2, t21, t23, t25, hn, hi, hKp⟩
  by_cases hc : i < es.length
  · obtain ⟨l', hr, kp, o, rfl, hop⟩ := hR es[i] (List.getElem_mem hc)
    have hr2 := hKp.row hr
    obtain ⟨⟨A, hA1, hA2, hA3⟩, _, _⟩ := hr2
    have v1 : es[i]? = some (.row A 0 1 none) := by rw [List.getElem?_eq_getElem hc, hA1]; rfl
    have w1 := wrapN (z := (i : Int) + 1) (n := i + 1) (by omega) (by omega)
    have hol := hop.length_eq
    have fa : (okV 108 ⟨true, 0, kp, o⟩ && decide (o.length ≤ 6)) = true := by
      rw [okV_l, isListT_perm hop, hl, Bool.true_and, decide_eq_true_iff]; omega
    obtain ⟨y, c1, c2, c4⟩ := sort_one hK3 (v := .row A 0 1 none) (a := ⟨true, 0, kp, o⟩) (st := st) ⟨.inr ⟨A, rfl, hA2, hA3⟩, by simp⟩ fa
    have hyL : y.es = L := ord_unique (c2.trans (hop.trans hL.symm)) c4 hO
    have hLl := hL.length_eq
    have c3 := same_c hK (k1 := y.k.forget) (k2 := kL) (a := y.es) (b := L) (by rw [hyL]; omega) (by omega)
    rw [hyL, decide_eq_true rfl] at c3
    obtain ⟨h, nx, lg⟩ := st
    have hKp1 := hKp.1
    simp only at hKp1
    have hAh : h A1 = .mem 24 [.bool true, .int .i64 0, .slice kL (intsA L)] true 0 := by
      have := hKp.2 A1 hAn
      simp only at this
      rw [this]; exact hA
    have eA : (A1 = nx) = False := eq_false (by omega)
    simp only [LV.out, fSort] at c1
    rw [hyL] at c1
    simp only [RS, RT, RZ, tsc0, tz0, nq0, bs0, bn0, reduceLT, reduceLeDiff, reduceEqDiff, reduceMul, reduceAdd, reduceSub, reduceCtorEq, if_false, mkd_c, mb_t, mb_n, true_or, or_true, runX_buildM, flat_cons, flat_nil, cells_row, any_row, ic_row, Nat.lt_add_one, l3_1, kd3_0, t2, t21, t23, t25, hc, v1, c1, c3, w1, idxX_row, Nat.zero_add, Nat.zero_mul, hAh, eA, List.getElem?_cons_zero]
    exact ⟨n - 1, by omega, i + 1, rfl, by omega, by omega, by simp only; omega, fun q hq => by
      have h2 := hKp.2 q hq
      simp only at h2 ⊢
      rw [upd_ne _ _ (by omega), upd_ne _ _ (by omega)]; exact h2⟩
  · have : i = es.length := by omega
    subst this
    obtain ⟨h, nx, lg⟩ := st
    simp only [RS, RT, RZ, tsc0, tz0, nq0, bs0, bn0, reduceLT, reduceLeDiff, reduceEqDiff, reduceMul, reduceAdd, reduceSub, reduceCtorEq, l3_1, kd3_0, t2, t21, t23, t25, hc]
    exact hKp
end
end Go.Proofs.P31

namespace Go.Proofs.P31
open Go Go.AE
open Nat (reduceLT reduceLeDiff reduceEqDiff reduceMul reduceAdd reduceSub)
set_option maxHeartbeats 8000000
set_option maxRecDepth 10000
theorem post_call {N : Nat} {D : List ADef} {pv : Option AV} {R : EX → (Nat → AV) → St → Prop} {k : Fr → St → Option Out} {d : Option Tmp} {fr : Fr} {r : Option (CR × St × Option AV)} {K : Out → Option Out} {P : AV → St → Prop} (h : ∃ v st', r = some (.ret v, st', none) ∧ P v st')
    (hk : ∀ v h' nx' lg', P v ⟨h', nx', lg'⟩ → Post N D pv ((callK k d fr (some (.ret v, ⟨h', nx', lg'⟩, none))).bind K) R) : Post N D pv ((callK k d fr r).bind K) R := by
  obtain ⟨v, ⟨h', nx', lg'⟩, rfl, h2⟩ := h
  exact hk v h' nx' lg' h2
def SplitR (l : List Int) (v : AV) (st : St) : Prop := (isListT l = false ∧ v = .tuple [.slice .nil [], .int .i64 1]) ∨
  (isListT l = true ∧ ∃ kk es, v = .tuple [.slice kk es, .int .i64 0] ∧ es.length < 1000000 ∧ ∀ e ∈ es, ∃ l', RowL st.heap st.next e l' ∧ splitP l l')
def SortR (l : List Int) (v : AV) (st : St) : Prop := ((isListT l && decide (l.length ≤ 6)) = false ∧ v = .tuple [.slice .nil [], .int .i64 1]) ∨
  ((isListT l && decide (l.length ≤ 6)) = true ∧ ∃ kf A kL L, v = .tuple [.slice kf [.row A 0 1 none], .int .i64 0] ∧ st.heap A = .mem 24 [.bool true, .int .i64 0, .slice kL (intsA L)] true 0 ∧ A < st.next ∧ L.Perm l ∧ Ord L L.length)
def PermR (l : List Int) (st0 : St) (v : AV) (st : St) : Prop := Keep st0.heap st0.next st ∧ (((isListT l && decide (l.length ≤ 6)) = false ∧ v = .tuple [.slice .nil [], .int .i64 1]) ∨
  ((isListT l && decide (l.length ≤ 6)) = true ∧ ∃ kk es, v = .tuple [.slice kk es, .int .i64 0] ∧ 1 ≤ es.length ∧ es.length < 1000000 ∧ ∀ e ∈ es, ∃ l', RowL st.heap st.next e l' ∧ permP l l'))
def SortedR (l : List Int) (st0 : St) (v : AV) (st : St) : Prop := Keep st0.heap st0.next st ∧ ((Ord l l.length ∧ ∃ kk e, v = .tuple [.slice kk [e], .int .i64 0]) ∨ (¬ Ord l l.length ∧ v = .tuple [.slice .nil [], .int .i64 0]))
section
variable {Q : Ctx} (hK3 : K3 Q)
include hK3
theorem beqB {a b : Bool} {xo yo : Operand} : binA Q .eql 4 xo yo (.bool a) (.bool b) = some (.bool (a == b)) := by
  have t := tw4 hK3.toK
  unfold T4 at t
  simp [binA, eqV, t, boolA]
theorem bneB {a b : Bool} {xo yo : Operand} : binA Q .neq 4 xo yo (.bool a) (.bool b) = some (.bool (a != b)) := by
  have t := tw4 hK3.toK
  unfold T4 at t
  simp [binA, eqV, t, boolA]
  cases a <;> cases b <;> rfl
theorem split_r {k k0 : SK} {l : List Int} (hk : SK.isNil k = true → l = []) (st : St) : ∃ v st', callW Q (.fn 8) [.str fSplit.nm, .slice k0 [.agg [.bool true, .int .i64 0, .slice k (intsA l)]]] .normal st = some (.ret v, st', none) ∧ SplitR l v st' := by
  have hV : ∀ st : St, InV st.heap st.next (.slice k0 [.agg [.bool true, .int .i64 0, .slice k (intsA l)]]) [⟨true, 0, k, l⟩] := fun st => inV_slice (l := [⟨true, 0, k, l⟩]) (by simp)
  cases hf : isListT l with
  | false => exact ⟨_, st, means_err hK3 inSplit (hV st) (fit_split.trans (okV_l.trans hf)), .inl ⟨hf, rfl⟩⟩
  | true =>
    have hl : l.length ≤ 12 := by
      have := hf
      simp only [isListT, Bool.and_eq_true, decide_eq_true_iff] at this; exact this.1
    obtain ⟨kk, es, st', c1, hM⟩ := means_c hK3 inSplit (P := splitP l) (n1 := false) (hV st) (fit_split.trans (okV_l.trans hf)) (fun st _ => by
      obtain ⟨o, st', h1, h2⟩ := split_c hK3.toK (k0 := k0) (a := ⟨true, 0, k, l⟩) (st := st) hk (by simp only; omega)
      exact ⟨o, st', h1, h2, fun h => by cases h⟩)
    refine ⟨_, st', c1, .inr ⟨hf, kk, es, rfl, by have := hM.len; omega, fun e he => ?_⟩⟩
    obtain ⟨l', h1, h2⟩ := hM.ok e he
    exact ⟨l', h1.toRowL, h2⟩
theorem sort_r {k k0 : SK} {l : List Int} (st : St) : ∃ v st', callW Q (.fn 8) [.str fSort.nm, .slice k0 [.agg [.bool true, .int .i64 0, .slice k (intsA l)]]] .normal st = some (.ret v, st', none) ∧ SortR l v st' := by
  have hV : ∀ st : St, InV st.heap st.next (.slice k0 [.agg [.bool true, .int .i64 0, .slice k (intsA l)]]) [⟨true, 0, k, l⟩] := fun st => inV_slice (l := [⟨true, 0, k, l⟩]) (by simp)
  have hft : fitT fSort.ar fSort.few [⟨true, 0, k, l⟩] = (isListT l && decide (l.length ≤ 6)) := by rw [fit_sort, okV_l]
  cases hf : (isListT l && decide (l.length ≤ 6)) with
  | false => exact ⟨_, st, means_err hK3 inSort (hV st) (hft.trans hf), .inl ⟨hf, rfl⟩⟩
  | true =>
    have hl : l.length ≤ 6 := by
      have := hf
      rw [Bool.and_eq_true, decide_eq_true_iff] at this; exact this.2
    obtain ⟨kk, es, st', c1, hM⟩ := means_c hK3 inSort (P := sortP l) (n1 := true) (hV st) (hft.trans hf) (fun st hV => sort70_c hK3.toK hV (by simp only; omega))
    obtain ⟨e, rfl⟩ : ∃ e, es = [e] := by
      have h1 := hM.one rfl
      cases es with
      | nil => simp at h1
      | cons e es => cases es with | nil => exact ⟨e, rfl⟩ | cons _ _ => simp at h1
    obtain ⟨l', h1, L, kL, rfl, h2, h3⟩ := hM.ok e (by simp)
    obtain ⟨⟨A, rfl, hA, hAn⟩, _, _⟩ := h1.toRowL
    exact ⟨_, st', c1, .inr ⟨hf, kk, A, kL, L, rfl, hA, hAn, h2, h3⟩⟩
theorem perm_r {k k0 : SK} {l : List Int} (hk : l ≠ [] → SK.isNil k = false) (st : St) : ∃ v st', callW Q (.fn 8) [.str fPerm.nm, .slice k0 [.agg [.bool true, .int .i64 0, .slice k (intsA l)]]] .normal st = some (.ret v, st', none) ∧ PermR l st v st' := by
  have hV : ∀ st : St, InV st.heap st.next (.slice k0 [.agg [.bool true, .int .i64 0, .slice k (intsA l)]]) [⟨true, 0, k, l⟩] := fun st => inV_slice (l := [⟨true, 0, k, l⟩]) (by simp)
  have hft : fitT fPerm.ar fPerm.few [⟨true, 0, k, l⟩] = (isListT l && decide (l.length ≤ 6)) := by rw [fit_perm, okV_l]
  cases hf : (isListT l && decide (l.length ≤ 6)) with
  | false => exact ⟨_, st, means_err hK3 inPerm (hV st) (hft.trans hf), ⟨Nat.le_refl _, fun _ _ => rfl⟩, .inl ⟨hf, rfl⟩⟩
  | true =>
    have hl : l.length ≤ 6 := by
      have := hf
      rw [Bool.and_eq_true, decide_eq_true_iff] at this; exact this.2
    obtain ⟨kk, es, st', c1, hM⟩ := means_c hK3 inPerm (P := permP l) (n1 := false) (hV st) (hft.trans hf) (fun st _ => perm66_c hK3.toK (a := ⟨true, 0, k, l⟩) hk hl)
    exact ⟨_, st', c1, ⟨hM.nx, hM.old⟩, .inr ⟨hf, kk, es, rfl, hM.ne, by have := hM.len; omega, fun e he => by
      obtain ⟨l', h1, h2⟩ := hM.ok e he
      exact ⟨l', h1.toRowL, h2⟩⟩⟩
theorem sorted_r {k k0 : SK} {l : List Int} (hf : isListT l = true) (st : St) : ∃ v st', callW Q (.fn 8) [.str fSorted.nm, .slice k0 [.agg [.bool true, .int .i64 0, .slice k (intsA l)]]] .normal st = some (.ret v, st', none) ∧ SortedR l st v st' := by
  have hV : ∀ st : St, InV st.heap st.next (.slice k0 [.agg [.bool true, .int .i64 0, .slice k (intsA l)]]) [⟨true, 0, k, l⟩] := fun st => inV_slice (l := [⟨true, 0, k, l⟩]) (by simp)
  have hl : l.length ≤ 12 := by
    have := hf
    simp only [isListT, Bool.and_eq_true, decide_eq_true_iff] at this; exact this.1
  by_cases hO : Ord l l.length
  · obtain ⟨kk, es, st', c1, hM⟩ := means_c hK3 inSorted (P := fun l => l = []) (n1 := true) (hV st) (fit_sorted.trans (okV_l.trans hf)) (fun st _ => sortedT_c hK3.toK (a := ⟨true, 0, k, l⟩) (by simp only; omega) hO)
    obtain ⟨e, rfl⟩ : ∃ e, es = [e] := by
      have h1 := hM.one rfl
      cases es with
      | nil => simp at h1
      | cons e es => cases es with | nil => exact ⟨e, rfl⟩ | cons _ _ => simp at h1
    exact ⟨_, st', c1, ⟨hM.nx, hM.old⟩, .inl ⟨hO, kk, e, rfl⟩⟩
  · exact ⟨_, st, means_nil hK3 inSorted (hV st) (fit_sorted.trans (okV_l.trans hf)) (sortedF_c hK3.toK (a := ⟨true, 0, k, l⟩) (by simp only; omega) hO), ⟨Nat.le_refl _, fun _ _ => rfl⟩, .inr ⟨hO, rfl⟩⟩
theorem sums_b {a b : LV} {k : SK} {l : List Int} (hk : l ≠ [] → SK.isNil k = false) :
    Post 198 [] none (execY (callW Q) Q false 3 none x3 ⟨argTmps [a.av, b.av, .slice k (intsA l)], 198, [], none⟩ ⟨fun _ => .dead, 0, []⟩) fun e T st => e = .ret ∧ T 6 = .bool true := by
  have hK := hK3.toK
  obtain ⟨y, o1, p1, p2⟩ := plus_both hK3 (a := a) (b := b)
  obtain ⟨z, o2, q1, q2⟩ := times_both hK3 (a := a) (b := b)
  have s6 : ∀ st, callW Q (.fn 6) [] .normal st = some (.ret (.bool true), st, none) := fun st => callW_X (hK3.x6 st)
  have c9 := list9_c hK (k := k) (l := l)
  obtain ⟨ai, an, ak, ae⟩ := a
  obtain ⟨bi, bn, bk, be⟩ := b
  simp only [LV.av, LV.cells, LV.out, fPlus, fTimes] at p1 p2 q1 q2 ⊢
  simp only [RS, RT, RZ, tsc0, tz0, nq0, bs0, bn0, reduceLT, reduceLeDiff, reduceEqDiff, reduceMul, reduceAdd, reduceSub, reduceCtorEq, x3, kd3_0, s6, p1, p2, q1, q2, c9, gA_bin, beqB hK3, bneB hK3]
  have hfk : SK.isNil k.forget = SK.isNil k := by cases k <;> rfl
  have hk' : SK.isNil k.forget = true → l = [] := fun h => by
    by_cases hl : l = []
    · exact hl
    · rw [hfk, hk hl] at h; cases h
  have hk2 : l ≠ [] → SK.isNil k.forget = false := fun h => by rw [hfk]; exact hk h
  have fin : ∀ (T : Nat → AV) (h : Nat → AO) (nx : Nat) (lg : List Nat) (X : XC), T 2 = .slice k (intsA l) → True := fun _ _ _ _ _ _ => trivial
  refine post_call (split_r hK3 hk' _) ?_
  rintro v1 h1 nx1 lg1 (⟨hf, rfl⟩ | ⟨hf, kk, es, rfl, hes, hR⟩)
  · simp only [RS, RT, RZ, tsc0, tz0, nq0, bs0, bn0, reduceLT, reduceLeDiff, reduceEqDiff, reduceMul, reduceAdd, reduceSub, reduceCtorEq, callK_ret]
    refine post_bind (loop0_end hK3 ?_ ?_) ?_
    · simp only [RS, RT, RZ, tsc0, tz0, nq0, bs0, bn0, reduceLT, reduceLeDiff, reduceEqDiff, reduceMul, reduceAdd, reduceSub, reduceCtorEq]
    · simp only [RS, RT, RZ, tsc0, tz0, nq0, bs0, bn0, reduceLT, reduceLeDiff, reduceEqDiff, reduceMul, reduceAdd, reduceSub, reduceCtorEq]
    rintro e T st' ⟨rfl, t2, rfl⟩
    have t2' : T 2 = .slice k (intsA l) := by rw [t2]; simp only [RS, RT, RZ, tsc0, tz0, nq0, bs0, bn0, reduceLT, reduceLeDiff, reduceEqDiff, reduceMul, reduceAdd, reduceSub, reduceCtorEq]
    clear t2
    simp only [RS, RT, RZ, tsc0, tz0, nq0, bs0, bn0, reduceLT, reduceLeDiff, reduceEqDiff, reduceMul, reduceAdd, reduceSub, reduceCtorEq, t2', c9]
    refine post_call (sort_r hK3 _) ?_
    rintro v2 h2 nx2 lg2 (⟨hf2, rfl⟩ | ⟨hf2, _⟩)
    · simp only [RS, RT, RZ, tsc0, tz0, nq0, bs0, bn0, reduceLT, reduceLeDiff, reduceEqDiff, reduceMul, reduceAdd, reduceSub, reduceCtorEq, callK_ret, t2', c9]
      refine post_call (perm_r hK3 hk2 _) ?_
      rintro v3 h3 nx3 lg3 ⟨_, ⟨hf3, rfl⟩ | ⟨hf3, _⟩⟩
      · simp only [RS, RT, RZ, tsc0, tz0, nq0, bs0, bn0, reduceLT, reduceLeDiff, reduceEqDiff, reduceMul, reduceAdd, reduceSub, reduceCtorEq, callK_ret, Int.reduceBEq, Int.reduceBNe]
      · rw [hf3] at hf2; cases hf2
    · rw [hf, Bool.false_and] at hf2; cases hf2
  · simp only [RS, RT, RZ, tsc0, tz0, nq0, bs0, bn0, reduceLT, reduceLeDiff, reduceEqDiff, reduceMul, reduceAdd, reduceSub, reduceCtorEq, callK_ret]
    refine post_bind (loop0_c hK3 (kk := kk) (k := k) hes hf hR (es.length + 1) _ _ ⟨0, ?_, ?_, ?_, ?_, by omega, by omega, Nat.le_refl _, fun _ _ => rfl⟩) ?_
    · simp only [RS, RT, RZ, tsc0, tz0, nq0, bs0, bn0, reduceLT, reduceLeDiff, reduceEqDiff, reduceMul, reduceAdd, reduceSub, reduceCtorEq]
    · simp only [RS, RT, RZ, tsc0, tz0, nq0, bs0, bn0, reduceLT, reduceLeDiff, reduceEqDiff, reduceMul, reduceAdd, reduceSub, reduceCtorEq]
    · simp only [RS, RT, RZ, tsc0, tz0, nq0, bs0, bn0, reduceLT, reduceLeDiff, reduceEqDiff, reduceMul, reduceAdd, reduceSub, reduceCtorEq]
    · simp only [RS, RT, RZ, tsc0, tz0, nq0, bs0, bn0, reduceLT, reduceLeDiff, reduceEqDiff, reduceMul, reduceAdd, reduceSub, reduceCtorEq, cast_0]
    rintro e T ⟨h2, nx2, lg2⟩ ⟨rfl, t2, _⟩
    simp only [RS, RT, RZ, tsc0, tz0, nq0, bs0, bn0, reduceLT, reduceLeDiff, reduceEqDiff, reduceMul, reduceAdd, reduceSub, reduceCtorEq, t2, c9]
    refine post_call (sort_r hK3 _) ?_
    rintro v2 h3 nx3 lg3 (⟨hf2, rfl⟩ | ⟨hf2, kf, A, kL, L, rfl, hA, hAn, hP, hO⟩)
    · simp only [RS, RT, RZ, tsc0, tz0, nq0, bs0, bn0, reduceLT, reduceLeDiff, reduceEqDiff, reduceMul, reduceAdd, reduceSub, reduceCtorEq, callK_ret, t2, c9]
      refine post_call (perm_r hK3 hk2 _) ?_
      rintro v3 h4 nx4 lg4 ⟨_, ⟨hf3, rfl⟩ | ⟨hf3, _⟩⟩
      · simp only [RS, RT, RZ, tsc0, tz0, nq0, bs0, bn0, reduceLT, reduceLeDiff, reduceEqDiff, reduceMul, reduceAdd, reduceSub, reduceCtorEq, callK_ret, Int.reduceBEq, Int.reduceBNe]
      · rw [hf3] at hf2; cases hf2
    · have hl6 : l.length ≤ 6 := by
        have := hf2
        rw [Bool.and_eq_true, decide_eq_true_iff] at this; exact this.2
      simp only [RS, RT, RZ, tsc0, tz0, nq0, bs0, bn0, reduceLT, reduceLeDiff, reduceEqDiff, reduceMul, reduceAdd, reduceSub, reduceCtorEq, callK_ret, t2, c9]
      refine post_call (perm_r hK3 hk2 _) ?_
      rintro v3 h4 nx4 lg4 ⟨hKp, ⟨hf3, rfl⟩ | ⟨hf3, kk2, es2, rfl, hne2, hes2, hR2⟩⟩
      · rw [hf3] at hf2; cases hf2
      · have d0 : ((es2.length : Int) == 0) = false := by rw [beq_eq_false_iff_ne]; omega
        simp only at hA hAn hR2
        have hKp1 := hKp.1
        have hKp2 := hKp.2 A hAn
        simp only at hKp1 hKp2
        rw [hA] at hKp2
        simp only [RS, RT, RZ, tsc0, tz0, nq0, bs0, bn0, reduceLT, reduceLeDiff, reduceEqDiff, reduceMul, reduceAdd, reduceSub, reduceCtorEq, callK_ret, Int.reduceBEq, Int.reduceBNe, d0, cast_1]
        refine post_bind (loop1_c hK3 (kk := kk2) (k := k) (kf := kf) (kL := kL) (A1 := A) hes2 hf hl6 hP hO hR2 hKp2 (by omega) (es2.length + 1) _ _ ⟨0, ?_, ?_, ?_, ?_, by omega, by omega, Nat.le_refl _, fun _ _ => rfl⟩) ?_
        · simp only [RS, RT, RZ, tsc0, tz0, nq0, bs0, bn0, reduceLT, reduceLeDiff, reduceEqDiff, reduceMul, reduceAdd, reduceSub, reduceCtorEq, t2]
        · simp only [RS, RT, RZ, tsc0, tz0, nq0, bs0, bn0, reduceLT, reduceLeDiff, reduceEqDiff, reduceMul, reduceAdd, reduceSub, reduceCtorEq]
        · simp only [RS, RT, RZ, tsc0, tz0, nq0, bs0, bn0, reduceLT, reduceLeDiff, reduceEqDiff, reduceMul, reduceAdd, reduceSub, reduceCtorEq]
        · simp only [RS, RT, RZ, tsc0, tz0, nq0, bs0, bn0, reduceLT, reduceLeDiff, reduceEqDiff, reduceMul, reduceAdd, reduceSub, reduceCtorEq, cast_0]
        rintro e T2 ⟨h5, nx5, lg5⟩ ⟨rfl, u2, u21, hKp5⟩
        have hKp51 := hKp5.1
        have hKp52 := hKp5.2 A (by omega)
        simp only at hKp51 hKp52
        rw [hKp2] at hKp52
        simp only [RS, RT, RZ, tsc0, tz0, nq0, bs0, bn0, reduceLT, reduceLeDiff, reduceEqDiff, reduceMul, reduceAdd, reduceSub, reduceCtorEq, u2, c9]
        refine post_call (sorted_r hK3 hf _) ?_
        rintro v4 h6 nx6 lg6 ⟨hKp6, ⟨hO6, kk6, e6, rfl⟩ | ⟨hO6, rfl⟩⟩
        all_goals
          have hKp62 := hKp6.2 A (by show A < nx5; omega)
          simp only at hKp62
          rw [hKp52] at hKp62
        · have hLl : L = l := ord_unique hP hO hO6
          subst hLl
          have c10 := same_c hK (k1 := kL) (k2 := k) (a := L) (b := L) (by omega) (by omega)
          rw [decide_eq_true rfl] at c10
          simp only [RS, RT, RZ, tsc0, tz0, nq0, bs0, bn0, reduceLT, reduceLeDiff, reduceEqDiff, reduceMul, reduceAdd, reduceSub, reduceCtorEq, if_false, mkd_c, mb_t, mb_n, true_or, or_true, runX_buildM, flat_cons, flat_nil, cells_row, any_row, ic_row, Nat.lt_add_one, callK_ret, u2, u21, Int.reduceBEq, Int.reduceBNe, cast_1, idxX_row, Nat.zero_add, Nat.zero_mul, hKp62, List.getElem?_cons_zero, c10, gA_bin, beqB hK3]
        · have hLl : L ≠ l := fun e => by subst e; exact hO6 hO
          have hlen := hP.length_eq
          have c10 := same_c hK (k1 := kL) (k2 := k) (a := L) (b := l) (by omega) (by omega)
          rw [decide_eq_false hLl] at c10
          simp only [RS, RT, RZ, tsc0, tz0, nq0, bs0, bn0, reduceLT, reduceLeDiff, reduceEqDiff, reduceMul, reduceAdd, reduceSub, reduceCtorEq, if_false, mkd_c, mb_t, mb_n, true_or, or_true, runX_buildM, flat_cons, flat_nil, cells_row, any_row, ic_row, Nat.lt_add_one, callK_ret, u2, u21, Int.reduceBEq, Int.reduceBNe, cast_0, cast_1, idxX_row, Nat.zero_add, Nat.zero_mul, hKp62, List.getElem?_cons_zero, c10, gA_bin, beqB hK3]
theorem sums_c {a b : LV} {k : SK} {l : List Int} (hk : l ≠ [] → SK.isNil k = false) : ∃ v, callW Q (.fn 3) [a.av, b.av, .slice k (intsA l)] .normal st00 = some (.ret v, st00, none) ∧ v = .bool true := by
  have hK := hK3.toK
  refine callYe (N := 198) (ok3 hK) (hK.nx _ _ _ rfl) rfl ?_
  refine (sums_b hK3 (a := a) (b := b) hk).mono fun e T st => ?_
  rintro ⟨rfl, t6⟩
  simp only [RS, RT, RZ, tsc0, tz0, nq0, bs0, bn0, reduceLT, reduceLeDiff, reduceEqDiff, reduceMul, reduceAdd, reduceSub, reduceCtorEq, F3, t6]
  exact ⟨_, rfl, rfl, rfl, fun q _ => Nat.zero_le q⟩
end
end Go.Proofs.P31

namespace Go.Proofs.YtmdakabianfbkaaGreat.librarySums
open Go Go.AE Go.Proofs.P31 Go.ChangeShapes Go.WideShapes Go.ChangeAt Go.RowKit
open Go.ChangeMaps (open_string shut_string)
theorem own : ownKnob Tryz.prog.godebug = none := by kernel_rfl
theorem laidOut : laidOutB Tryz.prog = true := by kernel_rfl
theorem cP : P31.C3.P = Tryz.prog := rfl
theorem cGlob (g : Nat) : P31.C3.glob g = none := rfl
theorem und3 : Tryz.prog.underlying 3 = some (.int .i64) := by kernel_rfl
theorem und4 : Tryz.prog.underlying 4 = some .bool := by kernel_rfl
theorem und22 : Tryz.prog.underlying 22 = some (.slice 3) := by kernel_rfl
noncomputable def fs24 : Array Field := match Tryz.prog.underlying 24 with | some (.struct fs) => fs | _ => #[]
theorem und24 : Tryz.prog.underlying 24 = some (.struct fs24) := by kernel_rfl
theorem ce3 : Tryz.prog.cellsOf 3 = 1 := by kernel_rfl
theorem ce4 : Tryz.prog.cellsOf 4 = 1 := by kernel_rfl
theorem ce22 : Tryz.prog.cellsOf 22 = 1 := by kernel_rfl
theorem ce24 : Tryz.prog.cellsOf 24 = 3 := by kernel_rfl
theorem lay24 : ∃ f0 f1 f2 : Field, fs24.toList = [f0, f1, f2] ∧ f0.offset = 0 ∧ f0.type = 4 ∧ f1.offset = 1 ∧ f1.type = 3 ∧ f2.offset = 2 ∧ f2.type = 22 :=
  ⟨fs24.toList.getD 0 default, fs24.toList.getD 1 default, fs24.toList.getD 2 default, by kernel_rfl, by kernel_rfl, by kernel_rfl, by kernel_rfl, by kernel_rfl, by kernel_rfl, by kernel_rfl⟩
section
variable {H : Type} {enc : TypeId × Value → H} {w : World} {B : Nat}
theorem opn22 : ∀ fuel, Opn enc Tryz.prog w B fuel 22 (fun xs => ∃ k l, xs = [.slice k (intsA l)] ∧ (l ≠ [] → SK.isNil k = false))
  | 0 => Opn.zero
  | fuel + 1 => (opn_slice (agg := false) (sz := 1) und22 ce3 (by omega) (opn_int (fuel := fuel) und3) (fun xs ⟨n, _, _, h⟩ => by subst h; exact ⟨rfl, .inr ⟨_, rfl, rfl⟩⟩)).mono fun xs h => by
    obtain ⟨k, es, h1, h2, _, _, h3⟩ := h
    have : ∀ es : List AV, (∀ x ∈ es, ∃ n, x = .int .i64 n) → ∃ l, es = intsA l := fun es => by
      induction es with
      | nil => exact fun _ => ⟨[], rfl⟩
      | cons x es ih =>
        intro h
        obtain ⟨n, rfl⟩ := h x (by simp)
        obtain ⟨l, rfl⟩ := ih fun y hy => h y (by simp [hy])
        exact ⟨n :: l, rfl⟩
    obtain ⟨l, rfl⟩ := this es fun x hx => by
      obtain ⟨⟨n, _, _, h4⟩, h5⟩ := h3 x hx
      rw [h4] at h5
      exact ⟨n, h5⟩
    refine ⟨k, l, h1, fun hl => ?_⟩
    rcases h2 with ⟨_, h2⟩ | rfl
    · have := congrArg List.length h2
      rw [intsA_len] at this
      exact absurd (List.eq_nil_of_length_eq_zero this) hl
    · rfl
theorem opn24 : ∀ fuel, Opn enc Tryz.prog w B fuel 24 (fun xs => ∃ a : LV, xs = a.cells)
  | 0 => Opn.zero
  | fuel + 1 => by
    obtain ⟨f0, f1, f2, e, o0, t0, o1, t1, o2, t2⟩ := lay24
    refine (opn_struct (Es := [_, _, _]) und24 (by
      rw [e, ce24]
      refine ⟨o0, by rw [t0]; exact opn_bool und4, ?_⟩
      rw [t0, ce4]
      refine ⟨o1, by rw [t1]; exact opn_int und3, ?_⟩
      rw [t1, ce3]
      refine ⟨o2, by rw [t2]; exact opn22 fuel, ?_⟩
      rw [t2, ce22]
      rfl)).mono fun xs h => ?_
    obtain ⟨a, b, rfl, ⟨k, rfl⟩, c, d, rfl, ⟨n, _, _, rfl⟩, e', f', rfl, ⟨sk, l, rfl, _⟩, rfl⟩ := h
    exact ⟨⟨k, n, sk, l⟩, rfl⟩
end
theorem walk {a b : LV} {k : SK} {l : List Int} (hk : l ≠ [] → SK.isNil k = false) {W : World} {v0 v1 v2 : Value} (h0 : VR (Gin W) W a.av v0) (h1 : VR (Gin W) W b.av v1) (h2 : VR (Gin W) W (.slice k (intsA l)) v2) :
    Calls Tryz.prog 3 #[v0, v1, v2] W fun e W' => e = .returned (.bool true) ∧ Below W.heap.size W W' := by
  obtain ⟨v, hc, rfl⟩ := sums_c kC3 (a := a) (b := b) hk
  have h := law_calls (C := P31.C3) ctxOk3 xOk3 cGlob (f := 3) (fi := F3) (ok3 kC3.toK).fn (args := [a.av, b.av, .slice k (intsA l)]) (vals := [v0, v1, v2]) (W := W) ⟨h0, h1, h2, trivial⟩ hc
  rw [cP] at h
  exact h
set_option maxRecDepth 100000 in
theorem lifted (os : Os) (started : os.Started) (H : Type) (enc : TypeId × Value → H) :
    ReturnsInHanded {} Tryz.checked os 3 .any (Rows.librarySumsSpec.pre6 enc Tryz.prog Tryz.f3 Rows.librarySumsRow.domain false) (Rows.librarySumsSpec.post enc Tryz.prog Tryz.f3 false true false false) := by
  refine returnsInHanded_of_change_sized (C := Tryz.checked) own started (by kernel_rfl) Tryz.func3
    (ChangeSpec.witness6 (enc := enc) (C := Tryz.checked) false ⟨#[], #[.agg #[.bool false, .int .i64 0, .slice none 0 0], .agg #[.bool false, .int .i64 0, .slice none 0 0], .slice none 0 0], []⟩ 8 (by kernel_rfl) (by kernel_rfl) (by kernel_rfl) (by kernel_rfl)) ?_
  intro W base args ds gs before hval0 hW hcnd hsz0 _
  have hval : ∀ (j : Nat) t v, Tryz.f3.params[j]? = some t → args[j]? = some v → Value.okWide Tryz.prog W .any base t v := hval0
  have hW' := hW
  obtain ⟨p, q, hA0, hV, rfl, hfz, hnd⟩ := hW
  have hA : DataW.TrodAll enc Tryz.prog W 0 (fun _ => true) true Tryz.f3.params.toList args.toList ds p := hA0
  rw [Tryz.params3] at hA hval
  obtain ⟨v0, vs0, d0, ds0, p0, q0, hargs, rfl, rfl, h0, r0⟩ := trodAll_cons hA
  obtain ⟨v1, vs1, d1, ds1, p1, q1, rfl, rfl, rfl, h1, r1⟩ := trodAll_cons r0
  obtain ⟨v2, vs2, d2, ds2, p2, q2, rfl, rfl, rfl, h2, r2⟩ := trodAll_cons r1
  obtain ⟨rfl, rfl, rfl⟩ := trodAll_nil r2
  obtain rfl : args = #[v0, v1, v2] := by cases args; simp_all
  obtain ⟨rfl, rfl⟩ := trodVars_none hV
  have k0 := h0
  have k1 := h1
  have k2 := h2
  have lt0 : ∀ x ∈ p0, x.block < W.heap.size := by obtain ⟨m, hm⟩ := k0; exact DataW.trod_lt m _ _ _ hm
  have lt1 : ∀ x ∈ p1, x.block < W.heap.size := by obtain ⟨m, hm⟩ := k1; exact DataW.trod_lt m _ _ _ hm
  have lt2 : ∀ x ∈ p2, x.block < W.heap.size := by obtain ⟨m, hm⟩ := k2; exact DataW.trod_lt m _ _ _ hm
  obtain ⟨a, a0⟩ : ∃ a : LV, VR (Gin W) W a.av v0 := by
    obtain ⟨m, hm⟩ := h0
    obtain ⟨xs, ⟨a, rfl⟩, hx⟩ := opn24 (B := bk d0) _ _ _ _ hm (Nat.le_refl _)
    exact ⟨a, arg_agg ⟨_, und24⟩ (hval 0 24 v0 rfl rfl) hx⟩
  obtain ⟨b, a1⟩ : ∃ b : LV, VR (Gin W) W b.av v1 := by
    obtain ⟨m, hm⟩ := h1
    obtain ⟨xs, ⟨a, rfl⟩, hx⟩ := opn24 (B := bk d1) _ _ _ _ hm (Nat.le_refl _)
    exact ⟨a, arg_agg ⟨_, und24⟩ (hval 1 24 v1 rfl rfl) hx⟩
  obtain ⟨k, l, hk, a2⟩ : ∃ k l, (l ≠ [] → SK.isNil k = false) ∧ VR (Gin W) W (.slice k (intsA l)) v2 := by
    obtain ⟨m, hm⟩ := h2
    obtain ⟨xs, ⟨k, l, rfl, hk⟩, hx⟩ := opn22 (B := bk d2) _ _ _ _ hm (Nat.le_refl _)
    exact ⟨k, l, hk, arg_slice und22 (hval 2 22 v2 rfl rfl) hx⟩
  refine (walk hk a0 a1 a2).mono fun e W' ⟨he, bel⟩ => ?_
  subst he
  exact ⟨_, rfl, _, _, _, [], _, [], hW', trodAll_mk1 (shut_bool und4 _),
    (trodAll_cons_mk (Below.trod laidOut (by kernel_rfl) (of_decide_eq_true (by kernel_rfl)) k0 bel lt0) (trodAll_cons_mk (Below.trod laidOut (by kernel_rfl) (of_decide_eq_true (by kernel_rfl)) k1 bel lt1) (trodAll_cons_mk (Below.trod laidOut (by kernel_rfl) (of_decide_eq_true (by kernel_rfl)) k2 bel lt2) trodAll_mk0))), rfl, bel.frame _, fun h => by cases h⟩
theorem over : Rows.librarySumsRow.holds Tryz.pinned (OpenSpec.ofChange Rows.librarySumsSpec) :=
  OpenClaim.holds_of_wide 3 Tryz.f3 rfl rfl rfl rfl rfl rfl rfl ⟨rfl, rfl, rfl, rfl, rfl⟩ rfl rfl rfl rfl rfl (by kernel_rfl) Tryz.func3 (by kernel_rfl)
    (of_decide_eq_true (by kernel_rfl)) (by unfold Func.isWrapper; first | (rw [if_pos (by decide +kernel)]; kernel_rfl) | (rw [if_neg (by decide +kernel)]; exact ⟨rfl, rfl⟩))
    (fun os started H enc _ => lifted os started H enc)
theorem proved : Rows.LibrarySumsSaid := over
#print axioms proved
end Go.Proofs.YtmdakabianfbkaaGreat.librarySums
namespace Go.Proofs.YtmdakabianfbkaaGreat
theorem librarySums_holds : Rows.LibrarySumsSaid := librarySums.proved
end Go.Proofs.YtmdakabianfbkaaGreat
