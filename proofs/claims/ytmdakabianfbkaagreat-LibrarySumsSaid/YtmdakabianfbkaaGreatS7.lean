/- Means, plus, times, split, append, sorted: at every argument. -/
import Derived.Test.YtmdakabianfbkaaGreatS6
set_option linter.unusedVariables false
set_option linter.unusedSimpArgs false
set_option linter.unusedSectionVars false
namespace Go.Proofs.P31
open Go Go.AE
open Nat (reduceLT reduceLeDiff reduceEqDiff reduceMul reduceAdd reduceSub)
set_option maxHeartbeats 8000000
def zero65 : List AV := [.str [], .str [], .int .i64 0, .bool false, .nilfn]
def Fnd.cells (x : Fnd) : List AV := [.str x.nm, .str x.ar, .int .i64 0, .bool x.few, .func (.func x.f) [] []]
theorem ic_fn {f : Fn} {a b : List AV} : AV.isCell (.func f a b) = true := (rfl)
theorem ic_nf : AV.isCell .nilfn = true := (rfl)
def askR (x : Fnd) (l : List LV) : AV := if fitT x.ar x.few l then .tuple [.agg x.cells, .int .i64 0] else .tuple [.agg zero65, .int .i64 1]
theorem fnds_ok : ∀ x ∈ fnds, (∀ b ∈ x.ar, b < 128) ∧ x.ar.length < 1000 ∧ 0 < (srtOf x.ar).length := by decide
theorem askR_clean {x : Fnd} {l : List LV} : CleanV (askR x l) := by
  unfold askR
  split <;> rfl
structure RowB (lo : Nat) (h : Nat → AO) (nx : Nat) (v : AV) (l : List LV) : Prop extends RowL h nx v l where
  lo : ∃ A n m, v = .row A 0 n m ∧ lo ≤ A
theorem RowB.mono {lo lo' : Nat} {h h' : Nat → AO} {nx nx' : Nat} {v : AV} {l : List LV} (a : RowB lo h nx v l) (hh : ∀ q, lo ≤ q → q < nx → (∃ cs, h q = .mem 24 cs true 0) → h' q = h q) (hn : nx ≤ nx') (hl : lo' ≤ lo) : RowB lo' h' nx' v l := by
  obtain ⟨⟨⟨A, h1, h2, h3⟩, h4, h5⟩, B, n, m, h6, h7⟩ := a
  subst h1
  cases h6
  exact ⟨⟨⟨A, rfl, by rw [hh A h7 h3 ⟨_, h2⟩]; exact h2, by omega⟩, h4, h5⟩, ⟨A, _, _, rfl, by omega⟩⟩
structure OutR (P : List LV → Prop) (st0 st : St) (v : AV) : Prop where
  ex : ∃ r cells fu, v = .row r 0 cells.length none ∧ st.heap r = .mem 33 cells fu 0 ∧ st0.next ≤ r ∧ r < st.next ∧ 1 ≤ cells.length ∧ cells.length < 60000 ∧ ∀ c ∈ cells, ∃ l, RowB st0.next st.heap st.next c l ∧ P l
  old : ∀ q, q < st0.next → st.heap q = st0.heap q
  nx : st0.next ≤ st.next
  log : ∀ q ∈ st.log, q ∈ st0.log ∨ st0.next ≤ q
structure MeansR (P : List LV → Prop) (n1 : Bool) (st0 st : St) (es : List AV) : Prop where
  ne : 1 ≤ es.length
  one : n1 = true → es.length = 1
  ok : ∀ e ∈ es, ∃ l, RowB st0.next st.heap st.next e l ∧ P l
  old : ∀ q, q < st0.next → st.heap q = st0.heap q
  nx : st0.next ≤ st.next
  log : ∀ q ∈ st.log, q ∈ st0.log ∨ st0.next ≤ q
  len : es.length < 60000
theorem leave_row {st0 st1 : St} {vs : List AV} (h : belowA.belowL st0.next vs = false) : leaveSt st0 vs st1 = ⟨st1.heap, st1.next, st1.log.filter (· < st0.next) ++ st0.log⟩ := by
  unfold leaveSt
  rw [h, Bool.and_false, if_neg (by decide)]
theorem below_row {n A k : Nat} {m : Option Nat} (h : n ≤ A) : belowA n (.row A 0 k m) = false := by
  simp only [belowA, decide_eq_false_iff_not]; omega
section
variable {Q : Ctx} (hK3 : K3 Q)
include hK3
theorem asked_c {x : Fnd} (hx : x ∈ fnds) {v : AV} {l : List LV} {st : St} (hV : InV st.heap st.next v l) : callW Q (.fn 25) [.str x.nm, v] .normal st = some (.ret (askR x l), st, none) := by
  have hK := hK3.toK
  obtain ⟨h1, h2, h3⟩ := fnds_ok x hx
  refine callY (N := 22) (ok25 hK) (hK.nx _ _ _ rfl) rfl askR_clean ?_
  have hf : ∀ st : St, callW Q (.fn 38) [.str x.nm] .normal st = some (.ret x.av, st, none) := fun st => callW_X (hK3.x38 x hx st)
  have hfit := fit_c hK (nm := x.nm) (few := x.few) (fv := .func (.func x.f) [] []) h1 h2 h3 (st := ⟨upd (upd (upd st.heap st.next (.mem 65 zero65 true 0)) (st.next + 1) (.mem 65 zero65 true 0)) (st.next + 1) (.mem 65 x.cells true 0), st.next + 2, [st.next + 1]⟩) (hV.mono (fun q hq _ => by simp only; rw [upd_ne _ _ (by omega), upd_ne _ _ (by omega), upd_ne _ _ (by omega)]) (by simp only; omega))
  unfold askR
  simp only [zero65, Fnd.cells] at hfit
  cases hb : fitT x.ar x.few l with
  | true =>
    rw [hb] at hfit
    simp only [RS, RT, RZ, tsc0, tz0, nq0, bs0, bn0, reduceLT, reduceLeDiff, reduceEqDiff, reduceMul, reduceAdd, reduceSub, reduceCtorEq, x25, F25, hf, Fnd.av, Fnd.cells, hfit, Nat.add_eq_left, ic_fn, ic_nf, if_true, tw65 hK, T65]
  | false =>
    rw [hb] at hfit
    simp only [RS, RT, RZ, tsc0, tz0, nq0, bs0, bn0, reduceLT, reduceLeDiff, reduceEqDiff, reduceMul, reduceAdd, reduceSub, reduceCtorEq, x25, F25, hf, Fnd.av, Fnd.cells, hfit, Nat.add_eq_left, ic_fn, ic_nf, zero65, Bool.false_eq_true, if_false, tw65 hK, T65]
omit hK3 in
theorem srt_ok (hK : K Q) {P : List LV → Prop} {lo r : Nat} {fu : Bool} {cells : List AV} {lg : List Nat} {st : St} (hr : r < st.next) (hrow : st.heap r = .mem 33 cells fu 0) (hl : cells.length < 60000) (hc : ∀ c ∈ cells, ∃ l, RowB lo st.heap st.next c l ∧ P l) :
    (⟨st.heap, st.next, r, fu, none, cells, fun v => ∃ l, RowB lo st.heap st.next v l ∧ P l, lg⟩ : Srt).OK2 Q := by
  have key : ∀ (v : AV) (l : List LV) (st2 : St), RowB lo st.heap st.next v l → (∀ q, q < st.next → q ≠ r → st2.heap q = st.heap q) → st.next ≤ st2.next → RowL st2.heap st2.next v l := fun v l st2 h1 h2 h3 =>
    h1.toRowL.mono (fun q hq ⟨cs, hcs⟩ => h2 q hq (by intro e; subst e; rw [hrow] at hcs; cases hcs)) h3
  refine ⟨⟨hr, hl, hc, ?_, ?_, ?_⟩, rfl, ?_, ?_, ?_⟩
  · rintro v ⟨l, ⟨⟨⟨A, rfl, _⟩, _, _⟩, _⟩, _⟩; rfl
  · rintro v ⟨l, ⟨⟨⟨A, rfl, _⟩, _, _⟩, _⟩, _⟩; rfl
  · rintro v w st2 h2 h3 ⟨l1, h4, _⟩ ⟨l2, h5, _⟩
    exact cmp_c hK (key v l1 st2 h4 h2 h3) (key w l2 st2 h5 h2 h3)
  · rintro v ⟨l, ⟨⟨⟨A, rfl, _⟩, _, _⟩, _⟩, _⟩; rfl
  · rintro v ⟨l, ⟨⟨⟨A, rfl, _⟩, _, _⟩, _⟩, _⟩; rfl
  · rintro v w st2 h2 h3 ⟨l1, h4, _⟩ ⟨l2, h5, _⟩
    exact eqv_c hK (key v l1 st2 h4 h2 h3) (key w l2 st2 h5 h2 h3)
omit hK3 in
theorem unt_rows : ∀ {es : List AV}, (∀ e ∈ es, untok e = e) → untok.untokL es = es
  | [], _ => rfl
  | e :: es, h => by simp only [untok.untokL]; rw [h e (by simp), unt_rows fun e he => h e (by simp [he])]
theorem means_err {x : Fnd} (hx : x ∈ fnds) {v : AV} {l : List LV} {st : St} (hV : InV st.heap st.next v l) (hf : fitT x.ar x.few l = false) : callW Q (.fn 8) [.str x.nm, v] .normal st = some (.ret (.tuple [.slice .nil [], .int .i64 1]), st, none) := by
  have hK := hK3.toK
  refine callY (N := 26) (ok8 hK) (hK.nx _ _ _ rfl) rfl rfl ?_
  have ha := asked_c hK3 hx (v := v) (l := l) (st := ⟨st.heap, st.next, []⟩) hV
  simp only [askR, hf, Bool.false_eq_true, if_false, zero65] at ha
  simp only [RS, RT, RZ, tsc0, tz0, nq0, bs0, bn0, reduceLT, reduceLeDiff, reduceEqDiff, reduceMul, reduceAdd, reduceSub, reduceCtorEq, x8, F8, ha, ic_fn, ic_nf, Int.reduceBEq, Int.reduceBNe]
theorem means_c {x : Fnd} (hx : x ∈ fnds) {v : AV} {l : List LV} {st : St} {P : List LV → Prop} {n1 : Bool} (hV : InV st.heap st.next v l) (hf : fitT x.ar x.few l = true)
    (hm : ∀ st, InV st.heap st.next v l → ∃ o st', callW Q (.fn x.f) [v] .normal st = some (.ret o, st', none) ∧ OutR P st st' o ∧ (n1 = true → ∃ r, o = .row r 0 1 none)) :
    ∃ kk es st', callW Q (.fn 8) [.str x.nm, v] .normal st = some (.ret (.tuple [.slice kk es, .int .i64 0]), st', none) ∧ MeansR P n1 st st' es := by
  have hK := hK3.toK
  have ha := asked_c hK3 hx (v := v) (l := l) (st := ⟨st.heap, st.next, []⟩) hV
  simp only [askR, hf, if_true, Fnd.cells] at ha
  obtain ⟨o, ⟨h1, nx1, lg1⟩, c1, ⟨⟨r, cells, fu, rfl, hrow, hr1, hr2, hne, hl6, hcs⟩, hold, hnx, hlg⟩, hone⟩ := hm ⟨upd (upd st.heap st.next (.mem 65 [.str [], .str [], .int .i64 0, .bool false, .nilfn] true 0)) st.next (.mem 65 [.str x.nm, .str x.ar, .int .i64 0, .bool x.few, .func (.func x.f) [] []] true 0), st.next + 1, [st.next]⟩ (hV.mono (fun q hq _ => by simp only; rw [upd_ne _ _ (by omega), upd_ne _ _ (by omega)]) (by simp only; omega))
  simp only at hrow hr1 hr2 hcs hold hnx hlg
  have ok := srt_ok hK (P := P) (lo := st.next + 1) (lg := lg1) (st := ⟨h1, nx1, lg1⟩) hr2 hrow hl6 hcs
  have hI : SI ⟨h1, nx1, r, fu, none, cells, fun v => ∃ l, RowB (st.next + 1) h1 nx1 v l ∧ P l, lg1⟩ cells ⟨h1, nx1, lg1⟩ := ⟨hrow, fun _ _ _ => rfl, Nat.le_refl _, List.Perm.refl _, fun q hq => .inr (.inr hq)⟩
  obtain ⟨_, ⟨h2, nx2, lg2⟩, cs2, c2, rfl, hI2⟩ := sort_c hK ok.toOK hne hI
  obtain ⟨kk, es, ⟨h3, nx3, lg3⟩, c3, hD⟩ := compact_c hK ok hne hI2.ci (Nat.lt_of_lt_of_le hr2 hI2.nx)
  obtain ⟨d1, d2, d3, d4, d5, d6, d7⟩ := hD
  simp only at d2 d3 d4 d5 d6
  have hes : ∀ e ∈ es, ∃ l, RowB (st.next + 1) h3 nx3 e l ∧ P l := fun e he => by
    obtain ⟨l, h4, h5⟩ := hcs e (d3 e he)
    exact ⟨l, h4.mono (fun q _ hq ⟨cs, hcs⟩ => d4 q hq (by intro e; subst e; rw [hrow] at hcs; cases hcs)) d5 (Nat.le_refl _), h5⟩
  have hut : untok.untokL es = es := unt_rows fun e he => by
    obtain ⟨l, ⟨⟨⟨A, rfl, _⟩, _⟩, _⟩, _⟩ := hes e he; rfl
  have hkk : kk.forget = kk := by rcases d7 with rfl | rfl <;> rfl
  have hbl : belowA.belowL st.next [.tuple [.slice kk es, .int .i64 0]] = false := by
    obtain ⟨e0, es', rfl⟩ : ∃ a b, es = a :: b := by cases es with | nil => simp at d1 | cons a b => exact ⟨a, b, rfl⟩
    obtain ⟨l, ⟨_, A, n, m, rfl, hA⟩, _⟩ := hes e0 (by simp)
    rcases d7 with rfl | rfl <;> simp [belowA.belowL, belowA, show ¬ A < st.next by omega]
  simp only [rowV, cmpV, eqvV] at c2 c3
  have hne65 : ∀ q, q < st.next → h3 q = st.heap q := fun q hq => by
    rw [d4 q (by omega) (by omega), hold q (by omega), upd_ne _ _ (by omega), upd_ne _ _ (by omega)]
  refine ⟨kk, es, ⟨h3, nx3, lg3.filter (· < st.next) ++ st.log⟩, ?_, ⟨d1, fun hn => ?_, fun e he => ?_, fun q hq => hne65 q hq, by simp only; omega, fun q hq => ?_, Nat.lt_of_le_of_lt d2 hl6⟩⟩
  · refine callYr (N := 26) (ok8 hK) (hK.nx _ _ _ rfl) rfl (Post.raw (N := 26) (D := []) (pv := none) (R := fun o => finishFn (callW Q) Q 8 F8 .normal st o.1 o.2.1 o.2.2 = some (.ret (.tuple [.slice kk es, .int .i64 0]), ⟨h3, nx3, lg3.filter (· < st.next) ++ st.log⟩, none)) (Q := fun e T st1 => e = .ret ∧ T 4 = .slice kk es ∧ T 5 = .int .i64 0 ∧ st1 = ⟨h3, nx3, lg3⟩) ?_ ?_)
    · simp only [RS, RT, RZ, tsc0, tz0, nq0, bs0, bn0, reduceLT, reduceLeDiff, reduceEqDiff, reduceMul, reduceAdd, reduceSub, reduceCtorEq, x8, ha, ic_fn, ic_nf, Int.reduceBEq, Int.reduceBNe, c1, c2, c3]
    · rintro e T st1 ⟨rfl, t4, t5, rfl⟩
      simp only
      rw [finish_ret (N := 26) (v0 := .tuple [.slice kk es, .int .i64 0]) (v := .tuple [.slice kk es, .int .i64 0]) (st3 := ⟨h3, nx3, lg3⟩) endOf_ret (by simp only [RS, RT, RZ, tsc0, tz0, nq0, bs0, bn0, reduceLT, reduceLeDiff, reduceEqDiff, reduceMul, reduceAdd, reduceSub, reduceCtorEq, F8, t4, t5]) (by
        rw [frz_noRow rfl (fun _ => by simp only [untok, untok.untokL, hut, hkk])]
        simp only [untok, untok.untokL, hut, hkk])]
      rw [leave_row (by simpa using hbl)]
  · obtain ⟨r', hr'⟩ := hone hn
    injection hr' with _ _ h8 _
    omega
  · obtain ⟨l, h4, h5⟩ := hes e he
    exact ⟨l, h4.mono (fun _ _ _ _ => rfl) (Nat.le_refl _) (by omega), h5⟩
  · rcases List.mem_append.1 hq with h | h
    · have h1 := (List.mem_filter.1 h).1
      have h2 : q < st.next := of_decide_eq_true (List.mem_filter.1 h).2
      rcases d6 q h1 with h | h | h
      · omega
      · omega
      · rcases hlg q h with h | h
        · simp only [List.mem_cons, List.not_mem_nil, or_false] at h; omega
        · omega
    · exact .inl h
end
end Go.Proofs.P31

namespace Go.Proofs.P31
open Go Go.AE
open Nat (reduceLT reduceLeDiff reduceEqDiff reduceMul reduceAdd reduceSub)
set_option maxHeartbeats 8000000
theorem flat_cons {v : AV} {l : List AV} : flat (v :: l) = v.cells ++ flat l := (rfl)
theorem flat_nil : flat [] = [] := (rfl)
theorem cells_row {A o k : Nat} {m : Option Nat} : (AV.row A o k m).cells = [.row A o k m] := (rfl)
theorem any_row {A o k : Nat} {m : Option Nat} : (AV.row A o k m).isAny = false := (rfl)
theorem ic_row {A o k : Nat} {m : Option Nat} : (AV.row A o k m).isCell = true := (rfl)
theorem row_end {Q : Ctx} {f : FuncId} {fi : FI} {x : XC} {mu : Bool} {N : Nat} {args : List AV} {st : St} {R : AV → St → Prop} (ok : FnOk Q f fi x mu) (hX : Q.X f args st = none) (hN : max fi.ntmps args.length = N) (hfz : Q.frz f = false)
    (h : Post N [] none (execY (callW Q) Q mu f none x ⟨argTmps args, N, [], none⟩ ⟨st.heap, st.next, []⟩) fun e T st1 => endOf e = some none ∧ ∃ v, (resultsA Q st1 T fi.results).map packA = some v ∧ belowA.belowL st.next [v] = false ∧ R v st1) :
    ∃ v st1, callW Q (.fn f) args .normal st = some (.ret v, ⟨st1.heap, st1.next, st1.log.filter (· < st.next) ++ st.log⟩, none) ∧ R v st1 := by
  obtain ⟨e, T, st1, h1, h2, v, h3, h4, h5⟩ := h
  refine ⟨v, st1, callYr ok hX hN ⟨_, h1, ?_⟩, h5⟩
  rw [finish_ret (N := N) (v0 := v) (v := v) (st3 := st1) h2 h3 (by rw [hfz]; rfl)]
  rw [leave_row (by simpa using h4)]
theorem below_row1 {n A k : Nat} {m : Option Nat} (h : n ≤ A) : belowA.belowL n [.row A 0 k m] = false := by
  simp [belowA.belowL, below_row h]
theorem filt_nil {n : Nat} {lg : List Nat} (h : LogOk n lg) : lg.filter (· < n) = [] := by
  rw [List.filter_eq_nil_iff]
  intro a ha
  have := h a ha
  simp only [decide_eq_true_eq]; omega
section
variable {Q : Ctx} (hK : K Q)
include hK
theorem frz52 : Q.frz 52 = false := hK.frz_ (by kernel_rfl)
theorem frz51 : Q.frz 51 = false := hK.frz_ (by kernel_rfl)
theorem frz54 : Q.frz 54 = false := hK.frz_ (by kernel_rfl)
theorem frz58 : Q.frz 58 = true := hK.frz_ (by kernel_rfl)
theorem num_c {n : Int} : Ret Q 53 [.int .i64 n] (.agg [.bool false, .int .i64 n, .slice .nil []]) := fun st => by
  refine callY (N := 5) (ok53 hK) (hK.nx _ _ _ rfl) rfl rfl ?_
  simp only [RS, RT, RZ, tsc0, tz0, nq0, bs0, bn0, reduceLT, reduceLeDiff, reduceEqDiff, reduceMul, reduceAdd, reduceSub, reduceCtorEq, x53, F53, tw24 hK, T24]
theorem one_c {A k : Nat} {m : Option Nat} {st : St} : callW Q (.fn 52) [.row A 0 k m] .normal st = some (.ret (.row st.next 0 1 none), ⟨upd st.heap st.next (.mem 33 [.row A 0 k m] true 0), st.next + 1, st.log⟩, none) := by
  obtain ⟨v, st1, h1, h2, h3⟩ := row_end (R := fun v st1 => v = .row st.next 0 1 none ∧ st1 = ⟨upd st.heap st.next (.mem 33 [.row A 0 k m] true 0), st.next + 1, []⟩) (N := 5) (ok52 hK) (hK.nx 52 [.row A 0 k m] st rfl) rfl (frz52 hK) (by
    simp only [RS, RT, RZ, tsc0, tz0, nq0, bs0, bn0, reduceLT, reduceLeDiff, reduceEqDiff, reduceMul, reduceAdd, reduceSub, reduceCtorEq, runX_buildM, flat_cons, flat_nil, cells_row, any_row, ic_row, Nat.lt_add_one, x52, F52]
    exact ⟨_, rfl, below_row1 (Nat.le_refl _), rfl⟩)
  subst h2 h3
  exact h1
omit hK in
theorem out_one {P : List LV → Prop} {st : St} {lv : List LV} (h1 : lv.length < 1000000) (h2 : ∀ x ∈ lv, x.es.length < 1000000) (h3 : P lv) :
    OutR P st ⟨upd (upd st.heap st.next (.mem 24 (flatL lv) true 0)) (st.next + 1) (.mem 33 [.row st.next 0 lv.length none] true 0), st.next + 2, st.log⟩ (.row (st.next + 1) 0 1 none) := by
  refine ⟨⟨st.next + 1, [.row st.next 0 lv.length none], true, rfl, upd_same .., by omega, by simp only; omega, by simp, by simp, ?_⟩, fun q hq => ?_, by simp only; omega, fun q hq => .inl hq⟩
  · intro c hc
    rw [List.mem_singleton] at hc
    subst hc
    exact ⟨lv, ⟨⟨⟨st.next, rfl, by simp only; rw [upd_ne _ _ (by omega), upd_same], by simp only; omega⟩, h1, h2⟩, ⟨_, _, _, rfl, Nat.le_refl _⟩⟩, h3⟩
  · simp only; rw [upd_ne _ _ (by omega), upd_ne _ _ (by omega)]
theorem plus_c {k0 : SK} {a b : LV} {st : St} : ∃ o st', callW Q (.fn 51) [.slice k0 [a.av, b.av]] .normal st = some (.ret o, st', none) ∧ OutR (fun l => l = [⟨false, IntKind.i64.wrap (a.n + b.n), .nil, []⟩]) st st' o ∧ (true = true → ∃ r, o = .row r 0 1 none) := by
  obtain ⟨v, st1, h1, h2, h3⟩ := row_end (R := fun v st1 => v = .row (st.next + 1) 0 1 none ∧ st1 = ⟨upd (upd st.heap st.next (.mem 24 [.bool false, .int .i64 (IntKind.i64.wrap (a.n + b.n)), .slice .nil []] true 0)) (st.next + 1) (.mem 33 [.row st.next 0 1 none] true 0), st.next + 2, []⟩) (N := 15) (ok51 hK) (hK.nx 51 [.slice k0 [a.av, b.av]] st rfl) rfl (frz51 hK) (by
    obtain ⟨ai, an, ak, ae⟩ := a
    obtain ⟨bi, bn, bk, be⟩ := b
    simp only [RS, RT, RZ, tsc0, tz0, nq0, bs0, bn0, reduceLT, reduceLeDiff, reduceEqDiff, reduceMul, reduceAdd, reduceSub, reduceCtorEq, runX_buildM, flat_cons, flat_nil, cells_row, any_row, ic_row, Nat.lt_add_one, x51, kd51_0, F51, LV.av, LV.cells, num_c hK, one_c hK]
    exact ⟨_, rfl, below_row1 (Nat.le_succ _), rfl⟩)
  subst h2 h3
  refine ⟨_, _, h1, ?_, fun _ => ⟨_, rfl⟩⟩
  exact out_one (lv := [⟨false, IntKind.i64.wrap (a.n + b.n), .nil, []⟩]) (by simp) (by simp) rfl
theorem times_c {k0 : SK} {a b : LV} {st : St} : ∃ o st', callW Q (.fn 54) [.slice k0 [a.av, b.av]] .normal st = some (.ret o, st', none) ∧ OutR (fun l => l = [⟨false, IntKind.i64.wrap (a.n * b.n), .nil, []⟩]) st st' o ∧ (true = true → ∃ r, o = .row r 0 1 none) := by
  obtain ⟨v, st1, h1, h2, h3⟩ := row_end (R := fun v st1 => v = .row (st.next + 1) 0 1 none ∧ st1 = ⟨upd (upd st.heap st.next (.mem 24 [.bool false, .int .i64 (IntKind.i64.wrap (a.n * b.n)), .slice .nil []] true 0)) (st.next + 1) (.mem 33 [.row st.next 0 1 none] true 0), st.next + 2, []⟩) (N := 15) (ok54 hK) (hK.nx 54 [.slice k0 [a.av, b.av]] st rfl) rfl (frz54 hK) (by
    obtain ⟨ai, an, ak, ae⟩ := a
    obtain ⟨bi, bn, bk, be⟩ := b
    simp only [RS, RT, RZ, tsc0, tz0, nq0, bs0, bn0, reduceLT, reduceLeDiff, reduceEqDiff, reduceMul, reduceAdd, reduceSub, reduceCtorEq, runX_buildM, flat_cons, flat_nil, cells_row, any_row, ic_row, Nat.lt_add_one, x54, kd54_0, F54, LV.av, LV.cells, num_c hK, one_c hK]
    exact ⟨_, rfl, below_row1 (Nat.le_succ _), rfl⟩)
  subst h2 h3
  refine ⟨_, _, h1, ?_, fun _ => ⟨_, rfl⟩⟩
  exact out_one (lv := [⟨false, IntKind.i64.wrap (a.n * b.n), .nil, []⟩]) (by simp) (by simp) rfl
end
end Go.Proofs.P31

namespace Go.Proofs.P31
open Go Go.AE
open Nat (reduceLT reduceLeDiff reduceEqDiff reduceMul reduceAdd reduceSub)
set_option maxHeartbeats 8000000
theorem untL_ints : ∀ l : List Int, untok.untokL (intsA l) = intsA l
  | [] => rfl
  | x :: l => by have := untL_ints l; simp only [intsA, List.map_cons, untok.untokL] at this ⊢; rw [this]; rfl
theorem belL_ints (n : Nat) : ∀ l : List Int, belowA.belowL n (intsA l) = true
  | [] => rfl
  | x :: l => by have := belL_ints n l; simp only [intsA, List.map_cons, belowA.belowL] at this ⊢; rw [this]; simp [belowA]
theorem ints_noAgg (l : List Int) : ∀ c ∈ intsA l, c.noAgg = true := fun c hc => by
  simp only [intsA, List.mem_map] at hc
  obtain ⟨z, _, rfl⟩ := hc; rfl
theorem ints_cell (l : List Int) : (intsA l).all AV.isCell = true := List.all_eq_true.2 fun c hc => by
  simp only [intsA, List.mem_map] at hc
  obtain ⟨z, _, rfl⟩ := hc; rfl
theorem ints_flat : ∀ l : List Int, flat (intsA l) = intsA l
  | [] => rfl
  | x :: l => by have := ints_flat l; simp only [intsA, List.map_cons, flat_cons] at this ⊢; rw [this]; rfl
theorem ints_sized (l : List Int) : sized 1 (intsA l) = true := List.all_eq_true.2 fun c hc => by
  simp only [intsA, List.mem_map] at hc
  obtain ⟨z, _, rfl⟩ := hc; rfl
theorem ints_sizedH (l : List Int) : sizedH 1 (intsA l) = true := by cases l <;> rfl
theorem frz_end {Q : Ctx} {f : FuncId} {fi : FI} {x : XC} {mu : Bool} {N : Nat} {args : List AV} {st : St} {R : AV → St → Prop} (ok : FnOk Q f fi x mu) (hX : Q.X f args st = none) (hN : max fi.ntmps args.length = N) (hfz : Q.frz f = true)
    (h : Post N [] none (execY (callW Q) Q mu f none x ⟨argTmps args, N, [], none⟩ ⟨st.heap, st.next, []⟩) fun e T st1 => endOf e = some none ∧ ∃ v0, (resultsA Q st1 T fi.results).map packA = some v0 ∧ ∃ v st3, freezeR Q st1 v0 = some (v, st3) ∧ R (untok v) st3) :
    ∃ v st3, callW Q (.fn f) args .normal st = some (.ret v, leaveSt st [v] st3, none) ∧ R v st3 := by
  obtain ⟨e, T, st1, h1, h2, v0, h3, v, st3, h4, h5⟩ := h
  refine ⟨untok v, st3, callYr ok hX hN ⟨_, h1, ?_⟩, h5⟩
  rw [finish_ret (N := N) (v0 := v0) (v := untok v) (st3 := st3) h2 h3 (by rw [hfz, if_pos rfl, h4]; rfl)]
  rfl
theorem leave_old {st0 st1 : St} {vs : List AV} {g : Nat} (h : g ∈ st1.log) (hg : g < st0.next) : leaveSt st0 vs st1 = ⟨st1.heap, st1.next, st1.log.filter (· < st0.next) ++ st0.log⟩ := by
  rcases leave_cases (st0 := st0) (st1 := st1) (vs := vs) with ⟨_, h2⟩ | h2
  · exact absurd (h2 g h) (by omega)
  · exact h2
section
variable {Q : Ctx} (hK : K Q)
include hK
theorem frow3 {g : Nat} {l : List Int} {fu : Bool} {st : St} (hp : st.heap g = .mem 3 (intsA l) fu 0) : freezeV Q st (.row g 0 l.length none) = some (.slice .open_ (intsA l), st.set g .dead) := by
  simp only [freezeV, hp, tw3 hK]
  rw [rowElems_cells (ei := T3) rfl rfl hp (by rw [intsA_len]; exact Nat.le_refl _) (ints_noAgg l), List.take_of_length_le (by rw [intsA_len]; exact Nat.le_refl _)]
  rfl
theorem nums_slice {k : SK} {l : List Int} {st : St} : callW Q (.fn 58) [.slice k (intsA l)] .normal st = some (.ret (.agg [.bool true, .int .i64 0, .slice k.forget (intsA l)]), st, none) := by
  refine callY0 (N := 5) (ok58 hK) (hK.nx _ _ _ rfl) rfl ?_
  simp only [RS, RT, RZ, tsc0, tz0, nq0, bs0, bn0, reduceLT, reduceLeDiff, reduceEqDiff, reduceMul, reduceAdd, reduceSub, reduceCtorEq, x58, F58, tw24 hK, T24, frz58 hK]
  refine ⟨.agg [.bool true, .int .i64 0, .slice k (intsA l)], ⟨upd (upd st.heap st.next (.mem 24 [.bool false, .int .i64 0, .slice .nil []] true 0)) st.next (.mem 24 [.bool true, .int .i64 0, .slice k (intsA l)] true 0), st.next + 1, [st.next]⟩, rfl, ?_, ?_, ?_⟩
  · rw [if_pos trivial]
    simp only [freezeR, freezeVs, freezeV, Option.map_some, untok, untok.untokL, untL_ints]
  · intro l hl; rw [List.mem_singleton] at hl; omega
  · cases k <;> simp [belowA, belowA.belowL, SK.forget, belL_ints]
theorem nums_row {g : Nat} {l : List Int} {fu : Bool} {st : St} (hg : g < st.next) (hp : st.heap g = .mem 3 (intsA l) fu 0) :
    callW Q (.fn 58) [.row g 0 l.length none] .normal st = some (.ret (.agg [.bool true, .int .i64 0, .slice .open_ (intsA l)]), ⟨upd (upd (upd st.heap st.next (.mem 24 [.bool false, .int .i64 0, .slice .nil []] true 0)) st.next (.mem 24 [.bool true, .int .i64 0, .row g 0 l.length none] true 0)) g .dead, st.next + 1, g :: st.log⟩, none) := by
  obtain ⟨v, st3, h1, rfl, rfl⟩ := frz_end (R := fun v st3 => v = .agg [.bool true, .int .i64 0, .slice .open_ (intsA l)] ∧ st3 = ⟨upd (upd (upd st.heap st.next (.mem 24 [.bool false, .int .i64 0, .slice .nil []] true 0)) st.next (.mem 24 [.bool true, .int .i64 0, .row g 0 l.length none] true 0)) g .dead, st.next + 1, [g, st.next]⟩) (N := 5) (ok58 hK) (hK.nx 58 [.row g 0 l.length none] st rfl) rfl (frz58 hK) (by
    simp only [RS, RT, RZ, tsc0, tz0, nq0, bs0, bn0, reduceLT, reduceLeDiff, reduceEqDiff, reduceMul, reduceAdd, reduceSub, reduceCtorEq, runX_buildM, flat_cons, flat_nil, cells_row, any_row, ic_row, Nat.lt_add_one, x58, F58, tw24 hK, T24]
    refine ⟨_, rfl, .agg [.bool true, .int .i64 0, .slice .open_ (intsA l)], _, ?_, ?_, rfl⟩
    · simp only [freezeR, freezeVs]
      rw [show ∀ s : St, freezeV Q s (.bool true) = some (.bool true, s) from fun _ => rfl, ]
      simp only
      rw [show ∀ s : St, freezeV Q s (.int .i64 0) = some (.int .i64 0, s) from fun _ => rfl]
      simp only
      rw [frow3 hK (l := l) (fu := fu) (by simp only; rw [upd_ne _ _ (by omega), upd_ne _ _ (by omega)]; exact hp)]
      rfl
    · simp only [untok, untok.untokL, untL_ints, SK.forget])
  rw [h1, leave_old (g := g) (by simp) hg]
  have e : [g, st.next].filter (fun x => decide (x < st.next)) = [g] := by simp [hg]
  simp only [e]
  rfl
end
end Go.Proofs.P31

namespace Go.Proofs.P31
open Go Go.AE
open Nat (reduceLT reduceLeDiff reduceEqDiff reduceMul reduceAdd reduceSub)
set_option maxHeartbeats 8000000
def SK.isNil : SK → Bool | .nil => true | _ => false
structure NewI (st : St) (g : Nat) (l : List Int) (h' : Nat → AO) (nx' : Nat) : Prop where
  at_ : ∃ fu, h' g = .mem 3 (intsA l) fu 0
  lo : st.next ≤ g
  hi : g < nx'
  old : ∀ q, q < st.next → h' q = st.heap q
section
variable {Q : Ctx} (hK : K Q)
include hK
theorem frz62 : Q.frz 62 = false := hK.frz_ (by kernel_rfl)
theorem eqnil {k : SK} {es : List AV} {xo yo : Operand} : binA Q .eql 22 xo yo (.slice k es) (ofV (.slice none 0 0)) = some (.bool (SK.isNil k)) := by
  show binA Q .eql 22 xo yo (.slice k es) (.slice .nil []) = _
  have t := tw22 hK
  unfold T22 at t
  cases k <;> simp [binA, eqV, t, boolA, SK.isNil]
omit hK in
theorem app_new {A : Nat} {h : Nat → AO} {nx : Nat} {lg : List Nat} {l : List Int} (hp : h A = .mem 3 [] true 0) (hl : l ≠ []) (hl2 : l.length < 1000000) : appendA true ⟨h, nx, lg⟩ 3 T3 (.row A 0 0 none) (intsA l) = some (.row nx 0 l.length none, ⟨upd h nx (.mem 3 (intsA l) false 0), nx + 1, lg⟩) := by
  have e1 : sized T3.size (intsA l) = true := ints_sized _
  have e2 : (flat (intsA l)).all AV.isCell = true := by rw [ints_flat]; exact ints_cell _
  have e3 : roomy (0 + (intsA l).length) T3.bytes = true := by
    rw [intsA_len]
    show (decide ((0 + l.length) * 8 ≤ 1099511627776) && decide (8 ≤ 1048576) && decide (0 + l.length ≤ 1099511627776)) = true
    rw [decide_eq_true (by omega), decide_eq_true (by omega)]; rfl
  have e4 : rowElems ⟨h, nx, lg⟩ T3 A 0 0 = some [] := by
    simp [rowElems, rowCells, hp, chunk]
    intro _
    decide
  have e5 : ¬ (0 + (0 + (intsA l).length) * T3.size ≤ ([] : List AV).length) := by
    rw [intsA_len]
    have : l.length ≠ 0 := by simpa using hl
    show ¬ (0 + (0 + l.length) * 1 ≤ 0)
    omega
  obtain ⟨y, ys, hy⟩ : ∃ y ys, intsA l = y :: ys := by
    cases l with
    | nil => exact absurd rfl hl
    | cons y ys => exact ⟨_, _, rfl⟩
  have e6 : appendA true ⟨h, nx, lg⟩ 3 T3 (.row A 0 0 none) (intsA l) = appendRow true ⟨h, nx, lg⟩ 3 T3 A 0 0 none (intsA l) := by
    rw [hy] at e1 e2 e3 ⊢
    simp only [appendA]
    rw [if_pos ⟨e1, by decide, e2⟩, if_pos e3]
  rw [e6]
  simp only [appendRow, hp]
  rw [if_neg (by decide), if_pos (by rfl), if_neg e5, if_pos trivial, e4]
  simp only [Option.map_some, List.nil_append, fresh, if_true, ints_flat, intsA_len]
  rfl
theorem clone_c {k : SK} {l : List Int} (hk : SK.isNil k = false) (hl2 : l.length < 1000000) {st : St} : ∃ g h' nx', callW Q (.fn 62) [.slice k (intsA l)] .normal st = some (.ret (.row g 0 l.length none), ⟨h', nx', st.log⟩, none) ∧ NewI st g l h' nx' := by
  by_cases hl : l = []
  · subst hl
    obtain ⟨v, st1, h1, rfl, rfl⟩ := row_end (R := fun v st1 => v = .row st.next 0 0 none ∧ st1 = ⟨upd st.heap st.next (.mem 3 [] true 0), st.next + 1, []⟩) (N := 8) (ok62 hK) (hK.nx 62 [.slice k (intsA [])] st rfl) rfl (frz62 hK) (by
      simp only [RS, RT, RZ, tsc0, tz0, nq0, bs0, bn0, reduceLT, reduceLeDiff, reduceEqDiff, reduceMul, reduceAdd, reduceSub, reduceCtorEq, runX_buildM, flat_cons, flat_nil, cells_row, any_row, ic_row, Nat.lt_add_one, x62, F62, gA_bin, eqnil hK, hk, intsA, List.map_nil, appendA]
      exact ⟨_, rfl, below_row1 (Nat.le_refl _), rfl⟩)
    exact ⟨_, _, _, h1, ⟨true, upd_same ..⟩, Nat.le_refl _, by simp only; omega, fun q hq => upd_ne _ _ (by omega)⟩
  · obtain ⟨v, st1, h1, rfl, rfl⟩ := row_end (R := fun v st1 => v = .row (st.next + 1) 0 l.length none ∧ st1 = ⟨upd (upd st.heap st.next (.mem 3 [] true 0)) (st.next + 1) (.mem 3 (intsA l) false 0), st.next + 2, []⟩) (N := 8) (ok62 hK) (hK.nx 62 [.slice k (intsA l)] st rfl) rfl (frz62 hK) (by
      have ea := app_new (A := st.next) (h := upd st.heap st.next (.mem 3 [] true 0)) (nx := st.next + 1) (lg := []) (l := l) (upd_same ..) hl hl2
      simp only [RS, RT, RZ, tsc0, tz0, nq0, bs0, bn0, reduceLT, reduceLeDiff, reduceEqDiff, reduceMul, reduceAdd, reduceSub, reduceCtorEq, runX_buildM, flat_cons, flat_nil, cells_row, any_row, ic_row, Nat.lt_add_one, x62, F62, gA_bin, eqnil hK, hk, ea]
      exact ⟨_, rfl, below_row1 (Nat.le_succ _), rfl⟩)
    exact ⟨_, _, _, h1, ⟨false, upd_same ..⟩, Nat.le_succ _, by simp only; omega, fun q hq => by simp only; rw [upd_ne _ _ (by omega), upd_ne _ _ (by omega)]⟩
theorem clone_nil {st : St} : callW Q (.fn 62) [.slice .nil []] .normal st = some (.ret (.slice .nil []), st, none) := by
  refine callY (N := 8) (ok62 hK) (hK.nx _ _ _ rfl) rfl rfl ?_
  simp only [RS, RT, RZ, tsc0, tz0, nq0, bs0, bn0, reduceLT, reduceLeDiff, reduceEqDiff, reduceMul, reduceAdd, reduceSub, reduceCtorEq, x62, F62, gA_bin, eqnil hK, SK.isNil]
end
end Go.Proofs.P31

namespace Go.Proofs.P31
open Go Go.AE
open Nat (reduceLT reduceLeDiff reduceEqDiff reduceMul reduceAdd reduceSub)
set_option maxHeartbeats 8000000
theorem mkd_c {n0 l : Nat} {b : List Bool} {ws : List (Nat × Nat)} {ls : List Nat} : allMade n0 b ws (l :: ls) = ((l < n0 ∨ madeBy l b ws) ∧ allMade n0 b ws ls) := (rfl)
theorem mb_t {l : Nat} {m : List Bool} {w : Nat × Nat} {ws : List (Nat × Nat)} : madeBy l (true :: m) (w :: ws) = ((w.1 ≤ l ∧ l < w.2) ∨ madeBy l m ws) := (rfl)
structure AccR (lo : Nat) (P : List LV → Prop) (h : Nat → AO) (nx r n : Nat) (cells : List AV) : Prop where
  at_ : h r = .mem 33 cells false 0
  len : cells.length = n
  lo_ : lo ≤ r
  hi_ : r < nx
  ok : ∀ c ∈ cells, ∃ l, RowB lo h nx c l ∧ P l
theorem row33 {c : AV} {B : Nat} {st : St} {fu : Bool} (hp : st.heap B = .mem 33 [c] fu 0) (hn : c.noAgg = true) : elemsOf st T33 (.row B 0 1 none) = some [c] := by
  show rowElems st T33 B 0 1 = _
  rw [rowElems_cells (ei := T33) rfl rfl hp (by simp) (by intro x hx; rw [List.mem_singleton] at hx; subst hx; exact hn)]
  rfl
theorem app33 {A k n : Nat} {m : Option Nat} {h : Nat → AO} {nx r : Nat} {cells : List AV} (hp : h r = .mem 33 cells false 0) (hl : cells.length = n) (hn : n < 1000000) :
    appendA true ⟨h, nx, []⟩ 33 T33 (.row r 0 n none) [.row A 0 k m] = some (.row nx 0 (n + 1) none, ⟨upd (upd h r .dead) nx (.mem 33 (cells ++ [.row A 0 k m]) false 0), nx + 1, [r]⟩) := by
  have e3 : roomy (n + [AV.row A 0 k m].length) T33.bytes = true := by
    show (decide ((n + 1) * 24 ≤ 1099511627776) && decide (24 ≤ 1048576) && decide (n + 1 ≤ 1099511627776)) = true
    rw [decide_eq_true (by omega), decide_eq_true (by omega)]; rfl
  have e5 : ¬ (0 + (n + [AV.row A 0 k m].length) * T33.size ≤ cells.length) := by rw [hl]; show ¬ (0 + (n + 1) * 1 ≤ n); omega
  have e6 : 0 + n * T33.size = cells.length := by rw [hl]; show 0 + n * 1 = n; omega
  simp only [appendA]
  rw [if_pos ⟨rfl, by decide, rfl⟩, if_pos e3]
  simp only [appendRow, hp]
  rw [if_neg (by decide), if_pos (by rfl), if_neg e5, if_neg (by decide), if_pos e6]
  rfl
theorem app33n {A k : Nat} {m : Option Nat} {h : Nat → AO} {nx : Nat} : appendA true ⟨h, nx, []⟩ 33 T33 (.slice .nil []) [.row A 0 k m] = some (.row nx 0 1 none, ⟨upd h nx (.mem 33 [.row A 0 k m] false 0), nx + 1, []⟩) := by
  simp only [appendA]
  rw [if_pos ⟨rfl, by decide, rfl⟩, if_pos ⟨rfl, by rfl⟩]
  rfl
theorem rowB_new {n0 A nx' : Nat} {lv : List LV} {h : Nat → AO} (hA : h A = .mem 24 (flatL lv) true 0) (h1 : n0 ≤ A) (h2 : A < nx') (h3 : lv.length < 1000000) (h4 : ∀ x ∈ lv, x.es.length < 1000000) : RowB n0 h nx' (.row A 0 lv.length none) lv :=
  ⟨⟨⟨A, rfl, hA, h2⟩, h3, h4⟩, ⟨A, _, _, rfl, h1⟩⟩
theorem acc_first {n0 A : Nat} {P : List LV → Prop} {lv : List LV} {H : Nat → AO} {o : AO} (h1 : n0 ≤ A) (h3 : lv.length < 1000000) (h4 : ∀ x ∈ lv, x.es.length < 1000000) (hP : P lv) :
    AccR n0 P (upd (upd (upd H A (.mem 24 (flatL lv) true 0)) (A + 1) o) (A + 2) (.mem 33 [.row A 0 lv.length none] false 0)) (A + 3) (A + 2) 1 [.row A 0 lv.length none] :=
  ⟨upd_same .., rfl, by omega, by omega, fun c hc => by
    rw [List.mem_singleton] at hc; subst hc
    exact ⟨lv, rowB_new (by rw [upd_ne _ _ (by omega), upd_ne _ _ (by omega), upd_same]) h1 (by omega) h3 h4, hP⟩⟩
theorem acc_next {n0 nx r n A : Nat} {P : List LV → Prop} {lv : List LV} {cells : List AV} {h H : Nat → AO} {o : AO} (a : AccR n0 P h nx r n cells) (hH : ∀ q, q < nx → H q = h q) (hA : nx ≤ A) (h1 : n0 ≤ A) (h3 : lv.length < 1000000) (h4 : ∀ x ∈ lv, x.es.length < 1000000) (hP : P lv) :
    AccR n0 P (upd (upd (upd (upd H A (.mem 24 (flatL lv) true 0)) (A + 1) o) r .dead) (A + 2) (.mem 33 (cells ++ [.row A 0 lv.length none]) false 0)) (A + 3) (A + 2) (n + 1) (cells ++ [.row A 0 lv.length none]) := by
  have hr := a.hi_
  refine ⟨upd_same .., by simp [a.len], by omega, by omega, fun c hc => ?_⟩
  rcases List.mem_append.1 hc with hc | hc
  · obtain ⟨l, h5, h6⟩ := a.ok c hc
    refine ⟨l, h5.mono (fun q hq1 hq2 ⟨cs, hcs⟩ => ?_) (by omega) (Nat.le_refl _), h6⟩
    have : q ≠ r := by intro e; subst e; rw [a.at_] at hcs; cases hcs
    rw [upd_ne _ _ (by omega), upd_ne _ _ this, upd_ne _ _ (by omega), upd_ne _ _ (by omega)]; exact hH q hq2
  · rw [List.mem_singleton] at hc; subst hc
    exact ⟨lv, rowB_new (by rw [upd_ne _ _ (by omega), upd_ne _ _ (by omega), upd_ne _ _ (by omega), upd_same]) h1 (by omega) h3 h4, hP⟩
theorem cut_nil {k : SK} {b : Bool} : SK.isNil (k.cut b) = SK.isNil k := by
  cases k <;> cases b <;> rfl
section
variable {Q : Ctx} (hK : K Q)
include hK
theorem sl_hi {k : SK} {l : List Int} {i : Nat} {st : St} (hi : i ≤ l.length) : sliceA Q st 22 (.slice k (intsA l)) none (some i) none = some (.slice (k.cut (i == l.length)) (intsA (l.take i))) := by
  have t := tw22 hK
  unfold T22 at t
  have t3 := tw3 hK
  unfold T3 at t3
  simp only [sliceA, t, Option.isNone_some, Bool.false_and, Bool.false_eq_true, if_false, sizeIs, t3, Option.map_some]
  rw [if_pos (ints_sizedH l)]
  simp only [sliceC, Option.getD_some, Option.getD_none, intsA_len]
  rw [if_pos ⟨Nat.zero_le _, hi⟩]
  simp [intsA, List.map_take]
theorem sl_lo {k : SK} {l : List Int} {i : Nat} {st : St} (hi : i ≤ l.length) : sliceA Q st 22 (.slice k (intsA l)) (some i) none none = some (.slice (k.cut true) (intsA (l.drop i))) := by
  have t := tw22 hK
  unfold T22 at t
  have t3 := tw3 hK
  unfold T3 at t3
  simp only [sliceA, t, Option.isSome_none, Bool.and_false, Bool.false_eq_true, if_false, sizeIs, t3, Option.map_some]
  rw [if_pos (ints_sizedH l)]
  simp only [sliceC, Option.getD_some, Option.getD_none, intsA_len]
  rw [if_pos ⟨hi, Nat.le_refl _⟩]
  simp only [beq_self_eq_true, intsA, List.map_drop]
  rw [List.take_of_length_le (by simp)]
def splitP (l : List Int) (x : List LV) : Prop := ∃ a b, x = [a, b] ∧ a.es ++ b.es = l ∧ a.il = true ∧ b.il = true
theorem split_round {k : SK} {l : List Int} (hk : SK.isNil k = true → l = []) (hl : l.length < 100) {n0 : Nat} {h0 : Nat → AO} : ∀ (n : Nat) T st, (∃ (i : Nat), T 3 = .slice k (intsA l) ∧ T 11 = .int .i64 ((l.length + 1 : Nat) : Int) ∧ T 12 = .int .i64 (i : Int) ∧ i + n = l.length + 2 ∧ i ≤ l.length + 1 ∧ n0 ≤ st.next ∧ LogOk n0 st.log ∧ (∀ q, q < n0 → st.heap q = h0 q) ∧ ((i = 0 ∧ T 2 = .slice .nil []) ∨ (0 < i ∧ ∃ r cells, T 2 = .row r 0 i none ∧ AccR n0 (splitP l) st.heap st.next r i cells))) →
    Post 31 [] none (execY (callW Q) Q true 60 none (.loop l60_0) ⟨T, 31, [], none⟩ st) fun e T' st' => e = .exit 0 ∧ n0 ≤ st'.next ∧ LogOk n0 st'.log ∧ (∀ q, q < n0 → st'.heap q = h0 q) ∧ ∃ r cells, T' 2 = .row r 0 (l.length + 1) none ∧ AccR n0 (splitP l) st'.heap st'.next r (l.length + 1) cells := by
  refine post_loop fun n T st => ?_
  rintro ⟨i, t3, t11, t12, hn, hi, hnx, hlg, hold, hacc⟩
  obtain ⟨h, nx, lg⟩ := st
  simp only at hnx hlg hold hacc
  have w1 := wrapN (z := (i : Int) + 1) (n := i + 1) (by omega) (by omega)
  by_cases hc : i < l.length + 1
  · have s1 := fun st => sl_hi hK (k := k) (l := l) (i := i) (st := st) (by omega)
    have s2 := fun st => sl_lo hK (k := k) (l := l) (i := i) (st := st) (by omega)
    cases hkn : SK.isNil k with
    | true =>
      have hl0 := hk hkn
      subst hl0
      simp only [List.length_nil] at hn hi hc
      have hi0 : i = 0 := by omega
      have hk0 : k = .nil := by cases k <;> first | rfl | cases hkn
      subst hk0
      obtain ⟨_, t2⟩ | ⟨h9, _⟩ := hacc
      · have n1 := fun st => nums_slice hK (k := .nil) (l := []) (st := st)
        simp only [intsA, List.map_nil, SK.forget] at n1 t3
        have s1' : ∀ st, sliceA Q st 22 (.slice .nil []) none (some i) none = some (.slice .nil []) := fun st => by
          have := s1 st; rw [hi0] at this ⊢; exact this
        have s2' : ∀ st, sliceA Q st 22 (.slice .nil []) (some i) none none = some (.slice .nil []) := fun st => by
          have := s2 st; rw [hi0] at this ⊢; exact this
        have eB : ∀ hh : Nat → AO, elemsOf ⟨upd hh (nx + 1) (.mem 33 [.row nx 0 2 none] true 0), nx + 2, []⟩ T33 (.row (nx + 1) 0 1 none) = some [.row nx 0 2 none] := fun hh => row33 (upd_same ..) rfl
        have d0 : decide ((i : Int) < 1) = true := by rw [decide_eq_true_iff]; omega
        simp only [List.length_nil, Nat.zero_add, cast_1] at t11
        simp only [RS, RT, RZ, tsc0, tz0, nq0, bs0, bn0, reduceLT, reduceLeDiff, reduceEqDiff, reduceMul, reduceAdd, reduceSub, reduceCtorEq, if_false, mkd_c, mb_t, mb_n, true_or, or_true, runX_buildM, flat_cons, flat_nil, cells_row, any_row, ic_row, Nat.lt_add_one, l60_0, kd60_0, t2, t3, t11, t12, d0, gA_slice, sliceK3_some, boundA_none, boundA_some, s1', s2', clone_nil hK, n1, eB, app33n, w1]
        refine ⟨n - 1, by omega, i + 1, rfl, rfl, by omega, by omega, by omega, hlg, fun q hq => ?_, .inr ⟨by omega, nx + 2, [.row nx 0 2 none], by rw [hi0], ?_⟩⟩
        · rw [upd_ne _ _ (by omega), upd_ne _ _ (by omega), upd_ne _ _ (by omega)]; exact hold q hq
        · rw [hi0]
          exact acc_first (lv := [⟨true, 0, .nil, []⟩, ⟨true, 0, .nil, []⟩]) hnx (by simp) (by simp) ⟨_, _, rfl, rfl, rfl, rfl⟩
      · omega
    | false =>
      obtain ⟨g1, h1, nx1, c1, ⟨⟨f1, at1⟩, lo1, hi1, old1⟩⟩ := clone_c hK (k := k.cut (i == l.length)) (l := l.take i) (by rw [cut_nil]; exact hkn) (by simp; omega) (st := ⟨h, nx, []⟩)
      simp only at c1 lo1 old1
      have n1 := nums_row hK (g := g1) (l := l.take i) (st := ⟨h1, nx1, []⟩) hi1 at1
      simp only at n1
      obtain ⟨g2, h2, nx2, c2, ⟨⟨f2, at2⟩, lo2, hi2, old2⟩⟩ := clone_c hK (k := k.cut true) (l := l.drop i) (by rw [cut_nil]; exact hkn) (by simp; omega) (st := ⟨upd (upd (upd h1 nx1 (.mem 24 [.bool false, .int .i64 0, .slice .nil []] true 0)) nx1 (.mem 24 [.bool true, .int .i64 0, .row g1 0 (l.take i).length none] true 0)) g1 .dead, nx1 + 1, []⟩)
      simp only at c2 lo2 old2
      have n2 := nums_row hK (g := g2) (l := l.drop i) (st := ⟨h2, nx2, []⟩) hi2 at2
      simp only at n2
      have eB : ∀ hh : Nat → AO, elemsOf ⟨upd hh (nx2 + 2) (.mem 33 [.row (nx2 + 1) 0 2 none] true 0), nx2 + 3, []⟩ T33 (.row (nx2 + 2) 0 1 none) = some [.row (nx2 + 1) 0 2 none] := fun hh => row33 (upd_same ..) rfl
      have d1 : (h1 g1).isDead = false := by rw [at1]; rfl
      have d2 : (h2 g2).isDead = false := by rw [at2]; rfl
      rcases hacc with ⟨hi0, t2⟩ | ⟨hpos, r, cells, t2, acc⟩
      · simp only [RS, RT, RZ, tsc0, tz0, nq0, bs0, bn0, reduceLT, reduceLeDiff, reduceEqDiff, reduceMul, reduceAdd, reduceSub, reduceCtorEq, if_false, mkd_c, mb_t, mb_n, true_or, or_true, runX_buildM, flat_cons, flat_nil, cells_row, any_row, ic_row, Nat.lt_add_one, l60_0, kd60_0, t2, t3, t11, t12, hc, gA_slice, sliceK3_some, boundA_none, boundA_some, s1, s2, c1, n1, c2, n2, eB, app33n, w1, d1, d2, hi1, hi2, lo1, lo2, Nat.lt_succ_of_lt hi1]
        refine ⟨n - 1, by omega, i + 1, rfl, by omega, by omega, by omega, ⟨by omega, by omega, hlg⟩, fun q hq => ?_, .inr ⟨by omega, nx2 + 3, [.row (nx2 + 1) 0 2 none], by rw [hi0], ?_⟩⟩
        · rw [upd_ne _ _ (by omega), upd_ne _ _ (by omega), upd_ne _ _ (by omega), upd_ne _ _ (by omega), upd_ne _ _ (by omega), upd_ne _ _ (by omega), old2 q (by omega), upd_ne _ _ (by omega), upd_ne _ _ (by omega), upd_ne _ _ (by omega), old1 q (by omega)]; exact hold q hq
        · rw [hi0]
          exact acc_first (lv := [⟨true, 0, .open_, l.take 0⟩, ⟨true, 0, .open_, l.drop 0⟩]) (by omega) (by simp) (by simp; omega) ⟨_, _, rfl, by simp, rfl, rfl⟩
      · have hlt := acc.len
        have hrd : (h r).isDead = false := by rw [acc.at_]; rfl
        have ea : ∀ hh : Nat → AO, hh r = .mem 33 cells false 0 → appendA true ⟨hh, nx2 + 3, []⟩ 33 T33 (.row r 0 i none) [.row (nx2 + 1) 0 2 none] = some (.row (nx2 + 3) 0 (i + 1) none, ⟨upd (upd hh r .dead) (nx2 + 3) (.mem 33 (cells ++ [.row (nx2 + 1) 0 2 none]) false 0), nx2 + 4, [r]⟩) := fun hh hp => app33 hp hlt (by omega)
        have hr1 := acc.hi_
        have hr2 := acc.lo_
        have eh := ea (upd (upd (upd (upd (upd h2 nx2 (.mem 24 [.bool false, .int .i64 0, .slice .nil []] true 0)) nx2 (.mem 24 [.bool true, .int .i64 0, .row g2 0 (l.drop i).length none] true 0)) g2 .dead) (nx2 + 1) (.mem 24 [.bool true, .int .i64 0, .slice .open_ (intsA (l.take i)), .bool true, .int .i64 0, .slice .open_ (intsA (l.drop i))] true 0)) (nx2 + 2) (.mem 33 [.row (nx2 + 1) 0 2 none] true 0)) (by
          rw [upd_ne _ _ (by omega), upd_ne _ _ (by omega), upd_ne _ _ (by omega), upd_ne _ _ (by omega), upd_ne _ _ (by omega), old2 r (by omega), upd_ne _ _ (by omega), upd_ne _ _ (by omega), upd_ne _ _ (by omega), old1 r (by omega), acc.at_])
        have hrd2 : (upd (upd (upd (upd (upd h2 nx2 (.mem 24 [.bool false, .int .i64 0, .slice .nil []] true 0)) nx2 (.mem 24 [.bool true, .int .i64 0, .row g2 0 (l.drop i).length none] true 0)) g2 .dead) (nx2 + 1) (.mem 24 [.bool true, .int .i64 0, .slice .open_ (intsA (l.take i)), .bool true, .int .i64 0, .slice .open_ (intsA (l.drop i))] true 0)) (nx2 + 2) (.mem 33 [.row (nx2 + 1) 0 2 none] true 0) r).isDead = false := by
          rw [upd_ne _ _ (by omega), upd_ne _ _ (by omega), upd_ne _ _ (by omega), upd_ne _ _ (by omega), upd_ne _ _ (by omega), old2 r (by omega), upd_ne _ _ (by omega), upd_ne _ _ (by omega), upd_ne _ _ (by omega), old1 r (by omega), acc.at_]; rfl
        have hrn : r < nx2 + 3 := by omega
        simp only [RS, RT, RZ, tsc0, tz0, nq0, bs0, bn0, reduceLT, reduceLeDiff, reduceEqDiff, reduceMul, reduceAdd, reduceSub, reduceCtorEq, if_false, mkd_c, mb_t, mb_n, true_or, or_true, runX_buildM, flat_cons, flat_nil, cells_row, any_row, ic_row, Nat.lt_add_one, l60_0, kd60_0, t2, t3, t11, t12, hc, gA_slice, sliceK3_some, boundA_none, boundA_some, s1, s2, c1, n1, c2, n2, eB, eh, w1, d1, d2, hi1, hi2, lo1, lo2, Nat.lt_succ_of_lt hi1, hrd2, hrn, hr1]
        refine ⟨n - 1, by omega, i + 1, rfl, by omega, by omega, by omega, ?_, fun q hq => ?_, .inr ⟨by omega, nx2 + 3, cells ++ [.row (nx2 + 1) 0 2 none], rfl, ?_⟩⟩
        · exact ⟨by omega, by omega, by omega, hlg⟩
        · rw [upd_ne _ _ (by omega), upd_ne _ _ (by omega), upd_ne _ _ (by omega), upd_ne _ _ (by omega), upd_ne _ _ (by omega), upd_ne _ _ (by omega), upd_ne _ _ (by omega), old2 q (by omega), upd_ne _ _ (by omega), upd_ne _ _ (by omega), upd_ne _ _ (by omega), old1 q (by omega)]; exact hold q hq
        · exact acc_next (lv := [⟨true, 0, .open_, l.take i⟩, ⟨true, 0, .open_, l.drop i⟩]) acc (fun q hq => by rw [upd_ne _ _ (by omega), upd_ne _ _ (by omega), upd_ne _ _ (by omega), old2 q (by omega), upd_ne _ _ (by omega), upd_ne _ _ (by omega), upd_ne _ _ (by omega), old1 q (by omega)]) (by omega) (by omega) (by simp) (by simp; omega) ⟨_, _, rfl, by simp, rfl, rfl⟩
  · have hieq : i = l.length + 1 := by omega
    obtain ⟨r, cells, t2, acc⟩ : ∃ r cells, T 2 = .row r 0 i none ∧ AccR n0 (splitP l) h nx r i cells := by
      rcases hacc with ⟨hi0, _⟩ | ⟨_, h⟩
      · omega
      · exact h
    rw [hieq] at t2 acc
    simp only [RS, RT, RZ, tsc0, tz0, nq0, bs0, bn0, reduceLT, reduceLeDiff, reduceEqDiff, reduceMul, reduceAdd, reduceSub, reduceCtorEq, if_false, mkd_c, mb_t, mb_n, true_or, or_true, runX_buildM, flat_cons, flat_nil, cells_row, any_row, ic_row, Nat.lt_add_one, l60_0, kd60_0, t2, t3, t11, t12, hc]
    exact ⟨hnx, hlg, hold, r, cells, rfl, acc⟩
end
end Go.Proofs.P31

namespace Go.Proofs.P31
open Go Go.AE
open Nat (reduceLT reduceLeDiff reduceEqDiff reduceMul reduceAdd reduceSub)
set_option maxHeartbeats 8000000
section
variable {Q : Ctx} (hK : K Q)
include hK
theorem frz60 : Q.frz 60 = false := hK.frz_ (by kernel_rfl)
theorem split_c {k0 : SK} {a : LV} (hk : SK.isNil a.k = true → a.es = []) (hl : a.es.length < 100) {st : St} : ∃ o st', callW Q (.fn 60) [.slice k0 [a.av]] .normal st = some (.ret o, st', none) ∧ OutR (splitP a.es) st st' o := by
  obtain ⟨v, st1, h1, r, cells, rfl, h2, h3, h4, h5⟩ := row_end (R := fun v st1 => ∃ r cells, v = .row r 0 (a.es.length + 1) none ∧ st.next ≤ st1.next ∧ LogOk st.next st1.log ∧ (∀ q, q < st.next → st1.heap q = st.heap q) ∧ AccR st.next (splitP a.es) st1.heap st1.next r (a.es.length + 1) cells) (N := 31) (ok60 hK) (hK.nx 60 [.slice k0 [a.av]] st rfl) rfl (frz60 hK) (by
    have w1 := wrapN (z := (a.es.length : Int) + 1) (n := a.es.length + 1) (by omega) (by omega)
    simp only [RS, RT, RZ, tsc0, tz0, nq0, bs0, bn0, reduceLT, reduceLeDiff, reduceEqDiff, reduceMul, reduceAdd, reduceSub, reduceCtorEq, runX_buildM, flat_cons, flat_nil, cells_row, any_row, ic_row, Nat.lt_add_one, x60, kd60_0, LV.av, LV.cells, intsA_len, w1]
    refine post_bind (split_round hK (k := a.k) (l := a.es) hk hl (n0 := st.next) (h0 := st.heap) (a.es.length + 2) _ _ ⟨0, ?_, ?_, ?_, by omega, by omega, Nat.le_refl _, (fun l hl => nomatch hl), fun q hq => rfl, .inl ⟨rfl, ?_⟩⟩) ?_
    all_goals try (simp only [RS, RT, RZ, tsc0, tz0, nq0, bs0, bn0, reduceLT, reduceLeDiff, reduceEqDiff, reduceMul, reduceAdd, reduceSub, reduceCtorEq, cast_0]; done)
    rintro e T st1 ⟨rfl, h2, h3, h4, r, cells, t2, acc⟩
    simp only [RS, RT, RZ, tsc0, tz0, nq0, bs0, bn0, reduceLT, reduceLeDiff, reduceEqDiff, reduceMul, reduceAdd, reduceSub, reduceCtorEq, runX_buildM, flat_cons, flat_nil, cells_row, any_row, ic_row, Nat.lt_add_one, F60, t2]
    exact ⟨_, rfl, below_row1 acc.lo_, r, cells, rfl, h2, h3, h4, acc⟩)
  rw [filt_nil h3, List.nil_append] at h1
  refine ⟨_, _, h1, ⟨⟨r, cells, false, by rw [h5.len], h5.at_, h5.lo_, h5.hi_, by rw [h5.len]; omega, by rw [h5.len]; omega, h5.ok⟩, h4, h2, fun q hq => .inl hq⟩⟩
end
end Go.Proofs.P31

namespace Go.Proofs.P31
open Go Go.AE
open Nat (reduceLT reduceLeDiff reduceEqDiff reduceMul reduceAdd reduceSub)
set_option maxHeartbeats 8000000
theorem intsA_set (L : List Int) (i : Nat) (z : Int) : (intsA L).set i (.int .i64 z) = intsA (L.set i z) := by simp [intsA, List.map_set]
theorem permI_swap {i j : Nat} {v w : Int} {cs : List Int} (hi : cs[i]? = some v) (hj : cs[j]? = some w) : ((cs.set i w).set j v).Perm cs := by
  obtain ⟨hi1, rfl⟩ := List.getElem?_eq_some_iff.1 hi
  obtain ⟨hj1, rfl⟩ := List.getElem?_eq_some_iff.1 hj
  exact List.set_set_perm hi1 hj1
def OrdX (L : List Int) (i j : Nat) : Prop := (∀ p q x y, p < q → q ≤ i → p ≠ j → q ≠ j → L[p]? = some x → L[q]? = some y → x ≤ y) ∧ ∀ q x y, j < q → q ≤ i → L[j]? = some x → L[q]? = some y → x ≤ y
def Ord (L : List Int) (i : Nat) : Prop := ∀ p q x y, p < q → q ≤ i → L[p]? = some x → L[q]? = some y → x ≤ y
theorem ord_swap {L : List Int} {i j : Nat} {v w : Int} (h : OrdX L i j) (hj : 0 < j) (hji : j ≤ i) (hv : L[j]? = some v) (hw : L[j - 1]? = some w) (hlt : v < w) : OrdX ((L.set j w).set (j - 1) v) i (j - 1) := by
  have hjl : j < L.length := (List.getElem?_eq_some_iff.1 hv).1
  have at_ : ∀ k x, ((L.set j w).set (j - 1) v)[k]? = some x → (k = j ∧ x = w) ∨ (k = j - 1 ∧ x = v) ∨ (k ≠ j ∧ k ≠ j - 1 ∧ L[k]? = some x) := by
    intro k x hx
    by_cases h1 : k = j - 1
    · subst h1
      rw [List.getElem?_set_self (by simp; omega)] at hx
      exact .inr (.inl ⟨rfl, by cases hx; rfl⟩)
    · rw [List.getElem?_set_ne (by omega)] at hx
      by_cases h2 : k = j
      · subst h2
        rw [List.getElem?_set_self hjl] at hx
        exact .inl ⟨rfl, by cases hx; rfl⟩
      · rw [List.getElem?_set_ne (by omega)] at hx
        exact .inr (.inr ⟨h2, h1, hx⟩)
  refine ⟨fun p q x y hpq hqi hp hq hx hy => ?_, fun q x y hjq hqi hx hy => ?_⟩
  · rcases at_ p x hx with ⟨rfl, rfl⟩ | ⟨h1, _⟩ | ⟨h1, h2, h3⟩
    · rcases at_ q y hy with ⟨rfl, _⟩ | ⟨h4, _⟩ | ⟨h4, h5, h6⟩
      · omega
      · exact absurd h4 hq
      · exact h.1 (p - 1) q x y (by omega) hqi (by omega) (by omega) hw h6
    · exact absurd h1 hp
    · rcases at_ q y hy with ⟨rfl, rfl⟩ | ⟨h4, _⟩ | ⟨h4, h5, h6⟩
      · exact h.1 p (q - 1) x y (by omega) (by omega) (by omega) (by omega) h3 hw
      · exact absurd h4 hq
      · exact h.1 p q x y hpq hqi h1 h4 h3 h6
  · rcases at_ (j - 1) x hx with ⟨h1, _⟩ | ⟨_, rfl⟩ | ⟨_, h2, _⟩
    · omega
    · rcases at_ q y hy with ⟨rfl, rfl⟩ | ⟨h4, _⟩ | ⟨h4, h5, h6⟩
      · omega
      · omega
      · exact h.2 q x y (by omega) hqi hv h6
    · exact absurd rfl h2
theorem ord_stop {L : List Int} {i j : Nat} (h : OrdX L i j) (hji : j ≤ i) (hs : j = 0 ∨ ∀ v w, L[j]? = some v → L[j - 1]? = some w → w ≤ v) (hl : i < L.length) : Ord L i := by
  intro p q x y hpq hqi hx hy
  by_cases hp : p = j
  · subst hp; exact h.2 q x y hpq hqi hx hy
  · by_cases hq : q = j
    · subst hq
      rcases hs with h0 | hs
      · omega
      · have hw : L[q - 1]? = some L[q - 1] := List.getElem?_eq_getElem (by omega)
        have h1 := hs y _ hy hw
        by_cases hpq2 : p = q - 1
        · subst hpq2; rw [hw] at hx; cases hx; exact h1
        · have := h.1 p (q - 1) x _ (by omega) (by omega) hp (by omega) hx hw
          omega
    · exact h.1 p q x y hpq hqi hp hq hx hy
theorem ordX_start {L : List Int} {i : Nat} (h : Ord L (i - 1)) : OrdX L i i :=
  ⟨fun p q x y hpq hqi hp hq hx hy => h p q x y hpq (by omega) hx hy, fun q x y h1 h2 => by omega⟩
section
variable {Q : Ctx} (hK : K Q)
include hK
theorem less_c {a b : Int} : Ret Q 97 [.int .i64 a, .int .i64 b] (.bool (decide (a < b))) := fun st => by
  refine callY (N := 17) (ok97 hK) (hK.nx _ _ _ rfl) rfl rfl ?_
  cases h : decide (a < b) <;> simp only [RS, RT, RZ, tsc0, tz0, nq0, bs0, bn0, reduceLT, reduceLeDiff, reduceEqDiff, reduceMul, reduceAdd, reduceSub, reduceCtorEq, x97, F97, nan_c hK, h, runX_gu]
structure NI (g : Nat) (fu : Bool) (L0 : List Int) (s0 : St) (L : List Int) (st : St) : Prop where
  at_ : st.heap g = .mem 3 (intsA L) fu 0
  old : ∀ q, q ≠ g → st.heap q = s0.heap q
  nx : st.next = s0.next
  perm : L.Perm L0
  log : ∀ l ∈ st.log, l = g ∨ l ∈ s0.log
  chg : g ∈ st.log ∨ st.heap g = s0.heap g
omit hK in
theorem NI.swap {g : Nat} {fu : Bool} {L0 L : List Int} {s0 : St} {h : Nat → AO} {nx : Nat} {lg : List Nat} {i j : Nat} {v w : Int} (a : NI g fu L0 s0 L ⟨h, nx, lg⟩) (hi : L[i]? = some v) (hj : L[j]? = some w) :
    NI g fu L0 s0 ((L.set i w).set j v) ⟨upd (upd h g (.mem 3 (intsA (L.set i w)) fu 0)) g (.mem 3 (intsA ((L.set i w).set j v)) fu 0), nx, g :: g :: lg⟩ :=
  ⟨upd_same .., fun q hq => by simp only; rw [upd_ne _ _ hq, upd_ne _ _ hq]; exact a.old q hq, a.nx, (permI_swap hi hj).trans a.perm, fun l hl => by
    simp only [List.mem_cons] at hl
    rcases hl with rfl | rfl | hl
    · exact .inl rfl
    · exact .inl rfl
    · exact a.log l hl, .inl (List.mem_cons_self ..)⟩
theorem insI_inner {g : Nat} {fu : Bool} {L0 : List Int} {s0 : St} {i : Nat} (hg : g < s0.next) (hl : L0.length < 1000) (hi : i < L0.length) : ∀ (n : Nat) T st, (∃ (L : List Int), T 0 = .row g 0 L0.length none ∧ T 1 = .int .i64 0 ∧ T 2 = .int .i64 (L0.length : Int) ∧ T 6 = .int .i64 (i : Int) ∧ T 7 = .int .i64 (n : Int) ∧ n ≤ i ∧ OrdX L i n ∧ NI g fu L0 s0 L st) →
    Post 49 [] none (execY (callW Q) Q false 110 none (.loop l110_0) ⟨T, 49, [], none⟩ st) fun e T' st' => e = .exit 2 ∧ ∃ (L : List Int), T' 0 = .row g 0 L0.length none ∧ T' 1 = .int .i64 0 ∧ T' 2 = .int .i64 (L0.length : Int) ∧ T' 6 = .int .i64 (i : Int) ∧ Ord L i ∧ NI g fu L0 s0 L st' := by
  refine post_loop fun n T st => ?_
  rintro ⟨L, t0, t1, t2, t6, t7, hn, hO, hI⟩
  obtain ⟨h, nx, lg⟩ := st
  have hlen : L.length = L0.length := hI.perm.length_eq
  have hrow := hI.at_
  have hnx := hI.nx
  simp only at hrow hnx
  have hrn : g < nx := by omega
  by_cases hj : 0 < n
  · have hj' : decide ((0 : Int) < (n : Int)) = true := by rw [decide_eq_true_iff]; omega
    have l1 : n < L0.length := by omega
    have l2 : n - 1 < L0.length := by omega
    have hv : L[n]? = some L[n] := List.getElem?_eq_getElem (by omega)
    have hw : L[n - 1]? = some L[n - 1] := List.getElem?_eq_getElem (by omega)
    have v1 : (intsA L)[n]? = some (.int .i64 L[n]) := by rw [intsA_at, hv]; rfl
    have w1 : (intsA L)[n - 1]? = some (.int .i64 L[n - 1]) := by rw [intsA_at, hw]; rfl
    have hwr := wrapN (z := (n : Int) - 1) (n := n - 1) (by omega) (by omega)
    have m1 : n + 1 ≤ L0.length := l1
    have m2 : n - 1 + 1 ≤ L0.length := l2
    by_cases hd : L[n] < L[n - 1]
    · have hd' := decT hd
      simp only [RS, RT, RZ, tsc0, tz0, nq0, bs0, bn0, reduceLT, reduceLeDiff, reduceEqDiff, reduceMul, reduceAdd, reduceSub, reduceCtorEq, hlen, hrn, hrow, idxX_row, lenX_row, Nat.zero_add, Nat.mul_one, splice_set, List.length_set, intsA_len, intsA_set, l110_0, kd110_0, kd110_1, t0, t1, t2, t6, t7, hj', l1, l2, v1, w1, hwr, less_c hK, hd', m1, m2]
      exact ⟨n - 1, by omega, _, rfl, by omega, ord_swap hO hj hn hv hw hd, hI.swap hv hw⟩
    · have hd' := decF hd
      simp only [RS, RT, RZ, tsc0, tz0, nq0, bs0, bn0, reduceLT, reduceLeDiff, reduceEqDiff, reduceMul, reduceAdd, reduceSub, reduceCtorEq, hlen, hrn, hrow, idxX_row, lenX_row, Nat.zero_add, Nat.mul_one, splice_set, List.length_set, intsA_len, intsA_set, l110_0, kd110_0, kd110_1, t0, t1, t2, t6, t7, hj', l1, l2, v1, w1, hwr, less_c hK, hd']
      exact ⟨L, ord_stop hO hn (.inr fun v w h1 h2 => by rw [hv] at h1; rw [hw] at h2; cases h1; cases h2; omega) (by omega), hI⟩
  · have hj' : decide ((0 : Int) < (n : Int)) = false := by rw [decide_eq_false_iff_not]; omega
    simp only [RS, RT, RZ, tsc0, tz0, nq0, bs0, bn0, reduceLT, reduceLeDiff, reduceEqDiff, reduceMul, reduceAdd, reduceSub, reduceCtorEq, hlen, hrn, hrow, idxX_row, lenX_row, Nat.zero_add, Nat.mul_one, splice_set, List.length_set, intsA_len, intsA_set, l110_0, kd110_0, kd110_1, t0, t1, t2, t6, t7, hj', runX_gu]
    exact ⟨L, ord_stop hO hn (.inl (by omega)) (by omega), hI⟩
theorem insI_outer {g : Nat} {fu : Bool} {L0 : List Int} {s0 : St} (hg : g < s0.next) (hl : L0.length < 1000) : ∀ (n : Nat) T st, (∃ (i : Nat) (L : List Int), T 0 = .row g 0 L0.length none ∧ T 1 = .int .i64 0 ∧ T 2 = .int .i64 (L0.length : Int) ∧ T 6 = .int .i64 (i : Int) ∧ 1 ≤ i ∧ L0.length < i + n ∧ i ≤ L0.length + 1 ∧ Ord L (i - 1) ∧ NI g fu L0 s0 L st) →
    Post 49 [] none (execY (callW Q) Q false 110 none (.loop l110_1) ⟨T, 49, [], none⟩ st) fun e T' st' => e = .exit 0 ∧ ∃ (L : List Int), Ord L L0.length ∧ NI g fu L0 s0 L st' := by
  refine post_loop fun n T st => ?_
  rintro ⟨i, L, t0, t1, t2, t6, h1, hn, hi, hO, hI⟩
  by_cases hj : i < L0.length
  · simp only [RS, RT, RZ, tsc0, tz0, nq0, bs0, bn0, reduceLT, reduceLeDiff, reduceEqDiff, reduceMul, reduceAdd, reduceSub, reduceCtorEq, l110_1, kd110_0, kd110_1, t0, t1, t2, t6, hj]
    refine post_bind (insI_inner hK (fu := fu) (s0 := s0) (i := i) hg hl hj i _ _ ⟨L, ?_, ?_, ?_, ?_, ?_, by omega, ordX_start hO, hI⟩) ?_
    all_goals try (simp only [RS, RT, RZ, tsc0, tz0, nq0, bs0, bn0, reduceLT, reduceLeDiff, reduceEqDiff, reduceMul, reduceAdd, reduceSub, reduceCtorEq, t0, t1, t2, t6]; done)
    rintro e T' st' ⟨rfl, L', u0, u1, u2, u6, hO', hI'⟩
    have hwr := wrapN (z := (i : Int) + 1) (n := i + 1) (by omega) (by omega)
    simp only [RS, RT, RZ, tsc0, tz0, nq0, bs0, bn0, reduceLT, reduceLeDiff, reduceEqDiff, reduceMul, reduceAdd, reduceSub, reduceCtorEq, u0, u1, u2, u6, hwr]
    exact ⟨n - 1, by omega, i + 1, L', rfl, by omega, by omega, by omega, by simpa using hO', hI'⟩
  · simp only [RS, RT, RZ, tsc0, tz0, nq0, bs0, bn0, reduceLT, reduceLeDiff, reduceEqDiff, reduceMul, reduceAdd, reduceSub, reduceCtorEq, l110_1, kd110_0, kd110_1, t0, t1, t2, t6, hj]
    refine ⟨L, fun p q x y hpq hq hx hy => hO p q x y hpq ?_ hx hy, hI⟩
    have h2 := (List.getElem?_eq_some_iff.1 hy).1
    have h3 := hI.perm.length_eq
    omega
omit hK in
theorem ni_end {f : FuncId} {fi : FI} {x : XC} {mu : Bool} {N g : Nat} {fu : Bool} {L0 : List Int} {args : List AV} {st : St} {R : List Int → Prop} (ok : FnOk Q f fi x mu) (hX : Q.X f args st = none) (hN : max fi.ntmps args.length = N) (hg : g < st.next)
    (h : Post N [] none (execY (callW Q) Q mu f none x ⟨argTmps args, N, [], none⟩ ⟨st.heap, st.next, []⟩) fun e T st1 => endOf e = some none ∧ (resultsA Q st1 T fi.results).map packA = some (.tuple []) ∧ ∃ L, R L ∧ NI g fu L0 ⟨st.heap, st.next, []⟩ L st1) :
    ∃ st' L, callW Q (.fn f) args .normal st = some (.ret (.tuple []), st', none) ∧ R L ∧ NI g fu L0 st L st' := by
  obtain ⟨e, T, st1, h1, h2, h3, L, hR, h6⟩ := h
  have hc := callYr (r := (.ret (.tuple []), leaveSt st [.tuple []] st1, none)) ok hX hN ⟨_, h1, by
    have := finish_ret (N := N) (C := Q) (f := f) (fi := fi) (kd := .normal) (call := callW Q) (pv := none) (st := st) (v := .tuple []) (st3 := st1) h2 h3 (frz_noRow rfl fun _ => rfl)
    exact this⟩
  rcases leave_cases (st0 := st) (st1 := st1) (vs := [.tuple []]) with ⟨e1, e2⟩ | e1
  · have hh : st1.heap g = st.heap g := by
      rcases h6.chg with h | h
      · exact absurd (e2 g h) (by omega)
      · exact h
    exact ⟨st, L, by rw [hc]; exact congrArg (fun s => some (CR.ret (.tuple []), s, none)) e1, hR, ⟨by rw [← hh]; exact h6.at_, fun _ _ => rfl, rfl, h6.perm, fun l hl => .inr hl, .inr rfl⟩⟩
  · refine ⟨⟨st1.heap, st1.next, st1.log.filter (· < st.next) ++ st.log⟩, L, by rw [hc, e1], hR, ⟨h6.at_, h6.old, h6.nx, h6.perm, fun l hl => ?_, ?_⟩⟩
    · rcases List.mem_append.1 hl with hl | hl
      · rcases h6.log l (List.mem_filter.1 hl).1 with h | h
        · exact .inl h
        · cases h
      · exact .inr hl
    · rcases h6.chg with h | h
      · exact .inl (List.mem_append.2 (.inl (List.mem_filter.2 ⟨h, decide_eq_true hg⟩)))
      · exact .inr h
theorem insI_c {g : Nat} {fu : Bool} {L0 : List Int} {st : St} (hg : g < st.next) (hl : L0.length < 1000) (hp : st.heap g = .mem 3 (intsA L0) fu 0) : ∃ st' L, callW Q (.fn 110) [.row g 0 L0.length none, .int .i64 0, .int .i64 (L0.length : Int)] .normal st = some (.ret (.tuple []), st', none) ∧ Ord L L0.length ∧ NI g fu L0 st L st' := by
  refine ni_end (N := 49) (ok110 hK) (hK.nx _ _ _ rfl) rfl hg ?_
  have w1 : IntKind.i64.wrap (0 + 1) = ((1 : Nat) : Int) := by decide
  simp only [RS, RT, RZ, tsc0, tz0, nq0, bs0, bn0, reduceLT, reduceLeDiff, reduceEqDiff, reduceMul, reduceAdd, reduceSub, reduceCtorEq, x110, kd110_0, kd110_1, w1]
  refine post_bind (insI_outer hK (fu := fu) (L0 := L0) (s0 := ⟨st.heap, st.next, []⟩) (g := g) hg hl (L0.length + 1) _ _ ⟨1, L0, ?_, ?_, ?_, ?_, by omega, by omega, by omega, fun p q x y h1 h2 => by omega, ⟨hp, fun _ _ => rfl, rfl, List.Perm.refl _, fun l hl => (by cases hl), .inr rfl⟩⟩) ?_
  all_goals try (simp only [RS, RT, RZ, tsc0, tz0, nq0, bs0, bn0, reduceLT, reduceLeDiff, reduceEqDiff, reduceMul, reduceAdd, reduceSub, reduceCtorEq, cast_1]; done)
  rintro e T' st1 ⟨rfl, L, hO, hI⟩
  simp only [RS, RT, RZ, tsc0, tz0, nq0, bs0, bn0, reduceLT, reduceLeDiff, reduceEqDiff, reduceMul, reduceAdd, reduceSub, reduceCtorEq, F110]
  exact ⟨L, hO, hI⟩
theorem pdqI_c {g n : Nat} {fu : Bool} {L0 : List Int} {st : St} (hg : g < st.next) (hl : L0.length ≤ 12) (hp : st.heap g = .mem 3 (intsA L0) fu 0) : ∃ st' L, callW Q (.fn 108) [.row g 0 L0.length none, .int .i64 0, .int .i64 (L0.length : Int), .int .i64 (n : Int)] .normal st = some (.ret (.tuple []), st', none) ∧ Ord L L0.length ∧ NI g fu L0 st L st' := by
  refine ni_end (N := 134) (ok108 hK) (hK.nx _ _ _ rfl) rfl hg ?_
  have w1 := wrapN (z := (L0.length : Int) - 0) (n := L0.length) (by omega) (by omega)
  have d1 : decide ((L0.length : Int) ≤ 12) = true := by rw [decide_eq_true_iff]; omega
  obtain ⟨⟨h', nx', lg'⟩, L, c1, hO, hI⟩ := insI_c hK (g := g) (fu := fu) (L0 := L0) (st := ⟨st.heap, st.next, []⟩) hg (by omega) hp
  simp only [RS, RT, RZ, tsc0, tz0, nq0, bs0, bn0, reduceLT, reduceLeDiff, reduceEqDiff, reduceMul, reduceAdd, reduceSub, reduceCtorEq, x108, kd108_0]
  rw [execY_loop]
  simp only [RS, RT, RZ, tsc0, tz0, nq0, bs0, bn0, reduceLT, reduceLeDiff, reduceEqDiff, reduceMul, reduceAdd, reduceSub, reduceCtorEq, l108_0, kd108_0, w1, d1, c1, F108]
  exact ⟨L, hO, hI⟩
end
end Go.Proofs.P31

namespace Go.Proofs.P31
open Go Go.AE
open Nat (reduceLT reduceLeDiff reduceEqDiff reduceMul reduceAdd reduceSub)
set_option maxHeartbeats 8000000
section
variable {Q : Ctx} (hK : K Q)
include hK
theorem sortI_c {g : Nat} {fu : Bool} {L0 : List Int} {st : St} (hg : g < st.next) (h1 : 1 ≤ L0.length) (hl : L0.length ≤ 12) (hp : st.heap g = .mem 3 (intsA L0) fu 0) : ∃ st' L, callW Q (.fn 99) [.row g 0 L0.length none] .normal st = some (.ret (.tuple []), st', none) ∧ Ord L L0.length ∧ NI g fu L0 st L st' := by
  refine ni_end (N := 11) (ok99 hK) (hK.nx _ _ _ rfl) rfl hg ?_
  obtain ⟨n, e1, _, _⟩ := len_c hK (n := L0.length) (by omega) h1
  have tw3 := tw3 hK
  have tw85 := tw85 hK
  unfold T3 at tw3
  unfold T85 at tw85
  have e2 := wrapU (show L0.length < 18446744073709551616 by omega)
  obtain ⟨⟨h', nx', lg'⟩, L, c1, hO, hI⟩ := pdqI_c hK (g := g) (n := n) (fu := fu) (L0 := L0) (st := ⟨st.heap, st.next, []⟩) hg hl hp
  simp only [RS, RT, RZ, tsc0, tz0, nq0, bs0, bn0, reduceLT, reduceLeDiff, reduceEqDiff, reduceMul, reduceAdd, reduceSub, reduceCtorEq, x99, F99, lenX_row, e1, e2, c1, convA_int tw3 tw85]
  exact ⟨L, hO, hI⟩
set_option maxRecDepth 100000 in
theorem len0_c : Ret Q 41 [.int .u64 0] (.int .i64 0) := fun st => by
  have tw3 := tw3 hK
  have tw5 := tw5 hK
  have tw121 := tw121 hK
  unfold T3 at tw3
  unfold T5 at tw5
  unfold T121 at tw121
  have e1 : decide ((4294967296 : Int) ≤ 0) = false := by decide
  have e2 : decide ((65536 : Int) ≤ 0) = false := by decide
  have e3 : decide ((256 : Int) ≤ 0) = false := by decide
  have e5 : IntKind.u8.wrap 0 = ((0 : Nat) : Int) := by decide
  have e6 : IntKind.i64.wrap 0 = 0 := by decide
  have e7 : IntKind.i64.wrap (0 + 0) = 0 := by decide
  have h86 : Ret Q 86 [.int .u64 0] (.int .i64 0) := fun st => by
    refine callY (N := 25) (ok86 hK) (hK.nx _ _ _ rfl) rfl rfl ?_
    have n0 : natOf (.int .u8 0) = some 0 := rfl
    simp only [RS, RT, RZ, tsc0, tz0, nq0, bs0, bn0, reduceLT, reduceLeDiff, reduceEqDiff, reduceMul, reduceAdd, reduceSub, reduceCtorEq, x86, F86, e1, e2, e3, e5, e6, e7, convA_int tw121 tw5, convA_int tw5 tw3, n0, List.getElem?_cons_zero]
  refine callY (N := 8) (ok41 hK) (hK.nx _ _ _ rfl) rfl rfl ?_
  simp only [RS, RT, RZ, tsc0, tz0, nq0, bs0, bn0, reduceLT, reduceLeDiff, reduceEqDiff, reduceMul, reduceAdd, reduceSub, reduceCtorEq, x41, F41, h86]
theorem insI_nil : Ret Q 110 [.slice .nil [], .int .i64 0, .int .i64 0] (.tuple []) := fun st => by
  refine callY (N := 49) (ok110 hK) (hK.nx _ _ _ rfl) rfl rfl ?_
  have w1 : IntKind.i64.wrap (0 + 1) = 1 := by decide
  have d1 : decide ((1 : Int) < 0) = false := by decide
  simp only [RS, RT, RZ, tsc0, tz0, nq0, bs0, bn0, reduceLT, reduceLeDiff, reduceEqDiff, reduceMul, reduceAdd, reduceSub, reduceCtorEq, x110, kd110_0, kd110_1, w1]
  rw [execY_loop]
  simp only [RS, RT, RZ, tsc0, tz0, nq0, bs0, bn0, reduceLT, reduceLeDiff, reduceEqDiff, reduceMul, reduceAdd, reduceSub, reduceCtorEq, l110_1, kd110_0, kd110_1, d1, F110]
theorem pdqI_nil : Ret Q 108 [.slice .nil [], .int .i64 0, .int .i64 0, .int .i64 0] (.tuple []) := fun st => by
  refine callY (N := 134) (ok108 hK) (hK.nx _ _ _ rfl) rfl rfl ?_
  have w1 : IntKind.i64.wrap (0 - 0) = 0 := by decide
  have d1 : decide ((0 : Int) ≤ 12) = true := by decide
  simp only [RS, RT, RZ, tsc0, tz0, nq0, bs0, bn0, reduceLT, reduceLeDiff, reduceEqDiff, reduceMul, reduceAdd, reduceSub, reduceCtorEq, x108, kd108_0]
  rw [execY_loop]
  simp only [RS, RT, RZ, tsc0, tz0, nq0, bs0, bn0, reduceLT, reduceLeDiff, reduceEqDiff, reduceMul, reduceAdd, reduceSub, reduceCtorEq, l108_0, kd108_0, w1, d1, insI_nil hK, F108]
theorem sortI_nil : Ret Q 99 [.slice .nil []] (.tuple []) := fun st => by
  refine callY (N := 11) (ok99 hK) (hK.nx _ _ _ rfl) rfl rfl ?_
  have tw3 := tw3 hK
  have tw85 := tw85 hK
  unfold T3 at tw3
  unfold T85 at tw85
  have e2 : IntKind.u64.wrap 0 = 0 := by decide
  simp only [RS, RT, RZ, tsc0, tz0, nq0, bs0, bn0, reduceLT, reduceLeDiff, reduceEqDiff, reduceMul, reduceAdd, reduceSub, reduceCtorEq, x99, F99, len0_c hK, e2, pdqI_nil hK, convA_int tw3 tw85, cast_0]
end
end Go.Proofs.P31

namespace Go.Proofs.P31
open Go Go.AE
open Nat (reduceLT reduceLeDiff reduceEqDiff reduceMul reduceAdd reduceSub)
set_option maxHeartbeats 8000000
theorem adj_ord {l : List Int} (h : ∀ k x y, 1 ≤ k → l[k - 1]? = some x → l[k]? = some y → x ≤ y) : Ord l l.length := by
  intro p q x y hpq _ hx hy
  obtain ⟨d, rfl⟩ : ∃ d, q = p + 1 + d := ⟨q - p - 1, by omega⟩
  induction d generalizing y with
  | zero => exact h (p + 1) x y (by omega) hx hy
  | succ d ih =>
    have hl := (List.getElem?_eq_some_iff.1 hy).1
    have h1 : l[p + 1 + d]? = some l[p + 1 + d] := List.getElem?_eq_getElem (by omega)
    have h2 := ih _ (by omega) (by omega) h1
    have h3 := h (p + 1 + (d + 1)) _ y (by omega) (by rw [show p + 1 + (d + 1) - 1 = p + 1 + d by omega]; exact h1) hy
    omega
section
variable {Q : Ctx} (hK : K Q)
include hK
theorem isS_loop {k : SK} {l : List Int} (hl : l.length < 1000000) {s0 : St} : ∀ (m : Nat) T st, (T 0 = .slice k (intsA l) ∧ T 3 = .int .i64 ((m : Int) - 1) ∧ m ≤ l.length ∧ (∀ j x y, m ≤ j → 1 ≤ j → l[j - 1]? = some x → l[j]? = some y → x ≤ y) ∧ st = s0) →
    Post 21 [] none (execY (callW Q) Q false 69 none (.loop l69_0) ⟨T, 21, [], none⟩ st) fun e T' st' => st' = s0 ∧ ((e = .ret ∧ T' 2 = .bool false ∧ ¬ Ord l l.length) ∨ (e = .exit 0 ∧ Ord l l.length)) := by
  refine post_loop fun m T st => ?_
  rintro ⟨t0, t3, hm, hO, rfl⟩
  obtain ⟨h, nx, lg⟩ := st
  by_cases h2 : 2 ≤ m
  · have e1 : (m : Int) - 1 = ((m - 1 : Nat) : Int) := by omega
    rw [e1] at t3
    have d1 : decide ((0 : Int) < ((m - 1 : Nat) : Int)) = true := by rw [decide_eq_true_iff]; omega
    have hv : l[m - 1]? = some l[m - 1] := List.getElem?_eq_getElem (by omega)
    have hw : l[m - 2]? = some l[m - 2] := List.getElem?_eq_getElem (by omega)
    have v1 : (intsA l)[m - 1]? = some (.int .i64 l[m - 1]) := by rw [intsA_at, hv]; rfl
    have w1 : (intsA l)[m - 2]? = some (.int .i64 l[m - 2]) := by rw [intsA_at, hw]; rfl
    have q1 := wrapN (z := ((m - 1 : Nat) : Int) - 1) (n := m - 2) (by omega) (by omega)
    by_cases hd : l[m - 1] < l[m - 2]
    · have hd' := decT hd
      simp only [RS, RT, RZ, tsc0, tz0, nq0, bs0, bn0, reduceLT, reduceLeDiff, reduceEqDiff, reduceMul, reduceAdd, reduceSub, reduceCtorEq, l69_0, kd69_0, t0, t3, d1, v1, w1, q1, less_c hK, hd']
      intro h
      have := h (m - 2) (m - 1) _ _ (by omega) (by omega) hw hv
      omega
    · have hd' := decF hd
      simp only [RS, RT, RZ, tsc0, tz0, nq0, bs0, bn0, reduceLT, reduceLeDiff, reduceEqDiff, reduceMul, reduceAdd, reduceSub, reduceCtorEq, l69_0, kd69_0, t0, t3, d1, v1, w1, q1, less_c hK, hd']
      refine ⟨m - 1, by omega, by rw [show ((m - 1 : Nat) : Int) - 1 = ((m - 2 : Nat) : Int) by omega], by omega, fun j x y hj h1 hx hy => ?_⟩
      by_cases hjm : j = m - 1
      · subst hjm
        rw [show m - 1 - 1 = m - 2 by omega, hw] at hx
        rw [hv] at hy
        cases hx; cases hy; omega
      · exact hO j x y (by omega) h1 hx hy
  · have d1 : decide ((0 : Int) < (m : Int) - 1) = false := by rw [decide_eq_false_iff_not]; omega
    simp only [RS, RT, RZ, tsc0, tz0, nq0, bs0, bn0, reduceLT, reduceLeDiff, reduceEqDiff, reduceMul, reduceAdd, reduceSub, reduceCtorEq, l69_0, kd69_0, t0, t3, d1]
    exact adj_ord fun j x y h1 hx hy => by
      by_cases hj : m ≤ j
      · exact hO j x y hj h1 hx hy
      · omega
theorem isS_c {k : SK} {l : List Int} (hl : l.length < 1000000) {st : St} : ∃ v, callW Q (.fn 69) [.slice k (intsA l)] .normal st = some (.ret v, st, none) ∧ ∃ b : Bool, v = .bool b ∧ (b = true ↔ Ord l l.length) := by
  refine callYe (N := 21) (ok69 hK) (hK.nx _ _ _ rfl) rfl ?_
  have w1 : IntKind.i64.wrap ((l.length : Int) - 1) = (l.length : Int) - 1 := wrap64 (by omega) (by omega)
  simp only [RS, RT, RZ, tsc0, tz0, nq0, bs0, bn0, reduceLT, reduceLeDiff, reduceEqDiff, reduceMul, reduceAdd, reduceSub, reduceCtorEq, x69, kd69_0, intsA_len, w1]
  refine post_bind (isS_loop hK (k := k) (l := l) hl (s0 := ⟨st.heap, st.next, []⟩) l.length _ _ ⟨?_, ?_, Nat.le_refl _, fun j x y h1 _ hx hy => ?_, rfl⟩) ?_
  · simp only [RS, RT, RZ, tsc0, tz0, nq0, bs0, bn0, reduceLT, reduceLeDiff, reduceEqDiff, reduceMul, reduceAdd, reduceSub, reduceCtorEq]
  · simp only [RS, RT, RZ, tsc0, tz0, nq0, bs0, bn0, reduceLT, reduceLeDiff, reduceEqDiff, reduceMul, reduceAdd, reduceSub, reduceCtorEq]
  · have := (List.getElem?_eq_some_iff.1 hy).1; omega
  rintro e T' st1 ⟨rfl, ⟨rfl, t2, hO⟩ | ⟨rfl, hO⟩⟩
  · simp only [RS, RT, RZ, tsc0, tz0, nq0, bs0, bn0, reduceLT, reduceLeDiff, reduceEqDiff, reduceMul, reduceAdd, reduceSub, reduceCtorEq, F69, t2]
    exact ⟨.bool false, rfl, ⟨false, rfl, by simpa using hO⟩, rfl⟩
  · simp only [RS, RT, RZ, tsc0, tz0, nq0, bs0, bn0, reduceLT, reduceLeDiff, reduceEqDiff, reduceMul, reduceAdd, reduceSub, reduceCtorEq, F69]
    exact ⟨.bool true, rfl, ⟨true, rfl, by simpa using hO⟩, rfl⟩
theorem frz56 : Q.frz 56 = false := hK.frz_ (by kernel_rfl)
theorem frz68 : Q.frz 68 = false := hK.frz_ (by kernel_rfl)
theorem holdsF_c : Ret Q 56 [.bool false] (.slice .nil []) := fun st => by
  refine callY (N := 6) (ok56 hK) (hK.nx _ _ _ rfl) rfl rfl ?_
  simp only [RS, RT, RZ, tsc0, tz0, nq0, bs0, bn0, reduceLT, reduceLeDiff, reduceEqDiff, reduceMul, reduceAdd, reduceSub, reduceCtorEq, x56, F56]
theorem holdsT_c {st : St} : callW Q (.fn 56) [.bool true] .normal st = some (.ret (.row (st.next + 1) 0 1 none), ⟨upd (upd st.heap st.next (.mem 24 [] true 0)) (st.next + 1) (.mem 33 [.row st.next 0 0 none] true 0), st.next + 2, st.log⟩, none) := by
  obtain ⟨v, st1, h1, rfl, rfl⟩ := row_end (R := fun v st1 => v = .row (st.next + 1) 0 1 none ∧ st1 = ⟨upd (upd st.heap st.next (.mem 24 [] true 0)) (st.next + 1) (.mem 33 [.row st.next 0 0 none] true 0), st.next + 2, []⟩) (N := 6) (ok56 hK) (hK.nx 56 [.bool true] st rfl) rfl (frz56 hK) (by
    simp only [RS, RT, RZ, tsc0, tz0, nq0, bs0, bn0, reduceLT, reduceLeDiff, reduceEqDiff, reduceMul, reduceAdd, reduceSub, reduceCtorEq, if_false, runX_buildM, flat_cons, flat_nil, cells_row, any_row, ic_row, Nat.lt_add_one, x56, F56]
    exact ⟨_, rfl, below_row1 (Nat.le_succ _), rfl⟩)
  exact h1
end
end Go.Proofs.P31

namespace Go.Proofs.P31
open Go Go.AE
open Nat (reduceLT reduceLeDiff reduceEqDiff reduceMul reduceAdd reduceSub)
set_option maxHeartbeats 8000000
section
variable {Q : Ctx} (hK : K Q)
include hK
theorem sortedT_c {k0 : SK} {a : LV} (hl : a.es.length < 1000000) (hO : Ord a.es a.es.length) {st : St} : ∃ o st', callW Q (.fn 68) [.slice k0 [a.av]] .normal st = some (.ret o, st', none) ∧ OutR (fun l => l = []) st st' o ∧ (true = true → ∃ r, o = .row r 0 1 none) := by
  obtain ⟨_, c1, b, rfl, hb⟩ := isS_c hK (k := a.k) (l := a.es) hl (st := ⟨st.heap, st.next, []⟩)
  obtain rfl : b = true := hb.2 hO
  obtain ⟨v, st1, h1, rfl, rfl⟩ := row_end (R := fun v st1 => v = .row (st.next + 1) 0 1 none ∧ st1 = ⟨upd (upd st.heap st.next (.mem 24 [] true 0)) (st.next + 1) (.mem 33 [.row st.next 0 0 none] true 0), st.next + 2, []⟩) (N := 9) (ok68 hK) (hK.nx 68 [.slice k0 [a.av]] st rfl) rfl (frz68 hK) (by
    simp only [RS, RT, RZ, tsc0, tz0, nq0, bs0, bn0, reduceLT, reduceLeDiff, reduceEqDiff, reduceMul, reduceAdd, reduceSub, reduceCtorEq, if_false, runX_buildM, flat_cons, flat_nil, cells_row, any_row, ic_row, Nat.lt_add_one, x68, F68, LV.av, LV.cells, c1, holdsT_c hK]
    exact ⟨_, rfl, below_row1 (Nat.le_succ _), rfl⟩)
  exact ⟨_, _, h1, out_one (lv := []) (by simp) (by simp) rfl, fun _ => ⟨_, rfl⟩⟩
theorem sortedF_c {k0 : SK} {a : LV} (hl : a.es.length < 1000000) (hO : ¬ Ord a.es a.es.length) : Ret Q 68 [.slice k0 [a.av]] (.slice .nil []) := fun st => by
  obtain ⟨_, c1, b, rfl, hb⟩ := isS_c hK (k := a.k) (l := a.es) hl (st := ⟨st.heap, st.next, []⟩)
  obtain rfl : b = false := by cases b with | false => rfl | true => exact absurd (hb.1 rfl) hO
  refine callY (N := 9) (ok68 hK) (hK.nx _ _ _ rfl) rfl rfl ?_
  simp only [RS, RT, RZ, tsc0, tz0, nq0, bs0, bn0, reduceLT, reduceLeDiff, reduceEqDiff, reduceMul, reduceAdd, reduceSub, reduceCtorEq, x68, F68, LV.av, LV.cells, c1, holdsF_c hK]
theorem ins_nil : Ret Q 77 [.slice .nil [], .int .i64 0, .int .i64 0, .func (.func 27) [] []] (.tuple []) := fun st => by
  refine callY (N := 53) (ok77 hK) (hK.nx _ _ _ rfl) rfl rfl ?_
  have w1 : IntKind.i64.wrap (0 + 1) = 1 := by decide
  have d1 : decide ((1 : Int) < 0) = false := by decide
  simp only [RS, RT, RZ, tsc0, tz0, nq0, bs0, bn0, reduceLT, reduceLeDiff, reduceEqDiff, reduceMul, reduceAdd, reduceSub, reduceCtorEq, x77, kd77_0, kd77_1, w1]
  rw [execY_loop]
  simp only [RS, RT, RZ, tsc0, tz0, nq0, bs0, bn0, reduceLT, reduceLeDiff, reduceEqDiff, reduceMul, reduceAdd, reduceSub, reduceCtorEq, l77_1, kd77_0, kd77_1, d1, F77]
theorem pdq_nil : Ret Q 40 [.slice .nil [], .int .i64 0, .int .i64 0, .int .i64 0, .func (.func 27) [] []] (.tuple []) := fun st => by
  refine callY (N := 148) (ok40 hK) (hK.nx _ _ _ rfl) rfl rfl ?_
  have w1 : IntKind.i64.wrap (0 - 0) = 0 := by decide
  have d1 : decide ((0 : Int) ≤ 12) = true := by decide
  simp only [RS, RT, RZ, tsc0, tz0, nq0, bs0, bn0, reduceLT, reduceLeDiff, reduceEqDiff, reduceMul, reduceAdd, reduceSub, reduceCtorEq, x40, kd40_0, getD_4]
  rw [execY_loop]
  simp only [RS, RT, RZ, tsc0, tz0, nq0, bs0, bn0, reduceLT, reduceLeDiff, reduceEqDiff, reduceMul, reduceAdd, reduceSub, reduceCtorEq, l40_0, kd40_0, getD_4, w1, d1, ins_nil hK, F40]
theorem sort_nil : Ret Q 26 [.slice .nil [], .func (.func 27) [] []] (.tuple []) := fun st => by
  refine callY (N := 14) (ok26 hK) (hK.nx _ _ _ rfl) rfl rfl ?_
  have tw3 := tw3 hK
  have tw85 := tw85 hK
  unfold T3 at tw3
  unfold T85 at tw85
  have e2 : IntKind.u64.wrap 0 = 0 := by decide
  simp only [RS, RT, RZ, tsc0, tz0, nq0, bs0, bn0, reduceLT, reduceLeDiff, reduceEqDiff, reduceMul, reduceAdd, reduceSub, reduceCtorEq, x26, F26, len0_c hK, e2, pdq_nil hK, convA_int tw3 tw85, cast_0]
theorem compact_nil : Ret Q 28 [.slice .nil [], .func (.func 29) [] []] (.slice .nil []) := fun st => by
  refine callY (N := 66) (ok28 hK) (hK.nx _ _ _ rfl) rfl rfl ?_
  have d1 : decide ((0 : Int) < 2) = true := by decide
  simp only [RS, RT, RZ, tsc0, tz0, nq0, bs0, bn0, reduceLT, reduceLeDiff, reduceEqDiff, reduceMul, reduceAdd, reduceSub, reduceCtorEq, x28, kd28_0, kd28_1, F28, d1, cast_0]
end
section
variable {Q : Ctx} (hK3 : K3 Q)
include hK3
theorem means_nil {x : Fnd} (hx : x ∈ fnds) {v : AV} {l : List LV} {st : St} (hV : InV st.heap st.next v l) (hf : fitT x.ar x.few l = true) (hm : Ret Q x.f [v] (.slice .nil [])) : callW Q (.fn 8) [.str x.nm, v] .normal st = some (.ret (.tuple [.slice .nil [], .int .i64 0]), st, none) := by
  have hK := hK3.toK
  refine callY (N := 26) (ok8 hK) (hK.nx _ _ _ rfl) rfl rfl ?_
  have ha := asked_c hK3 hx (v := v) (l := l) (st := ⟨st.heap, st.next, []⟩) hV
  simp only [askR, hf, if_true, Fnd.cells] at ha
  simp only [RS, RT, RZ, tsc0, tz0, nq0, bs0, bn0, reduceLT, reduceLeDiff, reduceEqDiff, reduceMul, reduceAdd, reduceSub, reduceCtorEq, x8, F8, ha, ic_fn, ic_nf, Int.reduceBEq, Int.reduceBNe, hm _, sort_nil hK, compact_nil hK]
end
end Go.Proofs.P31

namespace Go.Proofs.P31
open Go Go.AE
open Nat (reduceLT reduceLeDiff reduceEqDiff reduceMul reduceAdd reduceSub)
set_option maxHeartbeats 8000000
section
variable {C : Ctx} {mu ro : Bool} {fr : Fr} {st : St} {ds : Option Tmp} {ty : TypeId} {pos : String} {af : Array Edge} {g : Option (Nat × Bool)}
theorem gA_cap {x : Operand} {t : TypeId} : opA C mu ro fr st ⟨ds, .call { callee := .builtin .cap, args := #[x], argTypes := #[t] }, ty, pos, af, g⟩ = ov st (capA C st t (oval C fr x)) := (rfl)
theorem gA_apn {x y : Operand} {t u : TypeId} : opA C mu ro fr st ⟨ds, .call { callee := .builtin .append, args := #[x, y], argTypes := #[t, u] }, ty, pos, af, g⟩ = ovs (builtinAppend C mu st t u (oval C fr x) (oval C fr y)) := (rfl)
end
section
variable {Q : Ctx} (hK : K Q)
include hK
theorem cap_nil {st : St} : capA Q st 22 (.slice .nil []) = some (.int .i64 0) := by
  have t := tw22 hK
  unfold T22 at t
  simp only [capA, elemTI, t, tw3 hK, Option.map_some]
  rfl
theorem sl0_nil {st : St} : sliceA Q st 22 (.slice .nil []) none (some 0) none = some (.slice .nil []) := by
  have := sl_hi hK (k := .nil) (l := []) (i := 0) (st := st) (Nat.le_refl _)
  exact this
theorem grow_app {h : Nat → AO} {nx n : Nat} {lg : List Nat} (h0 : 0 < n) (hn : n ≤ 1000) : builtinAppend Q true ⟨h, nx, lg⟩ 22 3 (.slice .nil []) (.int .i64 (n : Int)) = some (.row nx 0 n none, ⟨upd h nx (.mem 3 (intsA (List.replicate n 0)) false 0), nx + 1, lg⟩) := by
  have t := tw22 hK
  unfold T22 at t
  have t3 := tw3 hK
  have e1 : List.replicate n T3.zeroV = intsA (List.replicate n 0) := by rw [intsA, List.map_replicate]; rfl
  simp only [builtinAppend, elemTI, t, t3, Option.map_some]
  show (match natOf (.int .i64 (n : Int)) with | some n => if n ≤ 1048576 then appendA true ⟨h, nx, lg⟩ 3 T3 (.slice .nil []) (List.replicate n T3.zeroV) else none | none => none) = _
  rw [show natOf (.int .i64 (n : Int)) = some n from rfl]
  simp only
  rw [if_pos (by omega), e1]
  have e2 : sized T3.size (intsA (List.replicate n 0)) = true := ints_sized _
  have e3 : (flat (intsA (List.replicate n 0))).all AV.isCell = true := by rw [ints_flat]; exact ints_cell _
  have e4 : roomy (0 + (intsA (List.replicate n 0)).length) T3.bytes = true := by
    rw [intsA_len, List.length_replicate]
    show (decide ((0 + n) * 8 ≤ 1099511627776) && decide (8 ≤ 1048576) && decide (0 + n ≤ 1099511627776)) = true
    rw [decide_eq_true (by omega), decide_eq_true (by omega)]; rfl
  obtain ⟨y, ys, hy⟩ : ∃ y ys, intsA (List.replicate n 0) = y :: ys := by
    obtain ⟨m, rfl⟩ : ∃ m, n = m + 1 := ⟨n - 1, by omega⟩
    exact ⟨_, _, rfl⟩
  have e6 : appendA true ⟨h, nx, lg⟩ 3 T3 (.slice .nil []) (intsA (List.replicate n 0)) = appendSl true ⟨h, nx, lg⟩ 3 T3 .nil [] (intsA (List.replicate n 0)) := by
    rw [hy] at e2 e3 e4 ⊢
    simp only [appendA]
    rw [if_pos ⟨e2, by decide, e3⟩, if_pos ⟨rfl, e4⟩]
  rw [e6]
  simp only [appendSl, fresh, if_true, List.nil_append, ints_flat, intsA_len, List.length_replicate]
  rfl
theorem sl22_row {h : Nat → AO} {nx r n m : Nat} {lg : List Nat} {cs : List AV} {fu : Bool} {fz : Nat} (hp : h r = .mem 3 cs fu fz) (hm : m ≤ cs.length) : sliceA Q ⟨h, nx, lg⟩ 22 (.row r 0 n none) none (some m) none = some (.row r 0 m none) := by
  have hty := tw22 hK
  unfold T22 at hty
  rw [sliceA_row hty (tw3 hK) rfl (show (⟨h, nx, lg⟩ : St).heap r = _ from hp) (by decide), sliceR_hi (eq_true (by show m * 1 ≤ _; omega))]
theorem frz92 : Q.frz 92 = false := hK.frz_ (by kernel_rfl)
theorem grow_c {n : Nat} (h0 : 0 < n) (hn : n ≤ 1000) {st : St} : callW Q (.fn 92) [.slice .nil [], .int .i64 (n : Int)] .normal st = some (.ret (.row st.next 0 0 none), ⟨upd st.heap st.next (.mem 3 (intsA (List.replicate n 0)) false 0), st.next + 1, st.log⟩, none) := by
  obtain ⟨v, st1, h1, rfl, rfl⟩ := row_end (R := fun v st1 => v = .row st.next 0 0 none ∧ st1 = ⟨upd st.heap st.next (.mem 3 (intsA (List.replicate n 0)) false 0), st.next + 1, []⟩) (N := 27) (ok92 hK) (hK.nx 92 [.slice .nil [], .int .i64 (n : Int)] st rfl) rfl (frz92 hK) (by
    have d0 : decide ((n : Int) < 0) = false := by rw [decide_eq_false_iff_not]; omega
    have w0 : IntKind.i64.wrap (0 - 0) = 0 := by decide
    have w1 := wrapN (z := (n : Int) - 0) (n := n) (by omega) (by omega)
    have d1 : decide ((0 : Int) < (n : Int)) = true := by rw [decide_eq_true_iff]; omega
    have ga := grow_app hK (h := st.heap) (nx := st.next) (lg := []) h0 hn
    have s2 := sl22_row hK (h := upd st.heap st.next (.mem 3 (intsA (List.replicate n 0)) false 0)) (nx := st.next + 1) (r := st.next) (n := n) (m := 0) (lg := []) (upd_same ..) (Nat.zero_le _)
    simp only [RS, RT, RZ, tsc0, tz0, nq0, bs0, bn0, reduceLT, reduceLeDiff, reduceEqDiff, reduceMul, reduceAdd, reduceSub, reduceCtorEq, x92, F92, d0, gA_cap, cap_nil hK, w0, w1, d1, gA_slice, sliceK3_some, boundA_none, boundA_some, sl0_nil hK, gA_apn, ga, s2, cast_0]
    exact ⟨_, rfl, below_row1 (Nat.le_refl _), rfl⟩)
  exact h1
theorem grow_0 : Ret Q 92 [.slice .nil [], .int .i64 0] (.slice .nil []) := fun st => by
  refine callY (N := 27) (ok92 hK) (hK.nx _ _ _ rfl) rfl rfl ?_
  have d0 : decide ((0 : Int) < 0) = false := by decide
  have w0 : IntKind.i64.wrap (0 - 0) = 0 := by decide
  simp only [RS, RT, RZ, tsc0, tz0, nq0, bs0, bn0, reduceLT, reduceLeDiff, reduceEqDiff, reduceMul, reduceAdd, reduceSub, reduceCtorEq, x92, F92, d0, gA_cap, cap_nil hK, w0, cast_0]
end
end Go.Proofs.P31

namespace Go.Proofs.P31
open Go Go.AE
open Nat (reduceLT reduceLeDiff reduceEqDiff reduceMul reduceAdd reduceSub)
set_option maxHeartbeats 8000000
theorem capp {g m nx : Nat} {h : Nat → AO} {lg : List Nat} {cs : List AV} {L : List Int} (hp : h g = .mem 3 cs false 0) (hm : m + L.length ≤ cs.length) (hl : cs.length < 1000) :
    ∃ h' lg', appendA true ⟨h, nx, lg⟩ 3 T3 (.row g 0 m none) (intsA L) = some (.row g 0 (m + L.length) none, ⟨h', nx, lg'⟩) ∧ h' g = .mem 3 (splice m (intsA L) cs) false 0 ∧ (∀ q, q ≠ g → h' q = h q) ∧ ∀ l ∈ lg', l = g ∨ l ∈ lg := by
  cases L with
  | nil => exact ⟨h, lg, rfl, by rw [hp]; simp [splice, intsA], fun _ _ => rfl, fun l hl => .inr hl⟩
  | cons x xs =>
    have e1 : sized T3.size (intsA (x :: xs)) = true := ints_sized _
    have e2 : (flat (intsA (x :: xs))).all AV.isCell = true := by rw [ints_flat]; exact ints_cell _
    have e3 : roomy (m + (intsA (x :: xs)).length) T3.bytes = true := by
      rw [intsA_len]
      show (decide ((m + (x :: xs).length) * 8 ≤ 1099511627776) && decide (8 ≤ 1048576) && decide (m + (x :: xs).length ≤ 1099511627776)) = true
      rw [decide_eq_true (by omega), decide_eq_true (by omega)]; rfl
    have e6 : appendA true ⟨h, nx, lg⟩ 3 T3 (.row g 0 m none) (intsA (x :: xs)) = appendRow true ⟨h, nx, lg⟩ 3 T3 g 0 m none (intsA (x :: xs)) := by
      show appendA true ⟨h, nx, lg⟩ 3 T3 (.row g 0 m none) (.int .i64 x :: intsA xs) = _
      simp only [appendA]
      rw [if_pos ⟨e1, by decide, e2⟩]
      exact if_pos e3
    refine ⟨upd h g (.mem 3 (splice m (intsA (x :: xs)) cs) false 0), g :: lg, ?_, upd_same .., fun q hq => upd_ne _ _ hq, fun l hl => by simpa using hl⟩
    rw [e6]
    have e7 : 0 + (m + (intsA (x :: xs)).length) * T3.size ≤ cs.length := by rw [intsA_len]; show 0 + (m + (x :: xs).length) * 1 ≤ _; omega
    have e8 : 0 + m * T3.size = m := by show 0 + m * 1 = m; omega
    simp only [appendRow, hp]
    rw [if_neg (by decide), if_pos (by rfl), if_pos e7, e8, ints_flat]
    rw [sto_pos (eq_true (by rw [intsA_len]; simp)), show (⟨h, nx, lg⟩ : St).heap g = _ from hp, stO_mem (by rw [intsA_len]; omega) (Nat.zero_le _) (ints_cell _)]
    simp only [Option.map_some, intsA_len]
    rfl
theorem splice_two (L1 L2 : List Int) : splice L1.length (intsA L2) (splice 0 (intsA L1) (intsA (List.replicate (L1.length + L2.length) 0))) = intsA (L1 ++ L2) := by
  simp only [splice, List.take_zero, List.nil_append, intsA_len, Nat.zero_add]
  rw [List.take_append_of_le_length (by simp [intsA]), List.take_of_length_le (by simp [intsA])]
  rw [List.drop_append, intsA_len, List.drop_of_length_le (by simp [intsA]), List.drop_drop]
  rw [List.drop_of_length_le (by simp [intsA])]
  simp [intsA]
end Go.Proofs.P31

namespace Go.Proofs.P31
open Go Go.AE
open Nat (reduceLT reduceLeDiff reduceEqDiff reduceMul reduceAdd reduceSub)
set_option maxHeartbeats 8000000
section
variable {Q : Ctx} (hK : K Q)
include hK
theorem frz59 : Q.frz 59 = false := hK.frz_ (by kernel_rfl)
theorem concat_c {X : Nat} {k1 k2 : SK} {L1 L2 : List Int} {st : St} (hX : st.heap X = .mem 22 [.slice k1 (intsA L1), .slice k2 (intsA L2)] true 0) (hXn : X < st.next) (hl1 : L1.length < 100) (hl2 : L2.length < 100) (hpos : 0 < L1.length + L2.length) :
    ∃ g h' nx', callW Q (.fn 59) [.row X 0 2 none] .normal st = some (.ret (.row g 0 (L1 ++ L2).length none), ⟨h', nx', st.log⟩, none) ∧ NewI st g (L1 ++ L2) h' nx' := by
  have w0 := wrapN (z := (0 : Int) + (L1.length : Int)) (n := L1.length) (by omega) (by omega)
  have w1 := wrapN (z := (L1.length : Int) + (L2.length : Int)) (n := L1.length + L2.length) (by omega) (by omega)
  have d0 : decide ((L1.length : Int) < 0) = false := by rw [decide_eq_false_iff_not]; omega
  have d1 : decide (((L1.length + L2.length : Nat) : Int) < 0) = false := by rw [decide_eq_false_iff_not]; omega
  have u1 : IntKind.i64.wrap (0 + 1) = 1 := by decide
  have u2 : IntKind.i64.wrap (1 + 1) = 2 := by decide
  have e0 : decide ((0 : Int) < 2) = true := by decide
  have e1 : decide ((1 : Int) < 2) = true := by decide
  have e2 : decide ((2 : Int) < 2) = false := by decide
  have hg := grow_c hK (n := L1.length + L2.length) hpos (by omega) (st := ⟨st.heap, st.next, []⟩)
  simp only at hg
  obtain ⟨h1, lg1, a1, b1, c1, d1'⟩ := capp (g := st.next) (m := 0) (nx := st.next + 1) (lg := []) (h := upd st.heap st.next (.mem 3 (intsA (List.replicate (L1.length + L2.length) 0)) false 0)) (L := L1) (upd_same ..) (by rw [intsA_len, List.length_replicate]; omega) (by rw [intsA_len, List.length_replicate]; omega)
  have hlen1 : (splice 0 (intsA L1) (intsA (List.replicate (L1.length + L2.length) 0))).length = L1.length + L2.length := by simp [splice, intsA]
  obtain ⟨h2, lg2, a2, b2, c2, d2'⟩ := capp (g := st.next) (m := L1.length) (nx := st.next + 1) (lg := lg1) (L := L2) b1 (by rw [hlen1]; omega) (by rw [hlen1]; omega)
  rw [splice_two] at b2
  rw [Nat.zero_add] at a1
  have x1 : h1 X = .mem 22 [.slice k1 (intsA L1), .slice k2 (intsA L2)] true 0 := by rw [c1 X (by omega), upd_ne _ _ (by omega), hX]
  have x0 : upd st.heap st.next (.mem 3 (intsA (List.replicate (L1.length + L2.length) 0)) false 0) X = .mem 22 [.slice k1 (intsA L1), .slice k2 (intsA L2)] true 0 := by rw [upd_ne _ _ (by omega), hX]
  obtain ⟨v, st1, q1, rfl, rfl⟩ := row_end (R := fun v st1 => v = .row st.next 0 (L1 ++ L2).length none ∧ st1 = ⟨h2, st.next + 1, lg2⟩) (N := 36) (ok59 hK) (hK.nx 59 [.row X 0 2 none] st rfl) rfl (frz59 hK) (by
    simp only [RS, RT, RZ, tsc0, tz0, nq0, bs0, bn0, reduceLT, reduceLeDiff, reduceEqDiff, reduceMul, reduceAdd, reduceSub, reduceCtorEq, x59, lenX_row]
    rw [execY_loop]
    simp only [RS, RT, RZ, tsc0, tz0, nq0, bs0, bn0, reduceLT, reduceLeDiff, reduceEqDiff, reduceMul, reduceAdd, reduceSub, reduceCtorEq, l59_0, idxX_row, Nat.zero_add, Nat.mul_one, hX, intsA_len, w0, w1, d0, d1, u1, u2, e0, e1, e2, cast_0, cast_1, cast_2]
    rw [execY_loop]
    simp only [RS, RT, RZ, tsc0, tz0, nq0, bs0, bn0, reduceLT, reduceLeDiff, reduceEqDiff, reduceMul, reduceAdd, reduceSub, reduceCtorEq, l59_0, idxX_row, Nat.zero_add, Nat.mul_one, hX, intsA_len, w0, w1, d0, d1, u1, u2, e0, e1, e2, cast_0, cast_1, cast_2]
    rw [execY_loop]
    simp only [RS, RT, RZ, tsc0, tz0, nq0, bs0, bn0, reduceLT, reduceLeDiff, reduceEqDiff, reduceMul, reduceAdd, reduceSub, reduceCtorEq, l59_0, idxX_row, lenX_row, Nat.zero_add, Nat.mul_one, hX, intsA_len, w0, w1, d0, d1, u1, u2, e0, e1, e2, cast_0, cast_1, cast_2, hg]
    rw [execY_loop]
    simp only [RS, RT, RZ, tsc0, tz0, nq0, bs0, bn0, reduceLT, reduceLeDiff, reduceEqDiff, reduceMul, reduceAdd, reduceSub, reduceCtorEq, l59_1, idxX_row, Nat.zero_add, Nat.mul_one, hX, x0, x1, u1, u2, e0, e1, e2, cast_0, cast_1, cast_2, a1, a2]
    rw [execY_loop]
    simp only [RS, RT, RZ, tsc0, tz0, nq0, bs0, bn0, reduceLT, reduceLeDiff, reduceEqDiff, reduceMul, reduceAdd, reduceSub, reduceCtorEq, l59_1, idxX_row, Nat.zero_add, Nat.mul_one, hX, x0, x1, u1, u2, e0, e1, e2, cast_0, cast_1, cast_2, a1, a2]
    rw [execY_loop]
    simp only [RS, RT, RZ, tsc0, tz0, nq0, bs0, bn0, reduceLT, reduceLeDiff, reduceEqDiff, reduceMul, reduceAdd, reduceSub, reduceCtorEq, l59_1, u1, u2, e0, e1, e2, cast_0, cast_1, cast_2, F59]
    exact ⟨_, rfl, below_row1 (Nat.le_refl _), by rw [List.length_append]⟩)
  have hlg : LogOk st.next lg2 := fun l hl => by
    rcases d2' l hl with h | h
    · omega
    · rcases d1' l h with h | h
      · omega
      · cases h
  simp only at q1
  rw [filt_nil hlg, List.nil_append] at q1
  exact ⟨_, _, _, q1, ⟨⟨false, b2⟩, Nat.le_refl _, by omega, fun q hq => by rw [c2 q (by omega), c1 q (by omega), upd_ne _ _ (by omega)]⟩⟩
end
end Go.Proofs.P31

namespace Go.Proofs.P31
open Go Go.AE
open Nat (reduceLT reduceLeDiff reduceEqDiff reduceMul reduceAdd reduceSub)
set_option maxHeartbeats 8000000
section
variable {Q : Ctx} (hK : K Q)
include hK
theorem concat_0 {X : Nat} {k1 k2 : SK} {st : St} (hX : st.heap X = .mem 22 [.slice k1 [], .slice k2 []] true 0) : callW Q (.fn 59) [.row X 0 2 none] .normal st = some (.ret (.slice .nil []), st, none) := by
  have w0 : IntKind.i64.wrap (0 + 0) = 0 := by decide
  have d0 : decide ((0 : Int) < 0) = false := by decide
  have u1 : IntKind.i64.wrap (0 + 1) = 1 := by decide
  have u2 : IntKind.i64.wrap (1 + 1) = 2 := by decide
  have e0 : decide ((0 : Int) < 2) = true := by decide
  have e1 : decide ((1 : Int) < 2) = true := by decide
  have e2 : decide ((2 : Int) < 2) = false := by decide
  refine callY (N := 36) (ok59 hK) (hK.nx _ _ _ rfl) rfl rfl ?_
  simp only [RS, RT, RZ, tsc0, tz0, nq0, bs0, bn0, reduceLT, reduceLeDiff, reduceEqDiff, reduceMul, reduceAdd, reduceSub, reduceCtorEq, x59, lenX_row]
  rw [execY_loop]
  simp only [RS, RT, RZ, tsc0, tz0, nq0, bs0, bn0, reduceLT, reduceLeDiff, reduceEqDiff, reduceMul, reduceAdd, reduceSub, reduceCtorEq, l59_0, idxX_row, Nat.zero_add, Nat.mul_one, hX, w0, d0, u1, u2, e0, e1, e2, cast_0, cast_1, cast_2]
  rw [execY_loop]
  simp only [RS, RT, RZ, tsc0, tz0, nq0, bs0, bn0, reduceLT, reduceLeDiff, reduceEqDiff, reduceMul, reduceAdd, reduceSub, reduceCtorEq, l59_0, idxX_row, Nat.zero_add, Nat.mul_one, hX, w0, d0, u1, u2, e0, e1, e2, cast_0, cast_1, cast_2]
  rw [execY_loop]
  simp only [RS, RT, RZ, tsc0, tz0, nq0, bs0, bn0, reduceLT, reduceLeDiff, reduceEqDiff, reduceMul, reduceAdd, reduceSub, reduceCtorEq, l59_0, idxX_row, lenX_row, Nat.zero_add, Nat.mul_one, hX, w0, d0, u1, u2, e0, e1, e2, cast_0, cast_1, cast_2, grow_0 hK]
  rw [execY_loop]
  simp only [RS, RT, RZ, tsc0, tz0, nq0, bs0, bn0, reduceLT, reduceLeDiff, reduceEqDiff, reduceMul, reduceAdd, reduceSub, reduceCtorEq, l59_1, idxX_row, Nat.zero_add, Nat.mul_one, hX, u1, u2, e0, e1, e2, cast_0, cast_1, cast_2, appendA]
  rw [execY_loop]
  simp only [RS, RT, RZ, tsc0, tz0, nq0, bs0, bn0, reduceLT, reduceLeDiff, reduceEqDiff, reduceMul, reduceAdd, reduceSub, reduceCtorEq, l59_1, idxX_row, Nat.zero_add, Nat.mul_one, hX, u1, u2, e0, e1, e2, cast_0, cast_1, cast_2, appendA]
  rw [execY_loop]
  simp only [RS, RT, RZ, tsc0, tz0, nq0, bs0, bn0, reduceLT, reduceLeDiff, reduceEqDiff, reduceMul, reduceAdd, reduceSub, reduceCtorEq, l59_1, u1, u2, e0, e1, e2, cast_0, cast_1, cast_2, F59]
theorem frz57 : Q.frz 57 = false := hK.frz_ (by kernel_rfl)
theorem append_c {A : Nat} {a b : LV} {st : St} (hA : st.heap A = .mem 24 (flatL [a, b]) true 0) (hAn : A < st.next) (hl1 : a.es.length < 100) (hl2 : b.es.length < 100) (hpos : 0 < a.es.length + b.es.length) :
    ∃ o st', callW Q (.fn 57) [.row A 0 2 none] .normal st = some (.ret o, st', none) ∧ OutR (fun l => l = [⟨true, 0, .open_, a.es ++ b.es⟩]) st st' o ∧ (true = true → ∃ r, o = .row r 0 1 none) := by
  obtain ⟨ai, an, ak, ae⟩ := a
  obtain ⟨bi, bn, bk, be⟩ := b
  simp only [flatL, List.flatMap_cons, List.flatMap_nil, LV.cells, List.cons_append, List.nil_append] at hA hl1 hl2 hpos ⊢
  obtain ⟨g, h1, nx1, c1, ⟨⟨fu, b1⟩, lo1, hi1, old1⟩⟩ := concat_c hK (X := st.next) (k1 := ak) (k2 := bk) (L1 := ae) (L2 := be) (st := ⟨upd st.heap st.next (.mem 22 [.slice ak (intsA ae), .slice bk (intsA be)] true 0), st.next + 1, []⟩) (upd_same ..) (Nat.lt_succ_self _) hl1 hl2 hpos
  simp only at c1 lo1 old1
  have n1 := nums_row hK (g := g) (l := ae ++ be) (st := ⟨h1, nx1, []⟩) hi1 b1
  simp only at n1
  have hd : (h1 g).isDead = false := by rw [b1]; rfl
  have hi2 := Nat.lt_succ_of_lt hi1
  have lo2 : st.next ≤ g := by omega
  obtain ⟨v, st1, q1, rfl, rfl⟩ := row_end (R := fun v st1 => v = .row (nx1 + 2) 0 1 none ∧ st1 = ⟨upd (upd (upd (upd (upd h1 nx1 (.mem 24 [.bool false, .int .i64 0, .slice .nil []] true 0)) nx1 (.mem 24 [.bool true, .int .i64 0, .row g 0 (ae ++ be).length none] true 0)) g .dead) (nx1 + 1) (.mem 24 [.bool true, .int .i64 0, .slice .open_ (intsA (ae ++ be))] true 0)) (nx1 + 2) (.mem 33 [.row (nx1 + 1) 0 1 none] true 0), nx1 + 3, [g]⟩) (N := 16) (ok57 hK) (hK.nx 57 [.row A 0 2 none] st rfl) rfl (frz57 hK) (by
    simp only [RS, RT, RZ, tsc0, tz0, nq0, bs0, bn0, reduceLT, reduceLeDiff, reduceEqDiff, reduceMul, reduceAdd, reduceSub, reduceCtorEq, if_false, mkd_c, mb_t, mb_n, true_or, or_true, runX_buildM, flat_cons, flat_nil, cells_row, any_row, ic_row, Nat.lt_add_one, x57, kd57_0, F57, idxX_row, Nat.zero_add, Nat.zero_mul, Nat.one_mul, hA, List.getElem?_cons_succ, List.getElem?_cons_zero, c1, n1, one_c hK, hd, hi1, hi2, lo1, lo2]
    exact ⟨_, rfl, below_row1 (by omega), rfl⟩)
  simp only at q1
  rw [filt_nil (lg := [g]) (fun l hl => by rw [List.mem_singleton] at hl; omega), List.nil_append] at q1
  refine ⟨_, _, q1, ⟨⟨nx1 + 2, [.row (nx1 + 1) 0 1 none], true, rfl, upd_same .., by omega, by simp only; omega, by simp, by simp, fun c hc => ?_⟩, fun q hq => ?_, by simp only; omega, fun q hq => .inl hq⟩, fun _ => ⟨_, rfl⟩⟩
  · rw [List.mem_singleton] at hc
    subst hc
    exact ⟨[⟨true, 0, .open_, ae ++ be⟩], rowB_new (A := nx1 + 1) (lv := [⟨true, 0, .open_, ae ++ be⟩]) (by simp only; rw [upd_ne _ _ (by omega), upd_same]; rfl) (by omega) (by simp only; omega) (by simp) (by simp; omega), rfl⟩
  · simp only
    rw [upd_ne _ _ (by omega), upd_ne _ _ (by omega), upd_ne _ _ (by omega), upd_ne _ _ (by omega), upd_ne _ _ (by omega), old1 q (by omega), upd_ne _ _ (by omega)]
end
end Go.Proofs.P31

namespace Go.Proofs.P31
open Go Go.AE
open Nat (reduceLT reduceLeDiff reduceEqDiff reduceMul reduceAdd reduceSub)
set_option maxHeartbeats 8000000
section
variable {Q : Ctx} (hK : K Q)
include hK
theorem append_0 {A : Nat} {ai bi : Bool} {an bn : Int} {ak bk : SK} {st : St} (hA : st.heap A = .mem 24 [.bool ai, .int .i64 an, .slice ak [], .bool bi, .int .i64 bn, .slice bk []] true 0) (hAn : A < st.next) :
    ∃ o st', callW Q (.fn 57) [.row A 0 2 none] .normal st = some (.ret o, st', none) ∧ OutR (fun l => l = [⟨true, 0, .nil, []⟩]) st st' o ∧ (true = true → ∃ r, o = .row r 0 1 none) := by
  have c1 := concat_0 hK (X := st.next) (k1 := ak) (k2 := bk) (st := ⟨upd st.heap st.next (.mem 22 [.slice ak [], .slice bk []] true 0), st.next + 1, []⟩) (upd_same ..)
  have n1 := fun s => nums_slice hK (k := .nil) (l := []) (st := s)
  simp only [intsA, List.map_nil, SK.forget] at n1
  obtain ⟨v, st1, q1, rfl, rfl⟩ := row_end (R := fun v st1 => v = .row (st.next + 2) 0 1 none ∧ st1 = ⟨upd (upd (upd st.heap st.next (.mem 22 [.slice ak [], .slice bk []] true 0)) (st.next + 1) (.mem 24 [.bool true, .int .i64 0, .slice .nil []] true 0)) (st.next + 2) (.mem 33 [.row (st.next + 1) 0 1 none] true 0), st.next + 3, []⟩) (N := 16) (ok57 hK) (hK.nx 57 [.row A 0 2 none] st rfl) rfl (frz57 hK) (by
    simp only [RS, RT, RZ, tsc0, tz0, nq0, bs0, bn0, reduceLT, reduceLeDiff, reduceEqDiff, reduceMul, reduceAdd, reduceSub, reduceCtorEq, if_false, mkd_c, mb_t, mb_n, true_or, or_true, runX_buildM, flat_cons, flat_nil, cells_row, any_row, ic_row, Nat.lt_add_one, x57, kd57_0, F57, idxX_row, Nat.zero_add, Nat.zero_mul, Nat.one_mul, hA, List.getElem?_cons_succ, List.getElem?_cons_zero, c1, n1, one_c hK]
    exact ⟨_, rfl, below_row1 (by omega), rfl⟩)
  simp only [List.filter_nil, List.nil_append] at q1
  refine ⟨_, _, q1, ⟨⟨st.next + 2, [.row (st.next + 1) 0 1 none], true, rfl, upd_same .., by omega, by simp only; omega, by simp, by simp, fun c hc => ?_⟩, fun q hq => ?_, by simp only; omega, fun q hq => .inl hq⟩, fun _ => ⟨_, rfl⟩⟩
  · rw [List.mem_singleton] at hc
    subst hc
    exact ⟨[⟨true, 0, .nil, []⟩], rowB_new (A := st.next + 1) (lv := [⟨true, 0, .nil, []⟩]) (by simp only; rw [upd_ne _ _ (by omega), upd_same]; rfl) (by omega) (by simp only; omega) (by simp) (by simp), rfl⟩
  · simp only
    rw [upd_ne _ _ (by omega), upd_ne _ _ (by omega), upd_ne _ _ (by omega)]
end
end Go.Proofs.P31
