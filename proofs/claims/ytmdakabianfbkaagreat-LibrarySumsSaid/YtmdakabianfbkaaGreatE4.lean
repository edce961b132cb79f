/- An abstract interpreter over a loaded program and its soundness against the model, part 4: for every context that fits the program. -/
import Derived.Test.YtmdakabianfbkaaGreatE3
import GoSem.ClaimChange
import Derived.Below
import Derived.WideShapes
set_option linter.unusedVariables false
set_option linter.unusedSimpArgs false
set_option linter.unusedSectionVars false
namespace Go.AE
open Go
def Bf (ops : Array Oper) (i j : Nat) : Prop := ((Region.before ops).toList.getD j 0).testBit i = true
def maskOf (acc : Array Nat) (o : Oper) : Nat := o.after.foldl (fun s e => if Region.binds .any e then s ||| 2 ^ e.on ||| acc.getD e.on 0 else s) 0
theorem before_eq (ops : Array Oper) : Region.before ops = ops.foldl (init := #[]) fun acc o => acc.push (maskOf acc o) := rfl
theorem maskOf_bit (acc : Array Nat) (o : Oper) (i : Nat) : (maskOf acc o).testBit i = true ↔ ∃ e ∈ o.after, Region.binds .any e = true ∧ (i = e.on ∨ (acc.getD e.on 0).testBit i = true) := by
  unfold maskOf
  rw [← Array.foldl_toList]
  have key : ∀ (l : List Edge) (s : Nat), (l.foldl (fun s e => if Region.binds .any e then s ||| 2 ^ e.on ||| acc.getD e.on 0 else s) s).testBit i = true ↔
      s.testBit i = true ∨ ∃ e ∈ l, Region.binds .any e = true ∧ (i = e.on ∨ (acc.getD e.on 0).testBit i = true) := by
    intro l
    induction l with
    | nil => intro s; simp
    | cons e l ih =>
      intro s
      rw [List.foldl_cons, ih]
      by_cases hb : Region.binds .any e = true
      · simp only [hb, if_true, Nat.testBit_or, Bool.or_eq_true, Nat.testBit_two_pow, decide_eq_true_eq, List.mem_cons, exists_eq_or_imp]
        grind
      · simp only [hb, if_false, Bool.false_eq_true, List.mem_cons, exists_eq_or_imp]
        simp
  rw [key]
  simp
theorem before_get (ops : Array Oper) : (Region.before ops).size = ops.size ∧ ∀ j o, ops[j]? = some o → ∀ i, ((Region.before ops).getD j 0).testBit i = true ↔
    ∃ e ∈ o.after, Region.binds .any e = true ∧ (i = e.on ∨ (e.on < j ∧ ((Region.before ops).getD e.on 0).testBit i = true)) := by
  rw [before_eq]
  have := Array.foldl_induction (as := ops) (motive := fun k (acc : Array Nat) => acc.size = k ∧ ∀ j o, j < k → ops[j]? = some o → ∀ i, (acc.getD j 0).testBit i = true ↔
    ∃ e ∈ o.after, Region.binds .any e = true ∧ (i = e.on ∨ (e.on < j ∧ (acc.getD e.on 0).testBit i = true))) (init := #[]) (f := fun acc o => acc.push (maskOf acc o))
    ⟨rfl, fun j o h => absurd h (Nat.not_lt_zero _)⟩ (by
      rintro k acc ⟨h1, h2⟩
      refine ⟨by simp [h1], fun j o hj ho i => ?_⟩
      have hlt : ∀ m, m < acc.size → (acc.push (maskOf acc ops[k])).getD m 0 = acc.getD m 0 := fun m hm => by
        simp [Array.getD_eq_getD_getElem?, Array.getElem?_push, Nat.ne_of_lt hm]
      by_cases hjk : j < k
      · rw [hlt j (by omega), h2 j o hjk ho i]
        constructor
        · rintro ⟨e, he, hb, h | ⟨h, h'⟩⟩
          · exact ⟨e, he, hb, .inl h⟩
          · exact ⟨e, he, hb, .inr ⟨h, by rw [hlt _ (by omega)]; exact h'⟩⟩
        · rintro ⟨e, he, hb, h | ⟨h, h'⟩⟩
          · exact ⟨e, he, hb, .inl h⟩
          · exact ⟨e, he, hb, .inr ⟨h, by rw [hlt _ (by omega)] at h'; exact h'⟩⟩
      · have hjk' : j = k := by omega
        subst hjk'
        have ho' : ops[k] = o := by rw [Array.getElem?_eq_getElem k.isLt] at ho; simpa using ho
        have hme : (acc.push (maskOf acc ops[k])).getD k 0 = maskOf acc ops[k] := by
          generalize maskOf acc ops[k] = mk
          rw [Array.getD_eq_getD_getElem?, ← h1, Array.getElem?_push_size]; rfl
        rw [hme, ho', maskOf_bit]
        constructor
        · rintro ⟨e, he, hb, h | h⟩
          · exact ⟨e, he, hb, .inl h⟩
          · have hlt' : e.on < acc.size := by
              rcases Nat.lt_or_ge e.on acc.size with hh | hh
              · exact hh
              · simp [Array.getD_eq_getD_getElem?, Array.getElem?_eq_none hh] at h
            exact ⟨e, he, hb, .inr ⟨by omega, by rw [← ho', hlt _ hlt']; exact h⟩⟩
        · rintro ⟨e, he, hb, h | ⟨h, h'⟩⟩
          · exact ⟨e, he, hb, .inl h⟩
          · exact ⟨e, he, hb, .inr (by rw [← ho', hlt _ (by omega)] at h'; exact h')⟩)
  refine ⟨this.1, fun j o ho => this.2 j o (Array.getElem?_eq_some_iff.1 ho).1 ho⟩
section
variable {ops : Array Oper}
theorem Bf.iff {i j : Nat} {o : Oper} (ho : ops[j]? = some o) : Bf ops i j ↔ ∃ e ∈ o.after, Region.binds .any e = true ∧ (i = e.on ∨ (e.on < j ∧ Bf ops i e.on)) := by
  have := (before_get ops).2 j o ho i
  simp only [Bf, List.getD_eq_getElem?_getD, Array.getElem?_toList, ← Array.getD_eq_getD_getElem?]
  exact this
theorem Bf.size {i j : Nat} (h : Bf ops i j) : j < ops.size := by
  rcases Nat.lt_or_ge j ops.size with hh | hh
  · exact hh
  · simp only [Bf, List.getD_eq_getElem?_getD, Array.getElem?_toList, Array.getElem?_eq_none (xs := Region.before ops) (by rw [(before_get ops).1]; exact hh)] at h
    simp at h
theorem Bf.lt (hf : Forward ops) : ∀ {j i : Nat}, Bf ops i j → i < j := by
  intro j
  induction j using Nat.strongRecOn with
  | _ j ih =>
    intro i h
    have hj := h.size
    obtain ⟨e, he, hb, h1 | ⟨h1, h2⟩⟩ := (Bf.iff (Array.getElem?_eq_getElem hj)).1 h
    · subst h1; exact hf j _ (Array.getElem?_eq_getElem hj) e he hb
    · have := ih _ h1 h2; omega
theorem Bf.trans (hf : Forward ops) : ∀ {k i j : Nat}, Bf ops i j → Bf ops j k → Bf ops i k := by
  intro k
  induction k using Nat.strongRecOn with
  | _ k ih =>
    intro i j h1 h2
    have hk := h2.size
    have hiff := @Bf.iff ops i k _ (Array.getElem?_eq_getElem hk)
    obtain ⟨e, he, hb, h3 | ⟨h3, h4⟩⟩ := (Bf.iff (Array.getElem?_eq_getElem hk)).1 h2
    · subst h3
      exact hiff.2 ⟨e, he, hb, .inr ⟨hf k _ (Array.getElem?_eq_getElem hk) e he hb, h1⟩⟩
    · exact hiff.2 ⟨e, he, hb, .inr ⟨h3, ih _ h3 h1 h4⟩⟩
theorem Bf.closed {S : Nat → Bool} {j : Nat} {o : Oper} (ho : ops[j]? = some o) (hd : ∀ e ∈ o.after, Region.binds .any e = true → S e.on = true) (hS : ∀ k, S k = true → ∀ i, Bf ops i k → S i = true) {i : Nat} (h : Bf ops i j) : S i = true := by
  obtain ⟨e, he, hb, h3 | ⟨h3, h4⟩⟩ := (Bf.iff ho).1 h
  · subst h3; exact hd e he hb
  · exact hS _ (hd e he hb) i h4
section
variable {α : Type} (U : Nat → Option α) (x : α)
def rp (S : Nat → Bool) : Nat → α
  | 0 => x
  | i + 1 => if S i then (U i).getD (rp S i) else rp S i
variable {U x}
theorem rp_agree {S : Nat → Bool} {j : Nat} : ∀ m, j ≤ m → (∀ i, i < j → (U i).isSome = true → S i = true) → (∀ i, j ≤ i → i < m → (U i).isSome = true → S i = false) → rp U x S m = rp U x (fun _ => true) j := by
  intro m hm h1 h2
  induction m with
  | zero =>
    obtain rfl : j = 0 := by omega
    rfl
  | succ m ih =>
    by_cases hj : j = m + 1
    · subst hj
      have : ∀ k, k ≤ m + 1 → rp U x S k = rp U x (fun _ => true) k := by
        intro k
        induction k with
        | zero => intro _; rfl
        | succ k ihk =>
          intro hk
          simp only [rp, if_true]
          rw [ihk (by omega)]
          cases hu : U k with
          | none => simp
          | some v => rw [h1 k (by omega) (by rw [hu]; rfl)]; simp
      exact this _ (Nat.le_refl _)
    · simp only [rp]
      cases hu : U m with
      | none => simp only [Option.getD_none]; rw [ite_self]; exact ih (by omega) fun i hi hi2 h => h2 i hi (by omega) h
      | some v =>
        have := h2 m (by omega) (by omega) (by rw [hu]; rfl)
        rw [this]
        exact ih (by omega) fun i hi hi2 h => h2 i hi (by omega) h
theorem rp_put_none {S S' : Nat → Bool} {j : Nat} (hS : ∀ i, i ≠ j → S' i = S i) (hu : U j = none) : ∀ m, rp U x S' m = rp U x S m
  | 0 => rfl
  | m + 1 => by
    simp only [rp, rp_put_none hS hu m]
    by_cases h : m = j
    · subst h; rw [hu]; simp
    · rw [hS m h]
theorem rp_put_some {S' : Nat → Bool} {j : Nat} (hj : S' j = true) {v : α} (hu : U j = some v) : ∀ m, j < m → (∀ i, j < i → i < m → S' i = true → U i = none) → rp U x S' m = v
  | 0, h, _ => absurd h (Nat.not_lt_zero _)
  | m + 1, h, hl => by
    simp only [rp]
    by_cases hm : m = j
    · subst hm; rw [hj, hu]; rfl
    · rw [rp_put_some hj hu m (by omega) fun i h1 h2 h3 => hl i h1 (by omega) h3]
      cases hs : S' m with
      | false => rfl
      | true => rw [hl m (by omega) (by omega) hs]; rfl
theorem rp_cases {S : Nat → Bool} : ∀ m, rp U x S m = x ∨ ∃ i, i < m ∧ S i = true ∧ U i = some (rp U x S m)
  | 0 => .inl rfl
  | m + 1 => by
    simp only [rp]
    rcases rp_cases (S := S) m with h | ⟨i, h1, h2, h3⟩
    · cases hs : S m with
      | false => exact .inl h
      | true => cases hu : U m with
        | none => exact .inl h
        | some v => exact .inr ⟨m, by omega, hs, by simp [hu]⟩
    · cases hs : S m with
      | false => exact .inr ⟨i, by omega, h2, h3⟩
      | true => cases hu : U m with
        | none => exact .inr ⟨i, by omega, h2, h3⟩
        | some v => exact .inr ⟨m, by omega, hs, by simp [hu]⟩
end
end
end Go.AE

namespace Go.AE
open Go
section
variable {C : Ctx} {st st2 : St} {mu ro : Bool} {fr : Fr} {o : Oper}
theorem ov_plain {r : Option AV} : (∀ d st', ov st r ≠ some (.dfr d st')) ∧ ov st r ≠ some .rcv := by cases r <;> simp [ov]
theorem ovs_plain {r : Option (AV × St)} : (∀ d st', ovs r ≠ some (.dfr d st')) ∧ ovs r ≠ some .rcv := by cases r <;> simp [ovs]
theorem map_plain {α : Type} {f : α → AV} {g : α → St} {r : Option α} : (∀ d st', r.map (fun x => OPR.val (f x) (g x)) ≠ some (.dfr d st')) ∧ r.map (fun x => OPR.val (f x) (g x)) ≠ some .rcv := by cases r <;> simp
theorem builtin_plain {b : Builtin} {ts : List TypeId} {args : List AV} (hb : b ≠ .recover) : (∀ d st', builtinA C mu ro fr st b ts args ≠ some (.dfr d st')) ∧ builtinA C mu ro fr st b ts args ≠ some .rcv := by
  unfold builtinA
  split <;> (repeat' split) <;> first | exact absurd rfl hb | exact ov_plain | exact ovs_plain | (simp; done)
theorem opA_plain (hp : plainOp o.op = true) : (∀ d st', opA C mu ro fr st o ≠ some (.dfr d st')) ∧ opA C mu ro fr st o ≠ some .rcv := by
  unfold opA
  cases hop : o.op <;> simp only [] <;> first | exact ov_plain | exact ovs_plain | exact map_plain | (simp; done) | skip
  case call c =>
    cases hc : c.callee with
    | builtin b =>
      refine builtin_plain fun hb => ?_
      subst hb
      rw [hop] at hp
      obtain ⟨cc, ca, ct⟩ := c
      cases hc
      simp [plainOp] at hp
    | _ => simp
  case defer c => rw [hop] at hp; simp [plainOp] at hp
  all_goals (repeat' split) <;> first | exact ov_plain | exact ovs_plain | exact map_plain | (simp; done)
section
variable {C : Ctx} {b : Frame} {K : FrameMode → List Frame} {k : List Item} {G : Gh} {st : St} {w : World} {u : FrameMode} {fr : Fr} {a : Act}
theorem runOp_step (hC : CtxOk C) {call : CallF} (hcall : CallsOk C call) (hct : CtOk b K) {ro : Option Nat} {mu : Bool} {ops : Array Oper} {i : Nat} {rest : List Nat} {o : Oper} (ho : ops[i]? = some o)
    (hw : Region.wanted o (yielded ops a.tmps) = true) (hs : Sit C G st w b fr a u) (hro : RoRel G b ro) (hplain : plainOp o.op = true) {fr' : Fr} {st' : St} (h : runOp call C mu ro.isSome o fr st = some (.norm, fr', st')) :
    ∃ v q w' G' ls, fr' = fr.put o.dst v ∧ VR G' w' v q ∧ Ok C G st w ls G' st' w' ∧ st'.log = ls ++ st.log ∧
      Steps C.P (lone (fa b a (.inRegion ops (i :: rest) :: k)) (K u) w) (lone (fa b (a.put o.dst q) (.inRegion ops rest :: k)) (K u) w') := by
  have hb : ro.isSome = false → b.roundOf = none := fun hh => by cases ro with
    | none => exact hro
    | some l => cases hh
  unfold runOp at h
  cases hop : opA C mu ro.isSome fr st o with
  | some q =>
    have hsound := opA_sound hC hs.rel hs.frs hop
    have hnd : ∀ v st', q = .val v st' → (b.roundOf = none ∨ ∀ c, o.op ≠ .defer c) := fun v st' hq => by
      subst hq
      by_cases hr : ro.isSome = true
      · refine .inr fun c hc => ?_
        simp only [opA, hc, hr, if_true] at hop
        cases hop
      · exact .inl (hb (by simpa using hr))
    cases q with
    | val v st' =>
      simp only [hop, Option.some.injEq, Prod.mk.injEq, true_and] at h
      obtain ⟨rfl, rfl⟩ := h
      obtain ⟨n, q, w', G', ls, h1, h2, h3, h4, h5, h6⟩ := hsound
      rcases h2 with rfl | ⟨rfl, rfl⟩ | ⟨rfl, hpv, rfl⟩
      · exact ⟨_, _, w', G', ls, rfl, h6, h4, h5, fa_value ho hw (hnd _ _ rfl) h1⟩
      · exact ⟨_, _, w', G', ls, rfl, h6, h4, h5, fa_skipped ho hw (hnd _ _ rfl) h1⟩
      · have hpv' := hs.pvs
        rw [hpv] at hpv'
        exact ⟨_, _, w', G', ls, rfl, h6, h4, h5, fa_recover_none ho hw (hnd _ _ rfl) (hb (h3 rfl)) h1 (tryRecover_none hct hpv' _)⟩
    | pan v st' => simp [hop] at h
    | dfr d st' => exact absurd hop ((opA_plain hplain).1 d st')
    | rcv => exact absurd hop (opA_plain hplain).2
  | none =>
    simp only [hop] at h
    unfold callA at h
    split at h
    · rename_i c hc
      have hnd : b.roundOf = none ∨ ∀ c, o.op ≠ .defer c := .inr fun c' h' => by rw [hc] at h'; cases h'
      split at h
      · rename_i tgt args hcal
        unfold calleeA at hcal
        split at hcal
        · rename_i f hf
          have hfv := oval_sound hs.rel hs.frs f
          split at hcal
          · -- a function of the program
            rename_i g first captured heq
            cases hcal
            rw [heq] at hfv
            generalize hu : a.eval f = fv at hfv
            cases hfv with
            | func _ _ _ vs us h1 h2 h3 h4 =>
              have hargs := ((VRs.of_array h1 h3).append (vrs_arrays hs.rel hs.frs c.args)).append (VRs.of_array h2 h4)
              have hrun : (execOp a.eval o).run C.P w = (callFunc g (vs ++ c.args.map a.eval ++ us)).run C.P w := by
                simp [execOp, hc, resolve, hf, Deferred.ofValue, hu, invoke]
              have harr : (vs.toList ++ (c.args.map a.eval).toList ++ us.toList).toArray = vs ++ c.args.map a.eval ++ us := by simp
              have key : ∀ r, call (.fn g) (first ++ c.args.toList.map (oval C fr) ++ captured) .normal st = some r →
                  ∃ e w' G' ls, Ok C G st w ls G' r.2.1 w' ∧ r.2.1.log = ls ++ st.log ∧ EndRel G' w' r.1 e ∧
                    (match e with
                    | .returned v' => Steps C.P (lone (fa b a (.inRegion ops (i :: rest) :: k)) (K u) w) (lone (fa b (a.put o.dst v') (.inRegion ops rest :: k)) (K u) w')
                    | .panicked chain => Steps C.P (lone (fa b a (.inRegion ops (i :: rest) :: k)) (K u) w) (lone { fa b a (.inRegion ops (i :: rest) :: k) with mode := .panicking chain } (K u) w')
                    | .outgrown => True) := fun r hr => by
                have hq := hcall _ _ _ _ _ hr G w _ hs.rel hargs
                rw [harr] at hq
                rcases hq with ⟨fn, q1, q2, q3, q4⟩ | ⟨v, w', q1, G', ls, q2, q3, q4⟩
                · have hent : (execOp a.eval o).run C.P w = .ok (.enter g (vs ++ c.args.map a.eval ++ us)) w := by
                    rw [hrun]
                    have : fn.body.isNone = false := by cases hbd : fn.body <;> simp_all
                    simp only [callFunc, Sem.run_bind, run_program, Result.andThen_ok, q1, q3, this, Bool.false_eq_true, if_false, Sem.run_pure]
                  obtain ⟨e, w', frE, ⟨G', ls, r1, r2, r3⟩, r4, _, r5⟩ := q4 (fa b a (.inRegion ops (i :: rest) :: k) :: K u)
                  refine ⟨e, w', G', ls, r1, r2, r3, ?_⟩
                  have henter := fa_enter (k := k) (cs := K u) (rest := rest) ho hw hnd hent
                  cases e with
                  | returned v' =>
                    simp only
                    rw [← fa_finish ho]
                    exact henter.trans (Steps.trans r4 (.one (step_leave_returned r5)))
                  | panicked chain =>
                    simp only
                    have := henter.trans (Steps.trans r4 (.one (step_leave_panicked r5)))
                    rwa [show (fa b a (.inRegion ops (i :: rest) :: k)).raise chain = { fa b a (.inRegion ops (i :: rest) :: k) with mode := .panicking chain } from by simp [Frame.raise, fa]] at this
                  | outgrown => trivial
                · exact ⟨.returned v, w', G', ls, q2, q3, q4, fa_value ho hw hnd (by rw [hrun]; exact q1)⟩
              split at h
              · rename_i v st1 _ hcl
                cases h
                obtain ⟨e, w', G', ls, r1, r2, r3, r4⟩ := key _ hcl
                cases e with
                | returned v' => exact ⟨_, _, w', G', ls, rfl, r3, r1, r2, r4⟩
                | panicked chain => exact r3.elim
                | outgrown => exact r3.elim
              · cases h
              · cases h
          · -- a round of a loop
            rename_i l heq
            cases hcal
            rw [heq] at hfv
            generalize hu : a.eval f = fv at hfv
            cases hfv with
            | yield _ L hL =>
              have hargs := vrs_arrays hs.rel hs.frs c.args
              have key : ∀ r, call (.yield l) (c.args.toList.map (oval C fr)) .normal st = some r →
                  ∃ w' G' ls, Ok C G st w ls G' r.2.1 w' ∧ r.2.1.log = ls ++ st.log ∧
                    (match r.1 with
                    | .ret v => ∃ v', VR G' w' v v' ∧ Steps C.P (lone (fa b a (.inRegion ops (i :: rest) :: k)) (K u) w) (lone (fa b (a.put o.dst v') (.inRegion ops rest :: k)) (K u) w')
                    | .pan v => ∃ v', VR G' w' v v' ∧ Steps C.P (lone (fa b a (.inRegion ops (i :: rest) :: k)) (K u) w) (lone { fa b a (.inRegion ops (i :: rest) :: k) with mode := .panicking [{ v := v', recovered := false }] } (K u) w')) := fun r hr => by
                obtain ⟨lp, p1, p2, p3⟩ := hcall _ _ _ _ _ hr G w _ L hs.rel hargs hL
                obtain ⟨w', G', ls, r1, r2, r3⟩ := p3 (fa b a (.inRegion ops (i :: rest) :: k)) (K u)
                have hg := run_getObj (C := C) p1 (fun _ _ _ => by simp)
                have hent : (execOp a.eval o).run C.P w = .ok (.round L.blk lp.fn ((lp.params.zip (c.args.map a.eval)).foldl (fun tmps (t, a) => tmps.setIfInBounds t a) lp.tmps) lp.assign lp.body) w := by
                  have hsz : ¬ ((c.args.map a.eval).size ≠ lp.params.size) := by simpa using p2
                  simp only [execOp, hc, Sem.run_bind, resolve, hf, Deferred.ofValue, hu, Sem.run_pure, Result.andThen_ok, invoke, Instr.yield, Instr.getLoop, hg, Array.empty_append]
                  rw [if_neg hsz]
                  rfl
                have hround := fa_round (k := k) (cs := K u) (rest := rest) ho hw hnd hent
                refine ⟨w', G', ls, r1, r2, ?_⟩
                obtain ⟨rr, rst, rp⟩ := r
                cases rr with
                | ret v0 =>
                  obtain ⟨v', e1, e2⟩ := r3
                  refine ⟨v', e1, ?_⟩
                  rw [fa_finish ho] at e2
                  rw [Array.toArray_toList] at e2
                  exact hround.trans e2
                | pan v0 =>
                  obtain ⟨v', e1, e2⟩ := r3
                  refine ⟨v', e1, ?_⟩
                  rw [show (fa b a (.inRegion ops (i :: rest) :: k)).raise [{ v := v', recovered := false }] = { fa b a (.inRegion ops (i :: rest) :: k) with mode := .panicking [{ v := v', recovered := false }] } from by simp [Frame.raise, fa]] at e2
                  rw [Array.toArray_toList] at e2
                  exact hround.trans e2
              split at h
              · rename_i v st1 _ hcl
                cases h
                obtain ⟨w', G', ls, r1, r2, v', r3, r4⟩ := key _ hcl
                exact ⟨_, _, w', G', ls, rfl, r3, r1, r2, r4⟩
              · cases h
              · cases h
          · cases hcal
        · cases hcal
      · cases h
    · cases h
end
end
end Go.AE

namespace Go.AE
open Go
def TStep (calls : Nat → CallF) (C : Ctx) (mu ro : Bool) (ops : Array Oper) (F : Nat → Fr) (H : Nat → Nat → AO) (N : Nat → Nat) (I : Nat → Info) (j : Nat) (o : Oper) : Prop :=
  (wantedA ops (F j) o = some false ∧ F (j + 1) = (F j).put o.dst undefA ∧ H (j + 1) = H j ∧ N (j + 1) = N j ∧ I j = ⟨[], some [], 0, 0⟩) ∨
  (wantedA ops (F j) o = some true ∧ ∃ lg, runOp (calls j) C mu ro o (F j) ⟨H j, N j, []⟩ = some (.norm, F (j + 1), ⟨H (j + 1), N (j + 1), lg⟩) ∧ I j = ⟨lg, readsA C (F j) o, N j, N (j + 1)⟩ ∧
    ∀ l ∈ lg, l < N j ∧ (H j l).isDead = false)
structure Tr (calls : Nat → CallF) (C : Ctx) (mu ro : Bool) (ops : Array Oper) (i : Nat) (fr : Fr) (st : St) (fr' : Fr) (st' : St) (info : List Info) (F : Nat → Fr) (H : Nat → Nat → AO) (N : Nat → Nat) (I : Nat → Info) : Prop where
  f0 : F i = fr
  h0 : H i = st.heap
  n0 : N i = st.next
  fm : F ops.size = fr'
  hm : H ops.size = st'.heap
  nm : N ops.size = st'.next
  info : info = (List.range' i (ops.size - i)).map I
  step : ∀ j o, i ≤ j → ops[j]? = some o → TStep calls C mu ro ops F H N I j o
  log : ∃ lgs, st'.log = lgs ++ st.log ∧ ∀ j, i ≤ j → j < ops.size → ∀ l ∈ (I j).log, l ∈ lgs
theorem runDraw_tr {calls : Nat → CallF} {C : Ctx} {mu ro : Bool} {ops : Array Oper} : ∀ (l : List Oper) (i : Nat) (fr : Fr) (st : St) (fr' : Fr) (st' : St) (info : List Info), i ≤ ops.size → ops.toList.drop i = l → runDraw calls C mu ro ops i l fr st = some (fr', st', info) →
    ∃ F H N I, Tr calls C mu ro ops i fr st fr' st' info F H N I
  | [], i, fr, st, fr', st', info, hi, hl, h => by
    have hm : i = ops.size := by
      have := congrArg List.length hl
      simp at this
      omega
    simp only [runDraw, Option.some.injEq, Prod.mk.injEq] at h
    obtain ⟨rfl, rfl, rfl⟩ := h
    subst hm
    exact ⟨fun _ => fr, fun _ => st.heap, fun _ => st.next, fun _ => ⟨[], none, 0, 0⟩, rfl, rfl, rfl, rfl, rfl, rfl, by simp, fun j o hj ho => absurd (Array.getElem?_eq_some_iff.1 ho).1 (by omega),
      [], rfl, fun j h1 h2 => by omega⟩
  | o :: l, i, fr, st, fr', st', info, hi, hl, h => by
    have ho : ops[i]? = some o := by
      have := congrArg List.head? hl
      rw [List.head?_drop, Array.getElem?_toList] at this
      simpa using this
    have hl' : ops.toList.drop (i + 1) = l := by
      have := congrArg List.tail hl
      rw [List.tail_drop] at this
      simpa using this
    have hlt := (Array.getElem?_eq_some_iff.1 ho).1
    have glue : ∀ (fr1 : Fr) (st1 : St) (info1 : List Info) (x : Info) (lg : List Nat), info = x :: info1 → st1.log = lg ++ st.log → (∀ q ∈ x.log, q ∈ lg) →
        (∀ F H N I, F i = fr → H i = st.heap → N i = st.next → F (i + 1) = fr1 → H (i + 1) = st1.heap → N (i + 1) = st1.next → I i = x → TStep calls C mu ro ops F H N I i o) →
        runDraw calls C mu ro ops (i + 1) l fr1 st1 = some (fr', st', info1) → ∃ F H N I, Tr calls C mu ro ops i fr st fr' st' info F H N I := by
      intro fr1 st1 info1 x lg hinfo hlog hx hstep hrun
      obtain ⟨F, H, N, I, t⟩ := runDraw_tr l (i + 1) fr1 st1 fr' st' info1 hlt hl' hrun
      have ne : ∀ j, i + 1 ≤ j → ¬ j = i := fun j hj => by omega
      refine ⟨fun j => if j = i then fr else F j, fun j => if j = i then st.heap else H j, fun j => if j = i then st.next else N j, fun j => if j = i then x else I j, by simp, by simp, by simp, ?_, ?_, ?_, ?_, ?_, ?_⟩
      · rw [if_neg (ne _ hlt)]; exact t.fm
      · rw [if_neg (ne _ hlt)]; exact t.hm
      · rw [if_neg (ne _ hlt)]; exact t.nm
      · have : ops.size - i = (ops.size - (i + 1)) + 1 := by omega
        rw [hinfo, t.info, this, List.range'_succ, List.map_cons, if_pos rfl]
        congr 1
        apply List.map_congr_left
        intro j hj
        rw [List.mem_range'_1] at hj
        rw [if_neg (ne j hj.1)]
      · intro j o' hj ho'
        by_cases hji : j = i
        · subst hji
          rw [ho] at ho'; cases ho'
          exact hstep _ _ _ _ (if_pos rfl) (if_pos rfl) (if_pos rfl) ((if_neg (by omega)).trans t.f0) ((if_neg (by omega)).trans t.h0) ((if_neg (by omega)).trans t.n0) (if_pos rfl)
        · have hs := t.step j o' (by omega) ho'
          unfold TStep at hs ⊢
          simp only [if_neg hji, if_neg (show ¬ j + 1 = i by omega)]
          exact hs
      · obtain ⟨lgs, e1, e2⟩ := t.log
        refine ⟨lgs ++ lg, by rw [e1, hlog, List.append_assoc], fun j h1 h2 q hq => ?_⟩
        by_cases hji : j = i
        · rw [if_pos hji] at hq; exact List.mem_append_right _ (hx q hq)
        · rw [if_neg hji] at hq; exact List.mem_append_left _ (e2 j (by omega) h2 q hq)
    simp only [runDraw] at h
    split at h
    · cases h
    · rename_i hw
      split at h
      · rename_i fr1 st1 info1 h1
        simp only [Option.some.injEq, Prod.mk.injEq] at h
        obtain ⟨rfl, rfl, rfl⟩ := h
        refine glue _ st info1 _ [] rfl rfl (by simp) ?_ h1
        intro F H N I e1 e2 e3 e4 e5 e6 e7
        exact .inl ⟨by rw [e1]; exact hw, by rw [e4, e1], by rw [e5, e2], by rw [e6, e3], e7⟩
      · cases h
    · rename_i hw
      split at h
      · rename_i fr1 st1 h1
        split at h
        · rename_i hall
          split at h
          · rename_i fr2 st2 info2 h2
            simp only [Option.some.injEq, Prod.mk.injEq] at h
            obtain ⟨rfl, rfl, rfl⟩ := h
            refine glue fr1 ⟨st1.heap, st1.next, st1.log ++ st.log⟩ info2 _ st1.log rfl rfl (fun q hq => hq) ?_ h2
            intro F H N I e1 e2 e3 e4 e5 e6 e7
            refine .inr ⟨by rw [e1]; exact hw, st1.log, ?_, ?_, ?_⟩
            · rw [e1, e2, e3, e4, e5, e6]; exact h1
            · rw [e7, e1, e3, e6]
            · intro q hq
              have := List.all_eq_true.1 hall q hq
              simp only [Bool.and_eq_true, decide_eq_true_eq, Bool.not_eq_true'] at this
              rw [e3, e2]
              exact this
          · cases h
        · cases h
      · cases h
end Go.AE

namespace Go.AE
open Go
section
variable {C : Ctx} {ops : Array Oper} {calls : Nat → CallF} {mu ro : Bool}
def preOf (ops : Array Oper) (N : Nat → Nat) (j l : Nat) : Prop := l < N 0 ∨ ∃ c, Bf ops c j ∧ N c ≤ l ∧ l < N (c + 1)
def ownOf (ops : Array Oper) (N : Nat → Nat) (t : Option Nat) (l : Nat) : Prop :=
  match t with
  | none => l < N 0
  | some i => l < N 0 ∨ ∃ c, (c = i ∨ Bf ops c i) ∧ N c ≤ l ∧ l < N (c + 1)
structure RgRoad (calls : Nat → CallF) (C : Ctx) (mu ro : Bool) (ops : Array Oper) (fr : Fr) (st : St) (F : Nat → Fr) (H : Nat → Nat → AO) (N : Nat → Nat) (I : Nat → Info) (V : Nat → AV) : Prop where
  fwd : Forward ops
  plain : ∀ (j : Nat) (o : Oper), ops[j]? = some o → plainOp o.op = true
  o1 : ∀ i j l, i < ops.size → j < ops.size → l ∈ (I i).log → (I j).rd = none → preOf ops N j l → i = j ∨ Bf ops i j ∨ Bf ops j i
  o2 : ∀ i j l rs, i < ops.size → j < ops.size → l ∈ (I i).log → (I j).rd = some rs → l ∈ rs → i = j ∨ Bf ops i j ∨ Bf ops j i
  o3 : ∀ i l, i < ops.size → l ∈ (I i).log → preOf ops N i l
  d1 : ∀ (i j : Nat) (oi oj : Oper) (t : Tmp), ops[i]? = some oi → ops[j]? = some oj → oi.dst = some t → t ∈ namesOf ops oj → i = j ∨ Bf ops i j ∨ Bf ops j i
  f0 : F 0 = fr
  h0 : H 0 = st.heap
  n0 : N 0 = st.next
  f : ∀ (j : Nat) (o : Oper), ops[j]? = some o → F (j + 1) = (F j).put o.dst (V j)
  n : ∀ j, j < ops.size → N j ≤ N (j + 1)
  keep : ∀ j, j < ops.size → ∀ l, l < N j → l ∉ (I j).log → H (j + 1) l = H j l
  log : ∀ j, j < ops.size → ∀ l, l ∈ (I j).log → l < N j ∧ (H j l).isDead = false
  step : ∀ (j : Nat) (o : Oper), ops[j]? = some o → TStep calls C mu ro ops F H N I j o
theorem ordered_spec {i j : Nat} (h : ordered (Region.before ops).toList i j = true) : i = j ∨ Bf ops i j ∨ Bf ops j i := by
  simp only [ordered, Bool.or_eq_true, beq_iff_eq] at h
  rcases h with (h | h) | h
  · exact .inl h
  · exact .inr (.inl h)
  · exact .inr (.inr h)
theorem mayMeet_spec {n0 b l : Nat} : ∀ (k : Nat) (info : List Info), mayMeet n0 b l k info = true ↔ l < n0 ∨ ∃ i x, info[i]? = some x ∧ x.lo ≤ l ∧ l < x.hi ∧ b.testBit (k + i) = true
  | k, [] => by simp [mayMeet]
  | k, y :: r => by
    simp only [mayMeet, Bool.or_eq_true, Bool.and_eq_true, decide_eq_true_eq, mayMeet_spec (k + 1) r]
    constructor
    · rintro (⟨⟨h1, h2⟩, h3⟩ | h | ⟨i, x, h1, h2, h3, h4⟩)
      · exact .inr ⟨0, y, rfl, h1, h2, h3⟩
      · exact .inl h
      · exact .inr ⟨i + 1, x, h1, h2, h3, by rw [show k + (i + 1) = k + 1 + i by omega]; exact h4⟩
    · rintro (h | ⟨i, x, h1, h2, h3, h4⟩)
      · exact .inr (.inl h)
      · cases i with
        | zero => cases h1; exact .inl ⟨⟨h2, h3⟩, h4⟩
        | succ i => exact .inr (.inr ⟨i, x, h1, h2, h3, by rw [show k + 1 + i = k + (i + 1) by omega]; exact h4⟩)
theorem orderOk1_spec {n0 : Nat} {bs : List Nat} {info : List Info} {i : Nat} {ls : List Nat} : ∀ (k : Nat) (r : List Info), orderOk1 n0 bs info i ls k r = true →
    ∀ j x, r[j]? = some x → meets n0 info (bs.getD (k + j) 0) ls x = true → ordered bs i (k + j) = true
  | _, [], _, j, x, hx, _ => by simp at hx
  | k, y :: r, h, j, x, hx, hm => by
    simp only [orderOk1, Bool.and_eq_true, Bool.or_eq_true, Bool.not_eq_true'] at h
    cases j with
    | zero =>
      cases hx
      rcases h.1 with h1 | h1
      · rw [Nat.add_zero] at hm; rw [h1] at hm; cases hm
      · exact h1
    | succ j =>
      have := orderOk1_spec (k + 1) r h.2 j x (by simpa using hx)
      rw [show k + 1 + j = k + (j + 1) by omega] at this
      exact this hm
theorem orderOk_spec {n0 : Nat} {bs : List Nat} {info : List Info} : ∀ (k : Nat) (r : List Info), orderOk n0 bs info k r = true →
    ∀ i x, r[i]? = some x → x.log = [] ∨ ((∀ l ∈ x.log, mayMeet n0 (bs.getD (k + i) 0) l 0 info = true) ∧ orderOk1 n0 bs info (k + i) x.log 0 info = true)
  | _, [], _, i, x, hx => by simp at hx
  | k, y :: r, h, i, x, hx => by
    simp only [orderOk, Bool.and_eq_true, Bool.or_eq_true, List.isEmpty_iff, List.all_eq_true] at h
    cases i with
    | zero => cases hx; exact h.1
    | succ i =>
      have := orderOk_spec (k + 1) r h.2 i x (by simpa using hx)
      rwa [show k + 1 + i = k + (i + 1) by omega] at this
theorem drawable_spec (h : drawable ops = true) : Forward ops ∧ (∀ (j : Nat) (o : Oper), ops[j]? = some o → plainOp o.op = true) ∧
    ∀ (i j : Nat) (oi oj : Oper) (t : Tmp), ops[i]? = some oi → ops[j]? = some oj → oi.dst = some t → t ∈ namesOf ops oj → i = j ∨ Bf ops i j ∨ Bf ops j i := by
  have key : ∀ j o, ops[j]? = some o → drawable1 ops (Region.before ops).toList j o = true := fun j o ho => by
    have := List.all_eq_true.1 h (o, j) (List.mem_zipIdx_iff_getElem?.2 (by simpa using ho))
    exact this
  refine ⟨fun j o ho e he hb => ?_, fun j o ho => ?_, fun i j oi oj t hi hj hd ht => ?_⟩
  · have := key j o ho
    simp only [drawable1, Bool.and_eq_true] at this
    have := List.all_eq_true.1 this.1.2 e (by simpa using he)
    simpa [hb] using this
  · have := key j o ho
    simp only [drawable1, Bool.and_eq_true] at this
    exact this.1.1
  · have := key j oj hj
    simp only [drawable1, Bool.and_eq_true] at this
    have := List.all_eq_true.1 (List.all_eq_true.1 this.2 t ht) (oi, i) (List.mem_zipIdx_iff_getElem?.2 (by simpa using hi))
    simp [hd] at this
    exact ordered_spec this
end
section
variable {C : Ctx} {b : Frame} {K : FrameMode → List Frame} {u : FrameMode} {G : Gh} {st : St} {w : World} {fr : Fr} {a : Act}
theorem put_n {v : AV} {d : Option Tmp} : (fr.put d v).n = fr.n := by
  cases d with
  | none => rfl
  | some d => simp only [Fr.put]; split <;> rfl
theorem tr_sits (hC : CtxOk C) {calls : Nat → CallF} (hcall : ∀ j, CallsOk C (calls j)) (hct : CtOk b K) {ro : Option Nat} {mu : Bool} {ops : Array Oper} {fr' : Fr} {st' : St} {info : List Info} {F : Nat → Fr} {H : Nat → Nat → AO} {N : Nat → Nat} {I : Nat → Info}
    (t : Tr calls C mu ro.isSome ops 0 fr st fr' st' info F H N I) (hplain : ∀ (j : Nat) (o : Oper), ops[j]? = some o → plainOp o.op = true) (hs : Sit C G st w b fr a u) (hro : RoRel G b ro) :
    ∀ j, j ≤ ops.size → (∃ G w a, Sit C G ⟨H j, N j, []⟩ w b (F j) a u ∧ RoRel G b ro) ∧ ∀ i, i < j → ∀ o : Oper, ops[i]? = some o →
      (∃ v, F (i + 1) = (F i).put o.dst v) ∧ N i ≤ N (i + 1) ∧ ∀ l, l < N i → l ∉ (I i).log → H (i + 1) l = H i l := by
  intro j
  induction j with
  | zero =>
    intro _
    refine ⟨⟨G, w, a, ?_, hro⟩, fun i hi => absurd hi (Nat.not_lt_zero _)⟩
    rw [t.f0, t.h0, t.n0]
    exact hs.log []
  | succ j ih =>
    intro hj
    obtain ⟨⟨G1, w1, a1, hs1, hro1⟩, ih2⟩ := ih (by omega)
    obtain ⟨o, ho⟩ : ∃ o, ops[j]? = some o := ⟨_, Array.getElem?_eq_getElem (show j < ops.size by omega)⟩
    have fact : (∃ G w a, Sit C G ⟨H (j + 1), N (j + 1), []⟩ w b (F (j + 1)) a u ∧ RoRel G b ro) ∧ (∃ v, F (j + 1) = (F j).put o.dst v) ∧ N j ≤ N (j + 1) ∧ ∀ l, l < N j → l ∉ (I j).log → H (j + 1) l = H j l := by
      rcases t.step j o (Nat.zero_le _) ho with ⟨h1, h2, h3, h4, h5⟩ | ⟨h1, lg, h2, h3, h4⟩
      · refine ⟨⟨G1, w1, a1.put o.dst undef, ?_, hro1⟩, ⟨undefA, h2⟩, by omega, fun l _ _ => by rw [h3]⟩
        rw [h2, h3, h4]
        exact hs1.put VR.undef o.dst
      · obtain ⟨v, q, w', G', ls, e1, e2, e3, e4, e5⟩ := runOp_step (rest := []) (k := []) (K := K) hC (hcall j) hct ho (wanted_sound hs1.frs h1) hs1 hro1 (hplain j o ho) h2
        refine ⟨⟨G', w', a1.put o.dst q, ?_, hro1.ext e3.ext⟩, ⟨v, e1⟩, e3.next, fun l hl hn => ?_⟩
        · rw [e1]
          exact ((hs1.ext e3).put e2 o.dst).log []
        · refine e3.keep l hl fun hm => hn ?_
          rw [h3]
          simp at e4
          rw [e4]; exact hm
    refine ⟨fact.1, fun i hi o' ho' => ?_⟩
    by_cases hij : i = j
    · subst hij
      rw [ho] at ho'; cases ho'
      exact fact.2
    · exact ih2 i (by omega) o' ho'
theorem road_of (hC : CtxOk C) {calls : Nat → CallF} (hcall : ∀ j, CallsOk C (calls j)) (hct : CtOk b K) {ro : Option Nat} {mu : Bool} {ops : Array Oper} {fr' : Fr} {st' : St} {info : List Info}
    (hs : Sit C G st w b fr a u) (hro : RoRel G b ro) (hrun : runDraw calls C mu ro.isSome ops 0 ops.toList fr st = some (fr', st', info)) (hord : orderOk st.next (Region.before ops).toList info 0 info = true) (hdr : drawable ops = true) :
    ∃ F H N I V, RgRoad calls C mu ro.isSome ops fr st F H N I V ∧ F ops.size = fr' ∧ H ops.size = st'.heap ∧ N ops.size = st'.next ∧ ∃ lgs, st'.log = lgs ++ st.log ∧ ∀ j, j < ops.size → ∀ l ∈ (I j).log, l ∈ lgs := by
  obtain ⟨d1, d2, d3⟩ := drawable_spec hdr
  obtain ⟨F, H, N, I, t⟩ := runDraw_tr ops.toList 0 fr st fr' st' info (Nat.zero_le _) rfl hrun
  have facts := (tr_sits hC hcall hct t d2 hs hro ops.size (Nat.le_refl _)).2
  have hinfo : ∀ i, i < ops.size → info[i]? = some (I i) := fun i hi => by rw [t.info]; simp [hi]
  have hV : ∃ V : Nat → AV, ∀ (j : Nat) (o : Oper), ops[j]? = some o → F (j + 1) = (F j).put o.dst (V j) := by
    have : ∀ j, ∃ v, ∀ o : Oper, ops[j]? = some o → F (j + 1) = (F j).put o.dst v := fun j => by
      cases ho : ops[j]? with
      | none => exact ⟨.any, fun _ h => by cases h⟩
      | some o =>
        obtain ⟨v, hv⟩ := (facts j (Array.getElem?_eq_some_iff.1 ho).1 o ho).1
        exact ⟨v, fun o' h => by cases h; exact hv⟩
    exact ⟨fun j => (this j).choose, fun j o ho => (this j).choose_spec o ho⟩
  obtain ⟨V, hV⟩ := hV
  have get : ∀ j, j < ops.size → ∃ o, ops[j]? = some o := fun j hj => ⟨_, Array.getElem?_eq_getElem hj⟩
  have lohi : ∀ c, c < ops.size → ((I c).lo = N c ∧ (I c).hi = N (c + 1)) ∨ ((I c).hi = 0 ∧ N (c + 1) = N c) := fun c hc => by
    obtain ⟨o, ho⟩ := get c hc
    rcases t.step c o (Nat.zero_le _) ho with ⟨_, _, _, h4, h5⟩ | ⟨_, lg, _, h3, _⟩
    · exact .inr ⟨by rw [h5], h4⟩
    · exact .inl ⟨by rw [h3], by rw [h3]⟩
  have meet_pre : ∀ j l, j < ops.size → (mayMeet st.next ((Region.before ops).toList.getD j 0) l 0 info = true ↔ preOf ops N j l) := fun j l hj => by
    rw [mayMeet_spec]
    unfold preOf
    rw [t.n0]
    refine or_congr Iff.rfl ⟨?_, ?_⟩
    · rintro ⟨i, x, h1, h2, h3, h4⟩
      rw [Nat.zero_add] at h4
      have hb : Bf ops i j := h4
      have hi := Nat.lt_trans (hb.lt d1) hj
      rw [hinfo i hi] at h1; cases h1
      rcases lohi i hi with ⟨e1, e2⟩ | ⟨e1, e2⟩
      · exact ⟨i, hb, by omega, by omega⟩
      · omega
    · rintro ⟨c, hb, h1, h2⟩
      have hc := Nat.lt_trans (hb.lt d1) hj
      rcases lohi c hc with ⟨e1, e2⟩ | ⟨e1, e2⟩
      · exact ⟨c, _, hinfo c hc, by omega, by omega, by rw [Nat.zero_add]; exact hb⟩
      · omega
  have hspec := fun i (hi : i < ops.size) => orderOk_spec 0 info hord i _ (hinfo i hi)
  have hpair : ∀ i j, i < ops.size → j < ops.size → (∃ l, l ∈ (I i).log) → meets st.next info ((Region.before ops).toList.getD j 0) (I i).log (I j) = true → i = j ∨ Bf ops i j ∨ Bf ops j i := fun i j hi hj ⟨l, hl⟩ hm => by
    rcases hspec i hi with h | ⟨_, h⟩
    · rw [h] at hl; cases hl
    · have := orderOk1_spec 0 info h j _ (hinfo j hj)
      rw [Nat.zero_add, Nat.zero_add] at this
      exact ordered_spec (this hm)
  refine ⟨F, H, N, I, V, ?_, t.fm, t.hm, t.nm, by obtain ⟨lgs, e1, e2⟩ := t.log; exact ⟨lgs, e1, fun j hj => e2 j (Nat.zero_le _) hj⟩⟩
  exact {
    fwd := d1, plain := d2, d1 := d3, f0 := t.f0, h0 := t.h0, n0 := t.n0, f := hV
    o1 := fun i j l hi hj hl hr hp => hpair i j hi hj ⟨l, hl⟩ (by
      simp only [meets, hr, List.any_eq_true]
      exact ⟨l, hl, (meet_pre j l hj).2 hp⟩)
    o2 := fun i j l rs hi hj hl hr hp => hpair i j hi hj ⟨l, hl⟩ (by
      simp only [meets, hr, List.any_eq_true]
      exact ⟨l, hp, l, hl, by simp⟩)
    o3 := fun i l hi hl => by
      rcases hspec i hi with h | ⟨h, _⟩
      · rw [h] at hl; cases hl
      · rw [Nat.zero_add] at h; exact (meet_pre i l hi).1 (h l hl)
    n := fun j hj => by obtain ⟨o, ho⟩ := get j hj; exact (facts j hj o ho).2.1
    keep := fun j hj => by obtain ⟨o, ho⟩ := get j hj; exact (facts j hj o ho).2.2
    log := fun j hj l hl => by
      obtain ⟨o, ho⟩ := get j hj
      rcases t.step j o (Nat.zero_le _) ho with ⟨_, _, _, _, h5⟩ | ⟨_, lg, _, h3, h4⟩
      · rw [h5] at hl; cases hl
      · rw [h3] at hl; exact h4 l hl
    step := fun j o ho => t.step j o (Nat.zero_le _) ho }
end
end Go.AE

namespace Go.AE
open Go
open Classical in
noncomputable def Gh.cut (G : Gh) (p : Nat → Prop) : Gh := ⟨fun l => if p l then G.loc l else none, G.K, G.base⟩
theorem Gh.cut_some {G : Gh} {p : Nat → Prop} {l : Nat} {L : Loc} : (G.cut p).loc l = some L ↔ p l ∧ G.loc l = some L := by
  simp only [Gh.cut]
  by_cases h : p l <;> simp [h]
theorem Gh.cut_mono {G : Gh} {p q : Nat → Prop} (h : ∀ l, p l → q l) (w : World) : Ext (G.cut p) w (G.cut q) w :=
  ⟨fun l L e => by rw [Gh.cut_some] at e ⊢; exact ⟨h l e.1, e.2⟩, fun _ _ h => h, fun _ _ _ => rfl⟩
theorem Gh.cut_ext {G : Gh} {p : Nat → Prop} (w : World) : Ext (G.cut p) w G w :=
  ⟨fun l L e => (Gh.cut_some.1 e).2, fun _ _ h => h, fun _ _ _ => rfl⟩
theorem ObjRel.same {C : Ctx} {G G' : Gh} {w : World} {L : Loc} {o : AO} (he : Ext G w G' w) (hK : ∀ b o, G'.K b o → G.K b o) (h : ObjRel C G w L o) : ObjRel C G' w L o :=
  h.keep he rfl fun o => hK _ o
section
variable {ops : Array Oper}
def Ut (ops : Array Oper) (n : Nat) (V : Nat → AV) (t : Nat) : Nat → Option (AV × Option Nat) := fun i =>
  match ops[i]? with | some o => if o.dst = some t ∧ t < n then some (V i, some i) else none | none => none
open Classical in
noncomputable def Uh (ops : Array Oper) (H : Nat → Nat → AO) (N : Nat → Nat) (I : Nat → Info) (l : Nat) : Nat → Option (AO × Option Nat) := fun i =>
  if i < ops.size ∧ (l ∈ (I i).log ∨ (N i ≤ l ∧ l < N (i + 1))) then some (H (i + 1) l, some i) else none
end
section
variable {C : Ctx} {ops : Array Oper} {calls : Nat → CallF} {mu ro : Bool} {fr : Fr} {st : St} {F : Nat → Fr} {H : Nat → Nat → AO} {N : Nat → Nat} {I : Nat → Info} {V : Nat → AV}
theorem RgRoad.mono (r : RgRoad calls C mu ro ops fr st F H N I V) : ∀ {i j : Nat}, i ≤ j → j ≤ ops.size → N i ≤ N j := by
  intro i j h
  induction h with
  | refl => intro _; exact Nat.le_refl _
  | step h ih => intro hj; exact Nat.le_trans (ih (by omega)) (r.n _ (by omega))
theorem RgRoad.maker (r : RgRoad calls C mu ro ops fr st F H N I V) {c d l : Nat} (hc : c < ops.size) (hd : d < ops.size) (h1 : N c ≤ l) (h2 : l < N (c + 1)) (h3 : N d ≤ l) (h4 : l < N (d + 1)) : c = d := by
  rcases Nat.lt_trichotomy c d with h | h | h
  · have := r.mono (i := c + 1) (j := d) (by omega) (by omega); omega
  · exact h
  · have := r.mono (i := d + 1) (j := c) (by omega) (by omega); omega
theorem RgRoad.pre_lt (r : RgRoad calls C mu ro ops fr st F H N I V) {j l : Nat} (hj : j < ops.size) (h : preOf ops N j l) : l < N j := by
  rcases h with h | ⟨c, hb, h1, h2⟩
  · have := r.mono (i := 0) (j := j) (by omega) (by omega); omega
  · have := r.mono (i := c + 1) (j := j) (hb.lt r.fwd) (by omega); omega
theorem RgRoad.fn (r : RgRoad calls C mu ro ops fr st F H N I V) : ∀ j, j ≤ ops.size → (F j).n = fr.n := by
  intro j
  induction j with
  | zero => intro _; rw [r.f0]
  | succ j ih => intro hj; rw [r.f j _ (Array.getElem?_eq_getElem (show j < ops.size by omega)), put_n, ih (by omega)]
theorem RgRoad.fd (r : RgRoad calls C mu ro ops fr st F H N I V) : ∀ j, j ≤ ops.size → (F j).defs = fr.defs ∧ (F j).pv = fr.pv := by
  intro j
  induction j with
  | zero => intro _; rw [r.f0]; exact ⟨rfl, rfl⟩
  | succ j ih => intro hj; rw [r.f j _ (Array.getElem?_eq_getElem (show j < ops.size by omega)), frput_defs.1, frput_defs.2]; exact ih (by omega)
theorem RgRoad.ft (r : RgRoad calls C mu ro ops fr st F H N I V) (t : Nat) : ∀ j, j ≤ ops.size → (F j).tmps t = (rp (Ut ops fr.n V t) (fr.tmps t, none) (fun _ => true) j).1 := by
  intro j
  induction j with
  | zero => intro _; rw [r.f0]; rfl
  | succ j ih =>
    intro hj
    have ho := Array.getElem?_eq_getElem (show j < ops.size by omega)
    have hn := r.fn j (by omega)
    rw [r.f j _ ho]
    simp only [rp, if_true, Ut, ho]
    cases hd : ops[j].dst with
    | none => simp only [Fr.put]; simp [ih (by omega), Ut]
    | some d =>
      simp only [Fr.put, hn]
      by_cases hdn : d < fr.n
      · rw [if_pos hdn]
        by_cases hdt : t = d
        · subst hdt; simp [upd, hdn]
        · have : ¬ d = t := fun h => hdt h.symm
          simp [upd, hdt, this, ih (by omega), Ut]
      · rw [if_neg hdn, ih (by omega)]
        have : ¬ (some d = some t ∧ t < fr.n) := fun h => hdn (Option.some.inj h.1 ▸ h.2)
        rw [if_neg this]; rfl
theorem RgRoad.ht (r : RgRoad calls C mu ro ops fr st F H N I V) (l : Nat) : ∀ j, j ≤ ops.size → l < N j → H j l = (rp (Uh ops H N I l) (st.heap l, none) (fun _ => true) j).1 := by
  intro j
  induction j with
  | zero => intro _ _; rw [r.h0]; rfl
  | succ j ih =>
    intro hj hl
    simp only [rp, if_true]
    by_cases hu : j < ops.size ∧ (l ∈ (I j).log ∨ (N j ≤ l ∧ l < N (j + 1)))
    · simp only [Uh]; rw [if_pos hu]; rfl
    · have e : Uh ops H N I l j = none := by simp only [Uh]; rw [if_neg hu]
      rw [e]
      simp only [not_and, not_or] at hu
      have := hu (by omega)
      have hlt : l < N j := by
        rcases Nat.lt_or_ge l (N j) with h | h
        · exact h
        · exact absurd hl (this.2 h)
      rw [r.keep j (by omega) l hlt this.1]
      exact ih (by omega) hlt
end
end Go.AE

namespace Go.AE
open Go
section
variable {C : Ctx} {ops : Array Oper} {calls : Nat → CallF} {mu ro : Bool} {fr : Fr} {st : St} {F : Nat → Fr} {H : Nat → Nat → AO} {N : Nat → Nat} {I : Nat → Info} {V : Nat → AV}
noncomputable def tpOf (ops : Array Oper) (fr : Fr) (V : Nat → AV) (S : Nat → Bool) (t : Nat) : AV × Option Nat := rp (Ut ops fr.n V t) (fr.tmps t, none) S ops.size
noncomputable def hpOf (ops : Array Oper) (st : St) (H : Nat → Nat → AO) (N : Nat → Nat) (I : Nat → Info) (S : Nat → Bool) (l : Nat) : AO × Option Nat := rp (Uh ops H N I l) (st.heap l, none) S ops.size
structure RgInv (C : Ctx) (ops : Array Oper) (fr : Fr) (st : St) (H : Nat → Nat → AO) (N : Nat → Nat) (I : Nat → Info) (V : Nat → AV) (G0 : Gh) (w0 : World) (a0 : Act) (ALL : List Nat) (S : Nat → Bool) (G : Gh) (w : World) (a : Act) : Prop where
  closed : ∀ j, S j = true → ∀ i, Bf ops i j → S i = true
  dom : ∀ l L, G.loc l = some L → l < N 0 ∨ ∃ c, S c = true ∧ c < ops.size ∧ N c ≤ l ∧ l < N (c + 1)
  loc0 : ∀ l, l < N 0 → G.loc l = G0.loc l
  obj : ∀ l L, G.loc l = some L → L.blk < w.heap.size ∧ G.base ≤ L.blk ∧ ObjRel C (G.cut (ownOf ops N (hpOf ops st H N I S l).2)) w L (hpOf ops st H N I S l).1
  sep : ∀ l1 l2 L1 L2, G.loc l1 = some L1 → G.loc l2 = some L2 → alive (hpOf ops st H N I S l1).1 → alive (hpOf ops st H N I S l2).1 → L1.blk = L2.blk → l1 = l2
  kold : ∀ b o, G.K b o → b < w.heap.size
  base : G.base = G0.base
  ext0 : Ext G0 w0 (G.cut (· < N 0)) w
  size : w0.heap.size ≤ w.heap.size
  tsize : a.tmps.size = fr.n
  tmp : ∀ t, VR (G.cut (ownOf ops N (tpOf ops fr V S t).2)) w (tpOf ops fr V S t).1 (a.tmps.getD t undef)
  dfs : a.defers = a0.defers
  frame : ∀ b, b < w0.heap.size → ¬ Touches G0 ALL b → w.heap[b]? = w0.heap[b]?
  newloc : ∀ l L, G0.loc l = none → G.loc l = some L → N 0 ≤ l ∧ (w0.heap.size ≤ L.blk ∨ Touches G0 ALL L.blk)
  newK : ∀ b o, G.K b o → G0.K b o ∨ w0.heap.size ≤ b ∨ Touches G0 ALL b
  tape : w.tape = w0.tape
  os : w.os = w0.os
  output : w.output = w0.output
theorem own_pre {i j : Nat} (hf : Forward ops) (h : Bf ops i j) {l : Nat} (hl : ownOf ops N (some i) l) : preOf ops N j l := by
  rcases hl with hl | ⟨c, hc | hc, h1⟩
  · exact .inl hl
  · subst hc; exact .inr ⟨c, h, h1⟩
  · exact .inr ⟨c, hc.trans hf h, h1⟩
theorem alive_iff {o : AO} : alive o ↔ o.isDead = false := by cases o <;> simp [alive, AO.isDead]
theorem RgInv.seen (r : RgRoad calls C mu ro ops fr st F H N I V) {G0 : Gh} {w0 : World} {a0 : Act} {ALL : List Nat} {S : Nat → Bool} {G : Gh} {w : World} {a : Act}
    (v : RgInv C ops fr st H N I V G0 w0 a0 ALL S G w a) {j : Nat} {o : Oper} (ho : ops[j]? = some o) (hnot : S j = false) (hpre : ∀ i, Bf ops i j → S i = true) {t : Nat} (ht : t ∈ namesOf ops o) :
    VR (G.cut (preOf ops N j)) w ((F j).tmps t) (a.tmps.getD t undef) := by
  have hj := (Array.getElem?_eq_some_iff.1 ho).1
  have sees : ∀ i, (Ut ops fr.n V t i).isSome = true → ∃ oi, ops[i]? = some oi ∧ oi.dst = some t := fun i hi => by
    simp only [Ut] at hi
    cases ho' : ops[i]? with
    | none => rw [ho'] at hi; cases hi
    | some oi =>
      rw [ho'] at hi
      simp only at hi
      split at hi
      · rename_i h; exact ⟨oi, rfl, h.1⟩
      · cases hi
  have bf : ∀ i, S i = true → (Ut ops fr.n V t i).isSome = true → Bf ops i j := fun i hS hi => by
    obtain ⟨oi, h1, h2⟩ := sees i hi
    rcases r.d1 i j oi o t h1 ho h2 ht with h | h | h
    · subst h; rw [hnot] at hS; cases hS
    · exact h
    · have := v.closed i hS j h; rw [hnot] at this; cases this
  have e : tpOf ops fr V S t = rp (Ut ops fr.n V t) (fr.tmps t, none) (fun _ => true) j := by
    refine rp_agree ops.size (by omega) (fun i hi hu => ?_) fun i hi hi2 hu => ?_
    · obtain ⟨oi, h1, h2⟩ := sees i hu
      rcases r.d1 i j oi o t h1 ho h2 ht with h | h | h
      · omega
      · exact hpre i h
      · have := h.lt r.fwd; omega
    · cases hS : S i with
      | false => rfl
      | true => have := (bf i hS hu).lt r.fwd; omega
  have hv := v.tmp t
  have he := r.ft t j (by omega)
  rw [he, ← e]
  refine hv.ext (Gh.cut_mono (fun l hl => ?_) w)
  rcases rp_cases (U := Ut ops fr.n V t) (x := (fr.tmps t, none)) (S := S) ops.size with h | ⟨i, h1, h2, h3⟩
  · have : (tpOf ops fr V S t).2 = none := by unfold tpOf; rw [h]
    rw [this] at hl
    exact .inl hl
  · have htag : (tpOf ops fr V S t).2 = some i := by
      have : Ut ops fr.n V t i = some (tpOf ops fr V S t) := h3
      simp only [Ut] at this
      split at this
      · split at this
        · rw [← Option.some.inj this]
        · cases this
      · cases this
    rw [htag] at hl
    exact own_pre r.fwd (bf i h2 (by rw [h3]; rfl)) hl
theorem RgInv.met (r : RgRoad calls C mu ro ops fr st F H N I V) {G0 : Gh} {w0 : World} {a0 : Act} {ALL : List Nat} {S : Nat → Bool} {G : Gh} {w : World} {a : Act}
    (v : RgInv C ops fr st H N I V G0 w0 a0 ALL S G w a) {j : Nat} (hj : j < ops.size) (hnot : S j = false) (hpre : ∀ i, Bf ops i j → S i = true) {l : Nat} (hl : preOf ops N j l)
    (hlook : ∀ i, i < ops.size → l ∈ (I i).log → i = j ∨ Bf ops i j ∨ Bf ops j i) :
    (hpOf ops st H N I S l).1 = H j l ∧ ∀ q, ownOf ops N (hpOf ops st H N I S l).2 q → preOf ops N j q := by
  have bf : ∀ i, (Uh ops H N I l i).isSome = true → i < j ∧ Bf ops i j ∨ i = j ∨ Bf ops j i := fun i hi => by
    simp only [Uh] at hi
    split at hi
    · rename_i h
      obtain ⟨h1, h2⟩ := h
      rcases h2 with h2 | ⟨h2, h3⟩
      · rcases hlook i h1 h2 with h | h | h
        · exact .inr (.inl h)
        · exact .inl ⟨h.lt r.fwd, h⟩
        · exact .inr (.inr h)
      · rcases hl with hl | ⟨c, hc, h4, h5⟩
        · have := r.mono (i := 0) (j := i) (by omega) (by omega); omega
        · have := r.maker h1 (Nat.lt_trans (hc.lt r.fwd) hj) h2 h3 h4 h5
          subst this
          exact .inl ⟨hc.lt r.fwd, hc⟩
    · cases hi
  have e : hpOf ops st H N I S l = rp (Uh ops H N I l) (st.heap l, none) (fun _ => true) j := by
    refine rp_agree ops.size (by omega) (fun i hi hu => ?_) fun i hi hi2 hu => ?_
    · rcases bf i hu with h | h | h
      · exact hpre i h.2
      · omega
      · have := h.lt r.fwd; omega
    · cases hS : S i with
      | false => rfl
      | true =>
        rcases bf i hu with h | h | h
        · omega
        · subst h; rw [hnot] at hS; cases hS
        · have := v.closed i hS j h; rw [hnot] at this; cases this
  refine ⟨by rw [e]; exact (r.ht l j (by omega) (r.pre_lt hj hl)).symm, fun q hq => ?_⟩
  rcases rp_cases (U := Uh ops H N I l) (x := (st.heap l, none)) (S := S) ops.size with h | ⟨i, h1, h2, h3⟩
  · have : (hpOf ops st H N I S l).2 = none := by unfold hpOf; rw [h]
    rw [this] at hq
    exact .inl hq
  · have htag : (hpOf ops st H N I S l).2 = some i := by
      have : Uh ops H N I l i = some (hpOf ops st H N I S l) := h3
      simp only [Uh] at this
      split at this
      · rw [← Option.some.inj this]
      · cases this
    rw [htag] at hq
    rcases bf i (by rw [h3]; rfl) with h | h | h
    · exact own_pre r.fwd h.2 hq
    · subst h; rw [hnot] at h2; cases h2
    · have := v.closed i h2 j h; rw [hnot] at this; cases this
end
end Go.AE

namespace Go.AE
open Go
section
variable {C : Ctx} {mu ro : Bool} {fr fr' : Fr} {o : Oper} {st st' st2 : St}
theorem readsA_congr (h : ∀ x ∈ o.op.operands, oval C fr x = oval C fr' x) : readsA C fr o = readsA C fr' o := by
  unfold readsA
  cases hop : o.op <;> rw [hop] at h <;> simp only [Op.operands] at h <;> try rfl
  case load t a => simp only [h a (by simp)]
  case lookup t m k ok => simp only [h m (by simp)]
  case store t a x => simp only [h a (by simp)]
theorem runOp_reads {call : CallF} {rs : List Nat} (hrd : readsA C fr o = some rs) (h : runOp call C mu ro o fr st = some (.norm, fr', st')) (hn : st2.next = st.next) (hh : ∀ l ∈ rs, st2.heap l = st.heap l) :
    ∃ v st2', fr' = fr.put o.dst v ∧ runOp call C mu ro o fr st2 = some (.norm, fr', st2') ∧ SameStepW rs st st' st2 st2' := by
  unfold runOp at h ⊢
  cases hop : opA C mu ro fr st o with
  | some q =>
    obtain ⟨v, s1, s2, e1, e2, e3⟩ := reads_frame hrd hop hn hh
    subst e1
    rw [hop] at h
    simp only [Option.some.injEq, Prod.mk.injEq, true_and] at h
    obtain ⟨rfl, rfl⟩ := h
    exact ⟨v, s2, rfl, by rw [e2], e3⟩
  | none =>
    exfalso
    rw [hop] at h
    simp only [callA] at h
    unfold readsA at hrd
    cases hc : o.op <;> rw [hc] at h hrd <;> simp only [] at h hrd <;> first | (cases h; done) | skip
    rename_i c
    obtain ⟨cc, ca, ct⟩ := c
    cases cc <;> simp [quietOp, calleeA] at h hrd
end
section
variable {C : Ctx} {ops : Array Oper} {calls : Nat → CallF} {mu : Bool} {ro : Option Nat} {fr : Fr} {st : St} {F : Nat → Fr} {H : Nat → Nat → AO} {N : Nat → Nat} {I : Nat → Info} {V : Nat → AV}
variable {G0 : Gh} {w0 : World} {a0 : Act} {ALL : List Nat} {S : Nat → Bool} {G : Gh} {w : World} {a : Act}
theorem oval_names {o : Oper} {fr fr' : Fr} (h : ∀ t ∈ namesOf ops o, fr.tmps t = fr'.tmps t) : ∀ x ∈ o.op.operands, oval C fr x = oval C fr' x := fun x hx => by
  cases x with
  | tmp t =>
    refine h t ?_
    simp only [namesOf, tmpsOf, List.mem_append, List.mem_filterMap]
    exact .inl (.inr ⟨.tmp t, by simpa using hx, rfl⟩)
  | _ => rfl
theorem wantedA_names {o : Oper} {fr fr' : Fr} (h : ∀ t ∈ namesOf ops o, fr.tmps t = fr'.tmps t) : wantedA ops fr o = wantedA ops fr' o := by
  unfold wantedA
  cases hg : o.guard with
  | none => rfl
  | some jw =>
    obtain ⟨j, want⟩ := jw
    simp only
    cases hd : (ops[j]?).bind (·.dst) with
    | none => rfl
    | some d =>
      have : d ∈ namesOf ops o := by simp [namesOf, hg, hd]
      simp only [h d this]
def andS (S : Nat → Bool) (j : Nat) : Nat → Bool := fun i => i == j || S i
theorem andS_self {j : Nat} : andS S j j = true := by simp [andS]
theorem andS_ne {i j : Nat} (h : i ≠ j) : andS S j i = S i := by simp [andS, h]
theorem RgInv.put (r : RgRoad calls C mu ro.isSome ops fr st F H N I V) (v : RgInv C ops fr st H N I V G0 w0 a0 ALL S G w a) {j : Nat} {o : Oper} (ho : ops[j]? = some o) (hnot : S j = false)
    {G' : Gh} {w' : World} (he : ∀ tag, Ext (G.cut (ownOf ops N tag)) w (G'.cut (ownOf ops N tag)) w') {q : Value} (hq : ∀ t, o.dst = some t → t < fr.n → VR (G'.cut (ownOf ops N (some j))) w' (V j) q) :
    ∀ t, VR (G'.cut (ownOf ops N (tpOf ops fr V (andS S j) t).2)) w' (tpOf ops fr V (andS S j) t).1 ((a.put o.dst q).tmps.getD t undef) := by
  intro t
  have hj := (Array.getElem?_eq_some_iff.1 ho).1
  by_cases hd : o.dst = some t ∧ t < fr.n
  · obtain ⟨h1, h2⟩ := hd
    have hu : Ut ops fr.n V t j = some (V j, some j) := by simp only [Ut, ho]; rw [if_pos ⟨h1, h2⟩]
    have e : tpOf ops fr V (andS S j) t = (V j, some j) := by
      refine rp_put_some andS_self hu ops.size hj fun i hi hi2 hS => ?_
      rw [andS_ne (by omega)] at hS
      simp only [Ut]
      rw [Array.getElem?_eq_getElem hi2]
      simp only
      rw [if_neg]
      rintro ⟨hd, _⟩
      rcases r.d1 i j _ o t (Array.getElem?_eq_getElem hi2) ho hd (by simp [namesOf, h1]) with h | h | h
      · omega
      · have := h.lt r.fwd; omega
      · have := v.closed i hS j h; rw [hnot] at this; cases this
    rw [e]
    have : (a.put o.dst q).tmps.getD t undef = q := by
      rw [h1]
      simp [Act.put, Array.getD_eq_getD_getElem?, v.tsize, h2]
    rw [this]
    exact hq t h1 h2
  · have hu : Ut ops fr.n V t j = none := by simp only [Ut, ho]; rw [if_neg hd]
    have e : tpOf ops fr V (andS S j) t = tpOf ops fr V S t := rp_put_none (fun i hi => andS_ne hi) hu _
    rw [e]
    have : (a.put o.dst q).tmps.getD t undef = a.tmps.getD t undef := by
      cases hdst : o.dst with
      | none => rfl
      | some d =>
        simp only [Act.put, Array.getD_eq_getD_getElem?, Array.getElem?_setIfInBounds]
        by_cases hdt : d = t
        · subst hdt
          have : ¬ d < a.tmps.size := by rw [v.tsize]; exact fun h => hd ⟨hdst, h⟩
          rw [if_pos rfl, if_neg this, Array.getElem?_eq_none (Nat.le_of_not_lt this)]
        · rw [if_neg hdt]
    rw [this]
    exact (v.tmp t).ext (he _)
theorem put_size {q : Value} {d : Option Tmp} : (a.put d q).tmps.size = a.tmps.size := by cases d <;> simp [Act.put]
theorem RgInv.closed_and (v : RgInv C ops fr st H N I V G0 w0 a0 ALL S G w a) {j : Nat} (hpre : ∀ i, Bf ops i j → S i = true) : ∀ k, andS S j k = true → ∀ i, Bf ops i k → andS S j i = true := fun k hk i hi => by
  simp only [andS, Bool.or_eq_true, beq_iff_eq] at hk ⊢
  rcases hk with rfl | hk
  · exact .inr (hpre i hi)
  · exact .inr (v.closed k hk i hi)
theorem RgInv.skip (r : RgRoad calls C mu ro.isSome ops fr st F H N I V) (v : RgInv C ops fr st H N I V G0 w0 a0 ALL S G w a) {j : Nat} {o : Oper} (ho : ops[j]? = some o) (hnot : S j = false) (hpre : ∀ i, Bf ops i j → S i = true)
    (h2 : F (j + 1) = (F j).put o.dst undefA) (h4 : N (j + 1) = N j) (h5 : (I j).log = []) : RgInv C ops fr st H N I V G0 w0 a0 ALL (andS S j) G w (a.put o.dst undef) := by
  have hj := (Array.getElem?_eq_some_iff.1 ho).1
  have hp : ∀ l, hpOf ops st H N I (andS S j) l = hpOf ops st H N I S l := fun l => by
    refine rp_put_none (fun i hi => andS_ne hi) ?_ _
    simp only [Uh]
    rw [if_neg]
    rw [h5]
    rintro ⟨_, h | h⟩
    · cases h
    · omega
  have hV : ∀ t, o.dst = some t → t < fr.n → V j = undefA := fun t h1 hlt => by
    have e := r.f j o ho
    rw [h2, h1] at e
    have := congrArg (fun f => Fr.tmps f t) e
    simp only [Fr.put, r.fn j (by omega), if_pos hlt, upd_same] at this
    exact this.symm
  exact {
    closed := v.closed_and hpre
    dom := fun l L hl => by
      rcases v.dom l L hl with h | ⟨c, h1, h2⟩
      · exact .inl h
      · exact .inr ⟨c, by simp [andS, h1], h2⟩
    loc0 := v.loc0
    obj := fun l L hl => by rw [hp]; exact v.obj l L hl
    sep := fun l1 l2 L1 L2 => by rw [hp, hp]; exact v.sep l1 l2 L1 L2
    kold := v.kold, base := v.base, ext0 := v.ext0, size := v.size
    tsize := by rw [put_size]; exact v.tsize
    tmp := v.put r ho hnot (fun _ => Ext.refl _ _) fun t h1 hlt => by rw [hV t h1 hlt]; exact VR.undef
    dfs := by rw [put_defers]; exact v.dfs
    frame := v.frame, newloc := v.newloc, newK := v.newK, tape := v.tape, os := v.os, output := v.output }
end
end Go.AE

namespace Go.AE
open Go
section
variable {C : Ctx} {b : Frame} {K : FrameMode → List Frame} {k : List Item} {u : FrameMode}
variable {ops : Array Oper} {calls : Nat → CallF} {mu : Bool} {ro : Option Nat} {fr : Fr} {st : St} {F : Nat → Fr} {H : Nat → Nat → AO} {N : Nat → Nat} {I : Nat → Info} {V : Nat → AV}
variable {G0 : Gh} {w0 : World} {a0 : Act} {ALL : List Nat} {S : Nat → Bool} {G : Gh} {w : World} {a : Act}
theorem RgInv.step (hC : CtxOk C) (hcall : ∀ j, CallsOk C (calls j)) (hct : CtOk b K) (hs0 : Sit C G0 st w0 b fr a0 u) (hro : RoRel G0 b ro) (hALL : ∀ j, j < ops.size → ∀ l ∈ (I j).log, l ∈ ALL)
    (r : RgRoad calls C mu ro.isSome ops fr st F H N I V) (v : RgInv C ops fr st H N I V G0 w0 a0 ALL S G w a) {j : Nat} {o : Oper} (ho : ops[j]? = some o) (hnot : S j = false) (hpre : ∀ i, Bf ops i j → S i = true) {rest : List Nat} :
    ∃ G' w' a', RgInv C ops fr st H N I V G0 w0 a0 ALL (andS S j) G' w' a' ∧
      Steps C.P (lone (fa b a (.inRegion ops (j :: rest) :: k)) (K u) w) (lone (fa b a' (.inRegion ops rest :: k)) (K u) w') := by
  have hj := (Array.getElem?_eq_some_iff.1 ho).1
  have n0j : N 0 ≤ N j := r.mono (Nat.zero_le _) (by omega)
  -- what the operation may see
  have hcut0 : Ext G0 w0 (G.cut (preOf ops N j)) w := v.ext0.trans (Gh.cut_mono (fun l hl => .inl hl) w)
  have seen := fun {t : Nat} (ht : t ∈ namesOf ops o) => v.seen r ho hnot hpre ht
  obtain ⟨frj, hfrj⟩ : ∃ frj : Fr, frj = { F j with tmps := fun t => if t ∈ namesOf ops o then (F j).tmps t else .any } := ⟨_, rfl⟩
  have fn : frj.n = fr.n := by rw [hfrj]; exact r.fn j (by omega)
  have fdefs : frj.defs = fr.defs := by rw [hfrj]; exact (r.fd j (by omega)).1
  have fpv : frj.pv = fr.pv := by rw [hfrj]; exact (r.fd j (by omega)).2
  have ftm : ∀ t, t ∈ namesOf ops o → (F j).tmps t = frj.tmps t := fun t ht => by rw [hfrj]; simp [ht]
  have hfr : FrRel (G.cut (preOf ops N j)) w frj a.tmps := ⟨by rw [fn]; exact v.tsize, fun t => by
    by_cases ht : t ∈ namesOf ops o
    · rw [← ftm t ht]; exact seen ht
    · have : frj.tmps t = .any := by rw [hfrj]; simp [ht]
      rw [this]; exact .any _⟩
  have hdfs : DefsRel (G.cut (preOf ops N j)) w frj.defs a.defers := by rw [fdefs, v.dfs]; exact hs0.dfs.ext hcut0
  have hpvs : PvRel (G.cut (preOf ops N j)) w b.kind frj.pv u := by rw [fpv]; exact hs0.pvs.ext hcut0
  have hop := oval_names (C := C) ftm
  rcases r.step j o ho with ⟨h1, h2, _, h4, h5⟩ | ⟨h1, lg, h2, h3, h4⟩
  · refine ⟨G, w, _, v.skip r ho hnot hpre h2 h4 (by rw [h5]), ?_⟩
    rw [wantedA_names ftm] at h1
    exact fa_op_skip ho (wanted_sound hfr h1)
  -- the operation from the state of the road, its temporaries cut down
  have hplain := r.plain j o ho
  have hrun : ∃ vv, F (j + 1) = (F j).put o.dst vv ∧ runOp (calls j) C mu ro.isSome o frj ⟨H j, N j, []⟩ = some (.norm, frj.put o.dst vv, ⟨H (j + 1), N (j + 1), lg⟩) := by
    have hpv : (F j).pv = frj.pv := by rw [hfrj]
    rcases runOp_congr (call := calls j) hop hpv (fun d st' => (opA_plain hplain).1 d st') (opA_plain hplain).2 h2 with ⟨vv, st1, e1, e2⟩ | ⟨vv, st1, e1, e2⟩
    · simp only [Prod.mk.injEq, true_and] at e1
      obtain ⟨e1, rfl⟩ := e1
      exact ⟨vv, e1, e2⟩
    · simp at e1
  obtain ⟨vv, hFv, hrun⟩ := hrun
  have hVv : ∀ t, o.dst = some t → t < fr.n → V j = vv := fun t h1 hlt => by
    have e := r.f j o ho
    rw [hFv, h1] at e
    have := congrArg (fun f => Fr.tmps f t) e
    simp only [Fr.put, r.fn j (by omega), if_pos hlt, upd_same] at this
    exact this.symm
  have hlog : (I j).log = lg := by rw [h3]
  have hrd : (I j).rd = readsA C (F j) o := by rw [h3]
  have hrd' : readsA C (F j) o = readsA C frj o := readsA_congr hop
  have hlg : ∀ l ∈ lg, l < N j ∧ (H j l).isDead = false ∧ preOf ops N j l ∧ (∀ i, i < ops.size → l ∈ (I i).log → i = j ∨ Bf ops i j ∨ Bf ops j i) ∨ (I j).rd ≠ none := fun l hl => by
    by_cases hn : (I j).rd = none
    · left
      have hp := r.o3 j l hj (by rw [hlog]; exact hl)
      exact ⟨(h4 l hl).1, (h4 l hl).2, hp, fun i hi hm => r.o1 i j l hi hj hm hn hp⟩
    · exact .inr hn
  -- a state that fits what may be seen
  have hst : ∃ st2 st2' : St, st2.next = N j ∧ st2.log = [] ∧ st2'.next = N (j + 1) ∧ st2'.log = lg ∧ runOp (calls j) C mu ro.isSome o frj st2 = some (.norm, frj.put o.dst vv, st2') ∧
      (∀ l L, preOf ops N j l → G.loc l = some L → ObjRel C (G.cut (preOf ops N j)) w L (st2.heap l) ∧ (alive (st2.heap l) → alive (hpOf ops st H N I S l).1)) ∧
      (∀ l, l ∈ lg ∨ (N j ≤ l ∧ l < N (j + 1)) → st2'.heap l = H (j + 1) l) ∧ (∀ l ∈ lg, alive (H j l) ∧ preOf ops N j l ∧ (∀ i, i < ops.size → l ∈ (I i).log → i = j ∨ Bf ops i j ∨ Bf ops j i)) := by
    have good : ∀ l, preOf ops N j l → (∀ i, i < ops.size → l ∈ (I i).log → i = j ∨ Bf ops i j ∨ Bf ops j i) → ∀ L, G.loc l = some L → ObjRel C (G.cut (preOf ops N j)) w L (H j l) ∧ (alive (H j l) → alive (hpOf ops st H N I S l).1) := fun l hp hlook L hL => by
      obtain ⟨e1, e2⟩ := v.met r hj hnot hpre hp hlook
      have := (v.obj l L hL).2.2
      rw [e1] at this
      exact ⟨this.same (Gh.cut_mono e2 w) (fun _ _ h => h), fun ha => by rw [e1]; exact ha⟩
    cases hq : readsA C (F j) o with
    | none =>
      rw [hq] at hrd
      refine ⟨⟨H j, N j, []⟩, ⟨H (j + 1), N (j + 1), lg⟩, rfl, rfl, rfl, rfl, hrun, fun l L hp hL => good l hp (fun i hi hm => r.o1 i j l hi hj hm hrd hp) L hL, fun _ _ => rfl, fun l hl => ?_⟩
      rcases hlg l hl with ⟨x1, x2, x3, x4⟩ | hne
      · exact ⟨alive_iff.2 x2, x3, x4⟩
      · exact absurd hrd hne
    | some rs =>
      rw [hq] at hrd
      have hq' : readsA C frj o = some rs := by rw [← hrd']; exact hq
      obtain ⟨v1, st2', e1, e2, e3⟩ := runOp_reads (st2 := ⟨fun l => if l ∈ rs then H j l else .dead, N j, []⟩) hq' hrun rfl (fun l hl => by simp [hl])
      have shape : st2'.next = N (j + 1) ∧ st2'.log = lg ∧ (∀ l ∈ lg, l ∈ rs) ∧ (∀ l, l ∈ lg ∨ (N j ≤ l ∧ l < N (j + 1)) → st2'.heap l = H (j + 1) l) := by
        rcases e3 with (⟨f1, f2⟩ | ⟨ob, f1, f2⟩) | ⟨p, ob, f0, f1, f2⟩
        · simp only [St.mk.injEq] at f1
          obtain ⟨g1, g2, g3⟩ := f1
          subst f2
          refine ⟨g2.symm, g3.symm, fun l hl => by rw [g3] at hl; simp at hl, fun l hl => ?_⟩
          rcases hl with hl | hl
          · rw [g3] at hl; simp at hl
          · omega
        · simp only [St.push, St.mk.injEq] at f1
          obtain ⟨g1, g2, g3⟩ := f1
          subst f2
          refine ⟨g2.symm, g3.symm, fun l hl => by rw [g3] at hl; simp at hl, fun l hl => ?_⟩
          rcases hl with hl | hl
          · rw [g3] at hl; simp at hl
          · have : l = N j := by omega
            subst this
            simp only [St.push, g1, upd_same]
        · simp only [St.set, St.mk.injEq] at f1
          obtain ⟨g1, g2, g3⟩ := f1
          subst f2
          refine ⟨g2.symm, g3.symm, fun l hl => by rw [g3] at hl; simp at hl; subst hl; exact f0, fun l hl => ?_⟩
          rcases hl with hl | hl
          · rw [g3] at hl
            simp at hl
            subst hl
            simp only [St.set, g1, upd_same]
          · omega
      obtain ⟨s1, s2, s3, s4⟩ := shape
      have look : ∀ l ∈ rs, ∀ i, i < ops.size → l ∈ (I i).log → i = j ∨ Bf ops i j ∨ Bf ops j i := fun l hl i hi hm => r.o2 i j l rs hi hj hm hrd hl
      refine ⟨_, st2', rfl, rfl, s1, s2, e2, fun l L hp hL => ?_, s4, fun l hl => ⟨alive_iff.2 (h4 l hl).2, r.o3 j l hj (by rw [hlog]; exact hl), look l (s3 l hl)⟩⟩
      by_cases hl : l ∈ rs
      · simp only [if_pos hl]
        exact good l hp (look l hl) L hL
      · simp only [if_neg hl]
        exact ⟨trivial, fun h => h.elim⟩
  obtain ⟨st2, st2', n2, l2, n2', l2', hrun2, hobj2, hnew2, hlg2⟩ := hst
  have hrel : Rel C (G.cut (preOf ops N j)) st2 w := {
    obj := fun l L hl => by
      obtain ⟨hp, hL⟩ := Gh.cut_some.1 hl
      obtain ⟨x1, x2, _⟩ := v.obj l L hL
      exact ⟨by rw [n2]; exact r.pre_lt hj hp, x1, x2, (hobj2 l L hp hL).1⟩
    sep := fun l1 l2 L1 L2 h1 h2 a1 a2 hb => by
      obtain ⟨p1, q1⟩ := Gh.cut_some.1 h1
      obtain ⟨p2, q2⟩ := Gh.cut_some.1 h2
      exact v.sep l1 l2 L1 L2 q1 q2 ((hobj2 l1 L1 p1 q1).2 a1) ((hobj2 l2 L2 p2 q2).2 a2) hb
    kold := v.kold
    glob := fun g cs h => (hs0.rel.glob g cs h).ext hcut0
    low := by show G.base ≤ _; rw [v.base]; exact Nat.le_trans hs0.rel.low v.size }
  have hsit : Sit C (G.cut (preOf ops N j)) st2 w b frj a u := ⟨hrel, hfr, hdfs, hpvs⟩
  rw [wantedA_names ftm] at h1
  obtain ⟨v1, q, w', G', ls, e1, e2, e3, e4, e5⟩ := runOp_step (k := k) (rest := rest) hC (hcall j) hct ho (wanted_sound hfr h1) hsit (hro.ext hcut0) hplain hrun2
  rw [l2', l2, List.append_nil] at e4
  subst e4
  have hv1 : ∀ t, o.dst = some t → t < fr.n → V j = v1 := fun t h1 hlt => by
    rw [hVv t h1 hlt]
    rw [h1] at e1
    have := congrArg (fun f => Fr.tmps f t) e1
    simp only [Fr.put, fn, if_pos hlt, upd_same] at this
    exact this
  -- the new ghost
  have hnotin : ∀ l, N j ≤ l → l < N (j + 1) → G.loc l = none := fun l h1 h2 => by
    cases hL : G.loc l with
    | none => rfl
    | some L =>
      rcases v.dom l L hL with h | ⟨c, c1, c2, c3, c4⟩
      · omega
      · have := r.maker hj c2 h1 h2 c3 c4
        subst this; rw [hnot] at c1; cases c1
  obtain ⟨Gn, hGn⟩ : ∃ Gn : Gh, Gn = ⟨fun l => if N j ≤ l ∧ l < N (j + 1) then G'.loc l else G.loc l, G'.K, G.base⟩ := ⟨_, rfl⟩
  have gin : ∀ l, N j ≤ l → l < N (j + 1) → Gn.loc l = G'.loc l := fun l h1 h2 => by rw [hGn]; exact if_pos ⟨h1, h2⟩
  have gout : ∀ l, ¬ (N j ≤ l ∧ l < N (j + 1)) → Gn.loc l = G.loc l := fun l h => by rw [hGn]; exact if_neg h
  have gK : Gn.K = G'.K := by rw [hGn]
  have gpre : ∀ l, preOf ops N j l → G'.loc l = G.loc l := fun l hp => by
    cases hL : G.loc l with
    | some L => exact e3.ext.loc l L (Gh.cut_some.2 ⟨hp, hL⟩)
    | none =>
      cases hL' : G'.loc l with
      | none => rfl
      | some L' =>
        have hcn : (G.cut (preOf ops N j)).loc l = none := by
          cases hh : (G.cut (preOf ops N j)).loc l with
          | none => rfl
          | some L2 => rw [(Gh.cut_some.1 hh).2] at hL; cases hL
        have h1 := (e3.newloc l L' hcn hL').1
        have h2 := r.pre_lt hj hp
        omega
  have gof : ∀ l L, G'.loc l = some L → (preOf ops N j l ∧ G.loc l = some L) ∨ (N j ≤ l ∧ l < N (j + 1) ∧ (w.heap.size ≤ L.blk ∨ Touches (G.cut (preOf ops N j)) lg L.blk)) := fun l L hL => by
    cases hh : (G.cut (preOf ops N j)).loc l with
    | some L2 =>
      have := e3.ext.loc l L2 hh
      rw [hL] at this; cases this
      exact .inl (Gh.cut_some.1 hh)
    | none =>
      obtain ⟨x1, x2⟩ := e3.newloc l L hh hL
      have := (e3.rel.obj l L hL).1
      exact .inr ⟨by omega, by omega, x2⟩
  have prenot : ∀ l, preOf ops N j l → ¬ (N j ≤ l ∧ l < N (j + 1)) := fun l hp h => by have := r.pre_lt hj hp; omega
  -- from the old ghost to the new one, by tags
  have hext : ∀ tag, Ext (G.cut (ownOf ops N tag)) w (Gn.cut (ownOf ops N tag)) w' := fun tag => {
    loc := fun l L hl => by
      obtain ⟨p1, p2⟩ := Gh.cut_some.1 hl
      refine Gh.cut_some.2 ⟨p1, ?_⟩
      rw [gout l fun h => by rw [hnotin l h.1 h.2] at p2; cases p2]
      exact p2
    K := fun b o h => by show Gn.K b o; rw [gK]; exact e3.ext.K b o h
    cell := e3.ext.cell }
  have hext' : Ext G' w' (Gn.cut (ownOf ops N (some j))) w' := {
    loc := fun l L hl => by
      refine Gh.cut_some.2 ?_
      rcases gof l L hl with ⟨hp, hL⟩ | ⟨h1, h2, _⟩
      · refine ⟨?_, by rw [gout l (prenot l hp)]; exact hL⟩
        rcases hp with h | ⟨c, c1, c2⟩
        · exact .inl h
        · exact .inr ⟨c, .inr c1, c2⟩
      · exact ⟨.inr ⟨j, .inl rfl, h1, h2⟩, by rw [gin l h1 h2]; exact hl⟩
    K := fun b o h => by show Gn.K b o; rw [gK]; exact h
    cell := fun _ _ _ => rfl }
  -- heaps
  have hp_in : ∀ l, l ∈ lg ∨ (N j ≤ l ∧ l < N (j + 1)) → hpOf ops st H N I (andS S j) l = (H (j + 1) l, some j) := fun l hl => by
    have hu : Uh ops H N I l j = some (H (j + 1) l, some j) := by
      simp only [Uh]
      rw [if_pos ⟨hj, by rw [hlog]; exact hl⟩]
    refine rp_put_some andS_self hu ops.size hj fun i hi hi2 hS => ?_
    rw [andS_ne (by omega)] at hS
    simp only [Uh]
    rw [if_neg]
    rintro ⟨_, hm⟩
    have bad : Bf ops j i → False := fun h => by have := v.closed i hS j h; rw [hnot] at this; cases this
    rcases hl with hl | ⟨hl1, hl2⟩
    · obtain ⟨x1, x2, x3⟩ := hlg2 l hl
      rcases hm with hm | ⟨hm1, hm2⟩
      · rcases x3 i hi2 hm with h | h | h
        · omega
        · have := h.lt r.fwd; omega
        · exact bad h
      · have y1 := r.pre_lt hj x2
        have y2 := r.mono (i := j) (j := i) (by omega) (by omega)
        omega
    · rcases hm with hm | ⟨hm1, hm2⟩
      · rcases r.o3 i l hi2 hm with h | ⟨c, c1, c2, c3⟩
        · omega
        · have := r.maker hj (Nat.lt_trans (c1.lt r.fwd) hi2) hl1 hl2 c2 c3
          subst this
          exact bad c1
      · have := r.maker hj hi2 hl1 hl2 hm1 hm2
        omega
  have hp_out : ∀ l, ¬ (l ∈ lg ∨ (N j ≤ l ∧ l < N (j + 1))) → hpOf ops st H N I (andS S j) l = hpOf ops st H N I S l := fun l hl => by
    refine rp_put_none (fun i hi => andS_ne hi) ?_ _
    simp only [Uh]
    rw [if_neg]
    rw [hlog]
    exact fun h => hl h.2
  have alive_old : ∀ l L, G.loc l = some L → alive (hpOf ops st H N I (andS S j) l).1 → alive (hpOf ops st H N I S l).1 := fun l L hL ha => by
    by_cases hl : l ∈ lg
    · obtain ⟨x1, x2, x3⟩ := hlg2 l hl
      rw [(v.met r hj hnot hpre x2 x3).1]; exact x1
    · rw [hp_out l (by rintro (h | h); exact hl h; rw [hnotin l h.1 h.2] at hL; cases hL)] at ha
      exact ha
  have alive_ls : ∀ l ∈ lg, alive (hpOf ops st H N I S l).1 := fun l hl => by
    obtain ⟨x1, x2, x3⟩ := hlg2 l hl
    rw [(v.met r hj hnot hpre x2 x3).1]; exact x1
  -- objects that were not touched
  have hblk : ∀ l L, G.loc l = some L → l ∉ lg → alive (hpOf ops st H N I S l).1 → ¬ Touches (G.cut (preOf ops N j)) lg L.blk := fun l L hL hl ha ⟨l0, L0, m, hL0, hb⟩ => by
    have := v.sep l0 l L0 L (Gh.cut_some.1 hL0).2 hL (alive_ls l0 m) ha hb
    exact hl (this ▸ m)
  have touch0 : ∀ b, b < w0.heap.size → Touches (G.cut (preOf ops N j)) lg b → Touches G0 ALL b := fun b hb ⟨l0, L0, m, hL0, hb0⟩ => by
    have hL := (Gh.cut_some.1 hL0).2
    cases hg : G0.loc l0 with
    | some L1 =>
      have := (hs0.rel.obj l0 L1 hg).1
      have e := v.loc0 l0 (by rw [r.n0]; exact this)
      rw [hL, hg] at e; cases e
      exact ⟨l0, L0, hALL j hj l0 (by rw [hlog]; exact m), hg, hb0⟩
    | none =>
      rcases (v.newloc l0 L0 hg hL).2 with h | h
      · omega
      · rw [hb0] at h; exact h
  refine ⟨Gn, w', a.put o.dst q, ?_, e5⟩
  exact {
    closed := v.closed_and hpre
    dom := fun l L hl => by
      by_cases h : N j ≤ l ∧ l < N (j + 1)
      · exact .inr ⟨j, andS_self, hj, h.1, h.2⟩
      · rw [gout l h] at hl
        rcases v.dom l L hl with h | ⟨c, c1, c2⟩
        · exact .inl h
        · exact .inr ⟨c, by simp [andS, c1], c2⟩
    loc0 := fun l hl => by rw [gout l (by omega)]; exact v.loc0 l hl
    obj := fun l L hl => by
      by_cases h : N j ≤ l ∧ l < N (j + 1)
      · rw [gin l h.1 h.2] at hl
        obtain ⟨x1, x2, x3, x4⟩ := e3.rel.obj l L hl
        rw [hp_in l (.inr h)]
        refine ⟨x2, by rw [hGn]; rw [e3.base] at x3; exact x3, ?_⟩
        rw [hnew2 l (.inr h)] at x4
        exact x4.same hext' (fun b o hh => by rw [← gK]; exact hh)
      · rw [gout l h] at hl
        obtain ⟨x1, x2, x3⟩ := v.obj l L hl
        refine ⟨Nat.lt_of_lt_of_le x1 e3.size, by rw [hGn]; exact x2, ?_⟩
        by_cases hm : l ∈ lg
        · obtain ⟨_, hp, _⟩ := hlg2 l hm
          rw [hp_in l (.inl hm)]
          have x4 := (e3.rel.obj l L (by rw [gpre l hp]; exact hl)).2.2.2
          rw [hnew2 l (.inl hm)] at x4
          exact x4.same hext' (fun b o hh => by rw [← gK]; exact hh)
        · rw [hp_out l (by rintro (h1 | h1); exact hm h1; exact h h1)]
          by_cases ha : alive (hpOf ops st H N I S l).1
          · have hnt := hblk l L hl hm ha
            refine x3.keep (hext _) (e3.frame _ x1 hnt) fun o hk => ?_
            have hk' : G'.K L.blk o := by rw [← gK]; exact hk
            rcases e3.newK _ _ hk' with h1 | h1 | h1
            · exact h1
            · omega
            · exact absurd h1 hnt
          · cases ho : (hpOf ops st H N I S l).1 <;> simp [ho, alive] at ha
            trivial
    sep := fun l1 l2 L1 L2 h1 h2 a1 a2 hb => by
      have both : ∀ l L, Gn.loc l = some L → (N j ≤ l ∧ l < N (j + 1)) ∨ preOf ops N j l → G'.loc l = some L := fun l L hl hc => by
        rcases hc with hc | hc
        · rw [gin l hc.1 hc.2] at hl; exact hl
        · rw [gout l (prenot l hc)] at hl; rw [gpre l hc]; exact hl
      have mixed : ∀ l1 l2 L1 L2, Gn.loc l1 = some L1 → Gn.loc l2 = some L2 → alive (hpOf ops st H N I (andS S j) l1).1 → alive (hpOf ops st H N I (andS S j) l2).1 → L1.blk = L2.blk → (N j ≤ l1 ∧ l1 < N (j + 1)) → ¬ (N j ≤ l2 ∧ l2 < N (j + 1)) → l1 = l2 := fun l1 l2 L1 L2 h1 h2 a1 a2 hb c1 c2 => by
        have g1 := both l1 L1 h1 (.inl c1)
        rw [gout l2 c2] at h2
        have a2' := alive_old l2 L2 h2 a2
        rcases gof l1 L1 g1 with ⟨hp, _⟩ | ⟨_, _, hh | ⟨l0, L0, m, hL0, hb0⟩⟩
        · exact absurd c1 (prenot l1 hp)
        · have := (v.obj l2 L2 h2).1; omega
        · have e := v.sep l0 l2 L0 L2 (Gh.cut_some.1 hL0).2 h2 (alive_ls l0 m) a2' (by omega)
          subst e
          obtain ⟨_, hp, _⟩ := hlg2 l0 m
          refine e3.rel.sep l1 l0 L1 L2 g1 (by rw [gpre l0 hp]; exact h2) ?_ ?_ hb
          · rw [hnew2 l1 (.inr c1)]; rw [hp_in l1 (.inr c1)] at a1; exact a1
          · rw [hnew2 l0 (.inl m)]; rw [hp_in l0 (.inl m)] at a2; exact a2
      by_cases c1 : N j ≤ l1 ∧ l1 < N (j + 1)
      · by_cases c2 : N j ≤ l2 ∧ l2 < N (j + 1)
        · refine e3.rel.sep l1 l2 L1 L2 (both _ _ h1 (.inl c1)) (both _ _ h2 (.inl c2)) ?_ ?_ hb
          · rw [hnew2 l1 (.inr c1)]; rw [hp_in l1 (.inr c1)] at a1; exact a1
          · rw [hnew2 l2 (.inr c2)]; rw [hp_in l2 (.inr c2)] at a2; exact a2
        · exact mixed l1 l2 L1 L2 h1 h2 a1 a2 hb c1 c2
      · by_cases c2 : N j ≤ l2 ∧ l2 < N (j + 1)
        · exact (mixed l2 l1 L2 L1 h2 h1 a2 a1 hb.symm c2 c1).symm
        · rw [gout l1 c1] at h1
          rw [gout l2 c2] at h2
          exact v.sep l1 l2 L1 L2 h1 h2 (alive_old l1 L1 h1 a1) (alive_old l2 L2 h2 a2) hb
    kold := fun b o hk => e3.rel.kold b o (by rw [← gK]; exact hk)
    base := by rw [hGn]; exact v.base
    ext0 := v.ext0.trans (hext none)
    size := Nat.le_trans v.size e3.size
    tsize := by rw [put_size]; exact v.tsize
    tmp := v.put r ho hnot hext fun t h1 hlt => by rw [hv1 t h1 hlt]; exact e2.ext hext'
    dfs := by rw [put_defers]; exact v.dfs
    frame := fun b hb hn => by
      rw [e3.frame b (Nat.lt_of_lt_of_le hb v.size) fun t => hn (touch0 b hb t)]
      exact v.frame b hb hn
    newloc := fun l L hg hl => by
      by_cases h : N j ≤ l ∧ l < N (j + 1)
      · rw [gin l h.1 h.2] at hl
        refine ⟨by omega, ?_⟩
        rcases gof l L hl with ⟨hp, _⟩ | ⟨_, _, hh | hh⟩
        · exact absurd h (prenot l hp)
        · exact .inl (Nat.le_trans v.size hh)
        · by_cases hb : L.blk < w0.heap.size
          · exact .inr (touch0 _ hb hh)
          · exact .inl (by omega)
      · rw [gout l h] at hl; exact v.newloc l L hg hl
    newK := fun b o hk => by
      rcases e3.newK b o (by rw [← gK]; exact hk) with h | h | h
      · exact v.newK b o h
      · exact .inr (.inl (Nat.le_trans v.size h))
      · by_cases hb : b < w0.heap.size
        · exact .inr (.inr (touch0 _ hb h))
        · exact .inr (.inl (by omega))
    tape := e3.tape.trans v.tape
    os := e3.os.trans v.os
    output := e3.output.trans v.output }
end
end Go.AE

namespace Go.AE
open Go
section
variable {C : Ctx} {b : Frame} {K : FrameMode → List Frame} {k : List Item} {u : FrameMode}
variable {ops : Array Oper} {calls : Nat → CallF} {mu : Bool} {ro : Option Nat} {fr : Fr} {st : St} {F : Nat → Fr} {H : Nat → Nat → AO} {N : Nat → Nat} {I : Nat → Info} {V : Nat → AV}
variable {G0 : Gh} {w0 : World} {a0 : Act} {ALL : List Nat} {S : Nat → Bool} {G : Gh} {w : World} {a : Act}
theorem rg_start (r : RgRoad calls C mu ro.isSome ops fr st F H N I V) (hs0 : Sit C G0 st w0 b fr a0 u) : RgInv C ops fr st H N I V G0 w0 a0 ALL (fun _ => false) G0 w0 a0 := by
  have none_rp : ∀ {α : Type} (U : Nat → Option α) (x : α) (n : Nat), rp U x (fun _ => false) n = x := fun U x n => by
    induction n with
    | zero => rfl
    | succ n ih => simp [rp, ih]
  have hh : ∀ l, hpOf ops st H N I (fun _ => false) l = (st.heap l, none) := fun l => none_rp _ _ _
  have ht : ∀ t, tpOf ops fr V (fun _ => false) t = (fr.tmps t, none) := fun t => none_rp _ _ _
  have hcut : Ext G0 w0 (G0.cut (· < N 0)) w0 := ⟨fun l L h => Gh.cut_some.2 ⟨by rw [r.n0]; exact (hs0.rel.obj l L h).1, h⟩, fun _ _ h => h, fun _ _ _ => rfl⟩
  exact {
    closed := fun _ h => by cases h
    dom := fun l L h => .inl (by rw [r.n0]; exact (hs0.rel.obj l L h).1)
    loc0 := fun _ _ => rfl
    obj := fun l L h => by
      rw [hh]
      obtain ⟨x1, x2, x3, x4⟩ := hs0.rel.obj l L h
      exact ⟨x2, x3, x4.same hcut (fun _ _ h => h)⟩
    sep := fun l1 l2 L1 L2 h1 h2 => by rw [hh, hh]; exact hs0.rel.sep l1 l2 L1 L2 h1 h2
    kold := hs0.rel.kold, base := rfl, ext0 := hcut, size := Nat.le_refl _
    tsize := hs0.frs.size
    tmp := fun t => by rw [ht]; exact (hs0.frs.val t).ext hcut
    dfs := rfl
    frame := fun _ _ _ => rfl
    newloc := fun l L h1 h2 => by rw [h1] at h2; cases h2
    newK := fun _ _ h => .inl h
    tape := rfl, os := rfl, output := rfl }
theorem rg_run (hC : CtxOk C) (hcall : ∀ j, CallsOk C (calls j)) (hct : CtOk b K) (hs0 : Sit C G0 st w0 b fr a0 u) (hro : RoRel G0 b ro) (hALL : ∀ j, j < ops.size → ∀ l ∈ (I j).log, l ∈ ALL)
    (r : RgRoad calls C mu ro.isSome ops fr st F H N I V) : ∀ (fuel t : Nat) (listed : Array Bool) (U : List Nat) (G : Gh) (w : World) (a : Act), listed.size = ops.size → (∀ i, i < ops.size → listed.getD i true = false → i ∈ U) → U.length ≤ fuel →
      RgInv C ops fr st H N I V G0 w0 a0 ALL (fun i => listed.getD i false) G w a →
      ∃ G' w' a', RgInv C ops fr st H N I V G0 w0 a0 ALL (fun i => decide (i < ops.size)) G' w' a' ∧
        Steps C.P (lone (fa b a (.inRegion ops (Region.linearise.go .any ops fuel t listed []) :: k)) (K u) w) (lone (fa b a' k) (K u) w') := by
  intro fuel
  induction fuel with
  | zero =>
    intro t listed U G w a hsz hU hlen hv
    have hall : ∀ i, i < ops.size → listed.getD i true = true := fun i hi => by
      cases hq : listed.getD i true with
      | true => rfl
      | false =>
        have := List.length_pos_of_mem (hU i hi hq)
        omega
    have hS : (fun i => listed.getD i false) = fun i => decide (i < ops.size) := funext fun i => by
      by_cases hi : i < ops.size
      · have := hall i hi
        simp only [Array.getD_eq_getD_getElem?, Array.getElem?_eq_getElem (show i < listed.size by omega), Option.getD_some] at this ⊢
        rw [this]; simp [hi]
      · simp [Array.getD_eq_getD_getElem?, Array.getElem?_eq_none (show listed.size ≤ i by omega), hi]
    rw [lin_end hall]
    rw [hS] at hv
    exact ⟨G, w, a, hv, fa_region_end⟩
  | succ fuel ih =>
    intro t listed U G w a hsz hU hlen hv
    by_cases hex : ∃ i, i < ops.size ∧ listed.getD i true = false
    · obtain ⟨i, t', hmem, hgo⟩ := lin_step r.fwd hsz hex fuel t
      rw [hgo]
      obtain ⟨m1, o, m2, m3⟩ := mem_ready.1 hmem
      have hi := (Array.getElem?_eq_some_iff.1 m2).1
      have hnot : listed.getD i false = false := by
        simp only [Array.getD_eq_getD_getElem?, Array.getElem?_eq_getElem (show i < listed.size by omega), Option.getD_some] at m1 ⊢
        exact m1
      obtain ⟨G1, w1, a1, v1, s1⟩ := hv.step (k := k) hC hcall hct hs0 hro hALL r m2 hnot (fun q hq => Bf.closed m2 m3 hv.closed hq) (rest := Region.linearise.go .any ops fuel t' (listed.setIfInBounds i true) [])
      have hS : andS (fun i => listed.getD i false) i = fun q => (listed.setIfInBounds i true).getD q false := funext fun q => by
        simp only [andS, Array.getD_eq_getD_getElem?, Array.getElem?_setIfInBounds]
        by_cases hq : i = q
        · subst hq; simp [show i < listed.size by omega]
        · have : (q == i) = false := by simpa using fun h => hq h.symm
          simp [hq, this]
      rw [hS] at v1
      have hiU := hU i hi m1
      obtain ⟨G2, w2, a2, v2, s2⟩ := ih t' (listed.setIfInBounds i true) (U.erase i) G1 w1 a1 (by simpa using hsz) (fun q hq hl => by
        have hne : q ≠ i := fun h => by
          subst h
          simp [Array.getD_eq_getD_getElem?, Array.getElem?_setIfInBounds, show q < listed.size by omega] at hl
        have hl' : listed.getD q true = false := by
          simp only [Array.getD_eq_getD_getElem?, Array.getElem?_setIfInBounds, if_neg (Ne.symm hne)] at hl ⊢
          exact hl
        exact (List.mem_erase_of_ne hne).2 (hU q hq hl')) (by rw [List.length_erase_of_mem hiU]; omega) v1
      exact ⟨G2, w2, a2, v2, s1.trans s2⟩
    · have hall : ∀ i, i < ops.size → listed.getD i true = true := fun i hi => by
        cases hq : listed.getD i true with
        | true => rfl
        | false => exact absurd ⟨i, hi, hq⟩ hex
      have hS : (fun i => listed.getD i false) = fun i => decide (i < ops.size) := funext fun i => by
        by_cases hi : i < ops.size
        · have := hall i hi
          simp only [Array.getD_eq_getD_getElem?, Array.getElem?_eq_getElem (show i < listed.size by omega), Option.getD_some] at this ⊢
          rw [this]; simp [hi]
        · simp [Array.getD_eq_getD_getElem?, Array.getElem?_eq_none (show listed.size ≤ i by omega), hi]
      rw [lin_end hall]
      rw [hS] at hv
      exact ⟨G, w, a, hv, fa_region_end⟩
theorem rg_end (r : RgRoad calls C mu ro.isSome ops fr st F H N I V) (hs0 : Sit C G0 st w0 b fr a0 u) {lgs : List Nat} (hlgs : ∀ j, j < ops.size → ∀ l ∈ (I j).log, l ∈ lgs)
    (v : RgInv C ops fr st H N I V G0 w0 a0 lgs (fun i => decide (i < ops.size)) G w a) (lg : List Nat) :
    Ok C G0 st w0 lgs G ⟨H ops.size, N ops.size, lg⟩ w ∧ Sit C G ⟨H ops.size, N ops.size, lg⟩ w b (F ops.size) a u := by
  have all_rp : ∀ {α : Type} (U : Nat → Option α) (x : α), rp U x (fun i => decide (i < ops.size)) ops.size = rp U x (fun _ => true) ops.size := fun U x => by
    refine rp_agree ops.size (Nat.le_refl _) (fun i hi _ => by simpa using hi) fun i h1 h2 => by omega
  have hext : Ext G0 w0 G w := v.ext0.trans (Gh.cut_ext w)
  have hlt : ∀ l L, G.loc l = some L → l < N ops.size := fun l L hl => by
    rcases v.dom l L hl with h | ⟨c, _, h1, h2, h3⟩
    · have := r.mono (i := 0) (j := ops.size) (Nat.zero_le _) (Nat.le_refl _); omega
    · have := r.mono (i := c + 1) (j := ops.size) h1 (Nat.le_refl _); omega
  have hh : ∀ l, l < N ops.size → (hpOf ops st H N I (fun i => decide (i < ops.size)) l).1 = H ops.size l := fun l hl => by
    rw [r.ht l ops.size (Nat.le_refl _) hl]; unfold hpOf; rw [all_rp]
  have hrel : Rel C G ⟨H ops.size, N ops.size, lg⟩ w := {
    obj := fun l L hl => by
      obtain ⟨x1, x2, x3⟩ := v.obj l L hl
      rw [hh l (hlt l L hl)] at x3
      exact ⟨hlt l L hl, x1, x2, x3.same (Gh.cut_ext w) (fun _ _ h => h)⟩
    sep := fun l1 l2 L1 L2 h1 h2 a1 a2 => v.sep l1 l2 L1 L2 h1 h2 (by rw [hh l1 (hlt l1 L1 h1)]; exact a1) (by rw [hh l2 (hlt l2 L2 h2)]; exact a2)
    kold := v.kold
    glob := fun g cs h => (hs0.rel.glob g cs h).ext hext
    low := by rw [v.base]; exact Nat.le_trans hs0.rel.low v.size }
  refine ⟨{
    ext := hext, rel := hrel, base := v.base
    next := by have := r.mono (i := 0) (j := ops.size) (Nat.zero_le _) (Nat.le_refl _); rw [r.n0] at this; exact this
    size := v.size
    keep := fun l hl hn => by
      have : ∀ j, j ≤ ops.size → H j l = st.heap l := fun j => by
        induction j with
        | zero => intro _; rw [r.h0]
        | succ j ih =>
          intro hj
          have := r.mono (i := 0) (j := j) (Nat.zero_le _) (by omega)
          rw [r.n0] at this
          rw [r.keep j (by omega) l (by omega) fun h => hn (hlgs j (by omega) l h), ih (by omega)]
      exact this _ (Nat.le_refl _)
    frame := v.frame
    newloc := fun l L h1 h2 => by have := v.newloc l L h1 h2; rwa [r.n0] at this
    newK := v.newK, tape := v.tape, os := v.os, output := v.output }, hrel, ⟨by rw [v.tsize, r.fn _ (Nat.le_refl _)], fun t => ?_⟩, ?_, ?_⟩
  · have e : (tpOf ops fr V (fun i => decide (i < ops.size)) t).1 = (F ops.size).tmps t := by
      rw [r.ft t ops.size (Nat.le_refl _)]; unfold tpOf; rw [all_rp]
    rw [← e]
    exact (v.tmp t).ext (Gh.cut_ext w)
  · rw [(r.fd _ (Nat.le_refl _)).1, v.dfs]; exact hs0.dfs.ext hext
  · rw [(r.fd _ (Nat.le_refl _)).2]; exact hs0.pvs.ext hext
theorem region_draw_sound (hC : CtxOk C) (hcall : ∀ j, CallsOk C (calls j)) (hct : CtOk b K) {id : Nat} (hs : Sit C G st w b fr a u) (hro : RoRel G b ro) {fr' : Fr} {st' : St} {info : List Info}
    (hrun : runDraw calls C mu ro.isSome ops 0 ops.toList fr st = some (fr', st', info)) (hord : orderOk st.next (Region.before ops).toList info 0 info = true) (hdr : drawable ops = true) :
    Goes C b K k G st w (lone (fa b a (.code (.region id ops true) :: k)) (K u) w) (.norm, fr', st') := by
  refine Goes.head fa_region_draw ?_
  have hk : Ok C G st w [] G st { w with drawn := w.drawn + 1 } := Ok.same hs.rel rfl rfl rfl rfl
  refine Goes.bind hk rfl ?_
  have hs0 := hs.ext hk
  obtain ⟨F, H, N, I, V, r, e1, e2, e3, lgs, e4, e5⟩ := road_of hC hcall hct hs0 hro hrun hord hdr
  have hstart := rg_start (ALL := lgs) r hs0
  have hsch : ∀ q, Region.schedule (C.P.follows .mixedOrders) ops q = Region.linearise .any ops q := fun q => by simp [Region.schedule, hC.mixed]
  rw [hsch]
  have hget : ∀ (i : Nat) (d : Bool), (Array.replicate ops.size false).getD i d = if i < ops.size then false else d := fun i d => by
    by_cases hi : i < ops.size
    · simp [Array.getD_eq_getD_getElem?, Array.getElem?_replicate, hi]
    · simp [Array.getD_eq_getD_getElem?, Array.getElem?_replicate, hi]
  have hS : (fun i => (Array.replicate ops.size false).getD i false) = fun _ : Nat => false := funext fun i => by rw [hget]; split <;> rfl
  obtain ⟨G', w', a', v, s⟩ := rg_run (k := k) hC hcall hct hs0 hro e5 r ops.size (w.tape w.drawn (.order b.fn id)) (Array.replicate ops.size false) (List.range ops.size) G _ a (by simp) (fun i hi _ => by simpa using hi) (by simp) (by rw [hS]; exact hstart)
  obtain ⟨o1, o2⟩ := rg_end r hs0 e5 v st'.log
  rw [e2, e3] at o1 o2
  rw [e1] at o2
  exact ⟨a', u, w', G', lgs, _, o1, e4, o2, rfl, s⟩
theorem draw_ok (hC : CtxOk C) {call : CallF} (hcall : CallsOk C call) : DrawOk C call := by
  intro b mu ro id ops K k G st w u fr a out hct hs hro h
  unfold region at h
  rw [if_pos rfl] at h
  split at h
  · cases h
  · rename_i fr' st' info hrun
    split at h
    · rename_i hc
      cases h
      exact region_draw_sound hC (fun _ => hcall) hct hs hro hrun hc.1 hc.2
    · cases h
theorem callN_ok (hC : CtxOk C) (hX : XOk C) (lp : Nat → Option Nat) (n : Nat) : CallsOk C (callN C lp n) := callN_sound hC hX (fun _ hcall => draw_ok hC hcall) lp n
end
end Go.AE

namespace Go.AE
open Go
def CLe (c d : CallF) : Prop := ∀ t a k s r, c t a k s = some r → d t a k s = some r
structure Chain (c : Nat → CallF) (L : CallF) : Prop where
  up : ∀ n m, n ≤ m → CLe (c n) (c m)
  lim : ∀ t a k s r, L t a k s = some r → ∃ n, c n t a k s = some r
def Ev (p : Nat → Prop) : Prop := ∃ n, ∀ m, n ≤ m → p m
theorem Ev.pure {p : Nat → Prop} (h : ∀ m, p m) : Ev p := ⟨0, fun m _ => h m⟩
theorem Ev.and {p q : Nat → Prop} (h : Ev p) (k : Ev q) : Ev fun m => p m ∧ q m := by
  obtain ⟨a, ha⟩ := h
  obtain ⟨b, hb⟩ := k
  exact ⟨max a b, fun m hm => ⟨ha m (by omega), hb m (by omega)⟩⟩
theorem Ev.mono {p q : Nat → Prop} (h : Ev p) (k : ∀ m, p m → q m) : Ev q := by
  obtain ⟨a, ha⟩ := h
  exact ⟨a, fun m hm => k m (ha m hm)⟩
theorem Ev.and_mono {p q r : Nat → Prop} (h : Ev p) (k : Ev q) (f : ∀ m, p m → q m → r m) : Ev r := (h.and k).mono fun m ⟨a, b⟩ => f m a b
theorem Chain.ev {c : Nat → CallF} {L : CallF} (h : Chain c L) {t : Tgt} {a : List AV} {k : Knd} {s : St} {r : CR × St × Option AV} (hr : L t a k s = some r) : Ev fun m => c m t a k s = some r := by
  obtain ⟨n, hn⟩ := h.lim t a k s r hr
  exact ⟨n, fun m hm => h.up n m hm t a k s r hn⟩
theorem Chain.const {c : CallF} : Chain (fun _ => c) c := ⟨fun _ _ _ _ _ _ _ _ h => h, fun _ _ _ _ _ h => ⟨0, h⟩⟩
theorem CLe.chain {c d : CallF} (h : CLe c d) : Chain (fun _ => d) c := ⟨fun _ _ _ _ _ _ _ _ hr => hr, fun t a k s r hr => ⟨0, h t a k s r hr⟩⟩
theorem Ev.const {p : Prop} (h : Ev fun _ => p) : p := by obtain ⟨n, hn⟩ := h; exact hn n (Nat.le_refl _)
section
variable {C : Ctx} {mu ro : Bool}
theorem runOp_cont {c : Nat → CallF} {L : CallF} (h : Chain c L) {o : Oper} {fr : Fr} {st : St} {out : Out} (hr : runOp L C mu ro o fr st = some out) : Ev fun m => runOp (c m) C mu ro o fr st = some out := by
  unfold runOp at hr ⊢
  split at hr
  · exact .pure fun _ => hr
  · exact .pure fun _ => hr
  · exact .pure fun _ => hr
  · exact .pure fun _ => hr
  · unfold callA at hr ⊢
    split at hr
    · split at hr
      · split at hr
        · rename_i v s x hcl; exact (h.ev hcl).mono fun m e => by simp only [e]; exact hr
        · rename_i v s x hcl; exact (h.ev hcl).mono fun m e => by simp only [e]; exact hr
        · cases hr
      · cases hr
    · cases hr
theorem runOps_cont {c : Nat → CallF} {L : CallF} (h : Chain c L) {ops : Array Oper} : ∀ {l : List Oper} {fr : Fr} {st : St} {out : Out}, runOps L C mu ro ops l fr st = some out → Ev fun m => runOps (c m) C mu ro ops l fr st = some out
  | [], fr, st, out, hr => .pure fun _ => hr
  | o :: l, fr, st, out, hr => by
    simp only [runOps] at hr ⊢
    split at hr
    · cases hr
    · exact runOps_cont h hr
    · cases h1 : runOp L C mu ro o fr st with
      | none => rw [h1] at hr; cases hr
      | some o1 =>
        obtain ⟨e, fr1, st1⟩ := o1
        rw [h1] at hr
        by_cases he : e = .norm
        · subst he
          exact Ev.and_mono (runOp_cont h h1) (runOps_cont h hr) fun m e1 e2 => by simp only [e1]; exact e2
        · exact (runOp_cont h h1).mono fun m e1 => by
            simp only [e1]
            cases e with
            | norm => exact absurd rfl he
            | _ => exact hr
theorem runDraw_cont {c : Nat → CallF} {L : CallF} (h : Chain c L) {ops : Array Oper} : ∀ {l : List Oper} {i : Nat} {fr : Fr} {st : St} {out : Fr × St × List Info}, runDraw (fun _ => L) C mu ro ops i l fr st = some out → Ev fun m => runDraw (fun _ => c m) C mu ro ops i l fr st = some out
  | [], i, fr, st, out, hr => .pure fun _ => hr
  | o :: l, i, fr, st, out, hr => by
    simp only [runDraw] at hr ⊢
    split at hr
    · cases hr
    · split at hr
      · rename_i fr1 st1 info1 h1
        exact (runDraw_cont h h1).mono fun m e => by simp only [e]; exact hr
      · cases hr
    · cases h1 : runOp L C mu ro o fr ⟨st.heap, st.next, []⟩ with
      | none => rw [h1] at hr; cases hr
      | some o1 =>
        obtain ⟨e, fr1, st1⟩ := o1
        rw [h1] at hr
        cases e with
        | norm =>
          simp only at hr
          split at hr
          · rename_i hall
            split at hr
            · rename_i fr2 st2 info2 h2
              exact Ev.and_mono (runOp_cont h h1) (runDraw_cont h h2) fun m e1 e2 => by simp only [e1, if_pos hall, e2]; exact hr
            · cases hr
          · cases hr
        | _ => cases hr
theorem region_cont {c : Nat → CallF} {L : CallF} (h : Chain c L) {ops : Array Oper} {draw : Bool} {fr : Fr} {st : St} {out : Out} (hr : region L C mu ro ops draw fr st = some out) : Ev fun m => region (c m) C mu ro ops draw fr st = some out := by
  unfold region at hr ⊢
  cases draw with
  | false => exact runOps_cont h hr
  | true =>
    simp only [if_true] at hr ⊢
    split at hr
    · cases hr
    · rename_i fr1 st1 info1 h1
      exact (runDraw_cont h h1).mono fun m e => by simp only [e]; exact hr
theorem rangeLoop_cont {c : Nat → CallF} {L : CallF} (h : Chain c L) {self g : FuncId} {first captured : List AV} {params : List Tmp} {assign body : Code} {d : Nat} {fr : Fr} {st : St} {out : Out}
    (hr : rangeLoop L self g first captured params assign body d fr st = some out) : Ev fun m => rangeLoop (c m) self g first captured params assign body d fr st = some out := by
  unfold rangeLoop at hr ⊢
  split at hr
  · rename_i v s x hcl; exact (h.ev hcl).mono fun m e => by simp only [e]; exact hr
  · rename_i v s x hcl; exact (h.ev hcl).mono fun m e => by simp only [e]; exact hr
  · cases hr
theorem iter_more {f : Fr → St → Option Out} : ∀ {n : Nat} {fr : Fr} {st : St} {out : Out}, iter f n fr st = some out → ∀ {m : Nat}, n ≤ m → iter f m fr st = some out
  | 0, _, _, _, h, _, _ => by cases h
  | n + 1, fr, st, out, h, m, hm => by
    obtain ⟨k, rfl⟩ : ∃ k, m = k + 1 := ⟨m - 1, by omega⟩
    simp only [iter] at h ⊢
    cases hf : f fr st with
    | none => rw [hf] at h; cases h
    | some o1 =>
      obtain ⟨e, fr1, st1⟩ := o1
      rw [hf] at h
      cases e with
      | norm => exact iter_more h (by omega)
      | _ => exact h
theorem iterW_iff {f : Fr → St → Option Out} {fr : Fr} {st : St} {out : Out} : iterW f fr st = some out ↔ ∃ n, iter f n fr st = some out := by
  refine ⟨iterW_some, fun ⟨n, hn⟩ => ?_⟩
  have hx : ∃ out, ∃ n, iter f n fr st = some out := ⟨out, n, hn⟩
  unfold iterW
  rw [dif_pos hx]
  obtain ⟨m, hm⟩ := hx.choose_spec
  have h1 := iter_more hn (Nat.le_max_left n m)
  have h2 := iter_more hm (Nat.le_max_right n m)
  rw [h1] at h2
  exact h2.symm
theorem iterW_eq {f : Fr → St → Option Out} {fr : Fr} {st : St} : iterW f fr st = (match f fr st with | some (.norm, fr, st) => iterW f fr st | r => r) := by
  apply Option.ext
  intro out
  rw [iterW_iff]
  constructor
  · rintro ⟨n, hn⟩
    cases n with
    | zero => cases hn
    | succ n =>
      simp only [iter] at hn
      cases hf : f fr st with
      | none => rw [hf] at hn; cases hn
      | some o1 =>
        obtain ⟨e, fr1, st1⟩ := o1
        rw [hf] at hn
        cases e with
        | norm => exact iterW_iff.2 ⟨n, hn⟩
        | _ => exact hn
  · intro h
    cases hf : f fr st with
    | none => rw [hf] at h; cases h
    | some o1 =>
      obtain ⟨e, fr1, st1⟩ := o1
      rw [hf] at h
      cases e with
      | norm =>
        obtain ⟨n, hn⟩ := iterW_iff.1 h
        exact ⟨n + 1, by simp only [iter, hf]; exact hn⟩
      | _ => exact ⟨1, by simp only [iter, hf]; exact h⟩
theorem iter_cont {f : Fr → St → Option Out} {g : Nat → Fr → St → Option Out} (h : ∀ fr st out, f fr st = some out → Ev fun m => g m fr st = some out) : ∀ {n : Nat} {fr : Fr} {st : St} {out : Out}, iter f n fr st = some out → Ev fun m => iter (g m) n fr st = some out
  | 0, _, _, _, hr => by cases hr
  | n + 1, fr, st, out, hr => by
    simp only [iter] at hr ⊢
    cases hf : f fr st with
    | none => rw [hf] at hr; cases hr
    | some o1 =>
      obtain ⟨e, fr1, st1⟩ := o1
      rw [hf] at hr
      have h1 := h _ _ _ hf
      cases e with
      | norm => exact Ev.and_mono h1 (iter_cont h hr) fun m e1 e2 => by simp only [e1]; exact e2
      | _ => exact h1.mono fun m e1 => by simp only [e1]; exact hr
theorem iterO_cont {f : Fr → St → Option Out} {g : Nat → Fr → St → Option Out} (h : ∀ fr st out, f fr st = some out → Ev fun m => g m fr st = some out) {n : Option Nat} {fr : Fr} {st : St} {out : Out} (hr : iterO f n fr st = some out) : Ev fun m => iterO (g m) n fr st = some out := by
  cases n with
  | some n => exact iter_cont h hr
  | none =>
    obtain ⟨n, hn⟩ := iterW_iff.1 (show iterW f fr st = some out from hr)
    exact (iter_cont h hn).mono fun m e => iterW_iff.2 ⟨n, e⟩
theorem exec_cont {c : Nat → CallF} {L : CallF} (h : Chain c L) {n : Option Nat} {self : FuncId} {ro : Option Nat} : ∀ (cd : Code) {fr : Fr} {st : St} {out : Out}, exec L C n self ro cd fr st = some out → Ev fun m => exec (c m) C n self ro cd fr st = some out := by
  intro cd
  induction cd with
  | skip => intro fr st out hr; exact .pure fun _ => hr
  | label l => intro fr st out hr; exact .pure fun _ => hr
  | region id ops draw => intro fr st out hr; simp only [exec] at hr ⊢; exact region_cont h hr
  | seq a b iha ihb =>
    intro fr st out hr
    simp only [exec] at hr ⊢
    cases h1 : exec L C n self ro a fr st with
    | none => rw [h1] at hr; cases hr
    | some o1 =>
      obtain ⟨e, fr1, st1⟩ := o1
      rw [h1] at hr
      cases e with
      | norm => exact Ev.and_mono (iha h1) (ihb hr) fun m e1 e2 => by simp only [e1]; exact e2
      | _ => exact (iha h1).mono fun m e1 => by simp only [e1]; exact hr
  | cond x a b iha ihb =>
    intro fr st out hr
    simp only [exec] at hr ⊢
    split at hr
    · rename_i t ht
      cases t with
      | true => exact iha hr
      | false => exact ihb hr
    · cases hr
  | block id a iha =>
    intro fr st out hr
    simp only [exec] at hr ⊢
    cases h1 : exec L C n self ro a fr st with
    | none => rw [h1] at hr; cases hr
    | some o1 => rw [h1] at hr; exact (iha h1).mono fun m e1 => by simp only [e1]; exact hr
  | loop a iha => intro fr st out hr; simp only [exec] at hr ⊢; exact iterO_cont (fun fr st out h => iha h) hr
  | rangeFunc f params assign body _ _ =>
    intro fr st out hr
    simp only [exec] at hr ⊢
    split at hr
    · rename_i g first captured hf
      split at hr
      · cases hr
      · rename_i hg
        simp only [if_neg hg]
        split at hr
        · exact rangeLoop_cont h hr
        · split at hr
          · exact rangeLoop_cont h hr
          · cases hr
    · cases hr
  | exit id => intro fr st out hr; exact .pure fun _ => hr
  | goto l => intro fr st out hr; exact .pure fun _ => hr
  | ret => intro fr st out hr; exact .pure fun _ => hr
  | scope a _ => intro fr st out hr; cases hr
  | refuse t => intro fr st out hr; cases hr
theorem runDefs_cont {c : Nat → CallF} {L : CallF} (h : Chain c L) : ∀ {ds : List ADef} {pv : Option AV} {st : St} {out : Option AV × St}, runDefs L ds pv st = some out → Ev fun m => runDefs (c m) ds pv st = some out
  | [], _, _, _, hr => .pure fun _ => hr
  | ⟨none, l, x⟩ :: ds, pv, st, out, hr => by
    simp only [runDefs] at hr ⊢
    split at hr
    · exact runDefs_cont h hr
    · cases hr
  | ⟨some f, x, args⟩ :: ds, pv, st, out, hr => by
    simp only [runDefs] at hr ⊢
    split at hr
    · rename_i v s p hcl
      exact Ev.and_mono (h.ev hcl) (runDefs_cont h hr) fun m e1 e2 => by simp only [e1]; exact e2
    · cases hr
theorem finishFn_cont {c : Nat → CallF} {L : CallF} (h : Chain c L) {f : FuncId} {fi : FI} {kd : Knd} {st0 : St} {e : EX} {fr : Fr} {st1 : St} {out : CR × St × Option AV} (hr : finishFn L C f fi kd st0 e fr st1 = some out) : Ev fun m => finishFn (c m) C f fi kd st0 e fr st1 = some out := by
  unfold finishFn at hr ⊢
  split at hr
  · cases hr
  · rename_i pv he
    split at hr
    · cases hr
    · rename_i v st2 h1; exact (runDefs_cont h h1).mono fun m e1 => by simp only [e1]; exact hr
    · rename_i st2 h1; exact (runDefs_cont h h1).mono fun m e1 => by simp only [e1]; exact hr
theorem enterFn_cont {c : Nat → CallF} {L : CallF} (h : Chain c L) {n : Option Nat} {f : FuncId} {fi : FI} {args : List AV} {kd : Knd} {st : St} {out : CR × St × Option AV} (hr : enterFn L C n f fi args kd st = some out) : Ev fun m => enterFn (c m) C n f fi args kd st = some out := by
  unfold enterFn at hr ⊢
  split at hr
  · cases hr
  · rename_i e fr st1 h1
    exact Ev.and_mono (exec_cont h _ h1) (finishFn_cont h hr) fun m e1 e2 => by simp only [e1]; exact e2
theorem roundA_cont {c : Nat → CallF} {L : CallF} (h : Chain c L) {n : Option Nat} {l : Nat} {self : FuncId} {tmps : Nat → AV} {k : Nat} {params : List Tmp} {assign body : Code} {args : List AV} {st : St} {out : CR × St × Option AV}
    (hr : roundA L C n l self tmps k params assign body args st = some out) : Ev fun m => roundA (c m) C n l self tmps k params assign body args st = some out := by
  unfold roundA at hr ⊢
  split at hr
  · rename_i hc
    simp only [if_pos hc]
    cases h1 : exec L C n self (some l) assign ⟨setParams (params.zip args) k tmps, k, [], none⟩ st with
    | none => rw [h1] at hr; cases hr
    | some o1 =>
      obtain ⟨e, fr, st1⟩ := o1
      rw [h1] at hr
      cases e with
      | norm =>
        simp only at hr
        split at hr
        · rename_i s t m' p a b pe d hl
          cases h2 : exec L C n self (some l) body fr (st1.set l (.loop s t m' p a b .busy pe d)) with
          | none => rw [h2] at hr; cases hr
          | some o2 =>
            rw [h2] at hr
            exact Ev.and_mono (exec_cont h _ h1) (exec_cont h _ h2) fun m e1 e2 => by simp only [e1, hl, e2]; exact hr
        · cases hr
      | _ => cases hr
  · cases hr
end
end Go.AE

namespace Go.AE
open Go
section
variable {C : Ctx} {st : St}
theorem callN_up : ∀ n, CLe (callN C (fun _ => none) n) (callN C (fun _ => none) (n + 1))
  | 0 => fun t a k s r h => by cases t <;> cases h
  | n + 1 => by
    have ih := callN_up n
    intro t a k s r h
    cases t with
    | fn f =>
      simp only [callN] at h ⊢
      split at h
      · exact h
      · split at h
        · cases h
        · exact (enterFn_cont ih.chain h).const
    | yield l =>
      simp only [callN] at h ⊢
      split at h
      · exact (roundA_cont ih.chain h).const
      · cases h
theorem callN_le : ∀ {n m : Nat}, n ≤ m → CLe (callN C (fun _ => none) n) (callN C (fun _ => none) m) := by
  intro n m h
  induction h with
  | refl => exact fun _ _ _ _ _ h => h
  | step _ ih => exact fun t a k s r h => callN_up _ t a k s r (ih t a k s r h)
open Classical in
noncomputable def callW (C : Ctx) : CallF := fun t a k s => if h : ∃ r, ∃ n, callN C (fun _ => none) n t a k s = some r then some h.choose else none
theorem callW_iff {t : Tgt} {a : List AV} {k : Knd} {r : CR × St × Option AV} : callW C t a k st = some r ↔ ∃ n, callN C (fun _ => none) n t a k st = some r := by
  unfold callW
  constructor
  · intro h
    split at h
    · rename_i hx
      cases h
      exact hx.choose_spec
    · cases h
  · rintro ⟨n, hn⟩
    have hx : ∃ r, ∃ n, callN C (fun _ => none) n t a k st = some r := ⟨r, n, hn⟩
    rw [dif_pos hx]
    obtain ⟨m, hm⟩ := hx.choose_spec
    have h1 := callN_le (Nat.le_max_left n m) _ _ _ _ _ hn
    have h2 := callN_le (Nat.le_max_right n m) _ _ _ _ _ hm
    rw [h1] at h2
    exact h2.symm
theorem callW_chain : Chain (callN C (fun _ => none)) (callW C) := ⟨fun _ _ h => callN_le h, fun _ _ _ _ _ h => callW_iff.1 h⟩
theorem callW_ok (hC : CtxOk C) (hX : XOk C) : CallsOk C (callW C) := fun tgt args kd st r h => by
  obtain ⟨n, hn⟩ := callW_iff.1 h
  exact callN_ok hC hX _ n tgt args kd st r hn
theorem Ev.get {p : Nat → Prop} (h : Ev p) : ∃ n, p n := by obtain ⟨n, hn⟩ := h; exact ⟨n, hn n (Nat.le_refl _)⟩
theorem callW_X {f : FuncId} {args : List AV} {v : AV} {st' : St} (h : C.X f args st = some (v, st')) : callW C (.fn f) args .normal st = some (.ret v, st', none) :=
  callW_iff.2 ⟨1, by simp only [callN, h]⟩
theorem callW_fn {f : FuncId} {fi : FI} {args : List AV} {r : CR × St × Option AV} (hf : C.fn f = some fi) (hx : C.X f args st = none) (h : enterFn (callW C) C none f fi args .normal st = some r) : callW C (.fn f) args .normal st = some r := by
  obtain ⟨n, hn⟩ := (enterFn_cont callW_chain h).get
  exact callW_iff.2 ⟨n + 1, by simp only [callN, hx, hf]; exact hn⟩
theorem callW_yield {l : Nat} {args : List AV} {self : FuncId} {t : Nat → AV} {m : Nat} {p : List Tmp} {assign body : Code} {state : LoopState} {pe : Option Code} {d : Nat} {r : CR × St × Option AV} (ho : st.heap l = .loop self t m p assign body state pe d)
    (h : roundA (callW C) C none l self t m p assign body args st = some r) : callW C (.yield l) args .normal st = some r := by
  obtain ⟨n, hn⟩ := (roundA_cont callW_chain h).get
  exact callW_iff.2 ⟨n + 1, by simp only [callN, ho]; exact hn⟩
end
end Go.AE

namespace Go.AE
open Go
def isAggD : TypeDesc → Bool | .struct _ => true | .array _ _ => true | _ => false
def placesD (P : Program) : TypeDesc → List (Nat × Nat)
  | .struct fs => fs.toList.map fun f => (f.offset, ((P.info? f.type).map (·.size)).getD 0)
  | _ => []
def zeroOk (agg : Bool) (size : Nat) : Value → Bool
  | .agg cs => agg && cs.size == size
  | .tuple _ => false
  | _ => !agg && size == 1
def fieldsIn (P : Program) : TypeDesc → Bool
  | .struct fs => fs.toList.all fun f => (P.info? f.type).isSome
  | _ => true
def tyOf (P : Program) (t : Nat) : Option TI :=
  match P.info? t, P.underlying t with
  | some i, some u => (match i.zero with
    | some z => if zeroOk (isAggD u) i.size z && fieldsIn P u then some ⟨u, i.size, i.bytes, isAggD u, z.cells.toList.map ofCell, placesD P u⟩ else none
    | none => none)
  | _, _ => none
def fnOf (P : Program) (f : Nat) : Option FI :=
  match P.funcs[f]? with
  | some fn => (match fn.body with
    | some b => if (fn.name == "runtime.NumGoroutine") = true then none else some ⟨fn.ntmps, fn.results.toList, b⟩
    | none => none)
  | none => none
def ctxOf (P : Program) (X : FuncId → List AV → St → Option (AV × St)) (mu frz : FuncId → Bool) : Ctx := ⟨P, tyOf P, fnOf P, fun _ => none, X, mu, frz⟩
theorem tyOf_spec {P : Program} {t : Nat} {ti : TI} (h : tyOf P t = some ti) : ∃ i u z, P.info? t = some i ∧ P.underlying t = some u ∧ i.zero = some z ∧ zeroOk (isAggD u) i.size z = true ∧ fieldsIn P u = true ∧
    ti = ⟨u, i.size, i.bytes, isAggD u, z.cells.toList.map ofCell, placesD P u⟩ := by
  unfold tyOf at h
  split at h
  · rename_i i u hi hu
    split at h
    · rename_i z hz
      split at h
      · rename_i hc
        rw [Bool.and_eq_true] at hc
        cases h
        exact ⟨i, u, z, hi, hu, hz, hc.1, hc.2, rfl⟩
      · cases h
    · cases h
  · cases h
theorem cells_ofCell {G : Gh} {w : World} (z : Value) : VRs G w (z.cells.toList.map ofCell) z.cells.toList := by
  have := VRs.map (G := G) (w := w) (f := ofCell) (g := fun x => x) (l := z.cells.toList) (fun x _ => ofCell_sound G w x)
  simpa using this
theorem ctxOf_ok {P : Program} {X : FuncId → List AV → St → Option (AV × St)} {mu frz : FuncId → Bool} (hm : P.follows .mixedOrders = true) : CtxOk (ctxOf P X mu frz) where
  und := fun t ti h => by obtain ⟨i, u, z, h1, h2, h3, h4, h5, rfl⟩ := tyOf_spec h; exact h2
  info := fun t ti h => by
    obtain ⟨i, u, z, h1, h2, h3, h4, h5, rfl⟩ := tyOf_spec h
    refine ⟨i, h1, rfl, rfl, z, h3, ?_, fun G w => cells_ofCell z⟩
    cases z <;> simp_all [zeroOk, Value.cells]
  agg := fun t ti h => by obtain ⟨i, u, z, h1, h2, h3, h4, h5, rfl⟩ := tyOf_spec h; cases u <;> rfl
  places := fun t ti h fs hfs => by
    obtain ⟨i, u, z, h1, h2, h3, h4, h5, rfl⟩ := tyOf_spec h
    simp only at hfs
    subst hfs
    refine ⟨rfl, fun f hf => ?_⟩
    simp only [fieldsIn, List.all_eq_true] at h5
    exact h5 f hf
  fn := fun f fi h => by
    simp only [ctxOf, fnOf] at h
    split at h
    · rename_i fn hfn
      split at h
      · rename_i b hb
        split at h
        · cases h
        · rename_i hn
          cases h
          exact ⟨fn, hfn, hb, rfl, rfl, by simpa using hn⟩
      · cases h
    · cases h
  zv := fun t ti h => by
    obtain ⟨i, u, z, h1, h2, h3, h4, h5, rfl⟩ := tyOf_spec h
    have key : ∀ G w, VR G w (TI.zeroV ⟨u, i.size, i.bytes, isAggD u, z.cells.toList.map ofCell, placesD P u⟩) z ∧ (TI.zeroV ⟨u, i.size, i.bytes, isAggD u, z.cells.toList.map ofCell, placesD P u⟩).cells = z.cells.toList.map ofCell := fun G w => by
      cases z with
      | agg cs =>
        simp only [zeroOk, Bool.and_eq_true] at h4
        simp only [TI.zeroV, h4.1, if_true, AV.cells, and_true]
        exact VR.mkAgg (by simpa [Value.cells] using cells_ofCell (G := G) (w := w) (.agg cs))
      | tuple cs => simp [zeroOk] at h4
      | _ =>
        simp only [zeroOk, Bool.and_eq_true, Bool.not_eq_true'] at h4
        simp only [TI.zeroV, h4.1, Value.cells, List.map_cons, List.map_nil, List.headD_cons, Bool.false_eq_true, if_false]
        exact ⟨ofCell_sound G w _, by
          have : ∀ v : Value, (∀ cs, v ≠ .agg cs) → (ofCell v).cells = [ofCell v] := fun v hv => by
            unfold ofCell
            split <;> rfl
          exact this _ (by simp)⟩
    refine ⟨(key ⟨fun _ => none, fun _ _ => False, 0⟩ default).2, fun i' z' hi' hz' G w => ?_⟩
    have e1 : i' = i := Option.some.inj ((show P.info? t = some i' from hi').symm.trans h1)
    subst e1
    rw [h3] at hz'
    cases hz'
    exact (key G w).1
  mixed := hm
end Go.AE

namespace Go.AE
open Go
mutual
def bk {H : Type} : DataW H → Nat
  | .lit (.string bytes) => bytes.length + 1
  | .lit _ => 1
  | .nil => 1
  | .ptr d => bk d + 1
  | .slice elems spare => bkAll elems + bkAll spare + 1
  | .agg parts => bkAll parts + 1
  | .iface _ d => bk d + 1
  | .map entries => bkEntries entries + 1
  | .held _ => 1
def bkAll {H : Type} : List (DataW H) → Nat
  | [] => 0
  | d :: r => bk d + bkAll r
def bkEntries {H : Type} : List (Lit × DataW H) → Nat
  | [] => 0
  | x :: r => bkEntry x + bkEntries r
def bkEntry {H : Type} : Lit × DataW H → Nat
  | (.string bytes, d) => bytes.length + bk d + 1
  | (_, d) => bk d + 1
end
theorem bkAll_mem {H : Type} : ∀ {ds : List (DataW H)} {d : DataW H}, d ∈ ds → bk d ≤ bkAll ds
  | [], _, h => nomatch h
  | x :: r, d, h => by
    rw [bkAll]
    rcases List.mem_cons.1 h with rfl | h
    · omega
    · have := bkAll_mem h; omega
theorem bk_pos {H : Type} (d : DataW H) : 0 < bk d := by
  cases d with
  | lit l => cases l <;> simp [bk]
  | _ => simp [bk]
theorem bkAll_length {H : Type} : ∀ {ds : List (DataW H)}, ds.length ≤ bkAll ds
  | [] => Nat.zero_le _
  | x :: r => by rw [bkAll]; have := bk_pos x; have := bkAll_length (ds := r); simp; omega
theorem mapM_get {α β : Type} {f : α → Option β} : ∀ {l : List α} {ys : List β}, l.mapM f = some ys → ys.length = l.length ∧ ∀ (i : Nat) (x : α), l[i]? = some x → ∃ y, ys[i]? = some y ∧ f x = some y
  | [], ys, h => by simp at h; subst h; simp
  | x :: l, ys, h => by
    rw [List.mapM_cons] at h
    cases hf : f x with
    | none => rw [hf] at h; cases h
    | some y =>
      rw [hf] at h
      cases hr : l.mapM f with
      | none => simp [hr] at h
      | some zs =>
        simp [hr] at h
        subst h
        obtain ⟨h1, h2⟩ := mapM_get hr
        refine ⟨by simp [h1], fun i x' hi => ?_⟩
        cases i with
        | zero => simp at hi; subst hi; exact ⟨y, rfl, hf⟩
        | succ i => simpa using h2 i x' (by simpa using hi)
def Gin (w : World) : Gh := ⟨fun _ => none, fun b _ => b < w.heap.size, w.heap.size⟩
def st00 : St := ⟨fun _ => .dead, 0, []⟩
theorem rel_in {C : Ctx} (hg : ∀ g, C.glob g = none) (w : World) : Rel C (Gin w) st00 w where
  obj := fun l L h => by cases h
  sep := fun l1 l2 L1 L2 h => by cases h
  kold := fun b o h => h
  glob := fun g cs h => by rw [hg] at h; cases h
  low := Nat.le_refl _
section
variable {H : Type} {enc : TypeId × Value → H} {P : Program} {w : World} {B : Nat}
def Opn (enc : TypeId × Value → H) (P : Program) (w : World) (B fuel : Nat) (t : TypeId) (E : List AV → Prop) : Prop :=
  ∀ cs d ps, DataW.trod enc P w 0 (fun _ => true) true fuel t cs = some (d, ps) → bk d ≤ B → ∃ xs, E xs ∧ VRs (Gin w) w xs cs
theorem Opn.mono {fuel : Nat} {t : TypeId} {E E' : List AV → Prop} (h : Opn enc P w B fuel t E) (k : ∀ xs, E xs → E' xs) : Opn enc P w B fuel t E' := fun cs d ps hd hb => by
  obtain ⟨xs, h1, h2⟩ := h cs d ps hd hb
  exact ⟨xs, k xs h1, h2⟩
theorem Opn.zero {t : TypeId} {E : List AV → Prop} : Opn enc P w B 0 t E := fun cs d ps hd => by simp [DataW.trod] at hd
theorem opn_int {fuel : Nat} {t : TypeId} {k : IntKind} (hu : P.underlying t = some (.int k)) : Opn enc P w B fuel t fun xs => ∃ n, k.min ≤ n ∧ n ≤ k.max ∧ xs = [.int k n] := fun cs d ps hd _ => by
  cases fuel with
  | zero => simp [DataW.trod] at hd
  | succ fuel =>
    rcases cs with _ | ⟨v, _ | ⟨v2, r⟩⟩
    · simp [DataW.trod, hu] at hd
    · cases v <;> simp [DataW.trod, hu] at hd
      rename_i k' n
      obtain ⟨⟨rfl, h1⟩, h2, h3⟩ := hd
      simp only [Lit.wf, Bool.and_eq_true, decide_eq_true_eq] at h1
      exact ⟨[.int k' n], ⟨n, h1.1, h1.2, rfl⟩, .int _ n, trivial⟩
    · simp [DataW.trod, hu] at hd
theorem opn_bool {fuel : Nat} {t : TypeId} (hu : P.underlying t = some .bool) : Opn enc P w B fuel t fun xs => ∃ b, xs = [.bool b] := fun cs d ps hd _ => by
  cases fuel with
  | zero => simp [DataW.trod] at hd
  | succ fuel =>
    rcases cs with _ | ⟨v, _ | ⟨v2, r⟩⟩
    · simp [DataW.trod, hu] at hd
    · cases v <;> simp [DataW.trod, hu] at hd
      rename_i b
      exact ⟨[.bool b], ⟨b, rfl⟩, .bool b, trivial⟩
    · simp [DataW.trod, hu] at hd
def elemOf (agg : Bool) (xs : List AV) : AV := if agg then .agg xs else xs.headD .any
def shapeOk (agg : Bool) (sz : Nat) (xs : List AV) : Prop := xs.length = sz ∧ (agg = true ∨ ∃ x, xs = [x] ∧ x.noAgg = true)
theorem elemOf_cells {agg : Bool} {sz : Nat} {xs : List AV} (h : shapeOk agg sz xs) : (elemOf agg xs).cells = xs := by
  rcases h with ⟨_, h | ⟨x, rfl, h⟩⟩
  · subst h; rfl
  · cases agg with
    | true => rfl
    | false => cases x <;> first | rfl | cases h
theorem gather {V : List AV → Prop} {sz : Nat} {val : Nat → Value} {G : Gh} : ∀ len : Nat, (∀ m, m < len → ∃ xs, xs.length = sz ∧ V xs ∧ ∀ i, i < sz → VR G w (xs.getD i .any) (val (m * sz + i))) →
    ∃ xss : List (List AV), xss.length = len ∧ (∀ xs ∈ xss, xs.length = sz ∧ V xs) ∧ xss.flatten.length = len * sz ∧ ∀ i, i < len * sz → VR G w (xss.flatten.getD i .any) (val i) := by
  intro len
  induction len with
  | zero => intro _; exact ⟨[], rfl, by simp, by simp, by simp⟩
  | succ len ih =>
    intro h
    obtain ⟨xss, h1, h2, h3, h4⟩ := ih fun m hm => h m (by omega)
    obtain ⟨xs, k1, k2, k3⟩ := h len (by omega)
    refine ⟨xss ++ [xs], by simp [h1], fun ys hy => ?_, ?_, fun i hi => ?_⟩
    · rcases List.mem_append.1 hy with hy | hy
      · exact h2 ys hy
      · rw [List.mem_singleton.1 hy]; exact ⟨k1, k2⟩
    · simp [h3, k1, Nat.add_mul]
    · have hmul : (len + 1) * sz = len * sz + sz := by rw [Nat.add_mul, Nat.one_mul]
      rw [hmul] at hi
      rw [List.flatten_append, List.getD_eq_getElem?_getD]
      by_cases hlt : i < len * sz
      · rw [List.getElem?_append_left (by omega), ← List.getD_eq_getElem?_getD]
        exact h4 i hlt
      · rw [List.getElem?_append_right (by omega)]
        have := k3 (i - len * sz) (by omega)
        rw [List.getD_eq_getElem?_getD, show len * sz + (i - len * sz) = i by omega] at this
        simpa [h3] using this
theorem flat_elemOf {agg : Bool} {sz : Nat} : ∀ {xss : List (List AV)}, (∀ xs ∈ xss, shapeOk agg sz xs) → flat (xss.map (elemOf agg)) = xss.flatten
  | [], _ => rfl
  | xs :: r, h => by
    have ih := flat_elemOf (xss := r) fun ys hy => h ys (by simp [hy])
    simp only [flat] at ih ⊢
    simp [elemOf_cells (h xs (by simp)), ih]
theorem cells?_get {base : Nat} {a : Addr} {n : Nat} {cs : List Value} (h : w.cells? base a n = some cs) : cs.length = n ∧ ∀ i, i < n → w.cell? (a.add i) = some (cs.getD i undef) := by
  unfold World.cells? at h
  split at h
  · obtain ⟨h1, h2⟩ := mapM_get h
    refine ⟨by simpa using h1, fun i hi => ?_⟩
    obtain ⟨y, h3, h4⟩ := h2 i i (by simp [hi])
    rw [List.getD_eq_getElem?_getD, h3]
    exact h4
  · cases h
theorem opn_slice {fuel : Nat} {t e : TypeId} {agg : Bool} {sz : Nat} {E : List AV → Prop} (hu : P.underlying t = some (.slice e)) (hsz : P.cellsOf e = sz) (hpos : 0 < sz) (hE : Opn enc P w B fuel e E) (hsh : ∀ xs, E xs → shapeOk agg sz xs) :
    Opn enc P w B (fuel + 1) t fun xs => ∃ k es, xs = [.slice k es] ∧ (k = .nil ∧ es = [] ∨ k = .open_) ∧ es.length ≤ maxLen ∧ es.length ≤ B ∧ ∀ x ∈ es, E x.cells ∧ x = elemOf agg x.cells := fun cs d ps hd hb => by
  rcases cs with _ | ⟨v, _ | ⟨v2, r⟩⟩
  · simp [DataW.trod, hu] at hd
  · cases v with
    | slice a len cap =>
      cases a with
      | none =>
        by_cases h0 : len = 0 ∧ cap = 0
        · obtain ⟨rfl, rfl⟩ := h0
          refine ⟨[.slice .nil []], ⟨.nil, [], rfl, .inl ⟨rfl, rfl⟩, by simp, by simp, by simp⟩, ?_, trivial⟩
          exact .slice .nil [] none 0 (fun _ => undef) ⟨rfl, rfl, rfl⟩ (fun i hi => by simp [flat] at hi) (fun i hi => by simp [flat] at hi) ⟨0, rfl⟩
        · simp only [DataW.trod, hu] at hd
          split at hd <;> simp_all
      | some a =>
        simp only [DataW.trod, hu, hsz] at hd
        split at hd
        · rename_i hc
          cases hm : (List.range len).mapM fun i => (w.cells? 0 (a.add (i * sz)) sz).bind (DataW.trod enc P w 0 (fun _ => true) true fuel e) with
          | none => rw [hm] at hd; cases hd
          | some elems =>
            rw [hm] at hd
            simp only [Option.bind_some, if_true] at hd
            cases hm2 : (List.range (cap - len)).mapM fun j => (w.cells? 0 (a.add ((len + j) * sz)) sz).bind (DataW.trod enc P w 0 (fun _ => true) true fuel e) with
            | none => rw [hm2] at hd; cases hd
            | some rest =>
              rw [hm2] at hd
              simp only [Option.map_some, Option.some.injEq, Prod.mk.injEq] at hd
              obtain ⟨hd1, hd2⟩ := hd
              subst hd1
              rw [bk] at hb
              obtain ⟨l1, g1⟩ := mapM_get hm
              have hlen : elems.length = len := by simpa using l1
              have hB : len ≤ B := by
                have := bkAll_length (ds := elems.map (·.1))
                simp [hlen] at this
                omega
              -- the elements
              have each : ∀ m, m < len → ∃ csm, w.cells? 0 (a.add (m * sz)) sz = some csm ∧ ∃ xs, E xs ∧ VRs (Gin w) w xs csm := fun m hm' => by
                obtain ⟨y, h3, h4⟩ := g1 m m (by simp [hm'])
                cases hcm : w.cells? 0 (a.add (m * sz)) sz with
                | none => rw [hcm] at h4; cases h4
                | some csm =>
                  rw [hcm] at h4
                  obtain ⟨dd, pp⟩ := y
                  refine ⟨csm, rfl, hE csm dd pp h4 ?_⟩
                  have : dd ∈ elems.map (·.1) := List.mem_map.2 ⟨(dd, pp), List.mem_of_getElem? h3, rfl⟩
                  have := bkAll_mem this
                  omega
              have hspot : 0 < len → a.spot = none := fun hp => by
                obtain ⟨csm, c1, _⟩ := each 0 hp
                have := (cells?_get c1).2 0 hpos
                simp only [Nat.zero_mul, Addr.add, if_true] at this
                unfold World.cell? at this
                split at this
                · split at this
                  · cases this
                  · rename_i h; simpa using h
                · cases this
              have hadd : 0 < len → ∀ m, a.add m = ⟨a.block, a.off + m, none⟩ := fun hp m => by
                unfold Addr.add
                have := hspot hp
                obtain ⟨b, o, s⟩ := a
                simp only at this
                subst this
                split
                · rename_i h; subst h; rfl
                · rfl
              have hval : ∀ m, m < len → ∀ i, i < sz → ∃ csm : List Value, csm.length = sz ∧ w.cells? 0 (a.add (m * sz)) sz = some csm ∧ w.cell? ⟨a.block, a.off + (m * sz + i), none⟩ = some (csm.getD i undef) := fun m hm' i hi => by
                obtain ⟨csm, c1, _⟩ := each m hm'
                obtain ⟨c2, c3⟩ := cells?_get c1
                refine ⟨csm, c2, c1, ?_⟩
                have := c3 i hi
                rw [hadd (by omega)] at this
                have e2 : Addr.add ⟨a.block, a.off + m * sz, none⟩ i = ⟨a.block, a.off + (m * sz + i), none⟩ := by
                  unfold Addr.add
                  split
                  · rename_i h; subst h; simp
                  · simp only [Addr.mk.injEq, true_and, and_true]; omega
                rwa [e2] at this
              have hga := gather (w := w) (G := Gin w) (V := E) (sz := sz) (val := fun i => (w.cell? ⟨a.block, a.off + i, none⟩).getD undef) len fun m hm' => by
                obtain ⟨csm, c1, xs, x1, x2⟩ := each m hm'
                refine ⟨xs, (hsh xs x1).1, x1, fun i hi => ?_⟩
                obtain ⟨csm', y1, y2, y3⟩ := hval m hm' i hi
                rw [c1] at y2; cases y2
                rw [y3]
                exact x2.get i (by rw [(hsh xs x1).1]; exact hi)
              obtain ⟨xss, q1, q2, q3, q4⟩ := hga
              have hshape : ∀ xs ∈ xss, shapeOk agg sz xs := fun xs hx => hsh xs (q2 xs hx).2
              have hflat := flat_elemOf hshape
              have hcellsz : ∀ x ∈ xss.map (elemOf agg), ∃ xs ∈ xss, x = elemOf agg xs ∧ x.cells = xs := fun x hx => by
                obtain ⟨xs, hxs, rfl⟩ := List.mem_map.1 hx
                exact ⟨xs, hxs, rfl, elemOf_cells (hshape xs hxs)⟩
              refine ⟨[.slice .open_ (xss.map (elemOf agg))], ⟨.open_, _, rfl, .inr rfl, by simp [q1]; omega, by simp [q1]; exact hB, fun x hx => ?_⟩, ?_, trivial⟩
              · obtain ⟨xs, h1, h2, h3⟩ := hcellsz x hx
                rw [h3]
                exact ⟨(q2 xs h1).2, h2⟩
              · have := VR.slice (G := Gin w) (w := w) .open_ (xss.map (elemOf agg)) (some a) cap (fun i => (w.cell? ⟨a.block, a.off + i, none⟩).getD undef) ⟨rfl, by simp [q1]; exact hc.2.1⟩
                  (by
                    rw [hflat, q3]
                    intro i hi
                    have hp : 0 < len := by
                      rcases Nat.eq_zero_or_pos len with h | h
                      · subst h; simp at hi
                      · exact h
                    obtain ⟨csm, y1, y2, y3⟩ := hval (i / sz) (by rw [Nat.div_lt_iff_lt_mul hpos]; exact hi) (i % sz) (Nat.mod_lt _ hpos)
                    rw [show i / sz * sz + i % sz = i by rw [Nat.mul_comm]; exact Nat.div_add_mod i sz] at y3
                    refine ⟨a.block, a.off, ?_, ?_, by simp only [y3, Option.getD_some]⟩
                    · have := hadd hp 0
                      simpa [Addr.add] using this
                    · show a.block < w.heap.size
                      unfold World.cell? at y3
                      split at y3
                      · rename_i hh; exact (Array.getElem?_eq_some_iff.1 hh).1
                      · cases y3)
                  (by rw [hflat, q3]; exact q4)
                  ⟨sz, by
                    simp only [sized, List.all_eq_true, beq_iff_eq]
                    intro x hx
                    obtain ⟨xs, h1, h2, h3⟩ := hcellsz x hx
                    rw [h3]; exact (q2 xs h1).1⟩
                simpa [q1] using this
        · cases hd
    | _ => simp [DataW.trod, hu] at hd
  · simp [DataW.trod, hu] at hd
def CatE : List (List AV → Prop) → List AV → Prop
  | [], xs => xs = []
  | E :: r, xs => ∃ a b, xs = a ++ b ∧ E a ∧ CatE r b
def LayOk (enc : TypeId × Value → H) (P : Program) (w : World) (B fuel total : Nat) : Nat → List Field → List (List AV → Prop) → Prop
  | off, [], [] => off = total
  | off, f :: r, E :: Es => f.offset = off ∧ Opn enc P w B fuel f.type E ∧ LayOk enc P w B fuel total (off + P.cellsOf f.type) r Es
  | _, _, _ => False
theorem lay_cat {fuel total : Nat} {cs : List Value} (hcs : cs.length = total) : ∀ (off : Nat) (fields : List Field) (Es : List (List AV → Prop)), LayOk enc P w B fuel total off fields Es →
    (∀ f ∈ fields, ∃ d p, DataW.trod enc P w 0 (fun _ => true) true fuel f.type ((cs.drop f.offset).take (P.cellsOf f.type)) = some (d, p) ∧ bk d ≤ B) → ∃ xs, CatE Es xs ∧ VRs (Gin w) w xs (cs.drop off)
  | off, [], [], h, _ => ⟨[], rfl, by rw [show off = total from h, ← hcs, List.drop_length]; trivial⟩
  | off, f :: r, E :: Es, ⟨h1, h2, h3⟩, hf => by
    obtain ⟨d, p, k1, k2⟩ := hf f (by simp)
    obtain ⟨a, a1, a2⟩ := h2 _ d p k1 k2
    obtain ⟨b, b1, b2⟩ := lay_cat hcs (off + P.cellsOf f.type) r Es h3 fun f' hf' => hf f' (by simp [hf'])
    refine ⟨a ++ b, ⟨a, b, rfl, a1, b1⟩, ?_⟩
    rw [h1] at a2
    have : cs.drop off = (cs.drop off).take (P.cellsOf f.type) ++ cs.drop (off + P.cellsOf f.type) := by
      rw [← List.drop_drop]; exact (List.take_append_drop _ _).symm
    rw [this]
    exact a2.append b2
  | _, [], _ :: _, h, _ => h.elim
  | _, _ :: _, [], h, _ => h.elim
theorem opn_struct {fuel : Nat} {t : TypeId} {fs : Array Field} {Es : List (List AV → Prop)} (hu : P.underlying t = some (.struct fs)) (hlay : LayOk enc P w B fuel (P.cellsOf t) 0 fs.toList Es) :
    Opn enc P w B (fuel + 1) t (CatE Es) := fun cs d ps hd hb => by
  simp only [DataW.trod, hu] at hd
  split at hd
  · rename_i hc
    cases hm : fs.toList.mapM fun f => DataW.trod enc P w 0 (fun _ => true) true fuel f.type ((cs.drop f.offset).take (P.cellsOf f.type)) with
    | none => rw [hm] at hd; cases hd
    | some ys =>
      rw [hm] at hd
      simp only [Option.map_some, Option.some.injEq, Prod.mk.injEq] at hd
      obtain ⟨rfl, _⟩ := hd
      obtain ⟨l1, g1⟩ := mapM_get hm
      rw [bk] at hb
      obtain ⟨xs, h1, h2⟩ := lay_cat (enc := enc) (B := B) (fuel := fuel) hc 0 fs.toList Es hlay fun f hf => by
        obtain ⟨i, hi⟩ := List.getElem?_of_mem hf
        obtain ⟨⟨dd, pp⟩, k1, k2⟩ := g1 i f hi
        refine ⟨dd, pp, k2, ?_⟩
        have : dd ∈ ys.map (·.1) := List.mem_map.2 ⟨(dd, pp), List.mem_of_getElem? k1, rfl⟩
        have := bkAll_mem this
        omega
      exact ⟨xs, h1, by simpa using h2⟩
  · cases hd
end
end Go.AE

namespace Go.AE
open Go
theorem law_calls {C : Ctx} (hC : CtxOk C) (hX : XOk C) (hg : ∀ g, C.glob g = none) {f : FuncId} {fi : FI} (hf : C.fn f = some fi) {args : List AV} {vals : List Value} {W : World} (hv : VRs (Gin W) W args vals) {b : Bool} {st' : St} {pv : Option AV}
    (h : callW C (.fn f) args .normal st00 = some (.ret (.bool b), st', pv)) : Calls C.P f vals.toArray W fun e W' => e = .returned (.bool b) ∧ RowKit.Below W.heap.size W W' := by
  have hok := callW_ok hC hX _ _ _ _ _ h (Gin W) W vals (rel_in hg W) hv
  have fin : ∀ e W', (∃ G' ls, Ok C (Gin W) st00 W ls G' st' W' ∧ st'.log = ls ++ st00.log ∧ EndRel G' W' (.ret (.bool b)) e) → e = .returned (.bool b) ∧ RowKit.Below W.heap.size W W' := fun e W' ⟨G', ls, h1, h2, h3⟩ => by
    refine ⟨?_, ⟨h1.os, h1.tape, h1.output, h1.size, fun k hk => h1.frame k hk fun ⟨l, L, _, hl, _⟩ => by cases hl⟩⟩
    cases e with
    | returned v => cases h3; rfl
    | panicked c => exact h3.elim
    | outgrown => exact h3.elim
  rcases hok with ⟨fn, h1, h2, h3, h4⟩ | ⟨v, w', h1, h2⟩
  · exact h4.mono fun e W' hh => fin e W' hh
  · exfalso
    have := (callFunc_enter (w := W) hC (by rw [hf]; rfl) vals.toArray).1
    rw [this] at h1
    cases h1
section
variable {P : Program} {w : World} {base : Nat} {G : Gh}
theorem arg_agg {t : TypeId} {v : Value} (hu : ∃ fs, P.underlying t = some (.struct fs)) (h : Value.okWide P w .any base t v) {xs : List AV} (hx : VRs G w xs v.cells.toList) : VR G w (.agg xs) v := by
  obtain ⟨fs, hu⟩ := hu
  simp only [Value.okWide, hu] at h
  obtain ⟨cs, rfl, _⟩ := h
  exact VR.mkAgg (by simpa [Value.cells] using hx)
theorem arg_slice {t e : TypeId} {v : Value} (hu : P.underlying t = some (.slice e)) (h : Value.okWide P w .any base t v) {x : AV} (hx : VRs G w [x] v.cells.toList) : VR G w x v := by
  obtain ⟨a, l, c, rfl⟩ := WideShapes.okWide_slice hu h
  exact hx.1
end
end Go.AE

namespace Go.AE
open Go
structure RO where
  d : Option Tmp
  op : Op
  g : Option (Option Tmp × Bool)
def resolve (ops : Array Oper) (o : Oper) : RO := ⟨o.dst, o.op, o.guard.map fun x => ((ops[x.1]?).bind (·.dst), x.2)⟩
def RO.oper (o : RO) : Oper := { dst := o.d, op := o.op, type := 0, pos := "", after := #[], guard := none }
inductive RC where
  | skip
  | ops (l : List RO)
  | draw (ops : Array Oper)
  | seq (a b : RC)
  | cond (c : Operand) (a b : RC)
  | block (id : Nat) (b : RC)
  | loop (b : RC)
  | rangeFunc (f : Operand) (params : List Tmp) (assign body : Code) (ra rb : RC)
  | exit (id : Nat)
  | goto (l : Nat)
  | ret
  | bad
def resolveC : Code → RC
  | .skip => .skip
  | .label _ => .skip
  | .region _ ops draw => if draw then .draw ops else .ops (ops.toList.map (resolve ops))
  | .seq a b => .seq (resolveC a) (resolveC b)
  | .cond c a b => .cond c (resolveC a) (resolveC b)
  | .block id b => .block id (resolveC b)
  | .loop b => .loop (resolveC b)
  | .rangeFunc f params assign body => .rangeFunc f params.toList assign body (resolveC assign) (resolveC body)
  | .exit id => .exit id
  | .goto l => .goto l
  | .ret => .ret
  | .scope _ => .bad
  | .refuse _ => .bad
def guardA (fr : Fr) : Option (Option Tmp × Bool) → Option Bool
  | none => some true
  | some (some d, w) => (match fr.tmps d with | .bool b => some (b == w) | .any => none | _ => some false)
  | some (none, _) => some false
def runR (call : CallF) (C : Ctx) (mu : Bool) (ro : Bool) : List RO → Fr → St → Option Out
  | [], fr, st => some (.norm, fr, st)
  | o :: rest, fr, st => (guardA fr o.g).bind fun b =>
      if b then (match runOp call C mu ro o.oper fr st with
        | some (.norm, fr, st) => runR call C mu ro rest fr st
        | r => r)
      else runR call C mu ro rest (fr.put o.d undefA) st
theorem guardA_eq {ops : Array Oper} {o : Oper} {fr : Fr} : wantedA ops fr o = guardA fr (resolve ops o).g := by
  unfold wantedA resolve
  cases o.guard with
  | none => rfl
  | some jw =>
    obtain ⟨j, w⟩ := jw
    simp only [Option.map_some]
    cases (ops[j]?).bind (·.dst) with
    | none => rfl
    | some d => simp only [guardA]; cases fr.tmps d <;> rfl
theorem runOp_oper {call : CallF} {C : Ctx} {mu ro : Bool} {ops : Array Oper} {o : Oper} {fr : Fr} {st : St} : runOp call C mu ro o fr st = runOp call C mu ro (resolve ops o).oper fr st := rfl
theorem runOps_eq {call : CallF} {C : Ctx} {mu ro : Bool} {ops : Array Oper} : ∀ {l : List Oper} {fr : Fr} {st : St}, runOps call C mu ro ops l fr st = runR call C mu ro (l.map (resolve ops)) fr st
  | [], _, _ => rfl
  | o :: l, fr, st => by
    simp only [runOps, List.map_cons, runR, guardA_eq (ops := ops) (o := o)]
    cases hg : guardA fr (resolve ops o).g with
    | none => rfl
    | some b =>
      cases b with
      | false => simp only [Option.bind_some, Bool.false_eq_true, if_false]; exact runOps_eq
      | true =>
        simp only [Option.bind_some, if_true, ← runOp_oper]
        cases runOp call C mu ro o fr st with
        | none => rfl
        | some o1 =>
          obtain ⟨e, fr1, st1⟩ := o1
          cases e with
          | norm => exact runOps_eq
          | _ => rfl
noncomputable def execR (call : CallF) (C : Ctx) (n : Option Nat) (self : FuncId) (ro : Option Nat) : RC → Fr → St → Option Out
  | .skip, fr, st => some (.norm, fr, st)
  | .ops l, fr, st => runR call C (C.mu self) ro.isSome l fr st
  | .draw ops, fr, st => region call C (C.mu self) ro.isSome ops true fr st
  | .seq a b, fr, st => (match execR call C n self ro a fr st with
    | some (.norm, fr, st) => execR call C n self ro b fr st
    | r => r)
  | .cond c a b, fr, st => (match oval C fr c with
    | .bool x => if x then execR call C n self ro a fr st else execR call C n self ro b fr st
    | _ => none)
  | .block id b, fr, st => (match execR call C n self ro b fr st with
    | some (.exit i, fr, st) => if i = id then some (.norm, fr, st) else some (.exit i, fr, st)
    | r => r)
  | .loop b, fr, st => iterO (execR call C n self ro b) n fr st
  | .rangeFunc f params assign body _ _, fr, st => (match oval C fr f with
    | .func (.func g) first captured => if (C.fn g).isNone then none else (match ro with
      | none => rangeLoop call self g first captured params assign body st.next { fr with defs := ⟨none, st.next, []⟩ :: fr.defs } (st.push .dfr)
      | some l0 => (match st.heap l0 with
        | .loop _ _ _ _ _ _ _ _ d => rangeLoop call self g first captured params assign body d fr st
        | _ => none))
    | _ => none)
  | .exit id, fr, st => some (.exit id, fr, st)
  | .goto l, fr, st => some (.goto l, fr, st)
  | .ret, fr, st => some (.ret, fr, st)
  | .bad, _, _ => none
theorem exec_eq (call : CallF) (C : Ctx) (n : Option Nat) (self : FuncId) (ro : Option Nat) : ∀ c : Code, exec call C n self ro c = execR call C n self ro (resolveC c) := by
  intro c
  induction c with
  | region id ops draw =>
    funext fr st
    cases draw with
    | true => rfl
    | false => simp only [exec, resolveC, region, Bool.false_eq_true, if_false, execR]; exact runOps_eq
  | seq a b iha ihb => funext fr st; simp only [exec, resolveC, execR, iha, ihb]; rfl
  | cond x a b iha ihb => funext fr st; simp only [exec, resolveC, execR, iha, ihb]; rfl
  | block id a iha => funext fr st; simp only [exec, resolveC, execR, iha]; rfl
  | loop a iha => funext fr st; simp only [exec, resolveC, execR, iha]
  | rangeFunc f params assign body _ _ => rfl
  | _ => rfl
end Go.AE
