/- The plain law: each, Read, Turn, nodes, Words. -/
import Derived.Test.YtkfonlpglkfpgaaLaw3
namespace Go.Proofs.Ytkfonlpglkfpgaa
set_option linter.unusedSimpArgs false
set_option linter.unusedVariables false
open Go.RowKit (wrap64)

/-- part.each over a chain whose words lie one behind the other. -/
theorem eachL_is {S : Type} {step : S → Mach → UInt64 → UInt64 → Int × S × Mach} {N s n c : Nat} (J : Nat → S → (Nat → UInt64) → Prop) (hs : 21 ≤ s) (hr : s + 2 * n ≤ N) (hN : N < 100000)
    (hstep : ∀ i st f m b, i < n → J i st f → Is N m (b + c) f → ∃ st' f' m', step st m (A (s + 2 * i)) (f (s + 2 * i)) = (0, st', m') ∧ Is N m' b f' ∧ J (i + 1) st' f')
    (hnext : ∀ i st f, i < n → J (i + 1) st f → f (s + 2 * i + 1) = if i + 1 = n then 0 else A (s + 2 * i + 3)) :
    ∀ (k i : Nat) (st : S) {f : Nat → UInt64} {m : Mach} {b : Nat}, i + k = n → J i st f → Is N m (b + (c + 2) * k) f →
      ∃ st' f' m', eachL step (A n) k st m (if k = 0 then 0 else A (s + 2 * i + 1)) (A i) = (0, st', m') ∧ Is N m' b f' ∧ J n st' f'
  | 0, i, st, f, m, b, hi, hJ, h => by
    obtain rfl : i = n := by omega
    refine ⟨st, f, m, ?_, h, hJ⟩
    rw [if_pos rfl, eachL]; simp only [bne_self_eq_false, Bool.false_eq_true, if_false]
  | k + 1, i, st, f, m, b, hi, hJ, h => by
    have h1 : Is N m ((b + (c + 2) * k + 1 + c) + 1) f := h.mono (by rw [Nat.mul_add]; omega)
    obtain ⟨m1, q1, i1⟩ := get_is' h1 (k := s + 2 * i) (by omega) hN
    obtain ⟨st2, f2, m2, q2, i2, J2⟩ := hstep i st f m1 (b + (c + 2) * k + 1) (by omega) hJ i1
    obtain ⟨m3, q3, i3⟩ := get_is' i2 (k := s + 2 * i + 1) (by omega) hN
    obtain ⟨st4, f4, m4, q4, i4, J4⟩ := eachL_is J hs hr hN hstep hnext k (i + 1) st2 (by omega) J2 i3
    refine ⟨st4, f4, m4, ?_, i4, J4⟩
    have hn := hnext i st2 f2 (by omega) J2
    rw [hn] at q3
    rw [if_neg (by omega), eachL, A_ne0 (by omega), if_pos (by simp), A_sub1, q1]
    simp only [bne_self_eq_false, Bool.false_eq_true, if_false, q2, q3, A_add1]
    have ht : ((if i + 1 = n then (0 : UInt64) else A (s + 2 * i + 3)) == 0) = (A (i + 1) == A n) := by
      by_cases hc : i + 1 = n
      · rw [if_pos hc, hc]; simp
      · rw [if_neg hc, A_eq0 (by omega)]
        have h2 : (A (i + 1) == A n) = false := by rw [beq_eq_false_iff_ne]; intro e; exact hc ((A_inj (by omega) (by omega)).1 e)
        rw [h2]; simp
    rw [ht]
    simp only [beq_self_eq_true, if_true]
    have e : (if i + 1 = n then (0 : UInt64) else A (s + 2 * i + 3)) = if k = 0 then 0 else A (s + 2 * (i + 1) + 1) := by
      by_cases hc : i + 1 = n
      · rw [if_pos hc, if_pos (by omega)]
      · rw [if_neg hc, if_neg (by omega)]; congr 1
    rw [e]; exact q4

theorem each_is {S : Type} {step : S → Mach → UInt64 → UInt64 → Int × S × Mach} {N s n c : Nat} (J : Nat → S → (Nat → UInt64) → Prop) (hs : 21 ≤ s) (hr : s + 2 * n ≤ N) (hN : N < 100000) (hn : n ≤ 60000)
    (hstep : ∀ i st f m b, i < n → J i st f → Is N m (b + c) f → ∃ st' f' m', step st m (A (s + 2 * i)) (f (s + 2 * i)) = (0, st', m') ∧ Is N m' b f' ∧ J (i + 1) st' f')
    (hnext : ∀ i st f, i < n → J (i + 1) st f → f (s + 2 * i + 1) = if i + 1 = n then 0 else A (s + 2 * i + 3))
    (st : S) {f : Nat → UInt64} {m : Mach} {b : Nat} (hJ : J 0 st f) (h : Is N m (b + (c + 2) * n) f) :
      ∃ st' f' m', each step (part s n) st m = (0, st', m') ∧ Is N m' b f' ∧ J n st' f' := by
  obtain ⟨st', f', m', q, i, j⟩ := eachL_is J hs hr hN hstep hnext n 0 st (by omega) hJ h
  refine ⟨st', f', m', ?_, i, j⟩
  unfold each part
  have h1 : ((1 : Int) != 1 && (1 : Int) != 2) = false := rfl
  have h2 : decide (u 65536 < u (A n)) = false := by rw [decide_eq_false_iff_not, u_A (by omega)]; show ¬ ((65536 : Int) < n); omega
  have h3 : (((if n = 0 then (0 : UInt64) else A (s + 1)) == 0) != (A n == 0)) = false := by
    by_cases hz : n = 0
    · subst hz; rfl
    · rw [if_neg hz, A_eq0 (by omega), A_eq0 (by omega)]; simp [hz]
  simp only [h1, h2, h3, Bool.false_eq_true, if_false, Bool.or_false]
  rw [A_toNat (by omega)]
  exact q

/-- Read. -/
theorem pread_is {N s : Nat} {ws : List UInt64} {m : Mach} {b : Nat} {f : Nat → UInt64} (h : Is N m (b + 2 * ws.length) f) (hq : Seg s ws f) (hs : 21 ≤ s) (hr : s + 2 * ws.length ≤ N) (hN : N < 100000) (hn : ws.length ≤ 60000) :
    ∃ m', pread m (part s ws.length) = (ws, 0, m') ∧ Is N m' b f := by
  obtain ⟨st, f', m', q, i, j1, j2⟩ := each_is (step := stepR) (c := 0) (n := ws.length) (fun i st g => st = ws.take i ∧ g = f) hs hr hN hn
    (fun i st g m b hi hj his => by
      obtain ⟨rfl, rfl⟩ := hj
      refine ⟨_, _, _, rfl, his, ?_, rfl⟩
      rw [hq.word i hi, List.take_add_one, List.getElem?_eq_getElem hi]; rfl)
    (fun i st g hi hj => by rw [hj.2]; exact hq.next i hi) [] (m := m) (b := b) ⟨by simp, rfl⟩ (by simpa using h)
  subst j2
  refine ⟨m', ?_, i⟩
  unfold pread
  rw [q]
  simp only [bne_self_eq_false, Bool.false_eq_true, if_false, j1, List.take_length]
/-- nodes. -/
theorem pnodes_is {N s : Nat} {ws : List UInt64} {m : Mach} {b : Nat} {f : Nat → UInt64} (h : Is N m (b + 2 * ws.length) f) (hq : Seg s ws f) (hs : 21 ≤ s) (hr : s + 2 * ws.length ≤ N) (hN : N < 100000) (hn : ws.length ≤ 60000) :
    ∃ m', pnodes m (part s ws.length) = ((List.range ws.length).map (fun i => A (s + 2 * i)), 0, m') ∧ Is N m' b f := by
  obtain ⟨st, f', m', q, i, j1, j2⟩ := each_is (step := stepN) (c := 0) (n := ws.length) (fun i st g => st = (List.range i).map (fun i => A (s + 2 * i)) ∧ g = f) hs hr hN hn
    (fun i st g m b hi hj his => by
      obtain ⟨rfl, rfl⟩ := hj
      refine ⟨_, _, _, rfl, his, ?_, rfl⟩
      rw [List.range_succ, List.map_append]; rfl)
    (fun i st g hi hj => by rw [hj.2]; exact hq.next i hi) [] (m := m) (b := b) ⟨by simp, rfl⟩ (by simpa using h)
  subst j2
  refine ⟨m', ?_, i⟩
  unfold pnodes
  rw [q, j1]
/-- Turn. -/
theorem pturn_is {N s : Nat} {ws : List UInt64} {m : Mach} {b : Nat} {f : Nat → UInt64} (g : UInt64 → UInt64) (h : Is N m (b + 3 * ws.length) f) (hq : Seg s ws f) (hs : 21 ≤ s) (hr : s + 2 * ws.length ≤ N) (hN : N < 100000) (hn : ws.length ≤ 60000) :
    ∃ m' f', pturn g m (part s ws.length) = (0, m') ∧ Is N m' b f' ∧ Seg s (ws.map g) f' ∧ ∀ j, (j < s ∨ s + 2 * ws.length ≤ j) → f' j = f j := by
  obtain ⟨st, f', m', q, i, j1, j2, j3⟩ := each_is (step := stepT g) (c := 1) (n := ws.length) (fun i _ p => (∀ k (hk : k < ws.length), p (s + 2 * k) = if k < i then g ws[k] else ws[k]) ∧ (∀ k, k < ws.length → p (s + 2 * k + 1) = f (s + 2 * k + 1)) ∧ ∀ j, (j < s ∨ s + 2 * ws.length ≤ j) → p j = f j) hs hr hN hn
    (fun i st p m b hi hj his => by
      obtain ⟨a1, a2, a3⟩ := hj
      obtain ⟨m2, q2, i2⟩ := put_is' his (g (p (s + 2 * i))) (k := s + 2 * i) (by omega) hN
      refine ⟨_, _, m2, by unfold stepT; rw [q2], i2, ?_, ?_, ?_⟩
      · intro k hk
        by_cases hki : k = i
        · subst hki; rw [setf_eq, if_pos (by omega), a1 k hk, if_neg (by omega)]
        · rw [setf_ne _ _ _ _ (by omega), a1 k hk]
          by_cases hlt : k < i
          · rw [if_pos hlt, if_pos (by omega)]
          · rw [if_neg hlt, if_neg (by omega)]
      · intro k hk; rw [setf_ne _ _ _ _ (by omega)]; exact a2 k hk
      · intro j hj; rw [setf_ne _ _ _ _ (by omega)]; exact a3 j hj)
    (fun i st p hi hj => by rw [hj.2.1 i hi]; exact hq.next i hi) 0 (m := m) (b := b) (f := f) ⟨fun k hk => by rw [if_neg (by omega)]; exact hq.word k hk, fun _ _ => rfl, fun _ _ => rfl⟩ h
  refine ⟨m', f', ?_, i, ⟨fun k hk => ?_, fun k hk => ?_⟩, j3⟩
  · unfold pturn; rw [q]
  · simp only [List.length_map] at hk
    rw [j1 k hk, if_pos hk]; simp
  · simp only [List.length_map] at hk ⊢
    rw [j2 k hk]; exact hq.next k hk
end Go.Proofs.Ytkfonlpglkfpgaa
