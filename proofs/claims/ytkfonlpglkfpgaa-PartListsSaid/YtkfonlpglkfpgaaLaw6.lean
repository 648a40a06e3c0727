/- The plain law: Take, Give of a part, Len. -/
import Derived.Test.YtkfonlpglkfpgaaLaw5
namespace Go.Proofs.Ytkfonlpglkfpgaa
set_option linter.unusedSimpArgs false
set_option linter.unusedVariables false
open Go.RowKit (wrap64)

/-- The nodes that have been given back, the last one first. -/
def freed (s : Nat) : Nat → List Nat
  | 0 => []
  | j + 1 => (s + 2 * j) :: freed s j
theorem mem_freed {s a : Nat} : ∀ {j : Nat}, a ∈ freed s j → ∃ i, i < j ∧ a = s + 2 * i
  | 0, h => by simp [freed] at h
  | j + 1, h => by
    simp only [freed, List.mem_cons] at h
    rcases h with rfl | h
    · exact ⟨j, by omega, rfl⟩
    · obtain ⟨i, h1, h2⟩ := mem_freed h; exact ⟨i, by omega, h2⟩
theorem length_freed (s : Nat) : ∀ j, (freed s j).length = j
  | 0 => rfl
  | j + 1 => by simp [freed, length_freed s j]

/-- The queue of others when j words have been taken. -/
structure TSt (N s : Nat) (os : List UInt64) (j : Nat) (f : Nat → UInt64) : Prop where
  first : f 18 = if j < os.length then A (s + 2 * j + 1) else 0
  last : f 19 = if j < os.length then A (s + 2 * os.length - 1) else 0
  count : f 20 = A (os.length - j)
  word : ∀ i (h : i < os.length), j ≤ i → f (s + 2 * i) = os[i]
  next : ∀ i, i < os.length → j ≤ i → f (s + 2 * i + 1) = if i + 1 = os.length then 0 else A (s + 2 * i + 3)
  free : FreeC N f (f 3) (freed s j)

theorem QSt.tst {N s : Nat} {os : List UInt64} {f : Nat → UInt64} (h : QSt N s os f) : TSt N s os 0 f :=
  ⟨by rw [h.first]; by_cases hz : os.length = 0
      · rw [if_pos hz, if_neg (by omega)]
      · rw [if_neg hz, if_pos (by omega)],
   by rw [h.last]; by_cases hz : os.length = 0
      · rw [if_pos hz, if_neg (by omega)]
      · rw [if_neg hz, if_pos (by omega)], h.count, fun i hi _ => h.word i hi, fun i hi _ => h.next i hi, h.free⟩

theorem qtake_is {N s j : Nat} {os : List UInt64} {m : Mach} {b : Nat} {f : Nat → UInt64} (h : Is N m (b + 11) f) (hq : TSt N s os j f) (hj : j < os.length) (hs : 21 ≤ s) (hr : s + 2 * os.length ≤ N) (hN : N < 60000) :
    ∃ m' f', qtake m 0 (A 18) = (os[j], true, 0, m') ∧ Is N m' b f' ∧ TSt N s os (j + 1) f' ∧ ∀ i, 21 ≤ i → i < s → f' i = f i := by
  have e20 : A 18 + 2 = A 20 := rfl
  have e19 : A 18 + 1 = A 19 := rfl
  obtain ⟨m1, q1, i1⟩ := get_is' (b := b + 10) h (k := 18) (by omega) (by omega)
  obtain ⟨m2, q2, i2⟩ := get_is' i1 (k := s + 2 * j) (by omega) (by omega)
  obtain ⟨m3, q3, i3⟩ := get_is' i2 (k := s + 2 * j + 1) (by omega) (by omega)
  rw [hq.first, if_pos hj] at q1
  rw [hq.word j hj (Nat.le_refl _)] at q2
  have hnx := hq.next j hj (Nat.le_refl _)
  rw [hnx] at q3
  obtain ⟨m4, q4, i4⟩ := put_is' i3 (if j + 1 = os.length then (0 : UInt64) else A (s + 2 * j + 3)) (k := 18) (by omega) (by omega)
  have hx1 : (A (s + 2 * j + 1) == 0) = false := by rw [A_eq0 (by omega)]; simp
  have hbz : ((if j + 1 = os.length then (0 : UInt64) else A (s + 2 * j + 3)) == 0) = decide (j + 1 = os.length) := by
    by_cases hc : j + 1 = os.length
    · rw [if_pos hc]; simp [hc]
    · rw [if_neg hc, A_eq0 (by omega)]; simp [hc]
  -- the last pointer
  obtain ⟨m5, f5, q5, i5, h5⟩ : ∃ m5 f5, (if decide (j + 1 = os.length) = true then m4.put (A 19) 0 else (0, m4)) = (0, m5) ∧ Is N m5 (b + 6 - 1) f5 ∧ ∀ k, f5 k = if k = 19 ∧ j + 1 = os.length then 0 else setf f 18 (if j + 1 = os.length then (0 : UInt64) else A (s + 2 * j + 3)) k := by
    by_cases hc : j + 1 = os.length
    · obtain ⟨m5, q5, i5⟩ := put_is' (b := b + 6 - 1) (i4.mono (by omega)) 0 (k := 19) (by omega) (by omega)
      refine ⟨m5, _, by rw [if_pos (by simp [hc])]; exact q5, i5, fun k => ?_⟩
      unfold setf
      by_cases hk : k = 19
      · subst hk; simp [hc]
      · simp [hk]
    · exact ⟨m4, _, by rw [if_neg (by simp [hc])], i4.mono (by omega), fun k => by rw [if_neg (show ¬ (k = 19 ∧ j + 1 = os.length) by omega)]⟩
  obtain ⟨m6, q6, i6⟩ := get_is' (b := b + 4) (i5.mono (by omega)) (k := 20) (by omega) (by omega)
  have hc20 : f5 20 = A (os.length - j) := by rw [h5, if_neg (by omega), setf_ne _ _ _ _ (by omega), hq.count]
  rw [hc20] at q6
  obtain ⟨m7, q7, i7⟩ := put_is' i6 (A (os.length - (j + 1))) (k := 20) (by omega) (by omega)
  obtain ⟨m8, q8, i8⟩ := give_is (b := b) (s := 2) (k := s + 2 * j) i7 (by omega) (by omega) (by omega) (by omega) (by omega)
  have hdec : A (os.length - j) - 1 = A (os.length - (j + 1)) := by
    rw [show os.length - j = (os.length - (j + 1)) + 1 by omega, A_sub1]
  have h3 : ∀ x, setf f5 20 x 3 = f 3 := fun x => by rw [setf_ne _ _ _ _ (by omega), h5, if_neg (by omega), setf_ne _ _ _ _ (by omega)]
  refine ⟨m8, _, ?_, i8, ⟨?_, ?_, ?_, ?_, ?_, ?_⟩, ?_⟩
  · unfold qtake bget bput
    simp only [bne_self_eq_false, Bool.false_eq_true, if_false, q1, Bool.false_or, hx1, A_sub1, q2, q3, beq_self_eq_true, if_true, q4, hbz, e19, q5, e20, q6, hdec, q7, show give m7 0 (A (s + 2 * j)) 2 = give m7 0 (A (s + 2 * j)) (A 2) from rfl, q8]
  · rw [setf_ne _ _ _ _ (by omega), setf_ne _ _ _ _ (by omega), setf_ne _ _ _ _ (by omega), h5, if_neg (by omega), setf_eq]
    by_cases hc : j + 1 = os.length
    · rw [if_pos hc, if_neg (by omega)]
    · rw [if_neg hc, if_pos (by omega)]; congr 1
  · rw [setf_ne _ _ _ _ (by omega), setf_ne _ _ _ _ (by omega), setf_ne _ _ _ _ (by omega), h5]
    by_cases hc : j + 1 = os.length
    · rw [if_pos ⟨rfl, hc⟩, if_neg (by omega)]
    · rw [if_neg (by omega), setf_ne _ _ _ _ (by omega), hq.last, if_pos hj, if_pos (by omega)]
  · rw [setf_ne _ _ _ _ (by omega), setf_ne _ _ _ _ (by omega), setf_eq]
  · intro i hi hji
    rw [setf_ne _ _ _ _ (by omega), setf_ne _ _ _ _ (by omega), setf_ne _ _ _ _ (by omega), h5, if_neg (by omega), setf_ne _ _ _ _ (by omega)]
    exact hq.word i hi (by omega)
  · intro i hi hji
    rw [setf_ne _ _ _ _ (by omega), setf_ne _ _ _ _ (by omega), setf_ne _ _ _ _ (by omega), h5, if_neg (by omega), setf_ne _ _ _ _ (by omega)]
    exact hq.next i hi (by omega)
  · rw [show 1 + 2 = 3 from rfl, setf_eq]
    refine ⟨rfl, by omega, ?_⟩
    rw [h3, setf_ne _ 3 _ (s + 2 * j) (by omega), setf_eq]
    refine hq.free.congr fun a ha => ?_
    obtain ⟨i, h1, rfl⟩ := mem_freed ha
    rw [setf_ne _ _ _ _ (by omega), setf_ne _ _ _ _ (by omega), setf_ne _ _ _ _ (by omega), h5, if_neg (by omega), setf_ne _ _ _ _ (by omega)]
  · intro i h1 h2
    rw [setf_ne _ _ _ _ (by omega), setf_ne _ _ _ _ (by omega), setf_ne _ _ _ _ (by omega), h5, if_neg (by omega), setf_ne _ _ _ _ (by omega)]

theorem giveL_is {N s : Nat} (hs : 21 ≤ s) (hN : N < 60000) : ∀ (k i : Nat) {l : List Nat} {m : Mach} {b : Nat} {f : Nat → UInt64}, s + 2 * (i + k) ≤ N → (∀ a ∈ l, ∀ q, i ≤ q → q < i + k → a ≠ s + 2 * q) → (∀ a ∈ l, 3 < a) → FreeC N f (f 3) l → Is N m (b + 3 * k) f →
    ∃ m' f', giveL 0 ((List.range' i k).map (fun i => A (s + 2 * i))) m = (0, m') ∧ Is N m' b f' ∧ (∃ l', FreeC N f' (f' 3) l' ∧ l'.length = l.length + k) ∧ f' 20 = f 20
  | 0, i, l, m, b, f, _, _, _, hf, h => ⟨m, f, rfl, h, ⟨l, hf, rfl⟩, rfl⟩
  | k + 1, i, l, m, b, f, hr, h2, h3, hf, h => by
    obtain ⟨m1, q1, i1⟩ := give_is (b := b + 3 * k) (s := 2) (k := s + 2 * i) (h.mono (by omega)) (by omega) (by omega) (by omega) (by omega) (by omega)
    have hf1 : FreeC N (setf (setf f (s + 2 * i) (f (1 + 2))) (1 + 2) (A (s + 2 * i + 1))) (setf (setf f (s + 2 * i) (f (1 + 2))) (1 + 2) (A (s + 2 * i + 1)) 3) ((s + 2 * i) :: l) := by
      rw [show 1 + 2 = 3 from rfl, setf_eq]
      refine ⟨rfl, by omega, ?_⟩
      rw [setf_ne _ _ _ _ (by omega), setf_eq]
      refine hf.congr fun a ha => ?_
      have := h2 a ha i (Nat.le_refl _) (by omega)
      have := h3 a ha
      rw [setf_ne _ _ _ _ (by omega), setf_ne _ _ _ _ (by omega)]
    obtain ⟨m2, f2, q2, i2, ⟨l2, hl2, hn2⟩, h20⟩ := giveL_is hs hN k (i + 1) (by omega) 
      (fun a ha q hq hq2 => by
        simp only [List.mem_cons] at ha
        rcases ha with rfl | ha
        · omega
        · exact h2 a ha q (by omega) (by omega)) (fun a ha => by
        simp only [List.mem_cons] at ha
        rcases ha with rfl | ha
        · omega
        · exact h3 a ha) hf1 i1
    refine ⟨m2, f2, ?_, i2, ⟨l2, hl2, by rw [hn2]; simp; omega⟩, ?_⟩
    · rw [List.range'_succ, List.map_cons, giveL_cons, show (2 : UInt64) = A 2 from rfl, q1]
      simp only [bne_self_eq_false, Bool.false_eq_true, if_false]
      exact q2
    · rw [h20, setf_ne _ _ _ _ (by omega), setf_ne _ _ _ _ (by omega)]
end Go.Proofs.Ytkfonlpglkfpgaa
