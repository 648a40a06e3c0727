/- The plain law: room and queue over the cells of a Mach. -/
import Derived.Test.YtkfonlpglkfpgaaLaw1
namespace Go.Proofs.Ytkfonlpglkfpgaa
set_option linter.unusedSimpArgs false
set_option linter.unusedVariables false

def setf (f : Nat → UInt64) (k : Nat) (x : UInt64) : Nat → UInt64 := fun j => if j = k then x else f j
theorem setf_eq (f : Nat → UInt64) (k : Nat) (x : UInt64) : setf f k x k = x := by simp [setf]
theorem setf_ne (f : Nat → UInt64) (k : Nat) (x : UInt64) (j : Nat) (h : j ≠ k) : setf f k x j = f j := by simp [setf, h]

/-- The words of a Mach read as f; b calls more are safe. -/
structure Is (N : Nat) (m : Mach) (b : Nat) (f : Nat → UInt64) : Prop where
  ok : Ok N m b
  at_ : ∀ j, j < N → m.at j = f j
theorem Is.mono {N : Nat} {m : Mach} {b b' : Nat} {f : Nat → UInt64} (h : Is N m b f) (hb : b' ≤ b) : Is N m b' f := ⟨h.ok.mono hb, h.at_⟩
theorem get_is {N : Nat} {m : Mach} {b : Nat} {f : Nat → UInt64} (h : Is N m (b + 1) f) {k : Nat} (hk : k < N) (hN : N < 100000) : m.get (A k) = (f k, 0, m.tick) ∧ Is N m.tick b f :=
  ⟨by rw [get_ok h.ok hk hN, h.at_ k hk], h.ok.tick, h.at_⟩
theorem put_is {N : Nat} {m : Mach} {b : Nat} {f : Nat → UInt64} (h : Is N m (b + 1) f) {k : Nat} (x : UInt64) (hk : k < N) (hN : N < 100000) : m.put (A k) x = (0, m.upd k x) ∧ Is N (m.upd k x) b (setf f k x) :=
  ⟨put_ok h.ok x hk hN, h.ok.upd k x, fun j hj => by rw [upd_at _ _ _ _ (by rw [h.ok.len]; exact hk)]; unfold setf; split; rfl; exact h.at_ j hj⟩
theorem get_is' {N : Nat} {m : Mach} {b : Nat} {f : Nat → UInt64} (h : Is N m (b + 1) f) {k : Nat} (hk : k < N) (hN : N < 100000) : ∃ m', m.get (A k) = (f k, 0, m') ∧ Is N m' b f := ⟨_, get_is h hk hN⟩
theorem put_is' {N : Nat} {m : Mach} {b : Nat} {f : Nat → UInt64} (h : Is N m (b + 1) f) {k : Nat} (x : UInt64) (hk : k < N) (hN : N < 100000) : ∃ m', m.put (A k) x = (0, m') ∧ Is N m' b (setf f k x) := ⟨_, put_is h x hk hN⟩

theorem u_A {k : Nat} (h : k < 100000) : u (A k) = k := by simp only [u]; rw [A_toNat h]
theorem fits_ok {s : Nat} (h1 : 1 ≤ s) (h2 : s ≤ 16) : fits (A s) = 0 := by
  have e1 : u 1 = 1 := rfl
  have e2 : u 16 = 16 := rfl
  unfold fits; rw [u_A (by omega), e1, e2, if_neg (by omega)]
theorem A_sub {i j : Nat} (h : j ≤ i) (hi : i < 100000) : A i - A j = A (i - j) := by
  apply UInt64.toNat_inj.1
  rw [UInt64.toNat_sub_of_le _ _ (by rw [UInt64.le_iff_toNat_le, A_toNat hi, A_toNat (by omega)]; exact h), A_toNat hi, A_toNat (by omega), A_toNat (by omega)]

/-- A fresh block. -/
theorem take_fresh {N : Nat} {m : Mach} {b : Nat} {f : Nat → UInt64} {s k : Nat} (h : Is N m (b + 4) f) (h1 : 1 ≤ s) (h2 : s ≤ 16) (hf : f (1 + s) = 0) (h0 : f 0 = A k) (hu : f 1 = A N) (hk : k + s ≤ N) (h17 : 17 < N) (hN : N < 100000) :
    ∃ m', take m 0 (A s) = (A k, 0, m') ∧ Is N m' b (setf f 0 (A (k + s))) := by
  have e0 : (0 : UInt64) + 1 + A s = A (1 + s) := by rw [A0, A1, A_add, A_add]
  obtain ⟨m1, q1, i1⟩ := get_is' h (k := 1 + s) (by omega) hN
  obtain ⟨m2, q2, i2⟩ := get_is' i1 (k := 0) (by omega) hN
  obtain ⟨m3, q3, i3⟩ := get_is' i2 (k := 1) (by omega) hN
  obtain ⟨m4, q4, i4⟩ := put_is' i3 (A (k + s)) (k := 0) (by omega) hN
  refine ⟨m4, ?_, i4⟩
  have e1 : (0 : UInt64) + 1 = A 1 := rfl
  have hen : ends m1 0 = (A k, A N, 0, m3) := by
    unfold ends
    rw [show m1.get 0 = m1.get (A 0) from rfl, q2]
    simp only [bne_self_eq_false, Bool.false_eq_true, if_false, e1, q3, h0, hu]
  unfold take
  rw [fits_ok h1 h2, e0, q1]
  simp only [bne_self_eq_false, Bool.false_eq_true, if_false, hf, hen]
  have hle : ¬ (u (A N) < u (A k) ∨ u (A N - A k) < u (A s)) := by
    rw [A_sub (by omega) hN, u_A hN, u_A (by omega), u_A (by omega), u_A (by omega)]; omega
  rw [if_neg hle, A_add, show m3.put 0 (A (k + s)) = m3.put (A 0) (A (k + s)) from rfl, q4]
  simp only [bne_self_eq_false, Bool.false_eq_true, if_false]
/-- A block given back. -/
theorem give_is {N : Nat} {m : Mach} {b : Nat} {f : Nat → UInt64} {s k : Nat} (h : Is N m (b + 3) f) (h1 : 1 ≤ s) (h2 : s ≤ 16) (hk : k < N) (hk1 : 17 < k) (hN : N < 100000) :
    ∃ m', give m 0 (A k) (A s) = (0, m') ∧ Is N m' b (setf (setf f k (f (1 + s))) (1 + s) (A (k + 1))) := by
  have e0 : (0 : UInt64) + 1 + A s = A (1 + s) := by rw [A0, A1, A_add, A_add]
  obtain ⟨m1, q1, i1⟩ := get_is' h (k := 1 + s) (by omega) hN
  obtain ⟨m2, q2, i2⟩ := put_is' i1 (f (1 + s)) hk hN
  obtain ⟨m3, q3, i3⟩ := put_is' i2 (A (k + 1)) (k := 1 + s) (by omega) hN
  refine ⟨m3, ?_, i3⟩
  unfold give
  rw [fits_ok h1 h2, e0, q1]
  simp only [bne_self_eq_false, Bool.false_eq_true, if_false, q2, A_add1, q3]

/-- A queue at 18 whose nodes lie one behind the other from s on; behind them all is fresh; no piece of two words is free. -/
structure QSt (N s : Nat) (os : List UInt64) (f : Nat → UInt64) : Prop where
  fresh : f 0 = A (s + 2 * os.length)
  upto : f 1 = A N
  free : f 3 = 0
  first : f 18 = if os.length = 0 then 0 else A (s + 1)
  last : f 19 = if os.length = 0 then 0 else A (s + 2 * os.length - 1)
  count : f 20 = A os.length
  word : ∀ i (h : i < os.length), f (s + 2 * i) = os[i]
  next : ∀ i, i < os.length → f (s + 2 * i + 1) = if i + 1 = os.length then 0 else A (s + 2 * i + 3)

theorem qput_is {N s : Nat} {m : Mach} {b : Nat} {f : Nat → UInt64} {os : List UInt64} (x : UInt64) (h : Is N m (b + 11) f) (hq : QSt N s os f) (hs : 21 ≤ s) (hr : s + 2 * os.length + 2 ≤ N) (hN : N < 100000) :
    ∃ m' f', qput m 0 (A 18) x = (0, m') ∧ Is N m' b f' ∧ QSt N s (os ++ [x]) f' ∧ ∀ j, 21 ≤ j → j < s → f' j = f j := by
  obtain ⟨k, hk⟩ : ∃ k, k = s + 2 * os.length := ⟨_, rfl⟩
  obtain ⟨m1, q1, i1⟩ := take_fresh (b := b + 7) (s := 2) (k := k) h (by omega) (by omega) hq.free (by rw [hk]; exact hq.fresh) hq.upto (by omega) (by omega) hN
  obtain ⟨m2, q2, i2⟩ := put_is' i1 x (k := k) (by omega) hN
  obtain ⟨m3, q3, i3⟩ := put_is' i2 0 (k := k + 1) (by omega) hN
  obtain ⟨m4, q4, i4⟩ := get_is' i3 (k := 19) (by omega) hN
  obtain ⟨l, hl⟩ : ∃ l, l = if os.length = 0 then 18 else s + 2 * os.length - 1 := ⟨_, rfl⟩
  have hlN : l < N := by rw [hl]; split <;> omega
  obtain ⟨m5, q5, i5⟩ := put_is' i4 (A (k + 1)) (k := l) hlN hN
  obtain ⟨m6, q6, i6⟩ := put_is' i5 (A (k + 1)) (k := 19) (by omega) hN
  obtain ⟨m7, q7, i7⟩ := get_is' i6 (k := 20) (by omega) hN
  have hc : setf (setf (setf (setf (setf f 0 (A (k + 2))) k x) (k + 1) 0) l (A (k + 1))) 19 (A (k + 1)) 20 = A os.length := by
    rw [setf_ne _ _ _ _ (by omega), setf_ne _ _ _ _ (by rw [hl]; split <;> omega), setf_ne _ _ _ _ (by omega), setf_ne _ _ _ _ (by omega), setf_ne _ _ _ _ (by omega)]; exact hq.count
  rw [hc] at q7
  obtain ⟨m8, q8, i8⟩ := put_is' i7 (A (os.length + 1)) (k := 20) (by omega) hN
  have hg : setf (setf (setf f 0 (A (k + 2))) k x) (k + 1) 0 19 = f 19 := by
    rw [setf_ne _ _ _ _ (by omega), setf_ne _ _ _ _ (by omega), setf_ne _ _ _ _ (by omega)]
  rw [hg] at q4
  refine ⟨m8, _, ?_, i8, ?_, ?_⟩
  · unfold qput bput bget
    have e2 : take m 0 2 = take m 0 (A 2) := rfl
    have ek : A k + 1 = A (k + 1) := A_add1 k
    have e19 : A 18 + 1 = A 19 := rfl
    have e20 : A 18 + 2 = A 20 := rfl
    have hbr : (if (f 19 == 0) = true then m4.put (A 18) (A (k + 1)) else m4.put (f 19) (A (k + 1))) = (0, m5) := by
      rw [hq.last]
      by_cases hz : os.length = 0
      · simp only [hz, if_true, beq_self_eq_true] at hl ⊢; rw [← q5, hl]
      · simp only [hz, if_false] at hl ⊢
        rw [A_eq0 (by omega), if_neg (by simp only [decide_eq_true_eq]; omega), ← q5, hl]
    simp only [e2, q1, beq_self_eq_true, if_true, q2, ek, q3, bne_self_eq_false, Bool.false_eq_true, if_false, e19, q4, hbr, q6, e20, q7, A_add1, q8]
  · constructor
    · simp only [List.length_append, List.length_cons, List.length_nil]
      rw [setf_ne _ _ _ _ (by omega), setf_ne _ _ _ _ (by omega), setf_ne _ _ _ _ (by rw [hl]; split <;> omega), setf_ne _ _ _ _ (by omega), setf_ne _ _ _ _ (by omega), setf_eq]
      congr 1; omega
    · rw [setf_ne _ _ _ _ (by omega), setf_ne _ _ _ _ (by omega), setf_ne _ _ _ _ (by rw [hl]; split <;> omega), setf_ne _ _ _ _ (by omega), setf_ne _ _ _ _ (by omega), setf_ne _ _ _ _ (by omega)]
      exact hq.upto
    · rw [setf_ne _ _ _ _ (by omega), setf_ne _ _ _ _ (by omega), setf_ne _ _ _ _ (by rw [hl]; split <;> omega), setf_ne _ _ _ _ (by omega), setf_ne _ _ _ _ (by omega), setf_ne _ _ _ _ (by omega)]
      exact hq.free
    · rw [setf_ne _ _ _ _ (by omega), setf_ne _ _ _ _ (by omega), if_neg (by simp)]
      by_cases hz : os.length = 0
      · simp only [hz, if_true] at hl
        subst hl
        rw [setf_eq, hk, hz]
      · simp only [hz, if_false] at hl
        rw [setf_ne _ _ _ _ (by omega), setf_ne _ _ _ _ (by omega), setf_ne _ _ _ _ (by omega), setf_ne _ _ _ _ (by omega), hq.first, if_neg hz]
    · rw [setf_ne _ _ _ _ (by omega), setf_eq, if_neg (by simp)]
      simp only [List.length_append, List.length_cons, List.length_nil]
      congr 1; omega
    · rw [setf_eq]; simp
    · intro i hi
      simp only [List.length_append, List.length_cons, List.length_nil] at hi
      rw [setf_ne _ _ _ _ (by omega), setf_ne _ _ _ _ (by omega), setf_ne _ _ _ _ (by rw [hl]; split <;> omega), setf_ne _ _ _ _ (by omega)]
      by_cases hi2 : i < os.length
      · rw [setf_ne _ _ _ _ (by omega), setf_ne _ _ _ _ (by omega), hq.word i hi2, List.getElem_append_left hi2]
      · have : i = os.length := by omega
        subst this
        rw [show s + 2 * os.length = k by omega, setf_eq]; simp
    · intro i hi
      simp only [List.length_append, List.length_cons, List.length_nil] at hi ⊢
      rw [setf_ne _ _ _ _ (by omega), setf_ne _ _ _ _ (by omega)]
      by_cases hi2 : i < os.length
      · rw [if_neg (by omega)]
        have hz : os.length ≠ 0 := by omega
        simp only [hz, if_false] at hl
        by_cases hi3 : i + 1 = os.length
        · rw [show s + 2 * i + 1 = l by omega, setf_eq]
          congr 1; omega
        · rw [setf_ne _ _ _ _ (by omega), setf_ne _ _ _ _ (by omega), setf_ne _ _ _ _ (by omega), setf_ne _ _ _ _ (by omega), hq.next i hi2, if_neg hi3]
      · have : i = os.length := by omega
        subst this
        rw [if_pos rfl, setf_ne _ _ _ _ (by rw [hl]; split <;> omega), show s + 2 * os.length + 1 = k + 1 by omega, setf_eq]
  · intro j h1 h2
    rw [setf_ne _ _ _ _ (by omega), setf_ne _ _ _ _ (by omega), setf_ne _ _ _ _ (by rw [hl]; split <;> omega), setf_ne _ _ _ _ (by omega), setf_ne _ _ _ _ (by omega), setf_ne _ _ _ _ (by omega)]
end Go.Proofs.Ytkfonlpglkfpgaa
