/- The plain law: laid, filled, Queue. -/
import Derived.Test.YtkfonlpglkfpgaaLaw2
import Derived.Test.YtkfonlpglkfpgaaFill
namespace Go.Proofs.Ytkfonlpglkfpgaa
set_option linter.unusedSimpArgs false
set_option linter.unusedVariables false
open Go.RowKit (wrap64)

theorem Is.congr {N : Nat} {m : Mach} {b : Nat} {f g : Nat → UInt64} (h : Is N m b f) (hg : ∀ j, j < N → f j = g j) : Is N m b g := ⟨h.ok, fun j hj => (h.at_ j hj).trans (hg j hj)⟩

theorem layL_is {N : Nat} (h17 : 17 < N) (hN : N < 100000) : ∀ (k n : Nat) {m : Mach} {b : Nat} {f : Nat → UInt64}, n + k = 17 → 1 ≤ n → (∀ j, 2 ≤ j → j < 18 → f j = 0) → Is N m (b + k) f → ∃ m', layL 0 k (A n) 0 m = (0, m') ∧ Is N m' b f
  | 0, n, m, b, f, _, _, _, h => ⟨m, rfl, h⟩
  | k + 1, n, m, b, f, hn, h1, hz, h => by
    obtain ⟨m1, q1, i1⟩ := put_is' (b := b + k) h 0 (k := 1 + n) (by omega) hN
    have i1' : Is N m1 (b + k) f := i1.congr fun j _ => by
      unfold setf; split
      · rename_i hj; rw [hj, hz _ (by omega) (by omega)]
      · rfl
    obtain ⟨m2, q2, i2⟩ := layL_is h17 hN k (n + 1) (by omega) (by omega) hz i1'
    refine ⟨m2, ?_, i2⟩
    rw [layL, if_pos (by rfl), show (0 : UInt64) + 1 + A n = A (1 + n) by rw [A0, A1, A_add, A_add], q1, A_add1]
    exact q2

def f0 (N : Nat) : Nat → UInt64 := fun j => if j = 0 then A 18 else if j = 1 then A N else 0
theorem mlaid_is {N : Nat} (h17 : 20 < N) (hN : N < 4000) : Is N (mlaid N) 9000000000000000000 (f0 N) := by
  have h0 : Is N ⟨List.replicate N 0, -1, 0, 0⟩ (9000000000000000000 + 16 + 1 + 1) (fun _ => 0) :=
    ⟨⟨by simp, by simp, by simp⟩, fun j hj => by simp [Mach.at, List.getD_eq_getElem?_getD, List.getElem?_replicate, hj]⟩
  obtain ⟨m1, q1, i1⟩ := put_is' h0 (A 18) (k := 0) (by omega) (by omega)
  obtain ⟨m2, q2, i2⟩ := put_is' i1 (A N) (k := 1) (by omega) (by omega)
  obtain ⟨m3, q3, i3⟩ := layL_is (by omega) (by omega) 16 1 (by omega) (by omega) (fun j h1 h2 => by rw [setf_ne _ _ _ _ (by omega), setf_ne _ _ _ _ (by omega)]) i2
  have hlay : lay ⟨List.replicate N 0, -1, 0, 0⟩ 0 18 (A N) = (0, m3) := by
    unfold lay
    rw [show decide (u (A N) < u 18) = false by rw [decide_eq_false_iff_not, u_A (by omega)]; show ¬ ((N : Int) < 18); omega]
    rw [show (Mach.mk (List.replicate N 0) (-1) 0 0).put 0 18 = (Mach.mk (List.replicate N 0) (-1) 0 0).put (A 0) (A 18) from rfl, q1]
    simp only [Bool.false_eq_true, if_false, bne_self_eq_false]
    rw [show (0 : UInt64) + 1 = A 1 from rfl, q2]
    exact q3
  unfold mlaid
  rw [show UInt64.ofNat N = A N from rfl, hlay]
  refine Is.congr (f := setf (setf (fun _ => 0) 0 (A 18)) 1 (A N)) ⟨⟨i3.ok.len, i3.ok.neg, i3.ok.room⟩, i3.at_⟩ fun j _ => ?_
  unfold setf f0
  by_cases h1 : j = 1
  · subst h1; simp
  · simp [h1]
theorem qnew_is {N : Nat} {m : Mach} {b : Nat} {f : Nat → UInt64} {k : Nat} (h : Is N m (b + 7) f) (hf : f 4 = 0) (h0 : f 0 = A k) (hu : f 1 = A N) (hk : k + 3 ≤ N) (hk1 : 17 < k) (hN : N < 100000) :
    ∃ m', qnew m 0 = (A k, 0, m') ∧ Is N m' b (setf (setf (setf (setf f 0 (A (k + 3))) k 0) (k + 1) 0) (k + 2) 0) := by
  obtain ⟨m1, q1, i1⟩ := take_fresh (b := b + 3) (s := 3) h (by omega) (by omega) hf h0 hu hk (by omega) hN
  obtain ⟨m2, q2, i2⟩ := put_is' i1 0 (k := k) (by omega) hN
  obtain ⟨m3, q3, i3⟩ := put_is' i2 0 (k := k + 1) (by omega) hN
  obtain ⟨m4, q4, i4⟩ := put_is' i3 0 (k := k + 2) (by omega) hN
  refine ⟨m4, ?_, i4⟩
  unfold qnew bput
  simp only [show take m 0 3 = take m 0 (A 3) from rfl, q1, beq_self_eq_true, if_true, q2, A_add1, q3, A_add2, q4, bne_self_eq_false, Bool.false_eq_true, if_false]
theorem fillL_is {N s : Nat} (hs : 21 ≤ s) (hN : N < 100000) : ∀ (ws : List UInt64) {os : List UInt64} {m : Mach} {b : Nat} {f : Nat → UInt64}, Is N m (b + 11 * ws.length) f → QSt N s os f → s + 2 * (os.length + ws.length) ≤ N →
    ∃ m' f', fillL (A 18) ws true m = (true, m') ∧ Is N m' b f' ∧ QSt N s (os ++ ws) f' ∧ ∀ j, 21 ≤ j → j < s → f' j = f j
  | [], os, m, b, f, h, hq, hr => ⟨m, f, rfl, h, by simpa using hq, fun _ _ _ => rfl⟩
  | x :: ws, os, m, b, f, h, hq, hr => by
    simp only [List.length_cons] at hr h
    obtain ⟨m1, f1, q1, i1, s1, a1⟩ := qput_is x (b := b + 11 * ws.length) (h.mono (by omega)) hq hs (by omega) hN
    obtain ⟨m2, f2, q2, i2, s2, a2⟩ := fillL_is hs hN ws i1 s1 (by simp only [List.length_append, List.length_cons, List.length_nil]; omega)
    refine ⟨m2, f2, ?_, i2, by simpa using s2, fun j h1 h2 => (a2 j h1 h2).trans (a1 j h1 h2)⟩
    rw [fillL, q1]; exact q2
theorem filled_is (ws : List UInt64) (h : ws.length ≤ 300) : ∃ m f, mfilled ws = (m, A 18, true) ∧ Is 1000 m 8000000000000000000 f ∧ QSt 1000 21 ws f := by
  obtain ⟨m1, q1, i1⟩ := qnew_is (b := 8999999999999999993) (k := 18) (mlaid_is (N := 1000) (by omega) (by omega)) rfl rfl rfl (by omega) (by omega) (by omega)
  have hq : QSt 1000 21 [] (setf (setf (setf (setf (f0 1000) 0 (A (18 + 3))) 18 0) (18 + 1) 0) (18 + 2) 0) :=
    ⟨rfl, rfl, rfl, rfl, rfl, rfl, fun i h => by simp at h, fun i h => by simp at h⟩
  obtain ⟨m2, f2, q2, i2, s2, _⟩ := fillL_is (N := 1000) (s := 21) (by omega) (by omega) ws (b := 8000000000000000000) (i1.mono (by omega)) hq (by simp only [List.length_nil]; omega)
  refine ⟨m2, f2, ?_, i2, s2⟩
  unfold mfilled
  rw [q1]
  simp only [beq_self_eq_true]
  rw [q2]

/-- Words that lie one behind the other, in a chain. -/
structure Seg (s : Nat) (ws : List UInt64) (f : Nat → UInt64) : Prop where
  word : ∀ i (h : i < ws.length), f (s + 2 * i) = ws[i]
  next : ∀ i, i < ws.length → f (s + 2 * i + 1) = if i + 1 = ws.length then 0 else A (s + 2 * i + 3)
theorem Seg.congr {s : Nat} {ws : List UInt64} {f g : Nat → UInt64} (h : Seg s ws f) (hg : ∀ j, s ≤ j → j < s + 2 * ws.length → g j = f j) : Seg s ws g :=
  ⟨fun i hi => (hg _ (by omega) (by omega)).trans (h.word i hi), fun i hi => (hg _ (by omega) (by omega)).trans (h.next i hi)⟩

/-- The part of a queue. -/
def part (s n : Nat) : Prt := ⟨1, if n = 0 then 0 else A (s + 1), A n⟩

theorem wrap64_small {n : Int} (h : -9223372036854775808 ≤ n) (h' : n ≤ 9223372036854775807) : wrap64 n = n := by unfold wrap64; omega

theorem pqueue_is {N s : Nat} {m : Mach} {b : Nat} {f : Nat → UInt64} {os : List UInt64} (h : Is N m (b + 5) f) (hq : QSt N s os f) (hs : 21 ≤ s) (hN : N < 100000) (h21 : 21 ≤ N) :
    ∃ m' f', pqueue m (A 18) = (part s os.length, 0, m') ∧ Is N m' b f' ∧ QSt N (s + 2 * os.length) [] f' ∧ (∀ j, 21 ≤ j → f' j = f j) ∧ (m.calls = 0 → m'.calls = 5) := by
  have c1 := get_is (b := b + 4) h (k := 18) (by omega) hN
  have c2 := get_is (b := b + 3) c1.2 (k := 20) (by omega) hN
  have c3 := put_is (b := b + 2) c2.2 0 (k := 18) (by omega) hN
  have c4 := put_is (b := b + 1) c3.2 0 (k := 19) (by omega) hN
  have c5 := put_is (b := b) c4.2 0 (k := 20) (by omega) hN
  refine ⟨_, _, ?_, c5.2, ?_, ?_, ?_⟩
  · have e20 : A 18 + 2 = A 20 := rfl
    have e19 : A 18 + 1 = A 19 := rfl
    unfold pqueue cut
    rw [e20, e19, c1.1]
    simp only [bne_self_eq_false, Bool.false_eq_true, if_false, c2.1, cutL_cons, cutL_nil, c3.1, c4.1, c5.1]
    rw [hq.first, hq.count]; rfl
  · refine ⟨?_, ?_, ?_, rfl, ?_, rfl, fun i hi => by simp at hi, fun i hi => by simp at hi⟩
    · rw [setf_ne _ _ _ _ (by omega), setf_ne _ _ _ _ (by omega), setf_ne _ _ _ _ (by omega), hq.fresh]; rfl
    · rw [setf_ne _ _ _ _ (by omega), setf_ne _ _ _ _ (by omega), setf_ne _ _ _ _ (by omega), hq.upto]
    · rw [setf_ne _ _ _ _ (by omega), setf_ne _ _ _ _ (by omega), setf_ne _ _ _ _ (by omega), hq.free]
    · rfl
  · intro j hj
    rw [setf_ne _ _ _ _ (by omega), setf_ne _ _ _ _ (by omega), setf_ne _ _ _ _ (by omega)]
  · intro hc
    show wrap64 (wrap64 (wrap64 (wrap64 (wrap64 (m.calls + 1) + 1) + 1) + 1) + 1) = 5
    rw [hc]; unfold wrap64; omega
end Go.Proofs.Ytkfonlpglkfpgaa
