/- The plain law: Queue again, Give, Len. -/
import Derived.Test.YtkfonlpglkfpgaaLaw6
namespace Go.Proofs.Ytkfonlpglkfpgaa
set_option linter.unusedSimpArgs false
set_option linter.unusedVariables false
open Go.RowKit (wrap64)

theorem pqueue_qw {N s : Nat} {m : Mach} {b : Nat} {f : Nat → UInt64} {os : List UInt64} (h : Is N m (b + 5) f) (hq : QW s os f) (hN : N < 100000) (h21 : 21 ≤ N) :
    ∃ m' f', pqueue m (A 18) = (part s os.length, 0, m') ∧ Is N m' b f' ∧ f' 20 = 0 ∧ ∀ j, (j < 18 ∨ 21 ≤ j) → f' j = f j := by
  have c1 := get_is (b := b + 4) h (k := 18) (by omega) hN
  have c2 := get_is (b := b + 3) c1.2 (k := 20) (by omega) hN
  have c3 := put_is (b := b + 2) c2.2 0 (k := 18) (by omega) hN
  have c4 := put_is (b := b + 1) c3.2 0 (k := 19) (by omega) hN
  have c5 := put_is (b := b) c4.2 0 (k := 20) (by omega) hN
  refine ⟨_, _, ?_, c5.2, rfl, ?_⟩
  · have e20 : A 18 + 2 = A 20 := rfl
    have e19 : A 18 + 1 = A 19 := rfl
    unfold pqueue cut
    rw [e20, e19, c1.1]
    simp only [bne_self_eq_false, Bool.false_eq_true, if_false, c2.1, cutL_cons, cutL_nil, c3.1, c4.1, c5.1]
    rw [hq.first, hq.count]; rfl
  · intro j hj
    rw [setf_ne _ _ _ _ (by omega), setf_ne _ _ _ _ (by omega), setf_ne _ _ _ _ (by omega)]

theorem pgive_law {N s : Nat} {ws : List UInt64} {l : List Nat} {m : Mach} {b : Nat} {f : Nat → UInt64} (h : Is N m (b + 5 * ws.length) f) (hq : Seg s ws f) (hs : 21 ≤ s) (hr : s + 2 * ws.length ≤ N) (hN : N < 60000)
    (h2 : ∀ a ∈ l, ∀ q, q < ws.length → a ≠ s + 2 * q) (h3 : ∀ a ∈ l, 3 < a) (hf : FreeC N f (f 3) l) :
    ∃ m' f', pgive m 0 (part s ws.length) = (0, m') ∧ Is N m' b f' ∧ (∃ l', FreeC N f' (f' 3) l' ∧ l'.length = l.length + ws.length) ∧ f' 20 = f 20 := by
  obtain ⟨m1, q1, i1⟩ := pnodes_is (b := b + 3 * ws.length) (h.mono (by omega)) hq hs hr (by omega) (by omega)
  obtain ⟨m2, f2, q2, i2, hl, h20⟩ := giveL_is hs hN ws.length 0 (by omega) (fun a ha q _ hq => h2 a ha q (by omega)) h3 hf i1
  refine ⟨m2, f2, ?_, i2, hl, h20⟩
  unfold pgive
  rw [q1]
  simp only [bne_self_eq_false, Bool.false_eq_true, if_false]
  rw [List.range_eq_range']; exact q2

theorem qlen_is {N : Nat} {m : Mach} {b : Nat} {f : Nat → UInt64} (h : Is N m (b + 1) f) (hN : N < 100000) (h21 : 21 ≤ N) : ∃ m', qlen m (A 18) = (f 20, 0, m') ∧ Is N m' b f := by
  obtain ⟨m', q, i⟩ := get_is' h (k := 20) (by omega) hN
  exact ⟨m', q, i⟩
end Go.Proofs.Ytkfonlpglkfpgaa
