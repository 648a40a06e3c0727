/- parleykit.Words, num, the functions of one word. -/
import Derived.Test.YtkfonlpglkfpgaaGive
namespace Go.Proofs.Ytkfonlpglkfpgaa
set_option linter.unusedSimpArgs false
set_option linter.unusedVariables false
open Go.RowKit

/-- A slice that reads as these words. -/
def Rd (w : World) (v : Value) (xs : List UInt64) : Prop :=
  ∃ (bo : Option Addr) (c : Nat), v = .slice bo xs.length c ∧ xs.length ≤ 9223372036854775807 ∧ ∀ i (h : i < xs.length), ∃ a : Addr, bo = some a ∧ w.cell? (a.add i) = some (U (xs[i]))

theorem Rw.rd {w : World} {base E : Nat} {bo : Option Addr} {c : Nat} {xs : List UInt64} (h : Rw w base E 1 encU bo c xs) : Rd w (.slice bo xs.length c) xs := by
  refine ⟨bo, c, rfl, h.len_le, ?_⟩
  intro i hi
  obtain ⟨b, rfl, hc⟩ := h.cell encU_len i 0 xs[i] (by simp [hi]) (U xs[i]) rfl
  refine ⟨_, rfl, ?_⟩
  rw [Nat.mul_one, Nat.add_zero] at hc
  unfold Addr.add
  split
  · subst_vars; simpa using hc
  · simpa using hc

theorem Rd.drewN {w : World} {v : Value} {xs : List UInt64} (h : Rd w v xs) (n : Nat) : Rd (w.drewN n) v xs := h

set_option maxHeartbeats 1600000 in
theorem kwords_same (w : World) (v1 v2 : Value) (xs : List UInt64) (h1 : Rd w v1 xs) (h2 : Rd w v2 xs) :
    Calls Try.prog 16 #[v1, v2] w fun e w' => e = .returned (.bool true) ∧ ∃ n, w' = w.drewN n := by
  obtain ⟨bo1, c1, rfl, hm, h1⟩ := h1
  obtain ⟨bo2, c2, rfl, _, h2⟩ := h2
  replace h1 := hide h1; replace h2 := hide h2
  have hl : ((xs.length : Int) != (xs.length : Int)) = false := by simp
  go_enter Try.func16, Try.ntmps16
  go_wp2_with fail
  go_loopw [5] (fun i wr => ∃ (k n : Nat), i = .int .i64 k ∧ wr = w.drewN n ∧ k ≤ xs.length) (fun i _ => xs.length - (intOf i).toNat)
  case atStart => exact ⟨0, 0, rfl, rfl, by omega⟩
  case round =>
    obtain ⟨k, n, rfl, rfl, hk⟩ := hrel
    by_cases hlt : k < xs.length
    · obtain ⟨a1, ha1, hc1⟩ := h1.out k hlt
      obtain ⟨a2, ha2, hc2⟩ := h2.out k hlt
      subst ha1; subst ha2
      have hd1 : (w.drewN n).cell? (a1.add k) = some (U xs[k]) := hc1
      have hd2 : (w.drewN n).cell? (a2.add k) = some (U xs[k]) := hc2
      have hne : (u xs[k] != u xs[k]) = false := by simp
      go_wp2_with fail
      go_quiet (fail)
      go_wp2_with fail
      go_roundw
      case rel => exact ⟨k + 1, _, by simp, by first | rfl | simp [World.drewN, Nat.add_assoc] , by omega⟩
      case measure => simp [intOf]; omega
    · have hl2 : ((k : Int) < (xs.length : Int)) = False := by simp; omega
      go_wp2_with fail
      go_ret
      exact ⟨rfl, n, rfl⟩

theorem num_any (w : World) (k : IntKind) (e : Int) : Calls Try.prog 8 #[.int .i64 e] w fun r w' => r = .returned (.int .i64 e) ∧ w' = w := by
  go_enter Try.func8, Try.ntmps8
  go_wp2_with fail
  go_ret
  exact ⟨rfl, rfl⟩
end Go.Proofs.Ytkfonlpglkfpgaa
