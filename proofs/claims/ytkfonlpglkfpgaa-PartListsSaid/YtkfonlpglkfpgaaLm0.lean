/- A list's chain, and the search over it. -/
import Derived.Test.YtkfonlpglkfpgaaLaw2
namespace Go.Proofs.Ytkfonlpglkfpgaa
set_option linter.unusedSimpArgs false
set_option linter.unusedVariables false
open Go.RowKit (wrap64)

/-- A chain of nodes from a pointer on: node i lies at 20 + 2i. -/
def Chn (n : Nat) (f : Nat → UInt64) : UInt64 → List (Nat × UInt64) → Prop
  | p, [] => p = 0
  | p, (i, k) :: r => p = A (21 + 2 * i) ∧ i < n ∧ f (20 + 2 * i) = k ∧ Chn n f (f (21 + 2 * i)) r
/-- The keys rise. -/
def Rise : List (Nat × UInt64) → Prop
  | [] => True
  | (_, k) :: r => (∀ x ∈ r, u k < u x.2) ∧ Rise r

/-- find: from, next, key, ahead, and what the function has come to. -/
def fscan {S : Type} (step : S → UInt64 → Bool × S) : S → UInt64 → UInt64 → Nat → List (Nat × UInt64) → (UInt64 × UInt64 × UInt64 × Nat) × S
  | s, frm, key, n, [] => ((frm, 0, key, n), s)
  | s, frm, key, n, (i, k) :: r => if (step s k).1 = true then fscan step (step s k).2 (A (21 + 2 * i)) k (n + 1) r else ((frm, A (21 + 2 * i), k, n), (step s k).2)

theorem fscan_le {S : Type} (step : S → UInt64 → Bool × S) : ∀ (c : List (Nat × UInt64)) (s : S) (frm key : UInt64) (n : Nat), (fscan step s frm key n c).1.2.2.2 ≤ n + c.length
  | [], s, frm, key, n => by simp [fscan]
  | (i, k) :: r, s, frm, key, n => by
    rw [fscan]
    split
    · have := fscan_le step r (step s k).2 (A (21 + 2 * i)) k (n + 1)
      simp only [List.length_cons]; omega
    · simp


end Go.Proofs.Ytkfonlpglkfpgaa
