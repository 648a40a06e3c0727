/- Words (uint64) as Lean's UInt64 in a walk: the laws of the operations on them. No conditions. -/
import Derived.WalkKit
import Derived.WalkLawsBesides
import Derived.WalkSpells
namespace Go.Proofs.Ytkfonlpglkfpgaa
set_option linter.unusedSimpArgs false
set_option linter.unusedVariables false
open Go.RowKit

/-- A word as a number (a name that the walk does not open). -/
def u (x : UInt64) : Int := (x.toNat : Int)
theorem u_def (x : UInt64) : u x = (x.toNat : Int) := rfl
/-- A word as a value. -/
abbrev U (x : UInt64) : Value := .int .u64 (u x)

theorem u_inj {a b : UInt64} (h : u a = u b) : a = b := by
  simp only [u] at h
  exact UInt64.toNat_inj.1 (by omega)
theorem u_nonneg (a : UInt64) : 0 ≤ u a := by simp only [u]; omega
theorem u_lt (a : UInt64) : u a < 18446744073709551616 := by have := a.toNat_lt; simp only [u]; omega
theorem u_of (n : Int) (h : 0 ≤ n) (h' : n ≤ 18446744073709551615) : n = u (UInt64.ofNat n.toNat) := by
  simp only [u, UInt64.toNat_ofNat', Nat.reducePow]
  omega
/-- An integer of the kind uint64 is a word. -/
theorem U_of (n : Int) (h : 0 ≤ n) (h' : n ≤ 18446744073709551615) : Value.int .u64 n = U (UInt64.ofNat n.toNat) := congrArg _ (u_of n h h')

section
variable (a b : UInt64)
@[go_sem] theorem u_add : IntKind.u64.wrap (u a + u b) = u (a + b) := by
  simp [u, IntKind.wrap_u64, UInt64.toNat_add]
@[go_sem] theorem u_sub : IntKind.u64.wrap (u a - u b) = u (a - b) := by
  have ha := a.toNat_lt; have hb := b.toNat_lt
  have e : (((a.toNat : Int) - b.toNat) % 18446744073709551616) = ((a - b).toNat : Int) := by
    rw [UInt64.toNat_sub]; omega
  simp [u, IntKind.wrap_u64, e]
@[go_sem] theorem u_mul : IntKind.u64.wrap (u a * u b) = u (a * b) := by
  simp [u, IntKind.wrap_u64, UInt64.toNat_mul]
@[go_sem] theorem u_cast (n : Nat) : IntKind.u64.wrap (n : Int) = u (UInt64.ofNat n) := by
  simp [u, IntKind.wrap_u64, UInt64.toNat_ofNat']
@[go_sem] theorem u_wrap : IntKind.u64.wrap (u a) = u a := by
  have ha := a.toNat_lt
  simp only [u, IntKind.wrap_u64]; omega
@[go_sem] theorem u_beq : (u a == u b) = (a == b) := by
  rw [Bool.eq_iff_iff, beq_iff_eq, beq_iff_eq]
  exact ⟨u_inj, fun h => by rw [h]⟩
@[go_sem] theorem u_bne : (u a != u b) = (a != b) := by simp only [bne, u_beq]
@[go_sem] theorem u_eq : (u a = u b) = (a = b) := by
  rw [eq_iff_iff]; exact ⟨u_inj, fun h => by rw [h]⟩
@[go_sem] theorem u_ge0 : (0 ≤ u a) = True := by simp [u_nonneg]
@[go_sem] theorem u_ltn (n : Nat) : (u a < (n : Int)) = (a.toNat < n) := by
  simp only [u, eq_iff_iff]; omega
@[go_sem] theorem u_toNat : (u a).toNat = a.toNat := by simp [u]
end
/-- The literals, as facts that are no rules of a walk. -/
theorem lits : (u 0 ≤ 0 ∧ 0 ≤ u 0) ∧ (u 1 ≤ 1 ∧ 1 ≤ u 1) ∧ (u 16 ≤ 16 ∧ 16 ≤ u 16) ∧ (u 65536 ≤ 65536 ∧ 65536 ≤ u 65536) := by decide
@[go_sem] theorem L0 : Value.int .u64 0 = U 0 := rfl
@[go_sem] theorem L1 : Value.int .u64 1 = U 1 := rfl
@[go_sem] theorem L2 : Value.int .u64 2 = U 2 := rfl
@[go_sem] theorem L3 : Value.int .u64 3 = U 3 := rfl
@[go_sem] theorem L4 : Value.int .u64 4 = U 4 := rfl
@[go_sem] theorem L7 : Value.int .u64 7 = U 7 := rfl
@[go_sem] theorem L16 : Value.int .u64 16 = U 16 := rfl
@[go_sem] theorem L18 : Value.int .u64 18 = U 18 := rfl
@[go_sem] theorem L65536 : Value.int .u64 65536 = U 65536 := rfl
end Go.Proofs.Ytkfonlpglkfpgaa
