/- The plain law: words of a Mach. -/
import Derived.Test.YtkfonlpglkfpgaaM
namespace Go.Proofs.Ytkfonlpglkfpgaa
set_option linter.unusedSimpArgs false
set_option linter.unusedVariables false
open Go.RowKit (wrap64)

def A (k : Nat) : UInt64 := UInt64.ofNat k
theorem A_toNat {k : Nat} (h : k < 100000) : (A k).toNat = k := by simp only [A, UInt64.toNat_ofNat']; omega
theorem A_add (i j : Nat) : A i + A j = A (i + j) := by simp [A, UInt64.ofNat_add]
theorem A_inj {i j : Nat} (hi : i < 100000) (hj : j < 100000) : A i = A j ↔ i = j := by
  refine ⟨fun h => ?_, fun h => by rw [h]⟩
  have := congrArg UInt64.toNat h
  rwa [A_toNat hi, A_toNat hj] at this
theorem A0 : (0 : UInt64) = A 0 := rfl
theorem A1 : (1 : UInt64) = A 1 := rfl
theorem A2 : (2 : UInt64) = A 2 := rfl
theorem A3 : (3 : UInt64) = A 3 := rfl
theorem A_add1 (k : Nat) : A k + 1 = A (k + 1) := A_add k 1
theorem A_add2 (k : Nat) : A k + 2 = A (k + 2) := A_add k 2
theorem A_sub1 (k : Nat) : A (k + 1) - 1 = A k := by
  have : A (k + 1) = A k + 1 := (A_add1 k).symm
  rw [this]; simp
theorem A_eq0 {k : Nat} (h : k < 100000) : (A k == 0) = decide (k = 0) := by
  rw [Bool.eq_iff_iff, beq_iff_eq, decide_eq_true_eq, A0, A_inj h (by omega)]
theorem A_ne0 {k : Nat} (h : k < 100000) : (A k != 0) = decide (k ≠ 0) := by
  simp only [bne, A_eq0 h, decide_not]

/-- A cell. -/
def Mach.at (m : Mach) (k : Nat) : UInt64 := m.mem.getD k 0
/-- So many calls more are safe. -/
structure Ok (N : Nat) (m : Mach) (b : Nat) : Prop where
  len : m.mem.length = N
  neg : m.left < 0
  room : (b : Int) ≤ m.left + 9223372036854775807

theorem Ok.mono {N : Nat} {m : Mach} {b b' : Nat} (h : Ok N m b) (hb : b' ≤ b) : Ok N m b' := ⟨h.len, h.neg, by have := h.room; omega⟩

theorem wrap_dec {l : Int} (h : l < 0) (h' : (1 : Int) ≤ l + 9223372036854775807) : wrap64 (l - 1) = l - 1 := by
  unfold wrap64; omega

def Mach.tick (m : Mach) : Mach := { m with calls := wrap64 (m.calls + 1), left := wrap64 (m.left - 1) }
def Mach.upd (m : Mach) (k : Nat) (x : UInt64) : Mach := { mem := m.mem.set k x, code := m.code, calls := wrap64 (m.calls + 1), left := wrap64 (m.left - 1) }
theorem tick_at (m : Mach) (j : Nat) : m.tick.at j = m.at j := rfl
theorem upd_at (m : Mach) (k : Nat) (x : UInt64) (j : Nat) (hk : k < m.mem.length) : (m.upd k x).at j = if j = k then x else m.at j := by
  show (m.mem.set k x).getD j 0 = _
  unfold Mach.at
  rw [List.getD_eq_getElem?_getD, List.getD_eq_getElem?_getD, List.getElem?_set]
  split
  · subst_vars; simp [hk]
  · rw [if_neg (by omega)]
theorem Ok.tick {N : Nat} {m : Mach} {b : Nat} (h : Ok N m (b + 1)) : Ok N m.tick b := by
  have hw := wrap_dec h.neg (by have := h.room; omega)
  refine ⟨h.len, ?_, ?_⟩
  · show wrap64 (m.left - 1) < 0
    rw [hw]; have := h.neg; omega
  · show _ ≤ wrap64 (m.left - 1) + _
    rw [hw]; have := h.room; omega
theorem Ok.upd {N : Nat} {m : Mach} {b : Nat} (h : Ok N m (b + 1)) (k : Nat) (x : UInt64) : Ok N (m.upd k x) b := by
  have hw := wrap_dec h.neg (by have := h.room; omega)
  refine ⟨by simpa [Mach.upd] using h.len, ?_, ?_⟩
  · show wrap64 (m.left - 1) < 0
    rw [hw]; have := h.neg; omega
  · show _ ≤ wrap64 (m.left - 1) + _
    rw [hw]; have := h.room; omega
/-- A word is read. -/
theorem get_ok {N : Nat} {m : Mach} {b : Nat} (h : Ok N m (b + 1)) {k : Nat} (hk : k < N) (hN : N < 100000) : m.get (A k) = (m.at k, 0, m.tick) := by
  have h1 : m.left ≠ 0 := by have := h.neg; omega
  have h2 : (A k).toNat < m.mem.length := by rw [A_toNat (by omega), h.len]; exact hk
  unfold Mach.get
  rw [if_neg h1, if_pos h2, A_toNat (by omega)]; rfl
/-- A word is written. -/
theorem put_ok {N : Nat} {m : Mach} {b : Nat} (h : Ok N m (b + 1)) {k : Nat} (x : UInt64) (hk : k < N) (hN : N < 100000) : m.put (A k) x = (0, m.upd k x) := by
  have h1 : m.left ≠ 0 := by have := h.neg; omega
  have h2 : (A k).toNat < m.mem.length := by rw [A_toNat (by omega), h.len]; exact hk
  unfold Mach.put
  rw [if_neg h1, if_pos h2, A_toNat (by omega)]; rfl
/-- What a call leaves. -/
structure Eff (N : Nat) (m m' : Mach) (b : Nat) (f : Nat → UInt64) : Prop where
  ok : Ok N m' b
  at_ : ∀ j, j < N → m'.at j = f j
end Go.Proofs.Ytkfonlpglkfpgaa
