/- queue: the contracts. -/
import Derived.Test.YtkfonlpglkfpgaaRoom
import Derived.Test.YtkfonlpglkfpgaaSl
namespace Go.Proofs.Ytkfonlpglkfpgaa
set_option linter.unusedSimpArgs false
set_option linter.unusedVariables false
open Go.RowKit

/-- A queue.block at bb, over the tx x, with the error e kept. -/
structure QB (x : TxB) (bb : Nat) (e : Int) (m : Mach) (w : World) : Prop where
  at_ : x.At m w
  hb : w.heap[bb]? = some (.cells #[x.val, .int .i64 e] 67 (0, 0))
  n1 : bb ≠ x.ta
  n2 : bb ≠ x.wb
  n3 : bb ≠ x.mb
theorem QB.new {x : TxB} {m : Mach} {w : World} (h : x.At m w) (e : Int) : QB x w.heap.size e m (w.alloc (.cells #[x.val, .int .i64 e] 67)) :=
  ⟨h.alloc _, heap_alloc_new w _, Nat.ne_of_gt h.lt.1, Nat.ne_of_gt h.lt.2.1, Nat.ne_of_gt h.lt.2.2⟩
theorem QB.cell {x : TxB} {bb : Nat} {e : Int} {m : Mach} {w : World} (h : QB x bb e m w) :
    w.cell? ⟨bb, 0, none⟩ = some x.val ∧ w.cell? ⟨bb, 1, none⟩ = some (.int .i64 e) ∧ (∀ o, w.frozen? ⟨bb, o, none⟩ = false) := by
  refine ⟨?_, ?_, fun o => ?_⟩
  · simp [World.cell?, h.hb]
  · simp [World.cell?, h.hb]
  · simp [World.frozen?, h.hb]
/-- What a call on the tx leaves. -/
theorem QB.tch {x : TxB} {bb : Nat} {e : Int} {m m' : Mach} {w w' : World} (h : QB x bb e m w) (h' : x.At m' w') (ht : Tch x.L w w') : QB x bb e m' w' :=
  ⟨h', (ht.block bb (lt_of_block h.hb) (by simp [h.n2, h.n3])).trans h.hb, h.n1, h.n2, h.n3⟩
/-- The error is kept anew. -/
theorem QB.set {x : TxB} {bb : Nat} {e : Int} {m : Mach} {w : World} (h : QB x bb e m w) (e' : Int) : QB x bb e' m (w.setCell ⟨bb, 1, none⟩ (.int .i64 e')) :=
  ⟨h.at_.same (Below.heap_setCell _ _ _ _ h.n1.symm) (Below.heap_setCell _ _ _ _ h.n2.symm) (Below.heap_setCell _ _ _ _ h.n3.symm), by rw [heap_setCell_at h.hb]; rfl, h.n1, h.n2, h.n3⟩

/-- What a method of the block leaves. -/
def QPost (x : TxB) (bb : Nat) (w : World) (v : Value) (e' : Int) (m' : Mach) (e : Ending) (w' : World) : Prop := e = .returned v ∧ QB x bb e' m' w' ∧ Tch (bb :: x.L) w w'

theorem bget_any (x : TxB) (bb : Nat) (e : Int) (m : Mach) (w : World) (a : UInt64) (h : QB x bb e m w) :
    Calls Try.prog 33 #[.pointer (some ⟨bb, 0, none⟩), U a] w (QPost x bb w (U (bget m e a).1) (bget m e a).2.1 (bget m e a).2.2) := by
  obtain ⟨c0, c1, fz⟩ := h.cell
  have hA := h.at_
  obtain ⟨r, hr⟩ : ∃ r, r = bget m e a := ⟨_, rfl⟩
  rw [← hr]
  unfold bget at hr
  replace hr := hide hr
  by_cases he : e = 0
  · subst he
    go_enter Try.func33, Try.ntmps33
    go_wp2_with (first | (go_at_call 11; refine (tget x _ _ _ (by assumption)).mono ?_; rintro e w' ⟨rfl, hA', hT⟩; have hB := h.tch hA' hT; obtain ⟨d0, d1, fd⟩ := hB.cell; have fd1 := fd 1; clear fz))
    go_ret
    (have hq := hr.out; clear hr; (try simp only [beq_iff_eq, bne_iff_ne, ne_eq, bne_eq_false_iff_eq, beq_eq_false_iff_ne, Bool.or_eq_true, Bool.and_eq_true, Bool.or_eq_false_iff, Bool.and_eq_false_iff, decide_eq_true_eq, decide_eq_false_iff_not, Bool.not_eq_true, Bool.not_eq_false, Bool.not_eq_true', Bool.not_eq_false', Bool.true_eq_false, Bool.false_eq_true] at *); (try simp [*] at hq); (repeat' split at hq) <;> first | (exfalso; omega) | (subst hq; exact ⟨rfl, hB.set _, (hT.cons bb).setCell (by simp) _⟩))
  · have he' : (e != 0) = true := by simpa using he
    go_enter Try.func33, Try.ntmps33
    go_wp2
    go_ret
    (have hq := hr.out; clear hr; (try simp only [beq_iff_eq, bne_iff_ne, ne_eq, bne_eq_false_iff_eq, beq_eq_false_iff_ne, Bool.or_eq_true, Bool.and_eq_true, Bool.or_eq_false_iff, Bool.and_eq_false_iff, decide_eq_true_eq, decide_eq_false_iff_not, Bool.not_eq_true, Bool.not_eq_false, Bool.not_eq_true', Bool.not_eq_false', Bool.true_eq_false, Bool.false_eq_true] at *); (try simp [*] at hq); (repeat' split at hq) <;> first | (exfalso; omega) | (subst hq; exact ⟨rfl, h, Tch.refl _ _⟩))

theorem bput_any (x : TxB) (bb : Nat) (e : Int) (m : Mach) (w : World) (a v : UInt64) (h : QB x bb e m w) :
    Calls Try.prog 32 #[.pointer (some ⟨bb, 0, none⟩), U a, U v] w (QPost x bb w (.tuple #[]) (bput m e a v).1 (bput m e a v).2) := by
  obtain ⟨c0, c1, fz⟩ := h.cell
  have hA := h.at_
  obtain ⟨r, hr⟩ : ∃ r, r = bput m e a v := ⟨_, rfl⟩
  rw [← hr]
  unfold bput at hr
  replace hr := hide hr
  by_cases he : e = 0
  · subst he
    go_enter Try.func32, Try.ntmps32
    go_wp2_with (first | (go_at_call 13; refine (tput x _ _ _ _ (by assumption)).mono ?_; rintro e w' ⟨rfl, hA', hT⟩; have hB := h.tch hA' hT; obtain ⟨d0, d1, fd⟩ := hB.cell; have fd1 := fd 1; clear fz))
    go_end0
    (have hq := hr.out; clear hr; (try simp only [beq_iff_eq, bne_iff_ne, ne_eq, bne_eq_false_iff_eq, beq_eq_false_iff_ne, Bool.or_eq_true, Bool.and_eq_true, Bool.or_eq_false_iff, Bool.and_eq_false_iff, decide_eq_true_eq, decide_eq_false_iff_not, Bool.not_eq_true, Bool.not_eq_false, Bool.not_eq_true', Bool.not_eq_false', Bool.true_eq_false, Bool.false_eq_true] at *); (try simp [*] at hq); (repeat' split at hq) <;> first | (exfalso; omega) | (subst hq; exact ⟨rfl, hB.set _, (hT.cons bb).setCell (by simp) _⟩))
  · have he' : (e == 0) = false := by simpa using he
    go_enter Try.func32, Try.ntmps32
    go_wp2
    go_end0
    (have hq := hr.out; clear hr; (try simp only [beq_iff_eq, bne_iff_ne, ne_eq, bne_eq_false_iff_eq, beq_eq_false_iff_ne, Bool.or_eq_true, Bool.and_eq_true, Bool.or_eq_false_iff, Bool.and_eq_false_iff, decide_eq_true_eq, decide_eq_false_iff_not, Bool.not_eq_true, Bool.not_eq_false, Bool.not_eq_true', Bool.not_eq_false', Bool.true_eq_false, Bool.false_eq_true] at *); (try simp [*] at hq); (repeat' split at hq) <;> first | (exfalso; omega) | (subst hq; exact ⟨rfl, h, Tch.refl _ _⟩))
end Go.Proofs.Ytkfonlpglkfpgaa
