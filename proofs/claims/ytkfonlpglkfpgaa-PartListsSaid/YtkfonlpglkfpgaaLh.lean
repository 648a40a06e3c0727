/- list: the hand (a tx whose first error is kept), over a room in good state. -/
import Derived.Test.YtkfonlpglkfpgaaPart2
import Derived.Test.YtkfonlpglkfpgaaLaw2
namespace Go.Proofs.Ytkfonlpglkfpgaa
open Go.RowKit
set_option linter.unusedSimpArgs false
set_option linter.unusedVariables false

theorem tget_ok {x : TxB} {m m' : Mach} {w : World} {a v : UInt64} {e : Int} (h : x.At m w) (hq : m.get a = (v, e, m')) :
    Calls Try.prog 11 #[.pointer (some ⟨x.ta, 0, none⟩), U a] w (x.Post w (.tuple #[U v, .int .i64 e]) m') := by
  have := tget x m w a h; rw [hq] at this; exact this
theorem tput_ok {x : TxB} {m m' : Mach} {w : World} {a v : UInt64} {e : Int} (h : x.At m w) (hq : m.put a v = (e, m')) :
    Calls Try.prog 13 #[.pointer (some ⟨x.ta, 0, none⟩), U a, U v] w (x.Post w (.int .i64 e) m') := by
  have := tput x m w a v h; rw [hq] at this; exact this
theorem take_ok {x : TxB} {m m' : Mach} {w : World} {a s v : UInt64} {e : Int} (h : x.At m w) (hq : take m a s = (v, e, m')) :
    Calls Try.prog 31 #[x.val, U a, U s] w (x.Post w (.tuple #[U v, .int .i64 e]) m') := by
  have := take_any x m w a s h; rw [hq] at this; exact this

/-- A hand at hb without an error; its room reads as f, b accesses more are safe. -/
structure HG (x : TxB) (hb N b : Nat) (f : Nat → UInt64) (w : World) : Prop where
  hB : Blk w hb #[x.val, .int .i64 0] 80
  n1 : hb ≠ x.ta
  n2 : hb ≠ x.wb
  n3 : hb ≠ x.mb
  m : ∃ m, x.At m w ∧ Is N m b f
theorem HG.nL {x : TxB} {hb N b : Nat} {f : Nat → UInt64} {w : World} (h : HG x hb N b f w) : hb ∉ x.L := by
  simp only [List.mem_cons, List.not_mem_nil, or_false, not_or]; exact ⟨h.n2, h.n3⟩
theorem HG.mono {x : TxB} {hb N b b' : Nat} {f : Nat → UInt64} {w : World} (h : HG x hb N b f w) (hb' : b' ≤ b) : HG x hb N b' f w := by
  obtain ⟨m, hA, hI⟩ := h.m
  exact ⟨h.hB, h.n1, h.n2, h.n3, m, hA, hI.mono hb'⟩
theorem HG.alloc {x : TxB} {hb N b : Nat} {f : Nat → UInt64} {w : World} (h : HG x hb N b f w) (o : Obj) : HG x hb N b f (w.alloc o) := by
  obtain ⟨m, hA, hI⟩ := h.m
  exact ⟨h.hB.alloc o, h.n1, h.n2, h.n3, m, hA.alloc o, hI⟩
theorem HG.drewN {x : TxB} {hb N b : Nat} {f : Nat → UInt64} {w : World} (h : HG x hb N b f w) (n : Nat) : HG x hb N b f (w.drewN n) := by
  obtain ⟨m, hA, hI⟩ := h.m
  exact ⟨h.hB, h.n1, h.n2, h.n3, m, hA.drewN n, hI⟩
theorem HG.drew {x : TxB} {hb N b : Nat} {f : Nat → UInt64} {w : World} (h : HG x hb N b f w) : HG x hb N b f w.drew := by
  obtain ⟨m, hA, hI⟩ := h.m
  exact ⟨h.hB, h.n1, h.n2, h.n3, m, hA.drew, hI⟩
theorem HG.setOther {x : TxB} {hb N b : Nat} {f : Nat → UInt64} {w : World} (h : HG x hb N b f w) (p : Addr) (v : Value) (h1 : p.block ≠ x.ta ∧ p.block ≠ x.wb ∧ p.block ≠ x.mb) (h2 : p.block ≠ hb) : HG x hb N b f (w.setCell p v) := by
  obtain ⟨m, hA, hI⟩ := h.m
  exact ⟨h.hB.setOther p v h2, h.n1, h.n2, h.n3, m, hA.setOther h1 v, hI⟩
theorem HG.blocks {x : TxB} {hb N b : Nat} {f : Nat → UInt64} {w w' : World} (h : HG x hb N b f w) (h0 : w'.heap[hb]? = w.heap[hb]?) (h1 : w'.heap[x.ta]? = w.heap[x.ta]?) (h2 : w'.heap[x.wb]? = w.heap[x.wb]?) (h3 : w'.heap[x.mb]? = w.heap[x.mb]?) : HG x hb N b f w' := by
  obtain ⟨m, hA, hI⟩ := h.m
  exact ⟨h0.trans h.hB, h.n1, h.n2, h.n3, m, hA.same h1 h2 h3, hI⟩
theorem HG.lt {x : TxB} {hb N b : Nat} {f : Nat → UInt64} {w : World} (h : HG x hb N b f w) : hb < w.heap.size ∧ x.ta < w.heap.size ∧ x.wb < w.heap.size ∧ x.mb < w.heap.size := by
  obtain ⟨m, hA, hI⟩ := h.m
  exact ⟨h.hB.lt, hA.lt⟩
/-- A hand laid over a tx. -/
theorem HG.new {x : TxB} {m : Mach} {N b : Nat} {f : Nat → UInt64} {w : World} (hA : x.At m w) (hI : Is N m b f) : HG x w.heap.size N b f (w.alloc (.cells #[x.val, .int .i64 0] 80)) :=
  ⟨Blk.new _ _ _, Nat.ne_of_gt hA.lt.1, Nat.ne_of_gt hA.lt.2.1, Nat.ne_of_gt hA.lt.2.2, m, hA.alloc _, hI⟩

/-- What a method of the hand leaves. -/
def HPost (x : TxB) (hb N b : Nat) (f : Nat → UInt64) (w : World) (v : Value) (e : Ending) (w' : World) : Prop := e = .returned v ∧ HG x hb N b f w' ∧ Tch (hb :: x.L) w w'

theorem hget_ok {x : TxB} {hb N b : Nat} {f : Nat → UInt64} {w : World} (h : HG x hb N (b + 1) f w) (k : Nat) (v : UInt64) (hv : f k = v) (hk : k < N) (hN : N < 100000) :
    Calls Try.prog 47 #[.pointer (some ⟨hb, 0, none⟩), U (A k)] w (HPost x hb N b f w (U v)) := by
  subst hv
  obtain ⟨hB, n1, n2, n3, m, hA, hI⟩ := h
  obtain ⟨m1, q1, i1⟩ := get_is' hI hk hN
  have hB' := hide hB
  have c0 := hB.cell 0; have c1 := hB.cell 1
  simp at c0 c1
  replace q1 := hide q1; replace i1 := hide i1
  clear hB hI
  go_enter Try.func47, Try.ntmps47
  go_wp2_with (first | (go_at_call 11; refine (tget_ok hA q1.out).mono ?_; rintro e w' ⟨rfl, hA', hT⟩))
  go_ret
  exact ⟨rfl, ⟨hB'.out.tch hT (by simp [n2, n3]), n1, n2, n3, m1, hA', i1.out⟩, hT.cons hb⟩

theorem hput_ok {x : TxB} {hb N b : Nat} {f : Nat → UInt64} {w : World} (h : HG x hb N (b + 1) f w) (k : Nat) (v : UInt64) (hk : k < N) (hN : N < 100000) :
    Calls Try.prog 45 #[.pointer (some ⟨hb, 0, none⟩), U (A k), U v] w (HPost x hb N b (setf f k v) w (.tuple #[])) := by
  obtain ⟨hB, n1, n2, n3, m, hA, hI⟩ := h
  obtain ⟨m1, q1, i1⟩ := put_is' hI v hk hN
  have hB' := hide hB
  have c0 := hB.cell 0; have c1 := hB.cell 1
  simp at c0 c1
  replace q1 := hide q1; replace i1 := hide i1
  clear hB hI
  go_enter Try.func45, Try.ntmps45
  go_wp2_with (first | (go_at_call 13; refine (tput_ok hA q1.out).mono ?_; rintro e w' ⟨rfl, hA', hT⟩; have hB2 := hB'.out.tch hT (by simp [n2, n3]); have d1 := hB2.cell 1; have fd := hB2.free 1; simp at d1))
  go_end0
  exact ⟨rfl, ⟨hB2.set 1 _, n1, n2, n3, m1, hA'.setOther (by exact ⟨n1, n2, n3⟩) _, i1.out⟩, (hT.cons hb).setCell (by simp) _⟩

theorem htake_ok {x : TxB} {hb N b k s : Nat} {f : Nat → UInt64} {w : World} (h : HG x hb N (b + 4) f w) (h1 : 1 ≤ s) (h2 : s ≤ 16) (hf : f (1 + s) = 0) (h0 : f 0 = A k) (hu : f 1 = A N) (hk : k + s ≤ N) (h17 : 17 < N) (hN : N < 100000) :
    Calls Try.prog 44 #[.pointer (some ⟨hb, 0, none⟩), U 0, U (A s)] w (HPost x hb N b (setf f 0 (A (k + s))) w (U (A k))) := by
  obtain ⟨hB, n1, n2, n3, m, hA, hI⟩ := h
  obtain ⟨m1, q1, i1⟩ := take_fresh hI h1 h2 hf h0 hu hk h17 hN
  have hB' := hide hB
  have c0 := hB.cell 0; have c1 := hB.cell 1
  simp at c0 c1
  replace q1 := hide q1; replace i1 := hide i1
  clear hB hI
  go_enter Try.func44, Try.ntmps44
  go_wp2_with (first | (go_at_call 31; refine (take_ok hA q1.out).mono ?_; rintro e w' ⟨rfl, hA', hT⟩; have hB2 := hB'.out.tch hT (by simp [n2, n3]); have d1 := hB2.cell 1; have fd := hB2.free 1; simp at d1))
  go_ret
  exact ⟨rfl, ⟨hB2.set 1 _, n1, n2, n3, m1, hA'.setOther (by exact ⟨n1, n2, n3⟩) _, i1.out⟩, (hT.cons hb).setCell (by simp) _⟩
end Go.Proofs.Ytkfonlpglkfpgaa
