/- part: Queue. -/
import Derived.Test.YtkfonlpglkfpgaaPart
namespace Go.Proofs.Ytkfonlpglkfpgaa
set_option linter.unusedSimpArgs false
set_option linter.unusedVariables false
open Go.RowKit

set_option maxHeartbeats 1600000 in
theorem pqueue_any (x : TxB) (m : Mach) (w : World) (q : UInt64) (h : x.At m w) :
    Calls Try.prog 7 #[x.val, U q] w (x.Post w (.tuple #[(pqueue m q).1.val, .int .i64 (pqueue m q).2.1]) (pqueue m q).2.2) := by
  have hlt := h.lt
  have hn0 : w.heap.size ≠ x.ta ∧ w.heap.size ≠ x.wb ∧ w.heap.size ≠ x.mb := by omega
  have n0 : w.heap.size ∉ x.L := by simp only [List.mem_cons, List.not_mem_nil, or_false, not_or]; omega
  have hs : w.heap.size + 1 ≠ x.wb ∧ w.heap.size + 1 ≠ x.mb := by omega
  have b0 := (Blk.new w #[.int .i64 0, U 0, U 0] 35).alloc (.cells #[U q, U (q + 1), U (q + 2)] 23)
  have b1 := Blk.new (w.alloc (.cells #[.int .i64 0, U 0, U 0] 35)) #[U q, U (q + 1), U (q + 2)] 23
  simp only [World.size_alloc] at b1
  replace n0 := hide n0; replace b0 := hide b0; replace b1 := hide b1; replace hn0 := hide hn0; replace hs := hide hs
  go_enter Try.func7, Try.ntmps7
  go_wp2_with fail
  refine (cut_any x m _ 1 q (q + 2) [q, q + 1, q + 2] (w.heap.size + 1) ((h.alloc _).alloc _) b1.out hs.out (by simp)).mono ?_
  rintro e w1 ⟨rfl, hA1, hT1⟩
  have b2 := b0.out.tch hT1 n0.out
  have ca0 := b2.cell 0; have ca1 := b2.cell 1; have ca2 := b2.cell 2; have fa0 := b2.free 0; have fa1 := b2.free 1; have fa2 := b2.free 2; simp at ca0 ca1 ca2
  simp only [Prt.val]
  go_wp2_with fail
  refine bodyPost_ret (v := .tuple #[(pqueue m q).1.val, .int .i64 (pqueue m q).2.1]) (by simp [results, Try.results7, go_sem, ca0, ca1, ca2, fa0, fa1, fa2]; exact ⟨rfl, rfl⟩) rfl ?_
  refine ⟨rfl, ?_, ?_⟩
  · repeat (first | exact hA1 | (refine TxB.At.setOther ?_ hn0.out _))
  · repeat (first | exact (((Tch.refl _ _).alloc _).alloc _).trans hT1 | (refine Tch.setNew ?_ (by simp) _))
end Go.Proofs.Ytkfonlpglkfpgaa
