/- laid, filled. -/
import Derived.Test.YtkfonlpglkfpgaaLaid
import Derived.Deep.OwnRows
namespace Go.Proofs.Ytkfonlpglkfpgaa
set_option linter.unusedSimpArgs false
set_option linter.unusedVariables false
open Go.RowKit

def mlaid (n : Nat) : Mach := { (lay ⟨List.replicate n 0, -1, 0, 0⟩ 0 18 (UInt64.ofNat n)).2 with calls := 0 }

theorem info_u64 : (Try.prog.info? 23).map (fun i => (i.zero, i.size, i.bytes)) = some (some (.int .u64 0), 1, 8) := by kernel_rfl

set_option maxHeartbeats 1600000 in
theorem laid_any (n : Nat) (hn : n < 4000) (w : World) :
    Calls Try.prog 23 #[.int .i64 (n : Int)] w fun e w' => ∃ x : TxB, e = .returned (.pointer (some ⟨x.ta, 0, none⟩)) ∧ x.At (mlaid n) w' ∧ (w.heap.size ≤ x.ta ∧ w.heap.size ≤ x.wb ∧ w.heap.size ≤ x.mb) ∧ Tch [] w w' := by
  have hmk := run_make_row' (P := Try.prog) 22 23 (.int .u64 0) 8 Try.underlying22 info_u64 rfl .i64 .i64 n (by omega) (by omega)
  have hrep : (madeCells #[Value.int .u64 0] n) = ((List.replicate n (0 : UInt64)).map U).toArray := by
    apply Array.toList_inj.1
    rw [toList_madeCells_one]; simp [L0]
  rw [hrep] at hmk
  go_enter Try.func23, Try.ntmps23
  go_wp2_with fail
  have hA0 : (⟨w.heap.size + 1 + 1, w.heap.size + 1, w.heap.size⟩ : TxB).At ⟨List.replicate n 0, -1, 0, 0⟩ (((w.alloc (.cells (Array.replicate n (U 0)) 23)).alloc (.cells #[.slice (some ⟨w.heap.size, 0, none⟩) n n, .int .i64 (-1), .int .i64 0, .int .i64 0] 29)).alloc (.cells #[.pointer (some ⟨w.heap.size + 1, 0, none⟩)] 32)) := by
    have b0 := (Blk.new w (Array.replicate n (U 0)) 23).alloc (.cells #[.slice (some ⟨w.heap.size, 0, none⟩) n n, .int .i64 (-1), .int .i64 0, .int .i64 0] 29) |>.alloc (.cells #[.pointer (some ⟨w.heap.size + 1, 0, none⟩)] 32)
    have b1 := (Blk.new (w.alloc (.cells (Array.replicate n (U 0)) 23)) #[.slice (some ⟨w.heap.size, 0, none⟩) n n, .int .i64 (-1), .int .i64 0, .int .i64 0] 29).alloc (.cells #[.pointer (some ⟨w.heap.size + 1, 0, none⟩)] 32)
    have b2 := Blk.new ((w.alloc (.cells (Array.replicate n (U 0)) 23)).alloc (.cells #[.slice (some ⟨w.heap.size, 0, none⟩) n n, .int .i64 (-1), .int .i64 0, .int .i64 0] 29)) #[.pointer (some ⟨w.heap.size + 1, 0, none⟩)] 32
    simp only [World.size_alloc] at b1 b2
    refine ⟨b2, by simp only [List.length_replicate]; exact b1, ?_, by simp, by simp; omega, by simp, by simp; omega⟩
    have e : ((List.replicate n (0 : UInt64)).map U).toArray = Array.replicate n (U 0) := by simp
    show _ = some (Obj.cells ((List.replicate n (0 : UInt64)).map U).toArray _ _)
    rw [e]; exact b0
  have hT0 : Tch [] w (((w.alloc (.cells (Array.replicate n (U 0)) 23)).alloc (.cells #[.slice (some ⟨w.heap.size, 0, none⟩) n n, .int .i64 (-1), .int .i64 0, .int .i64 0] 29)).alloc (.cells #[.pointer (some ⟨w.heap.size + 1, 0, none⟩)] 32)) := (((Tch.refl _ _).alloc _).alloc _).alloc _
  refine (lay_any _ _ _ _ _ _ hA0).mono ?_
  rintro e w1 ⟨rfl, hA1, hT1⟩
  clear hA0 hmk hrep
  have hA1' := hide hA1
  obtain ⟨_, _, _, _, f1, _, c⟩ := hA1.c
  have f3 := f1 3
  have hTT := hide hT1
  have hT00 := hide hT0
  clear hA1 hT1 hT0 f1
  generalize hM : lay ⟨List.replicate n 0, -1, 0, 0⟩ 0 18 (UInt64.ofNat n) = r at *
  simp only at c f3
  go_wp2_with fail
  go_ret
  refine ⟨⟨w.heap.size + 1 + 1, w.heap.size + 1, w.heap.size⟩, rfl, ?_, ⟨by simp only; omega, by simp only; omega, Nat.le_refl _⟩, ?_⟩
  · have := hA1'.out.set3 0
    unfold mlaid; rw [hM]; exact this
  · refine Tch.setNew ?_ (by simp only; omega) _
    have h1 : Tch [w.heap.size + 1, w.heap.size] w w1 := (hT00.out.mono (by simp)).trans hTT.out
    exact Tch.drop (Nat.le_succ _) (Tch.drop (b := w.heap.size) (Nat.le_refl _) (h1.mono (by intro k hk; simp at hk ⊢; omega))) |> fun h => h
end Go.Proofs.Ytkfonlpglkfpgaa
