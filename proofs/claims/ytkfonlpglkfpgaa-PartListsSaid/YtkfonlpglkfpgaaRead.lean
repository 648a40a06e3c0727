/- part: what Read's and nodes' functions do. -/
import Derived.Test.YtkfonlpglkfpgaaEach
namespace Go.Proofs.Ytkfonlpglkfpgaa
set_option linter.unusedSimpArgs false
set_option linter.unusedVariables false
open Go.RowKit

/-- The list that is gathered in the variable at lb, behind the block pb. -/
structure JL (x : TxB) (W0 : World) (lb pb : Nat) (s : List UInt64) (m : Mach) (w : World) : Prop where
  at_ : x.At m w
  tch : Tch x.L W0 w
  size : pb < w.heap.size
  l : ∃ bo c, Blk w lb #[.slice bo s.length c] 22 ∧ Rw w (pb + 1) 23 1 encU bo c s

/-- Where these lie. -/
structure JLfix (x : TxB) (W0 : World) (lb pb : Nat) : Prop where
  h1 : W0.heap.size ≤ lb
  h2 : lb < pb
  h3 : x.ta < W0.heap.size ∧ x.wb < W0.heap.size ∧ x.mb < W0.heap.size

theorem JL.tchTx {x : TxB} {W0 : World} {lb pb : Nat} (hf : JLfix x W0 lb pb) {s : List UInt64} {m m' : Mach} {w w' : World} (h : JL x W0 lb pb s m w) (hA : x.At m' w') (ht : Tch x.L w w') : JL x W0 lb pb s m' w' := by
  obtain ⟨bo, c, hb, hr⟩ := h.l
  have f1 := hf.h1; have f2 := hf.h2; have f3 := hf.h3
  refine ⟨hA, h.tch.trans ht, Nat.lt_of_lt_of_le h.size ht.size, bo, c, hb.tch ht (by simp; omega), hr.tch ht ?_⟩
  intro b hb
  simp at hb
  omega

theorem callR (x : TxB) (W0 : World) (lb pb : Nat) (hf : JLfix x W0 lb pb) (s : List UInt64) (m : Mach) (w : World) (a b : UInt64) (h : JL x W0 lb pb s m w) (hc : s.length < 65536) :
    Calls Try.prog 35 (#[U a, U b] ++ #[.pointer (some ⟨lb, 0, none⟩)]) w fun e w' =>
      e = .returned (.int .i64 0) ∧ JL x W0 lb pb (s ++ [b]) m w' ∧ w'.heap[pb]? = w.heap[pb]? := by
  obtain ⟨bo, c, hb, hr⟩ := h.l
  have hT := hide h.tch; have hsz := hide h.size; have hA := hide h.at_
  have f1 := hide hf.h1; have f2 := hide hf.h2; have f3 := hide hf.h3
  have c0 := hb.cell 0
  simp at c0
  have hsz' := h.size
  go_enter Try.func35, Try.ntmps35
  go_wp2_with (first | (at_builtin; refine wpList_append_e rfl (.tmp 6) (.tmp 8) 22 23 1 8 rfl elemU (pb + 1) encU encU_len encU_one bo c s rfl (hr.alloc _) ⟨_, 0, none⟩ 1 1 [b] rfl rfl (news_one _ _ _) (by unfold maxLen; simp only [List.length_cons, List.length_nil]; omega) (by simp only [List.length_cons, List.length_nil]; omega) (by simp only [World.size_alloc]; omega) ?_; intro bo' c' w2 hr2 hG; have hlb : some lb ≠ bo.map (·.block) := (fun e => (by have := hr.row _ e.symm; have := f2.out; omega)); have b2 : Blk w2 lb #[.slice bo s.length c] 22 := (hG.block lb (by have := f2.out; simp only [World.size_alloc]; omega) hlb).trans (hb.alloc _); have c2 := b2.cell 0; have g2 := b2.free 0; simp at c2))
  go_ret
  refine ⟨rfl, ⟨?_, ?_, ?_, bo', c', ?_, ?_⟩, ?_⟩
  · have := f1.out; have := f2.out; have := f3.out
    exact ((hA.out.alloc _).grown hG hr.row (by omega)).setOther (p := ⟨lb, 0, none⟩) (by simp only; omega) _
  · have := f1.out; have := f2.out; have := f3.out
    exact ((hT.out.alloc _).row hG hr.row (by omega)).setNew (p := ⟨lb, 0, none⟩) f1.out _
  · have := hG.size
    simp only [World.size_alloc] at this
    simp only [World.setCell, Array.size_modify]; omega
  · have := b2.set 0 (.slice bo' (s.length + 1) c')
    simpa using this
  · refine hr2.setOther _ _ ?_
    intro a' ha
    have := hr2.block a' ha; have := f2.out
    simp only; omega
  · have e1 : (w2.setCell ⟨lb, 0, none⟩ (.slice bo' (s.length + 1) c')).heap[pb]? = w2.heap[pb]? := Below.heap_setCell _ _ _ _ (by have := f2.out; simp only; omega)
    rw [e1, hG.block pb (by simp only [World.size_alloc]; omega) (by intro e'; have := hr.row _ e'.symm; omega), Below.heap_alloc _ _ _ (by omega)]
theorem callN (x : TxB) (W0 : World) (lb pb : Nat) (hf : JLfix x W0 lb pb) (s : List UInt64) (m : Mach) (w : World) (a b : UInt64) (h : JL x W0 lb pb s m w) (hc : s.length < 65536) :
    Calls Try.prog 51 (#[U a, U b] ++ #[.pointer (some ⟨lb, 0, none⟩)]) w fun e w' =>
      e = .returned (.int .i64 0) ∧ JL x W0 lb pb (s ++ [a]) m w' ∧ w'.heap[pb]? = w.heap[pb]? := by
  obtain ⟨bo, c, hb, hr⟩ := h.l
  have hT := hide h.tch; have hsz := hide h.size; have hA := hide h.at_
  have f1 := hide hf.h1; have f2 := hide hf.h2; have f3 := hide hf.h3
  have c0 := hb.cell 0
  simp at c0
  have hsz' := h.size
  go_enter Try.func51, Try.ntmps51
  go_wp2_with (first | (at_builtin; refine wpList_append_e rfl (.tmp 6) (.tmp 8) 22 23 1 8 rfl elemU (pb + 1) encU encU_len encU_one bo c s rfl (hr.alloc _) ⟨_, 0, none⟩ 1 1 [a] rfl rfl (news_one _ _ _) (by unfold maxLen; simp only [List.length_cons, List.length_nil]; omega) (by simp only [List.length_cons, List.length_nil]; omega) (by simp only [World.size_alloc]; omega) ?_; intro bo' c' w2 hr2 hG; have hlb : some lb ≠ bo.map (·.block) := (fun e => (by have := hr.row _ e.symm; have := f2.out; omega)); have b2 : Blk w2 lb #[.slice bo s.length c] 22 := (hG.block lb (by have := f2.out; simp only [World.size_alloc]; omega) hlb).trans (hb.alloc _); have c2 := b2.cell 0; have g2 := b2.free 0; simp at c2))
  go_ret
  refine ⟨rfl, ⟨?_, ?_, ?_, bo', c', ?_, ?_⟩, ?_⟩
  · have := f1.out; have := f2.out; have := f3.out
    exact ((hA.out.alloc _).grown hG hr.row (by omega)).setOther (p := ⟨lb, 0, none⟩) (by simp only; omega) _
  · have := f1.out; have := f2.out; have := f3.out
    exact ((hT.out.alloc _).row hG hr.row (by omega)).setNew (p := ⟨lb, 0, none⟩) f1.out _
  · have := hG.size
    simp only [World.size_alloc] at this
    simp only [World.setCell, Array.size_modify]; omega
  · have := b2.set 0 (.slice bo' (s.length + 1) c')
    simpa using this
  · refine hr2.setOther _ _ ?_
    intro a' ha
    have := hr2.block a' ha; have := f2.out
    simp only; omega
  · have e1 : (w2.setCell ⟨lb, 0, none⟩ (.slice bo' (s.length + 1) c')).heap[pb]? = w2.heap[pb]? := Below.heap_setCell _ _ _ _ (by have := f2.out; simp only; omega)
    rw [e1, hG.block pb (by simp only [World.size_alloc]; omega) (by intro e'; have := hr.row _ e'.symm; omega), Below.heap_alloc _ _ _ (by omega)]
end Go.Proofs.Ytkfonlpglkfpgaa
