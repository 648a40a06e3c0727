/- list: at, New, Insert. -/
import Derived.Test.YtkfonlpglkfpgaaLfind
import Derived.Test.YtkfonlpglkfpgaaLm2
import Derived.Test.YtkfonlpglkfpgaaOk
import Derived.StillTailTactics
import Derived.Deep.RegionHeld3
namespace Go.Proofs.Ytkfonlpglkfpgaa
open Go.RowKit
set_option linter.unusedSimpArgs false
set_option linter.unusedVariables false

theorem hat1_ok (key : UInt64) (kb pb : Nat) (h : kb < pb + 1) : PassOk [] [kb] pb (fun (_ : Unit) w => Blk w kb #[U key] 23) (fun _ => 0) (stepLt key) 53 #[.pointer (some ⟨kb, 0, none⟩)] := by
  refine ⟨fun args w => by kernel_rfl, fun s w w' L hJ hL ht => hJ.tch ht (fun hm => (hL kb hm).1 (by simp)), fun s k => by simp, ?_⟩
  intro s w k hJ _ _
  have c0 := hJ.cell 0
  simp at c0
  have hJ' := hide hJ
  clear hJ
  go_enter Try.func53, Try.ntmps53
  go_wp2_with fail
  go_ret
  exact ⟨rfl, hJ'.out, Tb.refl _ _ _⟩

/-- Is the key the first of these? -/
def hasKey (key : UInt64) : List (Nat × UInt64) → Bool
  | [] => false
  | (_, k) :: _ => k == key

/-- What at leaves. -/
def AtPost (x : TxB) (hb N b : Nat) (f : Nat → UInt64) (c : List (Nat × UInt64)) (key : UInt64) (W : World) (e : Ending) (w' : World) : Prop :=
  ∃ pre post kz, c = pre ++ post ∧ (∀ y ∈ pre, u y.2 < u key) ∧ (∀ y ∈ post, ¬ u y.2 < u key) ∧ e = .returned (.tuple #[.agg #[U (A (lastC 19 pre)), U (nextP post), U kz, U (A pre.length)], .bool (hasKey key post)]) ∧ HG x hb N b f w' ∧ Tch (hb :: x.L) W w'

set_option maxHeartbeats 1600000 in
theorem hat_ok (x : TxB) (hb N b n : Nat) (f : Nat → UInt64) (w : World) (c : List (Nat × UInt64)) (key : UInt64) (h : HG x hb N (b + 2 * c.length + 3) f w) (hN : N < 60000) (h22 : 22 ≤ N) (hcl : c.length ≤ 1000) (hq : LSt N n c f) (hn : 20 + 2 * n ≤ N) :
    Calls Try.prog 46 #[.pointer (some ⟨hb, 0, none⟩), U (A 18), U key] w (AtPost x hb N b f c key w) := by
  obtain ⟨pre, post, kz, hc, h1, h2, hs, hkz⟩ := fscan_lt key c 19 0 0 hq.rise
  have hlt := h.lt
  have hk := hide (((Blk.new w #[U key] 23).alloc (.cells #[U 0, U 0, U 0, U 0] 83)))
  have hp := hide (Blk.new (w.alloc (.cells #[U key] 23)) #[U 0, U 0, U 0, U 0] 83)
  have hh := hide ((h.alloc (.cells #[U key] 23)).alloc (.cells #[U 0, U 0, U 0, U 0] 83))
  replace hs := hide hs; replace hq := hide hq; replace hc := hide hc; replace h1 := hide h1; replace h2 := hide h2; replace hkz := hide hkz
  clear h
  go_enter Try.func46, Try.ntmps46
  go_wp2_with fail
  refine (hfind_ok x hb N b n f _ [] [w.heap.size] (fun _ _ v => Blk v w.heap.size #[U key] 23) (fun _ => 0) (stepLt key) 53 #[.pointer (some ⟨w.heap.size, 0, none⟩)] () c hh.out hN h22 hcl (fun pb hpb => hat1_ok key w.heap.size pb (by simp at hpb; omega)) ?_ (by simp) ?_ hq.out.count hq.out.chain hq.out.rise hn rfl).mono ?_
  · intro pb w' hpb ht
    exact hk.out.tch ht (by simp only [List.mem_cons, List.not_mem_nil, or_false, not_or]; omega)
  · intro k hk'
    simp only [List.mem_cons, List.not_mem_nil, or_false] at hk'
    subst hk'
    simp only [World.size_alloc]
    omega
  rintro e w1 ⟨rfl, hG, ⟨pb, hpb, hJ⟩, hT⟩
  rw [hs.out]
  simp only
  have hp1 := hp.out.tch hT (by simp only [World.size_alloc, List.nil_append, List.mem_cons, List.not_mem_nil, or_false, not_or]; omega)
  have hT0 := (((Tch.refl (hb :: x.L) w).alloc (.cells #[U key] 23)).alloc (.cells #[U 0, U 0, U 0, U 0] 83)).trans hT
  simp only [World.size_alloc] at hp1
  have d1 := hG.hB.cell 1
  have k0 := hJ.cell 0
  simp at d1 k0
  have hG' := hide (hG.alloc (.cells #[U (A (lastC 19 pre)), U (nextP post), U kz, U (A (0 + pre.length))] 83))
  have hJ' := hide (hJ.alloc (.cells #[U (A (lastC 19 pre)), U (nextP post), U kz, U (A (0 + pre.length))] 83))
  have hp1' := hide (hp1.alloc (.cells #[U (A (lastC 19 pre)), U (nextP post), U kz, U (A (0 + pre.length))] 83))
  have hQ' := hide (Blk.new w1 #[U (A (lastC 19 pre)), U (nextP post), U kz, U (A (0 + pre.length))] 83)
  have hT' := hide (hT0.alloc (.cells #[U (A (lastC 19 pre)), U (nextP post), U kz, U (A (0 + pre.length))] 83))
  have hq1 : w.heap.size + 1 < w1.heap.size := hp1.lt
  clear hG hJ hp1 hT0 hT d1 k0
  have hn1 : (nextP post != 0) = !post.isEmpty := by
    cases post with
    | nil => rfl
    | cons y r =>
      have := hq.out.chain.lt y (by rw [hc.out]; simp)
      show (A (21 + 2 * y.1) != 0) = true
      rw [A_ne0 (by omega)]; simp
  have hn2 : post.isEmpty = false → (kz == key) = hasKey key post := by
    intro he
    cases post with
    | nil => cases he
    | cons y r => rw [hkz.out y.1 y.2 r rfl]; rfl
  have hn3 : post.isEmpty = true → hasKey key post = false := by
    intro he
    cases post with
    | nil => rfl
    | cons y r => cases he
  replace hn2 := hide hn2; replace hn3 := hide hn3
  go_wp2_with fail
  rw [Nat.zero_add] at hG' hJ' hp1' hQ' hT'
  generalize w1.heap.size = qb at *
  generalize w1.alloc _ = W at *
  have d1 := hG'.out.hB.cell 1
  have k0 := hJ'.out.cell 0
  have q0 := hQ'.out.cell 0; have q1 := hQ'.out.cell 1; have q2 := hQ'.out.cell 2; have q3 := hQ'.out.cell 3
  simp at d1 k0 q0 q1 q2 q3
  have r0 := hp1'.out.cell 0; have r1 := hp1'.out.cell 1; have r2 := hp1'.out.cell 2; have r3 := hp1'.out.cell 3
  have g0 := hp1'.out.free 0; have g1 := hp1'.out.free 1; have g2 := hp1'.out.free 2; have g3 := hp1'.out.free 3
  simp at r0 r1 r2 r3
  have z1 : qb ≠ w.heap.size + 1 := by omega
  have z2 : hb ≠ w.heap.size + 1 := by omega
  have z3 : w.heap.size + 1 ≠ qb := by omega
  have z4 : w.heap.size + 1 ≠ hb := by omega
  have m1 : w.heap.size + 1 ≠ x.ta ∧ w.heap.size + 1 ≠ x.wb ∧ w.heap.size + 1 ≠ x.mb := by omega
  have hG5 := hide (((((hG'.out.setOther ⟨w.heap.size + 1, 0, none⟩ (U (A (lastC 19 pre))) m1 z4).setOther ⟨w.heap.size + 1, 1, none⟩ (U (nextP post)) m1 z4).setOther ⟨w.heap.size + 1, 2, none⟩ (U kz) m1 z4).setOther ⟨w.heap.size + 1, 3, none⟩ (U (A pre.length)) m1 z4).drew)
  have hT5 := hide (((((hT'.out.setNew (p := ⟨w.heap.size + 1, 0, none⟩) (by simp) (U (A (lastC 19 pre)))).setNew (p := ⟨w.heap.size + 1, 1, none⟩) (by simp) (U (nextP post))).setNew (p := ⟨w.heap.size + 1, 2, none⟩) (by simp) (U kz)).setNew (p := ⟨w.heap.size + 1, 3, none⟩) (by simp) (U (A pre.length))).drew)
  replace m1 := hide m1
  cases hE : post.isEmpty
  · rw [hE] at hn1
    have hk1 := hn2.out hE
    simp only [Bool.not_false] at hn1
    go_region_held3 (fun v => v.cell? ⟨qb, 0, none⟩ = some (U (A (lastC 19 pre))) ∧ v.cell? ⟨qb, 1, none⟩ = some (U (nextP post)) ∧ v.cell? ⟨qb, 2, none⟩ = some (U kz) ∧ v.cell? ⟨qb, 3, none⟩ = some (U (A pre.length)) ∧ v.cell? ⟨hb, 1, none⟩ = some (.int .i64 0) ∧ v.cell? ⟨w.heap.size, 0, none⟩ = some (U key)) (go_keep) (fail)
    all_goals go_wp2_with fail
    all_goals exact bodyPost_ret (v := .tuple #[.agg #[U (A (lastC 19 pre)), U (nextP post), U kz, U (A pre.length)], .bool (hasKey key post)]) (by simp [results, Try.results46, go_sem, r0, r1, r2, r3, g0, g1, g2, g3]) rfl ⟨pre, post, kz, hc.out, h1.out, fun y hy => Int.not_lt.2 (h2.out y hy), rfl, hG5.out, hT5.out⟩
  · rw [hE] at hn1
    have hk1 := hn3.out hE
    simp only [Bool.not_true] at hn1
    go_region
    all_goals go_wp2_with fail
    all_goals exact bodyPost_ret (v := .tuple #[.agg #[U (A (lastC 19 pre)), U (nextP post), U kz, U (A pre.length)], .bool (hasKey key post)]) (by simp [results, Try.results46, go_sem, r0, r1, r2, r3, g0, g1, g2, g3, hk1]) rfl ⟨pre, post, kz, hc.out, h1.out, fun y hy => Int.not_lt.2 (h2.out y hy), rfl, hG5.out, hT5.out⟩
end Go.Proofs.Ytkfonlpglkfpgaa
