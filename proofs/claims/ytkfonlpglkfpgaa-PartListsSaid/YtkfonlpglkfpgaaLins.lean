/- list: New, Insert. -/
import Derived.Test.YtkfonlpglkfpgaaLat
namespace Go.Proofs.Ytkfonlpglkfpgaa
open Go.RowKit
set_option linter.unusedSimpArgs false
set_option linter.unusedVariables false

/-- It answers v; the room reads as f. -/
def LPost (x : TxB) (N b : Nat) (f : Nat → UInt64) (W : World) (v : Value) (e : Ending) (w' : World) : Prop := e = .returned v ∧ (∃ m', x.At m' w' ∧ Is N m' b f) ∧ Tch x.L W w'

set_option maxHeartbeats 1600000 in
theorem lnew_ok (x : TxB) (m : Mach) (b : Nat) (f : Nat → UInt64) (w : World) (hA : x.At m w) (hI : Is 2000 m (b + 6) f) (hf : f = f0 2000) :
    Calls Try.prog 24 #[x.val, U 0] w (LPost x 2000 b (setf (setf (setf f 0 (A 20)) 18 0) 19 0) w (.tuple #[U (A 18), .int .i64 0])) := by
  have h0 := HG.new hA hI
  have e19 : A 18 + 1 = A 19 := rfl
  have hf0 : f 0 = A 18 := by rw [hf]; rfl
  have hf1 : f 1 = A 2000 := by rw [hf]; rfl
  have hf3 : f (1 + 2) = 0 := by rw [hf]; rfl
  replace hf0 := hide hf0; replace hf1 := hide hf1; replace hf3 := hide hf3; replace hf := hide hf
  clear hI
  go_enter Try.func24, Try.ntmps24
  go_wp2_with fail
  refine (htake_ok (b := b + 2) (k := 18) (s := 2) h0 (by omega) (by omega) hf3.out hf0.out hf1.out (by omega) (by omega) (by omega)).mono ?_
  rintro e w1 ⟨rfl, hG1, hT1⟩
  clear hf0 hf1 hf3
  go_wp2_with fail
  refine (hput_ok (b := b + 1) hG1 18 0 (by omega) (by omega)).mono ?_
  rintro e w2 ⟨rfl, hG2, hT2⟩
  go_wp2_with fail
  refine (hput_ok (b := b) hG2 19 0 (by omega) (by omega)).mono ?_
  rintro e w3 ⟨rfl, hG3, hT3⟩
  have d1 := hG3.hB.cell 1
  simp at d1
  have hT := hide ((((Tch.refl (w.heap.size :: x.L) w).alloc (.cells #[x.val, .int .i64 0] 80)).trans hT1).trans (hT2.trans hT3))
  replace hG3 := hide hG3
  clear hT1 hT2 hT3 hG1 hG2 h0
  go_wp2_with fail
  go_ret2
  exact ⟨rfl, hG3.out.m, hT.out.drop (Nat.le_refl _)⟩

def InsPost (x : TxB) (N b : Nat) (f : Nat → UInt64) (n : Nat) (c : List (Nat × UInt64)) (key : UInt64) (W : World) (e : Ending) (w' : World) : Prop :=
  ∃ pre post, c = pre ++ post ∧ (∀ y ∈ pre, u y.2 < u key) ∧ (∀ y ∈ post, ¬ u y.2 < u key) ∧ e = .returned (.tuple #[.bool (!hasKey key post), .int .i64 0]) ∧
    (∃ m', x.At m' w' ∧ Is N m' b (if hasKey key post = true then f else insF f n (lastC 19 pre) c.length key (nextP post))) ∧ Tch x.L W w'

set_option maxHeartbeats 3200000 in
theorem lins_ok (x : TxB) (m : Mach) (N n b : Nat) (f : Nat → UInt64) (c : List (Nat × UInt64)) (key : UInt64) (w : World) (hA : x.At m w) (hI : Is N m (b + 2 * c.length + 20) f) (hq : LSt N n c f) (hn : 22 + 2 * n ≤ N) (hN : N < 60000) (hcl : c.length ≤ 1000) :
    Calls Try.prog 25 #[x.val, U 0, U (A 18), U key] w (InsPost x N b f n c key w) := by
  have h0 := HG.new hA hI
  have hlt0 := hA.lt
  have hq' := hide hq
  replace h0 := hide h0
  clear hI hq
  go_enter Try.func25, Try.ntmps25
  go_wp2_with fail
  refine (hat_ok x w.heap.size N (b + 17) n f _ c key (h0.out.mono (by omega)) hN (by omega) hcl hq'.out (by omega)).mono ?_
  rintro e w1 ⟨pre, post, kz, hc, h1, h2, rfl, hG1, hT1⟩
  have hlL : lastC 19 pre < 21 + 2 * n ∧ lastC 19 pre ≠ 18 ∧ 19 ≤ lastC 19 pre := by
    rcases lastC_mem pre 19 with e | ⟨y, hy, e⟩
    · omega
    · have := hq'.out.chain.lt y (by rw [hc]; simp [hy]); omega
  have e1 : A (20 + 2 * n) + 1 = A (21 + 2 * n) := by rw [A_add1]; congr 1; omega
  have e2 : A c.length + 1 = A (c.length + 1) := A_add1 _
  have hsz := hT1.size
  simp only [World.size_alloc] at hsz
  have hG1' := hide (hG1.alloc (.cells #[U (A (lastC 19 pre)), U (nextP post), U kz, U (A pre.length)] 83))
  have bQ := Blk.new w1 #[U (A (lastC 19 pre)), U (nextP post), U kz, U (A pre.length)] 83
  have hT1' := hide ((((Tch.refl (w.heap.size :: x.L) w).alloc (.cells #[x.val, .int .i64 0] 80)).trans hT1).alloc (.cells #[U (A (lastC 19 pre)), U (nextP post), U kz, U (A pre.length)] 83))
  have d1 := hG1'.out.hB.cell 1
  simp at d1
  have nQ : w1.heap.size ∉ w.heap.size :: x.L := by simp only [List.mem_cons, List.not_mem_nil, or_false, not_or]; omega
  replace hc := hide hc; replace h1 := hide h1; replace h2 := hide h2; replace bQ := hide bQ; replace nQ := hide nQ
  clear hT1 hG1
  cases hE : hasKey key post
  · go_wp2_with fail
    refine (htake_ok (b := b + 13) (k := 20 + 2 * n) (s := 2) hG1'.out (by omega) (by omega) hq'.out.free hq'.out.fresh hq'.out.upto (by omega) (by omega) (by omega)).mono ?_
    rintro e w2 ⟨rfl, hG2, hT2⟩
    rw [show 20 + 2 * n + 2 = 22 + 2 * n by omega] at hG2
    have bQ2 := bQ.out.tch hT2 nQ.out
    generalize w1.heap.size = qb at *
    clear d1
    go_wp2_with fail
    refine (hget_ok (b := b + 12) hG2 18 (A c.length) (by rw [setf_ne _ _ _ _ (by omega)]; exact hq'.out.count) (by omega) (by omega)).mono ?_
    rintro e w3 ⟨rfl, hG3, hT3⟩
    have bQ3 := bQ2.tch hT3 nQ.out
    go_wp2_with fail
    refine (hput_ok (b := b + 11) hG3 (20 + 2 * n) key (by omega) (by omega)).mono ?_
    rintro e w4 ⟨rfl, hG4, hT4⟩
    have bQ4 := bQ3.tch hT4 nQ.out
    have q1 := bQ4.cell 1
    simp at q1
    replace bQ4 := hide bQ4
    go_wp2_with fail
    refine (hput_ok (b := b + 10) hG4 (21 + 2 * n) (nextP post) (by omega) (by omega)).mono ?_
    rintro e w5 ⟨rfl, hG5, hT5⟩
    have bQ5 := bQ4.out.tch hT5 nQ.out
    have q0 := bQ5.cell 0
    simp at q0
    replace bQ5 := hide bQ5
    clear q1
    go_wp2_with fail
    refine (hput_ok (b := b + 9) hG5 (lastC 19 pre) (A (21 + 2 * n)) (by omega) (by omega)).mono ?_
    rintro e w6 ⟨rfl, hG6, hT6⟩
    clear q0
    go_wp2_with fail
    refine (hput_ok (b := b + 8) hG6 18 (A (c.length + 1)) (by omega) (by omega)).mono ?_
    rintro e w7 ⟨rfl, hG7, hT7⟩
    have hT := hide (((((hT1'.out.trans hT2).trans hT3).trans hT4).trans hT5).trans (hT6.trans hT7))
    have d1 := hG7.hB.cell 1
    simp at d1
    replace hG7 := hide hG7
    clear hT1' hT2 hT3 hT4 hT5 hT6 hT7 hG2 hG3 hG4 hG5 hG6 bQ2 bQ3 bQ4 bQ5
    go_wp2_with fail
    go_quiet (fail)
    go_wp2_with fail
    go_ret2
    refine ⟨pre, post, hc.out, h1.out, fun y hy => by have := h2.out y hy; omega, by rw [hE]; rfl, ?_, (hT.out.drop (Nat.le_refl _)).drewN _⟩
    rw [hE, if_neg (by simp)]
    obtain ⟨m', a1, a2⟩ := hG7.out.m
    exact ⟨m', a1.drewN _, a2.mono (by omega)⟩
  · go_wp2_with fail
    go_quiet (fail)
    go_wp2_with fail
    go_ret2
    refine ⟨pre, post, hc.out, h1.out, fun y hy => by have := h2.out y hy; omega, by rw [hE]; rfl, ?_, (hT1'.out.drop (Nat.le_refl _)).drewN _⟩
    rw [hE, if_pos rfl]
    obtain ⟨m', a1, a2⟩ := hG1'.out.m
    exact ⟨m', a1.drewN _, a2.mono (by omega)⟩
end Go.Proofs.Ytkfonlpglkfpgaa
