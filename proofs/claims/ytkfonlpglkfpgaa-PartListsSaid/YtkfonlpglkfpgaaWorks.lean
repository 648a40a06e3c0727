/- works. -/
import Derived.Test.YtkfonlpglkfpgaaOk
namespace Go.Proofs.Ytkfonlpglkfpgaa
set_option linter.unusedSimpArgs false
set_option linter.unusedVariables false
open Go.RowKit

theorem rd_of_blk {w : World} {b : Nat} {xs : List UInt64} {T : TypeId} (h : Blk w b (xs.map U).toArray T) (hl : xs.length ≤ 9223372036854775807) : Rd w (.slice (some ⟨b, 0, none⟩) xs.length xs.length) xs := by
  refine ⟨_, _, rfl, hl, fun i hi => ⟨_, rfl, ?_⟩⟩
  have : (⟨b, 0, none⟩ : Addr).add i = ⟨b, i, none⟩ := by unfold Addr.add; split <;> simp_all
  rw [this, h.cell i]; simp [hi]

set_option maxHeartbeats 3200000 in
theorem works_any (w : World) : Calls Try.prog 5 #[] w fun e w' => e = .returned (.bool true) ∧ Tch [] w w' := by
  obtain ⟨m0, m1, m2, m3, m4, m5, m6, q0, q1, q2, q3, q4, q5, q6⟩ := works_chain
  obtain ⟨p, hp⟩ : ∃ p, p = part 21 3 := ⟨_, rfl⟩
  rw [← hp] at q1 q2 q4 q5
  have hpk : p.kind = 1 := by rw [hp]; rfl
  have hpc : (p.count == 3) = true := by rw [hp]; rfl
  clear hp
  obtain ⟨pk, pf, pc⟩ := p
  simp only at hpk hpc
  subst hpk
  replace q0 := hide q0; replace q1 := hide q1; replace q2 := hide q2; replace q3 := hide q3; replace q4 := hide q4; replace q5 := hide q5; replace q6 := hide q6
  have hRd := rd_of_blk (xs := [5, 6, 7]) (Blk.new w #[U 5, U 6, U 7] 23) (by simp)
  go_enter Try.func5, Try.ntmps5
  go_wp2_with fail
  refine (filled_ok _ _ [5, 6, 7] hRd q0.out).mono ?_
  rintro e w1 ⟨x, rfl, hA0, hx, hT0⟩
  simp only [World.size_alloc] at hx
  have hT1 : Tch [] w w1 := ((Tch.refl _ _).alloc _).trans hT0 |>.mono (by simp)
  replace hx := hide hx
  clear hRd hT0
  go_wp2_with fail
  refine (pqueue_ok hA0 q1.out).mono ?_
  rintro e w2 ⟨rfl, hA1, hT2⟩
  simp only [Prt.val]
  have hx' := hx.out
  have hsz2 := hT1.size
  have hL : ∀ b ∈ x.L, w.heap.size ≤ b := by
    intro b hb
    simp only [List.mem_cons, List.not_mem_nil, or_false] at hb
    rcases hb with rfl | rfl <;> omega
  have hTw2 := hT1.new hT2 hL
  have hlt2 := hA1.lt
  replace hL := hide hL
  clear hT1 hT2 hA0 hx'
  have bP := Blk.new w2 #[.int .i64 1, U pf, U pc] 35
  have nP : w2.heap.size ∉ x.L := by simp only [List.mem_cons, List.not_mem_nil, or_false, not_or]; omega
  have hA1' := hide (hA1.alloc (.cells #[.int .i64 1, U pf, U pc] 35))
  have hTw := hide (hTw2.alloc (.cells #[.int .i64 1, U pf, U pc] 35))
  replace nP := hide nP
  clear hA1 hTw2 hlt2
  have cp0 := bP.cell 0; have cp1 := bP.cell 1; have cp2 := bP.cell 2; have fp0 := bP.free 0; have fp1 := bP.free 1; have fp2 := bP.free 2; simp at cp0 cp1 cp2
  replace bP := hide bP
  go_wp2_with fail
  refine (pread_ok (p := ⟨1, pf, pc⟩) hA1'.out q2.out).mono ?_
  rintro e w3 ⟨boA, cA, rfl, hRa, hA2, hT3⟩
  have bP3 := bP.out.tch hT3 nP.out
  have hTw3 := hide (hTw.out.new hT3 hL.out)
  have hLa : ∀ b ∈ x.L, b < (w2.alloc (.cells #[.int .i64 1, U pf, U pc] 35)).heap.size := hA1'.out.hL
  generalize (w2.alloc (.cells #[.int .i64 1, U pf, U pc] 35)).heap.size = ba at *
  replace hLa := hide hLa
  clear cp0 cp1 cp2 fp0 fp1 fp2 hT3 hA1' hTw bP
  have cp0 := bP3.cell 0; have cp1 := bP3.cell 1; have cp2 := bP3.cell 2; have fp0 := bP3.free 0; have fp1 := bP3.free 1; have fp2 := bP3.free 2; simp at cp0 cp1 cp2
  replace bP3 := hide bP3
  replace hRa := hide hRa
  go_wp2_with fail
  refine (qwords_ok hA2 q3.out).mono ?_
  rintro e w4 ⟨boB, cB, rfl, hRb, hA3, hT4⟩
  have bP4 := bP3.out.tch hT4 nP.out
  have hTw4 := hide (hTw3.out.new hT4 hL.out)
  have hRa4 := hide (hRa.out.tch hT4 hLa.out)
  clear cp0 cp1 cp2 fp0 fp1 fp2 hT4 hA2 hTw3 bP3 hRa hRb
  have cp0 := bP4.cell 0; have cp1 := bP4.cell 1; have cp2 := bP4.cell 2; have fp0 := bP4.free 0; have fp1 := bP4.free 1; have fp2 := bP4.free 2; simp at cp0 cp1 cp2
  replace bP4 := hide bP4
  go_wp2_with fail
  refine (pturn_ok (works1_ok x) (p := ⟨1, pf, pc⟩) hA3 trivial q4.out).mono ?_
  rintro e w5 ⟨rfl, hA4, hT5⟩
  have bP5 := bP4.out.tch hT5 nP.out
  have hTw5 := hide (hTw4.out.new hT5 hL.out)
  have hRa5 := hide (hRa4.out.tch hT5 hLa.out)
  clear cp0 cp1 cp2 fp0 fp1 fp2 hT5 hA3 hTw4 bP4 hRa4
  have cp0 := bP5.cell 0; have cp1 := bP5.cell 1; have cp2 := bP5.cell 2; have fp0 := bP5.free 0; have fp1 := bP5.free 1; have fp2 := bP5.free 2; simp at cp0 cp1 cp2
  replace bP5 := hide bP5
  go_wp2_with fail
  refine (pback_ok (p := ⟨1, pf, pc⟩) hA4 q5.out).mono ?_
  rintro e w6 ⟨rfl, hA5, hT6⟩
  have bP6 := bP5.out.tch hT6 nP.out
  have hTw6 := hide (hTw5.out.new hT6 hL.out)
  have hRa6 := hide (hRa5.out.tch hT6 hLa.out)
  clear cp0 cp1 cp2 fp0 fp1 fp2 hT6 hA4 hTw5 bP5 hRa5
  have cp0 := bP6.cell 0; have cp1 := bP6.cell 1; have cp2 := bP6.cell 2; have fp0 := bP6.free 0; have fp1 := bP6.free 1; have fp2 := bP6.free 2; simp at cp0 cp1 cp2
  replace bP6 := hide bP6
  go_wp2_with fail
  refine (qwords_ok hA5 q6.out).mono ?_
  rintro e w7 ⟨boC, cC, rfl, hRc, hA6, hT7⟩
  have bP7 := bP6.out.tch hT7 nP.out
  have hTw7 := hide (hTw6.out.new hT7 hL.out)
  have hRa7 := hide (hRa6.out.tch hT7 hLa.out)
  clear cp0 cp1 cp2 fp0 fp1 fp2 hT7 hA5 hTw6 bP6 hRa6
  have cp0 := bP7.cell 0; have cp1 := bP7.cell 1; have cp2 := bP7.cell 2; have fp0 := bP7.free 0; have fp1 := bP7.free 1; have fp2 := bP7.free 2; simp at cp0 cp1 cp2
  replace bP7 := hide bP7
  replace hRc := hide hRc
  go_wp2_with fail
  refine (num_any _ .i64 _).mono ?_
  rintro e w8 ⟨rfl, rfl⟩
  have hRc7 := hRc.out
  have hb := hide (rd_of_blk (xs := [5, 6, 7]) (Blk.new w8 #[U 5, U 6, U 7] 23) (by simp))
  have ha := hide ((hRa7.out.alloc (.cells #[U 5, U 6, U 7] 23)).rd)
  replace hRc7 := hide hRc7
  have ha' : Rd (w8.alloc (.cells #[U 5, U 6, U 7] 23)) (.slice boA 3 cA) [5, 6, 7] := ha.out
  have hb' : Rd (w8.alloc (.cells #[U 5, U 6, U 7] 23)) (.slice (some ⟨w8.heap.size, 0, none⟩) 3 3) [5, 6, 7] := hb.out
  replace ha' := hide ha'; replace hb' := hide hb'
  go_wp2_with fail
  refine (kwords_same _ _ _ [5, 6, 7] ha'.out hb'.out).mono ?_
  rintro e w9 ⟨rfl, n, hw9⟩
  have hRc9 : Rw w9 w6.heap.size 23 1 encU boC cC [10, 12, 14] := by rw [hw9]; exact hRc7.out.alloc _
  have hTw9 : Tch [] w w9 := by rw [hw9]; exact (hTw7.out.alloc _).drewN n
  have hc : Rd (w9.alloc (.cells #[U 10, U 12, U 14] 23)) (.slice boC 3 cC) [10, 12, 14] := (hRc9.alloc _).rd
  have hd : Rd (w9.alloc (.cells #[U 10, U 12, U 14] 23)) (.slice (some ⟨w9.heap.size, 0, none⟩) 3 3) [10, 12, 14] := rd_of_blk (xs := [10, 12, 14]) (Blk.new w9 #[U 10, U 12, U 14] 23) (by simp)
  replace hc := hide hc; replace hd := hide hd; replace hTw9 := hide hTw9
  clear hw9 hRc9 ha ha' hb hb' hRc7 hRa7 hTw7
  go_wp2_with (first | (go_at_call 8; refine (num_any _ .i64 _).mono ?_; rintro e w' ⟨rfl, rfl⟩))
  refine (kwords_same _ _ _ [10, 12, 14] hc.out hd.out).mono ?_
  rintro e w10 ⟨rfl, n2, rfl⟩
  go_wp2_with fail
  go_ret
  exact ⟨rfl, (hTw9.out.alloc _).drewN n2⟩
end Go.Proofs.Ytkfonlpglkfpgaa
