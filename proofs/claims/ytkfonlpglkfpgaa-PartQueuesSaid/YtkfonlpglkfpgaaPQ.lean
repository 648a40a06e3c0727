/- PartQueues: the walk. -/
import Derived.Test.YtkfonlpglkfpgaaPQ0
namespace Go.Proofs.Ytkfonlpglkfpgaa
set_option linter.unusedSimpArgs false
set_option linter.unusedVariables false
open Go.RowKit

set_option maxHeartbeats 3200000 in
set_option maxRecDepth 20000 in
theorem pq_any (w : World) (v1 v2 : Value) (ws os : List UInt64) (more : UInt64) (h1 : Rd w v1 ws) (h2 : Rd w v2 os) (hl1 : ws.length ≤ 140737488355328) (hl2 : os.length ≤ 140737488355328) :
    Calls Try.prog 3 #[v1, v2, U more] w fun e w' => e = .returned (.bool true) ∧ Tch [] w w' := by
  have hh1 := hide h1; have hh2 := hide h2
  obtain ⟨bo1, c1, rfl, _, _⟩ := h1
  obtain ⟨bo2, c2, rfl, _, _⟩ := h2
  by_cases hlen : 300 < ws.length + os.length
  · have hg : (ws.length : Int) + (os.length : Int) > 300 := by omega
    go_enter Try.func3, Try.ntmps3
    go_wp2_with fail
    refine (works_any _).mono ?_
    rintro e w1 ⟨rfl, hT⟩
    go_wp2_with fail
    go_ret
    exact ⟨rfl, ((Tch.refl _ _).alloc _).trans hT |>.mono (by simp)⟩
  · have hg : ¬ ((ws.length : Int) + (os.length : Int) > 300) := by omega
    obtain ⟨m0, f0', q0, i0, s0⟩ := filled_is ws (by omega)
    have i0' : Is 1000 { m0 with calls := 0 } 8000000000000000000 f0' := ⟨⟨i0.ok.len, i0.ok.neg, i0.ok.room⟩, i0.at_⟩
    obtain ⟨m1, f1, q1, i1, s1, a1, hcalls⟩ := pqueue_is (b := 7000000000000000000) (i0'.mono (by omega)) s0 (by omega) (by omega) (by omega)
    have hcalls := hcalls rfl
    have g1 : Seg 21 ws f1 := s0.qw.seg.congr fun j hj _ => a1 j hj
    obtain ⟨p, hp⟩ : ∃ p, p = part 21 ws.length := ⟨_, rfl⟩
    rw [← hp] at q1
    have hpk : p.kind = 1 := by rw [hp]; rfl
    have hpc : (p.count != UInt64.ofNat ws.length) = false := by rw [hp]; simp [part, A]
    obtain ⟨pk, pf, pc⟩ := p
    simp only at hpk hpc
    subst hpk
    replace q0 := hide q0; replace q1 := hide q1; replace i0 := hide i0; replace s0 := hide s0; replace i0' := hide i0'; replace i1 := hide i1; replace s1 := hide s1; replace a1 := hide a1; replace g1 := hide g1; replace hp := hide hp
    have bV := hide (Blk.new w #[U more] 23)
    go_enter Try.func3, Try.ntmps3
    go_wp2_with fail
    refine (filled_ok _ _ ws (hh1.out.tch ((Tch.refl [] _).alloc _)) q0.out).mono ?_
    rintro e w1 ⟨x, rfl, hA0, hx, hT0⟩
    simp only [World.size_alloc] at hx
    obtain ⟨_, _, _, _, f1w, _, cta⟩ := hA0.c
    have f3 := f1w 3
    have hA0' := hide hA0
    have hT1 := hide (((Tch.refl [] w).alloc (.cells #[U more] 23)).trans (hT0.mono (by simp)))
    have bV1 := hide (bV.out.tch hT0 (by simp))
    clear hT0 f1w hA0 bV
    go_wp2_with fail
    have hA0 := hA0'.out.set3 0
    have hT1' : Tch [] w (w1.setCell ⟨x.wb, 3, none⟩ (.int .i64 0)) := hT1.out.setNew (p := ⟨x.wb, 3, none⟩) (by simp only; omega) _
    have hL : ∀ b ∈ x.L, w.heap.size + 1 ≤ b := by
      intro b hb
      simp only [List.mem_cons, List.not_mem_nil, or_false] at hb
      rcases hb with rfl | rfl <;> omega
    have nV : w.heap.size ∉ x.L := fun hb => by have := hL _ hb; omega
    have hL0 : ∀ b ∈ x.L, w.heap.size ≤ b := fun b hb => by have := hL b hb; omega
    replace hL := hide hL; replace hL0 := hide hL0; replace nV := hide nV; replace hT1' := hide hT1'; replace hx := hide hx
    clear hT1 hA0' f3 cta
    refine (pqueue_ok hA0 q1.out).mono ?_
    rintro e w2 ⟨rfl, hA1, hT2⟩
    have hTw2 := hT1'.out.new hT2 hL0.out
    have hsz2 := hTw2.size
    simp only [Prt.val]
    have bV2 : Blk w2 w.heap.size #[U more] 23 := (bV1.out.setOther ⟨x.wb, 3, none⟩ _ (by have := hx.out; simp only; omega)).tch hT2 nV.out
    have bP := Blk.new w2 #[.int .i64 1, U pf, U pc] 35
    have hlt2 := hA1.lt
    have nP : w2.heap.size ∉ x.L := by simp only [List.mem_cons, List.not_mem_nil, or_false, not_or]; omega
    have hA2 := hA1.alloc (.cells #[.int .i64 1, U pf, U pc] 35)
    obtain ⟨_, _, _, c3, _, _, cta⟩ := hA2.c
    rw [hcalls] at c3
    have hTw3 := hide (hTw2.alloc (.cells #[.int .i64 1, U pf, U pc] 35))
    replace hA2 := hide hA2; replace nP := hide nP; replace bV2 := hide bV2
    clear hA1 hTw2 hlt2 hA0 hT1' hT2 bV1
    replace bV2 := hide (bV2.out.alloc (.cells #[.int .i64 1, U pf, U pc] 35))
    have cp0 := bP.cell 0; have cp1 := bP.cell 1; have cp2 := bP.cell 2; have fp0 := bP.free 0; have fp1 := bP.free 1; have fp2 := bP.free 2; simp at cp0 cp1 cp2
    replace bP := hide bP
    go_wp2_with (first | (go_at_call 8; refine (num_any _ .i64 _).mono ?_; rintro e w' ⟨rfl, rfl⟩))
    rotate_left 1
    · trivial
    have hF := hide (PF.mk (pb := w2.heap.size) (hTw3.out) (bV2.out) (bP.out) nV.out nP.out hL0.out)
    generalize hpb : w2.heap.size = pb at *
    clear hcalls hsz2 c3 cta cp0 cp1 cp2 fp0 fp1 fp2 hTw3 bV2 bP nP nV hL hL0
    go_loopw [12] (fun i wr => ∃ (done rest : List UInt64) (mm : Mach) (f : Nat → UInt64), i = .int .i64 done.length ∧ Hid (os = done ++ rest) ∧ x.At mm wr ∧ Hid (Is 1000 mm (6000000000000000000 + 11 * rest.length) f) ∧ Hid (QSt 1000 (21 + 2 * ws.length) done f) ∧ Hid (Seg 21 ws f) ∧
      Hid (PF w x pb more pf pc wr)) (fun i _ => os.length - (intOf i).toNat)
    case atStart => exact ⟨[], os, m1, f1, rfl, rfl, hA2.out, i1.out.mono (by omega), s1.out, g1.out, hF⟩
    case round =>
      clear hF hA2 i1 s1 g1 hpb
      obtain ⟨done, rest, mm, f, rfl, hos, hA, hI, hQ, hS, hF⟩ := hrel
      cases rest with
      | cons y rest =>
        have hos' := hos.out
        have hlt : done.length < os.length := by rw [hos']; simp
        obtain ⟨a, ha, hc⟩ := (hh2.out.tch hF.out.tch).at done.length hlt
        have hy : os[done.length] = y := by simp [hos']
        rw [hy] at hc
        subst ha
        obtain ⟨m4, f4, q4, i4, s4, a4⟩ := qput_is (b := 6000000000000000000 + 11 * rest.length) y (hI.out.mono (by simp only [List.length_cons]; omega)) hQ.out (by omega) (by omega) (by omega)
        have g4 := hide (hS.out.congr fun j h1 h2 => a4 j h1 h2)
        replace q4 := hide q4; replace i4 := hide i4; replace s4 := hide s4
        clear hos' hy a4 hI hQ hS
        go_wp2_with fail
        refine (qput_ok hA q4.out).mono ?_
        rintro e w4 ⟨rfl, hA4, hT4⟩
        have hF4 := hide (hF.out.step hT4)
        clear hF hT4 hA
        go_wp2_with (first | (go_at_call 8; refine (num_any _ .i64 _).mono ?_; rintro e w' ⟨rfl, rfl⟩))
        go_roundw
        case rel => exact ⟨done ++ [y], rest, m4, f4, by simp, by show _ = _; rw [hos.out]; simp, hA4, i4.out, s4, g4, hF4⟩
        case measure => simp [intOf]; omega
      | nil =>
        have hos' : done = os := by have := hos.out; simpa using this.symm
        subst hos'
        clear hos
        obtain ⟨m2, m3, m4, m5, f5, q2, q3, q4, q5, i5, s5, g5⟩ := chainA (more := more) (by omega) (by omega) hI.out hQ.out hS.out
        rw [← hp.out] at q2 q3 q4
        have hvl : (ws.map (· + more)).length = ws.length := List.length_map _
        have hvg : ∀ i (h : i < ws.length), ∃ h', (ws.map (· + more))[i]'h' = ws[i] + more := fun i h => ⟨by simpa using h, by simp⟩
        generalize ws.map (· + more) = vs at *
        have hP := hF.out.P
        have cp0 := hP.cell 0; have cp1 := hP.cell 1; have cp2 := hP.cell 2; have fp0 := hP.free 0; have fp1 := hP.free 1; have fp2 := hP.free 2; simp at cp0 cp1 cp2
        have hlt := hA.lt
        have hlV := hF.out.V.lt
        have hlP := hP.lt
        have hLa := hide hA.hL
        have hbz : x.ta < wr.heap.size ∧ x.wb < wr.heap.size ∧ x.mb < wr.heap.size ∧ w.heap.size < wr.heap.size ∧ pb < wr.heap.size := ⟨hlt.1, hlt.2.1, hlt.2.2, hlV, hlP⟩
        replace q2 := hide q2; replace q3 := hide q3; replace q4 := hide q4; replace q5 := hide q5; replace i5 := hide i5; replace s5 := hide s5; replace g5 := hide g5; replace hvl := hide hvl; replace hvg := hide hvg; replace hbz := hide hbz
        clear hlt hlV hlP hP hI hQ hS
        go_wp2_with fail
        refine (pread_okn (p := ⟨1, pf, pc⟩) hA q2.out rfl).mono ?_
        rintro e w2 ⟨boA, cA, rfl, hRa, hA2, hT2⟩
        have hF2 := hF.out.step hT2
        have hsz2 := hide hT2.size
        clear hF hA hT2 cp0 cp1 cp2 fp0 fp1 fp2
        generalize wr.heap.size = base at *
        have hP := hF2.P
        have cp0 := hP.cell 0; have cp1 := hP.cell 1; have cp2 := hP.cell 2; have fp0 := hP.free 0; have fp1 := hP.free 1; have fp2 := hP.free 2; simp at cp0 cp1 cp2
        replace hF2 := hide hF2
        replace hRa := hide hRa
        clear hP
        go_wp2_with fail
        refine (pturn_ok (pq1_ok x w.heap.size more hF2.out.nV) (p := ⟨1, pf, pc⟩) hA2 hF2.out.V q3.out).mono ?_
        rintro e w3 ⟨rfl, hA3, hT3⟩
        have hRa3 := hide (hRa.out.tch hT3 hLa.out)
        have hF3 := hF2.out.step hT3
        have hszA := hide (Nat.le_trans hsz2.out hT3.size)
        clear hF2 hA2 hT3 hRa cp0 cp1 cp2 fp0 fp1 fp2 hsz2
        have hP := hF3.P
        have cp0 := hP.cell 0; have cp1 := hP.cell 1; have cp2 := hP.cell 2; have fp0 := hP.free 0; have fp1 := hP.free 1; have fp2 := hP.free 2; simp at cp0 cp1 cp2
        replace hF3 := hide hF3
        clear hP
        have hdA := hide (fun a ha => (hRa3.out.block a ha).2)
        go_wp2_with fail
        refine (pread_okn (p := ⟨1, pf, pc⟩) hA3 q4.out hvl.out).mono ?_
        rintro e w4 ⟨boB, cB, rfl, hRb, hA4, hT4⟩
        have hLb := hide hA3.hL
        have hRa4 := hide (hRa3.out.tch hT4 hLa.out)
        have hF4 := hide (hF3.out.step hT4)
        have hszB := hide hT4.size
        clear hF3 hA3 hT4 hRa3 cp0 cp1 cp2 fp0 fp1 fp2
        generalize w3.heap.size = b2 at *
        replace hRb := hide hRb
        have hdB := hide (fun a ha => (hRb.out.block a ha).2)
        go_wp2_with fail
        refine (qwords_okn hA4 q5.out rfl).mono ?_
        rintro e w5 ⟨boC, cC, rfl, hRc, hA5, hT5⟩
        have hLc := hide hA4.hL
        have hRa5 := hide (hRa4.out.tch hT5 hLa.out)
        have hRb5 := hide (hRb.out.tch hT5 hLb.out)
        have hF5 := hide (hF4.out.step hT5)
        have hszC := hT5.size
        clear hF4 hA4 hT5 hRa4 hRb
        generalize w4.heap.size = b3 at *
        replace hRc := hide hRc
        have hdC := fun a ha => (hRc.out.block a ha).2
        obtain ⟨b4, hb4⟩ : ∃ b4, b4 = w5.heap.size := ⟨_, rfl⟩
        rw [← hb4] at hdC hszC
        replace hb4 := hide hb4; replace hdC := hide hdC; replace hszC := hide hszC
        have hra := hide (hRa5.out.rdn rfl)
        have hrw := hide (hh1.out.tch hF5.out.tch)
        go_wp2_with (first | (go_at_call 8; refine (num_any _ .i64 _).mono ?_; rintro e w' ⟨rfl, rfl⟩))
        refine (kwords_same _ _ _ ws hra.out hrw.out).mono ?_
        rintro e w6 ⟨rfl, n, hw6⟩
        have hRa6 : Rw w6 base 23 1 encU boA cA ws := by rw [hw6]; exact hRa5.out
        have hRb6 : Rw w6 b2 23 1 encU boB cB vs := by rw [hw6]; exact hRb5.out
        have hRc6 : Rw w6 b3 23 1 encU boC cC done := by rw [hw6]; exact hRc.out
        have hF6 : PF w x pb more pf pc w6 := by rw [hw6]; exact hF5.out.drewN n
        have hA6 : x.At m5 w6 := by rw [hw6]; exact hA5.drewN n
        have hsz6 : w6.heap.size = b4 := by rw [hw6]; exact hb4.out.symm
        have hrc := hide (hRc6.rdn rfl)
        have hrw2 := hide (hh2.out.tch hF6.tch)
        replace hRa6 := hide hRa6; replace hRb6 := hide hRb6; replace hRc6 := hide hRc6; replace hF6 := hide hF6; replace hsz6 := hide hsz6
        clear hw6 hRa5 hRb5 hRc hF5 hA5 hra hrw hb4
        go_wp2_with fail
        refine (kwords_same _ _ _ done hrc.out hrw2.out).mono ?_
        rintro e w7 ⟨rfl, n, hw7⟩
        have hRa7 : Rw w7 base 23 1 encU boA cA ws := by rw [hw7]; exact hRa6.out
        have hRb7 : Rw w7 b2 23 1 encU boB cB vs := by rw [hw7]; exact hRb6.out
        have hRc7 : Rw w7 b3 23 1 encU boC cC done := by rw [hw7]; exact hRc6.out
        have hF7 : PF w x pb more pf pc w7 := by rw [hw7]; exact hF6.out.drewN n
        have hA7 : x.At m5 w7 := by rw [hw7]; exact hA6.drewN n
        have hsz7 : w7.heap.size = b4 := by rw [hw7]; exact hsz6.out
        replace hRa7 := hide hRa7; replace hRb7 := hide hRb7; replace hRc7 := hide hRc7; replace hF7 := hide hF7; replace hsz7 := hide hsz7
        clear hw7 hRa6 hRb6 hRc6 hF6 hA6 hrc hrw2 hsz6
        go_wp2_with fail
        go_loopw [20] (fun i wr => ∃ (k n : Nat), i = .int .i64 k ∧ Hid (wr = w7.drewN n) ∧ k ≤ ws.length) (fun i _ => ws.length - (intOf i).toNat)
        case atStart => exact ⟨0, 0, rfl, rfl, by omega⟩
        case round =>
          obtain ⟨k, n, rfl, hwr, hk⟩ := hrel
          by_cases hlt : k < ws.length
          · have e1 : Rw wr b2 23 1 encU boB cB vs := by rw [hwr.out]; exact hRb7.out
            obtain ⟨bb, hbb, hcb⟩ := e1.at k (by rw [hvl.out]; exact hlt)
            obtain ⟨h', hv⟩ := hvg.out k hlt
            rw [hv] at hcb
            obtain ⟨a, ha, hca⟩ := (hh1.out.tch (w' := wr) (by rw [hwr.out]; exact (hF7.out.tch.drewN n))).at k hlt
            have cV : wr.cell? ⟨w.heap.size, 0, none⟩ = some (U more) := by have := (hF7.out.drewN n).V.cell 0; rw [hwr.out]; simpa using this
            subst hbb; subst ha
            have hne : (u (ws[k] + more) != u (ws[k] + more)) = false := by simp
            clear hv e1
            go_wp2_with fail
            go_quiet (fail)
            go_wp2_with fail
            go_roundw
            case rel => exact ⟨k + 1, n + nq, by simp, by show _ = _; rw [hwr.out, World.drewN_drewN], by omega⟩
            case measure => simp [intOf]; omega
          · have hl2 : ((k : Int) < (ws.length : Int)) = False := by simp; omega
            have hRa8 : Rw wr base 23 1 encU boA cA ws := by rw [hwr.out]; exact hRa7.out
            have hRb8 : Rw wr b2 23 1 encU boB cB vs := by rw [hwr.out]; exact hRb7.out
            have hRc8 : Rw wr b3 23 1 encU boC cC done := by rw [hwr.out]; exact hRc7.out
            have hF8 : PF w x pb more pf pc wr := by rw [hwr.out]; exact hF7.out.drewN n
            have hA8 : x.At m5 wr := by rw [hwr.out]; exact hA7.drewN n
            have hsz8 : b4 ≤ wr.heap.size := by rw [hwr.out]; exact Nat.le_of_eq hsz7.out.symm
            clear hwr hRa7 hRb7 hRc7 hF7 hA7 hsz7 hk
            have hP := hF8.P
            have cp0 := hP.cell 0; have cp1 := hP.cell 1; have cp2 := hP.cell 2; have fp0 := hP.free 0; have fp1 := hP.free 1; have fp2 := hP.free 2; simp at cp0 cp1 cp2
            replace hRa8 := hide hRa8; replace hRb8 := hide hRb8; replace hRc8 := hide hRc8; replace hF8 := hide hF8; replace hsz8 := hide hsz8
            clear hP
            by_cases ho : 0 < done.length
            · have hg2 : (done.length : Int) > 0 := by omega
              obtain ⟨m6, q6, i6⟩ := chainF (by omega) (by omega) ho i5.out s5.out
              rw [← hp.out] at q6
              replace q6 := hide q6; replace i6 := hide i6
              go_wp2_with fail
              refine (pback_ok (p := ⟨1, pf, pc⟩) hA8 q6.out).mono ?_
              rintro e w9 ⟨rfl, hA9, hT9⟩
              have hF9 := hide (hF8.out.step hT9)
              have hRa9 := hide (hRa8.out.tch hT9 hLa.out); have hRb9 := hide (hRb8.out.tch hT9 hLb.out); have hRc9 := hide (hRc8.out.tch hT9 hLc.out)
              have hsz9 := hide (Nat.le_trans hsz8.out hT9.size)
              clear hF8 hA8 hT9 hRa8 hRb8 hRc8 hsz8 cp0 cp1 cp2 fp0 fp1 fp2
              go_wp2_with (first | (go_at_call 8; refine (num_any _ .i64 _).mono ?_; rintro e w' ⟨rfl, rfl⟩))
              go_loopw [21] (fun i wq => ∃ (dn rest : List UInt64) (mm : Mach) (f : Nat → UInt64), i = .int .i64 dn.length ∧ Hid (done = dn ++ rest) ∧ x.At mm wq ∧ Hid (Is 1000 mm (2000000000000000000 + 11 * rest.length) f) ∧ Hid (TSt 1000 (21 + 2 * ws.length) done dn.length f) ∧ Hid (Seg 21 vs f) ∧
                Hid (PF w x pb more pf pc wq) ∧ Hid (Rw wq base 23 1 encU boA cA ws) ∧ Hid (Rw wq b2 23 1 encU boB cB vs) ∧ Hid (Rw wq b3 23 1 encU boC cC done) ∧ Hid (b4 ≤ wq.heap.size)) (fun i _ => done.length - (intOf i).toNat)
              case atStart => exact ⟨[], done, m6, f5, rfl, rfl, hA9, i6.out.mono (by omega), s5.out.tst, g5.out, hF9, hRa9, hRb9, hRc9, hsz9⟩
              case round =>
                clear hF9 hA9 hRa9 hRb9 hRc9 hsz9 i6 q6 s5 g5 i5
                obtain ⟨dn, rest, mm, f, rfl, hos, hA, hI, hQ, hS, hF, hRa, hRb, hRc, hsz⟩ := hrel
                cases rest with
                | cons y rest =>
                  have hos' := hos.out
                  have hlt : dn.length < done.length := by rw [hos']; simp
                  have hy : done[dn.length] = y := by simp [hos']
                  obtain ⟨m9, f9, q9, i9, s9, a9⟩ := qtake_is (b := 2000000000000000000 + 11 * rest.length) (hI.out.mono (by simp only [List.length_cons]; omega)) hQ.out hlt (by omega) (by omega) (by omega)
                  rw [hy] at q9
                  have hvl' := hvl.out
                  have g9 := hide (hS.out.congr fun j h1 h2 => a9 j h1 (by omega))
                  replace q9 := hide q9; replace i9 := hide i9; replace s9 := hide s9; replace hy := hide hy
                  clear hos' a9 hI hQ hS hvl'
                  go_wp2_with fail
                  refine (qtake_ok hA q9.out).mono ?_
                  rintro e w9 ⟨rfl, hA9, hT9⟩
                  have hF9 := hide (hF.out.step hT9)
                  have hRa9 := hide (hRa.out.tch hT9 hLa.out); have hRb9 := hide (hRb.out.tch hT9 hLb.out); have hRc9 := hide (hRc.out.tch hT9 hLc.out)
                  have hsz9 := hide (Nat.le_trans hsz.out hT9.size)
                  clear hF hA hT9 hRa hRb hRc hsz
                  obtain ⟨a, ha, hc⟩ := (hh2.out.tch hF9.out.tch).at dn.length hlt
                  rw [hy.out] at hc
                  subst ha
                  have hne : (u y != u y) = false := by simp
                  go_wp2_with fail
                  go_roundw
                  case rel => exact ⟨dn ++ [y], rest, m9, f9, by simp, by show _ = _; rw [hos.out]; simp, hA9, i9.out, by rw [List.length_append]; exact s9, g9, hF9, hRa9, hRb9, hRc9, hsz9⟩
                  case measure => simp [intOf]; omega
                | nil =>
                  have hos' : dn = done := by have := hos.out; simpa using this.symm
                  subst hos'
                  clear hos
                  obtain ⟨m2, m3, m4, m5, m6, m7, m8, l, l', q2, q3, q4, q5, q6, q7, q8, hll, hl3⟩ := chainC (ws := vs) (os := dn) (by rw [hvl.out]; omega) (by omega) (hI.out.mono (b' := 20000) (by omega)) (by rw [hvl.out]; exact hQ.out) hS.out
                  rw [hvl.out] at q2 q4 q6 hll
                  rw [← hp.out] at q2 q4 q6
                  have hfin : ((l'.length : Int) == (l.length : Int) + (ws.length : Int)) = true := by rw [hll]; simp
                  have hP := hF.out.P
                  have cp0 := hP.cell 0; have cp1 := hP.cell 1; have cp2 := hP.cell 2; have fp0 := hP.free 0; have fp1 := hP.free 1; have fp2 := hP.free 2; simp at cp0 cp1 cp2
                  replace q2 := hide q2; replace q3 := hide q3; replace q4 := hide q4; replace q5 := hide q5; replace q6 := hide q6; replace q7 := hide q7; replace q8 := hide q8; replace hfin := hide hfin
                  clear hI hQ hS hll hP
                  go_wp2_with fail
                  refine (pback_ok (p := ⟨1, pf, pc⟩) hA q2.out).mono ?_
                  rintro e v1 ⟨rfl, hA1, hT1⟩
                  have hF1 := hide (hF.out.step hT1)
                  have hRa1 := hide (hRa.out.tch hT1 hLa.out); have hRb1 := hide (hRb.out.tch hT1 hLb.out); have hRc1 := hide (hRc.out.tch hT1 hLc.out)
                  have hsz1 := Nat.le_trans hsz.out hT1.size
                  obtain ⟨b5, hb5⟩ : ∃ b5, b5 = v1.heap.size := ⟨_, rfl⟩
                  rw [← hb5] at hsz1
                  replace hb5 := hide hb5; replace hsz1 := hide hsz1
                  have hLd := hide hA1.hL
                  clear hF hA hT1 hRa hRb hRc hsz cp0 cp1 cp2 fp0 fp1 fp2
                  go_wp2_with (first | (go_at_call 8; refine (num_any _ .i64 _).mono ?_; rintro e w' ⟨rfl, rfl⟩))
                  refine (qwords_okn hA1 q3.out hvl.out).mono ?_
                  rintro e v2 ⟨boD, cD, rfl, hRd, hA2, hT2⟩
                  rw [← hb5.out] at hRd
                  have hF2 := hide (hF1.out.step hT2)
                  have hRa2 := hide (hRa1.out.tch hT2 hLa.out); have hRb2 := hide (hRb1.out.tch hT2 hLb.out); have hRc2 := hide (hRc1.out.tch hT2 hLc.out)
                  have hsz2 := hide (Nat.le_trans (Nat.le_of_eq hb5.out) hT2.size)
                  have hrd := hide (hRd.rdn hvl.out)
                  have hrb := hide (hRb2.out.rdn hvl.out)
                  replace hRd := hide hRd
                  clear hF1 hA1 hT2 hRa1 hRb1 hRc1
                  go_wp2_with fail
                  refine (kwords_same _ _ _ vs hrd.out hrb.out).mono ?_
                  rintro e v3 ⟨rfl, n, hv3⟩
                  have hRa3 : Rw v3 base 23 1 encU boA cA ws := by rw [hv3]; exact hRa2.out
                  have hRb3 : Rw v3 b2 23 1 encU boB cB vs := by rw [hv3]; exact hRb2.out
                  have hRc3 : Rw v3 b3 23 1 encU boC cC dn := by rw [hv3]; exact hRc2.out
                  have hRd3 : Rw v3 b5 23 1 encU boD cD vs := by rw [hv3]; exact hRd.out
                  have hF3 : PF w x pb more pf pc v3 := by rw [hv3]; exact hF2.out.drewN n
                  have hA3 : x.At m3 v3 := by rw [hv3]; exact hA2.drewN n
                  have hsz3 : b5 ≤ v3.heap.size := by rw [hv3]; exact hsz2.out
                  have hdD := hide (fun a ha => (hRd3.block a ha).2)
                  replace hRa3 := hide hRa3; replace hRb3 := hide hRb3; replace hRc3 := hide hRc3; replace hRd3 := hide hRd3; replace hF3 := hide hF3; replace hsz3 := hide hsz3
                  clear hv3 hRa2 hRb2 hRc2 hRd hF2 hA2 hrd hrb hsz2
                  go_wp2_with fail
                  refine (apart4 _ base b2 b3 b5 _ boA boB boC boD cA cB cC cD ws.length ws.length dn.length ws.length ws vs dn vs (hRa3.out.alloc _) (hRb3.out.alloc _) (hRc3.out.alloc _) (hRd3.out.alloc _) rfl hvl.out rfl hvl.out hdA.out hdB.out (fun a ha => Nat.lt_of_lt_of_le (hdC.out a ha) hsz1.out) hdD.out ⟨hszA.out, hszB.out, Nat.le_trans hszC.out hsz1.out, hsz3.out⟩ (Blk.new _ _ _) ⟨by omega, by omega, by omega, by omega⟩).mono ?_
                  rintro e v4 ⟨rfl, hFr⟩
                  have hA4 := (hA3.alloc _).fr hFr hbz.out.1 hbz.out.2.1 hbz.out.2.2.1
                  have hF4 := hide ((hF3.out.alloc _).fr hFr hbz.out.2.2.2.1 hbz.out.2.2.2.2)
                  clear hFr hA3 hF3 hRa3 hRb3 hRc3 hRd3 hdD hsz3 hsz1
                  go_wp2_with fail
                  refine (pqueue_ok hA4 q4.out).mono ?_
                  rintro e v5 ⟨rfl, hA5, hT5⟩
                  simp only [Prt.val]
                  have hF5 := hide ((hF4.out.step hT5).alloc (.cells #[.int .i64 1, U pf, U pc] 35))
                  have bR := Blk.new v5 #[.int .i64 1, U pf, U pc] 35
                  have hlt5 := hA5.lt
                  have nR : v5.heap.size ∉ x.L := by simp only [List.mem_cons, List.not_mem_nil, or_false, not_or]; omega
                  have hA5' := hide (hA5.alloc (.cells #[.int .i64 1, U pf, U pc] 35))
                  replace nR := hide nR
                  have cr0 := bR.cell 0; have cr1 := bR.cell 1; have cr2 := bR.cell 2; have fr0 := bR.free 0; have fr1 := bR.free 1; have fr2 := bR.free 2; simp at cr0 cr1 cr2
                  replace bR := hide bR
                  clear hA5 hT5 hF4 hA4 hlt5
                  go_wp2_with fail
                  refine (given_ok hA5'.out q5.out).mono ?_
                  rintro e v6 ⟨boE, cE, rfl, hRe, hA6, hT6⟩
                  have hF6 := hide (hF5.out.step hT6)
                  have bR6 := bR.out.tch hT6 nR.out
                  clear hRe hF5 hT6 bR hA5' cr0 cr1 cr2 fr0 fr1 fr2
                  have cr0 := bR6.cell 0; have cr1 := bR6.cell 1; have cr2 := bR6.cell 2; have fr0 := bR6.free 0; have fr1 := bR6.free 1; have fr2 := bR6.free 2; simp at cr0 cr1 cr2
                  replace bR6 := hide bR6
                  go_wp2_with fail
                  refine (pgive_ok (p := ⟨1, pf, pc⟩) hA6 q6.out).mono ?_
                  rintro e v7 ⟨rfl, hA7, hT7⟩
                  have hF7 := hide (hF6.out.step hT7)
                  clear hF6 hT7 hA6 bR6 cr0 cr1 cr2 fr0 fr1 fr2
                  go_wp2_with (first | (go_at_call 8; refine (num_any _ .i64 _).mono ?_; rintro e w' ⟨rfl, rfl⟩))
                  refine (given_ok hA7 q7.out).mono ?_
                  rintro e v8 ⟨boF, cF, rfl, hRf, hA8, hT8⟩
                  have hF8 := hide (hF7.out.step hT8)
                  clear hRf hF7 hT8 hA7
                  go_wp2_with fail
                  refine (qlen_ok hA8 q8.out).mono ?_
                  rintro e v9 ⟨rfl, hA9, hT9⟩
                  have hF9 := hide (hF8.out.step hT9)
                  clear hF8 hT9 hA8 hA9
                  have hfin' := hfin.out
                  go_wp2_with fail
                  refine (works_any _).mono ?_
                  rintro e v10 ⟨rfl, hT10⟩
                  go_wp2_with fail
                  go_ret
                  exact ⟨rfl, hF9.out.tch.trans hT10⟩
            · have hg2 : ((done.length : Int) > 0) = False := eq_false (by omega)
              go_wp2_with fail
              go_loopw [21] (fun i wq => ∃ (dn rest : List UInt64) (mm : Mach) (f : Nat → UInt64), i = .int .i64 dn.length ∧ Hid (done = dn ++ rest) ∧ x.At mm wq ∧ Hid (Is 1000 mm (2000000000000000000 + 11 * rest.length) f) ∧ Hid (TSt 1000 (21 + 2 * ws.length) done dn.length f) ∧ Hid (Seg 21 vs f) ∧
                Hid (PF w x pb more pf pc wq) ∧ Hid (Rw wq base 23 1 encU boA cA ws) ∧ Hid (Rw wq b2 23 1 encU boB cB vs) ∧ Hid (Rw wq b3 23 1 encU boC cC done) ∧ Hid (b4 ≤ wq.heap.size)) (fun i _ => done.length - (intOf i).toNat)
              case atStart => exact ⟨[], done, m5, f5, rfl, rfl, hA8, i5.out.mono (by omega), s5.out.tst, g5.out, hF8, hRa8, hRb8, hRc8, hsz8⟩
              case round =>
                clear hF8 hA8 hRa8 hRb8 hRc8 hsz8 s5 g5 i5 cp0 cp1 cp2 fp0 fp1 fp2
                obtain ⟨dn, rest, mm, f, rfl, hos, hA, hI, hQ, hS, hF, hRa, hRb, hRc, hsz⟩ := hrel
                cases rest with
                | cons y rest =>
                  have hos' := hos.out
                  have hlt : dn.length < done.length := by rw [hos']; simp
                  have hy : done[dn.length] = y := by simp [hos']
                  obtain ⟨m9, f9, q9, i9, s9, a9⟩ := qtake_is (b := 2000000000000000000 + 11 * rest.length) (hI.out.mono (by simp only [List.length_cons]; omega)) hQ.out hlt (by omega) (by omega) (by omega)
                  rw [hy] at q9
                  have hvl' := hvl.out
                  have g9 := hide (hS.out.congr fun j h1 h2 => a9 j h1 (by omega))
                  replace q9 := hide q9; replace i9 := hide i9; replace s9 := hide s9; replace hy := hide hy
                  clear hos' a9 hI hQ hS hvl'
                  go_wp2_with fail
                  refine (qtake_ok hA q9.out).mono ?_
                  rintro e w9 ⟨rfl, hA9, hT9⟩
                  have hF9 := hide (hF.out.step hT9)
                  have hRa9 := hide (hRa.out.tch hT9 hLa.out); have hRb9 := hide (hRb.out.tch hT9 hLb.out); have hRc9 := hide (hRc.out.tch hT9 hLc.out)
                  have hsz9 := hide (Nat.le_trans hsz.out hT9.size)
                  clear hF hA hT9 hRa hRb hRc hsz
                  obtain ⟨a, ha, hc⟩ := (hh2.out.tch hF9.out.tch).at dn.length hlt
                  rw [hy.out] at hc
                  subst ha
                  have hne : (u y != u y) = false := by simp
                  go_wp2_with fail
                  go_roundw
                  case rel => exact ⟨dn ++ [y], rest, m9, f9, by simp, by show _ = _; rw [hos.out]; simp, hA9, i9.out, by rw [List.length_append]; exact s9, g9, hF9, hRa9, hRb9, hRc9, hsz9⟩
                  case measure => simp [intOf]; omega
                | nil =>
                  have hos' : dn = done := by have := hos.out; simpa using this.symm
                  subst hos'
                  clear hos
                  obtain ⟨m2, m3, m4, m5, m6, m7, m8, l, l', q2, q3, q4, q5, q6, q7, q8, hll, hl3⟩ := chainC (ws := vs) (os := dn) (by rw [hvl.out]; omega) (by omega) (hI.out.mono (b' := 20000) (by omega)) (by rw [hvl.out]; exact hQ.out) hS.out
                  rw [hvl.out] at q2 q4 q6 hll
                  rw [← hp.out] at q2 q4 q6
                  have hfin : ((l'.length : Int) == (l.length : Int) + (ws.length : Int)) = true := by rw [hll]; simp
                  have hP := hF.out.P
                  have cp0 := hP.cell 0; have cp1 := hP.cell 1; have cp2 := hP.cell 2; have fp0 := hP.free 0; have fp1 := hP.free 1; have fp2 := hP.free 2; simp at cp0 cp1 cp2
                  replace q2 := hide q2; replace q3 := hide q3; replace q4 := hide q4; replace q5 := hide q5; replace q6 := hide q6; replace q7 := hide q7; replace q8 := hide q8; replace hfin := hide hfin
                  clear hI hQ hS hll hP
                  go_wp2_with fail
                  refine (pback_ok (p := ⟨1, pf, pc⟩) hA q2.out).mono ?_
                  rintro e v1 ⟨rfl, hA1, hT1⟩
                  have hF1 := hide (hF.out.step hT1)
                  have hRa1 := hide (hRa.out.tch hT1 hLa.out); have hRb1 := hide (hRb.out.tch hT1 hLb.out); have hRc1 := hide (hRc.out.tch hT1 hLc.out)
                  have hsz1 := Nat.le_trans hsz.out hT1.size
                  obtain ⟨b5, hb5⟩ : ∃ b5, b5 = v1.heap.size := ⟨_, rfl⟩
                  rw [← hb5] at hsz1
                  replace hb5 := hide hb5; replace hsz1 := hide hsz1
                  have hLd := hide hA1.hL
                  clear hF hA hT1 hRa hRb hRc hsz cp0 cp1 cp2 fp0 fp1 fp2
                  go_wp2_with (first | (go_at_call 8; refine (num_any _ .i64 _).mono ?_; rintro e w' ⟨rfl, rfl⟩))
                  refine (qwords_okn hA1 q3.out hvl.out).mono ?_
                  rintro e v2 ⟨boD, cD, rfl, hRd, hA2, hT2⟩
                  rw [← hb5.out] at hRd
                  have hF2 := hide (hF1.out.step hT2)
                  have hRa2 := hide (hRa1.out.tch hT2 hLa.out); have hRb2 := hide (hRb1.out.tch hT2 hLb.out); have hRc2 := hide (hRc1.out.tch hT2 hLc.out)
                  have hsz2 := hide (Nat.le_trans (Nat.le_of_eq hb5.out) hT2.size)
                  have hrd := hide (hRd.rdn hvl.out)
                  have hrb := hide (hRb2.out.rdn hvl.out)
                  replace hRd := hide hRd
                  clear hF1 hA1 hT2 hRa1 hRb1 hRc1
                  go_wp2_with fail
                  refine (kwords_same _ _ _ vs hrd.out hrb.out).mono ?_
                  rintro e v3 ⟨rfl, n, hv3⟩
                  have hRa3 : Rw v3 base 23 1 encU boA cA ws := by rw [hv3]; exact hRa2.out
                  have hRb3 : Rw v3 b2 23 1 encU boB cB vs := by rw [hv3]; exact hRb2.out
                  have hRc3 : Rw v3 b3 23 1 encU boC cC dn := by rw [hv3]; exact hRc2.out
                  have hRd3 : Rw v3 b5 23 1 encU boD cD vs := by rw [hv3]; exact hRd.out
                  have hF3 : PF w x pb more pf pc v3 := by rw [hv3]; exact hF2.out.drewN n
                  have hA3 : x.At m3 v3 := by rw [hv3]; exact hA2.drewN n
                  have hsz3 : b5 ≤ v3.heap.size := by rw [hv3]; exact hsz2.out
                  have hdD := hide (fun a ha => (hRd3.block a ha).2)
                  replace hRa3 := hide hRa3; replace hRb3 := hide hRb3; replace hRc3 := hide hRc3; replace hRd3 := hide hRd3; replace hF3 := hide hF3; replace hsz3 := hide hsz3
                  clear hv3 hRa2 hRb2 hRc2 hRd hF2 hA2 hrd hrb hsz2
                  go_wp2_with fail
                  refine (apart4 _ base b2 b3 b5 _ boA boB boC boD cA cB cC cD ws.length ws.length dn.length ws.length ws vs dn vs (hRa3.out.alloc _) (hRb3.out.alloc _) (hRc3.out.alloc _) (hRd3.out.alloc _) rfl hvl.out rfl hvl.out hdA.out hdB.out (fun a ha => Nat.lt_of_lt_of_le (hdC.out a ha) hsz1.out) hdD.out ⟨hszA.out, hszB.out, Nat.le_trans hszC.out hsz1.out, hsz3.out⟩ (Blk.new _ _ _) ⟨by omega, by omega, by omega, by omega⟩).mono ?_
                  rintro e v4 ⟨rfl, hFr⟩
                  have hA4 := (hA3.alloc _).fr hFr hbz.out.1 hbz.out.2.1 hbz.out.2.2.1
                  have hF4 := hide ((hF3.out.alloc _).fr hFr hbz.out.2.2.2.1 hbz.out.2.2.2.2)
                  clear hFr hA3 hF3 hRa3 hRb3 hRc3 hRd3 hdD hsz3 hsz1
                  go_wp2_with fail
                  refine (pqueue_ok hA4 q4.out).mono ?_
                  rintro e v5 ⟨rfl, hA5, hT5⟩
                  simp only [Prt.val]
                  have hF5 := hide ((hF4.out.step hT5).alloc (.cells #[.int .i64 1, U pf, U pc] 35))
                  have bR := Blk.new v5 #[.int .i64 1, U pf, U pc] 35
                  have hlt5 := hA5.lt
                  have nR : v5.heap.size ∉ x.L := by simp only [List.mem_cons, List.not_mem_nil, or_false, not_or]; omega
                  have hA5' := hide (hA5.alloc (.cells #[.int .i64 1, U pf, U pc] 35))
                  replace nR := hide nR
                  have cr0 := bR.cell 0; have cr1 := bR.cell 1; have cr2 := bR.cell 2; have fr0 := bR.free 0; have fr1 := bR.free 1; have fr2 := bR.free 2; simp at cr0 cr1 cr2
                  replace bR := hide bR
                  clear hA5 hT5 hF4 hA4 hlt5
                  go_wp2_with fail
                  refine (given_ok hA5'.out q5.out).mono ?_
                  rintro e v6 ⟨boE, cE, rfl, hRe, hA6, hT6⟩
                  have hF6 := hide (hF5.out.step hT6)
                  have bR6 := bR.out.tch hT6 nR.out
                  clear hRe hF5 hT6 bR hA5' cr0 cr1 cr2 fr0 fr1 fr2
                  have cr0 := bR6.cell 0; have cr1 := bR6.cell 1; have cr2 := bR6.cell 2; have fr0 := bR6.free 0; have fr1 := bR6.free 1; have fr2 := bR6.free 2; simp at cr0 cr1 cr2
                  replace bR6 := hide bR6
                  go_wp2_with fail
                  refine (pgive_ok (p := ⟨1, pf, pc⟩) hA6 q6.out).mono ?_
                  rintro e v7 ⟨rfl, hA7, hT7⟩
                  have hF7 := hide (hF6.out.step hT7)
                  clear hF6 hT7 hA6 bR6 cr0 cr1 cr2 fr0 fr1 fr2
                  go_wp2_with (first | (go_at_call 8; refine (num_any _ .i64 _).mono ?_; rintro e w' ⟨rfl, rfl⟩))
                  refine (given_ok hA7 q7.out).mono ?_
                  rintro e v8 ⟨boF, cF, rfl, hRf, hA8, hT8⟩
                  have hF8 := hide (hF7.out.step hT8)
                  clear hRf hF7 hT8 hA7
                  go_wp2_with fail
                  refine (qlen_ok hA8 q8.out).mono ?_
                  rintro e v9 ⟨rfl, hA9, hT9⟩
                  have hF9 := hide (hF8.out.step hT9)
                  clear hF8 hT9 hA8 hA9
                  have hfin' := hfin.out
                  go_wp2_with fail
                  refine (works_any _).mono ?_
                  rintro e v10 ⟨rfl, hT10⟩
                  go_wp2_with fail
                  go_ret
                  exact ⟨rfl, hF9.out.tch.trans hT10⟩
end Go.Proofs.Ytkfonlpglkfpgaa
