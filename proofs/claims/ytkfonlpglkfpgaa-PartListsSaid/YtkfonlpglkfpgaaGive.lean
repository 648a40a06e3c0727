/- part.Give, Back. -/
import Derived.Test.YtkfonlpglkfpgaaTurn
namespace Go.Proofs.Ytkfonlpglkfpgaa
set_option linter.unusedSimpArgs false
set_option linter.unusedVariables false
open Go.RowKit

set_option maxHeartbeats 3200000 in
theorem pgive_any (x : TxB) (m : Mach) (w : World) (at_ : UInt64) (p : Prt) (h : x.At m w) :
    Calls Try.prog 21 #[x.val, U at_, p.val] w (x.Post w (.int .i64 (pgive m at_ p).1) (pgive m at_ p).2) := by
  obtain ⟨r, hr⟩ : ∃ r, r = pgive m at_ p := ⟨_, rfl⟩
  rw [← hr]
  unfold pgive at hr
  replace hr := hide hr
  have hlt := hide h.lt
  have hL := hide h.hL
  have b0 := Blk.new w #[.int .i64 p.kind, U p.first, U p.count] 35
  have ca0 := b0.cell 0; have ca1 := b0.cell 1; have ca2 := b0.cell 2; have fa0 := b0.free 0; have fa1 := b0.free 1; have fa2 := b0.free 2; simp at ca0 ca1 ca2
  simp only [Prt.val]
  go_enter Try.func21, Try.ntmps21
  go_wp2_with fail
  refine (pnodes_any x m _ p (h.alloc _)).mono ?_
  rintro e w1 ⟨bo, c, rfl, hR, hA, hT⟩
  have hT0 := hide (((Tch.refl x.L w).alloc (.cells #[.int .i64 p.kind, U p.first, U p.count] 35)).trans hT)
  have hR0 := hide (hR.mono (base' := w.heap.size) (by simp))
  have hmax := hR.len_le
  clear hT hR ca0 ca1 ca2 fa0 fa1 fa2 b0
  generalize hM : pnodes m p = ns at *
  clear hM
  obtain ⟨ns, e0, m0⟩ := ns
  dsimp only at *
  cases hE : (e0 != 0)
  · go_wp2_with fail
    have hr1 := hr.out
    simp only [hE, Bool.false_eq_true, if_false] at hr1
    replace hr1 := hide hr1.symm
    go_loopw [23] (fun i wr => ∃ (done rest : List UInt64) (mm : Mach), i = .int .i64 done.length ∧ Hid (ns = done ++ rest) ∧ x.At mm wr ∧ Hid (Rw wr w.heap.size 23 1 encU bo c ns) ∧ Hid (Tch x.L w wr) ∧ Hid (giveL at_ rest mm = r)) (fun i _ => ns.length - (intOf i).toNat)
    case atStart => exact ⟨[], ns, m0, rfl, rfl, hA, hR0.out, hT0.out, hr1.out⟩
    case round =>
      clear hR0 hT0 hr1 hA hr
      obtain ⟨done, rest, mm, rfl, hns, hA, hR, hT, hg⟩ := hrel
      cases rest with
      | nil =>
        have hl : ((done.length : Int) < (ns.length : Int)) = False := by have := hns.out; rw [this]; simp
        go_wp2_with fail
        go_ret
        have hq := hg.out
        rw [giveL_nil] at hq
        subst hq
        exact ⟨rfl, hA, hT.out⟩
      | cons nd rest =>
        have hlen : done.length < ns.length := by have := hns.out; rw [this]; simp
        obtain ⟨b, hbo, hcell⟩ := hR.out.cell encU_len done.length 0 nd (by rw [hns.out]; simp) (U nd) rfl
        subst hbo
        rw [Nat.mul_one, Nat.add_zero] at hcell
        have hg1 := hg.out
        rw [giveL_cons] at hg1
        go_wp2_with fail
        refine (give_any x _ _ _ _ _ hA).mono ?_
        rintro e w2 ⟨rfl, hA2, hT2⟩
        have hR2 := hide (hR.out.tch hT2 hL.out)
        have hT3 := hide (hT.out.trans hT2)
        clear hT2 hR hT hcell
        cases hP : ((give mm at_ nd 2).1 != 0)
        · simp only [hP, Bool.false_eq_true, if_false] at hg1
          replace hg1 := hide hg1
          go_wp2_with fail
          go_roundw
          case rel => exact ⟨done ++ [nd], rest, _, by simp, by show _ = _; rw [hns.out]; simp, hA2, hR2.out, hT3.out, hg1.out⟩
          case measure => simp [intOf]; omega
        · simp only [hP, if_true] at hg1
          replace hg1 := hide hg1
          go_wp2_with fail
          go_ret
          have hq := hg1.out
          subst hq
          exact ⟨rfl, hA2, hT3.out⟩
  · go_wp2_with fail
    go_ret
    have hq := hr.out
    simp only [hE, if_true] at hq
    subst hq
    exact ⟨rfl, hA, hT0.out⟩

theorem getElem?_last (ns : List UInt64) (h : 0 < ns.length) : ns[ns.length - 1]? = some (ns.getD (ns.length - 1) 0) := by
  have h' : ns.length - 1 < ns.length := by omega
  rw [List.getD_eq_getElem?_getD, List.getElem?_eq_getElem h']; rfl

set_option maxHeartbeats 3200000 in
theorem pback_any (x : TxB) (m : Mach) (w : World) (q : UInt64) (p : Prt) (h : x.At m w) :
    Calls Try.prog 17 #[x.val, U q, p.val] w (x.Post w (.int .i64 (pback m q p).1) (pback m q p).2) := by
  obtain ⟨r, hr⟩ : ∃ r, r = pback m q p := ⟨_, rfl⟩
  rw [← hr]
  unfold pback at hr
  replace hr := hide hr
  have hlt := hide h.lt
  have hL := hide h.hL
  have b0 := Blk.new w #[.int .i64 p.kind, U p.first, U p.count] 35
  have n0 := hide (show w.heap.size ∉ x.L by have := h.lt; simp; omega)
  have ca0 := b0.cell 0; have ca1 := b0.cell 1; have ca2 := b0.cell 2; have fa0 := b0.free 0; have fa1 := b0.free 1; have fa2 := b0.free 2; simp at ca0 ca1 ca2
  replace b0 := hide b0
  simp only [Prt.val]
  cases hK : (p.kind != 1)
  · cases hE : ((m.get q).2.1 != 0)
    · cases hX : ((m.get q).1 != 0)
      · have hr1 := hr.out
        simp only [hK, hE, hX, Bool.false_eq_true, if_false] at hr1
        replace hr1 := hide hr1
        clear hr
        go_enter Try.func17, Try.ntmps17
        go_wp2_with fail
        refine (tget x m _ q (h.alloc _)).mono ?_
        rintro e w1 ⟨rfl, hA1, hT1⟩
        have b1 := b0.out.tch hT1 n0.out
        have T1 := hide (((Tch.refl x.L w).alloc (.cells #[.int .i64 p.kind, U p.first, U p.count] 35)).trans hT1)
        clear hT1 ca0 ca1 ca2 fa0 fa1 fa2
        have ca0 := b1.cell 0; have ca1 := b1.cell 1; have ca2 := b1.cell 2; have fa0 := b1.free 0; have fa1 := b1.free 1; have fa2 := b1.free 2; simp at ca0 ca1 ca2
        replace b1 := hide b1
        go_wp2_with fail
        refine (pnodes_any x _ _ p hA1).mono ?_
        rintro e w2 ⟨bo, c, rfl, hR, hA2, hT2⟩
        have b2 := b1.out.tch hT2 n0.out
        have T2 := hide (T1.out.trans hT2)
        have hmax := hR.len_le
        clear hT2 ca0 ca1 ca2 fa0 fa1 fa2
        have ca0 := b2.cell 0; have ca1 := b2.cell 1; have ca2 := b2.cell 2; have fa0 := b2.free 0; have fa1 := b2.free 1; have fa2 := b2.free 2; simp at ca0 ca1 ca2
        replace b2 := hide b2
        generalize hM : pnodes (m.get q).2.2 p = ns at *
        clear hM
        obtain ⟨ns, e0, m0⟩ := ns
        dsimp only at *
        cases hE2 : (e0 != 0)
        · simp only [hE2, Bool.false_eq_true, if_false] at hr1
          by_cases hn : 0 < ns.length
          · obtain ⟨b, hbo, hcell⟩ := hR.cell encU_len (ns.length - 1) 0 (ns.getD (ns.length - 1) 0) (getElem?_last ns hn) (U (ns.getD (ns.length - 1) 0)) rfl
            subst hbo
            rw [Nat.mul_one, Nat.add_zero] at hcell
            simp only [if_pos hn] at hr1
            have hgt : decide (0 < (ns.length : Int)) = true := by simpa using hn
            generalize hLast : ns.getD (ns.length - 1) 0 = last at *
            clear hLast
            go_wp2_with fail
            have hw2 := hA2.lt
            have ns0 := hide (show w2.heap.size ∉ x.L by simp; omega)
            have s0 := Blk.new w2 #[U p.first, U (last + 1), U p.count] 23
            have T3 := hide (T2.out.alloc (.cells #[U p.first, U (last + 1), U p.count] 23))
            have cs0 := s0.cell 0; have cs1 := s0.cell 1; have cs2 := s0.cell 2; have fs0 := s0.free 0; have fs1 := s0.free 1; have fs2 := s0.free 2; simp at cs0 cs1 cs2
            replace s0 := hide s0
            clear ca0 ca1 ca2 fa0 fa1 fa2
            unfold pbackP at hr1
            replace hr1 := hide hr1
            refine wp_loop_rounds 4 ?_
            rw [rounds_succ]
            go_wp2_with fail
            refine (tput x _ _ q p.first (hA2.alloc _)).mono ?_
            rintro e w3 ⟨rfl, hA3, hT3⟩
            have s1 := s0.out.tch hT3 ns0.out
            have T4 := hide (T3.out.trans hT3)
            clear cs0 cs1 cs2 fs0 fs1 fs2 hT3
            have cs0 := s1.cell 0; have cs1 := s1.cell 1; have cs2 := s1.cell 2; have fs0 := s1.free 0; have fs1 := s1.free 1; have fs2 := s1.free 2; simp at cs0 cs1 cs2
            replace s1 := hide s1
            cases hP : ((m0.put q p.first).1 != 0)
            · go_wp2_with fail
              rw [rounds_succ]
              go_wp2_with fail
              refine (tput x _ _ (q + 1) (last + 1) hA3).mono ?_
              rintro e w4 ⟨rfl, hA4, hT4⟩
              have s2 := s1.out.tch hT4 ns0.out
              have T5 := hide (T4.out.trans hT4)
              clear cs0 cs1 cs2 fs0 fs1 fs2 hT4
              have cs0 := s2.cell 0; have cs1 := s2.cell 1; have cs2 := s2.cell 2; have fs0 := s2.free 0; have fs1 := s2.free 1; have fs2 := s2.free 2; simp at cs0 cs1 cs2
              replace s2 := hide s2
              cases hQ : (((m0.put q p.first).2.put (q + 1) (last + 1)).1 != 0)
              · go_wp2_with fail
                rw [rounds_succ]
                go_wp2_with fail
                refine (tput x _ _ (q + 2) p.count hA4).mono ?_
                rintro e w5 ⟨rfl, hA5, hT5⟩
                have T6 := hide (T5.out.trans hT5)
                clear hT5
                cases hS : ((((m0.put q p.first).2.put (q + 1) (last + 1)).2.put (q + 2) p.count).1 != 0)
                · go_wp2_with fail
                  rw [rounds_succ]
                  go_wp2_with fail
                  go_ret
                  have hq := hr1.out
                  simp only [hP, hQ, hS, Bool.false_eq_true, if_false] at hq
                  subst hq
                  exact ⟨rfl, hA5, T6.out⟩
                · go_wp2_with fail
                  go_ret
                  have hq := hr1.out
                  simp only [hP, hQ, hS, Bool.false_eq_true, if_false, if_true] at hq
                  subst hq
                  exact ⟨rfl, hA5, T6.out⟩
              · go_wp2_with fail
                go_ret
                have hq := hr1.out
                simp only [hP, hQ, Bool.false_eq_true, if_false, if_true] at hq
                subst hq
                exact ⟨rfl, hA4, T5.out⟩
            · go_wp2_with fail
              go_ret
              have hq := hr1.out
              simp only [hP, if_true] at hq
              subst hq
              exact ⟨rfl, hA3, T4.out⟩
          · have hn0 : ns.length = 0 := by omega
            have hgt : decide (0 < (ns.length : Int)) = false := by simp [hn0]
            simp only [if_neg hn] at hr1
            clear hn0
            go_wp2_with fail
            have hw2 := hA2.lt
            have ns0 := hide (show w2.heap.size ∉ x.L by simp; omega)
            have s0 := Blk.new w2 #[U p.first, U (0), U p.count] 23
            have T3 := hide (T2.out.alloc (.cells #[U p.first, U (0), U p.count] 23))
            have cs0 := s0.cell 0; have cs1 := s0.cell 1; have cs2 := s0.cell 2; have fs0 := s0.free 0; have fs1 := s0.free 1; have fs2 := s0.free 2; simp at cs0 cs1 cs2
            replace s0 := hide s0
            clear ca0 ca1 ca2 fa0 fa1 fa2
            unfold pbackP at hr1
            replace hr1 := hide hr1
            refine wp_loop_rounds 4 ?_
            rw [rounds_succ]
            go_wp2_with fail
            refine (tput x _ _ q p.first (hA2.alloc _)).mono ?_
            rintro e w3 ⟨rfl, hA3, hT3⟩
            have s1 := s0.out.tch hT3 ns0.out
            have T4 := hide (T3.out.trans hT3)
            clear cs0 cs1 cs2 fs0 fs1 fs2 hT3
            have cs0 := s1.cell 0; have cs1 := s1.cell 1; have cs2 := s1.cell 2; have fs0 := s1.free 0; have fs1 := s1.free 1; have fs2 := s1.free 2; simp at cs0 cs1 cs2
            replace s1 := hide s1
            cases hP : ((m0.put q p.first).1 != 0)
            · go_wp2_with fail
              rw [rounds_succ]
              go_wp2_with fail
              refine (tput x _ _ (q + 1) (0) hA3).mono ?_
              rintro e w4 ⟨rfl, hA4, hT4⟩
              have s2 := s1.out.tch hT4 ns0.out
              have T5 := hide (T4.out.trans hT4)
              clear cs0 cs1 cs2 fs0 fs1 fs2 hT4
              have cs0 := s2.cell 0; have cs1 := s2.cell 1; have cs2 := s2.cell 2; have fs0 := s2.free 0; have fs1 := s2.free 1; have fs2 := s2.free 2; simp at cs0 cs1 cs2
              replace s2 := hide s2
              cases hQ : (((m0.put q p.first).2.put (q + 1) (0)).1 != 0)
              · go_wp2_with fail
                rw [rounds_succ]
                go_wp2_with fail
                refine (tput x _ _ (q + 2) p.count hA4).mono ?_
                rintro e w5 ⟨rfl, hA5, hT5⟩
                have T6 := hide (T5.out.trans hT5)
                clear hT5
                cases hS : ((((m0.put q p.first).2.put (q + 1) (0)).2.put (q + 2) p.count).1 != 0)
                · go_wp2_with fail
                  rw [rounds_succ]
                  go_wp2_with fail
                  go_ret
                  have hq := hr1.out
                  simp only [hP, hQ, hS, Bool.false_eq_true, if_false] at hq
                  subst hq
                  exact ⟨rfl, hA5, T6.out⟩
                · go_wp2_with fail
                  go_ret
                  have hq := hr1.out
                  simp only [hP, hQ, hS, Bool.false_eq_true, if_false, if_true] at hq
                  subst hq
                  exact ⟨rfl, hA5, T6.out⟩
              · go_wp2_with fail
                go_ret
                have hq := hr1.out
                simp only [hP, hQ, Bool.false_eq_true, if_false, if_true] at hq
                subst hq
                exact ⟨rfl, hA4, T5.out⟩
            · go_wp2_with fail
              go_ret
              have hq := hr1.out
              simp only [hP, if_true] at hq
              subst hq
              exact ⟨rfl, hA3, T4.out⟩
        · go_wp2_with fail
          go_ret
          have hq := hr1.out
          simp only [hE2, if_true] at hq
          subst hq
          exact ⟨rfl, hA2, T2.out⟩
      · have hr1 := hr.out
        simp only [hK, hE, hX, Bool.false_eq_true, if_false, if_true] at hr1
        replace hr1 := hide hr1
        clear hr
        go_enter Try.func17, Try.ntmps17
        go_wp2_with fail
        refine (tget x m _ q (h.alloc _)).mono ?_
        rintro e w1 ⟨rfl, hA1, hT1⟩
        go_wp2_with fail
        go_ret
        have hq := hr1.out
        subst hq
        exact ⟨rfl, hA1, ((Tch.refl x.L w).alloc (.cells #[.int .i64 p.kind, U p.first, U p.count] 35)).trans hT1⟩
    · have hr1 := hr.out
      simp only [hK, hE, Bool.false_eq_true, if_false, if_true] at hr1
      replace hr1 := hide hr1
      clear hr
      go_enter Try.func17, Try.ntmps17
      go_wp2_with fail
      refine (tget x m _ q (h.alloc _)).mono ?_
      rintro e w1 ⟨rfl, hA1, hT1⟩
      go_wp2_with fail
      go_ret
      have hq := hr1.out
      subst hq
      exact ⟨rfl, hA1, ((Tch.refl x.L w).alloc (.cells #[.int .i64 p.kind, U p.first, U p.count] 35)).trans hT1⟩
  · have hr1 := hr.out
    simp only [hK, if_true] at hr1
    replace hr1 := hide hr1
    clear hr
    go_enter Try.func17, Try.ntmps17
    go_wp2_with fail
    go_ret
    have hq := hr1.out
    subst hq
    exact ⟨rfl, h.alloc _, (Tch.refl x.L w).alloc _⟩
end Go.Proofs.Ytkfonlpglkfpgaa
