/- part.each, over meth. -/
import Derived.Test.YtkfonlpglkfpgaaEach
namespace Go.Proofs.Ytkfonlpglkfpgaa
set_option linter.unusedSimpArgs false
set_option linter.unusedVariables false
open Go.RowKit

set_option maxHeartbeats 3200000 in
theorem each_meth {S : Type} (x : TxB) (J : S → Mach → World → Prop) (cnt : S → Nat) (step : S → Mach → UInt64 → UInt64 → Int × S × Mach) (fid : FuncId) (caps : Array Value) 
    (p : Prt) (s : S) (m : Mach) (w : World) (hS : StepOk x w.heap.size J cnt step fid caps) (hc0 : cnt s = 0)
    (hJ : J s m (w.alloc (.cells #[.int .i64 p.kind, U p.first, U p.count] 35))) (hpb : w.heap.size ≠ x.wb ∧ w.heap.size ≠ x.mb) :
    Calls Try.prog 34 #[p.val, .func (.method "Get") #[x.val] #[], .func (.func fid) #[] caps] w (EachPost J (each step p s m)) := by
  obtain ⟨r, hr⟩ : ∃ r, r = each step p s m := ⟨_, rfl⟩
  rw [← hr]
  unfold each at hr
  have b0 := Blk.new w #[.int .i64 p.kind, U p.first, U p.count] 35
  have ca0 := b0.cell 0; have ca1 := b0.cell 1; have ca2 := b0.cell 2; have fa0 := b0.free 0; have fa1 := b0.free 1; have fa2 := b0.free 2; simp at ca0 ca1 ca2
  replace b0 := hide b0; replace hJ := hide hJ; replace hpb := hide hpb
  replace hc0 := hide hc0
  simp only [Prt.val]
  have hK : ((p.kind != 1) = true ∧ (p.kind != 2) = true) ∨ (p.kind != 1) = false ∨ ((p.kind != 1) = true ∧ (p.kind != 2) = false) := by
    cases (p.kind != 1) <;> cases (p.kind != 2) <;> simp
  rcases hK with ⟨hK1, hK2⟩ | hK1 | ⟨hK1, hK2⟩
  · simp only [hK1, hK2, Bool.and_self, if_true] at hr
    replace hr := hide hr
    go_enter Try.func34, Try.ntmps34
    go_wp2_with fail
    go_step3
    go_wp2_with fail
    rw [Exit.noGoto_ret]
    go_ret
    rw [hr.out]
    exact ⟨rfl, hJ.out⟩
  all_goals (
    first | simp only [hK1, hK2, Bool.and_false, Bool.false_eq_true, if_false] at hr | simp only [hK1, Bool.false_and, Bool.false_eq_true, if_false] at hr
    cases hC : decide (u 65536 < u p.count)
    · cases hA : (p.first == 0) <;> cases hB : (p.count == 0)
      case' false.false => have hF : ((false != false)) = false := rfl
      case' true.true => have hF : ((true != true)) = false := rfl
      case' false.true => have hF : ((false != true)) = true := rfl
      case' true.false => have hF : ((true != false)) = true := rfl
      case' false.false | true.true =>
        simp only [hC, hA, hB, hF, Bool.or_self, Bool.false_eq_true, if_false] at hr
        clear hF
        replace hr := hide hr.symm
        go_enter Try.func34, Try.ntmps34
        go_wp2_with fail
        go_step3
        go_wp2_with fail
        try go_step3
        go_wp2_with fail
        clear ca0 ca1 ca2 fa0 fa1 fa2
        go_loopw [7, 8] (fun nx n wr => ∃ (nn cc : UInt64) (k : Nat) (ss : S) (mm : Mach), nx = U nn ∧ n = U cc ∧ Hid (Blk wr w.heap.size #[.int .i64 p.kind, U p.first, U p.count] 35) ∧ Hid (J ss mm wr) ∧ Hid (cc.toNat = cnt ss) ∧ Hid (cc.toNat + k = p.count.toNat) ∧ Hid (nn ≠ 0 → cc.toNat < p.count.toNat) ∧ Hid (eachL step p.count k ss mm nn cc = r)) (fun _ n _ => p.count.toNat - (intOf n).toNat)
        case atStart => exact ⟨p.first, 0, p.count.toNat, s, m, rfl, rfl, b0.out, hJ.out, hc0.out.symm, by show _ = _; simp, by show _ → _; simp at hA hB; simp [hA, hB]; try exact u_pos hB, hr.out⟩
        case round =>
          clear hr b0 hJ hc0 hA hB
          obtain ⟨nn, cc, k, ss, mm, rfl, rfl, b1, hJ, hc, hk, hlt, hg⟩ := hrel
          have hg1 := hg.out
          rw [eachL.eq_def] at hg1
          have b2 := b1.out
          have ca0 := b2.cell 0; have ca1 := b2.cell 1; have ca2 := b2.cell 2; have fa0 := b2.free 0; have fa1 := b2.free 1; have fa2 := b2.free 2; simp at ca0 ca1 ca2
          replace b2 := hide b2
          clear b1 hg
          cases hN : (nn != 0)
          · simp only [hN, Bool.false_eq_true, if_false] at hg1
            replace hg1 := hide hg1
            go_wp2_with fail
            rw [Exit.noGoto_ret]
            go_ret
            rw [← hg1.out]
            exact ⟨rfl, hJ.out⟩
          · simp only [hN, if_true] at hg1
            have hn0 : nn ≠ 0 := by simpa using hN
            have hlt1 := hide (hlt.out hn0)
            clear hn0 hlt
            have hpb' : w.heap.size ∉ x.L := by have := hpb.out; simp; exact this
            replace hpb' := hide hpb'
            go_wp2_with fail
            refine (tget x mm _ (nn - 1) (hS.at_ _ _ _ hJ.out)).mono ?_
            rintro e w1 ⟨rfl, hA1, hT1⟩
            have hJ1 := hide (hS.tch _ _ _ _ _ hJ.out hA1 hT1)
            have b3 := b2.out.tch hT1 hpb'.out
            clear ca0 ca1 ca2 fa0 fa1 fa2 hA1 hT1
            have ca0 := b3.cell 0; have ca1 := b3.cell 1; have ca2 := b3.cell 2; have fa0 := b3.free 0; have fa1 := b3.free 1; have fa2 := b3.free 2; simp at ca0 ca1 ca2
            replace b3 := hide b3
            cases hE : ((mm.get (nn - 1)).2.1 != 0)
            · have hE' : ((mm.get (nn - 1)).2.1 == 0) = true := by simpa using hE
              simp only [hE, Bool.false_eq_true, if_false] at hg1
              replace hg1 := hide hg1
              have hen := hS.enter
              go_wp2_with fail
              refine (hS.call ss _ _ (nn - 1) (mm.get (nn - 1)).1 hJ1.out (by have := hc.out; have := hlt1.out; have := of_decide_eq_false hC; simp only [u] at this; have h6 : (65536 : UInt64).toNat = 65536 := rfl; omega) b3.out.lt).mono ?_
              rintro e w2 ⟨rfl, hJ2, hb2⟩
              have b4 : Blk w2 w.heap.size #[.int .i64 p.kind, U p.first, U p.count] 35 := hb2.trans b3.out
              clear ca0 ca1 ca2 fa0 fa1 fa2 hb2 hen
              have ca0 := b4.cell 0; have ca1 := b4.cell 1; have ca2 := b4.cell 2; have fa0 := b4.free 0; have fa1 := b4.free 1; have fa2 := b4.free 2; simp at ca0 ca1 ca2
              replace b4 := hide b4
              replace hJ2 := hide hJ2
              cases hF : ((step ss (mm.get (nn - 1)).2.2 (nn - 1) (mm.get (nn - 1)).1).1 != 0)
              · have hg2 := hg1.out
                simp only [hF, Bool.false_eq_true, if_false] at hg2
                go_wp2_with fail
                refine (tget x _ _ nn (hS.at_ _ _ _ hJ2.out)).mono ?_
                rintro e w3 ⟨rfl, hA3, hT3⟩
                have hJ3 := hide (hS.tch _ _ _ _ _ hJ2.out hA3 hT3)
                have b5 := b4.out.tch hT3 hpb'.out
                clear ca0 ca1 ca2 fa0 fa1 fa2 hA3 hT3
                have ca0 := b5.cell 0; have ca1 := b5.cell 1; have ca2 := b5.cell 2; have fa0 := b5.free 0; have fa1 := b5.free 1; have fa2 := b5.free 2; simp at ca0 ca1 ca2
                replace b5 := hide b5
                cases hG : (((step ss (mm.get (nn - 1)).2.2 (nn - 1) (mm.get (nn - 1)).1).2.2.get nn).2.1 != 0)
                · simp only [hG, Bool.false_eq_true, if_false] at hg2
                  replace hg2 := hide hg2
                  have hcw : cc.toNat + 1 < 18446744073709551616 := by have := hlt1.out; have := p.count.toNat_lt; omega
                  have hc1 : (cc + 1).toNat = cc.toNat + 1 := by rw [UInt64.toNat_add]; have h1 : (1 : UInt64).toNat = 1 := rfl; omega
                  have hc2 := hide hc1
                  clear hc1 hcw
                  cases hX : (((step ss (mm.get (nn - 1)).2.2 (nn - 1) (mm.get (nn - 1)).1).2.2.get nn).1 == 0) <;> cases hY : (cc + 1 == p.count)
                  case false.false | true.true =>
                    go_wp2_with fail
                    go_roundw
                    case rel =>
                      have hg3 := hg2.out
                      simp only [hX, hY, beq_self_eq_true, if_true] at hg3
                      cases k with
                      | zero => exact absurd hk.out (by have := hlt1.out; omega)
                      | succ k =>
                        refine ⟨_, _, k, _, _, rfl, rfl, b5.out, hJ3.out, ?_, ?_, ?_, hg3⟩
                        · show _ = _; rw [hc2.out, hS.inc, hc.out]
                        · show _ = _; rw [hc2.out]; have := hk.out; omega
                        · show _ → _
                          intro h0
                          rw [hc2.out]
                          have := hlt1.out
                          first | (exfalso; simp at hX; exact h0 hX) | (have hne : cc + 1 ≠ p.count := (by simpa using hY); have h9 : cc.toNat + 1 ≠ p.count.toNat := fun e => hne (UInt64.toNat_inj.1 (hc2.out.trans e)); omega)
                    case measure =>
                      have := hlt1.out; have := hc2.out
                      simp only [intOf, u] at *; omega
                  all_goals (
                    go_wp2_with fail
                    rw [Exit.noGoto_ret]
                    go_ret
                    have hg3 := hg2.out
                    simp only [hX, hY, Bool.true_eq_false, Bool.false_eq_true, beq_iff_eq, if_false] at hg3
                    rw [← hg3]
                    exact ⟨rfl, hJ3.out⟩)
                · simp only [hG, if_true] at hg2
                  replace hg2 := hide hg2
                  go_wp2_with fail
                  rw [Exit.noGoto_ret]
                  go_ret
                  rw [← hg2.out]
                  exact ⟨rfl, hJ3.out⟩
              · have hg2 := hg1.out
                simp only [hF, if_true] at hg2
                replace hg2 := hide hg2
                go_wp2_with fail
                rw [Exit.noGoto_ret]
                go_ret
                rw [← hg2.out]
                exact ⟨rfl, hJ2.out⟩
            · have hE' : ((mm.get (nn - 1)).2.1 == 0) = false := by simpa using hE
              simp only [hE, if_true] at hg1
              replace hg1 := hide hg1
              go_wp2_with fail
              rw [Exit.noGoto_ret]
              go_ret
              rw [← hg1.out]
              exact ⟨rfl, hJ1.out⟩
      all_goals (
        simp only [hC, hA, hB, hF, Bool.false_or, if_true] at hr
        clear hF
        replace hr := hide hr
        go_enter Try.func34, Try.ntmps34
        go_wp2_with fail
        go_step3
        go_wp2_with fail
        rw [Exit.noGoto_ret]
        go_ret
        rw [hr.out]
        exact ⟨rfl, hJ.out⟩)
    · simp only [hC, Bool.true_or, if_true] at hr
      replace hr := hide hr
      go_enter Try.func34, Try.ntmps34
      go_wp2_with fail
      go_step3
      go_wp2_with fail
      rw [Exit.noGoto_ret]
      go_ret
      rw [hr.out]
      exact ⟨rfl, hJ.out⟩)
end Go.Proofs.Ytkfonlpglkfpgaa
