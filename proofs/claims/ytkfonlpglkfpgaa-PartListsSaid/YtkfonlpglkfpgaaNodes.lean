/- queue.nodes, queue.Words. -/
import Derived.Test.YtkfonlpglkfpgaaQueue2
import Derived.Test.YtkfonlpglkfpgaaGiven
namespace Go.Proofs.Ytkfonlpglkfpgaa
set_option linter.unusedSimpArgs false
set_option linter.unusedVariables false
open Go.RowKit

theorem ofNat_beq (n : Nat) (b : UInt64) (h : n < 18446744073709551616) : (UInt64.ofNat n == b) = decide (n = b.toNat) := by
  rw [Bool.eq_iff_iff, beq_iff_eq, decide_eq_true_eq, ← UInt64.toNat_inj, UInt64.toNat_ofNat']
  constructor <;> intro h' <;> omega

theorem QB.grown {x : TxB} {bb : Nat} {e : Int} {m : Mach} {w w' : World} {row : Option Nat} {base : Nat} (h : QB x bb e m w) (hg : w.grownBy w' row) (hr : ∀ b, row = some b → base ≤ b) (hx : x.ta < base ∧ x.wb < base ∧ x.mb < base) (hb : some bb ≠ row) : QB x bb e m w' :=
  ⟨h.at_.grown hg hr hx, (hg.block _ (lt_of_block h.hb) hb).trans h.hb, h.n1, h.n2, h.n3⟩
theorem QB.alloc {x : TxB} {bb : Nat} {e : Int} {m : Mach} {w : World} (h : QB x bb e m w) (o : Obj) : QB x bb e m (w.alloc o) :=
  ⟨h.at_.alloc o, (Below.heap_alloc _ _ _ (lt_of_block h.hb)).trans h.hb, h.n1, h.n2, h.n3⟩
theorem QB.drewN {x : TxB} {bb : Nat} {e : Int} {m : Mach} {w : World} (h : QB x bb e m w) (n : Nat) : QB x bb e m (w.drewN n) := ⟨h.at_.drewN n, h.hb, h.n1, h.n2, h.n3⟩
theorem Rw.drewN {α : Type} {w : World} {base E k : Nat} {enc : α → List Value} {bo : Option Addr} {c : Nat} {xs : List α} (h : Rw w base E k enc bo c xs) (n : Nat) : Rw (w.drewN n) base E k enc bo c xs := h

set_option maxHeartbeats 3200000 in
theorem qnodes_any (x : TxB) (m : Mach) (w : World) (q : UInt64) (h : x.At m w) :
    Calls Try.prog 39 #[x.val, U q] w (SPost x w (qnodes m q)) := by
  have hL := hide h.hL
  have hlt := hide h.lt
  obtain ⟨r, hr⟩ : ∃ r, r = qnodes m q := ⟨_, rfl⟩
  rw [← hr]
  unfold qnodes at hr
  replace hr := hide hr
  have l3 := lits.2.2.2
  go_enter Try.func39, Try.ntmps39
  go_wp2_with fail
  go_step3
  go_wp2_with fail
  refine (bget_any x _ _ _ _ _ (QB.new h _)).mono ?_
  rintro e w1 ⟨rfl, hB1, hT1⟩
  have hc1 := hB1.cell
  go_wp2_with fail
  refine (bget_any x _ _ _ _ _ hB1).mono ?_
  rintro e w2 ⟨rfl, hB2, hT2⟩
  have hc2 := hB2.cell
  go_wp2_with fail
  refine (bget_any x _ _ _ _ _ hB2).mono ?_
  rintro e w' ⟨rfl, hB, hT⟩
  have hc := hB.cell
  generalize hM : (bget (bget m 0 q).2.2 (bget m 0 q).2.1 (q + 2)).1 = many at *
  clear hM
  have hT0 : Tch x.L w w' := by refine Tch.drop (Nat.le_refl _) ?_; (repeat (first | exact Tch.refl _ _ | exact Tch.cons _ (by assumption) | (refine Tch.drewN ?_ _) | (refine Tch.setCell ?_ (by simp) _) | (refine Tch.trans ?_ (by assumption)) | (refine Tch.trans ?_ (Tch.cons _ (by assumption))) | (refine Tch.alloc ?_ _))); done
  clear hT1 hT2 hT hc1 hc2 hB1 hB2
  cases hD : decide (u 65536 < u many)
  all_goals go_wp2_with fail
  all_goals try go_step3
  all_goals go_wp2_with fail
  all_goals have hm : Hid (u 65536 < u many ∨ many.toNat ≤ 65536) := by (show _ ∨ _; simp only [u] at *; omega)
  all_goals go_loopw [7, 9, 10, 11] (fun n fin l behind wr => ∃ (nn ff bh : UInt64) (acc : List UInt64) (k : Nat) (mm : Mach) (e : Int) (bo : Option Addr) (c : Nat), n = U nn ∧ fin = U ff ∧ l = .slice bo acc.length c ∧ behind = U bh ∧ Rw wr (w.heap.size + 1) 23 1 encU bo c acc ∧ QB x w.heap.size e mm wr ∧ Tch x.L w wr ∧ Hid (acc.length + k = many.toNat) ∧ Hid (nn = 0 ∨ many.toNat ≤ 65536) ∧ Hid (qnodesL k mm e nn ff bh many acc = r)) (fun _ _ l _ _ => many.toNat - lenOf l)
  case atStart =>
    refine ⟨_, _, 0, [], many.toNat, _, _, none, 0, rfl, rfl, rfl, rfl, Rw.nil _ _ _ _ _, hB, hT0, ?_, ?_, ?_⟩
    · show _ = _; simp
    · have := hm.out; have := of_decide_eq_false hD; refine .inr ?_; omega
    · have hq := hr.out; rw [if_neg (of_decide_eq_false hD)] at hq; exact hq.symm
  case atStart =>
    refine ⟨0, 1, 0, [], many.toNat, _, _, none, 0, rfl, rfl, rfl, rfl, Rw.nil _ _ _ _ _, hB, hT0, ?_, .inl rfl, ?_⟩
    · show _ = _; simp
    · have hq := hr.out; rw [if_pos (of_decide_eq_true hD)] at hq; exact hq.symm
  all_goals clear hm hT0 hr hc hB
  all_goals (
    obtain ⟨nn, ff, bh, acc, k, mm, e, bo, c, rfl, rfl, rfl, rfl, hR, hB, hT, hk, hn, hg⟩ := hrel
    have hc := hB.cell
    have hA1 := hB.at_
    have hT1 := hT
    have hR1 := hR.mono (Nat.le_succ _)
    have hg1 := hg.out
    rw [qnodesL.eq_def] at hg1
    cases hN : (nn != 0)
    · simp only [hN, Bool.false_and, Bool.false_eq_true, if_false] at hg1
      (replace hg1 := hide hg1; clear hR hT hg hn hk hB; cases hF : (ff != bh) <;> cases hG : (UInt64.ofNat acc.length != many) <;> (go_wp2_with fail; all_goals (try (go_quiet (fail); go_wp2_with fail)); all_goals (first | rw [Exit.noGoto_ret] | skip); all_goals go_ret2; all_goals (have hq := hg1.out; go_tidy; unfold qnodesE at hq; (try simp only [*, Bool.or_false, Bool.false_or, Bool.true_or, Bool.or_true, Bool.false_eq_true, Bool.true_eq_false, if_true, if_false] at hq); rw [← hq]; first | exact ⟨bo, c, rfl, hR1, hA1, hT1⟩ | exact ⟨none, 0, rfl, Rw.nil _ _ _ _ _, hA1, hT1⟩ | exact ⟨none, 0, rfl, Rw.nil _ _ _ _ _, hA1.drewN _, hT1.drewN _⟩)))
    · cases hE : (e == 0)
      · have hE2 : (e != 0) = true := by simpa using hE
        simp only [hN, hE, Bool.and_false, Bool.false_eq_true, if_false] at hg1
        (replace hg1 := hide hg1; clear hR hT hg hn hk hB; cases hF : (ff != bh) <;> cases hG : (UInt64.ofNat acc.length != many) <;> (go_wp2_with fail; all_goals (try (go_quiet (fail); go_wp2_with fail)); all_goals (first | rw [Exit.noGoto_ret] | skip); all_goals go_ret2; all_goals (have hq := hg1.out; go_tidy; unfold qnodesE at hq; (try simp only [*, Bool.or_false, Bool.false_or, Bool.true_or, Bool.or_true, Bool.false_eq_true, Bool.true_eq_false, if_true, if_false] at hq); rw [← hq]; first | exact ⟨bo, c, rfl, hR1, hA1, hT1⟩ | exact ⟨none, 0, rfl, Rw.nil _ _ _ _ _, hA1, hT1⟩ | exact ⟨none, 0, rfl, Rw.nil _ _ _ _ _, hA1.drewN _, hT1.drewN _⟩)))
      · have hE2 : (e != 0) = false := by simpa using hE
        simp only [hN, hE, Bool.and_true, if_true] at hg1
        cases k with
        | zero =>
          have hl : (UInt64.ofNat acc.length == many) = true := by have := hk.out; rw [ofNat_beq _ _ (by have := many.toNat_lt; omega), decide_eq_true_eq]; omega
          simp only [] at hg1
          (replace hg1 := hide hg1; clear hR hT hg hn hk hB; cases hF : (bh + 1 != bh) <;> cases hG : (UInt64.ofNat acc.length != many) <;> (go_wp2_with fail; all_goals (try (go_quiet (fail); go_wp2_with fail)); all_goals (first | rw [Exit.noGoto_ret] | skip); all_goals go_ret2; all_goals (have hq := hg1.out; go_tidy; unfold qnodesE at hq; (try simp only [*, Bool.or_false, Bool.false_or, Bool.true_or, Bool.or_true, Bool.false_eq_true, Bool.true_eq_false, if_true, if_false] at hq); rw [← hq]; first | exact ⟨bo, c, rfl, hR1, hA1, hT1⟩ | exact ⟨none, 0, rfl, Rw.nil _ _ _ _ _, hA1, hT1⟩ | exact ⟨none, 0, rfl, Rw.nil _ _ _ _ _, hA1.drewN _, hT1.drewN _⟩)))
        | succ k =>
          have hl : (UInt64.ofNat acc.length == many) = false := by have := hk.out; rw [ofNat_beq _ _ (by have := many.toNat_lt; omega), decide_eq_false_iff_not]; omega
          simp only [] at hg1
          have hn0 : nn ≠ 0 := by simpa using hN
          have hmm : many.toNat ≤ 65536 := hn.out.resolve_left hn0
          have hkk : acc.length + k + 1 = many.toNat := by have := hk.out; omega
          have hacc : acc.length ≤ 65536 := by omega
          have hw : w.heap.size < wr.heap.size := lt_of_block hB.hb
          clear hn0
          replace hkk := hide hkk
          replace hg1 := hide hg1
          go_wp2_with (first | (at_builtin; refine wpList_append_e rfl (.tmp 47) (.tmp 50) 22 23 1 8 rfl elemU (w.heap.size + 1) encU encU_len encU_one bo c acc rfl (hR.alloc _) ⟨_, 0, none⟩ 1 1 [nn - 1] rfl rfl (news_one _ _ _) (by unfold maxLen; simp only [List.length_cons, List.length_nil]; omega) (by simp only [List.length_cons, List.length_nil]; omega) (by simp only [World.size_alloc]; omega) ?_; intro bo' c' w2 hR2 hG) | (go_at_call 33; refine (bget_any x _ _ _ _ _ ((hB.alloc _).grown hG hR.row (by have := hlt.out; omega) (by intro e'; have := hR.row _ e'.symm; omega))).mono ?_; rintro e w' ⟨rfl, hB3, hT3⟩))
          go_roundw
          case rel =>
            refine ⟨_, ff, nn, acc ++ [nn - 1], k, _, _, bo', c', rfl, rfl, by simp, rfl, hR2.tch hT3 ?_, hB3, ?_, ?_, .inr hmm, hg1.out⟩
            · intro b hb
              have := hL.out
              simp only [List.mem_cons] at hb
              rcases hb with rfl | hb
              · omega
              · have := this b (by simpa using hb); omega
            · exact Tch.drop (Nat.le_refl _) ((Tch.cons _ ((hT.alloc _).row hG hR.row (by omega))).trans hT3)
            · show _ = _
              have := hkk.out
              simp only [List.length_append, List.length_cons, List.length_nil]; omega
          case measure =>
            have := hkk.out
            simp [lenOf]; omega)
end Go.Proofs.Ytkfonlpglkfpgaa
