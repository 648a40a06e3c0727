/- queue.Words. -/
import Derived.Test.YtkfonlpglkfpgaaNodes
namespace Go.Proofs.Ytkfonlpglkfpgaa
set_option linter.unusedSimpArgs false
set_option linter.unusedVariables false
open Go.RowKit

theorem QB.setOther {x : TxB} {bb : Nat} {e : Int} {m : Mach} {w : World} (h : QB x bb e m w) (p : Addr) (v : Value) (h1 : p.block ≠ x.ta ∧ p.block ≠ x.wb ∧ p.block ≠ x.mb) (h2 : p.block ≠ bb) : QB x bb e m (w.setCell p v) :=
  ⟨h.at_.same (Below.heap_setCell _ _ _ _ h1.1.symm) (Below.heap_setCell _ _ _ _ h1.2.1.symm) (Below.heap_setCell _ _ _ _ h1.2.2.symm), by rw [Below.heap_setCell _ _ _ _ h2.symm]; exact h.hb, h.n1, h.n2, h.n3⟩
theorem Tch.setNew {L : List Nat} {a w : World} (h : Tch L a w) {p : Addr} (hp : a.heap.size ≤ p.block) (v : Value) : Tch L a (w.setCell p v) :=
  ⟨h.os, h.tape, h.output, by simpa [World.setCell] using h.size, fun k hk h1 => (Below.heap_setCell _ _ _ _ (by omega)).trans (h.block k hk h1)⟩

set_option maxHeartbeats 3200000 in
theorem qwords_any (x : TxB) (m : Mach) (w : World) (q : UInt64) (h : x.At m w) :
    Calls Try.prog 15 #[x.val, U q] w (SPost x w (qwords m q)) := by
  have hL := hide h.hL
  have hlt := hide h.lt
  obtain ⟨r, hr⟩ : ∃ r, r = qwords m q := ⟨_, rfl⟩
  rw [← hr]
  unfold qwords at hr
  replace hr := hide hr
  go_enter Try.func15, Try.ntmps15
  go_wp2_with fail
  refine (qnodes_any x m _ q h).mono ?_
  rintro e w1 ⟨bo, c, rfl, hR0, hA0, hT0⟩
  have hbb := hide hR0.block
  have hmax := hR0.len_le
  have hw := hT0.size
  generalize hM : qnodes m q = ns at *
  clear hM
  obtain ⟨ns, e0, m0⟩ := ns
  dsimp only at *
  have hN := hide (rfl : ns.length = ns.length)
  go_wp2_with fail
  go_loopw [23] (fun i wr => ∃ (acc rest : List UInt64) (mm : Mach) (e : Int), i = .int .i64 acc.length ∧ Rw wr w.heap.size 23 1 encU bo c (acc ++ rest) ∧ QB x w1.heap.size e mm wr ∧ Tch x.L w wr ∧ Hid (acc.length + rest.length = ns.length) ∧ Hid (qwordsL rest mm e acc = r)) (fun i _ => ns.length - (intOf i).toNat)
  case atStart => exact ⟨[], ns, m0, e0, rfl, by simpa using hR0.alloc _, QB.new hA0 _, hT0.alloc _, by show _ = _; simp, hr.out.symm⟩
  case round =>
    clear hR0 hA0 hT0 hr
    obtain ⟨acc, rest, mm, e, rfl, hR, hB, hT, hn, hg⟩ := hrel
    have hc := hB.cell
    cases rest with
    | nil =>
      have hl : ((acc.length : Int) < (ns.length : Int)) = False := by have := hn.out; simp only [List.length_nil] at this; simp; omega
      have hR1 := hide hR
      have hg1 := hg.out
      unfold qwordsL at hg1
      have hg2 := hide hg1
      clear hg hR hg1
      cases hE : (e != 0)
      · go_wp2_with fail
        go_ret2
        have hq := hg2.out
        simp only [hE, Bool.false_eq_true, if_false] at hq
        rw [← hq]
        refine ⟨bo, c, ?_, by simpa using hR1.out, hB.at_, hT⟩
        have := hn.out
        simp only [List.length_nil, Nat.add_zero] at this
        rw [this]; rfl
      · go_wp2_with fail
        go_quiet (fail)
        go_wp2_with fail
        go_ret2
        have hq := hg2.out
        simp only [hE, if_true] at hq
        rw [← hq]
        exact ⟨none, 0, rfl, Rw.nil _ _ _ _ _, hB.at_.drewN _, hT.drewN _⟩
    | cons nd rest =>
      have hlen : acc.length < ns.length := by have := hn.out; simp only [List.length_cons] at this; omega
      obtain ⟨b, rfl, hcell⟩ := hR.cell encU_len acc.length 0 nd (by simp) (U nd) rfl
      rw [Nat.mul_one, Nat.add_zero] at hcell
      have hbr := hR.block _ rfl
      have hb1 : b < w1.heap.size := (hbb.out _ rfl).2
      have hlt' := hlt.out
      have hg1 := hg.out
      unfold qwordsL at hg1
      have hg2 := hide hg1
      have hbta : b ≠ x.ta ∧ b ≠ x.wb ∧ b ≠ x.mb := by simp only at hbr; omega
      have hbbb : b ≠ w1.heap.size := by omega
      have hR1 := hide hR
      have hn1 := hide hn.out
      clear hg hg1 hR hn hbr hb1 hlt'
      go_wp2_with fail
      refine (bget_any x _ _ _ _ _ hB).mono ?_
      rintro e' w2 ⟨rfl, hB2, hT2⟩
      have hR2 : Rw w2 w.heap.size 23 1 encU (some ⟨b, 0, none⟩) c (acc ++ nd :: rest) := hR1.out.kept fun a ha => by
        obtain rfl := Option.some.inj ha
        refine hT2.block _ (hR1.out.block _ rfl).2 ?_
        simp only [List.mem_cons, List.not_mem_nil, or_false, not_or]
        exact ⟨hbbb, hbta.2.1, hbta.2.2⟩
      obtain ⟨b', hb', hcell2⟩ := hR2.cell encU_len acc.length 0 nd (by simp) (U nd) rfl
      obtain rfl : b = b' := by simpa using hb'
      rw [Nat.mul_one, Nat.add_zero] at hcell2
      have hfz := hR2.frozen _ rfl acc.length
      have hR3 := hide (hR2.setU acc.length (bget mm e nd).1)
      have hR4 := hide hR2
      clear hR2 hb' hcell
      go_wp2_with fail
      go_roundw
      case rel =>
        refine ⟨acc ++ [(bget mm e nd).1], rest, _, _, by simp, ?_, hB2.setOther _ _ hbta hbbb, (Tch.drop hw ((Tch.cons _ hT).trans hT2)).setNew (p := ⟨b, acc.length, none⟩) (by have := (hR4.out.block _ rfl).1; exact this) _, ?_, hg2.out⟩
        · have := hR3.out
          rw [List.set_append_right _ _ (Nat.le_refl _)] at this
          simpa using this
        · show _ = _
          have := hn1.out
          simp only [List.length_append, List.length_cons, List.length_nil] at this ⊢; omega
      case measure => simp [intOf]; omega
end Go.Proofs.Ytkfonlpglkfpgaa
