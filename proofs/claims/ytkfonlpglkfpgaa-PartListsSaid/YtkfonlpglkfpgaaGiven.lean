/- room.Given: its loop. -/
import Derived.Test.YtkfonlpglkfpgaaRoom
import Derived.Test.YtkfonlpglkfpgaaSl
namespace Go.Proofs.Ytkfonlpglkfpgaa
set_option linter.unusedSimpArgs false
set_option linter.unusedVariables false
open Go.RowKit

theorem Rw.tch {α : Type} {w w' : World} {base E k : Nat} {enc : α → List Value} {bo : Option Addr} {c : Nat} {xs : List α} {L : List Nat} (h : Rw w base E k enc bo c xs) (ht : Tch L w w') (hL : ∀ b ∈ L, b < base) : Rw w' base E k enc bo c xs :=
  h.kept fun a ha => ht.block _ (h.block a ha).2 (fun hm => by have := hL _ hm; have := (h.block a ha).1; omega)

/-- Words in new memory, an error, the tx. -/
def SPost (x : TxB) (w : World) (r : List UInt64 × Int × Mach) (e : Ending) (w' : World) : Prop :=
  ∃ bo c, e = .returned (.tuple #[.slice bo r.1.length c, .int .i64 r.2.1]) ∧ Rw w' w.heap.size 23 1 encU bo c r.1 ∧ x.At r.2.2 w' ∧ Tch x.L w w'

theorem elemU : ElemOk Try.prog 22 23 1 8 := ⟨Try.underlying22, info_parts (show (Try.prog.info? 23).map (fun i => (i.zero, i.size, i.bytes)) = some (some (.int .u64 0), 1, 8) by kernel_rfl) |>.elim fun i h => ⟨i, .int .u64 0, h.1, h.2.1, h.2.2.1, h.2.2.2, rfl, by decide⟩⟩

theorem TxB.At.grown {x : TxB} {m : Mach} {w w' : World} {row : Option Nat} {base : Nat} (h : x.At m w) (hg : w.grownBy w' row) (hr : ∀ b, row = some b → base ≤ b) (hx : x.ta < base ∧ x.wb < base ∧ x.mb < base) : x.At m w' := by
  have lt := h.lt
  refine h.same (hg.block _ lt.1 ?_) (hg.block _ lt.2.1 ?_) (hg.block _ lt.2.2 ?_)
  · intro e; have := hr _ e.symm; omega
  · intro e; have := hr _ e.symm; omega
  · intro e; have := hr _ e.symm; omega
theorem Tch.row {L : List Nat} {a w w' : World} {row : Option Nat} {base : Nat} (h : Tch L a w) (hg : w.grownBy w' row) (hr : ∀ b, row = some b → base ≤ b) (hb : a.heap.size ≤ base) : Tch L a w' :=
  h.grown hg fun k hk => .inl (Nat.le_trans hb (hr k hk))

def lenOf : Value → Nat | .slice _ n _ => n | _ => 0

theorem TxB.At.hL {x : TxB} {m : Mach} {w : World} (h : x.At m w) : ∀ b ∈ x.L, b < w.heap.size := by
  intro b hb
  have := h.lt
  simp only [List.mem_cons, List.not_mem_nil, or_false] at hb
  rcases hb with rfl | rfl <;> omega

set_option maxHeartbeats 1600000 in
theorem given_any (x : TxB) (m : Mach) (w : World) (at_ size : UInt64) (h : x.At m w) :
    Calls Try.prog 20 #[x.val, U at_, U size] w (SPost x w (given m at_ size)) := by
  have hL := hide h.hL
  have hlt := hide h.lt
  obtain ⟨r, hr⟩ : ∃ r, r = given m at_ size := ⟨_, rfl⟩
  rw [← hr]
  unfold given at hr
  cases hF : (fits size != 0)
  · simp only [hF, Bool.false_eq_true, if_false] at hr
    replace hr := hide hr.symm
    go_enter Try.func20, Try.ntmps20

    go_wp2_with fail
    go_step3
    go_wp2_with (first | (go_at_call 42; refine (fits_any x _ _).mono ?_; rintro e w' ⟨rfl, rfl⟩))
    try go_step3
    go_wp2_with fail

    go_loopw [9, 10] (fun l a wr => ∃ (acc : List UInt64) (addr : UInt64) (m' : Mach) (n : Nat) (bo : Option Addr) (c : Nat), l = .slice bo acc.length c ∧ a = U addr ∧ Rw wr w.heap.size 23 1 encU bo c acc ∧ x.At m' wr ∧ Tch x.L w wr ∧ Hid (acc.length + n = 65536) ∧ Hid (givenL n m' addr acc = r)) (fun l _ _ => 65537 - lenOf l)
    case atStart => exact ⟨[], _, m, 65536, none, 0, rfl, rfl, Rw.nil _ _ _ _ _, h, Tch.refl _ _, rfl, hr.out⟩
    case round =>
      obtain ⟨acc, addr, m', n, bo, c, rfl, rfl, hR, hA, hT, hn, hg⟩ := hrel
      go_wp2_with fail
      refine (tget x _ _ _ hA).mono ?_
      rintro e w1 ⟨rfl, hA1, hT1⟩
      have hR1 := hR.tch hT1 hL.out
      have hT2 := hT.trans hT1
      have hg1 := hg.out
      rw [givenL.eq_def] at hg1
      have hn' : acc.length ≤ 65536 := by have := hn.out; omega
      have hsz : w.heap.size ≤ w1.heap.size := hT2.size
      cases hE : ((m'.get addr).2.1 != 0)
      · cases hX : ((m'.get addr).1 == 0)
        · cases n with
          | zero =>
            have hl : ((acc.length : Int) == 65536) = true := by have := hn.out; rw [beq_iff_eq]; omega
            simp only [hE, hX, Bool.false_eq_true, if_false] at hg1
            replace hg1 := hide hg1
            clear hR hT1 hT hg hn
            go_wp2_with fail
            rw [Exit.noGoto_ret]
            go_ret2
            rw [← hg1.out]
            exact ⟨none, 0, rfl, Rw.nil _ _ _ _ _, hA1, hT2⟩
          | succ n =>
            have hl : ((acc.length : Int) == 65536) = false := by have := hn.out; rw [beq_eq_false_iff_ne]; omega
            simp only [hE, hX, Bool.false_eq_true, if_false] at hg1
            replace hg1 := hide hg1
            clear hR hT1 hT hg
            go_wp2_with (first | (at_builtin; refine wpList_append_e rfl (.tmp 42) (.tmp 44) 22 23 1 8 rfl elemU w.heap.size encU encU_len encU_one bo c acc rfl (hR1.alloc _) ⟨_, 0, none⟩ 1 1 [(m'.get addr).1 - 1] rfl rfl (news_one _ _ _) (by unfold maxLen; simp only [List.length_cons, List.length_nil]; omega) (by simp only [List.length_cons, List.length_nil]; omega) (by simp only [World.size_alloc]; omega) ?_; intro bo' c' w2 hR2 hG))
            go_roundw
            case rel => exact ⟨acc ++ [(m'.get addr).1 - 1], _, (m'.get addr).2.2, n, bo', c', by simp, rfl, hR2, (hA1.alloc _).grown hG hR1.row hlt.out, (hT2.alloc _).row hG hR1.row (Nat.le_refl _), (by have := hn.out; simp only [List.length_append, List.length_cons, List.length_nil]; show _ = _; omega), hg1.out⟩
            case measure => simp [lenOf]; omega
        · simp only [hE, hX, Bool.false_eq_true, if_false, if_true] at hg1
          replace hg1 := hide hg1
          clear hR hT1 hT hg hn
          go_wp2_with fail
          rw [Exit.noGoto_ret]
          go_ret2
          rw [← hg1.out]
          exact ⟨bo, c, rfl, hR1, hA1, hT2⟩
      · simp only [hE, if_true] at hg1
        replace hg1 := hide hg1
        clear hR hT1 hT hg hn
        go_wp2_with fail
        rw [Exit.noGoto_ret]
        go_ret2
        rw [← hg1.out]
        exact ⟨none, 0, rfl, Rw.nil _ _ _ _ _, hA1, hT2⟩
  · simp only [hF, if_true] at hr
    replace hr := hide hr.symm
    go_enter Try.func20, Try.ntmps20
    go_wp2_with fail
    go_step3
    go_wp2_with (first | (go_at_call 42; refine (fits_any x _ _).mono ?_; rintro e w' ⟨rfl, rfl⟩))
    rw [Exit.noGoto_ret]
    go_ret2
    rw [← hr.out]
    exact ⟨none, 0, rfl, Rw.nil _ _ _ _ _, h, Tch.refl _ _⟩
end Go.Proofs.Ytkfonlpglkfpgaa
