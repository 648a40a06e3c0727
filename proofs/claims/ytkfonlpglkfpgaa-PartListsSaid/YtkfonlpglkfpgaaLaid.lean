/- World.Lay, laid, the functions on words. -/
import Derived.Test.YtkfonlpglkfpgaaKit
namespace Go.Proofs.Ytkfonlpglkfpgaa
set_option linter.unusedSimpArgs false
set_option linter.unusedVariables false
open Go.RowKit

theorem works1_ok (x : TxB) : FunOk x (fun _ => True) (fun b => 2 * b) 29 #[] := by
  refine ⟨fun _ _ => by kernel_rfl, fun _ _ _ _ => trivial, ?_⟩
  intro w b _
  go_enter Try.func29, Try.ntmps29
  go_wp2_with fail
  go_ret
  exact ⟨rfl, rfl⟩

theorem pq1_ok (x : TxB) (vb : Nat) (more : UInt64) (hv : vb ∉ x.L) : FunOk x (fun w => Blk w vb #[U more] 23) (fun b => b + more) 14 #[.pointer (some ⟨vb, 0, none⟩)] := by
  refine ⟨fun _ _ => by kernel_rfl, fun _ _ h ht => h.tch ht hv, ?_⟩
  intro w b h
  have c0 := h.cell 0
  simp at c0
  go_enter Try.func14, Try.ntmps14
  go_wp2_with fail
  go_ret
  exact ⟨rfl, rfl⟩

def layL (at_ : UInt64) : Nat → UInt64 → Int → Mach → Int × Mach
  | 0, _, e, m => (e, m)
  | k + 1, n, e, m => if e == 0 then layL at_ k (n + 1) (m.put (at_ + 1 + n) 0).1 (m.put (at_ + 1 + n) 0).2 else (e, m)
def lay (m : Mach) (at_ from_ upto : UInt64) : Int × Mach :=
  if decide (u upto < u from_) then (2, m) else
  let p := m.put at_ from_
  if p.1 != 0 then p else
  let p := p.2.put (at_ + 1) upto
  layL at_ 16 1 p.1 p.2

set_option maxHeartbeats 1600000 in
theorem lay_any (x : TxB) (m : Mach) (w : World) (at_ from_ upto : UInt64) (h : x.At m w) :
    Calls Try.prog 43 #[.pointer (some ⟨x.wb, 0, none⟩), U at_, U from_, U upto] w (x.Post w (.int .i64 (lay m at_ from_ upto).1) (lay m at_ from_ upto).2) := by
  obtain ⟨r, hr⟩ : ∃ r, r = lay m at_ from_ upto := ⟨_, rfl⟩
  rw [← hr]
  unfold lay at hr
  replace hr := hide hr
  go_enter Try.func43, Try.ntmps43
  have hg : decide (u upto < u from_) = true ∨ decide (u upto < u from_) = false := by cases decide (u upto < u from_) <;> simp
  rcases hg with hg | hg
  · have hg' : u upto < u from_ := by simpa using hg
    go_wp2_with fail
    go_ret
    have hq := hr.out
    simp only [hg, if_true] at hq
    subst hq
    exact ⟨rfl, h, Tch.refl _ _⟩
  · have hg' : ¬ u upto < u from_ := by simpa using hg
    go_wp2_with fail
    refine (wput x m _ _ _ h).mono ?_
    rintro e w1 ⟨rfl, hA1, hT1⟩
    cases hE : ((m.put at_ from_).1 != 0)
    · go_wp2_with fail
      refine (wput x _ _ _ _ hA1).mono ?_
      rintro e w2 ⟨rfl, hA2, hT2⟩
      have hT := hT1.trans hT2
      clear hT1 hT2 hA1
      have hq := hr.out
      simp only [hg, hE, Bool.false_eq_true, if_false] at hq
      replace hq := hide hq.symm
      generalize (m.put at_ from_).2.put (at_ + 1) upto = p at *
      go_wp2_with fail
      go_loopw [9, 10] (fun e n wr => ∃ (k : Nat) (n' : UInt64) (e' : Int) (mm : Mach), e = .int .i64 e' ∧ n = U n' ∧ x.At mm wr ∧ Tch x.L w wr ∧ Hid (n'.toNat + k = 17) ∧ Hid (layL at_ k n' e' mm = r)) (fun _ n _ => 17 - (intOf n).toNat)
      case atStart => exact ⟨16, 1, _, _, rfl, rfl, hA2, hT, rfl, hq.out⟩
      case round =>
        clear hA2 hT hq
        obtain ⟨k, n', e', mm, rfl, rfl, hA, hT, hn, hq⟩ := hrel
        have hn' := hn.out
        have hq' := hq.out
        cases k with
        | zero =>
          have hc : (u n' ≤ u 16) = False := by simp only [u, eq_iff_iff, iff_false]; show ¬ ((n'.toNat : Int) ≤ 16); omega
          rw [layL] at hq'
          replace hq' := hide hq'
          clear hq
          go_wp2_with fail
          go_ret
          have hq := hq'.out
          subst hq
          exact ⟨rfl, hA, hT⟩
        | succ k =>
          have hc : (u n' ≤ u 16) = True := by simp only [u, eq_iff_iff, iff_true]; show ((n'.toNat : Int) ≤ 16); omega
          rw [layL] at hq'
          replace hq' := hide hq'
          clear hq
          cases hE2 : (e' == 0)
          · go_wp2_with fail
            go_ret
            have hq := hq'.out
            simp only [hE2, Bool.false_eq_true, if_false] at hq
            subst hq
            exact ⟨rfl, hA, hT⟩
          · go_wp2_with fail
            refine (wput x _ _ _ _ hA).mono ?_
            rintro e w3 ⟨rfl, hA3, hT3⟩
            have hq := hq'.out
            simp only [hE2, if_true] at hq
            replace hq := hide hq
            clear hq'
            go_wp2_with fail
            go_roundw
            case rel => exact ⟨k, _, _, _, rfl, rfl, hA3, hT.trans hT3, by show _ = _; rw [UInt64.toNat_add]; show (n'.toNat + 1) % _ + _ = _; omega, hq.out⟩
            case measure => simp only [intOf, u]; rw [UInt64.toNat_add]; show 17 - ((n'.toNat + 1) % _) < _; omega
    · go_wp2_with fail
      go_ret
      have hq := hr.out
      simp only [hg, hE, Bool.false_eq_true, if_false, if_true] at hq
      subst hq
      exact ⟨rfl, hA1, hT1⟩
end Go.Proofs.Ytkfonlpglkfpgaa
