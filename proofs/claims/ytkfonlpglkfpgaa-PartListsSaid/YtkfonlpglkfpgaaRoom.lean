/- Room: the contracts. -/
import Derived.Test.YtkfonlpglkfpgaaTx
namespace Go.Proofs.Ytkfonlpglkfpgaa
set_option linter.unusedSimpArgs false
set_option linter.unusedVariables false
open Go.RowKit

/-- It answers v, and has done nothing. -/
def Ret (v : Value) (w : World) (e : Ending) (w' : World) : Prop := e = .returned v ∧ w = w'

theorem fits_any (x : TxB) (size : UInt64) (w : World) : Calls Try.prog 42 #[x.val, U size] w (Ret (.int .i64 (fits size)) w) := by
  obtain ⟨r, hr⟩ : ∃ r, r = fits size := ⟨_, rfl⟩
  rw [← hr]
  unfold fits at hr
  replace hr := hide hr
  go_enter Try.func42, Try.ntmps42
  go_wp2
  all_goals go_ret
  all_goals (have hq := hr.out; clear hr; (try simp only [beq_iff_eq, bne_iff_ne, ne_eq, bne_eq_false_iff_eq, beq_eq_false_iff_ne, Bool.or_eq_true, Bool.and_eq_true, Bool.or_eq_false_iff, Bool.and_eq_false_iff, decide_eq_true_eq, decide_eq_false_iff_not, Bool.not_eq_true, Bool.not_eq_false, Bool.not_eq_true', Bool.not_eq_false', Bool.true_eq_false, Bool.false_eq_true] at *); (try simp [*] at hq); (repeat' split at hq) <;> first | (exfalso; omega) | (subst hq; exact ⟨rfl, rfl⟩))

theorem ends_any (x : TxB) (m : Mach) (w : World) (at_ : UInt64) (h : x.At m w) :
    Calls Try.prog 50 #[x.val, U at_] w (x.Post w (.tuple #[U (ends m at_).1, U (ends m at_).2.1, .int .i64 (ends m at_).2.2.1]) (ends m at_).2.2.2) := by
  obtain ⟨r, hr⟩ : ∃ r, r = ends m at_ := ⟨_, rfl⟩
  rw [← hr]
  unfold ends at hr
  replace hr := hide hr
  go_enter Try.func50, Try.ntmps50
  go_wp2_with (first | (go_at_call 11; refine (tget x _ _ _ (by assumption)).mono ?_; rintro e w' ⟨rfl, hA, hT⟩))
  all_goals go_ret3
  all_goals (have hq := hr.out; clear hr; (try simp only [beq_iff_eq, bne_iff_ne, ne_eq, bne_eq_false_iff_eq, beq_eq_false_iff_ne, Bool.or_eq_true, Bool.and_eq_true, Bool.or_eq_false_iff, Bool.and_eq_false_iff, decide_eq_true_eq, decide_eq_false_iff_not, Bool.not_eq_true, Bool.not_eq_false, Bool.not_eq_true', Bool.not_eq_false', Bool.true_eq_false, Bool.false_eq_true] at *); (try simp [*] at hq); (repeat' split at hq) <;> first | (exfalso; omega) | (subst hq; refine ⟨rfl, by assumption, ?_⟩; (repeat (first | exact Tch.refl _ _ | assumption | (refine Tch.trans ?_ (by assumption))))))

set_option maxHeartbeats 800000 in
theorem take_any (x : TxB) (m : Mach) (w : World) (at_ size : UInt64) (h : x.At m w) :
    Calls Try.prog 31 #[x.val, U at_, U size] w (x.Post w (.tuple #[U (take m at_ size).1, .int .i64 (take m at_ size).2.1]) (take m at_ size).2.2) := by
  obtain ⟨r, hr⟩ : ∃ r, r = take m at_ size := ⟨_, rfl⟩
  rw [← hr]
  unfold take at hr
  replace hr := hide hr
  go_enter Try.func31, Try.ntmps31
  go_wp2_with (first | (go_at_call 42; refine (fits_any x _ _).mono ?_; rintro e w' ⟨rfl, rfl⟩) | (go_at_call 11; refine (tget x _ _ _ (by assumption)).mono ?_; rintro e w' ⟨rfl, hA, hT⟩) | (go_at_call 13; refine (tput x _ _ _ _ (by assumption)).mono ?_; rintro e w' ⟨rfl, hA, hT⟩) | (go_at_call 50; refine (ends_any x _ _ _ (by assumption)).mono ?_; rintro e w' ⟨rfl, hA, hT⟩))
  all_goals go_ret2
  all_goals (have hq := hr.out; clear hr; (try simp only [beq_iff_eq, bne_iff_ne, ne_eq, bne_eq_false_iff_eq, beq_eq_false_iff_ne, Bool.or_eq_true, Bool.and_eq_true, Bool.or_eq_false_iff, Bool.and_eq_false_iff, decide_eq_true_eq, decide_eq_false_iff_not, Bool.not_eq_true, Bool.not_eq_false, Bool.not_eq_true', Bool.not_eq_false', Bool.true_eq_false, Bool.false_eq_true] at *); (try simp [*] at hq); (repeat' split at hq) <;> first | (exfalso; omega) | (subst hq; refine ⟨rfl, by assumption, ?_⟩; (repeat (first | exact Tch.refl _ _ | assumption | (refine Tch.trans ?_ (by assumption))))))

set_option maxHeartbeats 800000 in
theorem give_any (x : TxB) (m : Mach) (w : World) (at_ addr size : UInt64) (h : x.At m w) :
    Calls Try.prog 41 #[x.val, U at_, U addr, U size] w (x.Post w (.int .i64 (give m at_ addr size).1) (give m at_ addr size).2) := by
  obtain ⟨r, hr⟩ : ∃ r, r = give m at_ addr size := ⟨_, rfl⟩
  rw [← hr]
  unfold give at hr
  replace hr := hide hr
  go_enter Try.func41, Try.ntmps41
  go_wp2_with (first | (go_at_call 42; refine (fits_any x _ _).mono ?_; rintro e w' ⟨rfl, rfl⟩) | (go_at_call 11; refine (tget x _ _ _ (by assumption)).mono ?_; rintro e w' ⟨rfl, hA, hT⟩) | (go_at_call 13; refine (tput x _ _ _ _ (by assumption)).mono ?_; rintro e w' ⟨rfl, hA, hT⟩))
  all_goals go_ret
  all_goals (have hq := hr.out; clear hr; (try simp only [beq_iff_eq, bne_iff_ne, ne_eq, bne_eq_false_iff_eq, beq_eq_false_iff_ne, Bool.or_eq_true, Bool.and_eq_true, Bool.or_eq_false_iff, Bool.and_eq_false_iff, decide_eq_true_eq, decide_eq_false_iff_not, Bool.not_eq_true, Bool.not_eq_false, Bool.not_eq_true', Bool.not_eq_false', Bool.true_eq_false, Bool.false_eq_true] at *); (try simp [*] at hq); (repeat' split at hq) <;> first | (exfalso; omega) | (subst hq; refine ⟨rfl, by assumption, ?_⟩; (repeat (first | exact Tch.refl _ _ | assumption | (refine Tch.trans ?_ (by assumption))))))
end Go.Proofs.Ytkfonlpglkfpgaa
