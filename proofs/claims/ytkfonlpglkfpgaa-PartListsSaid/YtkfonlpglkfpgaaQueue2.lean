/- queue: New, Put, Take, Len. -/
import Derived.Test.YtkfonlpglkfpgaaQueue
namespace Go.Proofs.Ytkfonlpglkfpgaa
set_option linter.unusedSimpArgs false
set_option linter.unusedVariables false
open Go.RowKit

set_option maxHeartbeats 1600000 in
theorem qput_any (x : TxB) (m : Mach) (w : World) (at_ q v : UInt64) (h : x.At m w) :
    Calls Try.prog 9 #[x.val, U at_, U q, U v] w (x.Post w (.int .i64 (qput m at_ q v).1) (qput m at_ q v).2) := by
  obtain ⟨r, hr⟩ : ∃ r, r = qput m at_ q v := ⟨_, rfl⟩
  rw [← hr]
  unfold qput at hr
  replace hr := hide hr
  go_enter Try.func9, Try.ntmps9
  go_wp2_with (first | (go_at_call 31; refine (take_any x _ _ _ _ (by assumption)).mono ?_; rintro e w' ⟨rfl, hA, hT⟩) | (go_at_call 33; refine (bget_any x _ _ _ _ _ (by first | assumption | exact QB.new (by assumption) _)).mono ?_; rintro e w' ⟨rfl, hB, hT⟩; have hc := hB.cell) | (go_at_call 32; refine (bput_any x _ _ _ _ _ _ (by first | assumption | exact QB.new (by assumption) _)).mono ?_; rintro e w' ⟨rfl, hB, hT⟩; have hc := hB.cell))
  all_goals go_ret
  all_goals (have hq := hr.out; clear hr; go_tidy; (try simp only [*, Bool.or_false, Bool.false_or, Bool.true_or, Bool.or_true, Bool.false_and, Bool.and_false, Bool.true_and, Bool.and_true, Bool.false_eq_true, Bool.true_eq_false, if_true, if_false, Bool.not_true, Bool.not_false] at hq); subst hq; refine ⟨rfl, (by first | assumption | exact QB.at_ (by assumption) | exact (QB.at_ (by assumption)).drewN _ | exact (QB.set (by assumption) _).at_ | exact ((QB.set (by assumption) _).at_).drewN _ | exact TxB.At.drewN (by assumption) _), ?_⟩; first | (refine Tch.drop (Tch.size (by assumption : Tch x.L w _)) ?_; (repeat (first | exact Tch.refl _ _ | exact Tch.cons _ (by assumption) | (refine Tch.drewN ?_ _) | (refine Tch.setCell ?_ (by simp) _) | (refine Tch.trans ?_ (by assumption)) | (refine Tch.trans ?_ (Tch.cons _ (by assumption))) | (refine Tch.alloc ?_ _))); done) | (refine Tch.drop (Nat.le_refl _) ?_; (repeat (first | exact Tch.refl _ _ | exact Tch.cons _ (by assumption) | (refine Tch.drewN ?_ _) | (refine Tch.setCell ?_ (by simp) _) | (refine Tch.trans ?_ (by assumption)) | (refine Tch.trans ?_ (Tch.cons _ (by assumption))) | (refine Tch.alloc ?_ _))); done))

theorem qlen_any (x : TxB) (m : Mach) (w : World) (q : UInt64) (h : x.At m w) :
    Calls Try.prog 22 #[x.val, U q] w (x.Post w (.tuple #[U (qlen m q).1, .int .i64 (qlen m q).2.1]) (qlen m q).2.2) := by
  obtain ⟨r, hr⟩ : ∃ r, r = qlen m q := ⟨_, rfl⟩
  rw [← hr]
  unfold qlen at hr
  replace hr := hide hr
  go_enter Try.func22, Try.ntmps22
  go_wp2_with (first | (go_at_call 11; refine (tget x _ _ _ (by assumption)).mono ?_; rintro e w' ⟨rfl, hA, hT⟩))
  all_goals go_ret2
  all_goals (have hq := hr.out; clear hr; (try simp only [beq_iff_eq, bne_iff_ne, ne_eq, bne_eq_false_iff_eq, beq_eq_false_iff_ne, Bool.or_eq_true, Bool.and_eq_true, Bool.or_eq_false_iff, Bool.and_eq_false_iff, decide_eq_true_eq, decide_eq_false_iff_not, Bool.not_eq_true, Bool.not_eq_false, Bool.not_eq_true', Bool.not_eq_false', Bool.true_eq_false, Bool.false_eq_true] at *); (try simp [*] at hq); (repeat' split at hq) <;> first | (exfalso; omega) | (subst hq; refine ⟨rfl, by assumption, ?_⟩; (repeat (first | exact Tch.refl _ _ | assumption | (refine Tch.trans ?_ (by assumption))))))

set_option maxHeartbeats 1600000 in
theorem qtake_any (x : TxB) (m : Mach) (w : World) (at_ q : UInt64) (h : x.At m w) :
    Calls Try.prog 18 #[x.val, U at_, U q] w (x.Post w (.tuple #[U (qtake m at_ q).1, .bool (qtake m at_ q).2.1, .int .i64 (qtake m at_ q).2.2.1]) (qtake m at_ q).2.2.2) := by
  obtain ⟨r, hr⟩ : ∃ r, r = qtake m at_ q := ⟨_, rfl⟩
  rw [← hr]
  unfold qtake at hr
  replace hr := hide hr
  go_enter Try.func18, Try.ntmps18
  go_wp2_with fail
  refine (bget_any x _ _ _ _ _ (QB.new h _)).mono ?_
  rintro e w1 ⟨rfl, hB, hT⟩
  have hc := hB.cell
  cases hE : ((bget m 0 q).2.1 != 0)
  · cases hN : ((bget m 0 q).1 == 0)
    · go_wp2_with (first | (go_at_call 33; refine (bget_any x _ _ _ _ _ (by first | assumption | exact QB.new (by assumption) _)).mono ?_; rintro e w' ⟨rfl, hB, hT⟩; have hc := hB.cell) | (go_at_call 32; refine (bput_any x _ _ _ _ _ _ (by first | assumption | exact QB.new (by assumption) _)).mono ?_; rintro e w' ⟨rfl, hB, hT⟩; have hc := hB.cell) | (go_at_call 41; refine (give_any x _ _ _ _ _ hB.at_).mono ?_; rintro e w' ⟨rfl, hA, hT⟩; have hB := QB.tch hB hA hT; have hc := hB.cell))
      all_goals (try (go_quiet (fail); go_wp2_with fail))
      all_goals go_ret3
      all_goals (have hq := hr.out; clear hr; go_tidy; (try simp only [*, Bool.or_false, Bool.false_or, Bool.true_or, Bool.or_true, Bool.false_and, Bool.and_false, Bool.true_and, Bool.and_true, Bool.false_eq_true, Bool.true_eq_false, if_true, if_false, Bool.not_true, Bool.not_false] at hq); subst hq; refine ⟨rfl, (by first | assumption | exact QB.at_ (by assumption) | exact (QB.at_ (by assumption)).drewN _ | exact (QB.set (by assumption) _).at_ | exact ((QB.set (by assumption) _).at_).drewN _ | exact TxB.At.drewN (by assumption) _), ?_⟩; first | (refine Tch.drop (Tch.size (by assumption : Tch x.L w _)) ?_; (repeat (first | exact Tch.refl _ _ | exact Tch.cons _ (by assumption) | (refine Tch.drewN ?_ _) | (refine Tch.setCell ?_ (by simp) _) | (refine Tch.trans ?_ (by assumption)) | (refine Tch.trans ?_ (Tch.cons _ (by assumption))) | (refine Tch.alloc ?_ _))); done) | (refine Tch.drop (Nat.le_refl _) ?_; (repeat (first | exact Tch.refl _ _ | exact Tch.cons _ (by assumption) | (refine Tch.drewN ?_ _) | (refine Tch.setCell ?_ (by simp) _) | (refine Tch.trans ?_ (by assumption)) | (refine Tch.trans ?_ (Tch.cons _ (by assumption))) | (refine Tch.alloc ?_ _))); done))
    · go_wp2_with fail
      all_goals (try (go_quiet (fail); go_wp2_with fail))
      all_goals go_ret3
      all_goals (have hq := hr.out; clear hr; go_tidy; (try simp only [*, Bool.or_false, Bool.false_or, Bool.true_or, Bool.or_true, Bool.false_and, Bool.and_false, Bool.true_and, Bool.and_true, Bool.false_eq_true, Bool.true_eq_false, if_true, if_false, Bool.not_true, Bool.not_false] at hq); subst hq; refine ⟨rfl, (by first | assumption | exact QB.at_ (by assumption) | exact (QB.at_ (by assumption)).drewN _ | exact (QB.set (by assumption) _).at_ | exact ((QB.set (by assumption) _).at_).drewN _ | exact TxB.At.drewN (by assumption) _), ?_⟩; first | (refine Tch.drop (Tch.size (by assumption : Tch x.L w _)) ?_; (repeat (first | exact Tch.refl _ _ | exact Tch.cons _ (by assumption) | (refine Tch.drewN ?_ _) | (refine Tch.setCell ?_ (by simp) _) | (refine Tch.trans ?_ (by assumption)) | (refine Tch.trans ?_ (Tch.cons _ (by assumption))) | (refine Tch.alloc ?_ _))); done) | (refine Tch.drop (Nat.le_refl _) ?_; (repeat (first | exact Tch.refl _ _ | exact Tch.cons _ (by assumption) | (refine Tch.drewN ?_ _) | (refine Tch.setCell ?_ (by simp) _) | (refine Tch.trans ?_ (by assumption)) | (refine Tch.trans ?_ (Tch.cons _ (by assumption))) | (refine Tch.alloc ?_ _))); done))
  · go_wp2_with fail
    all_goals (try (go_quiet (fail); go_wp2_with fail))
    all_goals go_ret3
    all_goals (have hq := hr.out; clear hr; go_tidy; (try simp only [*, Bool.or_false, Bool.false_or, Bool.true_or, Bool.or_true, Bool.false_and, Bool.and_false, Bool.true_and, Bool.and_true, Bool.false_eq_true, Bool.true_eq_false, if_true, if_false, Bool.not_true, Bool.not_false] at hq); subst hq; refine ⟨rfl, (by first | assumption | exact QB.at_ (by assumption) | exact (QB.at_ (by assumption)).drewN _ | exact (QB.set (by assumption) _).at_ | exact ((QB.set (by assumption) _).at_).drewN _ | exact TxB.At.drewN (by assumption) _), ?_⟩; first | (refine Tch.drop (Tch.size (by assumption : Tch x.L w _)) ?_; (repeat (first | exact Tch.refl _ _ | exact Tch.cons _ (by assumption) | (refine Tch.drewN ?_ _) | (refine Tch.setCell ?_ (by simp) _) | (refine Tch.trans ?_ (by assumption)) | (refine Tch.trans ?_ (Tch.cons _ (by assumption))) | (refine Tch.alloc ?_ _))); done) | (refine Tch.drop (Nat.le_refl _) ?_; (repeat (first | exact Tch.refl _ _ | exact Tch.cons _ (by assumption) | (refine Tch.drewN ?_ _) | (refine Tch.setCell ?_ (by simp) _) | (refine Tch.trans ?_ (by assumption)) | (refine Tch.trans ?_ (Tch.cons _ (by assumption))) | (refine Tch.alloc ?_ _))); done))

set_option maxHeartbeats 1600000 in
theorem qnew_any (x : TxB) (m : Mach) (w : World) (at_ : UInt64) (h : x.At m w) :
    Calls Try.prog 28 #[x.val, U at_] w (x.Post w (.tuple #[U (qnew m at_).1, .int .i64 (qnew m at_).2.1]) (qnew m at_).2.2) := by
  obtain ⟨r, hr⟩ : ∃ r, r = qnew m at_ := ⟨_, rfl⟩
  rw [← hr]
  unfold qnew at hr
  replace hr := hide hr
  go_enter Try.func28, Try.ntmps28
  go_wp2_with (first | (go_at_call 31; refine (take_any x _ _ _ _ (by assumption)).mono ?_; rintro e w' ⟨rfl, hA, hT⟩))
  refine wp_loop_rounds 4 ?_
  rw [rounds_succ]
  go_wp2_with (first | (go_at_call 32; refine (bput_any x _ _ _ _ _ _ (by first | assumption | exact QB.new (by assumption) _)).mono ?_; rintro e w' ⟨rfl, hB, hT⟩; have hc := hB.cell))
  rw [rounds_succ]
  go_wp2_with (first | (go_at_call 32; refine (bput_any x _ _ _ _ _ _ (by first | assumption | exact QB.new (by assumption) _)).mono ?_; rintro e w' ⟨rfl, hB, hT⟩; have hc := hB.cell))
  rw [rounds_succ]
  go_wp2_with (first | (go_at_call 32; refine (bput_any x _ _ _ _ _ _ (by first | assumption | exact QB.new (by assumption) _)).mono ?_; rintro e w' ⟨rfl, hB, hT⟩; have hc := hB.cell))
  rw [rounds_succ]
  go_wp2_with (first | (go_at_call 32; refine (bput_any x _ _ _ _ _ _ (by first | assumption | exact QB.new (by assumption) _)).mono ?_; rintro e w' ⟨rfl, hB, hT⟩; have hc := hB.cell))
  all_goals (try (go_quiet (fail); go_wp2_with fail))
  all_goals go_ret2
  all_goals (have hq := hr.out; clear hr; go_tidy; (try simp only [*, Bool.or_false, Bool.false_or, Bool.true_or, Bool.or_true, Bool.false_and, Bool.and_false, Bool.true_and, Bool.and_true, Bool.false_eq_true, Bool.true_eq_false, if_true, if_false, Bool.not_true, Bool.not_false] at hq); subst hq; refine ⟨rfl, (by first | assumption | exact QB.at_ (by assumption) | exact (QB.at_ (by assumption)).drewN _ | exact (QB.set (by assumption) _).at_ | exact ((QB.set (by assumption) _).at_).drewN _ | exact TxB.At.drewN (by assumption) _), ?_⟩; first | (refine Tch.drop (Tch.size (by assumption : Tch x.L w _)) ?_; (repeat (first | exact Tch.refl _ _ | exact Tch.cons _ (by assumption) | (refine Tch.drewN ?_ _) | (refine Tch.setCell ?_ (by simp) _) | (refine Tch.trans ?_ (by assumption)) | (refine Tch.trans ?_ (Tch.cons _ (by assumption))) | (refine Tch.alloc ?_ _))); done) | (refine Tch.drop (Nat.le_refl _) ?_; (repeat (first | exact Tch.refl _ _ | exact Tch.cons _ (by assumption) | (refine Tch.drewN ?_ _) | (refine Tch.setCell ?_ (by simp) _) | (refine Tch.trans ?_ (by assumption)) | (refine Tch.trans ?_ (Tch.cons _ (by assumption))) | (refine Tch.alloc ?_ _))); done))
end Go.Proofs.Ytkfonlpglkfpgaa
