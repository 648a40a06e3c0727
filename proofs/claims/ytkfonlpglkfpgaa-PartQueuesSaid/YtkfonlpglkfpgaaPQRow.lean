/- PartQueues: whatever the words, whatever the others, whatever is added: the law answers true, and its arguments stand. No conditions. -/
import Derived.Test.YtkfonlpglkfpgaaClose
import Derived.Test.YtkfonlpglkfpgaaPQ
namespace Go.Proofs.Ytkfonlpglkfpgaa
set_option linter.unusedSimpArgs false
set_option linter.unusedVariables false
open Go.ChangeShapes Go.WideShapes Go.ChangeAt Go.RowKit

theorem own : ownKnob Try.prog.godebug = none := by kernel_rfl
theorem kids : Kids Try.prog (· < Try.prog.types.size) := kids_rows (by kernel_rfl) (by kernel_rfl)
theorem full : ∀ t e, t < Try.prog.types.size → Try.prog.underlying t = some (.slice e) → 0 < Try.prog.cellsOf e := slices_full_of Try.prog (by kernel_rfl)
theorem cells_u64 : Try.prog.cellsOf 23 = 1 := by kernel_rfl
theorem bytes_u64 : Try.prog.bytesOf 23 = 8 := by kernel_rfl

set_option maxRecDepth 100000 in
theorem pq_lifted (os : Os) (started : os.Started) (H : Type) (enc : TypeId × Value → H) :
    ReturnsInHanded {} Try.checked os 3 .any (Rows.partQueuesSpec.pre6 enc Try.prog Try.f3 Rows.partQueuesRow.domain false) (Rows.partQueuesSpec.post enc Try.prog Try.f3 Rows.partQueuesRow.apart Rows.partQueuesRow.fresh Rows.partQueuesRow.handsOn Rows.partQueuesRow.again) := by
  refine returnsInHanded_of_change_sized (C := Try.checked) own started (by kernel_rfl) Try.func3
    (ChangeSpec.witness6 (enc := enc) (C := Try.checked) false ⟨#[], #[.slice none 0 0, .slice none 0 0, .int .u64 0], []⟩ 8 (by kernel_rfl) (by kernel_rfl) (by kernel_rfl) (by kernel_rfl)) ?_
  intro W base args ds gs before hval0 hW _ hZ _
  have hval : ∀ (j : Nat) t v, Try.f3.params[j]? = some t → args[j]? = some v → Value.okWide Try.prog W .any base t v := hval0
  have hW' := hW
  obtain ⟨p, q, hA0, hV, rfl, _, _⟩ := hW
  have hA : DataW.TrodAll enc Try.prog W 0 (fun _ => true) true Try.f3.params.toList args.toList ds p := hA0
  rw [Try.params3] at hA hval
  obtain ⟨v0, v1, v2, d0, d1, d2, p0, p1, p2, rfl, rfl, rfl, h0, h1, h2⟩ := trodAll_three hA
  obtain ⟨rfl, rfl⟩ := trodVars_none hV
  obtain ⟨n, rfl, rfl, rfl, wn⟩ := open_int Try.underlying23 (hval 2 23 v2 rfl rfl) h2
  obtain ⟨ws, hr0, hd0⟩ := open_words Try.underlying22 Try.underlying23 cells_u64 (okWide_slice Try.underlying22 (hval 0 22 v0 rfl rfl)) h0
  obtain ⟨os', hr1, hd1⟩ := open_words Try.underlying22 Try.underlying23 cells_u64 (okWide_slice Try.underlying22 (hval 1 22 v1 rfl rfl)) h1
  have hZ' : (DataW.weightsEach Try.prog [22, 22, 23] [d0, d1, .lit (.int .u64 n)]).all (· ≤ reachBytes) = true := hZ
  have l0 : ws.length ≤ 140737488355328 := by
    rcases hd0 with ⟨_, rfl⟩ | ⟨el, sp, rfl, hl⟩
    · simp
    · have := sized_slice hZ' (j := 0) rfl rfl Try.underlying22
      rw [bytes_u64] at this
      unfold reachBytes at this
      omega
  have l1 : os'.length ≤ 140737488355328 := by
    rcases hd1 with ⟨_, rfl⟩ | ⟨el, sp, rfl, hl⟩
    · simp
    · have := sized_slice hZ' (j := 1) rfl rfl Try.underlying22
      rw [bytes_u64] at this
      unfold reachBytes at this
      omega
  obtain ⟨more, rfl⟩ : ∃ more : UInt64, n = u more := ⟨_, word_of wn⟩
  refine (pq_any W v0 v1 ws os' more hr0 hr1 l0 l1).mono ?_
  rintro e W' ⟨rfl, hT⟩
  exact ⟨_, rfl, law_post kids full (by rw [Try.params3]; decide +kernel) rfl (by kernel_rfl) Try.underlying4 hW' hT.below ⟨rfl, rfl, rfl⟩⟩

theorem partQueues_holds : Rows.PartQueuesSaid :=
  OpenClaim.holds_of_wide 3 Try.f3 rfl rfl rfl rfl rfl rfl rfl ⟨rfl, rfl, rfl, rfl, rfl⟩ rfl rfl rfl rfl rfl (by kernel_rfl) Try.func3 (by kernel_rfl)
    (of_decide_eq_true (by kernel_rfl)) (by unfold Func.isWrapper; first | (rw [if_pos (by decide +kernel)]; kernel_rfl) | (rw [if_neg (by decide +kernel)]; exact ⟨rfl, rfl⟩))
    (fun os started H enc _ => pq_lifted os started H enc)
#print axioms partQueues_holds
end Go.Proofs.Ytkfonlpglkfpgaa
