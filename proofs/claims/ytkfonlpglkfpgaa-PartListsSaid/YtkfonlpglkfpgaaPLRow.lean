/- PartLists: whatever the keys: the law answers true, and its argument stands. No conditions. -/
import Derived.Test.YtkfonlpglkfpgaaClose
import Derived.Test.YtkfonlpglkfpgaaPL
namespace Go.Proofs.Ytkfonlpglkfpgaa
set_option linter.unusedSimpArgs false
set_option linter.unusedVariables false
open Go.ChangeShapes Go.WideShapes Go.ChangeAt Go.RowKit

theorem own : ownKnob Try.prog.godebug = none := by kernel_rfl
theorem kids : Kids Try.prog (· < Try.prog.types.size) := kids_rows (by kernel_rfl) (by kernel_rfl)
theorem full : ∀ t e, t < Try.prog.types.size → Try.prog.underlying t = some (.slice e) → 0 < Try.prog.cellsOf e := slices_full_of Try.prog (by kernel_rfl)
theorem cells_u64 : Try.prog.cellsOf 23 = 1 := by kernel_rfl
theorem bytes_u64 : Try.prog.bytesOf 23 = 8 := by kernel_rfl

set_option maxRecDepth 100000 in
theorem pl_lifted (os : Os) (started : os.Started) (H : Type) (enc : TypeId × Value → H) :
    ReturnsInHanded {} Try.checked os 4 .any (Rows.partListsSpec.pre6 enc Try.prog Try.f4 Rows.partListsRow.domain false) (Rows.partListsSpec.post enc Try.prog Try.f4 Rows.partListsRow.apart Rows.partListsRow.fresh Rows.partListsRow.handsOn Rows.partListsRow.again) := by
  refine returnsInHanded_of_change_sized (C := Try.checked) own started (by kernel_rfl) Try.func4
    (ChangeSpec.witness6 (enc := enc) (C := Try.checked) false ⟨#[], #[.slice none 0 0], []⟩ 8 (by kernel_rfl) (by kernel_rfl) (by kernel_rfl) (by kernel_rfl)) ?_
  intro W base args ds gs before hval0 hW _ hZ _
  have hval : ∀ (j : Nat) t v, Try.f4.params[j]? = some t → args[j]? = some v → Value.okWide Try.prog W .any base t v := hval0
  have hW' := hW
  obtain ⟨p, q, hA0, hV, rfl, _, _⟩ := hW
  have hA : DataW.TrodAll enc Try.prog W 0 (fun _ => true) true Try.f4.params.toList args.toList ds p := hA0
  rw [Try.params4] at hA hval
  obtain ⟨v0, d0, rfl, rfl, h0⟩ := trodAll_one hA
  obtain ⟨rfl, rfl⟩ := trodVars_none hV
  obtain ⟨ks, hr0, _⟩ := open_words Try.underlying22 Try.underlying23 cells_u64 (okWide_slice Try.underlying22 (hval 0 22 v0 rfl rfl)) h0
  refine (pl_any W v0 ks hr0).mono ?_
  rintro e W' ⟨rfl, hT⟩
  exact ⟨_, rfl, law_post kids full (by rw [Try.params4]; decide +kernel) rfl (by kernel_rfl) Try.underlying4 hW' hT.below ⟨rfl, rfl, rfl⟩⟩

theorem partLists_holds : Rows.PartListsSaid :=
  OpenClaim.holds_of_wide 4 Try.f4 rfl rfl rfl rfl rfl rfl rfl ⟨rfl, rfl, rfl, rfl, rfl⟩ rfl rfl rfl rfl rfl (by kernel_rfl) Try.func4 (by kernel_rfl)
    (of_decide_eq_true (by kernel_rfl)) (by unfold Func.isWrapper; first | (rw [if_pos (by decide +kernel)]; kernel_rfl) | (rw [if_neg (by decide +kernel)]; exact ⟨rfl, rfl⟩))
    (fun os started H enc _ => pl_lifted os started H enc)
#print axioms partLists_holds
end Go.Proofs.Ytkfonlpglkfpgaa
