/- ContractChecks: whatever the contract, the program's check of it and the document's check come to the same, and the chapter's examples hold. -/
import Derived.Test.YtbnelpgogjbgjaaRows
import Derived.Test.YtbnelpgogjbgjaaChkJTa
import Derived.Test.YtbnelpgogjbgjaaChkSi
/- ContractChecks: whatever the contract, the program's check of it and the document's check come to the same, and the chapter's examples hold. -/
set_option linter.unusedVariables false
set_option linter.unusedSimpArgs false
namespace Go.Proofs.Ytbnelpgogjbgjaa
open Go.ChangeShapes Go.WideShapes Go.ChangeAt Go.RowKit

theorem Q.own : ownKnob Try.prog.godebug = none := by kernel_rfl
theorem Q.laidOut : laidOutB Try.prog = true := by kernel_rfl
set_option maxRecDepth 100000 in
theorem contractChecks_lifted (os : Os) (started : os.Started) (H : Type) (enc : TypeId × Value → H) :
    ReturnsInHanded {} Try.checked os 3 .any (Rows.contractChecksSpec.pre6 enc Try.prog Try.f3 Rows.contractChecksRow.domain false) (Rows.contractChecksSpec.post enc Try.prog Try.f3 false true false false) := by
  refine returnsInHanded_of_change (C := Try.checked) Q.own started (by kernel_rfl) Try.func3
    (ChangeSpec.witness6 (enc := enc) (C := Try.checked) false ⟨#[], #[.agg #[.string ⟨#[]⟩, .slice none 0 0, .slice none 0 0, .slice none 0 0]], []⟩ 8 (by kernel_rfl) (by kernel_rfl) (by kernel_rfl) (by kernel_rfl)) ?_
  intro W base args ds gs before hval0 hW hcnd _
  have hval : ∀ (j : Nat) t v, Try.f3.params[j]? = some t → args[j]? = some v → Value.okWide Try.prog W .any base t v := hval0
  have hW' := hW
  obtain ⟨p, q, hA0, hV, rfl, hfz, hnd⟩ := hW
  have hA : DataW.TrodAll enc Try.prog W 0 (fun _ => true) true Try.f3.params.toList args.toList ds p := hA0
  rw [Try.params3] at hA hval
  obtain ⟨v0, d0, rfl, rfl, h0⟩ := trodAll_one hA
  obtain ⟨xs, hty, hv0⟩ := Q.arg_struct Q.goods_ok (t := 26) (ts := [9, 22, 23, 24]) (by decide) (by kernel_rfl) (hval 0 26 v0 rfl rfl) h0
  obtain ⟨c, rfl⟩ := Q.ty_C hty
  refine (Q.law_calls (Q.p_ContractChecks c) (.tup rfl fun i hi hv => ?_)).mono fun e W' ⟨he, hb⟩ => ?_
  · obtain rfl : i = 0 := by simp at hi; omega
    exact hv0
  · subst he
    exact ⟨_, rfl, Q.law_post Q.laidOut hW' hb rfl rfl (by kernel_rfl) Q.u_bool (by rw [Try.params3]; intro t ht; simp at ht; subst ht; exact ⟨by kernel_rfl, by decide +kernel⟩)⟩
theorem contractChecks_holds : Rows.ContractChecksSaid :=
  OpenClaim.holds_of_wide 3 Try.f3 rfl rfl rfl rfl rfl rfl rfl ⟨rfl, rfl, rfl, rfl, rfl⟩ rfl rfl rfl rfl rfl (by kernel_rfl) Try.func3 (by kernel_rfl)
    (of_decide_eq_true (by kernel_rfl)) (by unfold Func.isWrapper; first | (rw [if_pos (by decide +kernel)]; kernel_rfl) | (rw [if_neg (by decide +kernel)]; exact ⟨rfl, rfl⟩))
    (fun os started H enc _ => contractChecks_lifted os started H enc)
end Go.Proofs.Ytbnelpgogjbgjaa
