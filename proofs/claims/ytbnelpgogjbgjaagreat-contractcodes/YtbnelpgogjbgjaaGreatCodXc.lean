/- ContractCodes: whatever the contract, both put the same bytes behind one, and the chapter's examples hold. -/
import Derived.Test.YtbnelpgogjbgjaaGreatRows
import Derived.Test.YtbnelpgogjbgjaaGreatCodJTa
import Derived.Test.YtbnelpgogjbgjaaGreatCodSl
/- ContractCodes: whatever the contract, both put the same bytes behind one, and the chapter's examples hold. -/
set_option linter.unusedVariables false
set_option linter.unusedSimpArgs false
namespace Go.Proofs.YtbnelpgogjbgjaaGreat
open Go.ChangeShapes Go.WideShapes Go.ChangeAt Go.RowKit

theorem Q.own : ownKnob Tryz.prog.godebug = none := by kernel_rfl
theorem Q.laidOut : laidOutB Tryz.prog = true := by kernel_rfl
set_option maxRecDepth 100000 in
theorem contractCodes_lifted (os : Os) (started : os.Started) (H : Type) (enc : TypeId × Value → H) :
    ReturnsInHanded {} Tryz.checked os 3 .any (Rows.contractCodesSpec.pre6 enc Tryz.prog Tryz.f3 Rows.contractCodesRow.domain false) (Rows.contractCodesSpec.post enc Tryz.prog Tryz.f3 false true false false) := by
  refine returnsInHanded_of_change (C := Tryz.checked) Q.own started (by kernel_rfl) Tryz.func3
    (ChangeSpec.witness6 (enc := enc) (C := Tryz.checked) false ⟨#[], #[.agg #[.string ⟨#[]⟩, .slice none 0 0, .slice none 0 0, .slice none 0 0]], []⟩ 8 (by kernel_rfl) (by kernel_rfl) (by kernel_rfl) (by kernel_rfl)) ?_
  intro W base args ds gs before hval0 hW hcnd _
  have hval : ∀ (j : Nat) t v, Tryz.f3.params[j]? = some t → args[j]? = some v → Value.okWide Tryz.prog W .any base t v := hval0
  have hW' := hW
  obtain ⟨p, q, hA0, hV, rfl, hfz, hnd⟩ := hW
  have hA : DataW.TrodAll enc Tryz.prog W 0 (fun _ => true) true Tryz.f3.params.toList args.toList ds p := hA0
  rw [Tryz.params3] at hA hval
  obtain ⟨v0, d0, rfl, rfl, h0⟩ := trodAll_one hA
  obtain ⟨xs0, hty0, hv0⟩ := Q.arg_struct Q.goods_ok (t := 26) (ts := [9, 22, 23, 24]) (by decide) (by kernel_rfl) (hval 0 26 v0 rfl rfl) h0
  obtain ⟨x0, rfl⟩ := Q.ty_C hty0
  refine (Q.law_calls (Q.p_ContractCodes x0) (.tup rfl fun i hi hv => ?_)).mono fun e W' ⟨he, hb⟩ => ?_
  · match i, hi with
    | 0, _ => exact hv0
  · subst he
    exact ⟨_, rfl, Q.law_post Q.laidOut hW' hb rfl rfl (by kernel_rfl) Q.u_bool (by rw [Tryz.params3]; intro t ht; simp at ht; rcases ht with rfl <;> exact ⟨by kernel_rfl, by decide +kernel⟩)⟩
theorem contractCodes_holds : Rows.ContractCodesSaid :=
  OpenClaim.holds_of_wide 3 Tryz.f3 rfl rfl rfl rfl rfl rfl rfl ⟨rfl, rfl, rfl, rfl, rfl⟩ rfl rfl rfl rfl rfl (by kernel_rfl) Tryz.func3 (by kernel_rfl)
    (of_decide_eq_true (by kernel_rfl)) (by unfold Func.isWrapper; first | (rw [if_pos (by decide +kernel)]; kernel_rfl) | (rw [if_neg (by decide +kernel)]; exact ⟨rfl, rfl⟩))
    (fun os started H enc _ => contractCodes_lifted os started H enc)
end Go.Proofs.YtbnelpgogjbgjaaGreat
