/- ContractFinds: whatever the contract and the name, the program and the document tell the same places of the field, the stage and the move of that name, and the chapter's examples hold. -/
import Derived.Test.YtbnelpgogjbgjaaRows
import Derived.Test.YtbnelpgogjbgjaaFndJTa
import Derived.Test.YtbnelpgogjbgjaaFndJSi
/- ContractFinds: whatever the contract and the name, the program and the document tell the same places of the field, the stage and the move of that name, and the chapter's examples hold. -/
set_option linter.unusedVariables false
set_option linter.unusedSimpArgs false
namespace Go.Proofs.Ytbnelpgogjbgjaa
open Go.ChangeShapes Go.WideShapes Go.ChangeAt Go.RowKit

theorem Q.own : ownKnob Try.prog.godebug = none := by kernel_rfl
theorem Q.laidOut : laidOutB Try.prog = true := by kernel_rfl
set_option maxRecDepth 100000 in
theorem contractFinds_lifted (os : Os) (started : os.Started) (H : Type) (enc : TypeId × Value → H) :
    ReturnsInHanded {} Try.checked os 4 .any (Rows.contractFindsSpec.pre6 enc Try.prog Try.f4 Rows.contractFindsRow.domain false) (Rows.contractFindsSpec.post enc Try.prog Try.f4 false true false false) := by
  refine returnsInHanded_of_change (C := Try.checked) Q.own started (by kernel_rfl) Try.func4
    (ChangeSpec.witness6 (enc := enc) (C := Try.checked) false ⟨#[], #[.agg #[.string ⟨#[]⟩, .slice none 0 0, .slice none 0 0, .slice none 0 0], .string ⟨#[]⟩], []⟩ 8 (by kernel_rfl) (by kernel_rfl) (by kernel_rfl) (by kernel_rfl)) ?_
  intro W base args ds gs before hval0 hW hcnd _
  have hval : ∀ (j : Nat) t v, Try.f4.params[j]? = some t → args[j]? = some v → Value.okWide Try.prog W .any base t v := hval0
  have hW' := hW
  obtain ⟨p, q, hA0, hV, rfl, hfz, hnd⟩ := hW
  have hA : DataW.TrodAll enc Try.prog W 0 (fun _ => true) true Try.f4.params.toList args.toList ds p := hA0
  rw [Try.params4] at hA hval
  obtain ⟨v0, v1, d0, d1, p0, p1, rfl, rfl, rfl, h0, h1⟩ := trodAll_two hA
  obtain ⟨xs0, hty0, hv0⟩ := Q.arg_struct Q.goods_ok (t := 26) (ts := [9, 22, 23, 24]) (by decide) (by kernel_rfl) (hval 0 26 v0 rfl rfl) h0
  obtain ⟨x0, rfl⟩ := Q.ty_C hty0
  obtain ⟨x1, rfl⟩ := Q.arg_str (P := Try.prog) (t := 9) (spare := fun _ => true) (base := 0) (held := true) (d := d1) (ps := []) Q.u_string (hval 1 9 v1 rfl rfl)
  have hv1 : Q.SVR W (fun b => b < W.heap.size) [] [] (Q.vs x1) (.string x1) := .c (.sc _ rfl)
  refine (Q.law_calls (Q.p_ContractFinds x0 x1) (.tup rfl fun i hi hv => ?_)).mono fun e W' ⟨he, hb⟩ => ?_
  · match i, hi with
    | 0, _ => exact hv0
    | 1, _ => exact hv1
  · subst he
    exact ⟨_, rfl, Q.law_post Q.laidOut hW' hb rfl rfl (by kernel_rfl) Q.u_bool (by rw [Try.params4]; intro t ht; simp at ht; rcases ht with rfl | rfl <;> exact ⟨by kernel_rfl, by decide +kernel⟩)⟩
theorem contractFinds_holds : Rows.ContractFindsSaid :=
  OpenClaim.holds_of_wide 4 Try.f4 rfl rfl rfl rfl rfl rfl rfl ⟨rfl, rfl, rfl, rfl, rfl⟩ rfl rfl rfl rfl rfl (by kernel_rfl) Try.func4 (by kernel_rfl)
    (of_decide_eq_true (by kernel_rfl)) (by unfold Func.isWrapper; first | (rw [if_pos (by decide +kernel)]; kernel_rfl) | (rw [if_neg (by decide +kernel)]; exact ⟨rfl, rfl⟩))
    (fun os started H enc _ => contractFinds_lifted os started H enc)
end Go.Proofs.Ytbnelpgogjbgjaa
