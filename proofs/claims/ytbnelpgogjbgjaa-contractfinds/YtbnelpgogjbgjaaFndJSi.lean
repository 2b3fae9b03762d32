/- The examples; the statement's walk. -/
import Derived.Test.YtbnelpgogjbgjaaFndJRt
/- The examples; the statement's walk. -/
set_option linter.unusedVariables false
set_option linter.unusedSimpArgs false
namespace Go.Proofs.Ytbnelpgogjbgjaa.Q
open Go.RowKit

set_option maxHeartbeats 8000000 in
theorem p_awake6 : PC Try.prog 11 [] (.ret (vb true)) := by
  refine pc_of mixed F11 (by simp) ?_
  have k1 := p_Check one
  rw [one_ok] at k1
  have kA := p_Check oneA
  rw [oneA_no] at kA
  have kB := p_Check oneB
  rw [oneB_no] at kB
  have kC := p_Check oneC
  rw [oneC_no] at kC
  have kP := p_PutC [] one (by have := one_len; simp; omega)
  have kP' := kP.nil
  simp only [List.nil_append] at kP'
  have eF : one.fields.map encF = [encF (one.fields.getD 0 default)] := rfl
  have eO : encC one = [cs one.name, .sl 8 [encF (one.fields.getD 0 default)], .sl 3 (one.stages.map encS), .sl 13 (one.moves.map encM)] := rfl
  have hol := one_len
  have kS : PC Try.prog 14 [ag (encC one), vs ⟨#[116]⟩] (.ret (vi 1)) := by
    have := p_cStage one ⟨#[116]⟩
    rwa [show findI (fun f : Stg => decide (f.name = ⟨#[116]⟩)) 0 one.stages = 1 from by kernel_rfl] at this
  simp only [eO] at k1 kP' kS
  have kO := p_One
  simp only [eO] at kO
  clear kP eO
  simp -dsimp (disch := omega) only [↓wi, wo, wrap64, reduceIte, Nat.reduceEqDiff, Nat.reduceAdd, Nat.reduceLT, Nat.reduceLeDiff, Nat.reduceMul, Nat.reduceSub, Int.reduceToNat, Int.reduceLT, Int.reduceLE, Int.reduceEq, Int.reduceAdd, reduceCtorEq, c11, enter]
  refine calls_p kO rfl rfl ?_
  simp -dsimp (disch := omega) only [↓wi, wo, wrap64, reduceIte, Nat.reduceEqDiff, Nat.reduceAdd, Nat.reduceLT, Nat.reduceLeDiff, Nat.reduceMul, Nat.reduceSub, Int.reduceToNat, Int.reduceLT, Int.reduceLE, Int.reduceEq, Int.reduceAdd, reduceCtorEq]
  refine calls_p kO rfl rfl ?_
  simp -dsimp (disch := omega) only [↓wi, wo, wrap64, reduceIte, Nat.reduceEqDiff, Nat.reduceAdd, Nat.reduceLT, Nat.reduceLeDiff, Nat.reduceMul, Nat.reduceSub, Int.reduceToNat, Int.reduceLT, Int.reduceLE, Int.reduceEq, Int.reduceAdd, reduceCtorEq]
  refine calls_p kO rfl rfl ?_
  simp -dsimp (disch := omega) only [↓wi, wo, wrap64, reduceIte, Nat.reduceEqDiff, Nat.reduceAdd, Nat.reduceLT, Nat.reduceLeDiff, Nat.reduceMul, Nat.reduceSub, Int.reduceToNat, Int.reduceLT, Int.reduceLE, Int.reduceEq, Int.reduceAdd, reduceCtorEq]
  refine qv_need (by decide) ?_
  simp -dsimp (disch := omega) only [↓wi, wo, wrap64, reduceIte, Nat.reduceEqDiff, Nat.reduceAdd, Nat.reduceLT, Nat.reduceLeDiff, Nat.reduceMul, Nat.reduceSub, Int.reduceToNat, Int.reduceLT, Int.reduceLE, Int.reduceEq, Int.reduceAdd, reduceCtorEq, encF]
  refine qv_need (by decide) ?_
  simp -dsimp (disch := omega) only [↓wi, wo, wrap64, reduceIte, Nat.reduceEqDiff, Nat.reduceAdd, Nat.reduceLT, Nat.reduceLeDiff, Nat.reduceMul, Nat.reduceSub, Int.reduceToNat, Int.reduceLT, Int.reduceLE, Int.reduceEq, Int.reduceAdd, reduceCtorEq, encF]
  refine calls_p kO rfl rfl ?_
  simp -dsimp (disch := omega) only [↓wi, wo, wrap64, reduceIte, Nat.reduceEqDiff, Nat.reduceAdd, Nat.reduceLT, Nat.reduceLeDiff, Nat.reduceMul, Nat.reduceSub, Int.reduceToNat, Int.reduceLT, Int.reduceLE, Int.reduceEq, Int.reduceAdd, reduceCtorEq, encF]
  refine calls_p k1 rfl rfl ?_
  simp -dsimp (disch := omega) only [↓wi, wo, wrap64, reduceIte, Nat.reduceEqDiff, Nat.reduceAdd, Nat.reduceLT, Nat.reduceLeDiff, Nat.reduceMul, Nat.reduceSub, Int.reduceToNat, Int.reduceLT, Int.reduceLE, Int.reduceEq, Int.reduceAdd, reduceCtorEq]
  refine calls_p kO rfl rfl ?_
  simp -dsimp (disch := omega) only [↓wi, wo, wrap64, reduceIte, Nat.reduceEqDiff, Nat.reduceAdd, Nat.reduceLT, Nat.reduceLeDiff, Nat.reduceMul, Nat.reduceSub, Int.reduceToNat, Int.reduceLT, Int.reduceLE, Int.reduceEq, Int.reduceAdd, reduceCtorEq]
  refine calls_p kP' rfl rfl ?_
  simp -dsimp (disch := omega) only [↓wi, wo, wrap64, reduceIte, Nat.reduceEqDiff, Nat.reduceAdd, Nat.reduceLT, Nat.reduceLeDiff, Nat.reduceMul, Nat.reduceSub, Int.reduceToNat, Int.reduceLT, Int.reduceLE, Int.reduceEq, Int.reduceAdd, reduceCtorEq, len_brow]
  refine give fun _ => ?_
  simp -dsimp (disch := omega) only [↓wi, wo, wrap64, reduceIte, Nat.reduceEqDiff, Nat.reduceAdd, Nat.reduceLT, Nat.reduceLeDiff, Nat.reduceMul, Nat.reduceSub, Int.reduceToNat, Int.reduceLT, Int.reduceLE, Int.reduceEq, Int.reduceAdd, reduceCtorEq]
  have hlb := len_brow (PutC one)
  refine brd_y (by omega) ?_
  simp -dsimp (disch := omega) only [↓wi, wo, wrap64, reduceIte, Nat.reduceEqDiff, Nat.reduceAdd, Nat.reduceLT, Nat.reduceLeDiff, Nat.reduceMul, Nat.reduceSub, Int.reduceToNat, Int.reduceLT, Int.reduceLE, Int.reduceEq, Int.reduceAdd, reduceCtorEq]
  refine calls_p (PC.le (a := []) (b := []) kA rfl (by repeat' first | exact CLe.nil _ | exact CLe.refl _ | exact LLe.nil | exact RLe.nil | refine LLe.cons ?_ ?_ | refine RLe.cons ?_ ?_ | refine CLe.sl _ ?_)) rfl rfl ?_
  simp -dsimp (disch := omega) only [↓wi, wo, wrap64, reduceIte, Nat.reduceEqDiff, Nat.reduceAdd, Nat.reduceLT, Nat.reduceLeDiff, Nat.reduceMul, Nat.reduceSub, Int.reduceToNat, Int.reduceLT, Int.reduceLE, Int.reduceEq, Int.reduceAdd, reduceCtorEq]
  refine calls_p (PC.le (a := []) (b := []) kB rfl (by repeat' first | exact CLe.nil _ | exact CLe.refl _ | exact LLe.nil | exact RLe.nil | refine LLe.cons ?_ ?_ | refine RLe.cons ?_ ?_ | refine CLe.sl _ ?_)) rfl rfl ?_
  simp -dsimp (disch := omega) only [↓wi, wo, wrap64, reduceIte, Nat.reduceEqDiff, Nat.reduceAdd, Nat.reduceLT, Nat.reduceLeDiff, Nat.reduceMul, Nat.reduceSub, Int.reduceToNat, Int.reduceLT, Int.reduceLE, Int.reduceEq, Int.reduceAdd, reduceCtorEq]
  refine calls_p (PC.le (a := []) (b := []) kC rfl (by repeat' first | exact CLe.nil _ | exact CLe.refl _ | exact LLe.nil | exact RLe.nil | refine LLe.cons ?_ ?_ | refine RLe.cons ?_ ?_ | refine CLe.sl _ ?_)) rfl rfl ?_
  simp -dsimp (disch := omega) only [↓wi, wo, wrap64, reduceIte, Nat.reduceEqDiff, Nat.reduceAdd, Nat.reduceLT, Nat.reduceLeDiff, Nat.reduceMul, Nat.reduceSub, Int.reduceToNat, Int.reduceLT, Int.reduceLE, Int.reduceEq, Int.reduceAdd, reduceCtorEq]
  refine calls_p kO rfl rfl ?_
  simp -dsimp (disch := omega) only [↓wi, wo, wrap64, reduceIte, Nat.reduceEqDiff, Nat.reduceAdd, Nat.reduceLT, Nat.reduceLeDiff, Nat.reduceMul, Nat.reduceSub, Int.reduceToNat, Int.reduceLT, Int.reduceLE, Int.reduceEq, Int.reduceAdd, reduceCtorEq]
  refine calls_p kS rfl rfl ?_
  simp -dsimp (disch := omega) only [↓wi, wo, wrap64, reduceIte, Nat.reduceEqDiff, Nat.reduceAdd, Nat.reduceLT, Nat.reduceLeDiff, Nat.reduceMul, Nat.reduceSub, Int.reduceToNat, Int.reduceLT, Int.reduceLE, Int.reduceEq, Int.reduceAdd, reduceCtorEq]
  exact retb rfl rfl
theorem p_ContractChecks (c : Ctr) : PC Try.prog 3 [ag (encC c)] (.ret (vb true)) := by
  refine pc_of mixed F3 (by simp) ?_
  simp -dsimp (disch := omega) only [↓wi, wo, wrap64, reduceIte, Nat.reduceEqDiff, Nat.reduceAdd, Nat.reduceLT, Nat.reduceLeDiff, Nat.reduceMul, Nat.reduceSub, Int.reduceToNat, Int.reduceLT, Int.reduceLE, Int.reduceEq, Int.reduceAdd, reduceCtorEq, c3, enter, lenC, take_mapc (lenC c)]
  repeat' first | (simp -dsimp (disch := omega) only [↓wi, wo, wrap64, reduceIte, Nat.reduceEqDiff, Nat.reduceAdd, Nat.reduceLT, Nat.reduceLeDiff, Nat.reduceMul, Nat.reduceSub, Int.reduceToNat, Int.reduceLT, Int.reduceLE, Int.reduceEq, Int.reduceAdd, reduceCtorEq, lenC, take_mapc (lenC c)]) | (refine brd_y (by first | assumption | omega) ?_) | (refine brd_no (by first | assumption | omega) ?_) | (refine forkd (fun _ => ?_) (fun _ => ?_)) | (refine brs_y (by assumption) ?_) | (refine brs_n (by assumption) ?_) | (refine fork (fun _ => ?_) (fun _ => ?_)) | (refine need (by omega) ?_) | (refine qv_need (by omega) ?_) | (refine qv_give ?_) | (refine give fun _ => ?_) | (refine retb rfl ?_) | (refine reti rfl ?_) | (refine ret_p ?_) | (refine ret_ps rfl ?_) | (refine ret_pp rfl ?_) | (refine calls_b (p_Few c) rfl (fun _ => ?_) (fun _ => ?_)) | (refine calls_p (p_Few c) rfl rfl ?_) | (refine qv_b (p_Few c) rfl rfl (fun _ => ?_) (fun _ => ?_)) | (refine qv_q (p_Few c) rfl rfl rfl ?_) | (refine calls_b (p_Check c) rfl (fun _ => ?_) (fun _ => ?_)) | (refine calls_p (p_Check c) rfl rfl ?_) | (refine qv_b (p_Check c) rfl rfl (fun _ => ?_) (fun _ => ?_)) | (refine qv_q (p_Check c) rfl rfl rfl ?_) | (refine calls_b (p_rCheckC c) rfl (fun _ => ?_) (fun _ => ?_)) | (refine calls_p (p_rCheckC c) rfl rfl ?_) | (refine qv_b (p_rCheckC c) rfl rfl (fun _ => ?_) (fun _ => ?_)) | (refine qv_q (p_rCheckC c) rfl rfl rfl ?_) | (refine calls_b (p_awake6) rfl (fun _ => ?_) (fun _ => ?_)) | (refine calls_p (p_awake6) rfl rfl ?_) | (refine qv_b (p_awake6) rfl rfl (fun _ => ?_) (fun _ => ?_)) | (refine qv_q (p_awake6) rfl rfl rfl ?_)
  all_goals contradiction
end Go.Proofs.Ytbnelpgogjbgjaa.Q
/- Where fields, stages and moves stand: the statement's walk. -/
set_option linter.unusedVariables false
set_option linter.unusedSimpArgs false
namespace Go.Proofs.Ytbnelpgogjbgjaa.Q
open Go.RowKit

set_option maxHeartbeats 1000000 in
theorem p_ContractFinds (c : Ctr) (s : ByteArray) : PC Try.prog 4 [ag (encC c), vs s] (.ret (vb true)) := by
  have kF : PC Try.prog 13 [ag (encC c), vs s] (.ret (vi (fieldAt c s))) := p_rField c s
  refine pc_of mixed F4 (by simp) ?_
  simp -dsimp (disch := omega) only [↓wi, wo, wrap64, reduceIte, Nat.reduceEqDiff, Nat.reduceAdd, Nat.reduceLT, Nat.reduceLeDiff, Nat.reduceMul, Nat.reduceSub, Int.reduceToNat, Int.reduceLT, Int.reduceLE, Int.reduceEq, Int.reduceAdd, reduceCtorEq, c4, enter, lenC, take_mapc (lenC c)]
  repeat' first | (simp -dsimp (disch := omega) only [↓wi, wo, wrap64, reduceIte, Nat.reduceEqDiff, Nat.reduceAdd, Nat.reduceLT, Nat.reduceLeDiff, Nat.reduceMul, Nat.reduceSub, Int.reduceToNat, Int.reduceLT, Int.reduceLE, Int.reduceEq, Int.reduceAdd, reduceCtorEq, lenC, take_mapc (lenC c)]) | (refine brd_y (by first | assumption | omega) ?_) | (refine brd_no (by first | assumption | omega) ?_) | (refine forkd (fun _ => ?_) (fun _ => ?_)) | (refine brs_y (by assumption) ?_) | (refine brs_n (by assumption) ?_) | (refine fork (fun _ => ?_) (fun _ => ?_)) | (refine need (by omega) ?_) | (refine qv_need (by omega) ?_) | (refine qv_give ?_) | (refine give fun _ => ?_) | (refine retb rfl ?_) | (refine reti rfl ?_) | (refine ret_p ?_) | (refine ret_ps rfl ?_) | (refine ret_pp rfl ?_) | (refine calls_b (p_Few c) rfl (fun _ => ?_) (fun _ => ?_)) | (refine calls_p (p_Few c) rfl rfl ?_) | (refine qv_b (p_Few c) rfl rfl (fun _ => ?_) (fun _ => ?_)) | (refine qv_q (p_Few c) rfl rfl rfl ?_) | (refine calls_b (p_cField c s) rfl (fun _ => ?_) (fun _ => ?_)) | (refine calls_p (p_cField c s) rfl rfl ?_) | (refine qv_b (p_cField c s) rfl rfl (fun _ => ?_) (fun _ => ?_)) | (refine qv_q (p_cField c s) rfl rfl rfl ?_) | (refine calls_b (kF) rfl (fun _ => ?_) (fun _ => ?_)) | (refine calls_p (kF) rfl rfl ?_) | (refine qv_b (kF) rfl rfl (fun _ => ?_) (fun _ => ?_)) | (refine qv_q (kF) rfl rfl rfl ?_) | (refine calls_b (p_cStage c s) rfl (fun _ => ?_) (fun _ => ?_)) | (refine calls_p (p_cStage c s) rfl rfl ?_) | (refine qv_b (p_cStage c s) rfl rfl (fun _ => ?_) (fun _ => ?_)) | (refine qv_q (p_cStage c s) rfl rfl rfl ?_) | (refine calls_b (p_rStage c s) rfl (fun _ => ?_) (fun _ => ?_)) | (refine calls_p (p_rStage c s) rfl rfl ?_) | (refine qv_b (p_rStage c s) rfl rfl (fun _ => ?_) (fun _ => ?_)) | (refine qv_q (p_rStage c s) rfl rfl rfl ?_) | (refine calls_b (p_cMove c s) rfl (fun _ => ?_) (fun _ => ?_)) | (refine calls_p (p_cMove c s) rfl rfl ?_) | (refine qv_b (p_cMove c s) rfl rfl (fun _ => ?_) (fun _ => ?_)) | (refine qv_q (p_cMove c s) rfl rfl rfl ?_) | (refine calls_b (p_rMove c s) rfl (fun _ => ?_) (fun _ => ?_)) | (refine calls_p (p_rMove c s) rfl rfl ?_) | (refine qv_b (p_rMove c s) rfl rfl (fun _ => ?_) (fun _ => ?_)) | (refine qv_q (p_rMove c s) rfl rfl rfl ?_) | (refine calls_b (p_awake6) rfl (fun _ => ?_) (fun _ => ?_)) | (refine calls_p (p_awake6) rfl rfl ?_) | (refine qv_b (p_awake6) rfl rfl (fun _ => ?_) (fun _ => ?_)) | (refine qv_q (p_awake6) rfl rfl rfl ?_)
  all_goals contradiction
end Go.Proofs.Ytbnelpgogjbgjaa.Q
