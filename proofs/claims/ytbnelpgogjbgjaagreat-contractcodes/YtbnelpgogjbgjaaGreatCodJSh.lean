/- Small contracts; the right one; the examples. -/
import Derived.Test.YtbnelpgogjbgjaaGreatCodJRt
/- Small contracts; the right one; the examples. -/
set_option linter.unusedVariables false
set_option linter.unusedSimpArgs false
namespace Go.Proofs.YtbnelpgogjbgjaaGreat.Q
open Go.RowKit

def fewF (f : Fd) : Bool := decide ((f.name.size : Int) ≤ 200) && decide ((f.enum.length : Int) ≤ 30) && decide ((f.init.text.size : Int) ≤ 200)
def fewS (s : Stg) : Bool := decide ((s.orgs.length : Int) ≤ 30)
def fewM (m : Mov) : Bool := decide ((m.effects.length : Int) ≤ 30)
def fewH (c : Ctr) : Bool := decide ((c.name.size : Int) ≤ 200) && decide ((c.fields.length : Int) ≤ 30) && decide ((c.stages.length : Int) ≤ 30) && decide ((c.moves.length : Int) ≤ 30)
def fewC (c : Ctr) : Bool := fewH c && (c.fields.all fewF && (c.stages.all fewS && c.moves.all fewM))
set_option maxHeartbeats 8000000 in
theorem p_Few (c : Ctr) : PC Tryz.prog 12 [ag (encC c)] (.ret (vb (fewC c))) := by
  refine pc_of mixed F12 (by simp) ?_
  simp -dsimp (disch := omega) only [↓wi, wo, wrap64, reduceIte, Nat.reduceEqDiff, Nat.reduceAdd, Nat.reduceLT, Nat.reduceLeDiff, Nat.reduceMul, Nat.reduceSub, Int.reduceToNat, Int.reduceLT, Int.reduceLE, Int.reduceEq, Int.reduceAdd, reduceCtorEq, c12, enter, encC]
  repeat' first | (simp -dsimp (disch := omega) only [↓wi, wo, wrap64, reduceIte, Nat.reduceEqDiff, Nat.reduceAdd, Nat.reduceLT, Nat.reduceLeDiff, Nat.reduceMul, Nat.reduceSub, Int.reduceToNat, Int.reduceLT, Int.reduceLE, Int.reduceEq, Int.reduceAdd, reduceCtorEq]) | (refine brd_y (by first | assumption | omega) ?_) | (refine brd_no (by first | assumption | omega) ?_) | (refine forkd (fun _ => ?_) (fun _ => ?_)) | (refine brs_y (by assumption) ?_) | (refine brs_n (by assumption) ?_) | (refine fork (fun _ => ?_) (fun _ => ?_)) | (refine need (by omega) ?_) | (refine qv_need (by omega) ?_) | (refine qv_give ?_) | (refine give fun _ => ?_) | (refine retb rfl ?_) | (refine reti rfl ?_) | (refine ret_p ?_) | (refine ret_ps rfl ?_) | (refine ret_pp rfl ?_)
  all_goals try (simp_all [fewC, fewH]; done)
  all_goals try (simp_all [fewC, fewH]; omega)
  have h0 : fewC c = (c.fields.all fewF && (c.stages.all fewS && c.moves.all fewM)) := by
    have : fewH c = true := by simp_all [fewH] <;> omega
    rw [fewC, this, Bool.true_and]
  refine AW_wk (Wk_live [1, 3]) (AW_inv mixed (n := c.fields.length) (fun n st => ∃ (i : Nat), i + n = c.fields.length ∧ fewC c = ((c.fields.drop i).all fewF && (c.stages.all fewS && c.moves.all fewM)) ∧ st = ⟨0, [(1, .ptr 0 0), (3, vi i)], [.box ((encC c).map .c)]⟩) ⟨0, by omega, by simpa using h0, rfl⟩ ?_)
  clear h0
  rintro n _ ⟨i, hi, hf, rfl⟩
  simp -dsimp (disch := omega) only [↓wi, wo, wrap64, reduceIte, Nat.reduceEqDiff, Nat.reduceAdd, Nat.reduceLT, Nat.reduceLeDiff, Nat.reduceMul, Nat.reduceSub, Int.reduceToNat, Int.reduceLT, Int.reduceLE, Int.reduceEq, Int.reduceAdd, reduceCtorEq, encC]
  refine give fun _ => ?_
  simp -dsimp (disch := omega) only [↓wi, wo, wrap64, reduceIte, Nat.reduceEqDiff, Nat.reduceAdd, Nat.reduceLT, Nat.reduceLeDiff, Nat.reduceMul, Nat.reduceSub, Int.reduceToNat, Int.reduceLT, Int.reduceLE, Int.reduceEq, Int.reduceAdd, reduceCtorEq]
  refine forkd (fun h => ?_) (fun h => ?_)
  · have hi' : i < c.fields.length := by omega
    rw [all_at hi'] at hf
    have hgd := getD_map (f := encF) hi'
    generalize c.fields[i] = x at hf hgd
    repeat' first | (simp -dsimp (disch := omega) only [↓wi, wo, wrap64, reduceIte, Nat.reduceEqDiff, Nat.reduceAdd, Nat.reduceLT, Nat.reduceLeDiff, Nat.reduceMul, Nat.reduceSub, Int.reduceToNat, Int.reduceLT, Int.reduceLE, Int.reduceEq, Int.reduceAdd, reduceCtorEq, hgd, encC, encF, len_strs]) | (refine brd_y (by first | assumption | omega) ?_) | (refine brd_no (by first | assumption | omega) ?_) | (refine forkd (fun _ => ?_) (fun _ => ?_)) | (refine brs_y (by assumption) ?_) | (refine brs_n (by assumption) ?_) | (refine fork (fun _ => ?_) (fun _ => ?_)) | (refine need (by omega) ?_) | (refine qv_need (by omega) ?_) | (refine qv_give ?_) | (refine give fun _ => ?_) | (refine retb rfl ?_) | (refine reti rfl ?_) | (refine ret_p ?_) | (refine ret_ps rfl ?_) | (refine ret_pp rfl ?_)
    all_goals try (rw [hf, fewF]; simp [*]; done)
    all_goals try (rw [hf, fewF]; simp [*]; omega)
    refine ⟨n - 1, _, by omega, Wk_live [1, 3], i + 1, by omega, ?_, rfl⟩
    rw [hf, show fewF x = true from by simp [fewF]; omega, Bool.true_and]
  · simp -dsimp (disch := omega) only [↓wi, wo, wrap64, reduceIte, Nat.reduceEqDiff, Nat.reduceAdd, Nat.reduceLT, Nat.reduceLeDiff, Nat.reduceMul, Nat.reduceSub, Int.reduceToNat, Int.reduceLT, Int.reduceLE, Int.reduceEq, Int.reduceAdd, reduceCtorEq]
    rw [all_end (by omega), Bool.true_and] at hf
    refine AW_wk (Wk_live [1, 4]) (AW_inv mixed (n := c.stages.length) (fun n st => ∃ (i : Nat), i + n = c.stages.length ∧ fewC c = ((c.stages.drop i).all fewS && c.moves.all fewM) ∧ st = ⟨0, [(1, .ptr 0 0), (4, vi i)], [.box ((encC c).map .c)]⟩) ⟨0, by omega, by simpa using hf, rfl⟩ ?_)
    clear hi hf h n i
    rintro n _ ⟨i, hi, hf, rfl⟩
    simp -dsimp (disch := omega) only [↓wi, wo, wrap64, reduceIte, Nat.reduceEqDiff, Nat.reduceAdd, Nat.reduceLT, Nat.reduceLeDiff, Nat.reduceMul, Nat.reduceSub, Int.reduceToNat, Int.reduceLT, Int.reduceLE, Int.reduceEq, Int.reduceAdd, reduceCtorEq, encC]
    refine give fun _ => ?_
    simp -dsimp (disch := omega) only [↓wi, wo, wrap64, reduceIte, Nat.reduceEqDiff, Nat.reduceAdd, Nat.reduceLT, Nat.reduceLeDiff, Nat.reduceMul, Nat.reduceSub, Int.reduceToNat, Int.reduceLT, Int.reduceLE, Int.reduceEq, Int.reduceAdd, reduceCtorEq]
    refine forkd (fun h => ?_) (fun h => ?_)
    · have hi' : i < c.stages.length := by omega
      rw [all_at hi'] at hf
      have hgd := getD_map (f := encS) hi'
      generalize c.stages[i] = x at hf hgd
      repeat' first | (simp -dsimp (disch := omega) only [↓wi, wo, wrap64, reduceIte, Nat.reduceEqDiff, Nat.reduceAdd, Nat.reduceLT, Nat.reduceLeDiff, Nat.reduceMul, Nat.reduceSub, Int.reduceToNat, Int.reduceLT, Int.reduceLE, Int.reduceEq, Int.reduceAdd, reduceCtorEq, hgd, encC, encS, len_ints]) | (refine brd_y (by first | assumption | omega) ?_) | (refine brd_no (by first | assumption | omega) ?_) | (refine forkd (fun _ => ?_) (fun _ => ?_)) | (refine brs_y (by assumption) ?_) | (refine brs_n (by assumption) ?_) | (refine fork (fun _ => ?_) (fun _ => ?_)) | (refine need (by omega) ?_) | (refine qv_need (by omega) ?_) | (refine qv_give ?_) | (refine give fun _ => ?_) | (refine retb rfl ?_) | (refine reti rfl ?_) | (refine ret_p ?_) | (refine ret_ps rfl ?_) | (refine ret_pp rfl ?_)
      all_goals try (rw [hf, fewS]; simp [*]; done)
      all_goals try (rw [hf, fewS]; simp [*]; omega)
      refine ⟨n - 1, _, by omega, Wk_live [1, 4], i + 1, by omega, ?_, rfl⟩
      rw [hf, show fewS x = true from by simp [fewS]; omega, Bool.true_and]
    · simp -dsimp (disch := omega) only [↓wi, wo, wrap64, reduceIte, Nat.reduceEqDiff, Nat.reduceAdd, Nat.reduceLT, Nat.reduceLeDiff, Nat.reduceMul, Nat.reduceSub, Int.reduceToNat, Int.reduceLT, Int.reduceLE, Int.reduceEq, Int.reduceAdd, reduceCtorEq]
      rw [all_end (by omega), Bool.true_and] at hf
      refine AW_wk (Wk_live [1, 5]) (AW_inv mixed (n := c.moves.length) (fun n st => ∃ (i : Nat), i + n = c.moves.length ∧ fewC c = (c.moves.drop i).all fewM ∧ st = ⟨0, [(1, .ptr 0 0), (5, vi i)], [.box ((encC c).map .c)]⟩) ⟨0, by omega, by simpa using hf, rfl⟩ ?_)
      clear hi hf h n i
      rintro n _ ⟨i, hi, hf, rfl⟩
      simp -dsimp (disch := omega) only [↓wi, wo, wrap64, reduceIte, Nat.reduceEqDiff, Nat.reduceAdd, Nat.reduceLT, Nat.reduceLeDiff, Nat.reduceMul, Nat.reduceSub, Int.reduceToNat, Int.reduceLT, Int.reduceLE, Int.reduceEq, Int.reduceAdd, reduceCtorEq, encC]
      refine give fun _ => ?_
      simp -dsimp (disch := omega) only [↓wi, wo, wrap64, reduceIte, Nat.reduceEqDiff, Nat.reduceAdd, Nat.reduceLT, Nat.reduceLeDiff, Nat.reduceMul, Nat.reduceSub, Int.reduceToNat, Int.reduceLT, Int.reduceLE, Int.reduceEq, Int.reduceAdd, reduceCtorEq]
      refine forkd (fun h => ?_) (fun h => ?_)
      · have hi' : i < c.moves.length := by omega
        rw [all_at hi'] at hf
        have hgd := getD_map (f := encM) hi'
        generalize c.moves[i] = x at hf hgd
        repeat' first | (simp -dsimp (disch := omega) only [↓wi, wo, wrap64, reduceIte, Nat.reduceEqDiff, Nat.reduceAdd, Nat.reduceLT, Nat.reduceLeDiff, Nat.reduceMul, Nat.reduceSub, Int.reduceToNat, Int.reduceLT, Int.reduceLE, Int.reduceEq, Int.reduceAdd, reduceCtorEq, hgd, encC, encM]) | (refine brd_y (by first | assumption | omega) ?_) | (refine brd_no (by first | assumption | omega) ?_) | (refine forkd (fun _ => ?_) (fun _ => ?_)) | (refine brs_y (by assumption) ?_) | (refine brs_n (by assumption) ?_) | (refine fork (fun _ => ?_) (fun _ => ?_)) | (refine need (by omega) ?_) | (refine qv_need (by omega) ?_) | (refine qv_give ?_) | (refine give fun _ => ?_) | (refine retb rfl ?_) | (refine reti rfl ?_) | (refine ret_p ?_) | (refine ret_ps rfl ?_) | (refine ret_pp rfl ?_)
        all_goals try (rw [hf, fewM]; simp [*]; done)
        all_goals try (rw [hf, fewM]; simp [*]; omega)
        refine ⟨n - 1, _, by omega, Wk_live [1, 5], i + 1, by omega, ?_, rfl⟩
        rw [hf, show fewM x = true from by simp [fewM]; omega, Bool.true_and]
      · simp -dsimp (disch := omega) only [↓wi, wo, wrap64, reduceIte, Nat.reduceEqDiff, Nat.reduceAdd, Nat.reduceLT, Nat.reduceLeDiff, Nat.reduceMul, Nat.reduceSub, Int.reduceToNat, Int.reduceLT, Int.reduceLE, Int.reduceEq, Int.reduceAdd, reduceCtorEq]
        rw [all_end (by omega)] at hf
        exact retb rfl hf.symm
def one : Ctr := ⟨⟨#[99]⟩, [⟨⟨#[110]⟩, ⟨1, by decide⟩, [], ⟨⟨1, by decide⟩, zI, false, ⟨#[]⟩, zF⟩⟩], [⟨⟨#[115]⟩, zI, []⟩, ⟨⟨#[116]⟩, ⟨1, by decide⟩, [zI, ⟨2, by decide⟩]⟩], [⟨⟨#[109]⟩, zI, ⟨1, by decide⟩, .mk ⟨1, by decide⟩ [] ⟨#[]⟩ ⟨⟨2, by decide⟩, zI, true, ⟨#[]⟩, zF⟩, [], ⟨-1, by decide⟩⟩]⟩
def oneA : Ctr := ⟨one.name, one.fields, [], []⟩
def oneB : Ctr := ⟨one.name, one.fields, one.stages, [⟨⟨#[109]⟩, zI, zI, .mk ⟨1, by decide⟩ [] ⟨#[]⟩ ⟨⟨1, by decide⟩, zI, false, ⟨#[]⟩, zF⟩, [], ⟨-1, by decide⟩⟩]⟩
def oneC : Ctr := ⟨one.name, one.fields ++ one.fields, one.stages, one.moves⟩
theorem one_ok : checkC one = 0 := by kernel_rfl
theorem oneA_no : checkC oneA = 61 := by kernel_rfl
theorem oneB_no : checkC oneB = 62 := by kernel_rfl
theorem oneC_no : checkC oneC = 60 := by kernel_rfl
theorem one_len : 20 < (PutC one).length ∧ (PutC one).length ≤ 1000 := of_decide_eq_true (by kernel_rfl)
set_option maxHeartbeats 4000000 in
theorem p_One : PC Tryz.prog 59 [] (.ret (ag (encC one))) := by
  refine pc_of mixed F59 (by simp) ?_
  simp -dsimp (disch := omega) only [↓wi, wo, wrap64, reduceIte, Nat.reduceEqDiff, Nat.reduceAdd, Nat.reduceLT, Nat.reduceLeDiff, Nat.reduceMul, Nat.reduceSub, Int.reduceToNat, Int.reduceLT, Int.reduceLE, Int.reduceEq, Int.reduceAdd, reduceCtorEq, c59, enter]
  refine ret_le rfl rfl ?_ rfl
  repeat' first | exact CLe.nil _ | exact CLe.refl _ | exact LLe.nil | exact RLe.nil | refine LLe.cons ?_ ?_ | refine RLe.cons ?_ ?_ | refine CLe.sl _ ?_
end Go.Proofs.YtbnelpgogjbgjaaGreat.Q
/- The examples; the statement's walk. -/
set_option linter.unusedVariables false
set_option linter.unusedSimpArgs false
namespace Go.Proofs.YtbnelpgogjbgjaaGreat.Q
open Go.RowKit

set_option maxHeartbeats 8000000 in
theorem p_awake6 : PC Tryz.prog 16 [] (.ret (vb true)) := by
  refine pc_of mixed F16 (by simp) ?_
  have k1 := p_Check one
  rw [one_ok] at k1
  have kA := p_Check oneA
  rw [oneA_no] at kA
  have kB := p_Check oneB
  rw [oneB_no] at kB
  have kC := p_Check oneC
  rw [oneC_no] at kC
  have kP := p_PutC [] one (by have := one_len; simp; omega)
  have kP' := kP.nil
  simp only [List.nil_append] at kP'
  have eF : one.fields.map encF = [encF (one.fields.getD 0 default)] := rfl
  have eO : encC one = [cs one.name, .sl 8 [encF (one.fields.getD 0 default)], .sl 3 (one.stages.map encS), .sl 13 (one.moves.map encM)] := rfl
  have hol := one_len
  have kS : PC Tryz.prog 60 [ag (encC one), vs ⟨#[116]⟩] (.ret (vi 1)) := by
    have := p_cStage one ⟨#[116]⟩
    rwa [show findI (fun f : Stg => decide (f.name = ⟨#[116]⟩)) 0 one.stages = 1 from by kernel_rfl] at this
  simp only [eO] at k1 kP' kS
  have kO := p_One
  simp only [eO] at kO
  clear kP eO
  simp -dsimp (disch := omega) only [↓wi, wo, wrap64, reduceIte, Nat.reduceEqDiff, Nat.reduceAdd, Nat.reduceLT, Nat.reduceLeDiff, Nat.reduceMul, Nat.reduceSub, Int.reduceToNat, Int.reduceLT, Int.reduceLE, Int.reduceEq, Int.reduceAdd, reduceCtorEq, c16, enter]
  refine calls_p kO rfl rfl ?_
  simp -dsimp (disch := omega) only [↓wi, wo, wrap64, reduceIte, Nat.reduceEqDiff, Nat.reduceAdd, Nat.reduceLT, Nat.reduceLeDiff, Nat.reduceMul, Nat.reduceSub, Int.reduceToNat, Int.reduceLT, Int.reduceLE, Int.reduceEq, Int.reduceAdd, reduceCtorEq]
  refine calls_p kO rfl rfl ?_
  simp -dsimp (disch := omega) only [↓wi, wo, wrap64, reduceIte, Nat.reduceEqDiff, Nat.reduceAdd, Nat.reduceLT, Nat.reduceLeDiff, Nat.reduceMul, Nat.reduceSub, Int.reduceToNat, Int.reduceLT, Int.reduceLE, Int.reduceEq, Int.reduceAdd, reduceCtorEq]
  refine calls_p kO rfl rfl ?_
  simp -dsimp (disch := omega) only [↓wi, wo, wrap64, reduceIte, Nat.reduceEqDiff, Nat.reduceAdd, Nat.reduceLT, Nat.reduceLeDiff, Nat.reduceMul, Nat.reduceSub, Int.reduceToNat, Int.reduceLT, Int.reduceLE, Int.reduceEq, Int.reduceAdd, reduceCtorEq]
  refine qv_need (by decide) ?_
  simp -dsimp (disch := omega) only [↓wi, wo, wrap64, reduceIte, Nat.reduceEqDiff, Nat.reduceAdd, Nat.reduceLT, Nat.reduceLeDiff, Nat.reduceMul, Nat.reduceSub, Int.reduceToNat, Int.reduceLT, Int.reduceLE, Int.reduceEq, Int.reduceAdd, reduceCtorEq, encF]
  refine qv_need (by decide) ?_
  simp -dsimp (disch := omega) only [↓wi, wo, wrap64, reduceIte, Nat.reduceEqDiff, Nat.reduceAdd, Nat.reduceLT, Nat.reduceLeDiff, Nat.reduceMul, Nat.reduceSub, Int.reduceToNat, Int.reduceLT, Int.reduceLE, Int.reduceEq, Int.reduceAdd, reduceCtorEq, encF]
  refine calls_p kO rfl rfl ?_
  simp -dsimp (disch := omega) only [↓wi, wo, wrap64, reduceIte, Nat.reduceEqDiff, Nat.reduceAdd, Nat.reduceLT, Nat.reduceLeDiff, Nat.reduceMul, Nat.reduceSub, Int.reduceToNat, Int.reduceLT, Int.reduceLE, Int.reduceEq, Int.reduceAdd, reduceCtorEq, encF]
  refine calls_p k1 rfl rfl ?_
  simp -dsimp (disch := omega) only [↓wi, wo, wrap64, reduceIte, Nat.reduceEqDiff, Nat.reduceAdd, Nat.reduceLT, Nat.reduceLeDiff, Nat.reduceMul, Nat.reduceSub, Int.reduceToNat, Int.reduceLT, Int.reduceLE, Int.reduceEq, Int.reduceAdd, reduceCtorEq]
  refine calls_p kO rfl rfl ?_
  simp -dsimp (disch := omega) only [↓wi, wo, wrap64, reduceIte, Nat.reduceEqDiff, Nat.reduceAdd, Nat.reduceLT, Nat.reduceLeDiff, Nat.reduceMul, Nat.reduceSub, Int.reduceToNat, Int.reduceLT, Int.reduceLE, Int.reduceEq, Int.reduceAdd, reduceCtorEq]
  refine calls_p kP' rfl rfl ?_
  simp -dsimp (disch := omega) only [↓wi, wo, wrap64, reduceIte, Nat.reduceEqDiff, Nat.reduceAdd, Nat.reduceLT, Nat.reduceLeDiff, Nat.reduceMul, Nat.reduceSub, Int.reduceToNat, Int.reduceLT, Int.reduceLE, Int.reduceEq, Int.reduceAdd, reduceCtorEq, len_brow]
  refine give fun _ => ?_
  simp -dsimp (disch := omega) only [↓wi, wo, wrap64, reduceIte, Nat.reduceEqDiff, Nat.reduceAdd, Nat.reduceLT, Nat.reduceLeDiff, Nat.reduceMul, Nat.reduceSub, Int.reduceToNat, Int.reduceLT, Int.reduceLE, Int.reduceEq, Int.reduceAdd, reduceCtorEq]
  have hlb := len_brow (PutC one)
  refine brd_y (by omega) ?_
  simp -dsimp (disch := omega) only [↓wi, wo, wrap64, reduceIte, Nat.reduceEqDiff, Nat.reduceAdd, Nat.reduceLT, Nat.reduceLeDiff, Nat.reduceMul, Nat.reduceSub, Int.reduceToNat, Int.reduceLT, Int.reduceLE, Int.reduceEq, Int.reduceAdd, reduceCtorEq]
  refine calls_p (PC.le (a := []) (b := []) kA rfl (by repeat' first | exact CLe.nil _ | exact CLe.refl _ | exact LLe.nil | exact RLe.nil | refine LLe.cons ?_ ?_ | refine RLe.cons ?_ ?_ | refine CLe.sl _ ?_)) rfl rfl ?_
  simp -dsimp (disch := omega) only [↓wi, wo, wrap64, reduceIte, Nat.reduceEqDiff, Nat.reduceAdd, Nat.reduceLT, Nat.reduceLeDiff, Nat.reduceMul, Nat.reduceSub, Int.reduceToNat, Int.reduceLT, Int.reduceLE, Int.reduceEq, Int.reduceAdd, reduceCtorEq]
  refine calls_p (PC.le (a := []) (b := []) kB rfl (by repeat' first | exact CLe.nil _ | exact CLe.refl _ | exact LLe.nil | exact RLe.nil | refine LLe.cons ?_ ?_ | refine RLe.cons ?_ ?_ | refine CLe.sl _ ?_)) rfl rfl ?_
  simp -dsimp (disch := omega) only [↓wi, wo, wrap64, reduceIte, Nat.reduceEqDiff, Nat.reduceAdd, Nat.reduceLT, Nat.reduceLeDiff, Nat.reduceMul, Nat.reduceSub, Int.reduceToNat, Int.reduceLT, Int.reduceLE, Int.reduceEq, Int.reduceAdd, reduceCtorEq]
  refine calls_p (PC.le (a := []) (b := []) kC rfl (by repeat' first | exact CLe.nil _ | exact CLe.refl _ | exact LLe.nil | exact RLe.nil | refine LLe.cons ?_ ?_ | refine RLe.cons ?_ ?_ | refine CLe.sl _ ?_)) rfl rfl ?_
  simp -dsimp (disch := omega) only [↓wi, wo, wrap64, reduceIte, Nat.reduceEqDiff, Nat.reduceAdd, Nat.reduceLT, Nat.reduceLeDiff, Nat.reduceMul, Nat.reduceSub, Int.reduceToNat, Int.reduceLT, Int.reduceLE, Int.reduceEq, Int.reduceAdd, reduceCtorEq]
  refine calls_p kO rfl rfl ?_
  simp -dsimp (disch := omega) only [↓wi, wo, wrap64, reduceIte, Nat.reduceEqDiff, Nat.reduceAdd, Nat.reduceLT, Nat.reduceLeDiff, Nat.reduceMul, Nat.reduceSub, Int.reduceToNat, Int.reduceLT, Int.reduceLE, Int.reduceEq, Int.reduceAdd, reduceCtorEq]
  refine calls_p kS rfl rfl ?_
  simp -dsimp (disch := omega) only [↓wi, wo, wrap64, reduceIte, Nat.reduceEqDiff, Nat.reduceAdd, Nat.reduceLT, Nat.reduceLeDiff, Nat.reduceMul, Nat.reduceSub, Int.reduceToNat, Int.reduceLT, Int.reduceLE, Int.reduceEq, Int.reduceAdd, reduceCtorEq]
  exact retb rfl rfl
end Go.Proofs.YtbnelpgogjbgjaaGreat.Q
