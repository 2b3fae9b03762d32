/- The document's contracts: names, places, fields, stages. -/
import Derived.Test.YtbnelpgogjbgjaaGreatCodJRg
/- The document's contracts: names, places, fields, stages. -/
set_option linter.unusedVariables false
set_option linter.unusedSimpArgs false
namespace Go.Proofs.YtbnelpgogjbgjaaGreat.Q
open Go.RowKit

set_option maxHeartbeats 4000000 in
theorem p_rsame (a b : Vl) : PC Tryz.prog 167 [ag (encV a), ag (encV b)] (.ret (vb (sameV a b))) := by
  refine pc_of mixed F167 (by simp) ?_
  simp -dsimp (disch := omega) only [↓wi, wo, wrap64, reduceIte, Nat.reduceEqDiff, Nat.reduceAdd, Nat.reduceLT, Nat.reduceLeDiff, Nat.reduceMul, Nat.reduceSub, Int.reduceToNat, Int.reduceLT, Int.reduceLE, Int.reduceEq, Int.reduceAdd, reduceCtorEq, c167, enter, encV]
  repeat' first | (simp -dsimp (disch := omega) only [↓wi, wo, wrap64, reduceIte, Nat.reduceEqDiff, Nat.reduceAdd, Nat.reduceLT, Nat.reduceLeDiff, Nat.reduceMul, Nat.reduceSub, Int.reduceToNat, Int.reduceLT, Int.reduceLE, Int.reduceEq, Int.reduceAdd, reduceCtorEq]) | (refine brd_y (by first | assumption | omega) ?_) | (refine brd_no (by first | assumption | omega) ?_) | (refine forkd (fun _ => ?_) (fun _ => ?_)) | (refine brs_y (by assumption) ?_) | (refine brs_n (by assumption) ?_) | (refine fork (fun _ => ?_) (fun _ => ?_)) | (refine need (by omega) ?_) | (refine qv_need (by omega) ?_) | (refine qv_give ?_) | (refine give fun _ => ?_) | (refine retb rfl ?_) | (refine reti rfl ?_) | (refine ret_p ?_) | (refine ret_ps rfl ?_) | (refine ret_pp rfl ?_) | (refine calls_b (p_bits a.num.1) rfl (fun _ => ?_) (fun _ => ?_)) | (refine calls_p (p_bits a.num.1) rfl rfl ?_) | (refine qv_b (p_bits a.num.1) rfl rfl (fun _ => ?_) (fun _ => ?_)) | (refine qv_q (p_bits a.num.1) rfl rfl rfl ?_) | (refine calls_b (p_bits b.num.1) rfl (fun _ => ?_) (fun _ => ?_)) | (refine calls_p (p_bits b.num.1) rfl rfl ?_) | (refine qv_b (p_bits b.num.1) rfl rfl (fun _ => ?_) (fun _ => ?_)) | (refine qv_q (p_bits b.num.1) rfl rfl rfl ?_)
  all_goals grind [sameV]
theorem p_rname (s : ByteArray) : PC Tryz.prog 77 [vs s] (.ret (vb (named s))) := by
  refine pc_of mixed F77 (by simp) ?_
  simp -dsimp (disch := omega) only [↓wi, wo, wrap64, reduceIte, Nat.reduceEqDiff, Nat.reduceAdd, Nat.reduceLT, Nat.reduceLeDiff, Nat.reduceMul, Nat.reduceSub, Int.reduceToNat, Int.reduceLT, Int.reduceLE, Int.reduceEq, Int.reduceAdd, reduceCtorEq, c77, enter]
  repeat' first | (simp -dsimp (disch := omega) only [↓wi, wo, wrap64, reduceIte, Nat.reduceEqDiff, Nat.reduceAdd, Nat.reduceLT, Nat.reduceLeDiff, Nat.reduceMul, Nat.reduceSub, Int.reduceToNat, Int.reduceLT, Int.reduceLE, Int.reduceEq, Int.reduceAdd, reduceCtorEq]) | (refine brd_y (by first | assumption | omega) ?_) | (refine brd_no (by first | assumption | omega) ?_) | (refine forkd (fun _ => ?_) (fun _ => ?_)) | (refine brs_y (by assumption) ?_) | (refine brs_n (by assumption) ?_) | (refine fork (fun _ => ?_) (fun _ => ?_)) | (refine need (by omega) ?_) | (refine qv_need (by omega) ?_) | (refine qv_give ?_) | (refine give fun _ => ?_) | (refine retb rfl ?_) | (refine reti rfl ?_) | (refine ret_p ?_) | (refine ret_ps rfl ?_) | (refine ret_pp rfl ?_)
  all_goals grind [named]
theorem p_rField (c : Ctr) (s : ByteArray) : PC Tryz.prog 130 [ag (encC c), vs s] (.ret (vi (findI (fun f => decide (f.name = s)) 0 c.fields))) := by
  refine pc_of mixed F130 (by simp) ?_
  simp -dsimp (disch := omega) only [↓wi, wo, wrap64, reduceIte, Nat.reduceEqDiff, Nat.reduceAdd, Nat.reduceLT, Nat.reduceLeDiff, Nat.reduceMul, Nat.reduceSub, Int.reduceToNat, Int.reduceLT, Int.reduceLE, Int.reduceEq, Int.reduceAdd, reduceCtorEq, c130, enter, encC]
  refine AW_wk (Wk_live [1, 2, 5]) (AW_inv mixed (n := c.fields.length) (fun n st => ∃ i : Nat, i + n = c.fields.length ∧ findI (fun f => decide (f.name = s)) 0 c.fields = findI (fun f => decide (f.name = s)) i (c.fields.drop i) ∧ st = ⟨0, [(1, vs s), (2, .ptr 0 0), (5, vi i)], [.box ((encC c).map .c)]⟩) ⟨0, by omega, rfl, rfl⟩ ?_)
  rintro n _ ⟨i, hi, hf, rfl⟩
  simp -dsimp (disch := omega) only [↓wi, wo, wrap64, reduceIte, Nat.reduceEqDiff, Nat.reduceAdd, Nat.reduceLT, Nat.reduceLeDiff, Nat.reduceMul, Nat.reduceSub, Int.reduceToNat, Int.reduceLT, Int.reduceLE, Int.reduceEq, Int.reduceAdd, reduceCtorEq, encC]
  refine give fun hlen => ?_
  simp -dsimp (disch := omega) only [↓wi, wo, wrap64, reduceIte, Nat.reduceEqDiff, Nat.reduceAdd, Nat.reduceLT, Nat.reduceLeDiff, Nat.reduceMul, Nat.reduceSub, Int.reduceToNat, Int.reduceLT, Int.reduceLE, Int.reduceEq, Int.reduceAdd, reduceCtorEq]
  refine forkd (fun h => ?_) (fun h => ?_)
  · have hi' : i < c.fields.length := by omega
    rw [findI_at hi'] at hf
    simp -dsimp (disch := omega) only [↓wi, wo, wrap64, reduceIte, Nat.reduceEqDiff, Nat.reduceAdd, Nat.reduceLT, Nat.reduceLeDiff, Nat.reduceMul, Nat.reduceSub, Int.reduceToNat, Int.reduceLT, Int.reduceLE, Int.reduceEq, Int.reduceAdd, reduceCtorEq]
    refine need (by omega) ?_
    simp -dsimp (disch := omega) only [↓wi, wo, wrap64, reduceIte, Nat.reduceEqDiff, Nat.reduceAdd, Nat.reduceLT, Nat.reduceLeDiff, Nat.reduceMul, Nat.reduceSub, Int.reduceToNat, Int.reduceLT, Int.reduceLE, Int.reduceEq, Int.reduceAdd, reduceCtorEq, getD_map hi', encF]
    refine forkd (fun h1 => ?_) (fun h1 => ?_)
    · simp -dsimp (disch := omega) only [↓wi, wo, wrap64, reduceIte, Nat.reduceEqDiff, Nat.reduceAdd, Nat.reduceLT, Nat.reduceLeDiff, Nat.reduceMul, Nat.reduceSub, Int.reduceToNat, Int.reduceLT, Int.reduceLE, Int.reduceEq, Int.reduceAdd, reduceCtorEq]
      refine reti rfl ?_
      rw [hf, decide_eq_true h1]; rfl
    · simp -dsimp (disch := omega) only [↓wi, wo, wrap64, reduceIte, Nat.reduceEqDiff, Nat.reduceAdd, Nat.reduceLT, Nat.reduceLeDiff, Nat.reduceMul, Nat.reduceSub, Int.reduceToNat, Int.reduceLT, Int.reduceLE, Int.reduceEq, Int.reduceAdd, reduceCtorEq]
      refine ⟨n - 1, _, by omega, Wk_live [1, 2, 5], i + 1, by omega, ?_, rfl⟩
      rw [hf, decide_eq_false h1]; rfl
  · simp -dsimp (disch := omega) only [↓wi, wo, wrap64, reduceIte, Nat.reduceEqDiff, Nat.reduceAdd, Nat.reduceLT, Nat.reduceLeDiff, Nat.reduceMul, Nat.reduceSub, Int.reduceToNat, Int.reduceLT, Int.reduceLE, Int.reduceEq, Int.reduceAdd, reduceCtorEq]
    refine reti rfl ?_
    rw [hf, findI_end (by omega)]
theorem p_rStage (c : Ctr) (s : ByteArray) : PC Tryz.prog 132 [ag (encC c), vs s] (.ret (vi (findI (fun f => decide (f.name = s)) 0 c.stages))) := by
  refine pc_of mixed F132 (by simp) ?_
  simp -dsimp (disch := omega) only [↓wi, wo, wrap64, reduceIte, Nat.reduceEqDiff, Nat.reduceAdd, Nat.reduceLT, Nat.reduceLeDiff, Nat.reduceMul, Nat.reduceSub, Int.reduceToNat, Int.reduceLT, Int.reduceLE, Int.reduceEq, Int.reduceAdd, reduceCtorEq, c132, enter, encC]
  refine AW_wk (Wk_live [1, 2, 5]) (AW_inv mixed (n := c.stages.length) (fun n st => ∃ i : Nat, i + n = c.stages.length ∧ findI (fun f => decide (f.name = s)) 0 c.stages = findI (fun f => decide (f.name = s)) i (c.stages.drop i) ∧ st = ⟨0, [(1, vs s), (2, .ptr 0 0), (5, vi i)], [.box ((encC c).map .c)]⟩) ⟨0, by omega, rfl, rfl⟩ ?_)
  rintro n _ ⟨i, hi, hf, rfl⟩
  simp -dsimp (disch := omega) only [↓wi, wo, wrap64, reduceIte, Nat.reduceEqDiff, Nat.reduceAdd, Nat.reduceLT, Nat.reduceLeDiff, Nat.reduceMul, Nat.reduceSub, Int.reduceToNat, Int.reduceLT, Int.reduceLE, Int.reduceEq, Int.reduceAdd, reduceCtorEq, encC]
  refine give fun hlen => ?_
  simp -dsimp (disch := omega) only [↓wi, wo, wrap64, reduceIte, Nat.reduceEqDiff, Nat.reduceAdd, Nat.reduceLT, Nat.reduceLeDiff, Nat.reduceMul, Nat.reduceSub, Int.reduceToNat, Int.reduceLT, Int.reduceLE, Int.reduceEq, Int.reduceAdd, reduceCtorEq]
  refine forkd (fun h => ?_) (fun h => ?_)
  · have hi' : i < c.stages.length := by omega
    rw [findI_at hi'] at hf
    simp -dsimp (disch := omega) only [↓wi, wo, wrap64, reduceIte, Nat.reduceEqDiff, Nat.reduceAdd, Nat.reduceLT, Nat.reduceLeDiff, Nat.reduceMul, Nat.reduceSub, Int.reduceToNat, Int.reduceLT, Int.reduceLE, Int.reduceEq, Int.reduceAdd, reduceCtorEq]
    refine need (by omega) ?_
    simp -dsimp (disch := omega) only [↓wi, wo, wrap64, reduceIte, Nat.reduceEqDiff, Nat.reduceAdd, Nat.reduceLT, Nat.reduceLeDiff, Nat.reduceMul, Nat.reduceSub, Int.reduceToNat, Int.reduceLT, Int.reduceLE, Int.reduceEq, Int.reduceAdd, reduceCtorEq, getD_map hi', encS]
    refine forkd (fun h1 => ?_) (fun h1 => ?_)
    · simp -dsimp (disch := omega) only [↓wi, wo, wrap64, reduceIte, Nat.reduceEqDiff, Nat.reduceAdd, Nat.reduceLT, Nat.reduceLeDiff, Nat.reduceMul, Nat.reduceSub, Int.reduceToNat, Int.reduceLT, Int.reduceLE, Int.reduceEq, Int.reduceAdd, reduceCtorEq]
      refine reti rfl ?_
      rw [hf, decide_eq_true h1]; rfl
    · simp -dsimp (disch := omega) only [↓wi, wo, wrap64, reduceIte, Nat.reduceEqDiff, Nat.reduceAdd, Nat.reduceLT, Nat.reduceLeDiff, Nat.reduceMul, Nat.reduceSub, Int.reduceToNat, Int.reduceLT, Int.reduceLE, Int.reduceEq, Int.reduceAdd, reduceCtorEq]
      refine ⟨n - 1, _, by omega, Wk_live [1, 2, 5], i + 1, by omega, ?_, rfl⟩
      rw [hf, decide_eq_false h1]; rfl
  · simp -dsimp (disch := omega) only [↓wi, wo, wrap64, reduceIte, Nat.reduceEqDiff, Nat.reduceAdd, Nat.reduceLT, Nat.reduceLeDiff, Nat.reduceMul, Nat.reduceSub, Int.reduceToNat, Int.reduceLT, Int.reduceLE, Int.reduceEq, Int.reduceAdd, reduceCtorEq]
    refine reti rfl ?_
    rw [hf, findI_end (by omega)]
theorem p_rMove (c : Ctr) (s : ByteArray) : PC Tryz.prog 80 [ag (encC c), vs s] (.ret (vi (findI (fun f => decide (f.name = s)) 0 c.moves))) := by
  refine pc_of mixed F80 (by simp) ?_
  simp -dsimp (disch := omega) only [↓wi, wo, wrap64, reduceIte, Nat.reduceEqDiff, Nat.reduceAdd, Nat.reduceLT, Nat.reduceLeDiff, Nat.reduceMul, Nat.reduceSub, Int.reduceToNat, Int.reduceLT, Int.reduceLE, Int.reduceEq, Int.reduceAdd, reduceCtorEq, c80, enter, encC]
  refine AW_wk (Wk_live [1, 2, 5]) (AW_inv mixed (n := c.moves.length) (fun n st => ∃ i : Nat, i + n = c.moves.length ∧ findI (fun f => decide (f.name = s)) 0 c.moves = findI (fun f => decide (f.name = s)) i (c.moves.drop i) ∧ st = ⟨0, [(1, vs s), (2, .ptr 0 0), (5, vi i)], [.box ((encC c).map .c)]⟩) ⟨0, by omega, rfl, rfl⟩ ?_)
  rintro n _ ⟨i, hi, hf, rfl⟩
  simp -dsimp (disch := omega) only [↓wi, wo, wrap64, reduceIte, Nat.reduceEqDiff, Nat.reduceAdd, Nat.reduceLT, Nat.reduceLeDiff, Nat.reduceMul, Nat.reduceSub, Int.reduceToNat, Int.reduceLT, Int.reduceLE, Int.reduceEq, Int.reduceAdd, reduceCtorEq, encC]
  refine give fun hlen => ?_
  simp -dsimp (disch := omega) only [↓wi, wo, wrap64, reduceIte, Nat.reduceEqDiff, Nat.reduceAdd, Nat.reduceLT, Nat.reduceLeDiff, Nat.reduceMul, Nat.reduceSub, Int.reduceToNat, Int.reduceLT, Int.reduceLE, Int.reduceEq, Int.reduceAdd, reduceCtorEq]
  refine forkd (fun h => ?_) (fun h => ?_)
  · have hi' : i < c.moves.length := by omega
    rw [findI_at hi'] at hf
    simp -dsimp (disch := omega) only [↓wi, wo, wrap64, reduceIte, Nat.reduceEqDiff, Nat.reduceAdd, Nat.reduceLT, Nat.reduceLeDiff, Nat.reduceMul, Nat.reduceSub, Int.reduceToNat, Int.reduceLT, Int.reduceLE, Int.reduceEq, Int.reduceAdd, reduceCtorEq]
    refine need (by omega) ?_
    simp -dsimp (disch := omega) only [↓wi, wo, wrap64, reduceIte, Nat.reduceEqDiff, Nat.reduceAdd, Nat.reduceLT, Nat.reduceLeDiff, Nat.reduceMul, Nat.reduceSub, Int.reduceToNat, Int.reduceLT, Int.reduceLE, Int.reduceEq, Int.reduceAdd, reduceCtorEq, getD_map hi', encM]
    refine forkd (fun h1 => ?_) (fun h1 => ?_)
    · simp -dsimp (disch := omega) only [↓wi, wo, wrap64, reduceIte, Nat.reduceEqDiff, Nat.reduceAdd, Nat.reduceLT, Nat.reduceLeDiff, Nat.reduceMul, Nat.reduceSub, Int.reduceToNat, Int.reduceLT, Int.reduceLE, Int.reduceEq, Int.reduceAdd, reduceCtorEq]
      refine reti rfl ?_
      rw [hf, decide_eq_true h1]; rfl
    · simp -dsimp (disch := omega) only [↓wi, wo, wrap64, reduceIte, Nat.reduceEqDiff, Nat.reduceAdd, Nat.reduceLT, Nat.reduceLeDiff, Nat.reduceMul, Nat.reduceSub, Int.reduceToNat, Int.reduceLT, Int.reduceLE, Int.reduceEq, Int.reduceAdd, reduceCtorEq]
      refine ⟨n - 1, _, by omega, Wk_live [1, 2, 5], i + 1, by omega, ?_, rfl⟩
      rw [hf, decide_eq_false h1]; rfl
  · simp -dsimp (disch := omega) only [↓wi, wo, wrap64, reduceIte, Nat.reduceEqDiff, Nat.reduceAdd, Nat.reduceLT, Nat.reduceLeDiff, Nat.reduceMul, Nat.reduceSub, Int.reduceToNat, Int.reduceLT, Int.reduceLE, Int.reduceEq, Int.reduceAdd, reduceCtorEq]
    refine reti rfl ?_
    rw [hf, findI_end (by omega)]
theorem any_at {α : Type} {p : α → Bool} {l : List α} {i : Nat} (h : i < l.length) : (l.drop i).any p = (p l[i] || (l.drop (i + 1)).any p) := by
  rw [List.drop_eq_getElem_cons h]; rfl
theorem any_end {α : Type} {p : α → Bool} {l : List α} {i : Nat} (h : l.length ≤ i) : (l.drop i).any p = false := by
  rw [List.drop_eq_nil_of_le h]; rfl
set_option maxHeartbeats 4000000 in
theorem p_rfits (v : Vl) (f : Fd) : PC Tryz.prog 102 [ag (encV v), ag (encF f)] (.ret (vi (fitsV v f))) := by
  refine pc_of mixed F102 (by simp) ?_
  simp -dsimp (disch := omega) only [↓wi, wo, wrap64, reduceIte, Nat.reduceEqDiff, Nat.reduceAdd, Nat.reduceLT, Nat.reduceLeDiff, Nat.reduceMul, Nat.reduceSub, Int.reduceToNat, Int.reduceLT, Int.reduceLE, Int.reduceEq, Int.reduceAdd, reduceCtorEq, c102, enter, encV, encF]
  repeat' first | (simp -dsimp (disch := omega) only [↓wi, wo, wrap64, reduceIte, Nat.reduceEqDiff, Nat.reduceAdd, Nat.reduceLT, Nat.reduceLeDiff, Nat.reduceMul, Nat.reduceSub, Int.reduceToNat, Int.reduceLT, Int.reduceLE, Int.reduceEq, Int.reduceAdd, reduceCtorEq, len_strs]) | (refine brd_y (by first | assumption | omega) ?_) | (refine brd_no (by first | assumption | omega) ?_) | (refine forkd (fun _ => ?_) (fun _ => ?_)) | (refine brs_y (by assumption) ?_) | (refine brs_n (by assumption) ?_) | (refine fork (fun _ => ?_) (fun _ => ?_)) | (refine need (by omega) ?_) | (refine qv_need (by omega) ?_) | (refine qv_give ?_) | (refine give fun _ => ?_) | (refine retb rfl ?_) | (refine reti rfl ?_) | (refine ret_p ?_) | (refine ret_ps rfl ?_) | (refine ret_pp rfl ?_) | (refine calls_b (p_rgood v) rfl (fun _ => ?_) (fun _ => ?_)) | (refine calls_p (p_rgood v) rfl rfl ?_) | (refine qv_b (p_rgood v) rfl rfl (fun _ => ?_) (fun _ => ?_)) | (refine qv_q (p_rgood v) rfl rfl rfl ?_)
  · grind [fitsV]
  · skip
    have hfit : fitsV v f = if (f.enum.any fun x => decide (v.text = x)) then 0 else 60 := by grind [fitsV]
    refine AW_wk (Wk_live [2, 3, 5]) (AW_inv mixed (n := f.enum.length) (fun n st => ∃ i : Nat, i + n = f.enum.length ∧ (f.enum.any fun x => decide (v.text = x)) = ((f.enum.drop i).any fun x => decide (v.text = x)) ∧ st = ⟨0, [(2, .ptr 0 0), (3, .ptr 1 0), (5, vi i)], [.box ((encV v).map .c), .box ((encF f).map .c)]⟩) ⟨0, by omega, rfl, rfl⟩ ?_)
    rintro n _ ⟨i, hi, hf, rfl⟩
    simp -dsimp (disch := omega) only [↓wi, wo, wrap64, reduceIte, Nat.reduceEqDiff, Nat.reduceAdd, Nat.reduceLT, Nat.reduceLeDiff, Nat.reduceMul, Nat.reduceSub, Int.reduceToNat, Int.reduceLT, Int.reduceLE, Int.reduceEq, Int.reduceAdd, reduceCtorEq, encV, encF]
    refine give fun _ => ?_
    simp -dsimp (disch := omega) only [↓wi, wo, wrap64, reduceIte, Nat.reduceEqDiff, Nat.reduceAdd, Nat.reduceLT, Nat.reduceLeDiff, Nat.reduceMul, Nat.reduceSub, Int.reduceToNat, Int.reduceLT, Int.reduceLE, Int.reduceEq, Int.reduceAdd, reduceCtorEq, len_strs]
    refine forkd (fun h => ?_) (fun h => ?_)
    · have hi' : i < f.enum.length := by omega
      rw [any_at hi'] at hf
      simp -dsimp (disch := omega) only [↓wi, wo, wrap64, reduceIte, Nat.reduceEqDiff, Nat.reduceAdd, Nat.reduceLT, Nat.reduceLeDiff, Nat.reduceMul, Nat.reduceSub, Int.reduceToNat, Int.reduceLT, Int.reduceLE, Int.reduceEq, Int.reduceAdd, reduceCtorEq]
      refine qv_need (by simp only [len_strs]; omega) ?_
      simp -dsimp (disch := omega) only [↓wi, wo, wrap64, reduceIte, Nat.reduceEqDiff, Nat.reduceAdd, Nat.reduceLT, Nat.reduceLeDiff, Nat.reduceMul, Nat.reduceSub, Int.reduceToNat, Int.reduceLT, Int.reduceLE, Int.reduceEq, Int.reduceAdd, reduceCtorEq, getD_strs hi']
      refine forkd (fun h1 => ?_) (fun h1 => ?_)
      · simp -dsimp (disch := omega) only [↓wi, wo, wrap64, reduceIte, Nat.reduceEqDiff, Nat.reduceAdd, Nat.reduceLT, Nat.reduceLeDiff, Nat.reduceMul, Nat.reduceSub, Int.reduceToNat, Int.reduceLT, Int.reduceLE, Int.reduceEq, Int.reduceAdd, reduceCtorEq]
        refine reti rfl ?_
        rw [hfit, hf, decide_eq_true h1.symm]; rfl
      · simp -dsimp (disch := omega) only [↓wi, wo, wrap64, reduceIte, Nat.reduceEqDiff, Nat.reduceAdd, Nat.reduceLT, Nat.reduceLeDiff, Nat.reduceMul, Nat.reduceSub, Int.reduceToNat, Int.reduceLT, Int.reduceLE, Int.reduceEq, Int.reduceAdd, reduceCtorEq]
        refine ⟨n - 1, _, by omega, Wk_live [2, 3, 5], i + 1, by omega, ?_, rfl⟩
        rw [hf, decide_eq_false fun e => h1 e.symm]; rfl
    · simp -dsimp (disch := omega) only [↓wi, wo, wrap64, reduceIte, Nat.reduceEqDiff, Nat.reduceAdd, Nat.reduceLT, Nat.reduceLeDiff, Nat.reduceMul, Nat.reduceSub, Int.reduceToNat, Int.reduceLT, Int.reduceLE, Int.reduceEq, Int.reduceAdd, reduceCtorEq]
      refine reti rfl ?_
      rw [hfit, hf, any_end (by omega)]
      rfl
  all_goals grind [fitsV]
end Go.Proofs.YtbnelpgogjbgjaaGreat.Q
/- Fields: texts that a field may have. -/
set_option linter.unusedVariables false
set_option linter.unusedSimpArgs false
namespace Go.Proofs.YtbnelpgogjbgjaaGreat.Q
open Go.RowKit

def enumI (l : List ByteArray) (i : Nat) (s : ByteArray) : Bool := decide ((s.size : Int) ≤ 32) && !((l.take i).any fun x => decide (s = x))
def enumR (f : Fd) : Bool := decide (f.enum.length ≤ 4) && (decide (f.enum.length = 0) || decide (f.kind.1 = 3)) && allI (enumI f.enum) 0 f.enum
set_option maxHeartbeats 4000000 in
theorem p_renum (f : Fd) : PC Tryz.prog 131 [ag (encF f)] (.ret (vb (enumR f))) := by
  refine pc_of mixed F131 (by simp) ?_
  simp -dsimp (disch := omega) only [↓wi, wo, wrap64, reduceIte, Nat.reduceEqDiff, Nat.reduceAdd, Nat.reduceLT, Nat.reduceLeDiff, Nat.reduceMul, Nat.reduceSub, Int.reduceToNat, Int.reduceLT, Int.reduceLE, Int.reduceEq, Int.reduceAdd, reduceCtorEq, c131, enter, encF]
  repeat' first | (simp -dsimp (disch := omega) only [↓wi, wo, wrap64, reduceIte, Nat.reduceEqDiff, Nat.reduceAdd, Nat.reduceLT, Nat.reduceLeDiff, Nat.reduceMul, Nat.reduceSub, Int.reduceToNat, Int.reduceLT, Int.reduceLE, Int.reduceEq, Int.reduceAdd, reduceCtorEq, len_strs]) | (refine brd_y (by first | assumption | omega) ?_) | (refine brd_no (by first | assumption | omega) ?_) | (refine forkd (fun _ => ?_) (fun _ => ?_)) | (refine brs_y (by assumption) ?_) | (refine brs_n (by assumption) ?_) | (refine fork (fun _ => ?_) (fun _ => ?_)) | (refine need (by omega) ?_) | (refine qv_need (by omega) ?_) | (refine qv_give ?_) | (refine give fun _ => ?_) | (refine retb rfl ?_) | (refine reti rfl ?_) | (refine ret_p ?_) | (refine ret_ps rfl ?_) | (refine ret_pp rfl ?_)
  all_goals try grind [enumR]
  all_goals
    have hen : enumR f = allI (enumI f.enum) 0 f.enum := by grind [enumR]
    refine AW_wk (Wk_live [1, 3]) (AW_inv mixed (n := f.enum.length) (fun n st => ∃ i : Nat, i + n = f.enum.length ∧ enumR f = allI (enumI f.enum) i (f.enum.drop i) ∧ st = ⟨0, [(1, .ptr 0 0), (3, vi i)], [.box ((encF f).map .c)]⟩) ⟨0, by omega, hen, rfl⟩ ?_)
    rintro n _ ⟨i, hi, hf, rfl⟩
    simp -dsimp (disch := omega) only [↓wi, wo, wrap64, reduceIte, Nat.reduceEqDiff, Nat.reduceAdd, Nat.reduceLT, Nat.reduceLeDiff, Nat.reduceMul, Nat.reduceSub, Int.reduceToNat, Int.reduceLT, Int.reduceLE, Int.reduceEq, Int.reduceAdd, reduceCtorEq, encF]
    refine give fun _ => ?_
    simp -dsimp (disch := omega) only [↓wi, wo, wrap64, reduceIte, Nat.reduceEqDiff, Nat.reduceAdd, Nat.reduceLT, Nat.reduceLeDiff, Nat.reduceMul, Nat.reduceSub, Int.reduceToNat, Int.reduceLT, Int.reduceLE, Int.reduceEq, Int.reduceAdd, reduceCtorEq, len_strs]
    refine forkd (fun h => ?_) (fun h => ?_)
    · have hi' : i < f.enum.length := by omega
      rw [allI_at hi'] at hf
      simp -dsimp (disch := omega) only [↓wi, wo, wrap64, reduceIte, Nat.reduceEqDiff, Nat.reduceAdd, Nat.reduceLT, Nat.reduceLeDiff, Nat.reduceMul, Nat.reduceSub, Int.reduceToNat, Int.reduceLT, Int.reduceLE, Int.reduceEq, Int.reduceAdd, reduceCtorEq, len_strs]
      refine need (by omega) ?_
      simp -dsimp (disch := omega) only [↓wi, wo, wrap64, reduceIte, Nat.reduceEqDiff, Nat.reduceAdd, Nat.reduceLT, Nat.reduceLeDiff, Nat.reduceMul, Nat.reduceSub, Int.reduceToNat, Int.reduceLT, Int.reduceLE, Int.reduceEq, Int.reduceAdd, reduceCtorEq, getD_strs hi']
      refine forkd (fun h1 => ?_) (fun h1 => ?_)
      · simp -dsimp (disch := omega) only [↓wi, wo, wrap64, reduceIte, Nat.reduceEqDiff, Nat.reduceAdd, Nat.reduceLT, Nat.reduceLeDiff, Nat.reduceMul, Nat.reduceSub, Int.reduceToNat, Int.reduceLT, Int.reduceLE, Int.reduceEq, Int.reduceAdd, reduceCtorEq]
        refine retb rfl ?_
        rw [hf]
        grind [enumI]
      · simp -dsimp (disch := omega) only [↓wi, wo, wrap64, reduceIte, Nat.reduceEqDiff, Nat.reduceAdd, Nat.reduceLT, Nat.reduceLeDiff, Nat.reduceMul, Nat.reduceSub, Int.reduceToNat, Int.reduceLT, Int.reduceLE, Int.reduceEq, Int.reduceAdd, reduceCtorEq]
        have hin : enumI f.enum i f.enum[i] = !((f.enum.take i).any fun x => decide (f.enum[i] = x)) := by grind [enumI]
        refine AW_wk (Wk_live [1, 3, 4]) (AW_inv mixed (n := i) (fun n st => ∃ k : Nat, k + n = i ∧ ((f.enum.take i).any fun x => decide (f.enum[i] = x)) = (((f.enum.take i).drop k).any fun x => decide (f.enum[i] = x)) ∧ st = ⟨0, [(1, .ptr 0 0), (3, vi i), (4, vi k)], [.box ((encF f).map .c)]⟩) ⟨0, by omega, rfl, rfl⟩ ?_)
        rintro m _ ⟨k, hk, hg, rfl⟩
        simp -dsimp (disch := omega) only [↓wi, wo, wrap64, reduceIte, Nat.reduceEqDiff, Nat.reduceAdd, Nat.reduceLT, Nat.reduceLeDiff, Nat.reduceMul, Nat.reduceSub, Int.reduceToNat, Int.reduceLT, Int.reduceLE, Int.reduceEq, Int.reduceAdd, reduceCtorEq, encF]
        refine forkd (fun h2 => ?_) (fun h2 => ?_)
        · have hk' : k < f.enum.length := by omega
          have hk2 : k < (f.enum.take i).length := by rw [List.length_take]; omega
          rw [any_at hk2, List.getElem_take] at hg
          simp -dsimp (disch := omega) only [↓wi, wo, wrap64, reduceIte, Nat.reduceEqDiff, Nat.reduceAdd, Nat.reduceLT, Nat.reduceLeDiff, Nat.reduceMul, Nat.reduceSub, Int.reduceToNat, Int.reduceLT, Int.reduceLE, Int.reduceEq, Int.reduceAdd, reduceCtorEq]
          refine qv_need (by simp only [len_strs]; omega) ?_
          simp -dsimp (disch := omega) only [↓wi, wo, wrap64, reduceIte, Nat.reduceEqDiff, Nat.reduceAdd, Nat.reduceLT, Nat.reduceLeDiff, Nat.reduceMul, Nat.reduceSub, Int.reduceToNat, Int.reduceLT, Int.reduceLE, Int.reduceEq, Int.reduceAdd, reduceCtorEq, getD_strs hi', len_strs]
          refine qv_need (by omega) ?_
          simp -dsimp (disch := omega) only [↓wi, wo, wrap64, reduceIte, Nat.reduceEqDiff, Nat.reduceAdd, Nat.reduceLT, Nat.reduceLeDiff, Nat.reduceMul, Nat.reduceSub, Int.reduceToNat, Int.reduceLT, Int.reduceLE, Int.reduceEq, Int.reduceAdd, reduceCtorEq, getD_strs hk']
          refine forkd (fun h3 => ?_) (fun h3 => ?_)
          · simp -dsimp (disch := omega) only [↓wi, wo, wrap64, reduceIte, Nat.reduceEqDiff, Nat.reduceAdd, Nat.reduceLT, Nat.reduceLeDiff, Nat.reduceMul, Nat.reduceSub, Int.reduceToNat, Int.reduceLT, Int.reduceLE, Int.reduceEq, Int.reduceAdd, reduceCtorEq]
            refine retb rfl ?_
            rw [hf, hin, hg, decide_eq_true h3]; rfl
          · simp -dsimp (disch := omega) only [↓wi, wo, wrap64, reduceIte, Nat.reduceEqDiff, Nat.reduceAdd, Nat.reduceLT, Nat.reduceLeDiff, Nat.reduceMul, Nat.reduceSub, Int.reduceToNat, Int.reduceLT, Int.reduceLE, Int.reduceEq, Int.reduceAdd, reduceCtorEq]
            refine ⟨m - 1, _, by omega, Wk_live [1, 3, 4], k + 1, by omega, ?_, rfl⟩
            rw [hg, decide_eq_false h3]; rfl
        · simp -dsimp (disch := omega) only [↓wi, wo, wrap64, reduceIte, Nat.reduceEqDiff, Nat.reduceAdd, Nat.reduceLT, Nat.reduceLeDiff, Nat.reduceMul, Nat.reduceSub, Int.reduceToNat, Int.reduceLT, Int.reduceLE, Int.reduceEq, Int.reduceAdd, reduceCtorEq]
          refine ⟨n - 1, _, by omega, Wk_live [1, 3], i + 1, by omega, ?_, rfl⟩
          rw [hf, hin, hg, any_end (by rw [List.length_take]; omega)]; rfl
    · simp -dsimp (disch := omega) only [↓wi, wo, wrap64, reduceIte, Nat.reduceEqDiff, Nat.reduceAdd, Nat.reduceLT, Nat.reduceLeDiff, Nat.reduceMul, Nat.reduceSub, Int.reduceToNat, Int.reduceLT, Int.reduceLE, Int.reduceEq, Int.reduceAdd, reduceCtorEq]
      refine retb rfl ?_
      rw [hf, allI_end (by omega)]
end Go.Proofs.YtbnelpgogjbgjaaGreat.Q
/- Fields that are right. -/
set_option linter.unusedVariables false
set_option linter.unusedSimpArgs false
namespace Go.Proofs.YtbnelpgogjbgjaaGreat.Q
open Go.RowKit

theorem findI_ge {α : Type} {p : α → Bool} (l : List α) (k : Nat) : findI p k l = -1 ∨ (k : Int) ≤ findI p k l := by
  induction l generalizing k with
  | nil => exact .inl rfl
  | cons a l ih =>
    simp only [findI]
    by_cases h : p a = true
    · rw [if_pos h]; exact .inr (Int.le_refl _)
    · rw [if_neg h]
      rcases ih (k + 1) with e | e
      · exact .inl e
      · right; omega
theorem findI_take {α : Type} {p : α → Bool} (l : List α) (k i : Nat) (hi : i < l.length) (hp : p l[i] = true) : findI p k l = ((k + i : Nat) : Int) ↔ (l.take i).any p = false := by
  induction l generalizing k i with
  | nil => simp at hi
  | cons a l ih =>
    cases i with
    | zero => simp only [List.getElem_cons_zero] at hp; simp [findI, hp]
    | succ i =>
      simp only [List.getElem_cons_succ] at hp
      simp only [findI, List.take_succ_cons, List.any_cons]
      by_cases h : p a = true
      · simp only [h, if_true, Bool.true_or, Bool.true_eq_false, iff_false]; omega
      · simp only [h, Bool.false_eq_true, if_false, Bool.false_or]
        rw [← ih (k + 1) i (by simpa using hi) hp]
        rw [show k + 1 + i = k + (i + 1) from by omega]
theorem allI_congr {α : Type} {p q : Nat → α → Bool} {l : List α} (h : ∀ i (hi : i < l.length), p i l[i] = q i l[i]) : allI p 0 l = allI q 0 l := by
  rw [Bool.eq_iff_iff, allI_iff, allI_iff]
  constructor <;> intro hh i hi <;> have := hh i hi <;> rw [Nat.zero_add] at this ⊢
  · rw [← h i hi]; exact this
  · rw [h i hi]; exact this
theorem apart_enum (l : List ByteArray) : allI (enumI l) 0 l = (!(l.any fun s => decide (32 < (s.size : Int))) && apart l) := by
  have e1 : (!(l.any fun s => decide (32 < (s.size : Int)))) = allI (fun _ s => decide ((s.size : Int) ≤ 32)) 0 l := by
    rw [allI_all, List.not_any_eq_all_not]
    congr 1; funext s; grind
  rw [e1, apart, ← allI_and]
  refine allI_congr fun i hi => ?_
  have := findI_take (p := fun x => decide (l[i] = x)) l 0 i hi (by simp)
  rw [Nat.zero_add] at this
  simp only [enumI]
  congr 1
  rw [Bool.eq_iff_iff]
  simp only [Bool.not_eq_true', decide_eq_true_eq, this]
def goodFd (f : Fd) : Bool := enumR f && decide (fitsV f.init f = 0)
set_option maxHeartbeats 4000000 in
theorem p_goodField (f : Fd) : PC Tryz.prog 68 [ag (encF f)] (.ret (vb (goodFd f))) := by
  refine pc_of mixed F68 (by simp) ?_
  simp -dsimp (disch := omega) only [↓wi, wo, wrap64, reduceIte, Nat.reduceEqDiff, Nat.reduceAdd, Nat.reduceLT, Nat.reduceLeDiff, Nat.reduceMul, Nat.reduceSub, Int.reduceToNat, Int.reduceLT, Int.reduceLE, Int.reduceEq, Int.reduceAdd, reduceCtorEq, c68, enter, encF]
  refine calls_h B125 (h_containsT B126 fun x _ => (p_text32 x).ac rfl rfl) ?_
  repeat' first | (simp -dsimp (disch := omega) only [↓wi, wo, wrap64, reduceIte, Nat.reduceEqDiff, Nat.reduceAdd, Nat.reduceLT, Nat.reduceLeDiff, Nat.reduceMul, Nat.reduceSub, Int.reduceToNat, Int.reduceLT, Int.reduceLE, Int.reduceEq, Int.reduceAdd, reduceCtorEq, len_strs]) | (refine brd_y (by first | assumption | omega) ?_) | (refine brd_no (by first | assumption | omega) ?_) | (refine forkd (fun _ => ?_) (fun _ => ?_)) | (refine brs_y (by assumption) ?_) | (refine brs_n (by assumption) ?_) | (refine fork (fun _ => ?_) (fun _ => ?_)) | (refine need (by omega) ?_) | (refine qv_need (by omega) ?_) | (refine qv_give ?_) | (refine give fun _ => ?_) | (refine retb rfl ?_) | (refine reti rfl ?_) | (refine ret_p ?_) | (refine ret_ps rfl ?_) | (refine ret_pp rfl ?_) | (refine calls_b (p_apart f.enum) rfl (fun _ => ?_) (fun _ => ?_)) | (refine calls_p (p_apart f.enum) rfl rfl ?_) | (refine qv_b (p_apart f.enum) rfl rfl (fun _ => ?_) (fun _ => ?_)) | (refine qv_q (p_apart f.enum) rfl rfl rfl ?_) | (refine calls_b (p_fits f.init f) rfl (fun _ => ?_) (fun _ => ?_)) | (refine calls_p (p_fits f.init f) rfl rfl ?_) | (refine qv_b (p_fits f.init f) rfl rfl (fun _ => ?_) (fun _ => ?_)) | (refine qv_q (p_fits f.init f) rfl rfl rfl ?_)
  all_goals rw [goodFd, enumR, apart_enum]
  all_goals grind
def fieldI (c : Ctr) (i : Nat) (f : Fd) : Bool := named f.name && decide (findI (fun g => decide (g.name = f.name)) 0 c.fields = (i : Int)) && goodFd f
def fieldsOk (c : Ctr) : Bool := decide (c.fields.length ≤ 6) && allI (fieldI c) 0 c.fields
theorem fits_kind {f : Fd} (h : fitsV f.init f = 0) : 1 ≤ f.kind.1 ∧ f.kind.1 ≤ 4 := by
  have := goodV_iff f.init
  grind [fitsV]
set_option maxHeartbeats 4000000 in
theorem p_rfields (c : Ctr) : PC Tryz.prog 78 [ag (encC c)] (.ret (vb (fieldsOk c))) := by
  refine pc_of mixed F78 (by simp) ?_
  simp -dsimp (disch := omega) only [↓wi, wo, wrap64, reduceIte, Nat.reduceEqDiff, Nat.reduceAdd, Nat.reduceLT, Nat.reduceLeDiff, Nat.reduceMul, Nat.reduceSub, Int.reduceToNat, Int.reduceLT, Int.reduceLE, Int.reduceEq, Int.reduceAdd, reduceCtorEq, c78, enter, encC]
  repeat' first | (simp -dsimp (disch := omega) only [↓wi, wo, wrap64, reduceIte, Nat.reduceEqDiff, Nat.reduceAdd, Nat.reduceLT, Nat.reduceLeDiff, Nat.reduceMul, Nat.reduceSub, Int.reduceToNat, Int.reduceLT, Int.reduceLE, Int.reduceEq, Int.reduceAdd, reduceCtorEq]) | (refine brd_y (by first | assumption | omega) ?_) | (refine brd_no (by first | assumption | omega) ?_) | (refine forkd (fun _ => ?_) (fun _ => ?_)) | (refine brs_y (by assumption) ?_) | (refine brs_n (by assumption) ?_) | (refine fork (fun _ => ?_) (fun _ => ?_)) | (refine need (by omega) ?_) | (refine qv_need (by omega) ?_) | (refine qv_give ?_) | (refine give fun _ => ?_) | (refine retb rfl ?_) | (refine reti rfl ?_) | (refine ret_p ?_) | (refine ret_ps rfl ?_) | (refine ret_pp rfl ?_)
  · grind [fieldsOk]
  · have hen : fieldsOk c = allI (fieldI c) 0 c.fields := by grind [fieldsOk]
    refine AW_wk (Wk_cut [true] [1, 3] (by simp) (by simp)) (AW_inv mixed (n := c.fields.length) (fun n st => ∃ i : Nat, i + n = c.fields.length ∧ fieldsOk c = allI (fieldI c) i (c.fields.drop i) ∧ st = ⟨0, [(1, .ptr 0 0), (3, vi i)], [.box ((encC c).map .c)]⟩) ⟨0, by omega, hen, rfl⟩ ?_)
    rintro n _ ⟨i, hi, hf, rfl⟩
    simp -dsimp (disch := omega) only [↓wi, wo, wrap64, reduceIte, Nat.reduceEqDiff, Nat.reduceAdd, Nat.reduceLT, Nat.reduceLeDiff, Nat.reduceMul, Nat.reduceSub, Int.reduceToNat, Int.reduceLT, Int.reduceLE, Int.reduceEq, Int.reduceAdd, reduceCtorEq, encC]
    refine give fun _ => ?_
    simp -dsimp (disch := omega) only [↓wi, wo, wrap64, reduceIte, Nat.reduceEqDiff, Nat.reduceAdd, Nat.reduceLT, Nat.reduceLeDiff, Nat.reduceMul, Nat.reduceSub, Int.reduceToNat, Int.reduceLT, Int.reduceLE, Int.reduceEq, Int.reduceAdd, reduceCtorEq]
    refine forkd (fun h => ?_) (fun h => ?_)
    · have hi' : i < c.fields.length := by omega
      rw [allI_at hi'] at hf
      have hk := @fits_kind c.fields[i]
      simp -dsimp (disch := omega) only [↓wi, wo, wrap64, reduceIte, Nat.reduceEqDiff, Nat.reduceAdd, Nat.reduceLT, Nat.reduceLeDiff, Nat.reduceMul, Nat.reduceSub, Int.reduceToNat, Int.reduceLT, Int.reduceLE, Int.reduceEq, Int.reduceAdd, reduceCtorEq]
      refine need (by omega) ?_
      simp -dsimp (disch := omega) only [↓wi, wo, wrap64, reduceIte, Nat.reduceEqDiff, Nat.reduceAdd, Nat.reduceLT, Nat.reduceLeDiff, Nat.reduceMul, Nat.reduceSub, Int.reduceToNat, Int.reduceLT, Int.reduceLE, Int.reduceEq, Int.reduceAdd, reduceCtorEq, getD_map hi', encF]
      generalize c.fields[i] = f at hf hk
      repeat' first | (simp -dsimp (disch := omega) only [↓wi, wo, wrap64, reduceIte, Nat.reduceEqDiff, Nat.reduceAdd, Nat.reduceLT, Nat.reduceLeDiff, Nat.reduceMul, Nat.reduceSub, Int.reduceToNat, Int.reduceLT, Int.reduceLE, Int.reduceEq, Int.reduceAdd, reduceCtorEq]) | (refine brd_y (by first | assumption | omega) ?_) | (refine brd_no (by first | assumption | omega) ?_) | (refine forkd (fun _ => ?_) (fun _ => ?_)) | (refine brs_y (by assumption) ?_) | (refine brs_n (by assumption) ?_) | (refine fork (fun _ => ?_) (fun _ => ?_)) | (refine need (by omega) ?_) | (refine qv_need (by omega) ?_) | (refine qv_give ?_) | (refine give fun _ => ?_) | (refine retb rfl ?_) | (refine reti rfl ?_) | (refine ret_p ?_) | (refine ret_ps rfl ?_) | (refine ret_pp rfl ?_) | (refine calls_b (p_rname f.name) rfl (fun _ => ?_) (fun _ => ?_)) | (refine calls_p (p_rname f.name) rfl rfl ?_) | (refine qv_b (p_rname f.name) rfl rfl (fun _ => ?_) (fun _ => ?_)) | (refine qv_q (p_rname f.name) rfl rfl rfl ?_) | (refine calls_b (p_rField c f.name) rfl (fun _ => ?_) (fun _ => ?_)) | (refine calls_p (p_rField c f.name) rfl rfl ?_) | (refine qv_b (p_rField c f.name) rfl rfl (fun _ => ?_) (fun _ => ?_)) | (refine qv_q (p_rField c f.name) rfl rfl rfl ?_) | (refine calls_b (p_renum f) rfl (fun _ => ?_) (fun _ => ?_)) | (refine calls_p (p_renum f) rfl rfl ?_) | (refine qv_b (p_renum f) rfl rfl (fun _ => ?_) (fun _ => ?_)) | (refine qv_q (p_renum f) rfl rfl rfl ?_) | (refine calls_b (p_rfits f.init f) rfl (fun _ => ?_) (fun _ => ?_)) | (refine calls_p (p_rfits f.init f) rfl rfl ?_) | (refine qv_b (p_rfits f.init f) rfl rfl (fun _ => ?_) (fun _ => ?_)) | (refine qv_q (p_rfits f.init f) rfl rfl rfl ?_)
      all_goals first
        | (rw [hf]; grind [fieldI, goodFd]; done)
        | (refine ⟨n - 1, _, by omega, Wk_cut [true] [1, 3] (by simp) (by simp), i + 1, by omega, ?_, rfl⟩
           rw [hf]
           grind [fieldI, goodFd])
    · simp -dsimp (disch := omega) only [↓wi, wo, wrap64, reduceIte, Nat.reduceEqDiff, Nat.reduceAdd, Nat.reduceLT, Nat.reduceLeDiff, Nat.reduceMul, Nat.reduceSub, Int.reduceToNat, Int.reduceLT, Int.reduceLE, Int.reduceEq, Int.reduceAdd, reduceCtorEq]
      refine retb rfl ?_
      rw [hf, allI_end (by omega)]
end Go.Proofs.YtbnelpgogjbgjaaGreat.Q
/- Stages that are right. -/
set_option linter.unusedVariables false
set_option linter.unusedSimpArgs false
namespace Go.Proofs.YtbnelpgogjbgjaaGreat.Q
open Go.RowKit

def rise : Int → List I64 → Bool
  | _, [] => true
  | last, o :: os => decide (last < o.1) && decide (o.1 < 4) && rise o.1 os
theorem rise_at {l : List I64} {i : Nat} {last : Int} (h : i < l.length) : rise last (l.drop i) = (decide (last < l[i].1) && decide (l[i].1 < 4) && rise l[i].1 (l.drop (i + 1))) := by
  rw [List.drop_eq_getElem_cons h]; rfl
theorem rise_end {l : List I64} {i : Nat} {last : Int} (h : l.length ≤ i) : rise last (l.drop i) = true := by
  rw [List.drop_eq_nil_of_le h]; rfl
def goodStg (s : Stg) : Bool := decide (s.orgs.length ≤ 4) && decide (0 ≤ s.need.1) && decide (s.need.1 ≤ s.orgs.length) && rise (-1) s.orgs
set_option maxHeartbeats 4000000 in
theorem p_goodStage (s : Stg) : PC Tryz.prog 73 [ag (encS s)] (.ret (vb (goodStg s))) := by
  refine pc_of mixed F73 (by simp) ?_
  simp -dsimp (disch := omega) only [↓wi, wo, wrap64, reduceIte, Nat.reduceEqDiff, Nat.reduceAdd, Nat.reduceLT, Nat.reduceLeDiff, Nat.reduceMul, Nat.reduceSub, Int.reduceToNat, Int.reduceLT, Int.reduceLE, Int.reduceEq, Int.reduceAdd, reduceCtorEq, c73, enter, encS]
  repeat' first | (simp -dsimp (disch := omega) only [↓wi, wo, wrap64, reduceIte, Nat.reduceEqDiff, Nat.reduceAdd, Nat.reduceLT, Nat.reduceLeDiff, Nat.reduceMul, Nat.reduceSub, Int.reduceToNat, Int.reduceLT, Int.reduceLE, Int.reduceEq, Int.reduceAdd, reduceCtorEq, len_ints]) | (refine brd_y (by first | assumption | omega) ?_) | (refine brd_no (by first | assumption | omega) ?_) | (refine forkd (fun _ => ?_) (fun _ => ?_)) | (refine brs_y (by assumption) ?_) | (refine brs_n (by assumption) ?_) | (refine fork (fun _ => ?_) (fun _ => ?_)) | (refine need (by omega) ?_) | (refine qv_need (by omega) ?_) | (refine qv_give ?_) | (refine give fun _ => ?_) | (refine retb rfl ?_) | (refine reti rfl ?_) | (refine ret_p ?_) | (refine ret_ps rfl ?_) | (refine ret_pp rfl ?_)
  all_goals try grind [goodStg]
  have hen : goodStg s = rise (-1) s.orgs := by grind [goodStg]
  refine AW_wk (Wk_live [3, 24, 25, 26]) (AW_inv mixed (n := s.orgs.length) (fun n st => ∃ (i : Nat) (last : Int), i + n = s.orgs.length ∧ goodStg s = rise last (s.orgs.drop i) ∧ st = ⟨0, [(3, vi last), (24, .c (.sl 1 (ints s.orgs))), (25, vi s.orgs.length), (26, vi i)], [.box ((encS s).map .c)]⟩) ⟨0, -1, by omega, hen, rfl⟩ ?_)
  rintro n _ ⟨i, last, hi, hf, rfl⟩
  simp -dsimp (disch := omega) only [↓wi, wo, wrap64, reduceIte, Nat.reduceEqDiff, Nat.reduceAdd, Nat.reduceLT, Nat.reduceLeDiff, Nat.reduceMul, Nat.reduceSub, Int.reduceToNat, Int.reduceLT, Int.reduceLE, Int.reduceEq, Int.reduceAdd, reduceCtorEq]
  refine forkd (fun h => ?_) (fun h => ?_)
  · have hi' : i < s.orgs.length := by omega
    rw [rise_at hi'] at hf
    simp -dsimp (disch := omega) only [↓wi, wo, wrap64, reduceIte, Nat.reduceEqDiff, Nat.reduceAdd, Nat.reduceLT, Nat.reduceLeDiff, Nat.reduceMul, Nat.reduceSub, Int.reduceToNat, Int.reduceLT, Int.reduceLE, Int.reduceEq, Int.reduceAdd, reduceCtorEq, len_ints]
    refine need (by omega) ?_
    simp -dsimp (disch := omega) only [↓wi, wo, wrap64, reduceIte, Nat.reduceEqDiff, Nat.reduceAdd, Nat.reduceLT, Nat.reduceLeDiff, Nat.reduceMul, Nat.reduceSub, Int.reduceToNat, Int.reduceLT, Int.reduceLE, Int.reduceEq, Int.reduceAdd, reduceCtorEq, getD_ints hi']
    generalize s.orgs[i] = o at hf
    repeat' first | (simp -dsimp (disch := omega) only [↓wi, wo, wrap64, reduceIte, Nat.reduceEqDiff, Nat.reduceAdd, Nat.reduceLT, Nat.reduceLeDiff, Nat.reduceMul, Nat.reduceSub, Int.reduceToNat, Int.reduceLT, Int.reduceLE, Int.reduceEq, Int.reduceAdd, reduceCtorEq]) | (refine brd_y (by first | assumption | omega) ?_) | (refine brd_no (by first | assumption | omega) ?_) | (refine forkd (fun _ => ?_) (fun _ => ?_)) | (refine brs_y (by assumption) ?_) | (refine brs_n (by assumption) ?_) | (refine fork (fun _ => ?_) (fun _ => ?_)) | (refine need (by omega) ?_) | (refine qv_need (by omega) ?_) | (refine qv_give ?_) | (refine give fun _ => ?_) | (refine retb rfl ?_) | (refine reti rfl ?_) | (refine ret_p ?_) | (refine ret_ps rfl ?_) | (refine ret_pp rfl ?_)
    all_goals first
      | (rw [hf]; grind)
      | (refine ⟨n - 1, _, by omega, Wk_live [3, 24, 25, 26], i + 1, o.1, by omega, ?_, rfl⟩
         rw [hf]
         grind)
  · simp -dsimp (disch := omega) only [↓wi, wo, wrap64, reduceIte, Nat.reduceEqDiff, Nat.reduceAdd, Nat.reduceLT, Nat.reduceLeDiff, Nat.reduceMul, Nat.reduceSub, Int.reduceToNat, Int.reduceLT, Int.reduceLE, Int.reduceEq, Int.reduceAdd, reduceCtorEq]
    refine retb rfl ?_
    rw [hf, rise_end (by omega)]
def stageI (c : Ctr) (i : Nat) (s : Stg) : Bool := named s.name && decide (findI (fun g => decide (g.name = s.name)) 0 c.stages = (i : Int)) && goodStg s
def stagesOk (c : Ctr) : Bool := decide (1 ≤ c.stages.length) && decide (c.stages.length ≤ 6) && allI (stageI c) 0 c.stages
def prev (l : List I64) (k : Nat) : Int := if k = 0 then -1 else (l.getD (k - 1) zI).1
theorem prev_succ {l : List I64} {k : Nat} (h : k < l.length) : prev l (k + 1) = l[k].1 := by
  simp only [prev, Nat.succ_ne_zero, if_false, Nat.add_sub_cancel, getD_lt h]
set_option maxHeartbeats 4000000 in
theorem p_rstages (c : Ctr) : PC Tryz.prog 79 [ag (encC c)] (.ret (vb (stagesOk c))) := by
  refine pc_of mixed F79 (by simp) ?_
  simp -dsimp (disch := omega) only [↓wi, wo, wrap64, reduceIte, Nat.reduceEqDiff, Nat.reduceAdd, Nat.reduceLT, Nat.reduceLeDiff, Nat.reduceMul, Nat.reduceSub, Int.reduceToNat, Int.reduceLT, Int.reduceLE, Int.reduceEq, Int.reduceAdd, reduceCtorEq, c79, enter, encC]
  repeat' first | (simp -dsimp (disch := omega) only [↓wi, wo, wrap64, reduceIte, Nat.reduceEqDiff, Nat.reduceAdd, Nat.reduceLT, Nat.reduceLeDiff, Nat.reduceMul, Nat.reduceSub, Int.reduceToNat, Int.reduceLT, Int.reduceLE, Int.reduceEq, Int.reduceAdd, reduceCtorEq]) | (refine brd_y (by first | assumption | omega) ?_) | (refine brd_no (by first | assumption | omega) ?_) | (refine forkd (fun _ => ?_) (fun _ => ?_)) | (refine brs_y (by assumption) ?_) | (refine brs_n (by assumption) ?_) | (refine fork (fun _ => ?_) (fun _ => ?_)) | (refine need (by omega) ?_) | (refine qv_need (by omega) ?_) | (refine qv_give ?_) | (refine give fun _ => ?_) | (refine retb rfl ?_) | (refine reti rfl ?_) | (refine ret_p ?_) | (refine ret_ps rfl ?_) | (refine ret_pp rfl ?_)
  all_goals try grind [stagesOk]
  have hen : stagesOk c = allI (stageI c) 0 c.stages := by grind [stagesOk]
  refine AW_wk (Wk_cut [true] [1, 3] (by simp) (by simp)) (AW_inv mixed (n := c.stages.length) (fun n st => ∃ i : Nat, i + n = c.stages.length ∧ stagesOk c = allI (stageI c) i (c.stages.drop i) ∧ st = ⟨0, [(1, .ptr 0 0), (3, vi i)], [.box ((encC c).map .c)]⟩) ⟨0, by omega, hen, rfl⟩ ?_)
  rintro n _ ⟨i, hi, hf, rfl⟩
  simp -dsimp (disch := omega) only [↓wi, wo, wrap64, reduceIte, Nat.reduceEqDiff, Nat.reduceAdd, Nat.reduceLT, Nat.reduceLeDiff, Nat.reduceMul, Nat.reduceSub, Int.reduceToNat, Int.reduceLT, Int.reduceLE, Int.reduceEq, Int.reduceAdd, reduceCtorEq, encC]
  refine give fun _ => ?_
  simp -dsimp (disch := omega) only [↓wi, wo, wrap64, reduceIte, Nat.reduceEqDiff, Nat.reduceAdd, Nat.reduceLT, Nat.reduceLeDiff, Nat.reduceMul, Nat.reduceSub, Int.reduceToNat, Int.reduceLT, Int.reduceLE, Int.reduceEq, Int.reduceAdd, reduceCtorEq]
  refine forkd (fun h => ?_) (fun h => ?_)
  · have hi' : i < c.stages.length := by omega
    rw [allI_at hi'] at hf
    simp -dsimp (disch := omega) only [↓wi, wo, wrap64, reduceIte, Nat.reduceEqDiff, Nat.reduceAdd, Nat.reduceLT, Nat.reduceLeDiff, Nat.reduceMul, Nat.reduceSub, Int.reduceToNat, Int.reduceLT, Int.reduceLE, Int.reduceEq, Int.reduceAdd, reduceCtorEq]
    refine need (by omega) ?_
    simp -dsimp (disch := omega) only [↓wi, wo, wrap64, reduceIte, Nat.reduceEqDiff, Nat.reduceAdd, Nat.reduceLT, Nat.reduceLeDiff, Nat.reduceMul, Nat.reduceSub, Int.reduceToNat, Int.reduceLT, Int.reduceLE, Int.reduceEq, Int.reduceAdd, reduceCtorEq, getD_map hi', encS]
    generalize c.stages[i] = s at hf
    repeat' first | (simp -dsimp (disch := omega) only [↓wi, wo, wrap64, reduceIte, Nat.reduceEqDiff, Nat.reduceAdd, Nat.reduceLT, Nat.reduceLeDiff, Nat.reduceMul, Nat.reduceSub, Int.reduceToNat, Int.reduceLT, Int.reduceLE, Int.reduceEq, Int.reduceAdd, reduceCtorEq, len_ints]) | (refine brd_y (by first | assumption | omega) ?_) | (refine brd_no (by first | assumption | omega) ?_) | (refine forkd (fun _ => ?_) (fun _ => ?_)) | (refine brs_y (by assumption) ?_) | (refine brs_n (by assumption) ?_) | (refine fork (fun _ => ?_) (fun _ => ?_)) | (refine need (by omega) ?_) | (refine qv_need (by omega) ?_) | (refine qv_give ?_) | (refine give fun _ => ?_) | (refine retb rfl ?_) | (refine reti rfl ?_) | (refine ret_p ?_) | (refine ret_ps rfl ?_) | (refine ret_pp rfl ?_) | (refine calls_b (p_rname s.name) rfl (fun _ => ?_) (fun _ => ?_)) | (refine calls_p (p_rname s.name) rfl rfl ?_) | (refine qv_b (p_rname s.name) rfl rfl (fun _ => ?_) (fun _ => ?_)) | (refine qv_q (p_rname s.name) rfl rfl rfl ?_) | (refine calls_b (p_rStage c s.name) rfl (fun _ => ?_) (fun _ => ?_)) | (refine calls_p (p_rStage c s.name) rfl rfl ?_) | (refine qv_b (p_rStage c s.name) rfl rfl (fun _ => ?_) (fun _ => ?_)) | (refine qv_q (p_rStage c s.name) rfl rfl rfl ?_)
    all_goals try (rw [hf]; grind [stageI, goodStg])
    have hst : stageI c i s = rise (-1) s.orgs := by grind [stageI, goodStg]
    refine AW_wk (Wk_live [1, 3, 4, 5]) (AW_inv mixed (n := s.orgs.length) (fun m st => ∃ k : Nat, k + m = s.orgs.length ∧ -1 ≤ prev s.orgs k ∧ rise (-1) s.orgs = rise (prev s.orgs k) (s.orgs.drop k) ∧ st = ⟨0, [(1, .ptr 0 0), (3, vi i), (4, .ptr 1 0), (5, vi k)], [.box ((encC c).map .c), .box ((encS s).map .c)]⟩) ⟨0, by omega, by simp [prev], rfl, rfl⟩ ?_)
    rintro m _ ⟨k, hk, hp, hg, rfl⟩
    simp -dsimp (disch := omega) only [↓wi, wo, wrap64, reduceIte, Nat.reduceEqDiff, Nat.reduceAdd, Nat.reduceLT, Nat.reduceLeDiff, Nat.reduceMul, Nat.reduceSub, Int.reduceToNat, Int.reduceLT, Int.reduceLE, Int.reduceEq, Int.reduceAdd, reduceCtorEq, encC, encS]
    refine give fun _ => ?_
    simp -dsimp (disch := omega) only [↓wi, wo, wrap64, reduceIte, Nat.reduceEqDiff, Nat.reduceAdd, Nat.reduceLT, Nat.reduceLeDiff, Nat.reduceMul, Nat.reduceSub, Int.reduceToNat, Int.reduceLT, Int.reduceLE, Int.reduceEq, Int.reduceAdd, reduceCtorEq, len_ints]
    refine forkd (fun h2 => ?_) (fun h2 => ?_)
    · have hk' : k < s.orgs.length := by omega
      rw [rise_at hk'] at hg
      have hpk := prev_succ hk'
      have hp0 : k = 0 → prev s.orgs k = -1 := fun h => by rw [h]; rfl
      have hpk' : 0 < k → ∃ h : k - 1 < s.orgs.length, prev s.orgs k = s.orgs[k - 1].1 := fun h0 => ⟨by omega, by
        have := prev_succ (l := s.orgs) (k := k - 1) (by omega)
        rwa [show k - 1 + 1 = k from by omega] at this⟩
      simp -dsimp (disch := omega) only [↓wi, wo, wrap64, reduceIte, Nat.reduceEqDiff, Nat.reduceAdd, Nat.reduceLT, Nat.reduceLeDiff, Nat.reduceMul, Nat.reduceSub, Int.reduceToNat, Int.reduceLT, Int.reduceLE, Int.reduceEq, Int.reduceAdd, reduceCtorEq]
      refine qv_need (by simp only [len_ints]; omega) ?_
      simp -dsimp (disch := omega) only [↓wi, wo, wrap64, reduceIte, Nat.reduceEqDiff, Nat.reduceAdd, Nat.reduceLT, Nat.reduceLeDiff, Nat.reduceMul, Nat.reduceSub, Int.reduceToNat, Int.reduceLT, Int.reduceLE, Int.reduceEq, Int.reduceAdd, reduceCtorEq, getD_ints hk', len_ints]
      have e : ((k : Int) - 1).toNat = k - 1 := by omega
      repeat' first | (simp -dsimp (disch := omega) only [↓wi, wo, wrap64, reduceIte, Nat.reduceEqDiff, Nat.reduceAdd, Nat.reduceLT, Nat.reduceLeDiff, Nat.reduceMul, Nat.reduceSub, Int.reduceToNat, Int.reduceLT, Int.reduceLE, Int.reduceEq, Int.reduceAdd, reduceCtorEq, getD_ints, len_ints, e]) | (refine brd_y (by first | assumption | omega) ?_) | (refine brd_no (by first | assumption | omega) ?_) | (refine forkd (fun _ => ?_) (fun _ => ?_)) | (refine brs_y (by assumption) ?_) | (refine brs_n (by assumption) ?_) | (refine fork (fun _ => ?_) (fun _ => ?_)) | (refine need (by omega) ?_) | (refine qv_need (by omega) ?_) | (refine qv_give ?_) | (refine give fun _ => ?_) | (refine retb rfl ?_) | (refine reti rfl ?_) | (refine ret_p ?_) | (refine ret_ps rfl ?_) | (refine ret_pp rfl ?_)
      all_goals first
        | (rw [hf, hst, hg]; grind; done)
        | (refine ⟨m - 1, _, by omega, Wk_live [1, 3, 4, 5], k + 1, by omega, by rw [hpk]; omega, ?_, rfl⟩
           rw [hg, hpk]
           grind)
    · simp -dsimp (disch := omega) only [↓wi, wo, wrap64, reduceIte, Nat.reduceEqDiff, Nat.reduceAdd, Nat.reduceLT, Nat.reduceLeDiff, Nat.reduceMul, Nat.reduceSub, Int.reduceToNat, Int.reduceLT, Int.reduceLE, Int.reduceEq, Int.reduceAdd, reduceCtorEq]
      refine ⟨n - 1, _, by omega, Wk_cut [true] [1, 3] (by simp) (by simp), i + 1, by omega, ?_, rfl⟩
      rw [hf, hst, hg, rise_end (by omega)]; rfl
  · simp -dsimp (disch := omega) only [↓wi, wo, wrap64, reduceIte, Nat.reduceEqDiff, Nat.reduceAdd, Nat.reduceLT, Nat.reduceLeDiff, Nat.reduceMul, Nat.reduceSub, Int.reduceToNat, Int.reduceLT, Int.reduceLE, Int.reduceEq, Int.reduceAdd, reduceCtorEq]
    refine retb rfl ?_
    rw [hf, allI_end (by omega)]
end Go.Proofs.YtbnelpgogjbgjaaGreat.Q
/- Expressions: small ones; what an operation has; names. -/
set_option linter.unusedVariables false
set_option linter.unusedSimpArgs false
namespace Go.Proofs.YtbnelpgogjbgjaaGreat.Q
open Go.RowKit

theorem Ex.ind {motive : Ex → Prop} (h : ∀ e : Ex, (∀ k ∈ e.kids, motive k) → motive e) (e : Ex) : motive e := by
  have : ∀ (n : Nat) (e : Ex), SizeOf.sizeOf e ≤ n → motive e := by
    intro n
    induction n with
    | zero => intro e he; cases e; simp at he
    | succ n ih =>
      intro e he
      refine h e fun k hk => ih k ?_
      cases e with
      | mk o ks nm v =>
        have := List.sizeOf_lt_of_mem hk
        simp only [Ex.kids] at this
        simp only [Ex.mk.sizeOf_spec] at he
        omega
  exact this _ e (Nat.le_refl _)
def arityE (op : Int) : Int := if op = 1 ∨ op = 2 then 0 else if op = 3 ∨ op = 12 ∨ op = 16 then 1 else if op = 13 then 3 else if 4 ≤ op ∧ op ≤ 16 then 2 else -1
set_option maxHeartbeats 4000000 in
theorem p_arity (n : Int) : PC Tryz.prog 136 [vi n] (.ret (vi (arityE n))) := by
  refine pc_of mixed F136 (by simp) ?_
  simp -dsimp (disch := omega) only [↓wi, wo, wrap64, reduceIte, Nat.reduceEqDiff, Nat.reduceAdd, Nat.reduceLT, Nat.reduceLeDiff, Nat.reduceMul, Nat.reduceSub, Int.reduceToNat, Int.reduceLT, Int.reduceLE, Int.reduceEq, Int.reduceAdd, reduceCtorEq, c136, enter]
  repeat' first | (simp -dsimp (disch := omega) only [↓wi, wo, wrap64, reduceIte, Nat.reduceEqDiff, Nat.reduceAdd, Nat.reduceLT, Nat.reduceLeDiff, Nat.reduceMul, Nat.reduceSub, Int.reduceToNat, Int.reduceLT, Int.reduceLE, Int.reduceEq, Int.reduceAdd, reduceCtorEq]) | (refine brd_y (by first | assumption | omega) ?_) | (refine brd_no (by first | assumption | omega) ?_) | (refine forkd (fun _ => ?_) (fun _ => ?_)) | (refine brs_y (by assumption) ?_) | (refine brs_n (by assumption) ?_) | (refine fork (fun _ => ?_) (fun _ => ?_)) | (refine need (by omega) ?_) | (refine qv_need (by omega) ?_) | (refine qv_give ?_) | (refine give fun _ => ?_) | (refine retb rfl ?_) | (refine reti rfl ?_) | (refine ret_p ?_) | (refine ret_ps rfl ?_) | (refine ret_pp rfl ?_)
  all_goals grind [arityE]
set_option maxHeartbeats 4000000 in
theorem p_rkids (n : Int) : PC Tryz.prog 231 [vi n] (.ret (vi (arityE n))) := by
  refine pc_of mixed F231 (by simp) ?_
  simp -dsimp (disch := omega) only [↓wi, wo, wrap64, reduceIte, Nat.reduceEqDiff, Nat.reduceAdd, Nat.reduceLT, Nat.reduceLeDiff, Nat.reduceMul, Nat.reduceSub, Int.reduceToNat, Int.reduceLT, Int.reduceLE, Int.reduceEq, Int.reduceAdd, reduceCtorEq, c231, enter]
  repeat' first | (simp -dsimp (disch := omega) only [↓wi, wo, wrap64, reduceIte, Nat.reduceEqDiff, Nat.reduceAdd, Nat.reduceLT, Nat.reduceLeDiff, Nat.reduceMul, Nat.reduceSub, Int.reduceToNat, Int.reduceLT, Int.reduceLE, Int.reduceEq, Int.reduceAdd, reduceCtorEq]) | (refine brd_y (by first | assumption | omega) ?_) | (refine brd_no (by first | assumption | omega) ?_) | (refine forkd (fun _ => ?_) (fun _ => ?_)) | (refine brs_y (by assumption) ?_) | (refine brs_n (by assumption) ?_) | (refine fork (fun _ => ?_) (fun _ => ?_)) | (refine need (by omega) ?_) | (refine qv_need (by omega) ?_) | (refine qv_give ?_) | (refine give fun _ => ?_) | (refine retb rfl ?_) | (refine reti rfl ?_) | (refine ret_p ?_) | (refine ret_ps rfl ?_) | (refine ret_pp rfl ?_)
  all_goals grind [arityE]
def numericE (n : Int) : Bool := decide (n = 1) || decide (n = 4)
theorem p_numeric (n : Int) : PC Tryz.prog 139 [vi n] (.ret (vb (numericE n))) := by
  refine pc_of mixed F139 (by simp) ?_
  simp -dsimp (disch := omega) only [↓wi, wo, wrap64, reduceIte, Nat.reduceEqDiff, Nat.reduceAdd, Nat.reduceLT, Nat.reduceLeDiff, Nat.reduceMul, Nat.reduceSub, Int.reduceToNat, Int.reduceLT, Int.reduceLE, Int.reduceEq, Int.reduceAdd, reduceCtorEq, c139, enter]
  repeat' first | (simp -dsimp (disch := omega) only [↓wi, wo, wrap64, reduceIte, Nat.reduceEqDiff, Nat.reduceAdd, Nat.reduceLT, Nat.reduceLeDiff, Nat.reduceMul, Nat.reduceSub, Int.reduceToNat, Int.reduceLT, Int.reduceLE, Int.reduceEq, Int.reduceAdd, reduceCtorEq]) | (refine brd_y (by first | assumption | omega) ?_) | (refine brd_no (by first | assumption | omega) ?_) | (refine forkd (fun _ => ?_) (fun _ => ?_)) | (refine brs_y (by assumption) ?_) | (refine brs_n (by assumption) ?_) | (refine fork (fun _ => ?_) (fun _ => ?_)) | (refine need (by omega) ?_) | (refine qv_need (by omega) ?_) | (refine qv_give ?_) | (refine give fun _ => ?_) | (refine retb rfl ?_) | (refine reti rfl ?_) | (refine ret_p ?_) | (refine ret_ps rfl ?_) | (refine ret_pp rfl ?_)
  all_goals grind [numericE]
theorem p_must (e : Int) : PC Tryz.prog 84 [vb true, vi e] (.ret (.tup [])) := by
  refine pc_of mixed F84 (by simp) ?_
  simp -dsimp (disch := omega) only [↓wi, wo, wrap64, reduceIte, Nat.reduceEqDiff, Nat.reduceAdd, Nat.reduceLT, Nat.reduceLeDiff, Nat.reduceMul, Nat.reduceSub, Int.reduceToNat, Int.reduceLT, Int.reduceLE, Int.reduceEq, Int.reduceAdd, reduceCtorEq, c84, enter]
  exact ret_n [] rfl (by simp) (by simp) ⟨rfl, rfl⟩
def badP (e : Int) : Value := .iface 166 (.int .i64 e)
theorem p_must_no (e : Int) : PC Tryz.prog 84 [vb false, vi e] (.pan (badP e)) := by
  refine pc_of mixed F84 (by simp) ?_
  simp -dsimp (disch := omega) only [↓wi, wo, wrap64, reduceIte, Nat.reduceEqDiff, Nat.reduceAdd, Nat.reduceLT, Nat.reduceLeDiff, Nat.reduceMul, Nat.reduceSub, Int.reduceToNat, Int.reduceLT, Int.reduceLE, Int.reduceEq, Int.reduceAdd, reduceCtorEq, c84, enter]
  exact ret_pp rfl rfl
theorem p_rfield (name : ByteArray) (l : List Fd) : PC Tryz.prog 232 [vs name, .c (.sl 8 (l.map encF))] (.ret (vi (findI (fun f => decide (f.name = name)) 0 l))) := by
  refine pc_of mixed F232 (by simp) ?_
  simp -dsimp (disch := omega) only [↓wi, wo, wrap64, reduceIte, Nat.reduceEqDiff, Nat.reduceAdd, Nat.reduceLT, Nat.reduceLeDiff, Nat.reduceMul, Nat.reduceSub, Int.reduceToNat, Int.reduceLT, Int.reduceLE, Int.reduceEq, Int.reduceAdd, reduceCtorEq, c232, enter]
  refine AW_wk (Wk_live [0, 1, 5]) (AW_inv mixed (n := l.length) (fun n st => ∃ i : Nat, i + n = l.length ∧ findI (fun f => decide (f.name = name)) 0 l = findI (fun f => decide (f.name = name)) i (l.drop i) ∧ st = ⟨0, [(0, vs name), (1, .c (.sl 8 (l.map encF))), (5, vi i)], []⟩) ⟨0, by omega, rfl, rfl⟩ ?_)
  rintro n _ ⟨i, hi, hf, rfl⟩
  simp -dsimp (disch := omega) only [↓wi, wo, wrap64, reduceIte, Nat.reduceEqDiff, Nat.reduceAdd, Nat.reduceLT, Nat.reduceLeDiff, Nat.reduceMul, Nat.reduceSub, Int.reduceToNat, Int.reduceLT, Int.reduceLE, Int.reduceEq, Int.reduceAdd, reduceCtorEq]
  refine give fun hlen => ?_
  simp -dsimp (disch := omega) only [↓wi, wo, wrap64, reduceIte, Nat.reduceEqDiff, Nat.reduceAdd, Nat.reduceLT, Nat.reduceLeDiff, Nat.reduceMul, Nat.reduceSub, Int.reduceToNat, Int.reduceLT, Int.reduceLE, Int.reduceEq, Int.reduceAdd, reduceCtorEq]
  refine forkd (fun h => ?_) (fun h => ?_)
  · have hi' : i < l.length := by omega
    rw [findI_at hi'] at hf
    simp -dsimp (disch := omega) only [↓wi, wo, wrap64, reduceIte, Nat.reduceEqDiff, Nat.reduceAdd, Nat.reduceLT, Nat.reduceLeDiff, Nat.reduceMul, Nat.reduceSub, Int.reduceToNat, Int.reduceLT, Int.reduceLE, Int.reduceEq, Int.reduceAdd, reduceCtorEq]
    refine need (by omega) ?_
    simp -dsimp (disch := omega) only [↓wi, wo, wrap64, reduceIte, Nat.reduceEqDiff, Nat.reduceAdd, Nat.reduceLT, Nat.reduceLeDiff, Nat.reduceMul, Nat.reduceSub, Int.reduceToNat, Int.reduceLT, Int.reduceLE, Int.reduceEq, Int.reduceAdd, reduceCtorEq, getD_map hi', encF]
    refine forkd (fun h1 => ?_) (fun h1 => ?_)
    · simp -dsimp (disch := omega) only [↓wi, wo, wrap64, reduceIte, Nat.reduceEqDiff, Nat.reduceAdd, Nat.reduceLT, Nat.reduceLeDiff, Nat.reduceMul, Nat.reduceSub, Int.reduceToNat, Int.reduceLT, Int.reduceLE, Int.reduceEq, Int.reduceAdd, reduceCtorEq]
      refine reti rfl ?_
      rw [hf, decide_eq_true h1]; rfl
    · simp -dsimp (disch := omega) only [↓wi, wo, wrap64, reduceIte, Nat.reduceEqDiff, Nat.reduceAdd, Nat.reduceLT, Nat.reduceLeDiff, Nat.reduceMul, Nat.reduceSub, Int.reduceToNat, Int.reduceLT, Int.reduceLE, Int.reduceEq, Int.reduceAdd, reduceCtorEq]
      refine ⟨n - 1, _, by omega, Wk_live [0, 1, 5], i + 1, by omega, ?_, rfl⟩
      rw [hf, decide_eq_false h1]; rfl
  · simp -dsimp (disch := omega) only [↓wi, wo, wrap64, reduceIte, Nat.reduceEqDiff, Nat.reduceAdd, Nat.reduceLT, Nat.reduceLeDiff, Nat.reduceMul, Nat.reduceSub, Int.reduceToNat, Int.reduceLT, Int.reduceLE, Int.reduceEq, Int.reduceAdd, reduceCtorEq]
    refine reti rfl ?_
    rw [hf, findI_end (by omega)]
theorem p_findc (x : Fd) (name : ByteArray) : ACalls Tryz.prog 191 [ag (encF x), .ptr 0 0] [.box [vs name]] fun o H1 => o = .ret (vb (decide (x.name = name))) ∧ H1 = [.box [vs name]] := by
  refine ac_of mixed F191 (by simp) ?_
  simp -dsimp (disch := omega) only [↓wi, wo, wrap64, reduceIte, Nat.reduceEqDiff, Nat.reduceAdd, Nat.reduceLT, Nat.reduceLeDiff, Nat.reduceMul, Nat.reduceSub, Int.reduceToNat, Int.reduceLT, Int.reduceLE, Int.reduceEq, Int.reduceAdd, reduceCtorEq, c191, enter, encF]
  refine forkd (fun h => ?_) (fun h => ?_)
  · simp -dsimp (disch := omega) only [↓wi, wo, wrap64, reduceIte, Nat.reduceEqDiff, Nat.reduceAdd, Nat.reduceLT, Nat.reduceLeDiff, Nat.reduceMul, Nat.reduceSub, Int.reduceToNat, Int.reduceLT, Int.reduceLE, Int.reduceEq, Int.reduceAdd, reduceCtorEq]
    refine ret_i [true] rfl (by simp) (by simp) ⟨?_, rfl⟩
    rw [decide_eq_true h]; rfl
  · simp -dsimp (disch := omega) only [↓wi, wo, wrap64, reduceIte, Nat.reduceEqDiff, Nat.reduceAdd, Nat.reduceLT, Nat.reduceLeDiff, Nat.reduceMul, Nat.reduceSub, Int.reduceToNat, Int.reduceLT, Int.reduceLE, Int.reduceEq, Int.reduceAdd, reduceCtorEq]
    refine ret_i [true] rfl (by simp) (by simp) ⟨?_, rfl⟩
    rw [decide_eq_false h]; rfl
end Go.Proofs.YtbnelpgogjbgjaaGreat.Q
