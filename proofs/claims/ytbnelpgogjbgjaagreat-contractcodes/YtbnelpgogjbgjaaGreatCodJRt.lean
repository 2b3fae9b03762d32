/- Moves that are right: the document's. -/
import Derived.Test.YtbnelpgogjbgjaaGreatCodJRo
import Derived.Test.YtbnelpgogjbgjaaGreatCodJRn
/- Moves that are right: the document's. -/
set_option linter.unusedVariables false
set_option linter.unusedSimpArgs false
namespace Go.Proofs.YtbnelpgogjbgjaaGreat.Q
open Go.RowKit

def rmoveI (c : Ctr) (l : List Eff) (i : Nat) (x : Eff) : Bool := effOk c x && !((l.take i).any fun y => decide (y.field = x.field))
theorem allI_map {α β : Type} {p : Nat → β → Bool} {f : α → β} (l : List α) (i : Nat) : allI p i (l.map f) = allI (fun i a => p i (f a)) i l := by
  induction l generalizing i with
  | nil => rfl
  | cons a l ih => simp only [List.map_cons, allI, ih]
theorem apart_take {α : Type} {f : α → ByteArray} (l : List α) : apart (l.map f) = allI (fun i x => !((l.take i).any fun y => decide (f y = f x))) 0 l := by
  rw [apart, allI_map]
  refine allI_congr fun i hi => ?_
  have h := findI_take (p := fun x => decide (f l[i] = x)) (l.map f) 0 i (by simpa using hi) (by simp)
  rw [Nat.zero_add, ← List.map_take, List.any_map] at h
  have e : (l.take i).any ((fun x => decide (f l[i] = x)) ∘ f) = (l.take i).any fun y => decide (f y = f l[i]) := by
    congr 1; funext y; simp [eq_comm]
  rw [e] at h
  rw [Bool.eq_iff_iff]
  simp only [Bool.not_eq_true', decide_eq_true_eq, h]
theorem goodMv_eq (c : Ctr) (m : Mov) : goodMv c m = (headOk c m && allI (rmoveI c m.effects) 0 m.effects) := by
  unfold goodMv
  rw [apart_take, ← allI_all m.effects 0, ← allI_and]
  rfl
set_option maxHeartbeats 8000000 in
theorem p_rmove (c : Ctr) (m : Mov) : PC Tryz.prog 81 [ag (encC c), ag (encM m)] (.ret (vb (goodMv c m))) := by
  refine pc_of mixed F81 (by simp) ?_
  simp -dsimp (disch := omega) only [↓wi, wo, wrap64, reduceIte, Nat.reduceEqDiff, Nat.reduceAdd, Nat.reduceLT, Nat.reduceLeDiff, Nat.reduceMul, Nat.reduceSub, Int.reduceToNat, Int.reduceLT, Int.reduceLE, Int.reduceEq, Int.reduceAdd, reduceCtorEq, c81, enter, encC, encM]
  have hg := p_rCheck c.fields m.guard
  rw [encE_ m.guard] at hg
  repeat' first | (simp -dsimp (disch := omega) only [↓wi, wo, wrap64, reduceIte, Nat.reduceEqDiff, Nat.reduceAdd, Nat.reduceLT, Nat.reduceLeDiff, Nat.reduceMul, Nat.reduceSub, Int.reduceToNat, Int.reduceLT, Int.reduceLE, Int.reduceEq, Int.reduceAdd, reduceCtorEq, encC, out2]) | (refine brd_y (by first | assumption | omega) ?_) | (refine brd_no (by first | assumption | omega) ?_) | (refine forkd (fun _ => ?_) (fun _ => ?_)) | (refine brs_y (by assumption) ?_) | (refine brs_n (by assumption) ?_) | (refine fork (fun _ => ?_) (fun _ => ?_)) | (refine need (by omega) ?_) | (refine qv_need (by omega) ?_) | (refine qv_give ?_) | (refine give fun _ => ?_) | (refine retb rfl ?_) | (refine reti rfl ?_) | (refine ret_p ?_) | (refine ret_ps rfl ?_) | (refine ret_pp rfl ?_) | (refine calls_b (hg) rfl (fun _ => ?_) (fun _ => ?_)) | (refine calls_p (hg) rfl rfl ?_) | (refine qv_b (hg) rfl rfl (fun _ => ?_) (fun _ => ?_)) | (refine qv_q (hg) rfl rfl rfl ?_)
  all_goals try (simp_all [goodMv, headOk, isE]; done)
  all_goals try (simp_all [goodMv, headOk, isE]; omega)
  have hen : goodMv c m = allI (rmoveI c m.effects) 0 m.effects := by
    have : headOk c m = true := by simp_all [headOk, isE]; omega
    rw [goodMv_eq, this, Bool.true_and]
  have hlen : m.effects.length ≤ 4 := by omega
  refine AW_wk (Wk_live [2, 3, 7]) (AW_inv mixed (n := m.effects.length) (fun n st => ∃ (i : Nat), i + n = m.effects.length ∧ goodMv c m = allI (rmoveI c m.effects) i (m.effects.drop i) ∧ st = ⟨0, [(2, .ptr 0 0), (3, .ptr 1 0), (7, vi i)], [.box ((encC c).map .c), .box ((encM m).map .c)]⟩) ⟨0, by omega, by simpa using hen, rfl⟩ ?_)
  clear hen hg
  rintro n _ ⟨i, hi, hf, rfl⟩
  simp -dsimp (disch := omega) only [↓wi, wo, wrap64, reduceIte, Nat.reduceEqDiff, Nat.reduceAdd, Nat.reduceLT, Nat.reduceLeDiff, Nat.reduceMul, Nat.reduceSub, Int.reduceToNat, Int.reduceLT, Int.reduceLE, Int.reduceEq, Int.reduceAdd, reduceCtorEq, encC, encM]
  refine give fun _ => ?_
  simp -dsimp (disch := omega) only [↓wi, wo, wrap64, reduceIte, Nat.reduceEqDiff, Nat.reduceAdd, Nat.reduceLT, Nat.reduceLeDiff, Nat.reduceMul, Nat.reduceSub, Int.reduceToNat, Int.reduceLT, Int.reduceLE, Int.reduceEq, Int.reduceAdd, reduceCtorEq]
  refine forkd (fun h => ?_) (fun h => ?_)
  · have hi' : i < m.effects.length := by omega
    rw [allI_at hi'] at hf
    have hgd := getD_map (f := encX) hi'
    simp -dsimp (disch := omega) only [↓wi, wo, wrap64, reduceIte, Nat.reduceEqDiff, Nat.reduceAdd, Nat.reduceLT, Nat.reduceLeDiff, Nat.reduceMul, Nat.reduceSub, Int.reduceToNat, Int.reduceLT, Int.reduceLE, Int.reduceEq, Int.reduceAdd, reduceCtorEq]
    refine qv_need (by simp; omega) ?_
    simp -dsimp (disch := omega) only [↓wi, wo, wrap64, reduceIte, Nat.reduceEqDiff, Nat.reduceAdd, Nat.reduceLT, Nat.reduceLeDiff, Nat.reduceMul, Nat.reduceSub, Int.reduceToNat, Int.reduceLT, Int.reduceLE, Int.reduceEq, Int.reduceAdd, reduceCtorEq, getD_map hi', encX, encE_]
    have hR : rmoveI c m.effects i m.effects[i] = (effOk c m.effects[i] && !((m.effects.take i).any fun y => decide (y.field = m.effects[i].field))) := rfl
    generalize hx : m.effects[i] = x at hf hR hgd
    have hfl := fieldAt_lt c x.field
    have hk : PC Tryz.prog _ _ _ := p_rCheck c.fields x.expr
    rw [encE_ x.expr] at hk
    have hF : PC Tryz.prog 130 [ag (encC c), vs x.field] (.ret (vi (fieldAt c x.field))) := p_rField c x.field
    have hnd : ((m.effects.map encX).length) = m.effects.length := List.length_map _
    repeat' first | (simp -dsimp (disch := omega) only [↓wi, wo, wrap64, reduceIte, Nat.reduceEqDiff, Nat.reduceAdd, Nat.reduceLT, Nat.reduceLeDiff, Nat.reduceMul, Nat.reduceSub, Int.reduceToNat, Int.reduceLT, Int.reduceLE, Int.reduceEq, Int.reduceAdd, reduceCtorEq, encC, encM, encF, hgd, encX, encE_, getD_mapD (f := encF), out2, hnd]) | (refine brd_y (by first | assumption | omega) ?_) | (refine brd_no (by first | assumption | omega) ?_) | (refine forkd (fun _ => ?_) (fun _ => ?_)) | (refine brs_y (by assumption) ?_) | (refine brs_n (by assumption) ?_) | (refine fork (fun _ => ?_) (fun _ => ?_)) | (refine need (by omega) ?_) | (refine qv_need (by omega) ?_) | (refine qv_give ?_) | (refine give fun _ => ?_) | (refine retb rfl ?_) | (refine reti rfl ?_) | (refine ret_p ?_) | (refine ret_ps rfl ?_) | (refine ret_pp rfl ?_) | (refine calls_b (hF) rfl (fun _ => ?_) (fun _ => ?_)) | (refine calls_p (hF) rfl rfl ?_) | (refine qv_b (hF) rfl rfl (fun _ => ?_) (fun _ => ?_)) | (refine qv_q (hF) rfl rfl rfl ?_) | (refine calls_b (hk) rfl (fun _ => ?_) (fun _ => ?_)) | (refine calls_p (hk) rfl rfl ?_) | (refine qv_b (hk) rfl rfl (fun _ => ?_) (fun _ => ?_)) | (refine qv_q (hk) rfl rfl rfl ?_)
    all_goals try (rw [hf, hR, effOk, isE]; simp only [*, decide_true, decide_false, Bool.false_and, Bool.and_false, Bool.true_and, Bool.not_true]; done)
    all_goals try (rw [hf, hR, effOk, decide_eq_false (by omega)]; rfl)
    have he : effOk c x = true := by
      rw [effOk, isE, decide_eq_true (by omega : 0 ≤ fieldAt c x.field), decide_eq_true (by assumption), decide_eq_true (by assumption)]; rfl
    rw [he, Bool.true_and] at hR
    refine AW_wk (Wk_live [2, 3, 7, 11]) (AW_inv mixed (n := i) (fun p st => ∃ (k : Nat), k + p = i ∧ ((m.effects.take i).any fun y => decide (y.field = x.field)) = (((m.effects.take i).drop k).any fun y => decide (y.field = x.field)) ∧ st = ⟨0, [(2, .ptr 0 0), (3, .ptr 1 0), (7, vi i), (11, vi k)], [.box ((encC c).map .c), .box ((encM m).map .c)]⟩) ⟨0, by omega, rfl, rfl⟩ ?_)
    rintro p _ ⟨k, hk', hg, rfl⟩
    simp -dsimp (disch := omega) only [↓wi, wo, wrap64, reduceIte, Nat.reduceEqDiff, Nat.reduceAdd, Nat.reduceLT, Nat.reduceLeDiff, Nat.reduceMul, Nat.reduceSub, Int.reduceToNat, Int.reduceLT, Int.reduceLE, Int.reduceEq, Int.reduceAdd, reduceCtorEq, encC, encM]
    refine forkd (fun h2 => ?_) (fun h2 => ?_)
    · have hk2 : k < m.effects.length := by omega
      have hk3 : k < (m.effects.take i).length := by rw [List.length_take]; omega
      have hkd := getD_map (f := encX) hk2
      rw [any_at hk3, List.getElem_take] at hg
      generalize hy : m.effects[k] = y at hkd hg
      repeat' first | (simp -dsimp (disch := omega) only [↓wi, wo, wrap64, reduceIte, Nat.reduceEqDiff, Nat.reduceAdd, Nat.reduceLT, Nat.reduceLeDiff, Nat.reduceMul, Nat.reduceSub, Int.reduceToNat, Int.reduceLT, Int.reduceLE, Int.reduceEq, Int.reduceAdd, reduceCtorEq, hgd, hkd, encX, hnd]) | (refine brd_y (by first | assumption | omega) ?_) | (refine brd_no (by first | assumption | omega) ?_) | (refine forkd (fun _ => ?_) (fun _ => ?_)) | (refine brs_y (by assumption) ?_) | (refine brs_n (by assumption) ?_) | (refine fork (fun _ => ?_) (fun _ => ?_)) | (refine need (by omega) ?_) | (refine qv_need (by omega) ?_) | (refine qv_give ?_) | (refine give fun _ => ?_) | (refine retb rfl ?_) | (refine reti rfl ?_) | (refine ret_p ?_) | (refine ret_ps rfl ?_) | (refine ret_pp rfl ?_)
      · rename_i h3
        rw [hf, hR, hg, decide_eq_true h3]; rfl
      · rename_i h3
        refine ⟨p - 1, _, by omega, Wk_live [2, 3, 7, 11], k + 1, by omega, ?_, rfl⟩
        rw [hg, decide_eq_false h3]; rfl
    · simp -dsimp (disch := omega) only [↓wi, wo, wrap64, reduceIte, Nat.reduceEqDiff, Nat.reduceAdd, Nat.reduceLT, Nat.reduceLeDiff, Nat.reduceMul, Nat.reduceSub, Int.reduceToNat, Int.reduceLT, Int.reduceLE, Int.reduceEq, Int.reduceAdd, reduceCtorEq]
      refine ⟨n - 1, _, by omega, Wk_live [2, 3, 7], i + 1, by omega, ?_, rfl⟩
      rw [hf, hR, hg, any_end (by rw [List.length_take]; omega)]; rfl
  · simp -dsimp (disch := omega) only [↓wi, wo, wrap64, reduceIte, Nat.reduceEqDiff, Nat.reduceAdd, Nat.reduceLT, Nat.reduceLeDiff, Nat.reduceMul, Nat.reduceSub, Int.reduceToNat, Int.reduceLT, Int.reduceLE, Int.reduceEq, Int.reduceAdd, reduceCtorEq]
    refine retb rfl ?_
    rw [hf, allI_end (by omega)]
end Go.Proofs.YtbnelpgogjbgjaaGreat.Q
/- Contracts that are right. -/
set_option linter.unusedVariables false
set_option linter.unusedSimpArgs false
namespace Go.Proofs.YtbnelpgogjbgjaaGreat.Q
open Go.RowKit

theorem p_Check1 (c : Ctr) (m : Mov) : ACalls Tryz.prog 61 [ag (encM m), .ptr 0 0] [.box ((encC c).map .c)] fun o H1 => o = .ret (vb (!goodMv c m)) ∧ H1 = [.box ((encC c).map .c)] := by
  refine ac_of mixed F61 (by simp) ?_
  simp -dsimp (disch := omega) only [↓wi, wo, wrap64, reduceIte, Nat.reduceEqDiff, Nat.reduceAdd, Nat.reduceLT, Nat.reduceLeDiff, Nat.reduceMul, Nat.reduceSub, Int.reduceToNat, Int.reduceLT, Int.reduceLE, Int.reduceEq, Int.reduceAdd, reduceCtorEq, c61, enter, encC, lenM, take_mapc (lenM m)]
  refine calls_b (p_goodMove c m) (by simp [SV.data.dataAll, SV.data, data_m]) (fun h => ?_) (fun h => ?_)
  · simp -dsimp (disch := omega) only [↓wi, wo, wrap64, reduceIte, Nat.reduceEqDiff, Nat.reduceAdd, Nat.reduceLT, Nat.reduceLeDiff, Nat.reduceMul, Nat.reduceSub, Int.reduceToNat, Int.reduceLT, Int.reduceLE, Int.reduceEq, Int.reduceAdd, reduceCtorEq]
    refine ret_i [true] rfl (by simp) (by simp) ⟨?_, rfl⟩
    rw [h]; rfl
  · simp -dsimp (disch := omega) only [↓wi, wo, wrap64, reduceIte, Nat.reduceEqDiff, Nat.reduceAdd, Nat.reduceLT, Nat.reduceLeDiff, Nat.reduceMul, Nat.reduceSub, Int.reduceToNat, Int.reduceLT, Int.reduceLE, Int.reduceEq, Int.reduceAdd, reduceCtorEq]
    refine ret_i [true] rfl (by simp) (by simp) ⟨?_, rfl⟩
    rw [h]; rfl
theorem p_Check2 (f : Fd) : PC Tryz.prog 67 [ag (encF f)] (.ret (vb (!goodFd f))) := by
  refine pc_of mixed F67 (by simp) ?_
  simp -dsimp (disch := omega) only [↓wi, wo, wrap64, reduceIte, Nat.reduceEqDiff, Nat.reduceAdd, Nat.reduceLT, Nat.reduceLeDiff, Nat.reduceMul, Nat.reduceSub, Int.reduceToNat, Int.reduceLT, Int.reduceLE, Int.reduceEq, Int.reduceAdd, reduceCtorEq, c67, enter, lenF, take_mapc (lenF f)]
  repeat' first | (simp -dsimp (disch := omega) only [↓wi, wo, wrap64, reduceIte, Nat.reduceEqDiff, Nat.reduceAdd, Nat.reduceLT, Nat.reduceLeDiff, Nat.reduceMul, Nat.reduceSub, Int.reduceToNat, Int.reduceLT, Int.reduceLE, Int.reduceEq, Int.reduceAdd, reduceCtorEq]) | (refine brd_y (by first | assumption | omega) ?_) | (refine brd_no (by first | assumption | omega) ?_) | (refine forkd (fun _ => ?_) (fun _ => ?_)) | (refine brs_y (by assumption) ?_) | (refine brs_n (by assumption) ?_) | (refine fork (fun _ => ?_) (fun _ => ?_)) | (refine need (by omega) ?_) | (refine qv_need (by omega) ?_) | (refine qv_give ?_) | (refine give fun _ => ?_) | (refine retb rfl ?_) | (refine reti rfl ?_) | (refine ret_p ?_) | (refine ret_ps rfl ?_) | (refine ret_pp rfl ?_) | (refine calls_b (p_goodField f) rfl (fun _ => ?_) (fun _ => ?_)) | (refine calls_p (p_goodField f) rfl rfl ?_) | (refine qv_b (p_goodField f) rfl rfl (fun _ => ?_) (fun _ => ?_)) | (refine qv_q (p_goodField f) rfl rfl rfl ?_)
  all_goals simp_all
theorem p_Check3 (f : Stg) : PC Tryz.prog 72 [ag (encS f)] (.ret (vb (!goodStg f))) := by
  refine pc_of mixed F72 (by simp) ?_
  simp -dsimp (disch := omega) only [↓wi, wo, wrap64, reduceIte, Nat.reduceEqDiff, Nat.reduceAdd, Nat.reduceLT, Nat.reduceLeDiff, Nat.reduceMul, Nat.reduceSub, Int.reduceToNat, Int.reduceLT, Int.reduceLE, Int.reduceEq, Int.reduceAdd, reduceCtorEq, c72, enter, lenS, take_mapc (lenS f)]
  repeat' first | (simp -dsimp (disch := omega) only [↓wi, wo, wrap64, reduceIte, Nat.reduceEqDiff, Nat.reduceAdd, Nat.reduceLT, Nat.reduceLeDiff, Nat.reduceMul, Nat.reduceSub, Int.reduceToNat, Int.reduceLT, Int.reduceLE, Int.reduceEq, Int.reduceAdd, reduceCtorEq]) | (refine brd_y (by first | assumption | omega) ?_) | (refine brd_no (by first | assumption | omega) ?_) | (refine forkd (fun _ => ?_) (fun _ => ?_)) | (refine brs_y (by assumption) ?_) | (refine brs_n (by assumption) ?_) | (refine fork (fun _ => ?_) (fun _ => ?_)) | (refine need (by omega) ?_) | (refine qv_need (by omega) ?_) | (refine qv_give ?_) | (refine give fun _ => ?_) | (refine retb rfl ?_) | (refine reti rfl ?_) | (refine ret_p ?_) | (refine ret_ps rfl ?_) | (refine ret_pp rfl ?_) | (refine calls_b (p_goodStage f) rfl (fun _ => ?_) (fun _ => ?_)) | (refine calls_p (p_goodStage f) rfl rfl ?_) | (refine qv_b (p_goodStage f) rfl rfl (fun _ => ?_) (fun _ => ?_)) | (refine qv_q (p_goodStage f) rfl rfl rfl ?_)
  all_goals simp_all
def moveI (c : Ctr) (i : Nat) (m : Mov) : Bool := named m.name && decide (findI (fun g => decide (g.name = m.name)) 0 c.moves = (i : Int)) && goodMv c m
def checkC (c : Ctr) : Int := if named c.name then (if fieldsOk c then (if stagesOk c then (if decide (c.moves.length ≤ 8) && allI (moveI c) 0 c.moves then 0 else 62) else 61) else 60) else 50
theorem not_any {α : Type} {p : α → Bool} (l : List α) : (l.any fun x => !p x) = !(l.all p) := by
  induction l with
  | nil => rfl
  | cons a l ih => simp only [List.any_cons, List.all_cons, ih, Bool.not_and]
theorem fieldsOk_eq (c : Ctr) : fieldsOk c = (decide (c.fields.length ≤ 6) && (onceR (·.name) c.fields && c.fields.all goodFd)) := by
  rw [fieldsOk, onceR, ← allI_all c.fields 0, ← allI_and]; rfl
theorem stagesOk_eq (c : Ctr) : stagesOk c = (decide (1 ≤ c.stages.length) && decide (c.stages.length ≤ 6) && (onceR (·.name) c.stages && c.stages.all goodStg)) := by
  rw [stagesOk, onceR, ← allI_all c.stages 0, ← allI_and]; rfl
theorem movesOk_eq (c : Ctr) : allI (moveI c) 0 c.moves = (onceR (·.name) c.moves && c.moves.all (goodMv c)) := by
  rw [onceR, ← allI_all c.moves 0, ← allI_and]; rfl
set_option maxHeartbeats 8000000 in
set_option maxRecDepth 4000 in
theorem p_Check (c : Ctr) : PC Tryz.prog 17 [ag (encC c)] (.ret (vi (checkC c))) := by
  refine pc_of mixed F17 (by simp) ?_
  simp -dsimp (disch := omega) only [↓wi, wo, wrap64, reduceIte, Nat.reduceEqDiff, Nat.reduceAdd, Nat.reduceLT, Nat.reduceLeDiff, Nat.reduceMul, Nat.reduceSub, Int.reduceToNat, Int.reduceLT, Int.reduceLE, Int.reduceEq, Int.reduceAdd, reduceCtorEq, c17, enter, encC]
  have hF := p_onceF (l := c.fields) lenF p_fieldName
  have hS := p_onceS (l := c.stages) lenS p_stageName
  have hM := p_onceM (l := c.moves) lenM p_moveName
  have cF : ∀ H, ACalls Tryz.prog 66 [.c (.sl 8 (c.fields.map encF)), .fn 67 [] []] H fun o H1 => o = .ret (vb (!c.fields.all goodFd)) ∧ H1 = H := fun H => by
    rw [← not_any]; exact h_containsF lenF B67 fun x _ => (p_Check2 x).ac (data_ag _) rfl
  have cS : ∀ H, ACalls Tryz.prog 71 [.c (.sl 3 (c.stages.map encS)), .fn 72 [] []] H fun o H1 => o = .ret (vb (!c.stages.all goodStg)) ∧ H1 = H := fun H => by
    rw [← not_any]; exact h_containsS lenS B72 fun x _ => (p_Check3 x).ac (data_ag _) rfl
  have cM : ACalls Tryz.prog 76 [.c (.sl 13 (c.moves.map encM)), .fn 61 [] [.ptr 0 0]] [.box ((encC c).map .c)] fun o H1 => o = .ret (vb (!c.moves.all (goodMv c))) ∧ H1 = [.box ((encC c).map .c)] := by
    rw [← not_any]; exact h_containsM lenM B61 fun x _ => p_Check1 c x
  have bF := B66
  have bS := B71
  have bM := B76
  repeat' first | (simp -dsimp (disch := omega) only [↓wi, wo, wrap64, reduceIte, Nat.reduceEqDiff, Nat.reduceAdd, Nat.reduceLT, Nat.reduceLeDiff, Nat.reduceMul, Nat.reduceSub, Int.reduceToNat, Int.reduceLT, Int.reduceLE, Int.reduceEq, Int.reduceAdd, reduceCtorEq, encC]) | (refine brd_y (by first | assumption | omega) ?_) | (refine brd_no (by first | assumption | omega) ?_) | (refine forkd (fun _ => ?_) (fun _ => ?_)) | (refine brs_y (by assumption) ?_) | (refine brs_n (by assumption) ?_) | (refine fork (fun _ => ?_) (fun _ => ?_)) | (refine need (by omega) ?_) | (refine qv_need (by omega) ?_) | (refine qv_give ?_) | (refine give fun _ => ?_) | (refine retb rfl ?_) | (refine reti rfl ?_) | (refine ret_p ?_) | (refine ret_ps rfl ?_) | (refine ret_pp rfl ?_) | (refine calls_b (p_named c.name) rfl (fun _ => ?_) (fun _ => ?_)) | (refine calls_p (p_named c.name) rfl rfl ?_) | (refine qv_b (p_named c.name) rfl rfl (fun _ => ?_) (fun _ => ?_)) | (refine qv_q (p_named c.name) rfl rfl rfl ?_) | (refine calls_b (hF) rfl (fun _ => ?_) (fun _ => ?_)) | (refine calls_p (hF) rfl rfl ?_) | (refine qv_b (hF) rfl rfl (fun _ => ?_) (fun _ => ?_)) | (refine qv_q (hF) rfl rfl rfl ?_) | (refine calls_b (hS) rfl (fun _ => ?_) (fun _ => ?_)) | (refine calls_p (hS) rfl rfl ?_) | (refine qv_b (hS) rfl rfl (fun _ => ?_) (fun _ => ?_)) | (refine qv_q (hS) rfl rfl rfl ?_) | (refine calls_b (hM) rfl (fun _ => ?_) (fun _ => ?_)) | (refine calls_p (hM) rfl rfl ?_) | (refine qv_b (hM) rfl rfl (fun _ => ?_) (fun _ => ?_)) | (refine qv_q (hM) rfl rfl rfl ?_) | (refine calls_hb (bF) (cF _) (fun _ => ?_) (fun _ => ?_)) | (refine calls_hb (bS) (cS _) (fun _ => ?_) (fun _ => ?_)) | (refine calls_hb (bM) (cM) (fun _ => ?_) (fun _ => ?_))
  all_goals clear hF hS hM cF cS cM bF bS bM
  all_goals unfold checkC
  all_goals rw [fieldsOk_eq, stagesOk_eq, movesOk_eq]
  all_goals generalize c.fields.all goodFd = b1 at *
  all_goals generalize c.stages.all goodStg = b2 at *
  all_goals generalize c.moves.all (goodMv c) = b3 at *
  all_goals grind
end Go.Proofs.YtbnelpgogjbgjaaGreat.Q
/- Contracts behind bytes: the program's. -/
set_option linter.unusedVariables false
set_option linter.unusedSimpArgs false
namespace Go.Proofs.YtbnelpgogjbgjaaGreat.Q
open Go.RowKit

def putT (s : ByteArray) : List UInt8 := pBytes (tb s)
def putF (f : Fd) : List UInt8 := putT f.name ++ (pInt f.kind.1 ++ (listP putT f.enum ++ putV f.init))
def putS (s : Stg) : List UInt8 := putT s.name ++ (pInt s.need.1 ++ listP (fun n : I64 => pInt n.1) s.orgs)
def putX (x : Eff) : List UInt8 := putT x.field ++ PutE x.expr
def putM (m : Mov) : List UInt8 := putT m.name ++ (pInt m.frm.1 ++ (pInt m.to.1 ++ (pInt m.org.1 ++ (PutE m.guard ++ listP putX m.effects))))
def putC (c : Ctr) : List UInt8 := putT c.name ++ (listP putF c.fields ++ (listP putS c.stages ++ listP putM c.moves))
def PutC (c : Ctr) : List UInt8 := if checkC c = 0 then putC c else []
theorem len_putT (s : ByteArray) : (putT s).length = 4 + s.size := by simp [putT, len_pBytes, len_tb]
theorem p_Put1 (l : List UInt8) (f : Fd) (hl : l.length + (putF f).length ≤ 1099511627776) : PC Tryz.prog 42 [bts l, ag (encF f)] (.ret (bts (l ++ putF f))) := by
  have hlen : (putF f).length = 4 + f.name.size + (8 + ((listP putT f.enum).length + (putV f.init).length)) := by simp only [putF, List.length_append, len_pInt, len_putT]
  refine pc_of mixed F42 (by simp) ?_
  simp -dsimp (disch := omega) only [↓wi, wo, wrap64, reduceIte, Nat.reduceEqDiff, Nat.reduceAdd, Nat.reduceLT, Nat.reduceLeDiff, Nat.reduceMul, Nat.reduceSub, Int.reduceToNat, Int.reduceLT, Int.reduceLE, Int.reduceEq, Int.reduceAdd, reduceCtorEq, c42, enter, encF]
  have b1 : (l ++ putT f.name).length = l.length + 4 + f.name.size := by simp [len_putT]; omega
  have b2 : (l ++ putT f.name ++ pInt f.kind.1).length = l.length + 12 + f.name.size := by simp [len_putT, len_pInt]; omega
  have b3 : (l ++ putT f.name ++ pInt f.kind.1 ++ listP putT f.enum).length = l.length + 12 + f.name.size + (listP putT f.enum).length := by simp only [List.length_append, len_putT, len_pInt]; omega
  have k1 := p_text l f.name (by omega)
  have k2 := p_number (l ++ putT f.name) f.kind.1 (by omega)
  have k3 : PC Tryz.prog 43 _ _ := h_listT (g := 41) (xs := f.enum) (enc := putT) (l := l ++ putT f.name ++ pInt f.kind.1) (fun x _ l' h => p_text l' x (by rw [len_putT] at h; omega)) (by omega)
  have k4 := p_putV (l ++ putT f.name ++ pInt f.kind.1 ++ listP putT f.enum) f.init (by omega)
  change PC Tryz.prog _ _ (.ret (bts (l ++ putT f.name))) at k1
  repeat' first | (simp -dsimp (disch := omega) only [↓wi, wo, wrap64, reduceIte, Nat.reduceEqDiff, Nat.reduceAdd, Nat.reduceLT, Nat.reduceLeDiff, Nat.reduceMul, Nat.reduceSub, Int.reduceToNat, Int.reduceLT, Int.reduceLE, Int.reduceEq, Int.reduceAdd, reduceCtorEq, encV, strs]) | (refine brd_y (by first | assumption | omega) ?_) | (refine brd_no (by first | assumption | omega) ?_) | (refine forkd (fun _ => ?_) (fun _ => ?_)) | (refine brs_y (by assumption) ?_) | (refine brs_n (by assumption) ?_) | (refine fork (fun _ => ?_) (fun _ => ?_)) | (refine need (by omega) ?_) | (refine qv_need (by omega) ?_) | (refine qv_give ?_) | (refine give fun _ => ?_) | (refine retb rfl ?_) | (refine reti rfl ?_) | (refine ret_p ?_) | (refine ret_ps rfl ?_) | (refine ret_pp rfl ?_) | (refine calls_b (k1) rfl (fun _ => ?_) (fun _ => ?_)) | (refine calls_p (k1) rfl rfl ?_) | (refine qv_b (k1) rfl rfl (fun _ => ?_) (fun _ => ?_)) | (refine qv_q (k1) rfl rfl rfl ?_) | (refine calls_b (k2) rfl (fun _ => ?_) (fun _ => ?_)) | (refine calls_p (k2) rfl rfl ?_) | (refine qv_b (k2) rfl rfl (fun _ => ?_) (fun _ => ?_)) | (refine qv_q (k2) rfl rfl rfl ?_) | (refine calls_b (k3) rfl (fun _ => ?_) (fun _ => ?_)) | (refine calls_p (k3) rfl rfl ?_) | (refine qv_b (k3) rfl rfl (fun _ => ?_) (fun _ => ?_)) | (refine qv_q (k3) rfl rfl rfl ?_) | (refine calls_b (k4) rfl (fun _ => ?_) (fun _ => ?_)) | (refine calls_p (k4) rfl rfl ?_) | (refine qv_b (k4) rfl rfl (fun _ => ?_) (fun _ => ?_)) | (refine qv_q (k4) rfl rfl rfl ?_)
  simp [lk, frz, putF, List.append_assoc]
theorem p_Put2 (l : List UInt8) (s : Stg) (hl : l.length + (putS s).length ≤ 1099511627776) : PC Tryz.prog 47 [bts l, ag (encS s)] (.ret (bts (l ++ putS s))) := by
  have hlen : (putS s).length = 4 + s.name.size + (8 + (listP (fun n : I64 => pInt n.1) s.orgs).length) := by simp only [putS, List.length_append, len_pInt, len_putT]
  refine pc_of mixed F47 (by simp) ?_
  simp -dsimp (disch := omega) only [↓wi, wo, wrap64, reduceIte, Nat.reduceEqDiff, Nat.reduceAdd, Nat.reduceLT, Nat.reduceLeDiff, Nat.reduceMul, Nat.reduceSub, Int.reduceToNat, Int.reduceLT, Int.reduceLE, Int.reduceEq, Int.reduceAdd, reduceCtorEq, c47, enter, encS]
  have b1 : (l ++ putT s.name).length = l.length + 4 + s.name.size := by simp [len_putT]; omega
  have b2 : (l ++ putT s.name ++ pInt s.need.1).length = l.length + 12 + s.name.size := by simp [len_putT, len_pInt]; omega
  have k1 := p_text l s.name (by omega)
  have k2 := p_number (l ++ putT s.name) s.need.1 (by omega)
  have k3 : PC Tryz.prog 48 _ _ := h_listI (g := 44) (xs := s.orgs) (enc := fun n : I64 => pInt n.1) (l := l ++ putT s.name ++ pInt s.need.1) (fun x _ l' h => p_number l' x.1 (by omega)) (by omega)
  change PC Tryz.prog _ _ (.ret (bts (l ++ putT s.name))) at k1
  repeat' first | (simp -dsimp (disch := omega) only [↓wi, wo, wrap64, reduceIte, Nat.reduceEqDiff, Nat.reduceAdd, Nat.reduceLT, Nat.reduceLeDiff, Nat.reduceMul, Nat.reduceSub, Int.reduceToNat, Int.reduceLT, Int.reduceLE, Int.reduceEq, Int.reduceAdd, reduceCtorEq, ints]) | (refine brd_y (by first | assumption | omega) ?_) | (refine brd_no (by first | assumption | omega) ?_) | (refine forkd (fun _ => ?_) (fun _ => ?_)) | (refine brs_y (by assumption) ?_) | (refine brs_n (by assumption) ?_) | (refine fork (fun _ => ?_) (fun _ => ?_)) | (refine need (by omega) ?_) | (refine qv_need (by omega) ?_) | (refine qv_give ?_) | (refine give fun _ => ?_) | (refine retb rfl ?_) | (refine reti rfl ?_) | (refine ret_p ?_) | (refine ret_ps rfl ?_) | (refine ret_pp rfl ?_) | (refine calls_b (k1) rfl (fun _ => ?_) (fun _ => ?_)) | (refine calls_p (k1) rfl rfl ?_) | (refine qv_b (k1) rfl rfl (fun _ => ?_) (fun _ => ?_)) | (refine qv_q (k1) rfl rfl rfl ?_) | (refine calls_b (k2) rfl (fun _ => ?_) (fun _ => ?_)) | (refine calls_p (k2) rfl rfl ?_) | (refine qv_b (k2) rfl rfl (fun _ => ?_) (fun _ => ?_)) | (refine qv_q (k2) rfl rfl rfl ?_) | (refine calls_b (k3) rfl (fun _ => ?_) (fun _ => ?_)) | (refine calls_p (k3) rfl rfl ?_) | (refine qv_b (k3) rfl rfl (fun _ => ?_) (fun _ => ?_)) | (refine qv_q (k3) rfl rfl rfl ?_)
  simp [lk, frz, putS, List.append_assoc]
theorem p_Put31 (l : List UInt8) (x : Eff) (hl : l.length + (putX x).length ≤ 1099511627776) : PC Tryz.prog 53 [bts l, ag (encX x)] (.ret (bts (l ++ putX x))) := by
  have hlen : (putX x).length = 4 + x.field.size + (PutE x.expr).length := by simp only [putX, List.length_append, len_putT]
  refine pc_of mixed F53 (by simp) ?_
  simp -dsimp (disch := omega) only [↓wi, wo, wrap64, reduceIte, Nat.reduceEqDiff, Nat.reduceAdd, Nat.reduceLT, Nat.reduceLeDiff, Nat.reduceMul, Nat.reduceSub, Int.reduceToNat, Int.reduceLT, Int.reduceLE, Int.reduceEq, Int.reduceAdd, reduceCtorEq, c53, enter, encX, encE_]
  have b1 : (l ++ putT x.field).length = l.length + 4 + x.field.size := by simp [len_putT]; omega
  have k1 := p_text l x.field (by omega)
  have k2 := p_ePut (l ++ putT x.field) x.expr (by omega)
  rw [encE_ x.expr] at k2
  change PC Tryz.prog _ _ (.ret (bts (l ++ putT x.field))) at k1
  repeat' first | (simp -dsimp (disch := omega) only [↓wi, wo, wrap64, reduceIte, Nat.reduceEqDiff, Nat.reduceAdd, Nat.reduceLT, Nat.reduceLeDiff, Nat.reduceMul, Nat.reduceSub, Int.reduceToNat, Int.reduceLT, Int.reduceLE, Int.reduceEq, Int.reduceAdd, reduceCtorEq]) | (refine brd_y (by first | assumption | omega) ?_) | (refine brd_no (by first | assumption | omega) ?_) | (refine forkd (fun _ => ?_) (fun _ => ?_)) | (refine brs_y (by assumption) ?_) | (refine brs_n (by assumption) ?_) | (refine fork (fun _ => ?_) (fun _ => ?_)) | (refine need (by omega) ?_) | (refine qv_need (by omega) ?_) | (refine qv_give ?_) | (refine give fun _ => ?_) | (refine retb rfl ?_) | (refine reti rfl ?_) | (refine ret_p ?_) | (refine ret_ps rfl ?_) | (refine ret_pp rfl ?_) | (refine calls_b (k1) rfl (fun _ => ?_) (fun _ => ?_)) | (refine calls_p (k1) rfl rfl ?_) | (refine qv_b (k1) rfl rfl (fun _ => ?_) (fun _ => ?_)) | (refine qv_q (k1) rfl rfl rfl ?_) | (refine calls_b (k2) rfl (fun _ => ?_) (fun _ => ?_)) | (refine calls_p (k2) rfl rfl ?_) | (refine qv_b (k2) rfl rfl (fun _ => ?_) (fun _ => ?_)) | (refine qv_q (k2) rfl rfl rfl ?_)
  simp [lk, frz, putX, List.append_assoc]
theorem p_Put3 (l : List UInt8) (m : Mov) (hl : l.length + (putM m).length ≤ 1099511627776) : PC Tryz.prog 50 [bts l, ag (encM m)] (.ret (bts (l ++ putM m))) := by
  have hlen : (putM m).length = 4 + m.name.size + (8 + (8 + (8 + ((PutE m.guard).length + (listP putX m.effects).length)))) := by simp only [putM, List.length_append, len_pInt, len_putT]
  refine pc_of mixed F50 (by simp) ?_
  simp -dsimp (disch := omega) only [↓wi, wo, wrap64, reduceIte, Nat.reduceEqDiff, Nat.reduceAdd, Nat.reduceLT, Nat.reduceLeDiff, Nat.reduceMul, Nat.reduceSub, Int.reduceToNat, Int.reduceLT, Int.reduceLE, Int.reduceEq, Int.reduceAdd, reduceCtorEq, c50, enter, encM]
  have b1 : (l ++ putT m.name).length = l.length + 4 + m.name.size := by simp [len_putT]; omega
  have b2 : (l ++ putT m.name ++ pInt m.frm.1).length = l.length + 12 + m.name.size := by simp [len_putT, len_pInt]; omega
  have b3 : (l ++ putT m.name ++ pInt m.frm.1 ++ pInt m.to.1).length = l.length + 20 + m.name.size := by simp [len_putT, len_pInt]; omega
  have b4 : (l ++ putT m.name ++ pInt m.frm.1 ++ pInt m.to.1 ++ pInt m.org.1).length = l.length + 28 + m.name.size := by simp [len_putT, len_pInt]; omega
  have b5 : (l ++ putT m.name ++ pInt m.frm.1 ++ pInt m.to.1 ++ pInt m.org.1 ++ PutE m.guard).length = l.length + 28 + m.name.size + (PutE m.guard).length := by simp only [List.length_append, len_putT, len_pInt]; omega
  have k1 := p_text l m.name (by omega)
  have k2 := p_number (l ++ putT m.name) m.frm.1 (by omega)
  have k3 := p_number (l ++ putT m.name ++ pInt m.frm.1) m.to.1 (by omega)
  have k4 := p_number (l ++ putT m.name ++ pInt m.frm.1 ++ pInt m.to.1) m.org.1 (by omega)
  have k5 := p_ePut (l ++ putT m.name ++ pInt m.frm.1 ++ pInt m.to.1 ++ pInt m.org.1) m.guard (by omega)
  rw [encE_ m.guard] at k5
  have k6 := h_listX (g := 53) (xs := m.effects) (enc := putX) (l := l ++ putT m.name ++ pInt m.frm.1 ++ pInt m.to.1 ++ pInt m.org.1 ++ PutE m.guard) (fun x _ l' h => p_Put31 l' x h) (by omega)
  change PC Tryz.prog _ _ (.ret (bts (l ++ putT m.name))) at k1
  repeat' first | (simp -dsimp (disch := omega) only [↓wi, wo, wrap64, reduceIte, Nat.reduceEqDiff, Nat.reduceAdd, Nat.reduceLT, Nat.reduceLeDiff, Nat.reduceMul, Nat.reduceSub, Int.reduceToNat, Int.reduceLT, Int.reduceLE, Int.reduceEq, Int.reduceAdd, reduceCtorEq]) | (refine brd_y (by first | assumption | omega) ?_) | (refine brd_no (by first | assumption | omega) ?_) | (refine forkd (fun _ => ?_) (fun _ => ?_)) | (refine brs_y (by assumption) ?_) | (refine brs_n (by assumption) ?_) | (refine fork (fun _ => ?_) (fun _ => ?_)) | (refine need (by omega) ?_) | (refine qv_need (by omega) ?_) | (refine qv_give ?_) | (refine give fun _ => ?_) | (refine retb rfl ?_) | (refine reti rfl ?_) | (refine ret_p ?_) | (refine ret_ps rfl ?_) | (refine ret_pp rfl ?_) | (refine calls_b (k1) rfl (fun _ => ?_) (fun _ => ?_)) | (refine calls_p (k1) rfl rfl ?_) | (refine qv_b (k1) rfl rfl (fun _ => ?_) (fun _ => ?_)) | (refine qv_q (k1) rfl rfl rfl ?_) | (refine calls_b (k2) rfl (fun _ => ?_) (fun _ => ?_)) | (refine calls_p (k2) rfl rfl ?_) | (refine qv_b (k2) rfl rfl (fun _ => ?_) (fun _ => ?_)) | (refine qv_q (k2) rfl rfl rfl ?_) | (refine calls_b (k3) rfl (fun _ => ?_) (fun _ => ?_)) | (refine calls_p (k3) rfl rfl ?_) | (refine qv_b (k3) rfl rfl (fun _ => ?_) (fun _ => ?_)) | (refine qv_q (k3) rfl rfl rfl ?_) | (refine calls_b (k4) rfl (fun _ => ?_) (fun _ => ?_)) | (refine calls_p (k4) rfl rfl ?_) | (refine qv_b (k4) rfl rfl (fun _ => ?_) (fun _ => ?_)) | (refine qv_q (k4) rfl rfl rfl ?_) | (refine calls_b (k5) rfl (fun _ => ?_) (fun _ => ?_)) | (refine calls_p (k5) rfl rfl ?_) | (refine qv_b (k5) rfl rfl (fun _ => ?_) (fun _ => ?_)) | (refine qv_q (k5) rfl rfl rfl ?_) | (refine calls_b (k6) rfl (fun _ => ?_) (fun _ => ?_)) | (refine calls_p (k6) rfl rfl ?_) | (refine qv_b (k6) rfl rfl (fun _ => ?_) (fun _ => ?_)) | (refine qv_q (k6) rfl rfl rfl ?_)
  simp [lk, frz, putM, List.append_assoc]
theorem p_PutC (l : List UInt8) (c : Ctr) (hl : l.length + (PutC c).length ≤ 1099511627776) : PC Tryz.prog 14 [bts l, ag (encC c)] (.ret (bts (l ++ PutC c))) := by
  refine pc_of mixed F14 (by simp) ?_
  simp -dsimp (disch := omega) only [↓wi, wo, wrap64, reduceIte, Nat.reduceEqDiff, Nat.reduceAdd, Nat.reduceLT, Nat.reduceLeDiff, Nat.reduceMul, Nat.reduceSub, Int.reduceToNat, Int.reduceLT, Int.reduceLE, Int.reduceEq, Int.reduceAdd, reduceCtorEq, c14, enter]
  refine calls_p (p_clone l (by omega)) rfl rfl ?_
  simp -dsimp (disch := omega) only [↓wi, wo, wrap64, reduceIte, Nat.reduceEqDiff, Nat.reduceAdd, Nat.reduceLT, Nat.reduceLeDiff, Nat.reduceMul, Nat.reduceSub, Int.reduceToNat, Int.reduceLT, Int.reduceLE, Int.reduceEq, Int.reduceAdd, reduceCtorEq, lenC, take_mapc (lenC c)]
  refine calls_p (p_Check c) rfl rfl ?_
  simp -dsimp (disch := omega) only [↓wi, wo, wrap64, reduceIte, Nat.reduceEqDiff, Nat.reduceAdd, Nat.reduceLT, Nat.reduceLeDiff, Nat.reduceMul, Nat.reduceSub, Int.reduceToNat, Int.reduceLT, Int.reduceLE, Int.reduceEq, Int.reduceAdd, reduceCtorEq]
  refine forkd (fun h => ?_) (fun h => ?_)
  · simp only [PutC, h, if_true] at hl ⊢
    have hlen : (putC c).length = 4 + c.name.size + ((listP putF c.fields).length + ((listP putS c.stages).length + (listP putM c.moves).length)) := by simp only [putC, List.length_append, len_putT]
    have b1 : (l ++ putT c.name).length = l.length + 4 + c.name.size := by simp [len_putT]; omega
    have b2 : (l ++ putT c.name ++ listP putF c.fields).length = l.length + 4 + c.name.size + (listP putF c.fields).length := by simp only [List.length_append, len_putT]; omega
    have b3 : (l ++ putT c.name ++ listP putF c.fields ++ listP putS c.stages).length = l.length + 4 + c.name.size + (listP putF c.fields).length + (listP putS c.stages).length := by simp only [List.length_append, len_putT]; omega
    have k1 := p_text l c.name (by omega)
    have k2 := h_listF (g := 42) (xs := c.fields) (enc := putF) (l := l ++ putT c.name) (fun x _ l' h => p_Put1 l' x h) (by omega)
    have k3 := h_listS (g := 47) (xs := c.stages) (enc := putS) (l := l ++ putT c.name ++ listP putF c.fields) (fun x _ l' h => p_Put2 l' x h) (by omega)
    have k4 := h_listM (g := 50) (xs := c.moves) (enc := putM) (l := l ++ putT c.name ++ listP putF c.fields ++ listP putS c.stages) (fun x _ l' h => p_Put3 l' x h) (by omega)
    change PC Tryz.prog _ _ (.ret (bts (l ++ putT c.name))) at k1
    repeat' first | (simp -dsimp (disch := omega) only [↓wi, wo, wrap64, reduceIte, Nat.reduceEqDiff, Nat.reduceAdd, Nat.reduceLT, Nat.reduceLeDiff, Nat.reduceMul, Nat.reduceSub, Int.reduceToNat, Int.reduceLT, Int.reduceLE, Int.reduceEq, Int.reduceAdd, reduceCtorEq, encC]) | (refine brd_y (by first | assumption | omega) ?_) | (refine brd_no (by first | assumption | omega) ?_) | (refine forkd (fun _ => ?_) (fun _ => ?_)) | (refine brs_y (by assumption) ?_) | (refine brs_n (by assumption) ?_) | (refine fork (fun _ => ?_) (fun _ => ?_)) | (refine need (by omega) ?_) | (refine qv_need (by omega) ?_) | (refine qv_give ?_) | (refine give fun _ => ?_) | (refine retb rfl ?_) | (refine reti rfl ?_) | (refine ret_p ?_) | (refine ret_ps rfl ?_) | (refine ret_pp rfl ?_) | (refine calls_b (k1) rfl (fun _ => ?_) (fun _ => ?_)) | (refine calls_p (k1) rfl rfl ?_) | (refine qv_b (k1) rfl rfl (fun _ => ?_) (fun _ => ?_)) | (refine qv_q (k1) rfl rfl rfl ?_) | (refine calls_b (k2) rfl (fun _ => ?_) (fun _ => ?_)) | (refine calls_p (k2) rfl rfl ?_) | (refine qv_b (k2) rfl rfl (fun _ => ?_) (fun _ => ?_)) | (refine qv_q (k2) rfl rfl rfl ?_) | (refine calls_b (k3) rfl (fun _ => ?_) (fun _ => ?_)) | (refine calls_p (k3) rfl rfl ?_) | (refine qv_b (k3) rfl rfl (fun _ => ?_) (fun _ => ?_)) | (refine qv_q (k3) rfl rfl rfl ?_) | (refine calls_b (k4) rfl (fun _ => ?_) (fun _ => ?_)) | (refine calls_p (k4) rfl rfl ?_) | (refine qv_b (k4) rfl rfl (fun _ => ?_) (fun _ => ?_)) | (refine qv_q (k4) rfl rfl rfl ?_)
    simp [lk, frz, putC, h, List.append_assoc]
  · simp -dsimp (disch := omega) only [↓wi, wo, wrap64, reduceIte, Nat.reduceEqDiff, Nat.reduceAdd, Nat.reduceLT, Nat.reduceLeDiff, Nat.reduceMul, Nat.reduceSub, Int.reduceToNat, Int.reduceLT, Int.reduceLE, Int.reduceEq, Int.reduceAdd, reduceCtorEq]
    refine ret_p ?_
    simp [lk, frz, PutC, h]
end Go.Proofs.YtbnelpgogjbgjaaGreat.Q
/- How many bytes a right contract is. -/
set_option linter.unusedVariables false
set_option linter.unusedSimpArgs false
namespace Go.Proofs.YtbnelpgogjbgjaaGreat.Q
open Go.RowKit

theorem flat_le {α : Type} {enc : α → List UInt8} {m : Nat} : ∀ {l : List α}, (∀ x ∈ l, (enc x).length ≤ m) → (l.flatMap enc).length ≤ l.length * m
  | [], _ => by simp
  | x :: l, h => by
    have h1 := h x (by simp)
    have h2 := flat_le fun y hy => h y (List.mem_cons_of_mem x hy)
    simp only [List.flatMap_cons, List.length_append, List.length_cons, Nat.succ_mul]
    omega
theorem listP_le {α : Type} {enc : α → List UInt8} {m k : Nat} {l : List α} (hk : l.length ≤ k) (h : ∀ x ∈ l, (enc x).length ≤ m) : (listP enc l).length ≤ 4 + k * m := by
  have h1 := flat_le h
  have h2 : l.length * m ≤ k * m := Nat.mul_le_mul_right m hk
  simp only [listP, List.length_append, len_pCount]
  omega
theorem find_size {fs : List Fd} {n : ByteArray} (hf : ∀ f ∈ fs, f.name.size ≤ 16) (h : 0 ≤ findI (fun f => decide (f.name = n)) 0 fs) : n.size ≤ 16 := by
  have := findI_any (p := fun f : Fd => decide (f.name = n)) fs 0
  rw [decide_eq_true h] at this
  obtain ⟨f, h1, h2⟩ := List.any_eq_true.1 this.symm
  have := hf f h1
  rwa [of_decide_eq_true h2] at this
theorem node_le {fs : List Fd} {op : Int} {nk : Nat} {name : ByteArray} {val : Vl} {k0 k1 k2 k : Int} (hf : ∀ f ∈ fs, f.name.size ≤ 16) (h : kind1 fs op nk name val k0 k1 k2 = .ok k) : name.size ≤ 16 ∧ val.text.size ≤ 32 := by
  unfold kind1 at h
  by_cases h1 : arityE op ≠ nk
  · rw [if_pos h1] at h; cases h
  rw [if_neg h1] at h
  by_cases h2 : op ≠ 2 ∧ name ≠ ⟨#[]⟩
  · rw [if_pos h2] at h; cases h
  rw [if_neg h2] at h
  by_cases h3 : op ≠ 1 ∧ sameV val zV = false
  · rw [if_pos h3] at h; cases h
  rw [if_neg h3] at h
  refine ⟨?_, ?_⟩
  · by_cases ho : op = 2
    · subst ho
      rw [if_neg (by decide), if_pos rfl] at h
      by_cases h4 : 0 ≤ findI (fun f => decide (f.name = name)) 0 fs
      · exact find_size hf h4
      · rw [if_neg h4] at h; cases h
    · by_cases hn : name = ⟨#[]⟩
      · subst hn; decide
      · exact absurd ⟨ho, hn⟩ h2
  · by_cases ho : op = 1
    · rw [if_pos ho] at h
      by_cases h4 : goodV val = true
      · simp only [goodV, Bool.and_eq_true, decide_eq_true_eq] at h4
        omega
      · rw [if_neg h4] at h; cases h
    · by_cases hs : sameV val zV = false
      · exact absurd ⟨ho, hs⟩ h3
      · have hs : sameV val zV = true := by simpa using hs
        simp only [sameV, Bool.and_eq_true, decide_eq_true_eq] at hs
        rw [hs.1.2]; decide
theorem putE_le {fs : List Fd} (hf : ∀ f ∈ fs, f.name.size ≤ 16) (e : Ex) : ∀ (deep n k : Int), 0 ≤ n → 0 ≤ leftE e deep n → kindE fs e = .ok k → ((putE e).length : Int) ≤ 80 * (n - leftE e deep n) := by
  induction e using Ex.ind with
  | h e ih =>
    intro deep n k hn h0 hk
    rw [leftE_] at h0 ⊢
    split at h0
    · omega
    rename_i hd
    rw [if_neg hd]
    rw [kindE_] at hk
    have key : ∀ l : List Ex, (∀ x ∈ l, ∀ (deep n k : Int), 0 ≤ n → 0 ≤ leftE x deep n → kindE fs x = .ok k → ((putE x).length : Int) ≤ 80 * (n - leftE x deep n)) → ∀ (deep n : Int) (ks : List Int), 0 ≤ leftL l deep n → kindL fs l = .ok ks → ((l.flatMap putE).length : Int) ≤ 80 * (n - leftL l deep n) := by
      intro l
      induction l with
      | nil => intro _ deep n ks h _; simp only [leftL] at h ⊢; simp
      | cons x l ihl =>
        intro hl deep n ks h hks
        simp only [kindL] at hks
        cases hx : kindE fs x with
        | error y => simp [hx] at hks
        | ok kx =>
          cases hr : kindL fs l with
          | error y => simp [hx, hr] at hks
          | ok kr =>
            simp only [leftL] at h ⊢
            by_cases hn0 : 0 ≤ n
            · rw [if_pos hn0] at h ⊢
              by_cases hx0 : 0 ≤ leftE x deep n
              · have h1 := hl x (by simp) deep n kx hn0 hx0 hx
                have h2 := ihl (fun y hy => hl y (List.mem_cons_of_mem x hy)) deep _ kr h hr
                simp only [List.flatMap_cons, List.length_append]
                omega
              · rw [leftL_neg _ hx0] at h; exact absurd h hx0
            · rw [if_neg hn0] at h; exact absurd h hn0
    cases hks : kindL fs e.kids with
    | error y => simp [hks] at hk
    | ok ks =>
      simp only [hks] at hk
      have h1 := node_le hf hk
      have h2 := len_putV e.val
      have h3 := key e.kids ih (deep - 1) (n - 1) ks h0 hks
      rw [putE_]
      simp only [List.length_append, len_pInt, len_pCount, len_pBytes, len_tb]
      omega
theorem PutE_le {fs : List Fd} (hf : ∀ f ∈ fs, f.name.size ≤ 16) {e : Ex} {k : Int} (h : isE fs e k = true) : (PutE e).length ≤ 1920 := by
  have h := (Bool.and_eq_true_iff.1 h).1
  have h : (checkE fs e).2 = 0 := of_decide_eq_true h
  by_cases hs : smallE e = true
  · rw [PutE, if_pos hs]
    rw [checkE, if_pos hs] at h
    cases hk : kindE fs e with
    | error x => have := kindE_err e x hk; rw [hk] at h; simp only at h; omega
    | ok k =>
      have h0 : 0 ≤ leftE e 6 24 := by simpa [smallE] using hs
      have := putE_le hf e 6 24 k (by omega) h0 hk
      omega
  · rw [PutE, if_neg hs]; simp
theorem named_le {s : ByteArray} (h : named s = true) : s.size ≤ 16 := by simp [named] at h; omega
theorem allI_mem {α : Type} {p : Nat → α → Bool} {l : List α} {k : Nat} (h : allI p k l = true) {x : α} (hx : x ∈ l) : ∃ j, p j x = true := by
  obtain ⟨i, hi, rfl⟩ := List.getElem_of_mem hx
  exact ⟨_, (allI_iff l k).1 h i hi⟩
theorem PutC_le (c : Ctr) : (PutC c).length ≤ 100000 := by
  unfold PutC
  split
  · rename_i h
    simp only [checkC] at h
    split at h
    · rename_i hn
      split at h
      · rename_i hF
        split at h
        · rename_i hS
          split at h
          · rename_i hM
            simp only [fieldsOk, stagesOk, Bool.and_eq_true, decide_eq_true_eq] at hF hS hM
            have hf16 : ∀ f ∈ c.fields, f.name.size ≤ 16 := fun f hf => by
              obtain ⟨j, hj⟩ := allI_mem hF.2 hf
              simp only [fieldI, Bool.and_eq_true] at hj
              exact named_le hj.1.1
            have h1 : (listP putF c.fields).length ≤ 4 + 6 * 224 := listP_le hF.1 fun f hf => by
              obtain ⟨j, hj⟩ := allI_mem hF.2 hf
              simp only [fieldI, Bool.and_eq_true, goodFd, decide_eq_true_eq, fitsV] at hj
              obtain ⟨⟨hj1, _⟩, hj2, hj3⟩ := hj
              have a1 := named_le hj1
              simp only [enumR, Bool.and_eq_true, decide_eq_true_eq] at hj2
              have a2 : (listP putT f.enum).length ≤ 4 + 4 * 36 := listP_le hj2.1.1 fun s hs => by
                obtain ⟨j, hj⟩ := allI_mem hj2.2 hs
                simp only [enumI, Bool.and_eq_true, decide_eq_true_eq] at hj
                rw [len_putT]; omega
              have a3 : f.init.text.size ≤ 32 := by
                split at hj3
                · rename_i hg; simp only [goodV, Bool.and_eq_true, decide_eq_true_eq] at hg; omega
                · omega
              have a4 := len_putV f.init
              simp only [putF, List.length_append, len_putT, len_pInt]
              omega
            have h2 : (listP putS c.stages).length ≤ 4 + 6 * 64 := listP_le hS.1.2 fun s hs => by
              obtain ⟨j, hj⟩ := allI_mem hS.2 hs
              simp only [stageI, Bool.and_eq_true, goodStg, decide_eq_true_eq] at hj
              have a1 := named_le hj.1.1
              have a2 : (listP (fun n : I64 => pInt n.1) s.orgs).length ≤ 4 + 4 * 8 := listP_le hj.2.1.1.1 fun n _ => by rw [len_pInt]; omega
              simp only [putS, List.length_append, len_putT, len_pInt]
              omega
            have h3 : (listP putM c.moves).length ≤ 4 + 8 * 9728 := listP_le hM.1 fun m hm => by
              obtain ⟨j, hj⟩ := allI_mem hM.2 hm
              simp only [moveI, goodMv, headOk, Bool.and_eq_true, decide_eq_true_eq] at hj
              obtain ⟨⟨hj1, _⟩, ⟨⟨⟨_, hj2⟩, hj3⟩, hj4⟩⟩ := hj
              have a1 := named_le hj1
              have a2 := PutE_le hf16 hj3
              have a3 : (listP putX m.effects).length ≤ 4 + 4 * 1940 := listP_le hj2 fun x hx => by
                have hx' := List.all_eq_true.1 hj4.1 x hx
                simp only [effOk, Bool.and_eq_true, decide_eq_true_eq] at hx'
                have b1 := find_size hf16 hx'.1
                have b2 := PutE_le hf16 hx'.2
                simp only [putX, List.length_append, len_putT]
                omega
              simp only [putM, List.length_append, len_putT, len_pInt]
              omega
            have h0 := named_le hn
            simp only [putC, List.length_append, len_putT]
            omega
          · simp at h
        · simp at h
      · simp at h
    · simp at h
  · simp
end Go.Proofs.YtbnelpgogjbgjaaGreat.Q
/- The document's check of a contract; small contracts. -/
set_option linter.unusedVariables false
set_option linter.unusedSimpArgs false
namespace Go.Proofs.YtbnelpgogjbgjaaGreat.Q
open Go.RowKit

set_option maxHeartbeats 8000000 in
set_option maxRecDepth 4000 in
theorem p_rCheckC (c : Ctr) : PC Tryz.prog 18 [ag (encC c)] (.ret (vi (checkC c))) := by
  refine pc_of mixed F18 (by simp) ?_
  simp -dsimp (disch := omega) only [↓wi, wo, wrap64, reduceIte, Nat.reduceEqDiff, Nat.reduceAdd, Nat.reduceLT, Nat.reduceLeDiff, Nat.reduceMul, Nat.reduceSub, Int.reduceToNat, Int.reduceLT, Int.reduceLE, Int.reduceEq, Int.reduceAdd, reduceCtorEq, c18, enter, encC]
  repeat' first | (simp -dsimp (disch := omega) only [↓wi, wo, wrap64, reduceIte, Nat.reduceEqDiff, Nat.reduceAdd, Nat.reduceLT, Nat.reduceLeDiff, Nat.reduceMul, Nat.reduceSub, Int.reduceToNat, Int.reduceLT, Int.reduceLE, Int.reduceEq, Int.reduceAdd, reduceCtorEq, encC]) | (refine brd_y (by first | assumption | omega) ?_) | (refine brd_no (by first | assumption | omega) ?_) | (refine forkd (fun _ => ?_) (fun _ => ?_)) | (refine brs_y (by assumption) ?_) | (refine brs_n (by assumption) ?_) | (refine fork (fun _ => ?_) (fun _ => ?_)) | (refine need (by omega) ?_) | (refine qv_need (by omega) ?_) | (refine qv_give ?_) | (refine give fun _ => ?_) | (refine retb rfl ?_) | (refine reti rfl ?_) | (refine ret_p ?_) | (refine ret_ps rfl ?_) | (refine ret_pp rfl ?_) | (refine calls_b (p_rname c.name) rfl (fun _ => ?_) (fun _ => ?_)) | (refine calls_p (p_rname c.name) rfl rfl ?_) | (refine qv_b (p_rname c.name) rfl rfl (fun _ => ?_) (fun _ => ?_)) | (refine qv_q (p_rname c.name) rfl rfl rfl ?_) | (refine calls_b (p_rfields c) rfl (fun _ => ?_) (fun _ => ?_)) | (refine calls_p (p_rfields c) rfl rfl ?_) | (refine qv_b (p_rfields c) rfl rfl (fun _ => ?_) (fun _ => ?_)) | (refine qv_q (p_rfields c) rfl rfl rfl ?_) | (refine calls_b (p_rstages c) rfl (fun _ => ?_) (fun _ => ?_)) | (refine calls_p (p_rstages c) rfl rfl ?_) | (refine qv_b (p_rstages c) rfl rfl (fun _ => ?_) (fun _ => ?_)) | (refine qv_q (p_rstages c) rfl rfl rfl ?_)
  all_goals try (simp_all [checkC]; done)
  all_goals try (simp_all [checkC]; omega)
  have hen : checkC c = if allI (moveI c) 0 c.moves then 0 else 62 := by
    have : c.moves.length ≤ 8 := by omega
    simp_all [checkC]
  refine AW_wk (Wk_live [1, 3]) (AW_inv mixed (n := c.moves.length) (fun n st => ∃ (i : Nat), i + n = c.moves.length ∧ checkC c = (if allI (moveI c) i (c.moves.drop i) then 0 else 62) ∧ st = ⟨0, [(1, .ptr 0 0), (3, vi i)], [.box ((encC c).map .c)]⟩) ⟨0, by omega, by simpa using hen, rfl⟩ ?_)
  clear hen
  rintro n _ ⟨i, hi, hf, rfl⟩
  simp -dsimp (disch := omega) only [↓wi, wo, wrap64, reduceIte, Nat.reduceEqDiff, Nat.reduceAdd, Nat.reduceLT, Nat.reduceLeDiff, Nat.reduceMul, Nat.reduceSub, Int.reduceToNat, Int.reduceLT, Int.reduceLE, Int.reduceEq, Int.reduceAdd, reduceCtorEq, encC]
  refine give fun _ => ?_
  simp -dsimp (disch := omega) only [↓wi, wo, wrap64, reduceIte, Nat.reduceEqDiff, Nat.reduceAdd, Nat.reduceLT, Nat.reduceLeDiff, Nat.reduceMul, Nat.reduceSub, Int.reduceToNat, Int.reduceLT, Int.reduceLE, Int.reduceEq, Int.reduceAdd, reduceCtorEq]
  refine forkd (fun h => ?_) (fun h => ?_)
  · have hi' : i < c.moves.length := by omega
    rw [allI_at hi'] at hf
    have hgd := getD_map (f := encM) hi'
    have hnd : ((c.moves.map encM).length) = c.moves.length := List.length_map _
    have hR : moveI c i c.moves[i] = (named c.moves[i].name && decide (findI (fun g => decide (g.name = c.moves[i].name)) 0 c.moves = (i : Int)) && goodMv c c.moves[i]) := rfl
    generalize c.moves[i] = x at hf hgd hR
    have hm := p_rmove c x
    have hM := p_rMove c x.name
    repeat' first | (simp -dsimp (disch := omega) only [↓wi, wo, wrap64, reduceIte, Nat.reduceEqDiff, Nat.reduceAdd, Nat.reduceLT, Nat.reduceLeDiff, Nat.reduceMul, Nat.reduceSub, Int.reduceToNat, Int.reduceLT, Int.reduceLE, Int.reduceEq, Int.reduceAdd, reduceCtorEq, hgd, hnd, encC, encM]) | (refine brd_y (by first | assumption | omega) ?_) | (refine brd_no (by first | assumption | omega) ?_) | (refine forkd (fun _ => ?_) (fun _ => ?_)) | (refine brs_y (by assumption) ?_) | (refine brs_n (by assumption) ?_) | (refine fork (fun _ => ?_) (fun _ => ?_)) | (refine need (by omega) ?_) | (refine qv_need (by omega) ?_) | (refine qv_give ?_) | (refine give fun _ => ?_) | (refine retb rfl ?_) | (refine reti rfl ?_) | (refine ret_p ?_) | (refine ret_ps rfl ?_) | (refine ret_pp rfl ?_) | (refine calls_b (p_rname x.name) rfl (fun _ => ?_) (fun _ => ?_)) | (refine calls_p (p_rname x.name) rfl rfl ?_) | (refine qv_b (p_rname x.name) rfl rfl (fun _ => ?_) (fun _ => ?_)) | (refine qv_q (p_rname x.name) rfl rfl rfl ?_) | (refine calls_b (hM) rfl (fun _ => ?_) (fun _ => ?_)) | (refine calls_p (hM) rfl rfl ?_) | (refine qv_b (hM) rfl rfl (fun _ => ?_) (fun _ => ?_)) | (refine qv_q (hM) rfl rfl rfl ?_) | (refine calls_b (hm) rfl (fun _ => ?_) (fun _ => ?_)) | (refine calls_p (hm) rfl rfl ?_) | (refine qv_b (hm) rfl rfl (fun _ => ?_) (fun _ => ?_)) | (refine qv_q (hm) rfl rfl rfl ?_)
    all_goals try (rw [hf, hR]; simp_all; done)
    refine ⟨n - 1, _, by omega, Wk_live [1, 3], i + 1, by omega, ?_, rfl⟩
    rw [hf, hR]; simp_all
  · simp -dsimp (disch := omega) only [↓wi, wo, wrap64, reduceIte, Nat.reduceEqDiff, Nat.reduceAdd, Nat.reduceLT, Nat.reduceLeDiff, Nat.reduceMul, Nat.reduceSub, Int.reduceToNat, Int.reduceLT, Int.reduceLE, Int.reduceEq, Int.reduceAdd, reduceCtorEq]
    refine reti rfl ?_
    rw [hf, allI_end (by omega)]; rfl
end Go.Proofs.YtbnelpgogjbgjaaGreat.Q
