/- Rows searched by functions that are handed over. -/
import Derived.Test.YtbnelpgogjbgjaaGreatCodJTa
import Derived.Test.YtbnelpgogjbgjaaGreatCodCa
import Derived.Test.YtbnelpgogjbgjaaGreatCodCb
import Derived.Test.YtbnelpgogjbgjaaGreatCodCc
/- Rows searched by functions that are handed over. -/
set_option linter.unusedVariables false
set_option linter.unusedSimpArgs false
namespace Go.Proofs.YtbnelpgogjbgjaaGreat.Q
open Go.RowKit

theorem mixed : Tryz.prog.follows .mixedOrders = true := by kernel_rfl
def named (s : ByteArray) : Bool := decide (0 < s.size) && decide (s.size ≤ 16)
theorem p_named (s : ByteArray) : PC Tryz.prog 63 [vs s] (.ret (vb (named s))) := by
  refine pc_of mixed F63 (by simp) ?_
  simp -dsimp (disch := omega) only [↓wi, wo, wrap64, reduceIte, Nat.reduceEqDiff, Nat.reduceAdd, Nat.reduceLT, Nat.reduceLeDiff, Nat.reduceMul, Nat.reduceSub, Int.reduceToNat, Int.reduceLT, Int.reduceLE, Int.reduceEq, Int.reduceAdd, reduceCtorEq, c63, enter]
  repeat' first | (simp -dsimp (disch := omega) only [↓wi, wo, wrap64, reduceIte, Nat.reduceEqDiff, Nat.reduceAdd, Nat.reduceLT, Nat.reduceLeDiff, Nat.reduceMul, Nat.reduceSub, Int.reduceToNat, Int.reduceLT, Int.reduceLE, Int.reduceEq, Int.reduceAdd, reduceCtorEq]) | (refine brd_y (by first | assumption | omega) ?_) | (refine brd_no (by first | assumption | omega) ?_) | (refine forkd (fun _ => ?_) (fun _ => ?_)) | (refine brs_y (by assumption) ?_) | (refine brs_n (by assumption) ?_) | (refine fork (fun _ => ?_) (fun _ => ?_)) | (refine need (by omega) ?_) | (refine qv_need (by omega) ?_) | (refine qv_give ?_) | (refine give fun _ => ?_) | (refine retb rfl ?_) | (refine reti rfl ?_) | (refine ret_p ?_) | (refine ret_ps rfl ?_) | (refine ret_pp rfl ?_)
  all_goals grind [named]
def onceR {α : Type} (nm : α → ByteArray) (l : List α) : Bool := allI (fun i x => named (nm x) && decide (findI (fun y => decide (nm y = nm x)) 0 l = (i : Int))) 0 l
theorem h_indexF {α : Type} {enc : α → List Cell} {H : List AObj} {g : Nat} {first caps : List SV} {l : List α} {p : α → Bool} (hm : ∀ a, (enc a).length = 8) (hb : Bod Tryz.prog g)
    (hg : ∀ x ∈ l, ACalls Tryz.prog g (first ++ [ag (enc x)] ++ caps) H fun o H1 => o = .ret (vb (p x)) ∧ H1 = H) :
    ACalls Tryz.prog 124 [.c (.sl 8 (l.map enc)), .fn g first caps] H fun o H1 => o = .ret (vi (findI p 0 l)) ∧ H1 = H := by
  refine ac_of mixed F124 (by simp) ?_
  simp -dsimp (disch := omega) only [↓wi, wo, wrap64, reduceIte, Nat.reduceEqDiff, Nat.reduceAdd, Nat.reduceLT, Nat.reduceLeDiff, Nat.reduceMul, Nat.reduceSub, Int.reduceToNat, Int.reduceLT, Int.reduceLE, Int.reduceEq, Int.reduceAdd, reduceCtorEq, c124, enter]
  refine give fun hlen => ?_
  simp -dsimp (disch := omega) only [↓wi, wo, wrap64, reduceIte, Nat.reduceEqDiff, Nat.reduceAdd, Nat.reduceLT, Nat.reduceLeDiff, Nat.reduceMul, Nat.reduceSub, Int.reduceToNat, Int.reduceLT, Int.reduceLE, Int.reduceEq, Int.reduceAdd, reduceCtorEq]
  refine AW_wk (Wk_live [0, 1, 7, 8]) (AW_inv mixed (n := l.length) (fun n s => ∃ i : Nat, i + n = l.length ∧ findI p 0 l = findI p i (l.drop i) ∧ s = ⟨H.length, [(0, .c (.sl 8 (l.map enc))), (1, .fn g first caps), (7, vi l.length), (8, vi i)], H⟩) ⟨0, by omega, rfl, rfl⟩ ?_)
  rintro n _ ⟨i, hi, hf, rfl⟩
  simp -dsimp (disch := omega) only [↓wi, wo, wrap64, reduceIte, Nat.reduceEqDiff, Nat.reduceAdd, Nat.reduceLT, Nat.reduceLeDiff, Nat.reduceMul, Nat.reduceSub, Int.reduceToNat, Int.reduceLT, Int.reduceLE, Int.reduceEq, Int.reduceAdd, reduceCtorEq]
  refine forkd (fun _ => ?_) (fun _ => ?_)
  · have hi' : i < l.length := by omega
    simp -dsimp (disch := omega) only [↓wi, wo, wrap64, reduceIte, Nat.reduceEqDiff, Nat.reduceAdd, Nat.reduceLT, Nat.reduceLeDiff, Nat.reduceMul, Nat.reduceSub, Int.reduceToNat, Int.reduceLT, Int.reduceLE, Int.reduceEq, Int.reduceAdd, reduceCtorEq]
    refine need (by omega) ?_
    simp -dsimp (disch := omega) only [↓wi, wo, wrap64, reduceIte, Nat.reduceEqDiff, Nat.reduceAdd, Nat.reduceLT, Nat.reduceLeDiff, Nat.reduceMul, Nat.reduceSub, Int.reduceToNat, Int.reduceLT, Int.reduceLE, Int.reduceEq, Int.reduceAdd, reduceCtorEq, getD_map hi', hm, take_all (Nat.le_of_eq (hm _))]
    refine calls_h hb (hg _ (List.getElem_mem hi')) ?_
    simp -dsimp (disch := omega) only [↓wi, wo, wrap64, reduceIte, Nat.reduceEqDiff, Nat.reduceAdd, Nat.reduceLT, Nat.reduceLeDiff, Nat.reduceMul, Nat.reduceSub, Int.reduceToNat, Int.reduceLT, Int.reduceLE, Int.reduceEq, Int.reduceAdd, reduceCtorEq]
    refine fork (fun h => ?_) (fun h => ?_)
    · simp -dsimp (disch := omega) only [↓wi, wo, wrap64, reduceIte, Nat.reduceEqDiff, Nat.reduceAdd, Nat.reduceLT, Nat.reduceLeDiff, Nat.reduceMul, Nat.reduceSub, Int.reduceToNat, Int.reduceLT, Int.reduceLE, Int.reduceEq, Int.reduceAdd, reduceCtorEq]
      refine ret_s (.inl rfl) rfl ?_
      rw [hf, findI_at hi', h]
      rfl
    · simp -dsimp (disch := omega) only [↓wi, wo, wrap64, reduceIte, Nat.reduceEqDiff, Nat.reduceAdd, Nat.reduceLT, Nat.reduceLeDiff, Nat.reduceMul, Nat.reduceSub, Int.reduceToNat, Int.reduceLT, Int.reduceLE, Int.reduceEq, Int.reduceAdd, reduceCtorEq]
      refine ⟨n - 1, _, by omega, Wk_live [0, 1, 7, 8], i + 1, by omega, ?_, rfl⟩
      rw [hf, findI_at hi', h]
      rfl
  · simp -dsimp (disch := omega) only [↓wi, wo, wrap64, reduceIte, Nat.reduceEqDiff, Nat.reduceAdd, Nat.reduceLT, Nat.reduceLeDiff, Nat.reduceMul, Nat.reduceSub, Int.reduceToNat, Int.reduceLT, Int.reduceLE, Int.reduceEq, Int.reduceAdd, reduceCtorEq]
    refine ret_s (.inl rfl) rfl ?_
    rw [hf, findI_end (by omega)]
    rfl
theorem h_containsF {α : Type} {enc : α → List Cell} {H : List AObj} {g : Nat} {first caps : List SV} {l : List α} {p : α → Bool} (hm : ∀ a, (enc a).length = 8) (hb : Bod Tryz.prog g)
    (hg : ∀ x ∈ l, ACalls Tryz.prog g (first ++ [ag (enc x)] ++ caps) H fun o H1 => o = .ret (vb (p x)) ∧ H1 = H) :
    ACalls Tryz.prog 66 [.c (.sl 8 (l.map enc)), .fn g first caps] H fun o H1 => o = .ret (vb (l.any p)) ∧ H1 = H := by
  refine ac_of mixed F66 (by simp) ?_
  simp -dsimp (disch := omega) only [↓wi, wo, wrap64, reduceIte, Nat.reduceEqDiff, Nat.reduceAdd, Nat.reduceLT, Nat.reduceLeDiff, Nat.reduceMul, Nat.reduceSub, Int.reduceToNat, Int.reduceLT, Int.reduceLE, Int.reduceEq, Int.reduceAdd, reduceCtorEq, c66, enter]
  refine calls_h B124 (h_indexF hm hb hg) ?_
  simp -dsimp (disch := omega) only [↓wi, wo, wrap64, reduceIte, Nat.reduceEqDiff, Nat.reduceAdd, Nat.reduceLT, Nat.reduceLeDiff, Nat.reduceMul, Nat.reduceSub, Int.reduceToNat, Int.reduceLT, Int.reduceLE, Int.reduceEq, Int.reduceAdd, reduceCtorEq]
  refine forkd (fun h => ?_) (fun h => ?_) <;> simp -dsimp (disch := omega) only [↓wi, wo, wrap64, reduceIte, Nat.reduceEqDiff, Nat.reduceAdd, Nat.reduceLT, Nat.reduceLeDiff, Nat.reduceMul, Nat.reduceSub, Int.reduceToNat, Int.reduceLT, Int.reduceLE, Int.reduceEq, Int.reduceAdd, reduceCtorEq] <;> refine ret_s (.inl rfl) rfl ?_ <;> rw [← findI_any l 0] <;> simp [h] <;> rfl
theorem p_findcF {x : List Cell} {o : Nat} {name : ByteArray} {s : ByteArray} (hx : x.length = 8) (ho : PC Tryz.prog o [ag x] (.ret (vs s))) :
    ACalls Tryz.prog 148 [ag x, .ptr 1 0, .ptr 0 0] [.box [vs name], .box [.fn o [] []]] fun o' H1 => o' = .ret (vb (decide (s = name))) ∧ H1 = [.box [vs name], .box [.fn o [] []]] := by
  refine ac_of mixed F148 (by simp) ?_
  simp -dsimp (disch := omega) only [↓wi, wo, wrap64, reduceIte, Nat.reduceEqDiff, Nat.reduceAdd, Nat.reduceLT, Nat.reduceLeDiff, Nat.reduceMul, Nat.reduceSub, Int.reduceToNat, Int.reduceLT, Int.reduceLE, Int.reduceEq, Int.reduceAdd, reduceCtorEq, c148, enter, hx, take_mapc hx]
  refine qv_p ho (data_ag _) rfl ?_
  simp -dsimp (disch := omega) only [↓wi, wo, wrap64, reduceIte, Nat.reduceEqDiff, Nat.reduceAdd, Nat.reduceLT, Nat.reduceLeDiff, Nat.reduceMul, Nat.reduceSub, Int.reduceToNat, Int.reduceLT, Int.reduceLE, Int.reduceEq, Int.reduceAdd, reduceCtorEq]
  refine forkd (fun h => ?_) (fun h => ?_)
  · simp -dsimp (disch := omega) only [↓wi, wo, wrap64, reduceIte, Nat.reduceEqDiff, Nat.reduceAdd, Nat.reduceLT, Nat.reduceLeDiff, Nat.reduceMul, Nat.reduceSub, Int.reduceToNat, Int.reduceLT, Int.reduceLE, Int.reduceEq, Int.reduceAdd, reduceCtorEq]
    refine ret_i [true, true] rfl (by simp) (by simp) ⟨?_, rfl⟩
    rw [decide_eq_true h]; rfl
  · simp -dsimp (disch := omega) only [↓wi, wo, wrap64, reduceIte, Nat.reduceEqDiff, Nat.reduceAdd, Nat.reduceLT, Nat.reduceLeDiff, Nat.reduceMul, Nat.reduceSub, Int.reduceToNat, Int.reduceLT, Int.reduceLE, Int.reduceEq, Int.reduceAdd, reduceCtorEq]
    refine ret_i [true, true] rfl (by simp) (by simp) ⟨?_, rfl⟩
    rw [decide_eq_false h]; rfl
theorem p_findF {α : Type} {enc : α → List Cell} {l : List α} {nm : α → ByteArray} {o : Nat} (hm : ∀ a, (enc a).length = 8) (ho : ∀ x, PC Tryz.prog o [ag (enc x)] (.ret (vs (nm x)))) (name : ByteArray) :
    PC Tryz.prog 89 [.c (.sl 8 (l.map enc)), vs name, .fn o [] []] (.ret (vi (findI (fun x => decide (nm x = name)) 0 l))) := by
  refine pc_of mixed F89 (by simp) ?_
  simp -dsimp (disch := omega) only [↓wi, wo, wrap64, reduceIte, Nat.reduceEqDiff, Nat.reduceAdd, Nat.reduceLT, Nat.reduceLeDiff, Nat.reduceMul, Nat.reduceSub, Int.reduceToNat, Int.reduceLT, Int.reduceLE, Int.reduceEq, Int.reduceAdd, reduceCtorEq, c89, enter]
  refine calls_h B124 (h_indexF hm B148 fun x hx => p_findcF (hm x) (ho x)) ?_
  simp -dsimp (disch := omega) only [↓wi, wo, wrap64, reduceIte, Nat.reduceEqDiff, Nat.reduceAdd, Nat.reduceLT, Nat.reduceLeDiff, Nat.reduceMul, Nat.reduceSub, Int.reduceToNat, Int.reduceLT, Int.reduceLE, Int.reduceEq, Int.reduceAdd, reduceCtorEq]
  exact ret_p rfl
theorem p_onceF {α : Type} {enc : α → List Cell} {l : List α} {nm : α → ByteArray} {o : Nat} (hm : ∀ a, (enc a).length = 8) (ho : ∀ x, PC Tryz.prog o [ag (enc x)] (.ret (vs (nm x)))) :
    PC Tryz.prog 64 [.c (.sl 8 (l.map enc)), .fn o [] []] (.ret (vb (onceR nm l))) := by
  refine pc_of mixed F64 (by simp) ?_
  simp -dsimp (disch := omega) only [↓wi, wo, wrap64, reduceIte, Nat.reduceEqDiff, Nat.reduceAdd, Nat.reduceLT, Nat.reduceLeDiff, Nat.reduceMul, Nat.reduceSub, Int.reduceToNat, Int.reduceLT, Int.reduceLE, Int.reduceEq, Int.reduceAdd, reduceCtorEq, c64, enter]
  refine give fun _ => ?_
  simp -dsimp (disch := omega) only [↓wi, wo, wrap64, reduceIte, Nat.reduceEqDiff, Nat.reduceAdd, Nat.reduceLT, Nat.reduceLeDiff, Nat.reduceMul, Nat.reduceSub, Int.reduceToNat, Int.reduceLT, Int.reduceLE, Int.reduceEq, Int.reduceAdd, reduceCtorEq]
  refine AW_wk (Wk_live [0, 1, 7, 8, 9]) (AW_inv mixed (n := l.length) (fun n s => ∃ i : Nat, i + n = l.length ∧ onceR nm l = allI (fun i x => named (nm x) && decide (findI (fun y => decide (nm y = nm x)) 0 l = (i : Int))) i (l.drop i) ∧ s = ⟨0, [(0, .c (.sl 8 (l.map enc))), (1, .fn o [] []), (7, .c (.sl 8 (l.map enc))), (8, vi l.length), (9, vi i)], []⟩) ⟨0, by omega, rfl, rfl⟩ ?_)
  rintro n _ ⟨i, hi, hf, rfl⟩
  simp -dsimp (disch := omega) only [↓wi, wo, wrap64, reduceIte, Nat.reduceEqDiff, Nat.reduceAdd, Nat.reduceLT, Nat.reduceLeDiff, Nat.reduceMul, Nat.reduceSub, Int.reduceToNat, Int.reduceLT, Int.reduceLE, Int.reduceEq, Int.reduceAdd, reduceCtorEq]
  refine forkd (fun _ => ?_) (fun _ => ?_)
  · have hi' : i < l.length := by omega
    rw [allI_at hi'] at hf
    have hx := getD_map (f := enc) hi'
    generalize l[i] = x at hf hx
    have hl := hm x
    have hoi := ho x
    simp -dsimp (disch := omega) only [↓wi, wo, wrap64, reduceIte, Nat.reduceEqDiff, Nat.reduceAdd, Nat.reduceLT, Nat.reduceLeDiff, Nat.reduceMul, Nat.reduceSub, Int.reduceToNat, Int.reduceLT, Int.reduceLE, Int.reduceEq, Int.reduceAdd, reduceCtorEq]
    refine need (by omega) ?_
    simp -dsimp (disch := omega) only [↓wi, wo, wrap64, reduceIte, Nat.reduceEqDiff, Nat.reduceAdd, Nat.reduceLT, Nat.reduceLeDiff, Nat.reduceMul, Nat.reduceSub, Int.reduceToNat, Int.reduceLT, Int.reduceLE, Int.reduceEq, Int.reduceAdd, reduceCtorEq, hx, hl, take_all (Nat.le_of_eq hl), take_mapc hl]
    refine calls_p hoi (data_ag _) rfl ?_
    simp -dsimp (disch := omega) only [↓wi, wo, wrap64, reduceIte, Nat.reduceEqDiff, Nat.reduceAdd, Nat.reduceLT, Nat.reduceLeDiff, Nat.reduceMul, Nat.reduceSub, Int.reduceToNat, Int.reduceLT, Int.reduceLE, Int.reduceEq, Int.reduceAdd, reduceCtorEq]
    refine calls_p (p_named _) rfl rfl ?_
    simp -dsimp (disch := omega) only [↓wi, wo, wrap64, reduceIte, Nat.reduceEqDiff, Nat.reduceAdd, Nat.reduceLT, Nat.reduceLeDiff, Nat.reduceMul, Nat.reduceSub, Int.reduceToNat, Int.reduceLT, Int.reduceLE, Int.reduceEq, Int.reduceAdd, reduceCtorEq]
    refine fork (fun h1 => ?_) (fun h1 => ?_)
    · simp -dsimp (disch := omega) only [↓wi, wo, wrap64, reduceIte, Nat.reduceEqDiff, Nat.reduceAdd, Nat.reduceLT, Nat.reduceLeDiff, Nat.reduceMul, Nat.reduceSub, Int.reduceToNat, Int.reduceLT, Int.reduceLE, Int.reduceEq, Int.reduceAdd, reduceCtorEq, h1, hl, take_mapc hl]
      refine calls_p hoi (data_ag _) rfl ?_
      simp -dsimp (disch := omega) only [↓wi, wo, wrap64, reduceIte, Nat.reduceEqDiff, Nat.reduceAdd, Nat.reduceLT, Nat.reduceLeDiff, Nat.reduceMul, Nat.reduceSub, Int.reduceToNat, Int.reduceLT, Int.reduceLE, Int.reduceEq, Int.reduceAdd, reduceCtorEq, h1]
      refine calls_p (p_findF hm ho _) rfl rfl ?_
      simp -dsimp (disch := omega) only [↓wi, wo, wrap64, reduceIte, Nat.reduceEqDiff, Nat.reduceAdd, Nat.reduceLT, Nat.reduceLeDiff, Nat.reduceMul, Nat.reduceSub, Int.reduceToNat, Int.reduceLT, Int.reduceLE, Int.reduceEq, Int.reduceAdd, reduceCtorEq, h1]
      refine forkd (fun h2 => ?_) (fun h2 => ?_)
      · simp -dsimp (disch := omega) only [↓wi, wo, wrap64, reduceIte, Nat.reduceEqDiff, Nat.reduceAdd, Nat.reduceLT, Nat.reduceLeDiff, Nat.reduceMul, Nat.reduceSub, Int.reduceToNat, Int.reduceLT, Int.reduceLE, Int.reduceEq, Int.reduceAdd, reduceCtorEq, h1]
        refine ⟨n - 1, _, by omega, (Wk_cut [] [0, 1, 7, 8, 9] (by simp) (by simp)), i + 1, by omega, ?_, rfl⟩
        rw [hf, h1, decide_eq_true h2]; rfl
      · simp -dsimp (disch := omega) only [↓wi, wo, wrap64, reduceIte, Nat.reduceEqDiff, Nat.reduceAdd, Nat.reduceLT, Nat.reduceLeDiff, Nat.reduceMul, Nat.reduceSub, Int.reduceToNat, Int.reduceLT, Int.reduceLE, Int.reduceEq, Int.reduceAdd, reduceCtorEq, h1]
        refine ret_p ?_
        rw [hf, h1, decide_eq_false h2]; rfl
    · simp -dsimp (disch := omega) only [↓wi, wo, wrap64, reduceIte, Nat.reduceEqDiff, Nat.reduceAdd, Nat.reduceLT, Nat.reduceLeDiff, Nat.reduceMul, Nat.reduceSub, Int.reduceToNat, Int.reduceLT, Int.reduceLE, Int.reduceEq, Int.reduceAdd, reduceCtorEq, h1]
      refine ret_p ?_
      rw [hf, h1]; rfl
  · simp -dsimp (disch := omega) only [↓wi, wo, wrap64, reduceIte, Nat.reduceEqDiff, Nat.reduceAdd, Nat.reduceLT, Nat.reduceLeDiff, Nat.reduceMul, Nat.reduceSub, Int.reduceToNat, Int.reduceLT, Int.reduceLE, Int.reduceEq, Int.reduceAdd, reduceCtorEq]
    refine ret_p ?_
    rw [hf, allI_end (by omega)]
    rfl
theorem h_indexS {α : Type} {enc : α → List Cell} {H : List AObj} {g : Nat} {first caps : List SV} {l : List α} {p : α → Bool} (hm : ∀ a, (enc a).length = 3) (hb : Bod Tryz.prog g)
    (hg : ∀ x ∈ l, ACalls Tryz.prog g (first ++ [ag (enc x)] ++ caps) H fun o H1 => o = .ret (vb (p x)) ∧ H1 = H) :
    ACalls Tryz.prog 127 [.c (.sl 3 (l.map enc)), .fn g first caps] H fun o H1 => o = .ret (vi (findI p 0 l)) ∧ H1 = H := by
  refine ac_of mixed F127 (by simp) ?_
  simp -dsimp (disch := omega) only [↓wi, wo, wrap64, reduceIte, Nat.reduceEqDiff, Nat.reduceAdd, Nat.reduceLT, Nat.reduceLeDiff, Nat.reduceMul, Nat.reduceSub, Int.reduceToNat, Int.reduceLT, Int.reduceLE, Int.reduceEq, Int.reduceAdd, reduceCtorEq, c127, enter]
  refine give fun hlen => ?_
  simp -dsimp (disch := omega) only [↓wi, wo, wrap64, reduceIte, Nat.reduceEqDiff, Nat.reduceAdd, Nat.reduceLT, Nat.reduceLeDiff, Nat.reduceMul, Nat.reduceSub, Int.reduceToNat, Int.reduceLT, Int.reduceLE, Int.reduceEq, Int.reduceAdd, reduceCtorEq]
  refine AW_wk (Wk_live [0, 1, 7, 8]) (AW_inv mixed (n := l.length) (fun n s => ∃ i : Nat, i + n = l.length ∧ findI p 0 l = findI p i (l.drop i) ∧ s = ⟨H.length, [(0, .c (.sl 3 (l.map enc))), (1, .fn g first caps), (7, vi l.length), (8, vi i)], H⟩) ⟨0, by omega, rfl, rfl⟩ ?_)
  rintro n _ ⟨i, hi, hf, rfl⟩
  simp -dsimp (disch := omega) only [↓wi, wo, wrap64, reduceIte, Nat.reduceEqDiff, Nat.reduceAdd, Nat.reduceLT, Nat.reduceLeDiff, Nat.reduceMul, Nat.reduceSub, Int.reduceToNat, Int.reduceLT, Int.reduceLE, Int.reduceEq, Int.reduceAdd, reduceCtorEq]
  refine forkd (fun _ => ?_) (fun _ => ?_)
  · have hi' : i < l.length := by omega
    simp -dsimp (disch := omega) only [↓wi, wo, wrap64, reduceIte, Nat.reduceEqDiff, Nat.reduceAdd, Nat.reduceLT, Nat.reduceLeDiff, Nat.reduceMul, Nat.reduceSub, Int.reduceToNat, Int.reduceLT, Int.reduceLE, Int.reduceEq, Int.reduceAdd, reduceCtorEq]
    refine need (by omega) ?_
    simp -dsimp (disch := omega) only [↓wi, wo, wrap64, reduceIte, Nat.reduceEqDiff, Nat.reduceAdd, Nat.reduceLT, Nat.reduceLeDiff, Nat.reduceMul, Nat.reduceSub, Int.reduceToNat, Int.reduceLT, Int.reduceLE, Int.reduceEq, Int.reduceAdd, reduceCtorEq, getD_map hi', hm, take_all (Nat.le_of_eq (hm _))]
    refine calls_h hb (hg _ (List.getElem_mem hi')) ?_
    simp -dsimp (disch := omega) only [↓wi, wo, wrap64, reduceIte, Nat.reduceEqDiff, Nat.reduceAdd, Nat.reduceLT, Nat.reduceLeDiff, Nat.reduceMul, Nat.reduceSub, Int.reduceToNat, Int.reduceLT, Int.reduceLE, Int.reduceEq, Int.reduceAdd, reduceCtorEq]
    refine fork (fun h => ?_) (fun h => ?_)
    · simp -dsimp (disch := omega) only [↓wi, wo, wrap64, reduceIte, Nat.reduceEqDiff, Nat.reduceAdd, Nat.reduceLT, Nat.reduceLeDiff, Nat.reduceMul, Nat.reduceSub, Int.reduceToNat, Int.reduceLT, Int.reduceLE, Int.reduceEq, Int.reduceAdd, reduceCtorEq]
      refine ret_s (.inl rfl) rfl ?_
      rw [hf, findI_at hi', h]
      rfl
    · simp -dsimp (disch := omega) only [↓wi, wo, wrap64, reduceIte, Nat.reduceEqDiff, Nat.reduceAdd, Nat.reduceLT, Nat.reduceLeDiff, Nat.reduceMul, Nat.reduceSub, Int.reduceToNat, Int.reduceLT, Int.reduceLE, Int.reduceEq, Int.reduceAdd, reduceCtorEq]
      refine ⟨n - 1, _, by omega, Wk_live [0, 1, 7, 8], i + 1, by omega, ?_, rfl⟩
      rw [hf, findI_at hi', h]
      rfl
  · simp -dsimp (disch := omega) only [↓wi, wo, wrap64, reduceIte, Nat.reduceEqDiff, Nat.reduceAdd, Nat.reduceLT, Nat.reduceLeDiff, Nat.reduceMul, Nat.reduceSub, Int.reduceToNat, Int.reduceLT, Int.reduceLE, Int.reduceEq, Int.reduceAdd, reduceCtorEq]
    refine ret_s (.inl rfl) rfl ?_
    rw [hf, findI_end (by omega)]
    rfl
theorem h_containsS {α : Type} {enc : α → List Cell} {H : List AObj} {g : Nat} {first caps : List SV} {l : List α} {p : α → Bool} (hm : ∀ a, (enc a).length = 3) (hb : Bod Tryz.prog g)
    (hg : ∀ x ∈ l, ACalls Tryz.prog g (first ++ [ag (enc x)] ++ caps) H fun o H1 => o = .ret (vb (p x)) ∧ H1 = H) :
    ACalls Tryz.prog 71 [.c (.sl 3 (l.map enc)), .fn g first caps] H fun o H1 => o = .ret (vb (l.any p)) ∧ H1 = H := by
  refine ac_of mixed F71 (by simp) ?_
  simp -dsimp (disch := omega) only [↓wi, wo, wrap64, reduceIte, Nat.reduceEqDiff, Nat.reduceAdd, Nat.reduceLT, Nat.reduceLeDiff, Nat.reduceMul, Nat.reduceSub, Int.reduceToNat, Int.reduceLT, Int.reduceLE, Int.reduceEq, Int.reduceAdd, reduceCtorEq, c71, enter]
  refine calls_h B127 (h_indexS hm hb hg) ?_
  simp -dsimp (disch := omega) only [↓wi, wo, wrap64, reduceIte, Nat.reduceEqDiff, Nat.reduceAdd, Nat.reduceLT, Nat.reduceLeDiff, Nat.reduceMul, Nat.reduceSub, Int.reduceToNat, Int.reduceLT, Int.reduceLE, Int.reduceEq, Int.reduceAdd, reduceCtorEq]
  refine forkd (fun h => ?_) (fun h => ?_) <;> simp -dsimp (disch := omega) only [↓wi, wo, wrap64, reduceIte, Nat.reduceEqDiff, Nat.reduceAdd, Nat.reduceLT, Nat.reduceLeDiff, Nat.reduceMul, Nat.reduceSub, Int.reduceToNat, Int.reduceLT, Int.reduceLE, Int.reduceEq, Int.reduceAdd, reduceCtorEq] <;> refine ret_s (.inl rfl) rfl ?_ <;> rw [← findI_any l 0] <;> simp [h] <;> rfl
theorem p_findcS {x : List Cell} {o : Nat} {name : ByteArray} {s : ByteArray} (hx : x.length = 3) (ho : PC Tryz.prog o [ag x] (.ret (vs s))) :
    ACalls Tryz.prog 184 [ag x, .ptr 1 0, .ptr 0 0] [.box [vs name], .box [.fn o [] []]] fun o' H1 => o' = .ret (vb (decide (s = name))) ∧ H1 = [.box [vs name], .box [.fn o [] []]] := by
  refine ac_of mixed F184 (by simp) ?_
  simp -dsimp (disch := omega) only [↓wi, wo, wrap64, reduceIte, Nat.reduceEqDiff, Nat.reduceAdd, Nat.reduceLT, Nat.reduceLeDiff, Nat.reduceMul, Nat.reduceSub, Int.reduceToNat, Int.reduceLT, Int.reduceLE, Int.reduceEq, Int.reduceAdd, reduceCtorEq, c184, enter, hx, take_mapc hx]
  refine qv_p ho (data_ag _) rfl ?_
  simp -dsimp (disch := omega) only [↓wi, wo, wrap64, reduceIte, Nat.reduceEqDiff, Nat.reduceAdd, Nat.reduceLT, Nat.reduceLeDiff, Nat.reduceMul, Nat.reduceSub, Int.reduceToNat, Int.reduceLT, Int.reduceLE, Int.reduceEq, Int.reduceAdd, reduceCtorEq]
  refine forkd (fun h => ?_) (fun h => ?_)
  · simp -dsimp (disch := omega) only [↓wi, wo, wrap64, reduceIte, Nat.reduceEqDiff, Nat.reduceAdd, Nat.reduceLT, Nat.reduceLeDiff, Nat.reduceMul, Nat.reduceSub, Int.reduceToNat, Int.reduceLT, Int.reduceLE, Int.reduceEq, Int.reduceAdd, reduceCtorEq]
    refine ret_i [true, true] rfl (by simp) (by simp) ⟨?_, rfl⟩
    rw [decide_eq_true h]; rfl
  · simp -dsimp (disch := omega) only [↓wi, wo, wrap64, reduceIte, Nat.reduceEqDiff, Nat.reduceAdd, Nat.reduceLT, Nat.reduceLeDiff, Nat.reduceMul, Nat.reduceSub, Int.reduceToNat, Int.reduceLT, Int.reduceLE, Int.reduceEq, Int.reduceAdd, reduceCtorEq]
    refine ret_i [true, true] rfl (by simp) (by simp) ⟨?_, rfl⟩
    rw [decide_eq_false h]; rfl
theorem p_findS {α : Type} {enc : α → List Cell} {l : List α} {nm : α → ByteArray} {o : Nat} (hm : ∀ a, (enc a).length = 3) (ho : ∀ x, PC Tryz.prog o [ag (enc x)] (.ret (vs (nm x)))) (name : ByteArray) :
    PC Tryz.prog 120 [.c (.sl 3 (l.map enc)), vs name, .fn o [] []] (.ret (vi (findI (fun x => decide (nm x = name)) 0 l))) := by
  refine pc_of mixed F120 (by simp) ?_
  simp -dsimp (disch := omega) only [↓wi, wo, wrap64, reduceIte, Nat.reduceEqDiff, Nat.reduceAdd, Nat.reduceLT, Nat.reduceLeDiff, Nat.reduceMul, Nat.reduceSub, Int.reduceToNat, Int.reduceLT, Int.reduceLE, Int.reduceEq, Int.reduceAdd, reduceCtorEq, c120, enter]
  refine calls_h B127 (h_indexS hm B184 fun x hx => p_findcS (hm x) (ho x)) ?_
  simp -dsimp (disch := omega) only [↓wi, wo, wrap64, reduceIte, Nat.reduceEqDiff, Nat.reduceAdd, Nat.reduceLT, Nat.reduceLeDiff, Nat.reduceMul, Nat.reduceSub, Int.reduceToNat, Int.reduceLT, Int.reduceLE, Int.reduceEq, Int.reduceAdd, reduceCtorEq]
  exact ret_p rfl
theorem p_onceS {α : Type} {enc : α → List Cell} {l : List α} {nm : α → ByteArray} {o : Nat} (hm : ∀ a, (enc a).length = 3) (ho : ∀ x, PC Tryz.prog o [ag (enc x)] (.ret (vs (nm x)))) :
    PC Tryz.prog 69 [.c (.sl 3 (l.map enc)), .fn o [] []] (.ret (vb (onceR nm l))) := by
  refine pc_of mixed F69 (by simp) ?_
  simp -dsimp (disch := omega) only [↓wi, wo, wrap64, reduceIte, Nat.reduceEqDiff, Nat.reduceAdd, Nat.reduceLT, Nat.reduceLeDiff, Nat.reduceMul, Nat.reduceSub, Int.reduceToNat, Int.reduceLT, Int.reduceLE, Int.reduceEq, Int.reduceAdd, reduceCtorEq, c69, enter]
  refine give fun _ => ?_
  simp -dsimp (disch := omega) only [↓wi, wo, wrap64, reduceIte, Nat.reduceEqDiff, Nat.reduceAdd, Nat.reduceLT, Nat.reduceLeDiff, Nat.reduceMul, Nat.reduceSub, Int.reduceToNat, Int.reduceLT, Int.reduceLE, Int.reduceEq, Int.reduceAdd, reduceCtorEq]
  refine AW_wk (Wk_live [0, 1, 7, 8, 9]) (AW_inv mixed (n := l.length) (fun n s => ∃ i : Nat, i + n = l.length ∧ onceR nm l = allI (fun i x => named (nm x) && decide (findI (fun y => decide (nm y = nm x)) 0 l = (i : Int))) i (l.drop i) ∧ s = ⟨0, [(0, .c (.sl 3 (l.map enc))), (1, .fn o [] []), (7, .c (.sl 3 (l.map enc))), (8, vi l.length), (9, vi i)], []⟩) ⟨0, by omega, rfl, rfl⟩ ?_)
  rintro n _ ⟨i, hi, hf, rfl⟩
  simp -dsimp (disch := omega) only [↓wi, wo, wrap64, reduceIte, Nat.reduceEqDiff, Nat.reduceAdd, Nat.reduceLT, Nat.reduceLeDiff, Nat.reduceMul, Nat.reduceSub, Int.reduceToNat, Int.reduceLT, Int.reduceLE, Int.reduceEq, Int.reduceAdd, reduceCtorEq]
  refine forkd (fun _ => ?_) (fun _ => ?_)
  · have hi' : i < l.length := by omega
    rw [allI_at hi'] at hf
    have hx := getD_map (f := enc) hi'
    generalize l[i] = x at hf hx
    have hl := hm x
    have hoi := ho x
    simp -dsimp (disch := omega) only [↓wi, wo, wrap64, reduceIte, Nat.reduceEqDiff, Nat.reduceAdd, Nat.reduceLT, Nat.reduceLeDiff, Nat.reduceMul, Nat.reduceSub, Int.reduceToNat, Int.reduceLT, Int.reduceLE, Int.reduceEq, Int.reduceAdd, reduceCtorEq]
    refine need (by omega) ?_
    simp -dsimp (disch := omega) only [↓wi, wo, wrap64, reduceIte, Nat.reduceEqDiff, Nat.reduceAdd, Nat.reduceLT, Nat.reduceLeDiff, Nat.reduceMul, Nat.reduceSub, Int.reduceToNat, Int.reduceLT, Int.reduceLE, Int.reduceEq, Int.reduceAdd, reduceCtorEq, hx, hl, take_all (Nat.le_of_eq hl), take_mapc hl]
    refine calls_p hoi (data_ag _) rfl ?_
    simp -dsimp (disch := omega) only [↓wi, wo, wrap64, reduceIte, Nat.reduceEqDiff, Nat.reduceAdd, Nat.reduceLT, Nat.reduceLeDiff, Nat.reduceMul, Nat.reduceSub, Int.reduceToNat, Int.reduceLT, Int.reduceLE, Int.reduceEq, Int.reduceAdd, reduceCtorEq]
    refine calls_p (p_named _) rfl rfl ?_
    simp -dsimp (disch := omega) only [↓wi, wo, wrap64, reduceIte, Nat.reduceEqDiff, Nat.reduceAdd, Nat.reduceLT, Nat.reduceLeDiff, Nat.reduceMul, Nat.reduceSub, Int.reduceToNat, Int.reduceLT, Int.reduceLE, Int.reduceEq, Int.reduceAdd, reduceCtorEq]
    refine fork (fun h1 => ?_) (fun h1 => ?_)
    · simp -dsimp (disch := omega) only [↓wi, wo, wrap64, reduceIte, Nat.reduceEqDiff, Nat.reduceAdd, Nat.reduceLT, Nat.reduceLeDiff, Nat.reduceMul, Nat.reduceSub, Int.reduceToNat, Int.reduceLT, Int.reduceLE, Int.reduceEq, Int.reduceAdd, reduceCtorEq, h1, hl, take_mapc hl]
      refine calls_p hoi (data_ag _) rfl ?_
      simp -dsimp (disch := omega) only [↓wi, wo, wrap64, reduceIte, Nat.reduceEqDiff, Nat.reduceAdd, Nat.reduceLT, Nat.reduceLeDiff, Nat.reduceMul, Nat.reduceSub, Int.reduceToNat, Int.reduceLT, Int.reduceLE, Int.reduceEq, Int.reduceAdd, reduceCtorEq, h1]
      refine calls_p (p_findS hm ho _) rfl rfl ?_
      simp -dsimp (disch := omega) only [↓wi, wo, wrap64, reduceIte, Nat.reduceEqDiff, Nat.reduceAdd, Nat.reduceLT, Nat.reduceLeDiff, Nat.reduceMul, Nat.reduceSub, Int.reduceToNat, Int.reduceLT, Int.reduceLE, Int.reduceEq, Int.reduceAdd, reduceCtorEq, h1]
      refine forkd (fun h2 => ?_) (fun h2 => ?_)
      · simp -dsimp (disch := omega) only [↓wi, wo, wrap64, reduceIte, Nat.reduceEqDiff, Nat.reduceAdd, Nat.reduceLT, Nat.reduceLeDiff, Nat.reduceMul, Nat.reduceSub, Int.reduceToNat, Int.reduceLT, Int.reduceLE, Int.reduceEq, Int.reduceAdd, reduceCtorEq, h1]
        refine ⟨n - 1, _, by omega, (Wk_cut [] [0, 1, 7, 8, 9] (by simp) (by simp)), i + 1, by omega, ?_, rfl⟩
        rw [hf, h1, decide_eq_true h2]; rfl
      · simp -dsimp (disch := omega) only [↓wi, wo, wrap64, reduceIte, Nat.reduceEqDiff, Nat.reduceAdd, Nat.reduceLT, Nat.reduceLeDiff, Nat.reduceMul, Nat.reduceSub, Int.reduceToNat, Int.reduceLT, Int.reduceLE, Int.reduceEq, Int.reduceAdd, reduceCtorEq, h1]
        refine ret_p ?_
        rw [hf, h1, decide_eq_false h2]; rfl
    · simp -dsimp (disch := omega) only [↓wi, wo, wrap64, reduceIte, Nat.reduceEqDiff, Nat.reduceAdd, Nat.reduceLT, Nat.reduceLeDiff, Nat.reduceMul, Nat.reduceSub, Int.reduceToNat, Int.reduceLT, Int.reduceLE, Int.reduceEq, Int.reduceAdd, reduceCtorEq, h1]
      refine ret_p ?_
      rw [hf, h1]; rfl
  · simp -dsimp (disch := omega) only [↓wi, wo, wrap64, reduceIte, Nat.reduceEqDiff, Nat.reduceAdd, Nat.reduceLT, Nat.reduceLeDiff, Nat.reduceMul, Nat.reduceSub, Int.reduceToNat, Int.reduceLT, Int.reduceLE, Int.reduceEq, Int.reduceAdd, reduceCtorEq]
    refine ret_p ?_
    rw [hf, allI_end (by omega)]
    rfl
theorem h_indexM {α : Type} {enc : α → List Cell} {H : List AObj} {g : Nat} {first caps : List SV} {l : List α} {p : α → Bool} (hm : ∀ a, (enc a).length = 13) (hb : Bod Tryz.prog g)
    (hg : ∀ x ∈ l, ACalls Tryz.prog g (first ++ [ag (enc x)] ++ caps) H fun o H1 => o = .ret (vb (p x)) ∧ H1 = H) :
    ACalls Tryz.prog 129 [.c (.sl 13 (l.map enc)), .fn g first caps] H fun o H1 => o = .ret (vi (findI p 0 l)) ∧ H1 = H := by
  refine ac_of mixed F129 (by simp) ?_
  simp -dsimp (disch := omega) only [↓wi, wo, wrap64, reduceIte, Nat.reduceEqDiff, Nat.reduceAdd, Nat.reduceLT, Nat.reduceLeDiff, Nat.reduceMul, Nat.reduceSub, Int.reduceToNat, Int.reduceLT, Int.reduceLE, Int.reduceEq, Int.reduceAdd, reduceCtorEq, c129, enter]
  refine give fun hlen => ?_
  simp -dsimp (disch := omega) only [↓wi, wo, wrap64, reduceIte, Nat.reduceEqDiff, Nat.reduceAdd, Nat.reduceLT, Nat.reduceLeDiff, Nat.reduceMul, Nat.reduceSub, Int.reduceToNat, Int.reduceLT, Int.reduceLE, Int.reduceEq, Int.reduceAdd, reduceCtorEq]
  refine AW_wk (Wk_live [0, 1, 7, 8]) (AW_inv mixed (n := l.length) (fun n s => ∃ i : Nat, i + n = l.length ∧ findI p 0 l = findI p i (l.drop i) ∧ s = ⟨H.length, [(0, .c (.sl 13 (l.map enc))), (1, .fn g first caps), (7, vi l.length), (8, vi i)], H⟩) ⟨0, by omega, rfl, rfl⟩ ?_)
  rintro n _ ⟨i, hi, hf, rfl⟩
  simp -dsimp (disch := omega) only [↓wi, wo, wrap64, reduceIte, Nat.reduceEqDiff, Nat.reduceAdd, Nat.reduceLT, Nat.reduceLeDiff, Nat.reduceMul, Nat.reduceSub, Int.reduceToNat, Int.reduceLT, Int.reduceLE, Int.reduceEq, Int.reduceAdd, reduceCtorEq]
  refine forkd (fun _ => ?_) (fun _ => ?_)
  · have hi' : i < l.length := by omega
    simp -dsimp (disch := omega) only [↓wi, wo, wrap64, reduceIte, Nat.reduceEqDiff, Nat.reduceAdd, Nat.reduceLT, Nat.reduceLeDiff, Nat.reduceMul, Nat.reduceSub, Int.reduceToNat, Int.reduceLT, Int.reduceLE, Int.reduceEq, Int.reduceAdd, reduceCtorEq]
    refine need (by omega) ?_
    simp -dsimp (disch := omega) only [↓wi, wo, wrap64, reduceIte, Nat.reduceEqDiff, Nat.reduceAdd, Nat.reduceLT, Nat.reduceLeDiff, Nat.reduceMul, Nat.reduceSub, Int.reduceToNat, Int.reduceLT, Int.reduceLE, Int.reduceEq, Int.reduceAdd, reduceCtorEq, getD_map hi', hm, take_all (Nat.le_of_eq (hm _))]
    refine calls_h hb (hg _ (List.getElem_mem hi')) ?_
    simp -dsimp (disch := omega) only [↓wi, wo, wrap64, reduceIte, Nat.reduceEqDiff, Nat.reduceAdd, Nat.reduceLT, Nat.reduceLeDiff, Nat.reduceMul, Nat.reduceSub, Int.reduceToNat, Int.reduceLT, Int.reduceLE, Int.reduceEq, Int.reduceAdd, reduceCtorEq]
    refine fork (fun h => ?_) (fun h => ?_)
    · simp -dsimp (disch := omega) only [↓wi, wo, wrap64, reduceIte, Nat.reduceEqDiff, Nat.reduceAdd, Nat.reduceLT, Nat.reduceLeDiff, Nat.reduceMul, Nat.reduceSub, Int.reduceToNat, Int.reduceLT, Int.reduceLE, Int.reduceEq, Int.reduceAdd, reduceCtorEq]
      refine ret_s (.inl rfl) rfl ?_
      rw [hf, findI_at hi', h]
      rfl
    · simp -dsimp (disch := omega) only [↓wi, wo, wrap64, reduceIte, Nat.reduceEqDiff, Nat.reduceAdd, Nat.reduceLT, Nat.reduceLeDiff, Nat.reduceMul, Nat.reduceSub, Int.reduceToNat, Int.reduceLT, Int.reduceLE, Int.reduceEq, Int.reduceAdd, reduceCtorEq]
      refine ⟨n - 1, _, by omega, Wk_live [0, 1, 7, 8], i + 1, by omega, ?_, rfl⟩
      rw [hf, findI_at hi', h]
      rfl
  · simp -dsimp (disch := omega) only [↓wi, wo, wrap64, reduceIte, Nat.reduceEqDiff, Nat.reduceAdd, Nat.reduceLT, Nat.reduceLeDiff, Nat.reduceMul, Nat.reduceSub, Int.reduceToNat, Int.reduceLT, Int.reduceLE, Int.reduceEq, Int.reduceAdd, reduceCtorEq]
    refine ret_s (.inl rfl) rfl ?_
    rw [hf, findI_end (by omega)]
    rfl
theorem h_containsM {α : Type} {enc : α → List Cell} {H : List AObj} {g : Nat} {first caps : List SV} {l : List α} {p : α → Bool} (hm : ∀ a, (enc a).length = 13) (hb : Bod Tryz.prog g)
    (hg : ∀ x ∈ l, ACalls Tryz.prog g (first ++ [ag (enc x)] ++ caps) H fun o H1 => o = .ret (vb (p x)) ∧ H1 = H) :
    ACalls Tryz.prog 76 [.c (.sl 13 (l.map enc)), .fn g first caps] H fun o H1 => o = .ret (vb (l.any p)) ∧ H1 = H := by
  refine ac_of mixed F76 (by simp) ?_
  simp -dsimp (disch := omega) only [↓wi, wo, wrap64, reduceIte, Nat.reduceEqDiff, Nat.reduceAdd, Nat.reduceLT, Nat.reduceLeDiff, Nat.reduceMul, Nat.reduceSub, Int.reduceToNat, Int.reduceLT, Int.reduceLE, Int.reduceEq, Int.reduceAdd, reduceCtorEq, c76, enter]
  refine calls_h B129 (h_indexM hm hb hg) ?_
  simp -dsimp (disch := omega) only [↓wi, wo, wrap64, reduceIte, Nat.reduceEqDiff, Nat.reduceAdd, Nat.reduceLT, Nat.reduceLeDiff, Nat.reduceMul, Nat.reduceSub, Int.reduceToNat, Int.reduceLT, Int.reduceLE, Int.reduceEq, Int.reduceAdd, reduceCtorEq]
  refine forkd (fun h => ?_) (fun h => ?_) <;> simp -dsimp (disch := omega) only [↓wi, wo, wrap64, reduceIte, Nat.reduceEqDiff, Nat.reduceAdd, Nat.reduceLT, Nat.reduceLeDiff, Nat.reduceMul, Nat.reduceSub, Int.reduceToNat, Int.reduceLT, Int.reduceLE, Int.reduceEq, Int.reduceAdd, reduceCtorEq] <;> refine ret_s (.inl rfl) rfl ?_ <;> rw [← findI_any l 0] <;> simp [h] <;> rfl
theorem p_findcM {x : List Cell} {o : Nat} {name : ByteArray} {s : ByteArray} (hx : x.length = 13) (ho : PC Tryz.prog o [ag x] (.ret (vs s))) :
    ACalls Tryz.prog 188 [ag x, .ptr 1 0, .ptr 0 0] [.box [vs name], .box [.fn o [] []]] fun o' H1 => o' = .ret (vb (decide (s = name))) ∧ H1 = [.box [vs name], .box [.fn o [] []]] := by
  refine ac_of mixed F188 (by simp) ?_
  simp -dsimp (disch := omega) only [↓wi, wo, wrap64, reduceIte, Nat.reduceEqDiff, Nat.reduceAdd, Nat.reduceLT, Nat.reduceLeDiff, Nat.reduceMul, Nat.reduceSub, Int.reduceToNat, Int.reduceLT, Int.reduceLE, Int.reduceEq, Int.reduceAdd, reduceCtorEq, c188, enter, hx, take_mapc hx]
  refine qv_p ho (data_ag _) rfl ?_
  simp -dsimp (disch := omega) only [↓wi, wo, wrap64, reduceIte, Nat.reduceEqDiff, Nat.reduceAdd, Nat.reduceLT, Nat.reduceLeDiff, Nat.reduceMul, Nat.reduceSub, Int.reduceToNat, Int.reduceLT, Int.reduceLE, Int.reduceEq, Int.reduceAdd, reduceCtorEq]
  refine forkd (fun h => ?_) (fun h => ?_)
  · simp -dsimp (disch := omega) only [↓wi, wo, wrap64, reduceIte, Nat.reduceEqDiff, Nat.reduceAdd, Nat.reduceLT, Nat.reduceLeDiff, Nat.reduceMul, Nat.reduceSub, Int.reduceToNat, Int.reduceLT, Int.reduceLE, Int.reduceEq, Int.reduceAdd, reduceCtorEq]
    refine ret_i [true, true] rfl (by simp) (by simp) ⟨?_, rfl⟩
    rw [decide_eq_true h]; rfl
  · simp -dsimp (disch := omega) only [↓wi, wo, wrap64, reduceIte, Nat.reduceEqDiff, Nat.reduceAdd, Nat.reduceLT, Nat.reduceLeDiff, Nat.reduceMul, Nat.reduceSub, Int.reduceToNat, Int.reduceLT, Int.reduceLE, Int.reduceEq, Int.reduceAdd, reduceCtorEq]
    refine ret_i [true, true] rfl (by simp) (by simp) ⟨?_, rfl⟩
    rw [decide_eq_false h]; rfl
theorem p_findM {α : Type} {enc : α → List Cell} {l : List α} {nm : α → ByteArray} {o : Nat} (hm : ∀ a, (enc a).length = 13) (ho : ∀ x, PC Tryz.prog o [ag (enc x)] (.ret (vs (nm x)))) (name : ByteArray) :
    PC Tryz.prog 128 [.c (.sl 13 (l.map enc)), vs name, .fn o [] []] (.ret (vi (findI (fun x => decide (nm x = name)) 0 l))) := by
  refine pc_of mixed F128 (by simp) ?_
  simp -dsimp (disch := omega) only [↓wi, wo, wrap64, reduceIte, Nat.reduceEqDiff, Nat.reduceAdd, Nat.reduceLT, Nat.reduceLeDiff, Nat.reduceMul, Nat.reduceSub, Int.reduceToNat, Int.reduceLT, Int.reduceLE, Int.reduceEq, Int.reduceAdd, reduceCtorEq, c128, enter]
  refine calls_h B129 (h_indexM hm B188 fun x hx => p_findcM (hm x) (ho x)) ?_
  simp -dsimp (disch := omega) only [↓wi, wo, wrap64, reduceIte, Nat.reduceEqDiff, Nat.reduceAdd, Nat.reduceLT, Nat.reduceLeDiff, Nat.reduceMul, Nat.reduceSub, Int.reduceToNat, Int.reduceLT, Int.reduceLE, Int.reduceEq, Int.reduceAdd, reduceCtorEq]
  exact ret_p rfl
theorem p_onceM {α : Type} {enc : α → List Cell} {l : List α} {nm : α → ByteArray} {o : Nat} (hm : ∀ a, (enc a).length = 13) (ho : ∀ x, PC Tryz.prog o [ag (enc x)] (.ret (vs (nm x)))) :
    PC Tryz.prog 74 [.c (.sl 13 (l.map enc)), .fn o [] []] (.ret (vb (onceR nm l))) := by
  refine pc_of mixed F74 (by simp) ?_
  simp -dsimp (disch := omega) only [↓wi, wo, wrap64, reduceIte, Nat.reduceEqDiff, Nat.reduceAdd, Nat.reduceLT, Nat.reduceLeDiff, Nat.reduceMul, Nat.reduceSub, Int.reduceToNat, Int.reduceLT, Int.reduceLE, Int.reduceEq, Int.reduceAdd, reduceCtorEq, c74, enter]
  refine give fun _ => ?_
  simp -dsimp (disch := omega) only [↓wi, wo, wrap64, reduceIte, Nat.reduceEqDiff, Nat.reduceAdd, Nat.reduceLT, Nat.reduceLeDiff, Nat.reduceMul, Nat.reduceSub, Int.reduceToNat, Int.reduceLT, Int.reduceLE, Int.reduceEq, Int.reduceAdd, reduceCtorEq]
  refine AW_wk (Wk_live [0, 1, 7, 8, 9]) (AW_inv mixed (n := l.length) (fun n s => ∃ i : Nat, i + n = l.length ∧ onceR nm l = allI (fun i x => named (nm x) && decide (findI (fun y => decide (nm y = nm x)) 0 l = (i : Int))) i (l.drop i) ∧ s = ⟨0, [(0, .c (.sl 13 (l.map enc))), (1, .fn o [] []), (7, .c (.sl 13 (l.map enc))), (8, vi l.length), (9, vi i)], []⟩) ⟨0, by omega, rfl, rfl⟩ ?_)
  rintro n _ ⟨i, hi, hf, rfl⟩
  simp -dsimp (disch := omega) only [↓wi, wo, wrap64, reduceIte, Nat.reduceEqDiff, Nat.reduceAdd, Nat.reduceLT, Nat.reduceLeDiff, Nat.reduceMul, Nat.reduceSub, Int.reduceToNat, Int.reduceLT, Int.reduceLE, Int.reduceEq, Int.reduceAdd, reduceCtorEq]
  refine forkd (fun _ => ?_) (fun _ => ?_)
  · have hi' : i < l.length := by omega
    rw [allI_at hi'] at hf
    have hx := getD_map (f := enc) hi'
    generalize l[i] = x at hf hx
    have hl := hm x
    have hoi := ho x
    simp -dsimp (disch := omega) only [↓wi, wo, wrap64, reduceIte, Nat.reduceEqDiff, Nat.reduceAdd, Nat.reduceLT, Nat.reduceLeDiff, Nat.reduceMul, Nat.reduceSub, Int.reduceToNat, Int.reduceLT, Int.reduceLE, Int.reduceEq, Int.reduceAdd, reduceCtorEq]
    refine need (by omega) ?_
    simp -dsimp (disch := omega) only [↓wi, wo, wrap64, reduceIte, Nat.reduceEqDiff, Nat.reduceAdd, Nat.reduceLT, Nat.reduceLeDiff, Nat.reduceMul, Nat.reduceSub, Int.reduceToNat, Int.reduceLT, Int.reduceLE, Int.reduceEq, Int.reduceAdd, reduceCtorEq, hx, hl, take_all (Nat.le_of_eq hl), take_mapc hl]
    refine calls_p hoi (data_ag _) rfl ?_
    simp -dsimp (disch := omega) only [↓wi, wo, wrap64, reduceIte, Nat.reduceEqDiff, Nat.reduceAdd, Nat.reduceLT, Nat.reduceLeDiff, Nat.reduceMul, Nat.reduceSub, Int.reduceToNat, Int.reduceLT, Int.reduceLE, Int.reduceEq, Int.reduceAdd, reduceCtorEq]
    refine calls_p (p_named _) rfl rfl ?_
    simp -dsimp (disch := omega) only [↓wi, wo, wrap64, reduceIte, Nat.reduceEqDiff, Nat.reduceAdd, Nat.reduceLT, Nat.reduceLeDiff, Nat.reduceMul, Nat.reduceSub, Int.reduceToNat, Int.reduceLT, Int.reduceLE, Int.reduceEq, Int.reduceAdd, reduceCtorEq]
    refine fork (fun h1 => ?_) (fun h1 => ?_)
    · simp -dsimp (disch := omega) only [↓wi, wo, wrap64, reduceIte, Nat.reduceEqDiff, Nat.reduceAdd, Nat.reduceLT, Nat.reduceLeDiff, Nat.reduceMul, Nat.reduceSub, Int.reduceToNat, Int.reduceLT, Int.reduceLE, Int.reduceEq, Int.reduceAdd, reduceCtorEq, h1, hl, take_mapc hl]
      refine calls_p hoi (data_ag _) rfl ?_
      simp -dsimp (disch := omega) only [↓wi, wo, wrap64, reduceIte, Nat.reduceEqDiff, Nat.reduceAdd, Nat.reduceLT, Nat.reduceLeDiff, Nat.reduceMul, Nat.reduceSub, Int.reduceToNat, Int.reduceLT, Int.reduceLE, Int.reduceEq, Int.reduceAdd, reduceCtorEq, h1]
      refine calls_p (p_findM hm ho _) rfl rfl ?_
      simp -dsimp (disch := omega) only [↓wi, wo, wrap64, reduceIte, Nat.reduceEqDiff, Nat.reduceAdd, Nat.reduceLT, Nat.reduceLeDiff, Nat.reduceMul, Nat.reduceSub, Int.reduceToNat, Int.reduceLT, Int.reduceLE, Int.reduceEq, Int.reduceAdd, reduceCtorEq, h1]
      refine forkd (fun h2 => ?_) (fun h2 => ?_)
      · simp -dsimp (disch := omega) only [↓wi, wo, wrap64, reduceIte, Nat.reduceEqDiff, Nat.reduceAdd, Nat.reduceLT, Nat.reduceLeDiff, Nat.reduceMul, Nat.reduceSub, Int.reduceToNat, Int.reduceLT, Int.reduceLE, Int.reduceEq, Int.reduceAdd, reduceCtorEq, h1]
        refine ⟨n - 1, _, by omega, (Wk_cut [] [0, 1, 7, 8, 9] (by simp) (by simp)), i + 1, by omega, ?_, rfl⟩
        rw [hf, h1, decide_eq_true h2]; rfl
      · simp -dsimp (disch := omega) only [↓wi, wo, wrap64, reduceIte, Nat.reduceEqDiff, Nat.reduceAdd, Nat.reduceLT, Nat.reduceLeDiff, Nat.reduceMul, Nat.reduceSub, Int.reduceToNat, Int.reduceLT, Int.reduceLE, Int.reduceEq, Int.reduceAdd, reduceCtorEq, h1]
        refine ret_p ?_
        rw [hf, h1, decide_eq_false h2]; rfl
    · simp -dsimp (disch := omega) only [↓wi, wo, wrap64, reduceIte, Nat.reduceEqDiff, Nat.reduceAdd, Nat.reduceLT, Nat.reduceLeDiff, Nat.reduceMul, Nat.reduceSub, Int.reduceToNat, Int.reduceLT, Int.reduceLE, Int.reduceEq, Int.reduceAdd, reduceCtorEq, h1]
      refine ret_p ?_
      rw [hf, h1]; rfl
  · simp -dsimp (disch := omega) only [↓wi, wo, wrap64, reduceIte, Nat.reduceEqDiff, Nat.reduceAdd, Nat.reduceLT, Nat.reduceLeDiff, Nat.reduceMul, Nat.reduceSub, Int.reduceToNat, Int.reduceLT, Int.reduceLE, Int.reduceEq, Int.reduceAdd, reduceCtorEq]
    refine ret_p ?_
    rw [hf, allI_end (by omega)]
    rfl
end Go.Proofs.YtbnelpgogjbgjaaGreat.Q
/- Rows of texts. -/
set_option linter.unusedVariables false
set_option linter.unusedSimpArgs false
namespace Go.Proofs.YtbnelpgogjbgjaaGreat.Q
open Go.RowKit

theorem len_strs (l : List ByteArray) : (strs l).length = l.length := by simp [strs]
theorem len_ints (l : List I64) : (ints l).length = l.length := by simp [ints]
theorem getD_strs {l : List ByteArray} {i : Nat} (h : i < l.length) : (strs l).getD i [] = [cs l[i]] := getD_map h
theorem getD_ints {l : List I64} {i : Nat} (h : i < l.length) : (ints l).getD i [] = [ci l[i].1] := getD_map h
theorem h_indexT {H : List AObj} {g : Nat} {first caps : List SV} {l : List ByteArray} {p : ByteArray → Bool} (hb : Bod Tryz.prog g)
    (hg : ∀ x ∈ l, ACalls Tryz.prog g (first ++ [vs x] ++ caps) H fun o H1 => o = .ret (vb (p x)) ∧ H1 = H) :
    ACalls Tryz.prog 187 [.c (.sl 1 (strs l)), .fn g first caps] H fun o H1 => o = .ret (vi (findI p 0 l)) ∧ H1 = H := by
  refine ac_of mixed F187 (by simp) ?_
  simp -dsimp (disch := omega) only [↓wi, wo, wrap64, reduceIte, Nat.reduceEqDiff, Nat.reduceAdd, Nat.reduceLT, Nat.reduceLeDiff, Nat.reduceMul, Nat.reduceSub, Int.reduceToNat, Int.reduceLT, Int.reduceLE, Int.reduceEq, Int.reduceAdd, reduceCtorEq, c187, enter]
  refine give fun hlen => ?_
  rw [len_strs] at hlen
  simp -dsimp (disch := omega) only [↓wi, wo, wrap64, reduceIte, Nat.reduceEqDiff, Nat.reduceAdd, Nat.reduceLT, Nat.reduceLeDiff, Nat.reduceMul, Nat.reduceSub, Int.reduceToNat, Int.reduceLT, Int.reduceLE, Int.reduceEq, Int.reduceAdd, reduceCtorEq, len_strs]
  refine AW_wk (Wk_live [0, 1, 7, 8]) (AW_inv mixed (n := l.length) (fun n s => ∃ i : Nat, i + n = l.length ∧ findI p 0 l = findI p i (l.drop i) ∧ s = ⟨H.length, [(0, .c (.sl 1 (strs l))), (1, .fn g first caps), (7, vi l.length), (8, vi i)], H⟩) ⟨0, by omega, rfl, rfl⟩ ?_)
  rintro n _ ⟨i, hi, hf, rfl⟩
  simp -dsimp (disch := omega) only [↓wi, wo, wrap64, reduceIte, Nat.reduceEqDiff, Nat.reduceAdd, Nat.reduceLT, Nat.reduceLeDiff, Nat.reduceMul, Nat.reduceSub, Int.reduceToNat, Int.reduceLT, Int.reduceLE, Int.reduceEq, Int.reduceAdd, reduceCtorEq]
  refine forkd (fun _ => ?_) (fun _ => ?_)
  · have hi' : i < l.length := by omega
    simp -dsimp (disch := omega) only [↓wi, wo, wrap64, reduceIte, Nat.reduceEqDiff, Nat.reduceAdd, Nat.reduceLT, Nat.reduceLeDiff, Nat.reduceMul, Nat.reduceSub, Int.reduceToNat, Int.reduceLT, Int.reduceLE, Int.reduceEq, Int.reduceAdd, reduceCtorEq, len_strs]
    refine need (by omega) ?_
    simp -dsimp (disch := omega) only [↓wi, wo, wrap64, reduceIte, Nat.reduceEqDiff, Nat.reduceAdd, Nat.reduceLT, Nat.reduceLeDiff, Nat.reduceMul, Nat.reduceSub, Int.reduceToNat, Int.reduceLT, Int.reduceLE, Int.reduceEq, Int.reduceAdd, reduceCtorEq, getD_strs hi']
    refine calls_h hb (hg _ (List.getElem_mem hi')) ?_
    simp -dsimp (disch := omega) only [↓wi, wo, wrap64, reduceIte, Nat.reduceEqDiff, Nat.reduceAdd, Nat.reduceLT, Nat.reduceLeDiff, Nat.reduceMul, Nat.reduceSub, Int.reduceToNat, Int.reduceLT, Int.reduceLE, Int.reduceEq, Int.reduceAdd, reduceCtorEq]
    refine fork (fun h => ?_) (fun h => ?_)
    · simp -dsimp (disch := omega) only [↓wi, wo, wrap64, reduceIte, Nat.reduceEqDiff, Nat.reduceAdd, Nat.reduceLT, Nat.reduceLeDiff, Nat.reduceMul, Nat.reduceSub, Int.reduceToNat, Int.reduceLT, Int.reduceLE, Int.reduceEq, Int.reduceAdd, reduceCtorEq]
      refine ret_s (.inl rfl) rfl ?_
      rw [hf, findI_at hi', h]
      rfl
    · simp -dsimp (disch := omega) only [↓wi, wo, wrap64, reduceIte, Nat.reduceEqDiff, Nat.reduceAdd, Nat.reduceLT, Nat.reduceLeDiff, Nat.reduceMul, Nat.reduceSub, Int.reduceToNat, Int.reduceLT, Int.reduceLE, Int.reduceEq, Int.reduceAdd, reduceCtorEq]
      refine ⟨n - 1, _, by omega, Wk_live [0, 1, 7, 8], i + 1, by omega, ?_, rfl⟩
      rw [hf, findI_at hi', h]
      rfl
  · simp -dsimp (disch := omega) only [↓wi, wo, wrap64, reduceIte, Nat.reduceEqDiff, Nat.reduceAdd, Nat.reduceLT, Nat.reduceLeDiff, Nat.reduceMul, Nat.reduceSub, Int.reduceToNat, Int.reduceLT, Int.reduceLE, Int.reduceEq, Int.reduceAdd, reduceCtorEq]
    refine ret_s (.inl rfl) rfl ?_
    rw [hf, findI_end (by omega)]
    rfl
theorem h_containsT {H : List AObj} {g : Nat} {first caps : List SV} {l : List ByteArray} {p : ByteArray → Bool} (hb : Bod Tryz.prog g)
    (hg : ∀ x ∈ l, ACalls Tryz.prog g (first ++ [vs x] ++ caps) H fun o H1 => o = .ret (vb (p x)) ∧ H1 = H) :
    ACalls Tryz.prog 125 [.c (.sl 1 (strs l)), .fn g first caps] H fun o H1 => o = .ret (vb (l.any p)) ∧ H1 = H := by
  refine ac_of mixed F125 (by simp) ?_
  simp -dsimp (disch := omega) only [↓wi, wo, wrap64, reduceIte, Nat.reduceEqDiff, Nat.reduceAdd, Nat.reduceLT, Nat.reduceLeDiff, Nat.reduceMul, Nat.reduceSub, Int.reduceToNat, Int.reduceLT, Int.reduceLE, Int.reduceEq, Int.reduceAdd, reduceCtorEq, c125, enter]
  refine calls_h B187 (h_indexT hb hg) ?_
  simp -dsimp (disch := omega) only [↓wi, wo, wrap64, reduceIte, Nat.reduceEqDiff, Nat.reduceAdd, Nat.reduceLT, Nat.reduceLeDiff, Nat.reduceMul, Nat.reduceSub, Int.reduceToNat, Int.reduceLT, Int.reduceLE, Int.reduceEq, Int.reduceAdd, reduceCtorEq]
  refine forkd (fun h => ?_) (fun h => ?_) <;> simp -dsimp (disch := omega) only [↓wi, wo, wrap64, reduceIte, Nat.reduceEqDiff, Nat.reduceAdd, Nat.reduceLT, Nat.reduceLeDiff, Nat.reduceMul, Nat.reduceSub, Int.reduceToNat, Int.reduceLT, Int.reduceLE, Int.reduceEq, Int.reduceAdd, reduceCtorEq] <;> refine ret_s (.inl rfl) rfl ?_ <;> rw [← findI_any l 0] <;> simp [h] <;> rfl
theorem p_indexT (l : List ByteArray) (s : ByteArray) : PC Tryz.prog 186 [.c (.sl 1 (strs l)), vs s] (.ret (vi (findI (fun x => decide (s = x)) 0 l))) := by
  refine pc_of mixed F186 (by simp) ?_
  simp -dsimp (disch := omega) only [↓wi, wo, wrap64, reduceIte, Nat.reduceEqDiff, Nat.reduceAdd, Nat.reduceLT, Nat.reduceLeDiff, Nat.reduceMul, Nat.reduceSub, Int.reduceToNat, Int.reduceLT, Int.reduceLE, Int.reduceEq, Int.reduceAdd, reduceCtorEq, c186, enter]
  refine give fun hlen => ?_
  rw [len_strs] at hlen
  simp -dsimp (disch := omega) only [↓wi, wo, wrap64, reduceIte, Nat.reduceEqDiff, Nat.reduceAdd, Nat.reduceLT, Nat.reduceLeDiff, Nat.reduceMul, Nat.reduceSub, Int.reduceToNat, Int.reduceLT, Int.reduceLE, Int.reduceEq, Int.reduceAdd, reduceCtorEq, len_strs]
  refine AW_wk (Wk_live [0, 1, 7, 8]) (AW_inv mixed (n := l.length) (fun n st => ∃ i : Nat, i + n = l.length ∧ findI (fun x => decide (s = x)) 0 l = findI (fun x => decide (s = x)) i (l.drop i) ∧ st = ⟨0, [(0, .c (.sl 1 (strs l))), (1, vs s), (7, vi l.length), (8, vi i)], []⟩) ⟨0, by omega, rfl, rfl⟩ ?_)
  rintro n _ ⟨i, hi, hf, rfl⟩
  simp -dsimp (disch := omega) only [↓wi, wo, wrap64, reduceIte, Nat.reduceEqDiff, Nat.reduceAdd, Nat.reduceLT, Nat.reduceLeDiff, Nat.reduceMul, Nat.reduceSub, Int.reduceToNat, Int.reduceLT, Int.reduceLE, Int.reduceEq, Int.reduceAdd, reduceCtorEq]
  refine forkd (fun _ => ?_) (fun _ => ?_)
  · have hi' : i < l.length := by omega
    rw [findI_at hi'] at hf
    simp -dsimp (disch := omega) only [↓wi, wo, wrap64, reduceIte, Nat.reduceEqDiff, Nat.reduceAdd, Nat.reduceLT, Nat.reduceLeDiff, Nat.reduceMul, Nat.reduceSub, Int.reduceToNat, Int.reduceLT, Int.reduceLE, Int.reduceEq, Int.reduceAdd, reduceCtorEq, len_strs]
    refine need (by omega) ?_
    simp -dsimp (disch := omega) only [↓wi, wo, wrap64, reduceIte, Nat.reduceEqDiff, Nat.reduceAdd, Nat.reduceLT, Nat.reduceLeDiff, Nat.reduceMul, Nat.reduceSub, Int.reduceToNat, Int.reduceLT, Int.reduceLE, Int.reduceEq, Int.reduceAdd, reduceCtorEq, getD_strs hi']
    refine forkd (fun h => ?_) (fun h => ?_)
    · simp -dsimp (disch := omega) only [↓wi, wo, wrap64, reduceIte, Nat.reduceEqDiff, Nat.reduceAdd, Nat.reduceLT, Nat.reduceLeDiff, Nat.reduceMul, Nat.reduceSub, Int.reduceToNat, Int.reduceLT, Int.reduceLE, Int.reduceEq, Int.reduceAdd, reduceCtorEq]
      refine ret_p ?_
      rw [hf, decide_eq_true h]
      rfl
    · simp -dsimp (disch := omega) only [↓wi, wo, wrap64, reduceIte, Nat.reduceEqDiff, Nat.reduceAdd, Nat.reduceLT, Nat.reduceLeDiff, Nat.reduceMul, Nat.reduceSub, Int.reduceToNat, Int.reduceLT, Int.reduceLE, Int.reduceEq, Int.reduceAdd, reduceCtorEq]
      refine ⟨n - 1, _, by omega, Wk_live [0, 1, 7, 8], i + 1, by omega, ?_, rfl⟩
      rw [hf, decide_eq_false h]
      rfl
  · simp -dsimp (disch := omega) only [↓wi, wo, wrap64, reduceIte, Nat.reduceEqDiff, Nat.reduceAdd, Nat.reduceLT, Nat.reduceLeDiff, Nat.reduceMul, Nat.reduceSub, Int.reduceToNat, Int.reduceLT, Int.reduceLE, Int.reduceEq, Int.reduceAdd, reduceCtorEq]
    refine ret_p ?_
    rw [hf, findI_end (by omega)]
    rfl
theorem p_containsT (l : List ByteArray) (s : ByteArray) : PC Tryz.prog 165 [.c (.sl 1 (strs l)), vs s] (.ret (vb (l.any fun x => decide (s = x)))) := by
  refine pc_of mixed F165 (by simp) ?_
  simp -dsimp (disch := omega) only [↓wi, wo, wrap64, reduceIte, Nat.reduceEqDiff, Nat.reduceAdd, Nat.reduceLT, Nat.reduceLeDiff, Nat.reduceMul, Nat.reduceSub, Int.reduceToNat, Int.reduceLT, Int.reduceLE, Int.reduceEq, Int.reduceAdd, reduceCtorEq, c165, enter]
  refine calls_p (p_indexT l s) rfl rfl ?_
  simp -dsimp (disch := omega) only [↓wi, wo, wrap64, reduceIte, Nat.reduceEqDiff, Nat.reduceAdd, Nat.reduceLT, Nat.reduceLeDiff, Nat.reduceMul, Nat.reduceSub, Int.reduceToNat, Int.reduceLT, Int.reduceLE, Int.reduceEq, Int.reduceAdd, reduceCtorEq]
  refine forkd (fun h => ?_) (fun h => ?_) <;> simp -dsimp (disch := omega) only [↓wi, wo, wrap64, reduceIte, Nat.reduceEqDiff, Nat.reduceAdd, Nat.reduceLT, Nat.reduceLeDiff, Nat.reduceMul, Nat.reduceSub, Int.reduceToNat, Int.reduceLT, Int.reduceLE, Int.reduceEq, Int.reduceAdd, reduceCtorEq] <;> refine retb rfl ?_ <;> rw [← findI_any l 0] <;> simp [h] <;> rfl
def apart (l : List ByteArray) : Bool := allI (fun i s => decide (findI (fun x => decide (s = x)) 0 l = (i : Int))) 0 l
theorem p_apart (l : List ByteArray) : PC Tryz.prog 123 [.c (.sl 1 (strs l))] (.ret (vb (apart l))) := by
  refine pc_of mixed F123 (by simp) ?_
  simp -dsimp (disch := omega) only [↓wi, wo, wrap64, reduceIte, Nat.reduceEqDiff, Nat.reduceAdd, Nat.reduceLT, Nat.reduceLeDiff, Nat.reduceMul, Nat.reduceSub, Int.reduceToNat, Int.reduceLT, Int.reduceLE, Int.reduceEq, Int.reduceAdd, reduceCtorEq, c123, enter]
  refine give fun hlen => ?_
  rw [len_strs] at hlen
  simp -dsimp (disch := omega) only [↓wi, wo, wrap64, reduceIte, Nat.reduceEqDiff, Nat.reduceAdd, Nat.reduceLT, Nat.reduceLeDiff, Nat.reduceMul, Nat.reduceSub, Int.reduceToNat, Int.reduceLT, Int.reduceLE, Int.reduceEq, Int.reduceAdd, reduceCtorEq, len_strs]
  refine AW_wk (Wk_live [0, 5, 6, 7]) (AW_inv mixed (n := l.length) (fun n st => ∃ i : Nat, i + n = l.length ∧ apart l = allI (fun i s => decide (findI (fun x => decide (s = x)) 0 l = (i : Int))) i (l.drop i) ∧ st = ⟨0, [(0, .c (.sl 1 (strs l))), (5, .c (.sl 1 (strs l))), (6, vi l.length), (7, vi i)], []⟩) ⟨0, by omega, rfl, rfl⟩ ?_)
  rintro n _ ⟨i, hi, hf, rfl⟩
  simp -dsimp (disch := omega) only [↓wi, wo, wrap64, reduceIte, Nat.reduceEqDiff, Nat.reduceAdd, Nat.reduceLT, Nat.reduceLeDiff, Nat.reduceMul, Nat.reduceSub, Int.reduceToNat, Int.reduceLT, Int.reduceLE, Int.reduceEq, Int.reduceAdd, reduceCtorEq]
  refine forkd (fun _ => ?_) (fun _ => ?_)
  · have hi' : i < l.length := by omega
    rw [allI_at hi'] at hf
    simp -dsimp (disch := omega) only [↓wi, wo, wrap64, reduceIte, Nat.reduceEqDiff, Nat.reduceAdd, Nat.reduceLT, Nat.reduceLeDiff, Nat.reduceMul, Nat.reduceSub, Int.reduceToNat, Int.reduceLT, Int.reduceLE, Int.reduceEq, Int.reduceAdd, reduceCtorEq, len_strs]
    refine need (by omega) ?_
    simp -dsimp (disch := omega) only [↓wi, wo, wrap64, reduceIte, Nat.reduceEqDiff, Nat.reduceAdd, Nat.reduceLT, Nat.reduceLeDiff, Nat.reduceMul, Nat.reduceSub, Int.reduceToNat, Int.reduceLT, Int.reduceLE, Int.reduceEq, Int.reduceAdd, reduceCtorEq, getD_strs hi']
    refine calls_p (p_indexT l _) rfl rfl ?_
    simp -dsimp (disch := omega) only [↓wi, wo, wrap64, reduceIte, Nat.reduceEqDiff, Nat.reduceAdd, Nat.reduceLT, Nat.reduceLeDiff, Nat.reduceMul, Nat.reduceSub, Int.reduceToNat, Int.reduceLT, Int.reduceLE, Int.reduceEq, Int.reduceAdd, reduceCtorEq]
    refine forkd (fun h => ?_) (fun h => ?_)
    · simp -dsimp (disch := omega) only [↓wi, wo, wrap64, reduceIte, Nat.reduceEqDiff, Nat.reduceAdd, Nat.reduceLT, Nat.reduceLeDiff, Nat.reduceMul, Nat.reduceSub, Int.reduceToNat, Int.reduceLT, Int.reduceLE, Int.reduceEq, Int.reduceAdd, reduceCtorEq]
      refine ⟨n - 1, _, by omega, Wk_live [0, 5, 6, 7], i + 1, by omega, ?_, rfl⟩
      rw [hf, decide_eq_true h]
      rfl
    · simp -dsimp (disch := omega) only [↓wi, wo, wrap64, reduceIte, Nat.reduceEqDiff, Nat.reduceAdd, Nat.reduceLT, Nat.reduceLeDiff, Nat.reduceMul, Nat.reduceSub, Int.reduceToNat, Int.reduceLT, Int.reduceLE, Int.reduceEq, Int.reduceAdd, reduceCtorEq]
      refine ret_p ?_
      rw [hf, decide_eq_false h]
      rfl
  · simp -dsimp (disch := omega) only [↓wi, wo, wrap64, reduceIte, Nat.reduceEqDiff, Nat.reduceAdd, Nat.reduceLT, Nat.reduceLeDiff, Nat.reduceMul, Nat.reduceSub, Int.reduceToNat, Int.reduceLT, Int.reduceLE, Int.reduceEq, Int.reduceAdd, reduceCtorEq]
    refine ret_p ?_
    rw [hf, allI_end (by omega)]
    rfl
theorem p_text32 (s : ByteArray) : PC Tryz.prog 126 [vs s] (.ret (vb (decide (32 < (s.size : Int))))) := by
  refine pc_of mixed F126 (by simp) ?_
  simp -dsimp (disch := omega) only [↓wi, wo, wrap64, reduceIte, Nat.reduceEqDiff, Nat.reduceAdd, Nat.reduceLT, Nat.reduceLeDiff, Nat.reduceMul, Nat.reduceSub, Int.reduceToNat, Int.reduceLT, Int.reduceLE, Int.reduceEq, Int.reduceAdd, reduceCtorEq, c126, enter]
  repeat' first | (simp -dsimp (disch := omega) only [↓wi, wo, wrap64, reduceIte, Nat.reduceEqDiff, Nat.reduceAdd, Nat.reduceLT, Nat.reduceLeDiff, Nat.reduceMul, Nat.reduceSub, Int.reduceToNat, Int.reduceLT, Int.reduceLE, Int.reduceEq, Int.reduceAdd, reduceCtorEq]) | (refine brd_y (by first | assumption | omega) ?_) | (refine brd_no (by first | assumption | omega) ?_) | (refine forkd (fun _ => ?_) (fun _ => ?_)) | (refine brs_y (by assumption) ?_) | (refine brs_n (by assumption) ?_) | (refine fork (fun _ => ?_) (fun _ => ?_)) | (refine need (by omega) ?_) | (refine qv_need (by omega) ?_) | (refine qv_give ?_) | (refine give fun _ => ?_) | (refine retb rfl ?_) | (refine reti rfl ?_) | (refine ret_p ?_) | (refine ret_ps rfl ?_) | (refine ret_pp rfl ?_)
  all_goals grind
theorem p_fieldName (f : Fd) : PC Tryz.prog 65 [ag (encF f)] (.ret (vs f.name)) := by
  refine pc_of mixed F65 (by simp) ?_
  simp -dsimp (disch := omega) only [↓wi, wo, wrap64, reduceIte, Nat.reduceEqDiff, Nat.reduceAdd, Nat.reduceLT, Nat.reduceLeDiff, Nat.reduceMul, Nat.reduceSub, Int.reduceToNat, Int.reduceLT, Int.reduceLE, Int.reduceEq, Int.reduceAdd, reduceCtorEq, c65, enter, encF]
  repeat' first | (simp -dsimp (disch := omega) only [↓wi, wo, wrap64, reduceIte, Nat.reduceEqDiff, Nat.reduceAdd, Nat.reduceLT, Nat.reduceLeDiff, Nat.reduceMul, Nat.reduceSub, Int.reduceToNat, Int.reduceLT, Int.reduceLE, Int.reduceEq, Int.reduceAdd, reduceCtorEq]) | (refine brd_y (by first | assumption | omega) ?_) | (refine brd_no (by first | assumption | omega) ?_) | (refine forkd (fun _ => ?_) (fun _ => ?_)) | (refine brs_y (by assumption) ?_) | (refine brs_n (by assumption) ?_) | (refine fork (fun _ => ?_) (fun _ => ?_)) | (refine need (by omega) ?_) | (refine qv_need (by omega) ?_) | (refine qv_give ?_) | (refine give fun _ => ?_) | (refine retb rfl ?_) | (refine reti rfl ?_) | (refine ret_p ?_) | (refine ret_ps rfl ?_) | (refine ret_pp rfl ?_)
theorem p_stageName (f : Stg) : PC Tryz.prog 70 [ag (encS f)] (.ret (vs f.name)) := by
  refine pc_of mixed F70 (by simp) ?_
  simp -dsimp (disch := omega) only [↓wi, wo, wrap64, reduceIte, Nat.reduceEqDiff, Nat.reduceAdd, Nat.reduceLT, Nat.reduceLeDiff, Nat.reduceMul, Nat.reduceSub, Int.reduceToNat, Int.reduceLT, Int.reduceLE, Int.reduceEq, Int.reduceAdd, reduceCtorEq, c70, enter, encS]
  repeat' first | (simp -dsimp (disch := omega) only [↓wi, wo, wrap64, reduceIte, Nat.reduceEqDiff, Nat.reduceAdd, Nat.reduceLT, Nat.reduceLeDiff, Nat.reduceMul, Nat.reduceSub, Int.reduceToNat, Int.reduceLT, Int.reduceLE, Int.reduceEq, Int.reduceAdd, reduceCtorEq]) | (refine brd_y (by first | assumption | omega) ?_) | (refine brd_no (by first | assumption | omega) ?_) | (refine forkd (fun _ => ?_) (fun _ => ?_)) | (refine brs_y (by assumption) ?_) | (refine brs_n (by assumption) ?_) | (refine fork (fun _ => ?_) (fun _ => ?_)) | (refine need (by omega) ?_) | (refine qv_need (by omega) ?_) | (refine qv_give ?_) | (refine give fun _ => ?_) | (refine retb rfl ?_) | (refine reti rfl ?_) | (refine ret_p ?_) | (refine ret_ps rfl ?_) | (refine ret_pp rfl ?_)
theorem p_moveName (f : Mov) : PC Tryz.prog 75 [ag (encM f)] (.ret (vs f.name)) := by
  refine pc_of mixed F75 (by simp) ?_
  simp -dsimp (disch := omega) only [↓wi, wo, wrap64, reduceIte, Nat.reduceEqDiff, Nat.reduceAdd, Nat.reduceLT, Nat.reduceLeDiff, Nat.reduceMul, Nat.reduceSub, Int.reduceToNat, Int.reduceLT, Int.reduceLE, Int.reduceEq, Int.reduceAdd, reduceCtorEq, c75, enter, encM]
  repeat' first | (simp -dsimp (disch := omega) only [↓wi, wo, wrap64, reduceIte, Nat.reduceEqDiff, Nat.reduceAdd, Nat.reduceLT, Nat.reduceLeDiff, Nat.reduceMul, Nat.reduceSub, Int.reduceToNat, Int.reduceLT, Int.reduceLE, Int.reduceEq, Int.reduceAdd, reduceCtorEq]) | (refine brd_y (by first | assumption | omega) ?_) | (refine brd_no (by first | assumption | omega) ?_) | (refine forkd (fun _ => ?_) (fun _ => ?_)) | (refine brs_y (by assumption) ?_) | (refine brs_n (by assumption) ?_) | (refine fork (fun _ => ?_) (fun _ => ?_)) | (refine need (by omega) ?_) | (refine qv_need (by omega) ?_) | (refine qv_give ?_) | (refine give fun _ => ?_) | (refine retb rfl ?_) | (refine reti rfl ?_) | (refine ret_p ?_) | (refine ret_ps rfl ?_) | (refine ret_pp rfl ?_)
end Go.Proofs.YtbnelpgogjbgjaaGreat.Q
