/- Rows searched by functions that are handed over. -/
import Derived.Test.YtbnelpgogjbgjaaFndJTa
import Derived.Test.YtbnelpgogjbgjaaFndCa
import Derived.Test.YtbnelpgogjbgjaaFndCb
/- Rows searched by functions that are handed over. -/
set_option linter.unusedVariables false
set_option linter.unusedSimpArgs false
namespace Go.Proofs.Ytbnelpgogjbgjaa.Q
open Go.RowKit

theorem mixed : Try.prog.follows .mixedOrders = true := by kernel_rfl
def named (s : ByteArray) : Bool := decide (0 < s.size) && decide (s.size ≤ 16)
theorem p_named (s : ByteArray) : PC Try.prog 39 [vs s] (.ret (vb (named s))) := by
  refine pc_of mixed F39 (by simp) ?_
  simp -dsimp (disch := omega) only [↓wi, wo, wrap64, reduceIte, Nat.reduceEqDiff, Nat.reduceAdd, Nat.reduceLT, Nat.reduceLeDiff, Nat.reduceMul, Nat.reduceSub, Int.reduceToNat, Int.reduceLT, Int.reduceLE, Int.reduceEq, Int.reduceAdd, reduceCtorEq, c39, enter]
  repeat' first | (simp -dsimp (disch := omega) only [↓wi, wo, wrap64, reduceIte, Nat.reduceEqDiff, Nat.reduceAdd, Nat.reduceLT, Nat.reduceLeDiff, Nat.reduceMul, Nat.reduceSub, Int.reduceToNat, Int.reduceLT, Int.reduceLE, Int.reduceEq, Int.reduceAdd, reduceCtorEq]) | (refine brd_y (by first | assumption | omega) ?_) | (refine brd_no (by first | assumption | omega) ?_) | (refine forkd (fun _ => ?_) (fun _ => ?_)) | (refine brs_y (by assumption) ?_) | (refine brs_n (by assumption) ?_) | (refine fork (fun _ => ?_) (fun _ => ?_)) | (refine need (by omega) ?_) | (refine qv_need (by omega) ?_) | (refine qv_give ?_) | (refine give fun _ => ?_) | (refine retb rfl ?_) | (refine reti rfl ?_) | (refine ret_p ?_) | (refine ret_ps rfl ?_) | (refine ret_pp rfl ?_)
  all_goals grind [named]
def onceR {α : Type} (nm : α → ByteArray) (l : List α) : Bool := allI (fun i x => named (nm x) && decide (findI (fun y => decide (nm y = nm x)) 0 l = (i : Int))) 0 l
theorem h_indexF {α : Type} {enc : α → List Cell} {H : List AObj} {g : Nat} {first caps : List SV} {l : List α} {p : α → Bool} (hm : ∀ a, (enc a).length = 8) (hb : Bod Try.prog g)
    (hg : ∀ x ∈ l, ACalls Try.prog g (first ++ [ag (enc x)] ++ caps) H fun o H1 => o = .ret (vb (p x)) ∧ H1 = H) :
    ACalls Try.prog 87 [.c (.sl 8 (l.map enc)), .fn g first caps] H fun o H1 => o = .ret (vi (findI p 0 l)) ∧ H1 = H := by
  refine ac_of mixed F87 (by simp) ?_
  simp -dsimp (disch := omega) only [↓wi, wo, wrap64, reduceIte, Nat.reduceEqDiff, Nat.reduceAdd, Nat.reduceLT, Nat.reduceLeDiff, Nat.reduceMul, Nat.reduceSub, Int.reduceToNat, Int.reduceLT, Int.reduceLE, Int.reduceEq, Int.reduceAdd, reduceCtorEq, c87, enter]
  refine give fun hlen => ?_
  simp -dsimp (disch := omega) only [↓wi, wo, wrap64, reduceIte, Nat.reduceEqDiff, Nat.reduceAdd, Nat.reduceLT, Nat.reduceLeDiff, Nat.reduceMul, Nat.reduceSub, Int.reduceToNat, Int.reduceLT, Int.reduceLE, Int.reduceEq, Int.reduceAdd, reduceCtorEq]
  refine AW_wk (Wk_live [0, 1, 7, 8]) (AW_inv mixed (n := l.length) (fun n s => ∃ i : Nat, i + n = l.length ∧ findI p 0 l = findI p i (l.drop i) ∧ s = ⟨H.length, [(0, .c (.sl 8 (l.map enc))), (1, .fn g first caps), (7, vi l.length), (8, vi i)], H⟩) ⟨0, by omega, rfl, rfl⟩ ?_)
  rintro n _ ⟨i, hi, hf, rfl⟩
  simp -dsimp (disch := omega) only [↓wi, wo, wrap64, reduceIte, Nat.reduceEqDiff, Nat.reduceAdd, Nat.reduceLT, Nat.reduceLeDiff, Nat.reduceMul, Nat.reduceSub, Int.reduceToNat, Int.reduceLT, Int.reduceLE, Int.reduceEq, Int.reduceAdd, reduceCtorEq]
  refine forkd (fun _ => ?_) (fun _ => ?_)
  · have hi' : i < l.length := by omega
    simp -dsimp (disch := omega) only [↓wi, wo, wrap64, reduceIte, Nat.reduceEqDiff, Nat.reduceAdd, Nat.reduceLT, Nat.reduceLeDiff, Nat.reduceMul, Nat.reduceSub, Int.reduceToNat, Int.reduceLT, Int.reduceLE, Int.reduceEq, Int.reduceAdd, reduceCtorEq]
    refine need (by omega) ?_
    simp -dsimp (disch := omega) only [↓wi, wo, wrap64, reduceIte, Nat.reduceEqDiff, Nat.reduceAdd, Nat.reduceLT, Nat.reduceLeDiff, Nat.reduceMul, Nat.reduceSub, Int.reduceToNat, Int.reduceLT, Int.reduceLE, Int.reduceEq, Int.reduceAdd, reduceCtorEq, getD_map hi', hm, take_all (Nat.le_of_eq (hm _))]
    refine calls_h hb (hg _ (List.getElem_mem hi')) ?_
    simp -dsimp (disch := omega) only [↓wi, wo, wrap64, reduceIte, Nat.reduceEqDiff, Nat.reduceAdd, Nat.reduceLT, Nat.reduceLeDiff, Nat.reduceMul, Nat.reduceSub, Int.reduceToNat, Int.reduceLT, Int.reduceLE, Int.reduceEq, Int.reduceAdd, reduceCtorEq]
    refine fork (fun h => ?_) (fun h => ?_)
    · simp -dsimp (disch := omega) only [↓wi, wo, wrap64, reduceIte, Nat.reduceEqDiff, Nat.reduceAdd, Nat.reduceLT, Nat.reduceLeDiff, Nat.reduceMul, Nat.reduceSub, Int.reduceToNat, Int.reduceLT, Int.reduceLE, Int.reduceEq, Int.reduceAdd, reduceCtorEq]
      refine ret_s (.inl rfl) rfl ?_
      rw [hf, findI_at hi', h]
      rfl
    · simp -dsimp (disch := omega) only [↓wi, wo, wrap64, reduceIte, Nat.reduceEqDiff, Nat.reduceAdd, Nat.reduceLT, Nat.reduceLeDiff, Nat.reduceMul, Nat.reduceSub, Int.reduceToNat, Int.reduceLT, Int.reduceLE, Int.reduceEq, Int.reduceAdd, reduceCtorEq]
      refine ⟨n - 1, _, by omega, Wk_live [0, 1, 7, 8], i + 1, by omega, ?_, rfl⟩
      rw [hf, findI_at hi', h]
      rfl
  · simp -dsimp (disch := omega) only [↓wi, wo, wrap64, reduceIte, Nat.reduceEqDiff, Nat.reduceAdd, Nat.reduceLT, Nat.reduceLeDiff, Nat.reduceMul, Nat.reduceSub, Int.reduceToNat, Int.reduceLT, Int.reduceLE, Int.reduceEq, Int.reduceAdd, reduceCtorEq]
    refine ret_s (.inl rfl) rfl ?_
    rw [hf, findI_end (by omega)]
    rfl
theorem h_containsF {α : Type} {enc : α → List Cell} {H : List AObj} {g : Nat} {first caps : List SV} {l : List α} {p : α → Bool} (hm : ∀ a, (enc a).length = 8) (hb : Bod Try.prog g)
    (hg : ∀ x ∈ l, ACalls Try.prog g (first ++ [ag (enc x)] ++ caps) H fun o H1 => o = .ret (vb (p x)) ∧ H1 = H) :
    ACalls Try.prog 42 [.c (.sl 8 (l.map enc)), .fn g first caps] H fun o H1 => o = .ret (vb (l.any p)) ∧ H1 = H := by
  refine ac_of mixed F42 (by simp) ?_
  simp -dsimp (disch := omega) only [↓wi, wo, wrap64, reduceIte, Nat.reduceEqDiff, Nat.reduceAdd, Nat.reduceLT, Nat.reduceLeDiff, Nat.reduceMul, Nat.reduceSub, Int.reduceToNat, Int.reduceLT, Int.reduceLE, Int.reduceEq, Int.reduceAdd, reduceCtorEq, c42, enter]
  refine calls_h B87 (h_indexF hm hb hg) ?_
  simp -dsimp (disch := omega) only [↓wi, wo, wrap64, reduceIte, Nat.reduceEqDiff, Nat.reduceAdd, Nat.reduceLT, Nat.reduceLeDiff, Nat.reduceMul, Nat.reduceSub, Int.reduceToNat, Int.reduceLT, Int.reduceLE, Int.reduceEq, Int.reduceAdd, reduceCtorEq]
  refine forkd (fun h => ?_) (fun h => ?_) <;> simp -dsimp (disch := omega) only [↓wi, wo, wrap64, reduceIte, Nat.reduceEqDiff, Nat.reduceAdd, Nat.reduceLT, Nat.reduceLeDiff, Nat.reduceMul, Nat.reduceSub, Int.reduceToNat, Int.reduceLT, Int.reduceLE, Int.reduceEq, Int.reduceAdd, reduceCtorEq] <;> refine ret_s (.inl rfl) rfl ?_ <;> rw [← findI_any l 0] <;> simp [h] <;> rfl
theorem p_findcF {x : List Cell} {o : Nat} {name : ByteArray} {s : ByteArray} (hx : x.length = 8) (ho : PC Try.prog o [ag x] (.ret (vs s))) :
    ACalls Try.prog 109 [ag x, .ptr 1 0, .ptr 0 0] [.box [vs name], .box [.fn o [] []]] fun o' H1 => o' = .ret (vb (decide (s = name))) ∧ H1 = [.box [vs name], .box [.fn o [] []]] := by
  refine ac_of mixed F109 (by simp) ?_
  simp -dsimp (disch := omega) only [↓wi, wo, wrap64, reduceIte, Nat.reduceEqDiff, Nat.reduceAdd, Nat.reduceLT, Nat.reduceLeDiff, Nat.reduceMul, Nat.reduceSub, Int.reduceToNat, Int.reduceLT, Int.reduceLE, Int.reduceEq, Int.reduceAdd, reduceCtorEq, c109, enter, hx, take_mapc hx]
  refine qv_p ho (data_ag _) rfl ?_
  simp -dsimp (disch := omega) only [↓wi, wo, wrap64, reduceIte, Nat.reduceEqDiff, Nat.reduceAdd, Nat.reduceLT, Nat.reduceLeDiff, Nat.reduceMul, Nat.reduceSub, Int.reduceToNat, Int.reduceLT, Int.reduceLE, Int.reduceEq, Int.reduceAdd, reduceCtorEq]
  refine forkd (fun h => ?_) (fun h => ?_)
  · simp -dsimp (disch := omega) only [↓wi, wo, wrap64, reduceIte, Nat.reduceEqDiff, Nat.reduceAdd, Nat.reduceLT, Nat.reduceLeDiff, Nat.reduceMul, Nat.reduceSub, Int.reduceToNat, Int.reduceLT, Int.reduceLE, Int.reduceEq, Int.reduceAdd, reduceCtorEq]
    refine ret_i [true, true] rfl (by simp) (by simp) ⟨?_, rfl⟩
    rw [decide_eq_true h]; rfl
  · simp -dsimp (disch := omega) only [↓wi, wo, wrap64, reduceIte, Nat.reduceEqDiff, Nat.reduceAdd, Nat.reduceLT, Nat.reduceLeDiff, Nat.reduceMul, Nat.reduceSub, Int.reduceToNat, Int.reduceLT, Int.reduceLE, Int.reduceEq, Int.reduceAdd, reduceCtorEq]
    refine ret_i [true, true] rfl (by simp) (by simp) ⟨?_, rfl⟩
    rw [decide_eq_false h]; rfl
theorem p_findF {α : Type} {enc : α → List Cell} {l : List α} {nm : α → ByteArray} {o : Nat} (hm : ∀ a, (enc a).length = 8) (ho : ∀ x, PC Try.prog o [ag (enc x)] (.ret (vs (nm x)))) (name : ByteArray) :
    PC Try.prog 59 [.c (.sl 8 (l.map enc)), vs name, .fn o [] []] (.ret (vi (findI (fun x => decide (nm x = name)) 0 l))) := by
  refine pc_of mixed F59 (by simp) ?_
  simp -dsimp (disch := omega) only [↓wi, wo, wrap64, reduceIte, Nat.reduceEqDiff, Nat.reduceAdd, Nat.reduceLT, Nat.reduceLeDiff, Nat.reduceMul, Nat.reduceSub, Int.reduceToNat, Int.reduceLT, Int.reduceLE, Int.reduceEq, Int.reduceAdd, reduceCtorEq, c59, enter]
  refine calls_h B87 (h_indexF hm B109 fun x hx => p_findcF (hm x) (ho x)) ?_
  simp -dsimp (disch := omega) only [↓wi, wo, wrap64, reduceIte, Nat.reduceEqDiff, Nat.reduceAdd, Nat.reduceLT, Nat.reduceLeDiff, Nat.reduceMul, Nat.reduceSub, Int.reduceToNat, Int.reduceLT, Int.reduceLE, Int.reduceEq, Int.reduceAdd, reduceCtorEq]
  exact ret_p rfl
theorem p_onceF {α : Type} {enc : α → List Cell} {l : List α} {nm : α → ByteArray} {o : Nat} (hm : ∀ a, (enc a).length = 8) (ho : ∀ x, PC Try.prog o [ag (enc x)] (.ret (vs (nm x)))) :
    PC Try.prog 40 [.c (.sl 8 (l.map enc)), .fn o [] []] (.ret (vb (onceR nm l))) := by
  refine pc_of mixed F40 (by simp) ?_
  simp -dsimp (disch := omega) only [↓wi, wo, wrap64, reduceIte, Nat.reduceEqDiff, Nat.reduceAdd, Nat.reduceLT, Nat.reduceLeDiff, Nat.reduceMul, Nat.reduceSub, Int.reduceToNat, Int.reduceLT, Int.reduceLE, Int.reduceEq, Int.reduceAdd, reduceCtorEq, c40, enter]
  refine give fun _ => ?_
  simp -dsimp (disch := omega) only [↓wi, wo, wrap64, reduceIte, Nat.reduceEqDiff, Nat.reduceAdd, Nat.reduceLT, Nat.reduceLeDiff, Nat.reduceMul, Nat.reduceSub, Int.reduceToNat, Int.reduceLT, Int.reduceLE, Int.reduceEq, Int.reduceAdd, reduceCtorEq]
  refine AW_wk (Wk_live [0, 1, 7, 8, 9]) (AW_inv mixed (n := l.length) (fun n s => ∃ i : Nat, i + n = l.length ∧ onceR nm l = allI (fun i x => named (nm x) && decide (findI (fun y => decide (nm y = nm x)) 0 l = (i : Int))) i (l.drop i) ∧ s = ⟨0, [(0, .c (.sl 8 (l.map enc))), (1, .fn o [] []), (7, .c (.sl 8 (l.map enc))), (8, vi l.length), (9, vi i)], []⟩) ⟨0, by omega, rfl, rfl⟩ ?_)
  rintro n _ ⟨i, hi, hf, rfl⟩
  simp -dsimp (disch := omega) only [↓wi, wo, wrap64, reduceIte, Nat.reduceEqDiff, Nat.reduceAdd, Nat.reduceLT, Nat.reduceLeDiff, Nat.reduceMul, Nat.reduceSub, Int.reduceToNat, Int.reduceLT, Int.reduceLE, Int.reduceEq, Int.reduceAdd, reduceCtorEq]
  refine forkd (fun _ => ?_) (fun _ => ?_)
  · have hi' : i < l.length := by omega
    rw [allI_at hi'] at hf
    have hx := getD_map (f := enc) hi'
    generalize l[i] = x at hf hx
    have hl := hm x
    have hoi := ho x
    simp -dsimp (disch := omega) only [↓wi, wo, wrap64, reduceIte, Nat.reduceEqDiff, Nat.reduceAdd, Nat.reduceLT, Nat.reduceLeDiff, Nat.reduceMul, Nat.reduceSub, Int.reduceToNat, Int.reduceLT, Int.reduceLE, Int.reduceEq, Int.reduceAdd, reduceCtorEq]
    refine need (by omega) ?_
    simp -dsimp (disch := omega) only [↓wi, wo, wrap64, reduceIte, Nat.reduceEqDiff, Nat.reduceAdd, Nat.reduceLT, Nat.reduceLeDiff, Nat.reduceMul, Nat.reduceSub, Int.reduceToNat, Int.reduceLT, Int.reduceLE, Int.reduceEq, Int.reduceAdd, reduceCtorEq, hx, hl, take_all (Nat.le_of_eq hl), take_mapc hl]
    refine calls_p hoi (data_ag _) rfl ?_
    simp -dsimp (disch := omega) only [↓wi, wo, wrap64, reduceIte, Nat.reduceEqDiff, Nat.reduceAdd, Nat.reduceLT, Nat.reduceLeDiff, Nat.reduceMul, Nat.reduceSub, Int.reduceToNat, Int.reduceLT, Int.reduceLE, Int.reduceEq, Int.reduceAdd, reduceCtorEq]
    refine calls_p (p_named _) rfl rfl ?_
    simp -dsimp (disch := omega) only [↓wi, wo, wrap64, reduceIte, Nat.reduceEqDiff, Nat.reduceAdd, Nat.reduceLT, Nat.reduceLeDiff, Nat.reduceMul, Nat.reduceSub, Int.reduceToNat, Int.reduceLT, Int.reduceLE, Int.reduceEq, Int.reduceAdd, reduceCtorEq]
    refine fork (fun h1 => ?_) (fun h1 => ?_)
    · simp -dsimp (disch := omega) only [↓wi, wo, wrap64, reduceIte, Nat.reduceEqDiff, Nat.reduceAdd, Nat.reduceLT, Nat.reduceLeDiff, Nat.reduceMul, Nat.reduceSub, Int.reduceToNat, Int.reduceLT, Int.reduceLE, Int.reduceEq, Int.reduceAdd, reduceCtorEq, h1, hl, take_mapc hl]
      refine calls_p hoi (data_ag _) rfl ?_
      simp -dsimp (disch := omega) only [↓wi, wo, wrap64, reduceIte, Nat.reduceEqDiff, Nat.reduceAdd, Nat.reduceLT, Nat.reduceLeDiff, Nat.reduceMul, Nat.reduceSub, Int.reduceToNat, Int.reduceLT, Int.reduceLE, Int.reduceEq, Int.reduceAdd, reduceCtorEq, h1]
      refine calls_p (p_findF hm ho _) rfl rfl ?_
      simp -dsimp (disch := omega) only [↓wi, wo, wrap64, reduceIte, Nat.reduceEqDiff, Nat.reduceAdd, Nat.reduceLT, Nat.reduceLeDiff, Nat.reduceMul, Nat.reduceSub, Int.reduceToNat, Int.reduceLT, Int.reduceLE, Int.reduceEq, Int.reduceAdd, reduceCtorEq, h1]
      refine forkd (fun h2 => ?_) (fun h2 => ?_)
      · simp -dsimp (disch := omega) only [↓wi, wo, wrap64, reduceIte, Nat.reduceEqDiff, Nat.reduceAdd, Nat.reduceLT, Nat.reduceLeDiff, Nat.reduceMul, Nat.reduceSub, Int.reduceToNat, Int.reduceLT, Int.reduceLE, Int.reduceEq, Int.reduceAdd, reduceCtorEq, h1]
        refine ⟨n - 1, _, by omega, (Wk_cut [] [0, 1, 7, 8, 9] (by simp) (by simp)), i + 1, by omega, ?_, rfl⟩
        rw [hf, h1, decide_eq_true h2]; rfl
      · simp -dsimp (disch := omega) only [↓wi, wo, wrap64, reduceIte, Nat.reduceEqDiff, Nat.reduceAdd, Nat.reduceLT, Nat.reduceLeDiff, Nat.reduceMul, Nat.reduceSub, Int.reduceToNat, Int.reduceLT, Int.reduceLE, Int.reduceEq, Int.reduceAdd, reduceCtorEq, h1]
        refine ret_p ?_
        rw [hf, h1, decide_eq_false h2]; rfl
    · simp -dsimp (disch := omega) only [↓wi, wo, wrap64, reduceIte, Nat.reduceEqDiff, Nat.reduceAdd, Nat.reduceLT, Nat.reduceLeDiff, Nat.reduceMul, Nat.reduceSub, Int.reduceToNat, Int.reduceLT, Int.reduceLE, Int.reduceEq, Int.reduceAdd, reduceCtorEq, h1]
      refine ret_p ?_
      rw [hf, h1]; rfl
  · simp -dsimp (disch := omega) only [↓wi, wo, wrap64, reduceIte, Nat.reduceEqDiff, Nat.reduceAdd, Nat.reduceLT, Nat.reduceLeDiff, Nat.reduceMul, Nat.reduceSub, Int.reduceToNat, Int.reduceLT, Int.reduceLE, Int.reduceEq, Int.reduceAdd, reduceCtorEq]
    refine ret_p ?_
    rw [hf, allI_end (by omega)]
    rfl
theorem h_indexS {α : Type} {enc : α → List Cell} {H : List AObj} {g : Nat} {first caps : List SV} {l : List α} {p : α → Bool} (hm : ∀ a, (enc a).length = 3) (hb : Bod Try.prog g)
    (hg : ∀ x ∈ l, ACalls Try.prog g (first ++ [ag (enc x)] ++ caps) H fun o H1 => o = .ret (vb (p x)) ∧ H1 = H) :
    ACalls Try.prog 91 [.c (.sl 3 (l.map enc)), .fn g first caps] H fun o H1 => o = .ret (vi (findI p 0 l)) ∧ H1 = H := by
  refine ac_of mixed F91 (by simp) ?_
  simp -dsimp (disch := omega) only [↓wi, wo, wrap64, reduceIte, Nat.reduceEqDiff, Nat.reduceAdd, Nat.reduceLT, Nat.reduceLeDiff, Nat.reduceMul, Nat.reduceSub, Int.reduceToNat, Int.reduceLT, Int.reduceLE, Int.reduceEq, Int.reduceAdd, reduceCtorEq, c91, enter]
  refine give fun hlen => ?_
  simp -dsimp (disch := omega) only [↓wi, wo, wrap64, reduceIte, Nat.reduceEqDiff, Nat.reduceAdd, Nat.reduceLT, Nat.reduceLeDiff, Nat.reduceMul, Nat.reduceSub, Int.reduceToNat, Int.reduceLT, Int.reduceLE, Int.reduceEq, Int.reduceAdd, reduceCtorEq]
  refine AW_wk (Wk_live [0, 1, 7, 8]) (AW_inv mixed (n := l.length) (fun n s => ∃ i : Nat, i + n = l.length ∧ findI p 0 l = findI p i (l.drop i) ∧ s = ⟨H.length, [(0, .c (.sl 3 (l.map enc))), (1, .fn g first caps), (7, vi l.length), (8, vi i)], H⟩) ⟨0, by omega, rfl, rfl⟩ ?_)
  rintro n _ ⟨i, hi, hf, rfl⟩
  simp -dsimp (disch := omega) only [↓wi, wo, wrap64, reduceIte, Nat.reduceEqDiff, Nat.reduceAdd, Nat.reduceLT, Nat.reduceLeDiff, Nat.reduceMul, Nat.reduceSub, Int.reduceToNat, Int.reduceLT, Int.reduceLE, Int.reduceEq, Int.reduceAdd, reduceCtorEq]
  refine forkd (fun _ => ?_) (fun _ => ?_)
  · have hi' : i < l.length := by omega
    simp -dsimp (disch := omega) only [↓wi, wo, wrap64, reduceIte, Nat.reduceEqDiff, Nat.reduceAdd, Nat.reduceLT, Nat.reduceLeDiff, Nat.reduceMul, Nat.reduceSub, Int.reduceToNat, Int.reduceLT, Int.reduceLE, Int.reduceEq, Int.reduceAdd, reduceCtorEq]
    refine need (by omega) ?_
    simp -dsimp (disch := omega) only [↓wi, wo, wrap64, reduceIte, Nat.reduceEqDiff, Nat.reduceAdd, Nat.reduceLT, Nat.reduceLeDiff, Nat.reduceMul, Nat.reduceSub, Int.reduceToNat, Int.reduceLT, Int.reduceLE, Int.reduceEq, Int.reduceAdd, reduceCtorEq, getD_map hi', hm, take_all (Nat.le_of_eq (hm _))]
    refine calls_h hb (hg _ (List.getElem_mem hi')) ?_
    simp -dsimp (disch := omega) only [↓wi, wo, wrap64, reduceIte, Nat.reduceEqDiff, Nat.reduceAdd, Nat.reduceLT, Nat.reduceLeDiff, Nat.reduceMul, Nat.reduceSub, Int.reduceToNat, Int.reduceLT, Int.reduceLE, Int.reduceEq, Int.reduceAdd, reduceCtorEq]
    refine fork (fun h => ?_) (fun h => ?_)
    · simp -dsimp (disch := omega) only [↓wi, wo, wrap64, reduceIte, Nat.reduceEqDiff, Nat.reduceAdd, Nat.reduceLT, Nat.reduceLeDiff, Nat.reduceMul, Nat.reduceSub, Int.reduceToNat, Int.reduceLT, Int.reduceLE, Int.reduceEq, Int.reduceAdd, reduceCtorEq]
      refine ret_s (.inl rfl) rfl ?_
      rw [hf, findI_at hi', h]
      rfl
    · simp -dsimp (disch := omega) only [↓wi, wo, wrap64, reduceIte, Nat.reduceEqDiff, Nat.reduceAdd, Nat.reduceLT, Nat.reduceLeDiff, Nat.reduceMul, Nat.reduceSub, Int.reduceToNat, Int.reduceLT, Int.reduceLE, Int.reduceEq, Int.reduceAdd, reduceCtorEq]
      refine ⟨n - 1, _, by omega, Wk_live [0, 1, 7, 8], i + 1, by omega, ?_, rfl⟩
      rw [hf, findI_at hi', h]
      rfl
  · simp -dsimp (disch := omega) only [↓wi, wo, wrap64, reduceIte, Nat.reduceEqDiff, Nat.reduceAdd, Nat.reduceLT, Nat.reduceLeDiff, Nat.reduceMul, Nat.reduceSub, Int.reduceToNat, Int.reduceLT, Int.reduceLE, Int.reduceEq, Int.reduceAdd, reduceCtorEq]
    refine ret_s (.inl rfl) rfl ?_
    rw [hf, findI_end (by omega)]
    rfl
theorem h_containsS {α : Type} {enc : α → List Cell} {H : List AObj} {g : Nat} {first caps : List SV} {l : List α} {p : α → Bool} (hm : ∀ a, (enc a).length = 3) (hb : Bod Try.prog g)
    (hg : ∀ x ∈ l, ACalls Try.prog g (first ++ [ag (enc x)] ++ caps) H fun o H1 => o = .ret (vb (p x)) ∧ H1 = H) :
    ACalls Try.prog 47 [.c (.sl 3 (l.map enc)), .fn g first caps] H fun o H1 => o = .ret (vb (l.any p)) ∧ H1 = H := by
  refine ac_of mixed F47 (by simp) ?_
  simp -dsimp (disch := omega) only [↓wi, wo, wrap64, reduceIte, Nat.reduceEqDiff, Nat.reduceAdd, Nat.reduceLT, Nat.reduceLeDiff, Nat.reduceMul, Nat.reduceSub, Int.reduceToNat, Int.reduceLT, Int.reduceLE, Int.reduceEq, Int.reduceAdd, reduceCtorEq, c47, enter]
  refine calls_h B91 (h_indexS hm hb hg) ?_
  simp -dsimp (disch := omega) only [↓wi, wo, wrap64, reduceIte, Nat.reduceEqDiff, Nat.reduceAdd, Nat.reduceLT, Nat.reduceLeDiff, Nat.reduceMul, Nat.reduceSub, Int.reduceToNat, Int.reduceLT, Int.reduceLE, Int.reduceEq, Int.reduceAdd, reduceCtorEq]
  refine forkd (fun h => ?_) (fun h => ?_) <;> simp -dsimp (disch := omega) only [↓wi, wo, wrap64, reduceIte, Nat.reduceEqDiff, Nat.reduceAdd, Nat.reduceLT, Nat.reduceLeDiff, Nat.reduceMul, Nat.reduceSub, Int.reduceToNat, Int.reduceLT, Int.reduceLE, Int.reduceEq, Int.reduceAdd, reduceCtorEq] <;> refine ret_s (.inl rfl) rfl ?_ <;> rw [← findI_any l 0] <;> simp [h] <;> rfl
theorem p_findcS {x : List Cell} {o : Nat} {name : ByteArray} {s : ByteArray} (hx : x.length = 3) (ho : PC Try.prog o [ag x] (.ret (vs s))) :
    ACalls Try.prog 110 [ag x, .ptr 1 0, .ptr 0 0] [.box [vs name], .box [.fn o [] []]] fun o' H1 => o' = .ret (vb (decide (s = name))) ∧ H1 = [.box [vs name], .box [.fn o [] []]] := by
  refine ac_of mixed F110 (by simp) ?_
  simp -dsimp (disch := omega) only [↓wi, wo, wrap64, reduceIte, Nat.reduceEqDiff, Nat.reduceAdd, Nat.reduceLT, Nat.reduceLeDiff, Nat.reduceMul, Nat.reduceSub, Int.reduceToNat, Int.reduceLT, Int.reduceLE, Int.reduceEq, Int.reduceAdd, reduceCtorEq, c110, enter, hx, take_mapc hx]
  refine qv_p ho (data_ag _) rfl ?_
  simp -dsimp (disch := omega) only [↓wi, wo, wrap64, reduceIte, Nat.reduceEqDiff, Nat.reduceAdd, Nat.reduceLT, Nat.reduceLeDiff, Nat.reduceMul, Nat.reduceSub, Int.reduceToNat, Int.reduceLT, Int.reduceLE, Int.reduceEq, Int.reduceAdd, reduceCtorEq]
  refine forkd (fun h => ?_) (fun h => ?_)
  · simp -dsimp (disch := omega) only [↓wi, wo, wrap64, reduceIte, Nat.reduceEqDiff, Nat.reduceAdd, Nat.reduceLT, Nat.reduceLeDiff, Nat.reduceMul, Nat.reduceSub, Int.reduceToNat, Int.reduceLT, Int.reduceLE, Int.reduceEq, Int.reduceAdd, reduceCtorEq]
    refine ret_i [true, true] rfl (by simp) (by simp) ⟨?_, rfl⟩
    rw [decide_eq_true h]; rfl
  · simp -dsimp (disch := omega) only [↓wi, wo, wrap64, reduceIte, Nat.reduceEqDiff, Nat.reduceAdd, Nat.reduceLT, Nat.reduceLeDiff, Nat.reduceMul, Nat.reduceSub, Int.reduceToNat, Int.reduceLT, Int.reduceLE, Int.reduceEq, Int.reduceAdd, reduceCtorEq]
    refine ret_i [true, true] rfl (by simp) (by simp) ⟨?_, rfl⟩
    rw [decide_eq_false h]; rfl
theorem p_findS {α : Type} {enc : α → List Cell} {l : List α} {nm : α → ByteArray} {o : Nat} (hm : ∀ a, (enc a).length = 3) (ho : ∀ x, PC Try.prog o [ag (enc x)] (.ret (vs (nm x)))) (name : ByteArray) :
    PC Try.prog 60 [.c (.sl 3 (l.map enc)), vs name, .fn o [] []] (.ret (vi (findI (fun x => decide (nm x = name)) 0 l))) := by
  refine pc_of mixed F60 (by simp) ?_
  simp -dsimp (disch := omega) only [↓wi, wo, wrap64, reduceIte, Nat.reduceEqDiff, Nat.reduceAdd, Nat.reduceLT, Nat.reduceLeDiff, Nat.reduceMul, Nat.reduceSub, Int.reduceToNat, Int.reduceLT, Int.reduceLE, Int.reduceEq, Int.reduceAdd, reduceCtorEq, c60, enter]
  refine calls_h B91 (h_indexS hm B110 fun x hx => p_findcS (hm x) (ho x)) ?_
  simp -dsimp (disch := omega) only [↓wi, wo, wrap64, reduceIte, Nat.reduceEqDiff, Nat.reduceAdd, Nat.reduceLT, Nat.reduceLeDiff, Nat.reduceMul, Nat.reduceSub, Int.reduceToNat, Int.reduceLT, Int.reduceLE, Int.reduceEq, Int.reduceAdd, reduceCtorEq]
  exact ret_p rfl
theorem p_onceS {α : Type} {enc : α → List Cell} {l : List α} {nm : α → ByteArray} {o : Nat} (hm : ∀ a, (enc a).length = 3) (ho : ∀ x, PC Try.prog o [ag (enc x)] (.ret (vs (nm x)))) :
    PC Try.prog 45 [.c (.sl 3 (l.map enc)), .fn o [] []] (.ret (vb (onceR nm l))) := by
  refine pc_of mixed F45 (by simp) ?_
  simp -dsimp (disch := omega) only [↓wi, wo, wrap64, reduceIte, Nat.reduceEqDiff, Nat.reduceAdd, Nat.reduceLT, Nat.reduceLeDiff, Nat.reduceMul, Nat.reduceSub, Int.reduceToNat, Int.reduceLT, Int.reduceLE, Int.reduceEq, Int.reduceAdd, reduceCtorEq, c45, enter]
  refine give fun _ => ?_
  simp -dsimp (disch := omega) only [↓wi, wo, wrap64, reduceIte, Nat.reduceEqDiff, Nat.reduceAdd, Nat.reduceLT, Nat.reduceLeDiff, Nat.reduceMul, Nat.reduceSub, Int.reduceToNat, Int.reduceLT, Int.reduceLE, Int.reduceEq, Int.reduceAdd, reduceCtorEq]
  refine AW_wk (Wk_live [0, 1, 7, 8, 9]) (AW_inv mixed (n := l.length) (fun n s => ∃ i : Nat, i + n = l.length ∧ onceR nm l = allI (fun i x => named (nm x) && decide (findI (fun y => decide (nm y = nm x)) 0 l = (i : Int))) i (l.drop i) ∧ s = ⟨0, [(0, .c (.sl 3 (l.map enc))), (1, .fn o [] []), (7, .c (.sl 3 (l.map enc))), (8, vi l.length), (9, vi i)], []⟩) ⟨0, by omega, rfl, rfl⟩ ?_)
  rintro n _ ⟨i, hi, hf, rfl⟩
  simp -dsimp (disch := omega) only [↓wi, wo, wrap64, reduceIte, Nat.reduceEqDiff, Nat.reduceAdd, Nat.reduceLT, Nat.reduceLeDiff, Nat.reduceMul, Nat.reduceSub, Int.reduceToNat, Int.reduceLT, Int.reduceLE, Int.reduceEq, Int.reduceAdd, reduceCtorEq]
  refine forkd (fun _ => ?_) (fun _ => ?_)
  · have hi' : i < l.length := by omega
    rw [allI_at hi'] at hf
    have hx := getD_map (f := enc) hi'
    generalize l[i] = x at hf hx
    have hl := hm x
    have hoi := ho x
    simp -dsimp (disch := omega) only [↓wi, wo, wrap64, reduceIte, Nat.reduceEqDiff, Nat.reduceAdd, Nat.reduceLT, Nat.reduceLeDiff, Nat.reduceMul, Nat.reduceSub, Int.reduceToNat, Int.reduceLT, Int.reduceLE, Int.reduceEq, Int.reduceAdd, reduceCtorEq]
    refine need (by omega) ?_
    simp -dsimp (disch := omega) only [↓wi, wo, wrap64, reduceIte, Nat.reduceEqDiff, Nat.reduceAdd, Nat.reduceLT, Nat.reduceLeDiff, Nat.reduceMul, Nat.reduceSub, Int.reduceToNat, Int.reduceLT, Int.reduceLE, Int.reduceEq, Int.reduceAdd, reduceCtorEq, hx, hl, take_all (Nat.le_of_eq hl), take_mapc hl]
    refine calls_p hoi (data_ag _) rfl ?_
    simp -dsimp (disch := omega) only [↓wi, wo, wrap64, reduceIte, Nat.reduceEqDiff, Nat.reduceAdd, Nat.reduceLT, Nat.reduceLeDiff, Nat.reduceMul, Nat.reduceSub, Int.reduceToNat, Int.reduceLT, Int.reduceLE, Int.reduceEq, Int.reduceAdd, reduceCtorEq]
    refine calls_p (p_named _) rfl rfl ?_
    simp -dsimp (disch := omega) only [↓wi, wo, wrap64, reduceIte, Nat.reduceEqDiff, Nat.reduceAdd, Nat.reduceLT, Nat.reduceLeDiff, Nat.reduceMul, Nat.reduceSub, Int.reduceToNat, Int.reduceLT, Int.reduceLE, Int.reduceEq, Int.reduceAdd, reduceCtorEq]
    refine fork (fun h1 => ?_) (fun h1 => ?_)
    · simp -dsimp (disch := omega) only [↓wi, wo, wrap64, reduceIte, Nat.reduceEqDiff, Nat.reduceAdd, Nat.reduceLT, Nat.reduceLeDiff, Nat.reduceMul, Nat.reduceSub, Int.reduceToNat, Int.reduceLT, Int.reduceLE, Int.reduceEq, Int.reduceAdd, reduceCtorEq, h1, hl, take_mapc hl]
      refine calls_p hoi (data_ag _) rfl ?_
      simp -dsimp (disch := omega) only [↓wi, wo, wrap64, reduceIte, Nat.reduceEqDiff, Nat.reduceAdd, Nat.reduceLT, Nat.reduceLeDiff, Nat.reduceMul, Nat.reduceSub, Int.reduceToNat, Int.reduceLT, Int.reduceLE, Int.reduceEq, Int.reduceAdd, reduceCtorEq, h1]
      refine calls_p (p_findS hm ho _) rfl rfl ?_
      simp -dsimp (disch := omega) only [↓wi, wo, wrap64, reduceIte, Nat.reduceEqDiff, Nat.reduceAdd, Nat.reduceLT, Nat.reduceLeDiff, Nat.reduceMul, Nat.reduceSub, Int.reduceToNat, Int.reduceLT, Int.reduceLE, Int.reduceEq, Int.reduceAdd, reduceCtorEq, h1]
      refine forkd (fun h2 => ?_) (fun h2 => ?_)
      · simp -dsimp (disch := omega) only [↓wi, wo, wrap64, reduceIte, Nat.reduceEqDiff, Nat.reduceAdd, Nat.reduceLT, Nat.reduceLeDiff, Nat.reduceMul, Nat.reduceSub, Int.reduceToNat, Int.reduceLT, Int.reduceLE, Int.reduceEq, Int.reduceAdd, reduceCtorEq, h1]
        refine ⟨n - 1, _, by omega, (Wk_cut [] [0, 1, 7, 8, 9] (by simp) (by simp)), i + 1, by omega, ?_, rfl⟩
        rw [hf, h1, decide_eq_true h2]; rfl
      · simp -dsimp (disch := omega) only [↓wi, wo, wrap64, reduceIte, Nat.reduceEqDiff, Nat.reduceAdd, Nat.reduceLT, Nat.reduceLeDiff, Nat.reduceMul, Nat.reduceSub, Int.reduceToNat, Int.reduceLT, Int.reduceLE, Int.reduceEq, Int.reduceAdd, reduceCtorEq, h1]
        refine ret_p ?_
        rw [hf, h1, decide_eq_false h2]; rfl
    · simp -dsimp (disch := omega) only [↓wi, wo, wrap64, reduceIte, Nat.reduceEqDiff, Nat.reduceAdd, Nat.reduceLT, Nat.reduceLeDiff, Nat.reduceMul, Nat.reduceSub, Int.reduceToNat, Int.reduceLT, Int.reduceLE, Int.reduceEq, Int.reduceAdd, reduceCtorEq, h1]
      refine ret_p ?_
      rw [hf, h1]; rfl
  · simp -dsimp (disch := omega) only [↓wi, wo, wrap64, reduceIte, Nat.reduceEqDiff, Nat.reduceAdd, Nat.reduceLT, Nat.reduceLeDiff, Nat.reduceMul, Nat.reduceSub, Int.reduceToNat, Int.reduceLT, Int.reduceLE, Int.reduceEq, Int.reduceAdd, reduceCtorEq]
    refine ret_p ?_
    rw [hf, allI_end (by omega)]
    rfl
theorem h_indexM {α : Type} {enc : α → List Cell} {H : List AObj} {g : Nat} {first caps : List SV} {l : List α} {p : α → Bool} (hm : ∀ a, (enc a).length = 13) (hb : Bod Try.prog g)
    (hg : ∀ x ∈ l, ACalls Try.prog g (first ++ [ag (enc x)] ++ caps) H fun o H1 => o = .ret (vb (p x)) ∧ H1 = H) :
    ACalls Try.prog 92 [.c (.sl 13 (l.map enc)), .fn g first caps] H fun o H1 => o = .ret (vi (findI p 0 l)) ∧ H1 = H := by
  refine ac_of mixed F92 (by simp) ?_
  simp -dsimp (disch := omega) only [↓wi, wo, wrap64, reduceIte, Nat.reduceEqDiff, Nat.reduceAdd, Nat.reduceLT, Nat.reduceLeDiff, Nat.reduceMul, Nat.reduceSub, Int.reduceToNat, Int.reduceLT, Int.reduceLE, Int.reduceEq, Int.reduceAdd, reduceCtorEq, c92, enter]
  refine give fun hlen => ?_
  simp -dsimp (disch := omega) only [↓wi, wo, wrap64, reduceIte, Nat.reduceEqDiff, Nat.reduceAdd, Nat.reduceLT, Nat.reduceLeDiff, Nat.reduceMul, Nat.reduceSub, Int.reduceToNat, Int.reduceLT, Int.reduceLE, Int.reduceEq, Int.reduceAdd, reduceCtorEq]
  refine AW_wk (Wk_live [0, 1, 7, 8]) (AW_inv mixed (n := l.length) (fun n s => ∃ i : Nat, i + n = l.length ∧ findI p 0 l = findI p i (l.drop i) ∧ s = ⟨H.length, [(0, .c (.sl 13 (l.map enc))), (1, .fn g first caps), (7, vi l.length), (8, vi i)], H⟩) ⟨0, by omega, rfl, rfl⟩ ?_)
  rintro n _ ⟨i, hi, hf, rfl⟩
  simp -dsimp (disch := omega) only [↓wi, wo, wrap64, reduceIte, Nat.reduceEqDiff, Nat.reduceAdd, Nat.reduceLT, Nat.reduceLeDiff, Nat.reduceMul, Nat.reduceSub, Int.reduceToNat, Int.reduceLT, Int.reduceLE, Int.reduceEq, Int.reduceAdd, reduceCtorEq]
  refine forkd (fun _ => ?_) (fun _ => ?_)
  · have hi' : i < l.length := by omega
    simp -dsimp (disch := omega) only [↓wi, wo, wrap64, reduceIte, Nat.reduceEqDiff, Nat.reduceAdd, Nat.reduceLT, Nat.reduceLeDiff, Nat.reduceMul, Nat.reduceSub, Int.reduceToNat, Int.reduceLT, Int.reduceLE, Int.reduceEq, Int.reduceAdd, reduceCtorEq]
    refine need (by omega) ?_
    simp -dsimp (disch := omega) only [↓wi, wo, wrap64, reduceIte, Nat.reduceEqDiff, Nat.reduceAdd, Nat.reduceLT, Nat.reduceLeDiff, Nat.reduceMul, Nat.reduceSub, Int.reduceToNat, Int.reduceLT, Int.reduceLE, Int.reduceEq, Int.reduceAdd, reduceCtorEq, getD_map hi', hm, take_all (Nat.le_of_eq (hm _))]
    refine calls_h hb (hg _ (List.getElem_mem hi')) ?_
    simp -dsimp (disch := omega) only [↓wi, wo, wrap64, reduceIte, Nat.reduceEqDiff, Nat.reduceAdd, Nat.reduceLT, Nat.reduceLeDiff, Nat.reduceMul, Nat.reduceSub, Int.reduceToNat, Int.reduceLT, Int.reduceLE, Int.reduceEq, Int.reduceAdd, reduceCtorEq]
    refine fork (fun h => ?_) (fun h => ?_)
    · simp -dsimp (disch := omega) only [↓wi, wo, wrap64, reduceIte, Nat.reduceEqDiff, Nat.reduceAdd, Nat.reduceLT, Nat.reduceLeDiff, Nat.reduceMul, Nat.reduceSub, Int.reduceToNat, Int.reduceLT, Int.reduceLE, Int.reduceEq, Int.reduceAdd, reduceCtorEq]
      refine ret_s (.inl rfl) rfl ?_
      rw [hf, findI_at hi', h]
      rfl
    · simp -dsimp (disch := omega) only [↓wi, wo, wrap64, reduceIte, Nat.reduceEqDiff, Nat.reduceAdd, Nat.reduceLT, Nat.reduceLeDiff, Nat.reduceMul, Nat.reduceSub, Int.reduceToNat, Int.reduceLT, Int.reduceLE, Int.reduceEq, Int.reduceAdd, reduceCtorEq]
      refine ⟨n - 1, _, by omega, Wk_live [0, 1, 7, 8], i + 1, by omega, ?_, rfl⟩
      rw [hf, findI_at hi', h]
      rfl
  · simp -dsimp (disch := omega) only [↓wi, wo, wrap64, reduceIte, Nat.reduceEqDiff, Nat.reduceAdd, Nat.reduceLT, Nat.reduceLeDiff, Nat.reduceMul, Nat.reduceSub, Int.reduceToNat, Int.reduceLT, Int.reduceLE, Int.reduceEq, Int.reduceAdd, reduceCtorEq]
    refine ret_s (.inl rfl) rfl ?_
    rw [hf, findI_end (by omega)]
    rfl
theorem h_containsM {α : Type} {enc : α → List Cell} {H : List AObj} {g : Nat} {first caps : List SV} {l : List α} {p : α → Bool} (hm : ∀ a, (enc a).length = 13) (hb : Bod Try.prog g)
    (hg : ∀ x ∈ l, ACalls Try.prog g (first ++ [ag (enc x)] ++ caps) H fun o H1 => o = .ret (vb (p x)) ∧ H1 = H) :
    ACalls Try.prog 52 [.c (.sl 13 (l.map enc)), .fn g first caps] H fun o H1 => o = .ret (vb (l.any p)) ∧ H1 = H := by
  refine ac_of mixed F52 (by simp) ?_
  simp -dsimp (disch := omega) only [↓wi, wo, wrap64, reduceIte, Nat.reduceEqDiff, Nat.reduceAdd, Nat.reduceLT, Nat.reduceLeDiff, Nat.reduceMul, Nat.reduceSub, Int.reduceToNat, Int.reduceLT, Int.reduceLE, Int.reduceEq, Int.reduceAdd, reduceCtorEq, c52, enter]
  refine calls_h B92 (h_indexM hm hb hg) ?_
  simp -dsimp (disch := omega) only [↓wi, wo, wrap64, reduceIte, Nat.reduceEqDiff, Nat.reduceAdd, Nat.reduceLT, Nat.reduceLeDiff, Nat.reduceMul, Nat.reduceSub, Int.reduceToNat, Int.reduceLT, Int.reduceLE, Int.reduceEq, Int.reduceAdd, reduceCtorEq]
  refine forkd (fun h => ?_) (fun h => ?_) <;> simp -dsimp (disch := omega) only [↓wi, wo, wrap64, reduceIte, Nat.reduceEqDiff, Nat.reduceAdd, Nat.reduceLT, Nat.reduceLeDiff, Nat.reduceMul, Nat.reduceSub, Int.reduceToNat, Int.reduceLT, Int.reduceLE, Int.reduceEq, Int.reduceAdd, reduceCtorEq] <;> refine ret_s (.inl rfl) rfl ?_ <;> rw [← findI_any l 0] <;> simp [h] <;> rfl
theorem p_findcM {x : List Cell} {o : Nat} {name : ByteArray} {s : ByteArray} (hx : x.length = 13) (ho : PC Try.prog o [ag x] (.ret (vs s))) :
    ACalls Try.prog 111 [ag x, .ptr 1 0, .ptr 0 0] [.box [vs name], .box [.fn o [] []]] fun o' H1 => o' = .ret (vb (decide (s = name))) ∧ H1 = [.box [vs name], .box [.fn o [] []]] := by
  refine ac_of mixed F111 (by simp) ?_
  simp -dsimp (disch := omega) only [↓wi, wo, wrap64, reduceIte, Nat.reduceEqDiff, Nat.reduceAdd, Nat.reduceLT, Nat.reduceLeDiff, Nat.reduceMul, Nat.reduceSub, Int.reduceToNat, Int.reduceLT, Int.reduceLE, Int.reduceEq, Int.reduceAdd, reduceCtorEq, c111, enter, hx, take_mapc hx]
  refine qv_p ho (data_ag _) rfl ?_
  simp -dsimp (disch := omega) only [↓wi, wo, wrap64, reduceIte, Nat.reduceEqDiff, Nat.reduceAdd, Nat.reduceLT, Nat.reduceLeDiff, Nat.reduceMul, Nat.reduceSub, Int.reduceToNat, Int.reduceLT, Int.reduceLE, Int.reduceEq, Int.reduceAdd, reduceCtorEq]
  refine forkd (fun h => ?_) (fun h => ?_)
  · simp -dsimp (disch := omega) only [↓wi, wo, wrap64, reduceIte, Nat.reduceEqDiff, Nat.reduceAdd, Nat.reduceLT, Nat.reduceLeDiff, Nat.reduceMul, Nat.reduceSub, Int.reduceToNat, Int.reduceLT, Int.reduceLE, Int.reduceEq, Int.reduceAdd, reduceCtorEq]
    refine ret_i [true, true] rfl (by simp) (by simp) ⟨?_, rfl⟩
    rw [decide_eq_true h]; rfl
  · simp -dsimp (disch := omega) only [↓wi, wo, wrap64, reduceIte, Nat.reduceEqDiff, Nat.reduceAdd, Nat.reduceLT, Nat.reduceLeDiff, Nat.reduceMul, Nat.reduceSub, Int.reduceToNat, Int.reduceLT, Int.reduceLE, Int.reduceEq, Int.reduceAdd, reduceCtorEq]
    refine ret_i [true, true] rfl (by simp) (by simp) ⟨?_, rfl⟩
    rw [decide_eq_false h]; rfl
theorem p_findM {α : Type} {enc : α → List Cell} {l : List α} {nm : α → ByteArray} {o : Nat} (hm : ∀ a, (enc a).length = 13) (ho : ∀ x, PC Try.prog o [ag (enc x)] (.ret (vs (nm x)))) (name : ByteArray) :
    PC Try.prog 61 [.c (.sl 13 (l.map enc)), vs name, .fn o [] []] (.ret (vi (findI (fun x => decide (nm x = name)) 0 l))) := by
  refine pc_of mixed F61 (by simp) ?_
  simp -dsimp (disch := omega) only [↓wi, wo, wrap64, reduceIte, Nat.reduceEqDiff, Nat.reduceAdd, Nat.reduceLT, Nat.reduceLeDiff, Nat.reduceMul, Nat.reduceSub, Int.reduceToNat, Int.reduceLT, Int.reduceLE, Int.reduceEq, Int.reduceAdd, reduceCtorEq, c61, enter]
  refine calls_h B92 (h_indexM hm B111 fun x hx => p_findcM (hm x) (ho x)) ?_
  simp -dsimp (disch := omega) only [↓wi, wo, wrap64, reduceIte, Nat.reduceEqDiff, Nat.reduceAdd, Nat.reduceLT, Nat.reduceLeDiff, Nat.reduceMul, Nat.reduceSub, Int.reduceToNat, Int.reduceLT, Int.reduceLE, Int.reduceEq, Int.reduceAdd, reduceCtorEq]
  exact ret_p rfl
theorem p_onceM {α : Type} {enc : α → List Cell} {l : List α} {nm : α → ByteArray} {o : Nat} (hm : ∀ a, (enc a).length = 13) (ho : ∀ x, PC Try.prog o [ag (enc x)] (.ret (vs (nm x)))) :
    PC Try.prog 50 [.c (.sl 13 (l.map enc)), .fn o [] []] (.ret (vb (onceR nm l))) := by
  refine pc_of mixed F50 (by simp) ?_
  simp -dsimp (disch := omega) only [↓wi, wo, wrap64, reduceIte, Nat.reduceEqDiff, Nat.reduceAdd, Nat.reduceLT, Nat.reduceLeDiff, Nat.reduceMul, Nat.reduceSub, Int.reduceToNat, Int.reduceLT, Int.reduceLE, Int.reduceEq, Int.reduceAdd, reduceCtorEq, c50, enter]
  refine give fun _ => ?_
  simp -dsimp (disch := omega) only [↓wi, wo, wrap64, reduceIte, Nat.reduceEqDiff, Nat.reduceAdd, Nat.reduceLT, Nat.reduceLeDiff, Nat.reduceMul, Nat.reduceSub, Int.reduceToNat, Int.reduceLT, Int.reduceLE, Int.reduceEq, Int.reduceAdd, reduceCtorEq]
  refine AW_wk (Wk_live [0, 1, 7, 8, 9]) (AW_inv mixed (n := l.length) (fun n s => ∃ i : Nat, i + n = l.length ∧ onceR nm l = allI (fun i x => named (nm x) && decide (findI (fun y => decide (nm y = nm x)) 0 l = (i : Int))) i (l.drop i) ∧ s = ⟨0, [(0, .c (.sl 13 (l.map enc))), (1, .fn o [] []), (7, .c (.sl 13 (l.map enc))), (8, vi l.length), (9, vi i)], []⟩) ⟨0, by omega, rfl, rfl⟩ ?_)
  rintro n _ ⟨i, hi, hf, rfl⟩
  simp -dsimp (disch := omega) only [↓wi, wo, wrap64, reduceIte, Nat.reduceEqDiff, Nat.reduceAdd, Nat.reduceLT, Nat.reduceLeDiff, Nat.reduceMul, Nat.reduceSub, Int.reduceToNat, Int.reduceLT, Int.reduceLE, Int.reduceEq, Int.reduceAdd, reduceCtorEq]
  refine forkd (fun _ => ?_) (fun _ => ?_)
  · have hi' : i < l.length := by omega
    rw [allI_at hi'] at hf
    have hx := getD_map (f := enc) hi'
    generalize l[i] = x at hf hx
    have hl := hm x
    have hoi := ho x
    simp -dsimp (disch := omega) only [↓wi, wo, wrap64, reduceIte, Nat.reduceEqDiff, Nat.reduceAdd, Nat.reduceLT, Nat.reduceLeDiff, Nat.reduceMul, Nat.reduceSub, Int.reduceToNat, Int.reduceLT, Int.reduceLE, Int.reduceEq, Int.reduceAdd, reduceCtorEq]
    refine need (by omega) ?_
    simp -dsimp (disch := omega) only [↓wi, wo, wrap64, reduceIte, Nat.reduceEqDiff, Nat.reduceAdd, Nat.reduceLT, Nat.reduceLeDiff, Nat.reduceMul, Nat.reduceSub, Int.reduceToNat, Int.reduceLT, Int.reduceLE, Int.reduceEq, Int.reduceAdd, reduceCtorEq, hx, hl, take_all (Nat.le_of_eq hl), take_mapc hl]
    refine calls_p hoi (data_ag _) rfl ?_
    simp -dsimp (disch := omega) only [↓wi, wo, wrap64, reduceIte, Nat.reduceEqDiff, Nat.reduceAdd, Nat.reduceLT, Nat.reduceLeDiff, Nat.reduceMul, Nat.reduceSub, Int.reduceToNat, Int.reduceLT, Int.reduceLE, Int.reduceEq, Int.reduceAdd, reduceCtorEq]
    refine calls_p (p_named _) rfl rfl ?_
    simp -dsimp (disch := omega) only [↓wi, wo, wrap64, reduceIte, Nat.reduceEqDiff, Nat.reduceAdd, Nat.reduceLT, Nat.reduceLeDiff, Nat.reduceMul, Nat.reduceSub, Int.reduceToNat, Int.reduceLT, Int.reduceLE, Int.reduceEq, Int.reduceAdd, reduceCtorEq]
    refine fork (fun h1 => ?_) (fun h1 => ?_)
    · simp -dsimp (disch := omega) only [↓wi, wo, wrap64, reduceIte, Nat.reduceEqDiff, Nat.reduceAdd, Nat.reduceLT, Nat.reduceLeDiff, Nat.reduceMul, Nat.reduceSub, Int.reduceToNat, Int.reduceLT, Int.reduceLE, Int.reduceEq, Int.reduceAdd, reduceCtorEq, h1, hl, take_mapc hl]
      refine calls_p hoi (data_ag _) rfl ?_
      simp -dsimp (disch := omega) only [↓wi, wo, wrap64, reduceIte, Nat.reduceEqDiff, Nat.reduceAdd, Nat.reduceLT, Nat.reduceLeDiff, Nat.reduceMul, Nat.reduceSub, Int.reduceToNat, Int.reduceLT, Int.reduceLE, Int.reduceEq, Int.reduceAdd, reduceCtorEq, h1]
      refine calls_p (p_findM hm ho _) rfl rfl ?_
      simp -dsimp (disch := omega) only [↓wi, wo, wrap64, reduceIte, Nat.reduceEqDiff, Nat.reduceAdd, Nat.reduceLT, Nat.reduceLeDiff, Nat.reduceMul, Nat.reduceSub, Int.reduceToNat, Int.reduceLT, Int.reduceLE, Int.reduceEq, Int.reduceAdd, reduceCtorEq, h1]
      refine forkd (fun h2 => ?_) (fun h2 => ?_)
      · simp -dsimp (disch := omega) only [↓wi, wo, wrap64, reduceIte, Nat.reduceEqDiff, Nat.reduceAdd, Nat.reduceLT, Nat.reduceLeDiff, Nat.reduceMul, Nat.reduceSub, Int.reduceToNat, Int.reduceLT, Int.reduceLE, Int.reduceEq, Int.reduceAdd, reduceCtorEq, h1]
        refine ⟨n - 1, _, by omega, (Wk_cut [] [0, 1, 7, 8, 9] (by simp) (by simp)), i + 1, by omega, ?_, rfl⟩
        rw [hf, h1, decide_eq_true h2]; rfl
      · simp -dsimp (disch := omega) only [↓wi, wo, wrap64, reduceIte, Nat.reduceEqDiff, Nat.reduceAdd, Nat.reduceLT, Nat.reduceLeDiff, Nat.reduceMul, Nat.reduceSub, Int.reduceToNat, Int.reduceLT, Int.reduceLE, Int.reduceEq, Int.reduceAdd, reduceCtorEq, h1]
        refine ret_p ?_
        rw [hf, h1, decide_eq_false h2]; rfl
    · simp -dsimp (disch := omega) only [↓wi, wo, wrap64, reduceIte, Nat.reduceEqDiff, Nat.reduceAdd, Nat.reduceLT, Nat.reduceLeDiff, Nat.reduceMul, Nat.reduceSub, Int.reduceToNat, Int.reduceLT, Int.reduceLE, Int.reduceEq, Int.reduceAdd, reduceCtorEq, h1]
      refine ret_p ?_
      rw [hf, h1]; rfl
  · simp -dsimp (disch := omega) only [↓wi, wo, wrap64, reduceIte, Nat.reduceEqDiff, Nat.reduceAdd, Nat.reduceLT, Nat.reduceLeDiff, Nat.reduceMul, Nat.reduceSub, Int.reduceToNat, Int.reduceLT, Int.reduceLE, Int.reduceEq, Int.reduceAdd, reduceCtorEq]
    refine ret_p ?_
    rw [hf, allI_end (by omega)]
    rfl
end Go.Proofs.Ytbnelpgogjbgjaa.Q
/- Rows of texts. -/
set_option linter.unusedVariables false
set_option linter.unusedSimpArgs false
namespace Go.Proofs.Ytbnelpgogjbgjaa.Q
open Go.RowKit

theorem len_strs (l : List ByteArray) : (strs l).length = l.length := by simp [strs]
theorem len_ints (l : List I64) : (ints l).length = l.length := by simp [ints]
theorem getD_strs {l : List ByteArray} {i : Nat} (h : i < l.length) : (strs l).getD i [] = [cs l[i]] := getD_map h
theorem getD_ints {l : List I64} {i : Nat} (h : i < l.length) : (ints l).getD i [] = [ci l[i].1] := getD_map h
theorem h_indexT {H : List AObj} {g : Nat} {first caps : List SV} {l : List ByteArray} {p : ByteArray → Bool} (hb : Bod Try.prog g)
    (hg : ∀ x ∈ l, ACalls Try.prog g (first ++ [vs x] ++ caps) H fun o H1 => o = .ret (vb (p x)) ∧ H1 = H) :
    ACalls Try.prog 144 [.c (.sl 1 (strs l)), .fn g first caps] H fun o H1 => o = .ret (vi (findI p 0 l)) ∧ H1 = H := by
  refine ac_of mixed F144 (by simp) ?_
  simp -dsimp (disch := omega) only [↓wi, wo, wrap64, reduceIte, Nat.reduceEqDiff, Nat.reduceAdd, Nat.reduceLT, Nat.reduceLeDiff, Nat.reduceMul, Nat.reduceSub, Int.reduceToNat, Int.reduceLT, Int.reduceLE, Int.reduceEq, Int.reduceAdd, reduceCtorEq, c144, enter]
  refine give fun hlen => ?_
  rw [len_strs] at hlen
  simp -dsimp (disch := omega) only [↓wi, wo, wrap64, reduceIte, Nat.reduceEqDiff, Nat.reduceAdd, Nat.reduceLT, Nat.reduceLeDiff, Nat.reduceMul, Nat.reduceSub, Int.reduceToNat, Int.reduceLT, Int.reduceLE, Int.reduceEq, Int.reduceAdd, reduceCtorEq, len_strs]
  refine AW_wk (Wk_live [0, 1, 7, 8]) (AW_inv mixed (n := l.length) (fun n s => ∃ i : Nat, i + n = l.length ∧ findI p 0 l = findI p i (l.drop i) ∧ s = ⟨H.length, [(0, .c (.sl 1 (strs l))), (1, .fn g first caps), (7, vi l.length), (8, vi i)], H⟩) ⟨0, by omega, rfl, rfl⟩ ?_)
  rintro n _ ⟨i, hi, hf, rfl⟩
  simp -dsimp (disch := omega) only [↓wi, wo, wrap64, reduceIte, Nat.reduceEqDiff, Nat.reduceAdd, Nat.reduceLT, Nat.reduceLeDiff, Nat.reduceMul, Nat.reduceSub, Int.reduceToNat, Int.reduceLT, Int.reduceLE, Int.reduceEq, Int.reduceAdd, reduceCtorEq]
  refine forkd (fun _ => ?_) (fun _ => ?_)
  · have hi' : i < l.length := by omega
    simp -dsimp (disch := omega) only [↓wi, wo, wrap64, reduceIte, Nat.reduceEqDiff, Nat.reduceAdd, Nat.reduceLT, Nat.reduceLeDiff, Nat.reduceMul, Nat.reduceSub, Int.reduceToNat, Int.reduceLT, Int.reduceLE, Int.reduceEq, Int.reduceAdd, reduceCtorEq, len_strs]
    refine need (by omega) ?_
    simp -dsimp (disch := omega) only [↓wi, wo, wrap64, reduceIte, Nat.reduceEqDiff, Nat.reduceAdd, Nat.reduceLT, Nat.reduceLeDiff, Nat.reduceMul, Nat.reduceSub, Int.reduceToNat, Int.reduceLT, Int.reduceLE, Int.reduceEq, Int.reduceAdd, reduceCtorEq, getD_strs hi']
    refine calls_h hb (hg _ (List.getElem_mem hi')) ?_
    simp -dsimp (disch := omega) only [↓wi, wo, wrap64, reduceIte, Nat.reduceEqDiff, Nat.reduceAdd, Nat.reduceLT, Nat.reduceLeDiff, Nat.reduceMul, Nat.reduceSub, Int.reduceToNat, Int.reduceLT, Int.reduceLE, Int.reduceEq, Int.reduceAdd, reduceCtorEq]
    refine fork (fun h => ?_) (fun h => ?_)
    · simp -dsimp (disch := omega) only [↓wi, wo, wrap64, reduceIte, Nat.reduceEqDiff, Nat.reduceAdd, Nat.reduceLT, Nat.reduceLeDiff, Nat.reduceMul, Nat.reduceSub, Int.reduceToNat, Int.reduceLT, Int.reduceLE, Int.reduceEq, Int.reduceAdd, reduceCtorEq]
      refine ret_s (.inl rfl) rfl ?_
      rw [hf, findI_at hi', h]
      rfl
    · simp -dsimp (disch := omega) only [↓wi, wo, wrap64, reduceIte, Nat.reduceEqDiff, Nat.reduceAdd, Nat.reduceLT, Nat.reduceLeDiff, Nat.reduceMul, Nat.reduceSub, Int.reduceToNat, Int.reduceLT, Int.reduceLE, Int.reduceEq, Int.reduceAdd, reduceCtorEq]
      refine ⟨n - 1, _, by omega, Wk_live [0, 1, 7, 8], i + 1, by omega, ?_, rfl⟩
      rw [hf, findI_at hi', h]
      rfl
  · simp -dsimp (disch := omega) only [↓wi, wo, wrap64, reduceIte, Nat.reduceEqDiff, Nat.reduceAdd, Nat.reduceLT, Nat.reduceLeDiff, Nat.reduceMul, Nat.reduceSub, Int.reduceToNat, Int.reduceLT, Int.reduceLE, Int.reduceEq, Int.reduceAdd, reduceCtorEq]
    refine ret_s (.inl rfl) rfl ?_
    rw [hf, findI_end (by omega)]
    rfl
theorem h_containsT {H : List AObj} {g : Nat} {first caps : List SV} {l : List ByteArray} {p : ByteArray → Bool} (hb : Bod Try.prog g)
    (hg : ∀ x ∈ l, ACalls Try.prog g (first ++ [vs x] ++ caps) H fun o H1 => o = .ret (vb (p x)) ∧ H1 = H) :
    ACalls Try.prog 88 [.c (.sl 1 (strs l)), .fn g first caps] H fun o H1 => o = .ret (vb (l.any p)) ∧ H1 = H := by
  refine ac_of mixed F88 (by simp) ?_
  simp -dsimp (disch := omega) only [↓wi, wo, wrap64, reduceIte, Nat.reduceEqDiff, Nat.reduceAdd, Nat.reduceLT, Nat.reduceLeDiff, Nat.reduceMul, Nat.reduceSub, Int.reduceToNat, Int.reduceLT, Int.reduceLE, Int.reduceEq, Int.reduceAdd, reduceCtorEq, c88, enter]
  refine calls_h B144 (h_indexT hb hg) ?_
  simp -dsimp (disch := omega) only [↓wi, wo, wrap64, reduceIte, Nat.reduceEqDiff, Nat.reduceAdd, Nat.reduceLT, Nat.reduceLeDiff, Nat.reduceMul, Nat.reduceSub, Int.reduceToNat, Int.reduceLT, Int.reduceLE, Int.reduceEq, Int.reduceAdd, reduceCtorEq]
  refine forkd (fun h => ?_) (fun h => ?_) <;> simp -dsimp (disch := omega) only [↓wi, wo, wrap64, reduceIte, Nat.reduceEqDiff, Nat.reduceAdd, Nat.reduceLT, Nat.reduceLeDiff, Nat.reduceMul, Nat.reduceSub, Int.reduceToNat, Int.reduceLT, Int.reduceLE, Int.reduceEq, Int.reduceAdd, reduceCtorEq] <;> refine ret_s (.inl rfl) rfl ?_ <;> rw [← findI_any l 0] <;> simp [h] <;> rfl
theorem p_indexT (l : List ByteArray) (s : ByteArray) : PC Try.prog 143 [.c (.sl 1 (strs l)), vs s] (.ret (vi (findI (fun x => decide (s = x)) 0 l))) := by
  refine pc_of mixed F143 (by simp) ?_
  simp -dsimp (disch := omega) only [↓wi, wo, wrap64, reduceIte, Nat.reduceEqDiff, Nat.reduceAdd, Nat.reduceLT, Nat.reduceLeDiff, Nat.reduceMul, Nat.reduceSub, Int.reduceToNat, Int.reduceLT, Int.reduceLE, Int.reduceEq, Int.reduceAdd, reduceCtorEq, c143, enter]
  refine give fun hlen => ?_
  rw [len_strs] at hlen
  simp -dsimp (disch := omega) only [↓wi, wo, wrap64, reduceIte, Nat.reduceEqDiff, Nat.reduceAdd, Nat.reduceLT, Nat.reduceLeDiff, Nat.reduceMul, Nat.reduceSub, Int.reduceToNat, Int.reduceLT, Int.reduceLE, Int.reduceEq, Int.reduceAdd, reduceCtorEq, len_strs]
  refine AW_wk (Wk_live [0, 1, 7, 8]) (AW_inv mixed (n := l.length) (fun n st => ∃ i : Nat, i + n = l.length ∧ findI (fun x => decide (s = x)) 0 l = findI (fun x => decide (s = x)) i (l.drop i) ∧ st = ⟨0, [(0, .c (.sl 1 (strs l))), (1, vs s), (7, vi l.length), (8, vi i)], []⟩) ⟨0, by omega, rfl, rfl⟩ ?_)
  rintro n _ ⟨i, hi, hf, rfl⟩
  simp -dsimp (disch := omega) only [↓wi, wo, wrap64, reduceIte, Nat.reduceEqDiff, Nat.reduceAdd, Nat.reduceLT, Nat.reduceLeDiff, Nat.reduceMul, Nat.reduceSub, Int.reduceToNat, Int.reduceLT, Int.reduceLE, Int.reduceEq, Int.reduceAdd, reduceCtorEq]
  refine forkd (fun _ => ?_) (fun _ => ?_)
  · have hi' : i < l.length := by omega
    rw [findI_at hi'] at hf
    simp -dsimp (disch := omega) only [↓wi, wo, wrap64, reduceIte, Nat.reduceEqDiff, Nat.reduceAdd, Nat.reduceLT, Nat.reduceLeDiff, Nat.reduceMul, Nat.reduceSub, Int.reduceToNat, Int.reduceLT, Int.reduceLE, Int.reduceEq, Int.reduceAdd, reduceCtorEq, len_strs]
    refine need (by omega) ?_
    simp -dsimp (disch := omega) only [↓wi, wo, wrap64, reduceIte, Nat.reduceEqDiff, Nat.reduceAdd, Nat.reduceLT, Nat.reduceLeDiff, Nat.reduceMul, Nat.reduceSub, Int.reduceToNat, Int.reduceLT, Int.reduceLE, Int.reduceEq, Int.reduceAdd, reduceCtorEq, getD_strs hi']
    refine forkd (fun h => ?_) (fun h => ?_)
    · simp -dsimp (disch := omega) only [↓wi, wo, wrap64, reduceIte, Nat.reduceEqDiff, Nat.reduceAdd, Nat.reduceLT, Nat.reduceLeDiff, Nat.reduceMul, Nat.reduceSub, Int.reduceToNat, Int.reduceLT, Int.reduceLE, Int.reduceEq, Int.reduceAdd, reduceCtorEq]
      refine ret_p ?_
      rw [hf, decide_eq_true h]
      rfl
    · simp -dsimp (disch := omega) only [↓wi, wo, wrap64, reduceIte, Nat.reduceEqDiff, Nat.reduceAdd, Nat.reduceLT, Nat.reduceLeDiff, Nat.reduceMul, Nat.reduceSub, Int.reduceToNat, Int.reduceLT, Int.reduceLE, Int.reduceEq, Int.reduceAdd, reduceCtorEq]
      refine ⟨n - 1, _, by omega, Wk_live [0, 1, 7, 8], i + 1, by omega, ?_, rfl⟩
      rw [hf, decide_eq_false h]
      rfl
  · simp -dsimp (disch := omega) only [↓wi, wo, wrap64, reduceIte, Nat.reduceEqDiff, Nat.reduceAdd, Nat.reduceLT, Nat.reduceLeDiff, Nat.reduceMul, Nat.reduceSub, Int.reduceToNat, Int.reduceLT, Int.reduceLE, Int.reduceEq, Int.reduceAdd, reduceCtorEq]
    refine ret_p ?_
    rw [hf, findI_end (by omega)]
    rfl
theorem p_containsT (l : List ByteArray) (s : ByteArray) : PC Try.prog 145 [.c (.sl 1 (strs l)), vs s] (.ret (vb (l.any fun x => decide (s = x)))) := by
  refine pc_of mixed F145 (by simp) ?_
  simp -dsimp (disch := omega) only [↓wi, wo, wrap64, reduceIte, Nat.reduceEqDiff, Nat.reduceAdd, Nat.reduceLT, Nat.reduceLeDiff, Nat.reduceMul, Nat.reduceSub, Int.reduceToNat, Int.reduceLT, Int.reduceLE, Int.reduceEq, Int.reduceAdd, reduceCtorEq, c145, enter]
  refine calls_p (p_indexT l s) rfl rfl ?_
  simp -dsimp (disch := omega) only [↓wi, wo, wrap64, reduceIte, Nat.reduceEqDiff, Nat.reduceAdd, Nat.reduceLT, Nat.reduceLeDiff, Nat.reduceMul, Nat.reduceSub, Int.reduceToNat, Int.reduceLT, Int.reduceLE, Int.reduceEq, Int.reduceAdd, reduceCtorEq]
  refine forkd (fun h => ?_) (fun h => ?_) <;> simp -dsimp (disch := omega) only [↓wi, wo, wrap64, reduceIte, Nat.reduceEqDiff, Nat.reduceAdd, Nat.reduceLT, Nat.reduceLeDiff, Nat.reduceMul, Nat.reduceSub, Int.reduceToNat, Int.reduceLT, Int.reduceLE, Int.reduceEq, Int.reduceAdd, reduceCtorEq] <;> refine retb rfl ?_ <;> rw [← findI_any l 0] <;> simp [h] <;> rfl
def apart (l : List ByteArray) : Bool := allI (fun i s => decide (findI (fun x => decide (s = x)) 0 l = (i : Int))) 0 l
theorem p_apart (l : List ByteArray) : PC Try.prog 86 [.c (.sl 1 (strs l))] (.ret (vb (apart l))) := by
  refine pc_of mixed F86 (by simp) ?_
  simp -dsimp (disch := omega) only [↓wi, wo, wrap64, reduceIte, Nat.reduceEqDiff, Nat.reduceAdd, Nat.reduceLT, Nat.reduceLeDiff, Nat.reduceMul, Nat.reduceSub, Int.reduceToNat, Int.reduceLT, Int.reduceLE, Int.reduceEq, Int.reduceAdd, reduceCtorEq, c86, enter]
  refine give fun hlen => ?_
  rw [len_strs] at hlen
  simp -dsimp (disch := omega) only [↓wi, wo, wrap64, reduceIte, Nat.reduceEqDiff, Nat.reduceAdd, Nat.reduceLT, Nat.reduceLeDiff, Nat.reduceMul, Nat.reduceSub, Int.reduceToNat, Int.reduceLT, Int.reduceLE, Int.reduceEq, Int.reduceAdd, reduceCtorEq, len_strs]
  refine AW_wk (Wk_live [0, 5, 6, 7]) (AW_inv mixed (n := l.length) (fun n st => ∃ i : Nat, i + n = l.length ∧ apart l = allI (fun i s => decide (findI (fun x => decide (s = x)) 0 l = (i : Int))) i (l.drop i) ∧ st = ⟨0, [(0, .c (.sl 1 (strs l))), (5, .c (.sl 1 (strs l))), (6, vi l.length), (7, vi i)], []⟩) ⟨0, by omega, rfl, rfl⟩ ?_)
  rintro n _ ⟨i, hi, hf, rfl⟩
  simp -dsimp (disch := omega) only [↓wi, wo, wrap64, reduceIte, Nat.reduceEqDiff, Nat.reduceAdd, Nat.reduceLT, Nat.reduceLeDiff, Nat.reduceMul, Nat.reduceSub, Int.reduceToNat, Int.reduceLT, Int.reduceLE, Int.reduceEq, Int.reduceAdd, reduceCtorEq]
  refine forkd (fun _ => ?_) (fun _ => ?_)
  · have hi' : i < l.length := by omega
    rw [allI_at hi'] at hf
    simp -dsimp (disch := omega) only [↓wi, wo, wrap64, reduceIte, Nat.reduceEqDiff, Nat.reduceAdd, Nat.reduceLT, Nat.reduceLeDiff, Nat.reduceMul, Nat.reduceSub, Int.reduceToNat, Int.reduceLT, Int.reduceLE, Int.reduceEq, Int.reduceAdd, reduceCtorEq, len_strs]
    refine need (by omega) ?_
    simp -dsimp (disch := omega) only [↓wi, wo, wrap64, reduceIte, Nat.reduceEqDiff, Nat.reduceAdd, Nat.reduceLT, Nat.reduceLeDiff, Nat.reduceMul, Nat.reduceSub, Int.reduceToNat, Int.reduceLT, Int.reduceLE, Int.reduceEq, Int.reduceAdd, reduceCtorEq, getD_strs hi']
    refine calls_p (p_indexT l _) rfl rfl ?_
    simp -dsimp (disch := omega) only [↓wi, wo, wrap64, reduceIte, Nat.reduceEqDiff, Nat.reduceAdd, Nat.reduceLT, Nat.reduceLeDiff, Nat.reduceMul, Nat.reduceSub, Int.reduceToNat, Int.reduceLT, Int.reduceLE, Int.reduceEq, Int.reduceAdd, reduceCtorEq]
    refine forkd (fun h => ?_) (fun h => ?_)
    · simp -dsimp (disch := omega) only [↓wi, wo, wrap64, reduceIte, Nat.reduceEqDiff, Nat.reduceAdd, Nat.reduceLT, Nat.reduceLeDiff, Nat.reduceMul, Nat.reduceSub, Int.reduceToNat, Int.reduceLT, Int.reduceLE, Int.reduceEq, Int.reduceAdd, reduceCtorEq]
      refine ⟨n - 1, _, by omega, Wk_live [0, 5, 6, 7], i + 1, by omega, ?_, rfl⟩
      rw [hf, decide_eq_true h]
      rfl
    · simp -dsimp (disch := omega) only [↓wi, wo, wrap64, reduceIte, Nat.reduceEqDiff, Nat.reduceAdd, Nat.reduceLT, Nat.reduceLeDiff, Nat.reduceMul, Nat.reduceSub, Int.reduceToNat, Int.reduceLT, Int.reduceLE, Int.reduceEq, Int.reduceAdd, reduceCtorEq]
      refine ret_p ?_
      rw [hf, decide_eq_false h]
      rfl
  · simp -dsimp (disch := omega) only [↓wi, wo, wrap64, reduceIte, Nat.reduceEqDiff, Nat.reduceAdd, Nat.reduceLT, Nat.reduceLeDiff, Nat.reduceMul, Nat.reduceSub, Int.reduceToNat, Int.reduceLT, Int.reduceLE, Int.reduceEq, Int.reduceAdd, reduceCtorEq]
    refine ret_p ?_
    rw [hf, allI_end (by omega)]
    rfl
theorem p_text32 (s : ByteArray) : PC Try.prog 89 [vs s] (.ret (vb (decide (32 < (s.size : Int))))) := by
  refine pc_of mixed F89 (by simp) ?_
  simp -dsimp (disch := omega) only [↓wi, wo, wrap64, reduceIte, Nat.reduceEqDiff, Nat.reduceAdd, Nat.reduceLT, Nat.reduceLeDiff, Nat.reduceMul, Nat.reduceSub, Int.reduceToNat, Int.reduceLT, Int.reduceLE, Int.reduceEq, Int.reduceAdd, reduceCtorEq, c89, enter]
  repeat' first | (simp -dsimp (disch := omega) only [↓wi, wo, wrap64, reduceIte, Nat.reduceEqDiff, Nat.reduceAdd, Nat.reduceLT, Nat.reduceLeDiff, Nat.reduceMul, Nat.reduceSub, Int.reduceToNat, Int.reduceLT, Int.reduceLE, Int.reduceEq, Int.reduceAdd, reduceCtorEq]) | (refine brd_y (by first | assumption | omega) ?_) | (refine brd_no (by first | assumption | omega) ?_) | (refine forkd (fun _ => ?_) (fun _ => ?_)) | (refine brs_y (by assumption) ?_) | (refine brs_n (by assumption) ?_) | (refine fork (fun _ => ?_) (fun _ => ?_)) | (refine need (by omega) ?_) | (refine qv_need (by omega) ?_) | (refine qv_give ?_) | (refine give fun _ => ?_) | (refine retb rfl ?_) | (refine reti rfl ?_) | (refine ret_p ?_) | (refine ret_ps rfl ?_) | (refine ret_pp rfl ?_)
  all_goals grind
theorem p_fieldName (f : Fd) : PC Try.prog 41 [ag (encF f)] (.ret (vs f.name)) := by
  refine pc_of mixed F41 (by simp) ?_
  simp -dsimp (disch := omega) only [↓wi, wo, wrap64, reduceIte, Nat.reduceEqDiff, Nat.reduceAdd, Nat.reduceLT, Nat.reduceLeDiff, Nat.reduceMul, Nat.reduceSub, Int.reduceToNat, Int.reduceLT, Int.reduceLE, Int.reduceEq, Int.reduceAdd, reduceCtorEq, c41, enter, encF]
  repeat' first | (simp -dsimp (disch := omega) only [↓wi, wo, wrap64, reduceIte, Nat.reduceEqDiff, Nat.reduceAdd, Nat.reduceLT, Nat.reduceLeDiff, Nat.reduceMul, Nat.reduceSub, Int.reduceToNat, Int.reduceLT, Int.reduceLE, Int.reduceEq, Int.reduceAdd, reduceCtorEq]) | (refine brd_y (by first | assumption | omega) ?_) | (refine brd_no (by first | assumption | omega) ?_) | (refine forkd (fun _ => ?_) (fun _ => ?_)) | (refine brs_y (by assumption) ?_) | (refine brs_n (by assumption) ?_) | (refine fork (fun _ => ?_) (fun _ => ?_)) | (refine need (by omega) ?_) | (refine qv_need (by omega) ?_) | (refine qv_give ?_) | (refine give fun _ => ?_) | (refine retb rfl ?_) | (refine reti rfl ?_) | (refine ret_p ?_) | (refine ret_ps rfl ?_) | (refine ret_pp rfl ?_)
theorem p_stageName (f : Stg) : PC Try.prog 46 [ag (encS f)] (.ret (vs f.name)) := by
  refine pc_of mixed F46 (by simp) ?_
  simp -dsimp (disch := omega) only [↓wi, wo, wrap64, reduceIte, Nat.reduceEqDiff, Nat.reduceAdd, Nat.reduceLT, Nat.reduceLeDiff, Nat.reduceMul, Nat.reduceSub, Int.reduceToNat, Int.reduceLT, Int.reduceLE, Int.reduceEq, Int.reduceAdd, reduceCtorEq, c46, enter, encS]
  repeat' first | (simp -dsimp (disch := omega) only [↓wi, wo, wrap64, reduceIte, Nat.reduceEqDiff, Nat.reduceAdd, Nat.reduceLT, Nat.reduceLeDiff, Nat.reduceMul, Nat.reduceSub, Int.reduceToNat, Int.reduceLT, Int.reduceLE, Int.reduceEq, Int.reduceAdd, reduceCtorEq]) | (refine brd_y (by first | assumption | omega) ?_) | (refine brd_no (by first | assumption | omega) ?_) | (refine forkd (fun _ => ?_) (fun _ => ?_)) | (refine brs_y (by assumption) ?_) | (refine brs_n (by assumption) ?_) | (refine fork (fun _ => ?_) (fun _ => ?_)) | (refine need (by omega) ?_) | (refine qv_need (by omega) ?_) | (refine qv_give ?_) | (refine give fun _ => ?_) | (refine retb rfl ?_) | (refine reti rfl ?_) | (refine ret_p ?_) | (refine ret_ps rfl ?_) | (refine ret_pp rfl ?_)
theorem p_moveName (f : Mov) : PC Try.prog 51 [ag (encM f)] (.ret (vs f.name)) := by
  refine pc_of mixed F51 (by simp) ?_
  simp -dsimp (disch := omega) only [↓wi, wo, wrap64, reduceIte, Nat.reduceEqDiff, Nat.reduceAdd, Nat.reduceLT, Nat.reduceLeDiff, Nat.reduceMul, Nat.reduceSub, Int.reduceToNat, Int.reduceLT, Int.reduceLE, Int.reduceEq, Int.reduceAdd, reduceCtorEq, c51, enter, encM]
  repeat' first | (simp -dsimp (disch := omega) only [↓wi, wo, wrap64, reduceIte, Nat.reduceEqDiff, Nat.reduceAdd, Nat.reduceLT, Nat.reduceLeDiff, Nat.reduceMul, Nat.reduceSub, Int.reduceToNat, Int.reduceLT, Int.reduceLE, Int.reduceEq, Int.reduceAdd, reduceCtorEq]) | (refine brd_y (by first | assumption | omega) ?_) | (refine brd_no (by first | assumption | omega) ?_) | (refine forkd (fun _ => ?_) (fun _ => ?_)) | (refine brs_y (by assumption) ?_) | (refine brs_n (by assumption) ?_) | (refine fork (fun _ => ?_) (fun _ => ?_)) | (refine need (by omega) ?_) | (refine qv_need (by omega) ?_) | (refine qv_give ?_) | (refine give fun _ => ?_) | (refine retb rfl ?_) | (refine reti rfl ?_) | (refine ret_p ?_) | (refine ret_ps rfl ?_) | (refine ret_pp rfl ?_)
end Go.Proofs.Ytbnelpgogjbgjaa.Q
