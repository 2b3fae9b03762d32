/- How much an expression may have. -/
import Derived.Test.YtbnelpgogjbgjaaGreatCodJRi
import Derived.Test.YtbnelpgogjbgjaaGreatCodQw
import Derived.Test.YtbnelpgogjbgjaaGreatCodJRg
/- How much an expression may have. -/
set_option linter.unusedVariables false
set_option linter.unusedSimpArgs false
namespace Go.Proofs.YtbnelpgogjbgjaaGreat.Q
open Go.RowKit

mutual
  def leftE : Ex → Int → Int → Int
    | .mk _ kids _ _, deep, n => if deep < 1 then -1 else leftL kids (deep - 1) (n - 1)
  def leftL : List Ex → Int → Int → Int
    | [], _, n => n
    | e :: es, deep, n => if 0 ≤ n then leftL es deep (leftE e deep n) else n
end
theorem leftE_ (e : Ex) (deep n : Int) : leftE e deep n = if deep < 1 then -1 else leftL e.kids (deep - 1) (n - 1) := by
  cases e; simp only [leftE, Ex.kids]
theorem leftL_at {l : List Ex} {i : Nat} {deep n : Int} (h : i < l.length) (h0 : 0 ≤ n) : leftL (l.drop i) deep n = leftL (l.drop (i + 1)) deep (leftE l[i] deep n) := by
  rw [List.drop_eq_getElem_cons h]; simp only [leftL, if_pos h0]
theorem leftL_neg (l : List Ex) {deep n : Int} (h0 : ¬ 0 ≤ n) : leftL l deep n = n := by
  cases l <;> simp only [leftL]; rw [if_neg h0]
theorem leftL_end {l : List Ex} {i : Nat} {deep n : Int} (h : l.length ≤ i) : leftL (l.drop i) deep n = n := by
  rw [List.drop_eq_nil_of_le h]; rfl
theorem leftE_le (e : Ex) : ∀ deep n : Int, 0 ≤ n → -1 ≤ leftE e deep n ∧ leftE e deep n ≤ n := by
  induction e using Ex.ind with
  | h e ih =>
    intro deep n hn
    rw [leftE_]
    split
    · omega
    · have : ∀ (l : List Ex), (∀ k ∈ l, k ∈ e.kids) → ∀ n : Int, -1 ≤ n → -1 ≤ leftL l (deep - 1) n ∧ leftL l (deep - 1) n ≤ n := by
        intro l
        induction l with
        | nil => intro _ n h; simp only [leftL]; omega
        | cons k l ihl =>
          intro hk n h
          simp only [leftL]
          split
          · rename_i h0
            have h1 := ih k (hk k (by simp)) (deep - 1) n h0
            have h2 := ihl (fun x hx => hk x (by simp [hx])) _ h1.1
            omega
          · omega
      have := this e.kids (fun _ h => h) (n - 1) (by omega)
      omega
set_option maxHeartbeats 4000000 in
theorem p_left (e : Ex) : ∀ deep n : Int, 0 ≤ deep → deep ≤ 1000 → 0 ≤ n → n ≤ 1000 → PC Tryz.prog 183 [ag (encE e), vi deep, vi n] (.ret (vi (leftE e deep n))) := by
  induction e using Ex.ind with
  | h e ih =>
    intro deep n hd hd' hn hn'
    refine pc_of mixed F183 (by simp) ?_
    simp -dsimp (disch := omega) only [↓wi, wo, wrap64, reduceIte, Nat.reduceEqDiff, Nat.reduceAdd, Nat.reduceLT, Nat.reduceLeDiff, Nat.reduceMul, Nat.reduceSub, Int.reduceToNat, Int.reduceLT, Int.reduceLE, Int.reduceEq, Int.reduceAdd, reduceCtorEq, c183, enter, encE_ e]
    refine forkd (fun h => ?_) (fun h => ?_)
    · simp -dsimp (disch := omega) only [↓wi, wo, wrap64, reduceIte, Nat.reduceEqDiff, Nat.reduceAdd, Nat.reduceLT, Nat.reduceLeDiff, Nat.reduceMul, Nat.reduceSub, Int.reduceToNat, Int.reduceLT, Int.reduceLE, Int.reduceEq, Int.reduceAdd, reduceCtorEq]
      refine reti rfl ?_
      rw [leftE_, if_pos h]
    · simp -dsimp (disch := omega) only [↓wi, wo, wrap64, reduceIte, Nat.reduceEqDiff, Nat.reduceAdd, Nat.reduceLT, Nat.reduceLeDiff, Nat.reduceMul, Nat.reduceSub, Int.reduceToNat, Int.reduceLT, Int.reduceLE, Int.reduceEq, Int.reduceAdd, reduceCtorEq]
      refine AW_wk (Wk_live [1, 2, 3, 7]) (AW_inv mixed (n := e.kids.length) (fun m st => ∃ (i : Nat) (k : Int), i + m = e.kids.length ∧ -1 ≤ k ∧ k ≤ 1000 ∧ leftE e deep n = leftL (e.kids.drop i) (deep - 1) k ∧ st = ⟨0, [(1, vi deep), (2, vi k), (3, .ptr 0 0), (7, vi i)], [.box ((encE e).map .c)]⟩) ⟨0, n - 1, by omega, by omega, by omega, by rw [leftE_, if_neg h]; rfl, by rw [encE_ e]; rfl⟩ ?_)
      rintro m _ ⟨i, k, hi, hk, hk', hf, rfl⟩
      simp -dsimp (disch := omega) only [↓wi, wo, wrap64, reduceIte, Nat.reduceEqDiff, Nat.reduceAdd, Nat.reduceLT, Nat.reduceLeDiff, Nat.reduceMul, Nat.reduceSub, Int.reduceToNat, Int.reduceLT, Int.reduceLE, Int.reduceEq, Int.reduceAdd, reduceCtorEq, encE_ e]
      refine give fun _ => ?_
      simp -dsimp (disch := omega) only [↓wi, wo, wrap64, reduceIte, Nat.reduceEqDiff, Nat.reduceAdd, Nat.reduceLT, Nat.reduceLeDiff, Nat.reduceMul, Nat.reduceSub, Int.reduceToNat, Int.reduceLT, Int.reduceLE, Int.reduceEq, Int.reduceAdd, reduceCtorEq]
      refine forkd (fun h1 => ?_) (fun h1 => ?_)
      · have hi' : i < e.kids.length := by omega
        simp -dsimp (disch := omega) only [↓wi, wo, wrap64, reduceIte, Nat.reduceEqDiff, Nat.reduceAdd, Nat.reduceLT, Nat.reduceLeDiff, Nat.reduceMul, Nat.reduceSub, Int.reduceToNat, Int.reduceLT, Int.reduceLE, Int.reduceEq, Int.reduceAdd, reduceCtorEq]
        refine forkd (fun h2 => ?_) (fun h2 => ?_)
        · rw [leftL_at hi' h2] at hf
          have hle := leftE_le e.kids[i] (deep - 1) k h2
          simp -dsimp (disch := omega) only [↓wi, wo, wrap64, reduceIte, Nat.reduceEqDiff, Nat.reduceAdd, Nat.reduceLT, Nat.reduceLeDiff, Nat.reduceMul, Nat.reduceSub, Int.reduceToNat, Int.reduceLT, Int.reduceLE, Int.reduceEq, Int.reduceAdd, reduceCtorEq]
          refine need (by omega) ?_
          simp -dsimp (disch := omega) only [↓wi, wo, wrap64, reduceIte, Nat.reduceEqDiff, Nat.reduceAdd, Nat.reduceLT, Nat.reduceLeDiff, Nat.reduceMul, Nat.reduceSub, Int.reduceToNat, Int.reduceLT, Int.reduceLE, Int.reduceEq, Int.reduceAdd, reduceCtorEq, getD_map hi', lenE, take_all (Nat.le_of_eq (lenE _))]
          refine calls_p (ih _ (List.getElem_mem hi') (deep - 1) k (by omega) (by omega) h2 hk') (data_ag _) rfl ?_
          simp -dsimp (disch := omega) only [↓wi, wo, wrap64, reduceIte, Nat.reduceEqDiff, Nat.reduceAdd, Nat.reduceLT, Nat.reduceLeDiff, Nat.reduceMul, Nat.reduceSub, Int.reduceToNat, Int.reduceLT, Int.reduceLE, Int.reduceEq, Int.reduceAdd, reduceCtorEq]
          refine ⟨m - 1, _, by omega, Wk_live [1, 2, 3, 7], i + 1, _, by omega, hle.1, by omega, hf, by rw [encE_ e]; rfl⟩
        · simp -dsimp (disch := omega) only [↓wi, wo, wrap64, reduceIte, Nat.reduceEqDiff, Nat.reduceAdd, Nat.reduceLT, Nat.reduceLeDiff, Nat.reduceMul, Nat.reduceSub, Int.reduceToNat, Int.reduceLT, Int.reduceLE, Int.reduceEq, Int.reduceAdd, reduceCtorEq]
          refine reti rfl ?_
          rw [hf, leftL_neg _ h2]
      · simp -dsimp (disch := omega) only [↓wi, wo, wrap64, reduceIte, Nat.reduceEqDiff, Nat.reduceAdd, Nat.reduceLT, Nat.reduceLeDiff, Nat.reduceMul, Nat.reduceSub, Int.reduceToNat, Int.reduceLT, Int.reduceLE, Int.reduceEq, Int.reduceAdd, reduceCtorEq]
        refine reti rfl ?_
        rw [hf, leftL_end (by omega)]
theorem p_rsmall (e : Ex) : PC Tryz.prog 118 [ag (encE e)] (.ret (vb (decide (0 ≤ leftE e 6 24)))) := by
  refine pc_of mixed F118 (by simp) ?_
  simp -dsimp (disch := omega) only [↓wi, wo, wrap64, reduceIte, Nat.reduceEqDiff, Nat.reduceAdd, Nat.reduceLT, Nat.reduceLeDiff, Nat.reduceMul, Nat.reduceSub, Int.reduceToNat, Int.reduceLT, Int.reduceLE, Int.reduceEq, Int.reduceAdd, reduceCtorEq, c118, enter, lenE, take_mapc (lenE e)]
  refine calls_p (p_left e 6 24 (by omega) (by omega) (by omega) (by omega)) (data_ag _) rfl ?_
  repeat' first | (simp -dsimp (disch := omega) only [↓wi, wo, wrap64, reduceIte, Nat.reduceEqDiff, Nat.reduceAdd, Nat.reduceLT, Nat.reduceLeDiff, Nat.reduceMul, Nat.reduceSub, Int.reduceToNat, Int.reduceLT, Int.reduceLE, Int.reduceEq, Int.reduceAdd, reduceCtorEq]) | (refine brd_y (by first | assumption | omega) ?_) | (refine brd_no (by first | assumption | omega) ?_) | (refine forkd (fun _ => ?_) (fun _ => ?_)) | (refine brs_y (by assumption) ?_) | (refine brs_n (by assumption) ?_) | (refine fork (fun _ => ?_) (fun _ => ?_)) | (refine need (by omega) ?_) | (refine qv_need (by omega) ?_) | (refine qv_give ?_) | (refine give fun _ => ?_) | (refine retb rfl ?_) | (refine reti rfl ?_) | (refine ret_p ?_) | (refine ret_ps rfl ?_) | (refine ret_pp rfl ?_)
  all_goals grind
/-- What spending comes to. -/
def Spent (e : Ex) (deep n : Int) (o : Out) (H' : List AObj) : Prop :=
  (0 ≤ leftE e deep n ∧ o = .ret (vb true) ∧ H' = [.box [vi (leftE e deep n)]]) ∨ (leftE e deep n < 0 ∧ o = .ret (vb false) ∧ ∃ n', H' = [.box [vi n']])
set_option maxHeartbeats 4000000 in
theorem h_spend (e : Ex) : ∀ deep n : Int, 0 ≤ deep → deep ≤ 1000 → 0 ≤ n → n ≤ 1000 → ACalls Tryz.prog 135 [.ptr 0 0, ag (encE e), vi deep] [.box [vi n]] (Spent e deep n) := by
  induction e using Ex.ind with
  | h e ih =>
    intro deep n hd hd' hn hn'
    refine ac_of mixed F135 (by simp) ?_
    simp -dsimp (disch := omega) only [↓wi, wo, wrap64, reduceIte, Nat.reduceEqDiff, Nat.reduceAdd, Nat.reduceLT, Nat.reduceLeDiff, Nat.reduceMul, Nat.reduceSub, Int.reduceToNat, Int.reduceLT, Int.reduceLE, Int.reduceEq, Int.reduceAdd, reduceCtorEq, c135, enter, encE_ e]
    refine forkd (fun h => ?_) (fun h => ?_)
    · simp -dsimp (disch := omega) only [↓wi, wo, wrap64, reduceIte, Nat.reduceEqDiff, Nat.reduceAdd, Nat.reduceLT, Nat.reduceLeDiff, Nat.reduceMul, Nat.reduceSub, Int.reduceToNat, Int.reduceLT, Int.reduceLE, Int.reduceEq, Int.reduceAdd, reduceCtorEq]
      refine ret_i [true] rfl (by simp) (by simp) (.inr ⟨?_, rfl, _, rfl⟩)
      rw [leftE_]
      split
      · omega
      · rw [leftL_neg _ (by omega)]; exact h
    · simp -dsimp (disch := omega) only [↓wi, wo, wrap64, reduceIte, Nat.reduceEqDiff, Nat.reduceAdd, Nat.reduceLT, Nat.reduceLeDiff, Nat.reduceMul, Nat.reduceSub, Int.reduceToNat, Int.reduceLT, Int.reduceLE, Int.reduceEq, Int.reduceAdd, reduceCtorEq]
      refine forkd (fun h1 => ?_) (fun h1 => ?_)
      · simp -dsimp (disch := omega) only [↓wi, wo, wrap64, reduceIte, Nat.reduceEqDiff, Nat.reduceAdd, Nat.reduceLT, Nat.reduceLeDiff, Nat.reduceMul, Nat.reduceSub, Int.reduceToNat, Int.reduceLT, Int.reduceLE, Int.reduceEq, Int.reduceAdd, reduceCtorEq]
        refine ret_i [true] rfl (by simp) (by simp) (.inr ⟨?_, rfl, _, rfl⟩)
        rw [leftE_, if_pos (by omega)]; omega
      · simp -dsimp (disch := omega) only [↓wi, wo, wrap64, reduceIte, Nat.reduceEqDiff, Nat.reduceAdd, Nat.reduceLT, Nat.reduceLeDiff, Nat.reduceMul, Nat.reduceSub, Int.reduceToNat, Int.reduceLT, Int.reduceLE, Int.reduceEq, Int.reduceAdd, reduceCtorEq]
        refine give fun _ => ?_
        simp -dsimp (disch := omega) only [↓wi, wo, wrap64, reduceIte, Nat.reduceEqDiff, Nat.reduceAdd, Nat.reduceLT, Nat.reduceLeDiff, Nat.reduceMul, Nat.reduceSub, Int.reduceToNat, Int.reduceLT, Int.reduceLE, Int.reduceEq, Int.reduceAdd, reduceCtorEq]
        refine AW_wk (Wk_cut [true] [0, 2, 26, 27, 28] (by simp) (by simp)) (AW_inv mixed (n := e.kids.length) (fun m st => ∃ (i : Nat) (k : Int), i + m = e.kids.length ∧ 0 ≤ k ∧ k ≤ 1000 ∧ leftE e deep n = leftL (e.kids.drop i) (deep - 1) k ∧ st = ⟨1, [(0, .ptr 0 0), (2, vi deep), (26, .c (.sl 8 (e.kids.map encE))), (27, vi e.kids.length), (28, vi i)], [.box [vi k]]⟩) ⟨0, n - 1, by omega, by omega, by omega, by rw [leftE_, if_neg (by omega)]; rfl, rfl⟩ ?_)
        rintro m _ ⟨i, k, hi, hk, hk', hf, rfl⟩
        simp -dsimp (disch := omega) only [↓wi, wo, wrap64, reduceIte, Nat.reduceEqDiff, Nat.reduceAdd, Nat.reduceLT, Nat.reduceLeDiff, Nat.reduceMul, Nat.reduceSub, Int.reduceToNat, Int.reduceLT, Int.reduceLE, Int.reduceEq, Int.reduceAdd, reduceCtorEq]
        refine forkd (fun h2 => ?_) (fun h2 => ?_)
        · have hi' : i < e.kids.length := by omega
          rw [leftL_at hi' hk] at hf
          have hle := leftE_le e.kids[i] (deep - 1) k hk
          simp -dsimp (disch := omega) only [↓wi, wo, wrap64, reduceIte, Nat.reduceEqDiff, Nat.reduceAdd, Nat.reduceLT, Nat.reduceLeDiff, Nat.reduceMul, Nat.reduceSub, Int.reduceToNat, Int.reduceLT, Int.reduceLE, Int.reduceEq, Int.reduceAdd, reduceCtorEq]
          refine need (by omega) ?_
          simp -dsimp (disch := omega) only [↓wi, wo, wrap64, reduceIte, Nat.reduceEqDiff, Nat.reduceAdd, Nat.reduceLT, Nat.reduceLeDiff, Nat.reduceMul, Nat.reduceSub, Int.reduceToNat, Int.reduceLT, Int.reduceLE, Int.reduceEq, Int.reduceAdd, reduceCtorEq, getD_map hi', lenE, take_all (Nat.le_of_eq (lenE _)), take_mapc (lenE _)]
          refine calls_s [0] B135 (ih _ (List.getElem_mem hi') (deep - 1) k (by omega) (by omega) hk hk') (by simp) (by simp) rfl (by simp only [ren.renL, ren, mu_0]; rw [renL_data (data_m _)]) ?_ ?_
          · rintro v H' (⟨h3, h4, rfl⟩ | ⟨h3, h4, n', rfl⟩)
            · obtain rfl := Out.ret.inj h4
              simp -dsimp (disch := omega) only [↓wi, wo, wrap64, reduceIte, Nat.reduceEqDiff, Nat.reduceAdd, Nat.reduceLT, Nat.reduceLeDiff, Nat.reduceMul, Nat.reduceSub, Int.reduceToNat, Int.reduceLT, Int.reduceLE, Int.reduceEq, Int.reduceAdd, reduceCtorEq]
              refine ⟨m - 1, _, by omega, Wk_cut [true] [0, 2, 26, 27, 28] (by simp) (by simp), i + 1, _, by omega, h3, by omega, hf, rfl⟩
            · obtain rfl := Out.ret.inj h4
              simp -dsimp (disch := omega) only [↓wi, wo, wrap64, reduceIte, Nat.reduceEqDiff, Nat.reduceAdd, Nat.reduceLT, Nat.reduceLeDiff, Nat.reduceMul, Nat.reduceSub, Int.reduceToNat, Int.reduceLT, Int.reduceLE, Int.reduceEq, Int.reduceAdd, reduceCtorEq]
              refine ret_i [true] rfl (by simp) (by simp) (.inr ⟨?_, rfl, _, rfl⟩)
              rw [hf, leftL_neg _ (by omega)]; exact h3
          · rintro p H' (⟨h3, h4, rfl⟩ | ⟨h3, h4, n', rfl⟩) <;> cases h4
        · simp -dsimp (disch := omega) only [↓wi, wo, wrap64, reduceIte, Nat.reduceEqDiff, Nat.reduceAdd, Nat.reduceLT, Nat.reduceLeDiff, Nat.reduceMul, Nat.reduceSub, Int.reduceToNat, Int.reduceLT, Int.reduceLE, Int.reduceEq, Int.reduceAdd, reduceCtorEq]
          refine ret_i [true] rfl (by simp) (by simp) (.inl ⟨?_, rfl, ?_⟩)
          · rw [hf, leftL_end (by omega)]; exact hk
          · rw [hf, leftL_end (by omega)]; rfl
def smallE (e : Ex) : Bool := decide (0 ≤ leftE e 6 24)
theorem p_small (e : Ex) : PC Tryz.prog 85 [ag (encE e)] (.ret (vb (smallE e))) := by
  refine pc_of mixed F85 (by simp) ?_
  simp -dsimp (disch := omega) only [↓wi, wo, wrap64, reduceIte, Nat.reduceEqDiff, Nat.reduceAdd, Nat.reduceLT, Nat.reduceLeDiff, Nat.reduceMul, Nat.reduceSub, Int.reduceToNat, Int.reduceLT, Int.reduceLE, Int.reduceEq, Int.reduceAdd, reduceCtorEq, c85, enter, lenE, take_mapc (lenE e)]
  refine calls_s [1] B135 (h_spend e 6 24 (by omega) (by omega) (by omega) (by omega)) (by simp) (by simp) rfl (by simp only [ren.renL, ren, mu_0]; rw [renL_data (data_m _)]) ?_ ?_
  · rintro v H' (⟨h3, h4, rfl⟩ | ⟨h3, h4, n', rfl⟩)
    · obtain rfl := Out.ret.inj h4
      simp -dsimp (disch := omega) only [↓wi, wo, wrap64, reduceIte, Nat.reduceEqDiff, Nat.reduceAdd, Nat.reduceLT, Nat.reduceLeDiff, Nat.reduceMul, Nat.reduceSub, Int.reduceToNat, Int.reduceLT, Int.reduceLE, Int.reduceEq, Int.reduceAdd, reduceCtorEq]
      refine retb rfl ?_
      rw [smallE, decide_eq_true h3]
    · obtain rfl := Out.ret.inj h4
      simp -dsimp (disch := omega) only [↓wi, wo, wrap64, reduceIte, Nat.reduceEqDiff, Nat.reduceAdd, Nat.reduceLT, Nat.reduceLeDiff, Nat.reduceMul, Nat.reduceSub, Int.reduceToNat, Int.reduceLT, Int.reduceLE, Int.reduceEq, Int.reduceAdd, reduceCtorEq]
      refine retb rfl ?_
      rw [smallE, decide_eq_false (by omega)]
  · rintro p H' (⟨h3, h4, rfl⟩ | ⟨h3, h4, n', rfl⟩) <;> cases h4
end Go.Proofs.YtbnelpgogjbgjaaGreat.Q
/- Lists and expressions behind bytes. -/
set_option linter.unusedVariables false
set_option linter.unusedSimpArgs false
namespace Go.Proofs.YtbnelpgogjbgjaaGreat.Q
open Go.RowKit

def listP {α : Type} (enc : α → List UInt8) (xs : List α) : List UInt8 := pCount xs.length ++ xs.flatMap enc
theorem flat_at {α : Type} {enc : α → List UInt8} {xs : List α} {i : Nat} (h : i < xs.length) : (xs.drop i).flatMap enc = enc xs[i] ++ (xs.drop (i + 1)).flatMap enc := by
  rw [List.drop_eq_getElem_cons h]; rfl
theorem flat_end {α : Type} {enc : α → List UInt8} {xs : List α} {i : Nat} (h : xs.length ≤ i) : (xs.drop i).flatMap enc = [] := by
  rw [List.drop_eq_nil_of_le h]; rfl
set_option maxHeartbeats 1000000 in
theorem h_listT {g : Nat} {xs : List ByteArray} {enc : ByteArray → List UInt8} {l : List UInt8} (hg : ∀ x ∈ xs, ∀ l : List UInt8, l.length + (enc x).length ≤ 1099511627776 → PC Tryz.prog g [bts l, vs x] (.ret (bts (l ++ enc x)))) (hl : l.length + (listP enc xs).length ≤ 1099511627776) :
    PC Tryz.prog 43 [bts l, .c (.sl 1 (xs.map (fun s => [cs s]))), .fn g [] []] (.ret (bts (l ++ listP enc xs))) := by
  have hlen : (listP enc xs).length = 4 + (xs.flatMap enc).length := by simp [listP, len_pCount]
  refine pc_of mixed F43 (by simp) ?_
  simp -dsimp (disch := omega) only [↓wi, wo, wrap64, reduceIte, Nat.reduceEqDiff, Nat.reduceAdd, Nat.reduceLT, Nat.reduceLeDiff, Nat.reduceMul, Nat.reduceSub, Int.reduceToNat, Int.reduceLT, Int.reduceLE, Int.reduceEq, Int.reduceAdd, reduceCtorEq, c43, enter]
  refine give fun _ => ?_
  simp -dsimp (disch := omega) only [↓wi, wo, wrap64, reduceIte, Nat.reduceEqDiff, Nat.reduceAdd, Nat.reduceLT, Nat.reduceLeDiff, Nat.reduceMul, Nat.reduceSub, Int.reduceToNat, Int.reduceLT, Int.reduceLE, Int.reduceEq, Int.reduceAdd, reduceCtorEq]
  refine calls_p (h_PutCount l xs.length (by omega)).pc rfl rfl ?_
  simp -dsimp (disch := omega) only [↓wi, wo, wrap64, reduceIte, Nat.reduceEqDiff, Nat.reduceAdd, Nat.reduceLT, Nat.reduceLeDiff, Nat.reduceMul, Nat.reduceSub, Int.reduceToNat, Int.reduceLT, Int.reduceLE, Int.reduceEq, Int.reduceAdd, reduceCtorEq]
  refine give fun _ => ?_
  simp -dsimp (disch := omega) only [↓wi, wo, wrap64, reduceIte, Nat.reduceEqDiff, Nat.reduceAdd, Nat.reduceLT, Nat.reduceLeDiff, Nat.reduceMul, Nat.reduceSub, Int.reduceToNat, Int.reduceLT, Int.reduceLE, Int.reduceEq, Int.reduceAdd, reduceCtorEq]
  refine AW_wk (Wk_live [0, 2, 13, 14, 15]) (AW_inv mixed (n := xs.length) (fun n st => ∃ (i : Nat) (acc : List UInt8), i + n = xs.length ∧ acc ++ (xs.drop i).flatMap enc = l ++ listP enc xs ∧ st = ⟨0, [(0, bts acc), (2, .fn g [] []), (13, .c (.sl 1 (xs.map (fun s => [cs s])))), (14, vi xs.length), (15, vi i)], []⟩) ⟨0, l ++ pCount xs.length, by omega, by simp [listP], rfl⟩ ?_)
  rintro n _ ⟨i, acc, hi, hacc, rfl⟩
  simp -dsimp (disch := omega) only [↓wi, wo, wrap64, reduceIte, Nat.reduceEqDiff, Nat.reduceAdd, Nat.reduceLT, Nat.reduceLeDiff, Nat.reduceMul, Nat.reduceSub, Int.reduceToNat, Int.reduceLT, Int.reduceLE, Int.reduceEq, Int.reduceAdd, reduceCtorEq]
  refine forkd (fun h => ?_) (fun h => ?_)
  · have hi' : i < xs.length := by omega
    rw [flat_at hi'] at hacc
    have hmem : xs[i] ∈ xs := List.getElem_mem hi'
    have hgd := getD_map (f := fun s => [cs s]) hi'
    have hb := congrArg List.length hacc
    simp only [List.length_append] at hb
    simp -dsimp (disch := omega) only [↓wi, wo, wrap64, reduceIte, Nat.reduceEqDiff, Nat.reduceAdd, Nat.reduceLT, Nat.reduceLeDiff, Nat.reduceMul, Nat.reduceSub, Int.reduceToNat, Int.reduceLT, Int.reduceLE, Int.reduceEq, Int.reduceAdd, reduceCtorEq]
    refine need (by omega) ?_
    simp -dsimp (disch := omega) only [↓wi, wo, wrap64, reduceIte, Nat.reduceEqDiff, Nat.reduceAdd, Nat.reduceLT, Nat.reduceLeDiff, Nat.reduceMul, Nat.reduceSub, Int.reduceToNat, Int.reduceLT, Int.reduceLE, Int.reduceEq, Int.reduceAdd, reduceCtorEq, hgd]
    generalize xs[i] = x at hacc hmem hgd hb
    refine calls_p (hg x hmem acc (by omega)) rfl rfl ?_
    simp -dsimp (disch := omega) only [↓wi, wo, wrap64, reduceIte, Nat.reduceEqDiff, Nat.reduceAdd, Nat.reduceLT, Nat.reduceLeDiff, Nat.reduceMul, Nat.reduceSub, Int.reduceToNat, Int.reduceLT, Int.reduceLE, Int.reduceEq, Int.reduceAdd, reduceCtorEq]
    exact ⟨n - 1, _, by omega, Wk_live [0, 2, 13, 14, 15], i + 1, acc ++ enc x, by omega, by rw [List.append_assoc]; exact hacc, rfl⟩
  · simp -dsimp (disch := omega) only [↓wi, wo, wrap64, reduceIte, Nat.reduceEqDiff, Nat.reduceAdd, Nat.reduceLT, Nat.reduceLeDiff, Nat.reduceMul, Nat.reduceSub, Int.reduceToNat, Int.reduceLT, Int.reduceLE, Int.reduceEq, Int.reduceAdd, reduceCtorEq]
    rw [flat_end (by omega), List.append_nil] at hacc
    refine ret_p ?_
    simp [lk, frz, hacc]
set_option maxHeartbeats 1000000 in
theorem h_listI {g : Nat} {xs : List I64} {enc : I64 → List UInt8} {l : List UInt8} (hg : ∀ x ∈ xs, ∀ l : List UInt8, l.length + (enc x).length ≤ 1099511627776 → PC Tryz.prog g [bts l, vi x.1] (.ret (bts (l ++ enc x)))) (hl : l.length + (listP enc xs).length ≤ 1099511627776) :
    PC Tryz.prog 48 [bts l, .c (.sl 1 (xs.map (fun n => [ci n.1]))), .fn g [] []] (.ret (bts (l ++ listP enc xs))) := by
  have hlen : (listP enc xs).length = 4 + (xs.flatMap enc).length := by simp [listP, len_pCount]
  refine pc_of mixed F48 (by simp) ?_
  simp -dsimp (disch := omega) only [↓wi, wo, wrap64, reduceIte, Nat.reduceEqDiff, Nat.reduceAdd, Nat.reduceLT, Nat.reduceLeDiff, Nat.reduceMul, Nat.reduceSub, Int.reduceToNat, Int.reduceLT, Int.reduceLE, Int.reduceEq, Int.reduceAdd, reduceCtorEq, c48, enter]
  refine give fun _ => ?_
  simp -dsimp (disch := omega) only [↓wi, wo, wrap64, reduceIte, Nat.reduceEqDiff, Nat.reduceAdd, Nat.reduceLT, Nat.reduceLeDiff, Nat.reduceMul, Nat.reduceSub, Int.reduceToNat, Int.reduceLT, Int.reduceLE, Int.reduceEq, Int.reduceAdd, reduceCtorEq]
  refine calls_p (h_PutCount l xs.length (by omega)).pc rfl rfl ?_
  simp -dsimp (disch := omega) only [↓wi, wo, wrap64, reduceIte, Nat.reduceEqDiff, Nat.reduceAdd, Nat.reduceLT, Nat.reduceLeDiff, Nat.reduceMul, Nat.reduceSub, Int.reduceToNat, Int.reduceLT, Int.reduceLE, Int.reduceEq, Int.reduceAdd, reduceCtorEq]
  refine give fun _ => ?_
  simp -dsimp (disch := omega) only [↓wi, wo, wrap64, reduceIte, Nat.reduceEqDiff, Nat.reduceAdd, Nat.reduceLT, Nat.reduceLeDiff, Nat.reduceMul, Nat.reduceSub, Int.reduceToNat, Int.reduceLT, Int.reduceLE, Int.reduceEq, Int.reduceAdd, reduceCtorEq]
  refine AW_wk (Wk_live [0, 2, 13, 14, 15]) (AW_inv mixed (n := xs.length) (fun n st => ∃ (i : Nat) (acc : List UInt8), i + n = xs.length ∧ acc ++ (xs.drop i).flatMap enc = l ++ listP enc xs ∧ st = ⟨0, [(0, bts acc), (2, .fn g [] []), (13, .c (.sl 1 (xs.map (fun n => [ci n.1])))), (14, vi xs.length), (15, vi i)], []⟩) ⟨0, l ++ pCount xs.length, by omega, by simp [listP], rfl⟩ ?_)
  rintro n _ ⟨i, acc, hi, hacc, rfl⟩
  simp -dsimp (disch := omega) only [↓wi, wo, wrap64, reduceIte, Nat.reduceEqDiff, Nat.reduceAdd, Nat.reduceLT, Nat.reduceLeDiff, Nat.reduceMul, Nat.reduceSub, Int.reduceToNat, Int.reduceLT, Int.reduceLE, Int.reduceEq, Int.reduceAdd, reduceCtorEq]
  refine forkd (fun h => ?_) (fun h => ?_)
  · have hi' : i < xs.length := by omega
    rw [flat_at hi'] at hacc
    have hmem : xs[i] ∈ xs := List.getElem_mem hi'
    have hgd := getD_map (f := fun n => [ci n.1]) hi'
    have hb := congrArg List.length hacc
    simp only [List.length_append] at hb
    simp -dsimp (disch := omega) only [↓wi, wo, wrap64, reduceIte, Nat.reduceEqDiff, Nat.reduceAdd, Nat.reduceLT, Nat.reduceLeDiff, Nat.reduceMul, Nat.reduceSub, Int.reduceToNat, Int.reduceLT, Int.reduceLE, Int.reduceEq, Int.reduceAdd, reduceCtorEq]
    refine need (by omega) ?_
    simp -dsimp (disch := omega) only [↓wi, wo, wrap64, reduceIte, Nat.reduceEqDiff, Nat.reduceAdd, Nat.reduceLT, Nat.reduceLeDiff, Nat.reduceMul, Nat.reduceSub, Int.reduceToNat, Int.reduceLT, Int.reduceLE, Int.reduceEq, Int.reduceAdd, reduceCtorEq, hgd]
    generalize xs[i] = x at hacc hmem hgd hb
    refine calls_p (hg x hmem acc (by omega)) rfl rfl ?_
    simp -dsimp (disch := omega) only [↓wi, wo, wrap64, reduceIte, Nat.reduceEqDiff, Nat.reduceAdd, Nat.reduceLT, Nat.reduceLeDiff, Nat.reduceMul, Nat.reduceSub, Int.reduceToNat, Int.reduceLT, Int.reduceLE, Int.reduceEq, Int.reduceAdd, reduceCtorEq]
    exact ⟨n - 1, _, by omega, Wk_live [0, 2, 13, 14, 15], i + 1, acc ++ enc x, by omega, by rw [List.append_assoc]; exact hacc, rfl⟩
  · simp -dsimp (disch := omega) only [↓wi, wo, wrap64, reduceIte, Nat.reduceEqDiff, Nat.reduceAdd, Nat.reduceLT, Nat.reduceLeDiff, Nat.reduceMul, Nat.reduceSub, Int.reduceToNat, Int.reduceLT, Int.reduceLE, Int.reduceEq, Int.reduceAdd, reduceCtorEq]
    rw [flat_end (by omega), List.append_nil] at hacc
    refine ret_p ?_
    simp [lk, frz, hacc]
set_option maxHeartbeats 1000000 in
theorem h_listF {g : Nat} {xs : List Fd} {enc : Fd → List UInt8} {l : List UInt8} (hg : ∀ x ∈ xs, ∀ l : List UInt8, l.length + (enc x).length ≤ 1099511627776 → PC Tryz.prog g [bts l, ag (encF x)] (.ret (bts (l ++ enc x)))) (hl : l.length + (listP enc xs).length ≤ 1099511627776) :
    PC Tryz.prog 40 [bts l, .c (.sl 8 (xs.map encF)), .fn g [] []] (.ret (bts (l ++ listP enc xs))) := by
  have hlen : (listP enc xs).length = 4 + (xs.flatMap enc).length := by simp [listP, len_pCount]
  refine pc_of mixed F40 (by simp) ?_
  simp -dsimp (disch := omega) only [↓wi, wo, wrap64, reduceIte, Nat.reduceEqDiff, Nat.reduceAdd, Nat.reduceLT, Nat.reduceLeDiff, Nat.reduceMul, Nat.reduceSub, Int.reduceToNat, Int.reduceLT, Int.reduceLE, Int.reduceEq, Int.reduceAdd, reduceCtorEq, c40, enter]
  refine give fun _ => ?_
  simp -dsimp (disch := omega) only [↓wi, wo, wrap64, reduceIte, Nat.reduceEqDiff, Nat.reduceAdd, Nat.reduceLT, Nat.reduceLeDiff, Nat.reduceMul, Nat.reduceSub, Int.reduceToNat, Int.reduceLT, Int.reduceLE, Int.reduceEq, Int.reduceAdd, reduceCtorEq]
  refine calls_p (h_PutCount l xs.length (by omega)).pc rfl rfl ?_
  simp -dsimp (disch := omega) only [↓wi, wo, wrap64, reduceIte, Nat.reduceEqDiff, Nat.reduceAdd, Nat.reduceLT, Nat.reduceLeDiff, Nat.reduceMul, Nat.reduceSub, Int.reduceToNat, Int.reduceLT, Int.reduceLE, Int.reduceEq, Int.reduceAdd, reduceCtorEq]
  refine give fun _ => ?_
  simp -dsimp (disch := omega) only [↓wi, wo, wrap64, reduceIte, Nat.reduceEqDiff, Nat.reduceAdd, Nat.reduceLT, Nat.reduceLeDiff, Nat.reduceMul, Nat.reduceSub, Int.reduceToNat, Int.reduceLT, Int.reduceLE, Int.reduceEq, Int.reduceAdd, reduceCtorEq]
  refine AW_wk (Wk_live [0, 2, 13, 14, 15]) (AW_inv mixed (n := xs.length) (fun n st => ∃ (i : Nat) (acc : List UInt8), i + n = xs.length ∧ acc ++ (xs.drop i).flatMap enc = l ++ listP enc xs ∧ st = ⟨0, [(0, bts acc), (2, .fn g [] []), (13, .c (.sl 8 (xs.map encF))), (14, vi xs.length), (15, vi i)], []⟩) ⟨0, l ++ pCount xs.length, by omega, by simp [listP], rfl⟩ ?_)
  rintro n _ ⟨i, acc, hi, hacc, rfl⟩
  simp -dsimp (disch := omega) only [↓wi, wo, wrap64, reduceIte, Nat.reduceEqDiff, Nat.reduceAdd, Nat.reduceLT, Nat.reduceLeDiff, Nat.reduceMul, Nat.reduceSub, Int.reduceToNat, Int.reduceLT, Int.reduceLE, Int.reduceEq, Int.reduceAdd, reduceCtorEq]
  refine forkd (fun h => ?_) (fun h => ?_)
  · have hi' : i < xs.length := by omega
    rw [flat_at hi'] at hacc
    have hmem : xs[i] ∈ xs := List.getElem_mem hi'
    have hgd := getD_map (f := encF) hi'
    have hb := congrArg List.length hacc
    simp only [List.length_append] at hb
    simp -dsimp (disch := omega) only [↓wi, wo, wrap64, reduceIte, Nat.reduceEqDiff, Nat.reduceAdd, Nat.reduceLT, Nat.reduceLeDiff, Nat.reduceMul, Nat.reduceSub, Int.reduceToNat, Int.reduceLT, Int.reduceLE, Int.reduceEq, Int.reduceAdd, reduceCtorEq]
    refine need (by omega) ?_
    generalize xs[i] = x at hacc hmem hgd hb
    have hgx := hg x hmem acc (by omega)
    simp only [encF] at hgx
    simp -dsimp (disch := omega) only [↓wi, wo, wrap64, reduceIte, Nat.reduceEqDiff, Nat.reduceAdd, Nat.reduceLT, Nat.reduceLeDiff, Nat.reduceMul, Nat.reduceSub, Int.reduceToNat, Int.reduceLT, Int.reduceLE, Int.reduceEq, Int.reduceAdd, reduceCtorEq, hgd, encF]
    refine calls_p hgx rfl rfl ?_
    simp -dsimp (disch := omega) only [↓wi, wo, wrap64, reduceIte, Nat.reduceEqDiff, Nat.reduceAdd, Nat.reduceLT, Nat.reduceLeDiff, Nat.reduceMul, Nat.reduceSub, Int.reduceToNat, Int.reduceLT, Int.reduceLE, Int.reduceEq, Int.reduceAdd, reduceCtorEq]
    exact ⟨n - 1, _, by omega, Wk_cut [] [0, 2, 13, 14, 15] (by simp) (by simp), i + 1, acc ++ enc x, by omega, by rw [List.append_assoc]; exact hacc, rfl⟩
  · simp -dsimp (disch := omega) only [↓wi, wo, wrap64, reduceIte, Nat.reduceEqDiff, Nat.reduceAdd, Nat.reduceLT, Nat.reduceLeDiff, Nat.reduceMul, Nat.reduceSub, Int.reduceToNat, Int.reduceLT, Int.reduceLE, Int.reduceEq, Int.reduceAdd, reduceCtorEq]
    rw [flat_end (by omega), List.append_nil] at hacc
    refine ret_p ?_
    simp [lk, frz, hacc]
set_option maxHeartbeats 1000000 in
theorem h_listS {g : Nat} {xs : List Stg} {enc : Stg → List UInt8} {l : List UInt8} (hg : ∀ x ∈ xs, ∀ l : List UInt8, l.length + (enc x).length ≤ 1099511627776 → PC Tryz.prog g [bts l, ag (encS x)] (.ret (bts (l ++ enc x)))) (hl : l.length + (listP enc xs).length ≤ 1099511627776) :
    PC Tryz.prog 46 [bts l, .c (.sl 3 (xs.map encS)), .fn g [] []] (.ret (bts (l ++ listP enc xs))) := by
  have hlen : (listP enc xs).length = 4 + (xs.flatMap enc).length := by simp [listP, len_pCount]
  refine pc_of mixed F46 (by simp) ?_
  simp -dsimp (disch := omega) only [↓wi, wo, wrap64, reduceIte, Nat.reduceEqDiff, Nat.reduceAdd, Nat.reduceLT, Nat.reduceLeDiff, Nat.reduceMul, Nat.reduceSub, Int.reduceToNat, Int.reduceLT, Int.reduceLE, Int.reduceEq, Int.reduceAdd, reduceCtorEq, c46, enter]
  refine give fun _ => ?_
  simp -dsimp (disch := omega) only [↓wi, wo, wrap64, reduceIte, Nat.reduceEqDiff, Nat.reduceAdd, Nat.reduceLT, Nat.reduceLeDiff, Nat.reduceMul, Nat.reduceSub, Int.reduceToNat, Int.reduceLT, Int.reduceLE, Int.reduceEq, Int.reduceAdd, reduceCtorEq]
  refine calls_p (h_PutCount l xs.length (by omega)).pc rfl rfl ?_
  simp -dsimp (disch := omega) only [↓wi, wo, wrap64, reduceIte, Nat.reduceEqDiff, Nat.reduceAdd, Nat.reduceLT, Nat.reduceLeDiff, Nat.reduceMul, Nat.reduceSub, Int.reduceToNat, Int.reduceLT, Int.reduceLE, Int.reduceEq, Int.reduceAdd, reduceCtorEq]
  refine give fun _ => ?_
  simp -dsimp (disch := omega) only [↓wi, wo, wrap64, reduceIte, Nat.reduceEqDiff, Nat.reduceAdd, Nat.reduceLT, Nat.reduceLeDiff, Nat.reduceMul, Nat.reduceSub, Int.reduceToNat, Int.reduceLT, Int.reduceLE, Int.reduceEq, Int.reduceAdd, reduceCtorEq]
  refine AW_wk (Wk_live [0, 2, 13, 14, 15]) (AW_inv mixed (n := xs.length) (fun n st => ∃ (i : Nat) (acc : List UInt8), i + n = xs.length ∧ acc ++ (xs.drop i).flatMap enc = l ++ listP enc xs ∧ st = ⟨0, [(0, bts acc), (2, .fn g [] []), (13, .c (.sl 3 (xs.map encS))), (14, vi xs.length), (15, vi i)], []⟩) ⟨0, l ++ pCount xs.length, by omega, by simp [listP], rfl⟩ ?_)
  rintro n _ ⟨i, acc, hi, hacc, rfl⟩
  simp -dsimp (disch := omega) only [↓wi, wo, wrap64, reduceIte, Nat.reduceEqDiff, Nat.reduceAdd, Nat.reduceLT, Nat.reduceLeDiff, Nat.reduceMul, Nat.reduceSub, Int.reduceToNat, Int.reduceLT, Int.reduceLE, Int.reduceEq, Int.reduceAdd, reduceCtorEq]
  refine forkd (fun h => ?_) (fun h => ?_)
  · have hi' : i < xs.length := by omega
    rw [flat_at hi'] at hacc
    have hmem : xs[i] ∈ xs := List.getElem_mem hi'
    have hgd := getD_map (f := encS) hi'
    have hb := congrArg List.length hacc
    simp only [List.length_append] at hb
    simp -dsimp (disch := omega) only [↓wi, wo, wrap64, reduceIte, Nat.reduceEqDiff, Nat.reduceAdd, Nat.reduceLT, Nat.reduceLeDiff, Nat.reduceMul, Nat.reduceSub, Int.reduceToNat, Int.reduceLT, Int.reduceLE, Int.reduceEq, Int.reduceAdd, reduceCtorEq]
    refine need (by omega) ?_
    generalize xs[i] = x at hacc hmem hgd hb
    have hgx := hg x hmem acc (by omega)
    simp only [encS] at hgx
    simp -dsimp (disch := omega) only [↓wi, wo, wrap64, reduceIte, Nat.reduceEqDiff, Nat.reduceAdd, Nat.reduceLT, Nat.reduceLeDiff, Nat.reduceMul, Nat.reduceSub, Int.reduceToNat, Int.reduceLT, Int.reduceLE, Int.reduceEq, Int.reduceAdd, reduceCtorEq, hgd, encS]
    refine calls_p hgx rfl rfl ?_
    simp -dsimp (disch := omega) only [↓wi, wo, wrap64, reduceIte, Nat.reduceEqDiff, Nat.reduceAdd, Nat.reduceLT, Nat.reduceLeDiff, Nat.reduceMul, Nat.reduceSub, Int.reduceToNat, Int.reduceLT, Int.reduceLE, Int.reduceEq, Int.reduceAdd, reduceCtorEq]
    exact ⟨n - 1, _, by omega, Wk_cut [] [0, 2, 13, 14, 15] (by simp) (by simp), i + 1, acc ++ enc x, by omega, by rw [List.append_assoc]; exact hacc, rfl⟩
  · simp -dsimp (disch := omega) only [↓wi, wo, wrap64, reduceIte, Nat.reduceEqDiff, Nat.reduceAdd, Nat.reduceLT, Nat.reduceLeDiff, Nat.reduceMul, Nat.reduceSub, Int.reduceToNat, Int.reduceLT, Int.reduceLE, Int.reduceEq, Int.reduceAdd, reduceCtorEq]
    rw [flat_end (by omega), List.append_nil] at hacc
    refine ret_p ?_
    simp [lk, frz, hacc]
set_option maxHeartbeats 1000000 in
theorem h_listM {g : Nat} {xs : List Mov} {enc : Mov → List UInt8} {l : List UInt8} (hg : ∀ x ∈ xs, ∀ l : List UInt8, l.length + (enc x).length ≤ 1099511627776 → PC Tryz.prog g [bts l, ag (encM x)] (.ret (bts (l ++ enc x)))) (hl : l.length + (listP enc xs).length ≤ 1099511627776) :
    PC Tryz.prog 49 [bts l, .c (.sl 13 (xs.map encM)), .fn g [] []] (.ret (bts (l ++ listP enc xs))) := by
  have hlen : (listP enc xs).length = 4 + (xs.flatMap enc).length := by simp [listP, len_pCount]
  refine pc_of mixed F49 (by simp) ?_
  simp -dsimp (disch := omega) only [↓wi, wo, wrap64, reduceIte, Nat.reduceEqDiff, Nat.reduceAdd, Nat.reduceLT, Nat.reduceLeDiff, Nat.reduceMul, Nat.reduceSub, Int.reduceToNat, Int.reduceLT, Int.reduceLE, Int.reduceEq, Int.reduceAdd, reduceCtorEq, c49, enter]
  refine give fun _ => ?_
  simp -dsimp (disch := omega) only [↓wi, wo, wrap64, reduceIte, Nat.reduceEqDiff, Nat.reduceAdd, Nat.reduceLT, Nat.reduceLeDiff, Nat.reduceMul, Nat.reduceSub, Int.reduceToNat, Int.reduceLT, Int.reduceLE, Int.reduceEq, Int.reduceAdd, reduceCtorEq]
  refine calls_p (h_PutCount l xs.length (by omega)).pc rfl rfl ?_
  simp -dsimp (disch := omega) only [↓wi, wo, wrap64, reduceIte, Nat.reduceEqDiff, Nat.reduceAdd, Nat.reduceLT, Nat.reduceLeDiff, Nat.reduceMul, Nat.reduceSub, Int.reduceToNat, Int.reduceLT, Int.reduceLE, Int.reduceEq, Int.reduceAdd, reduceCtorEq]
  refine give fun _ => ?_
  simp -dsimp (disch := omega) only [↓wi, wo, wrap64, reduceIte, Nat.reduceEqDiff, Nat.reduceAdd, Nat.reduceLT, Nat.reduceLeDiff, Nat.reduceMul, Nat.reduceSub, Int.reduceToNat, Int.reduceLT, Int.reduceLE, Int.reduceEq, Int.reduceAdd, reduceCtorEq]
  refine AW_wk (Wk_live [0, 2, 13, 14, 15]) (AW_inv mixed (n := xs.length) (fun n st => ∃ (i : Nat) (acc : List UInt8), i + n = xs.length ∧ acc ++ (xs.drop i).flatMap enc = l ++ listP enc xs ∧ st = ⟨0, [(0, bts acc), (2, .fn g [] []), (13, .c (.sl 13 (xs.map encM))), (14, vi xs.length), (15, vi i)], []⟩) ⟨0, l ++ pCount xs.length, by omega, by simp [listP], rfl⟩ ?_)
  rintro n _ ⟨i, acc, hi, hacc, rfl⟩
  simp -dsimp (disch := omega) only [↓wi, wo, wrap64, reduceIte, Nat.reduceEqDiff, Nat.reduceAdd, Nat.reduceLT, Nat.reduceLeDiff, Nat.reduceMul, Nat.reduceSub, Int.reduceToNat, Int.reduceLT, Int.reduceLE, Int.reduceEq, Int.reduceAdd, reduceCtorEq]
  refine forkd (fun h => ?_) (fun h => ?_)
  · have hi' : i < xs.length := by omega
    rw [flat_at hi'] at hacc
    have hmem : xs[i] ∈ xs := List.getElem_mem hi'
    have hgd := getD_map (f := encM) hi'
    have hb := congrArg List.length hacc
    simp only [List.length_append] at hb
    simp -dsimp (disch := omega) only [↓wi, wo, wrap64, reduceIte, Nat.reduceEqDiff, Nat.reduceAdd, Nat.reduceLT, Nat.reduceLeDiff, Nat.reduceMul, Nat.reduceSub, Int.reduceToNat, Int.reduceLT, Int.reduceLE, Int.reduceEq, Int.reduceAdd, reduceCtorEq]
    refine need (by omega) ?_
    generalize xs[i] = x at hacc hmem hgd hb
    have hgx := hg x hmem acc (by omega)
    simp only [encM] at hgx
    simp -dsimp (disch := omega) only [↓wi, wo, wrap64, reduceIte, Nat.reduceEqDiff, Nat.reduceAdd, Nat.reduceLT, Nat.reduceLeDiff, Nat.reduceMul, Nat.reduceSub, Int.reduceToNat, Int.reduceLT, Int.reduceLE, Int.reduceEq, Int.reduceAdd, reduceCtorEq, hgd, encM]
    refine calls_p hgx rfl rfl ?_
    simp -dsimp (disch := omega) only [↓wi, wo, wrap64, reduceIte, Nat.reduceEqDiff, Nat.reduceAdd, Nat.reduceLT, Nat.reduceLeDiff, Nat.reduceMul, Nat.reduceSub, Int.reduceToNat, Int.reduceLT, Int.reduceLE, Int.reduceEq, Int.reduceAdd, reduceCtorEq]
    exact ⟨n - 1, _, by omega, Wk_cut [] [0, 2, 13, 14, 15] (by simp) (by simp), i + 1, acc ++ enc x, by omega, by rw [List.append_assoc]; exact hacc, rfl⟩
  · simp -dsimp (disch := omega) only [↓wi, wo, wrap64, reduceIte, Nat.reduceEqDiff, Nat.reduceAdd, Nat.reduceLT, Nat.reduceLeDiff, Nat.reduceMul, Nat.reduceSub, Int.reduceToNat, Int.reduceLT, Int.reduceLE, Int.reduceEq, Int.reduceAdd, reduceCtorEq]
    rw [flat_end (by omega), List.append_nil] at hacc
    refine ret_p ?_
    simp [lk, frz, hacc]
set_option maxHeartbeats 1000000 in
theorem h_listX {g : Nat} {xs : List Eff} {enc : Eff → List UInt8} {l : List UInt8} (hg : ∀ x ∈ xs, ∀ l : List UInt8, l.length + (enc x).length ≤ 1099511627776 → PC Tryz.prog g [bts l, ag (encX x)] (.ret (bts (l ++ enc x)))) (hl : l.length + (listP enc xs).length ≤ 1099511627776) :
    PC Tryz.prog 51 [bts l, .c (.sl 9 (xs.map encX)), .fn g [] []] (.ret (bts (l ++ listP enc xs))) := by
  have hlen : (listP enc xs).length = 4 + (xs.flatMap enc).length := by simp [listP, len_pCount]
  refine pc_of mixed F51 (by simp) ?_
  simp -dsimp (disch := omega) only [↓wi, wo, wrap64, reduceIte, Nat.reduceEqDiff, Nat.reduceAdd, Nat.reduceLT, Nat.reduceLeDiff, Nat.reduceMul, Nat.reduceSub, Int.reduceToNat, Int.reduceLT, Int.reduceLE, Int.reduceEq, Int.reduceAdd, reduceCtorEq, c51, enter]
  refine give fun _ => ?_
  simp -dsimp (disch := omega) only [↓wi, wo, wrap64, reduceIte, Nat.reduceEqDiff, Nat.reduceAdd, Nat.reduceLT, Nat.reduceLeDiff, Nat.reduceMul, Nat.reduceSub, Int.reduceToNat, Int.reduceLT, Int.reduceLE, Int.reduceEq, Int.reduceAdd, reduceCtorEq]
  refine calls_p (h_PutCount l xs.length (by omega)).pc rfl rfl ?_
  simp -dsimp (disch := omega) only [↓wi, wo, wrap64, reduceIte, Nat.reduceEqDiff, Nat.reduceAdd, Nat.reduceLT, Nat.reduceLeDiff, Nat.reduceMul, Nat.reduceSub, Int.reduceToNat, Int.reduceLT, Int.reduceLE, Int.reduceEq, Int.reduceAdd, reduceCtorEq]
  refine give fun _ => ?_
  simp -dsimp (disch := omega) only [↓wi, wo, wrap64, reduceIte, Nat.reduceEqDiff, Nat.reduceAdd, Nat.reduceLT, Nat.reduceLeDiff, Nat.reduceMul, Nat.reduceSub, Int.reduceToNat, Int.reduceLT, Int.reduceLE, Int.reduceEq, Int.reduceAdd, reduceCtorEq]
  refine AW_wk (Wk_live [0, 2, 13, 14, 15]) (AW_inv mixed (n := xs.length) (fun n st => ∃ (i : Nat) (acc : List UInt8), i + n = xs.length ∧ acc ++ (xs.drop i).flatMap enc = l ++ listP enc xs ∧ st = ⟨0, [(0, bts acc), (2, .fn g [] []), (13, .c (.sl 9 (xs.map encX))), (14, vi xs.length), (15, vi i)], []⟩) ⟨0, l ++ pCount xs.length, by omega, by simp [listP], rfl⟩ ?_)
  rintro n _ ⟨i, acc, hi, hacc, rfl⟩
  simp -dsimp (disch := omega) only [↓wi, wo, wrap64, reduceIte, Nat.reduceEqDiff, Nat.reduceAdd, Nat.reduceLT, Nat.reduceLeDiff, Nat.reduceMul, Nat.reduceSub, Int.reduceToNat, Int.reduceLT, Int.reduceLE, Int.reduceEq, Int.reduceAdd, reduceCtorEq]
  refine forkd (fun h => ?_) (fun h => ?_)
  · have hi' : i < xs.length := by omega
    rw [flat_at hi'] at hacc
    have hmem : xs[i] ∈ xs := List.getElem_mem hi'
    have hgd := getD_map (f := encX) hi'
    have hb := congrArg List.length hacc
    simp only [List.length_append] at hb
    simp -dsimp (disch := omega) only [↓wi, wo, wrap64, reduceIte, Nat.reduceEqDiff, Nat.reduceAdd, Nat.reduceLT, Nat.reduceLeDiff, Nat.reduceMul, Nat.reduceSub, Int.reduceToNat, Int.reduceLT, Int.reduceLE, Int.reduceEq, Int.reduceAdd, reduceCtorEq]
    refine need (by omega) ?_
    generalize xs[i] = x at hacc hmem hgd hb
    have hgx := hg x hmem acc (by omega)
    simp only [encX, encE_] at hgx
    simp -dsimp (disch := omega) only [↓wi, wo, wrap64, reduceIte, Nat.reduceEqDiff, Nat.reduceAdd, Nat.reduceLT, Nat.reduceLeDiff, Nat.reduceMul, Nat.reduceSub, Int.reduceToNat, Int.reduceLT, Int.reduceLE, Int.reduceEq, Int.reduceAdd, reduceCtorEq, hgd, encX, encE_]
    refine calls_p hgx rfl rfl ?_
    simp -dsimp (disch := omega) only [↓wi, wo, wrap64, reduceIte, Nat.reduceEqDiff, Nat.reduceAdd, Nat.reduceLT, Nat.reduceLeDiff, Nat.reduceMul, Nat.reduceSub, Int.reduceToNat, Int.reduceLT, Int.reduceLE, Int.reduceEq, Int.reduceAdd, reduceCtorEq]
    exact ⟨n - 1, _, by omega, Wk_cut [] [0, 2, 13, 14, 15] (by simp) (by simp), i + 1, acc ++ enc x, by omega, by rw [List.append_assoc]; exact hacc, rfl⟩
  · simp -dsimp (disch := omega) only [↓wi, wo, wrap64, reduceIte, Nat.reduceEqDiff, Nat.reduceAdd, Nat.reduceLT, Nat.reduceLeDiff, Nat.reduceMul, Nat.reduceSub, Int.reduceToNat, Int.reduceLT, Int.reduceLE, Int.reduceEq, Int.reduceAdd, reduceCtorEq]
    rw [flat_end (by omega), List.append_nil] at hacc
    refine ret_p ?_
    simp [lk, frz, hacc]
end Go.Proofs.YtbnelpgogjbgjaaGreat.Q
/- Expressions behind bytes: the program's, the document's. -/
set_option linter.unusedVariables false
set_option linter.unusedSimpArgs false
namespace Go.Proofs.YtbnelpgogjbgjaaGreat.Q
open Go.RowKit

mutual
  def putE : Ex → List UInt8
    | .mk o k n v => pInt o.1 ++ (pCount k.length ++ (pBytes (tb n) ++ (putV v ++ putEs k)))
  def putEs : List Ex → List UInt8
    | [] => []
    | e :: es => putE e ++ putEs es
end
theorem putEs_ (l : List Ex) : putEs l = l.flatMap putE := by
  induction l with
  | nil => rfl
  | cons e l ih => simp only [putEs, List.flatMap_cons, ih]
theorem putE_ (e : Ex) : putE e = pInt e.op.1 ++ (pCount e.kids.length ++ (pBytes (tb e.name) ++ (putV e.val ++ e.kids.flatMap putE))) := by
  cases e; simp only [putE, putEs_, Ex.op, Ex.kids, Ex.name, Ex.val]
set_option maxHeartbeats 4000000 in
theorem p_eput (e : Ex) : ∀ (l : List UInt8), l.length + (putE e).length ≤ 1099511627776 → PC Tryz.prog 113 [bts l, ag (encE e)] (.ret (bts (l ++ putE e))) := by
  induction e using Ex.ind with
  | h e ih =>
    intro l hl
    have hlen : (putE e).length = 8 + (4 + (4 + e.name.size + ((putV e.val).length + (e.kids.flatMap putE).length))) := by
      rw [putE_]; simp only [List.length_append, len_pInt, len_pCount, len_pBytes, len_tb]
    refine pc_of mixed F113 (by simp) ?_
    simp -dsimp (disch := omega) only [↓wi, wo, wrap64, reduceIte, Nat.reduceEqDiff, Nat.reduceAdd, Nat.reduceLT, Nat.reduceLeDiff, Nat.reduceMul, Nat.reduceSub, Int.reduceToNat, Int.reduceLT, Int.reduceLE, Int.reduceEq, Int.reduceAdd, reduceCtorEq, c113, enter, encE_ e]
    have b1 : (l ++ pInt e.op.1).length = l.length + 8 := by simp [len_pInt]
    have b2 : (l ++ pInt e.op.1 ++ pCount e.kids.length).length = l.length + 12 := by simp [len_pInt, len_pCount]
    have b3 : (l ++ pInt e.op.1 ++ pCount e.kids.length ++ pBytes (tb e.name)).length = l.length + 16 + e.name.size := by simp [len_pInt, len_pCount, len_pBytes, len_tb]; omega
    have k1 := (h_PutInt l e.op.1 (by omega)).pc
    have k2 := (h_PutCount (l ++ pInt e.op.1) e.kids.length (by omega)).pc
    have k3 := (h_PutBytes (l ++ pInt e.op.1 ++ pCount e.kids.length) (tb e.name) (by rw [len_tb]; omega)).pc
    have k4 := p_putV (l ++ pInt e.op.1 ++ pCount e.kids.length ++ pBytes (tb e.name)) e.val (by omega)
    repeat' first | (simp -dsimp (disch := omega) only [↓wi, wo, wrap64, reduceIte, Nat.reduceEqDiff, Nat.reduceAdd, Nat.reduceLT, Nat.reduceLeDiff, Nat.reduceMul, Nat.reduceSub, Int.reduceToNat, Int.reduceLT, Int.reduceLE, Int.reduceEq, Int.reduceAdd, reduceCtorEq, row_tb, encV]) | (refine brd_y (by first | assumption | omega) ?_) | (refine brd_no (by first | assumption | omega) ?_) | (refine forkd (fun _ => ?_) (fun _ => ?_)) | (refine brs_y (by assumption) ?_) | (refine brs_n (by assumption) ?_) | (refine fork (fun _ => ?_) (fun _ => ?_)) | (refine need (by omega) ?_) | (refine qv_need (by omega) ?_) | (refine qv_give ?_) | (refine give fun _ => ?_) | (refine retb rfl ?_) | (refine reti rfl ?_) | (refine ret_p ?_) | (refine ret_ps rfl ?_) | (refine ret_pp rfl ?_) | (refine calls_b (k1) rfl (fun _ => ?_) (fun _ => ?_)) | (refine calls_p (k1) rfl rfl ?_) | (refine qv_b (k1) rfl rfl (fun _ => ?_) (fun _ => ?_)) | (refine qv_q (k1) rfl rfl rfl ?_) | (refine calls_b (k2) rfl (fun _ => ?_) (fun _ => ?_)) | (refine calls_p (k2) rfl rfl ?_) | (refine qv_b (k2) rfl rfl (fun _ => ?_) (fun _ => ?_)) | (refine qv_q (k2) rfl rfl rfl ?_) | (refine calls_b (k3) rfl (fun _ => ?_) (fun _ => ?_)) | (refine calls_p (k3) rfl rfl ?_) | (refine qv_b (k3) rfl rfl (fun _ => ?_) (fun _ => ?_)) | (refine qv_q (k3) rfl rfl rfl ?_) | (refine calls_b (k4) rfl (fun _ => ?_) (fun _ => ?_)) | (refine calls_p (k4) rfl rfl ?_) | (refine qv_b (k4) rfl rfl (fun _ => ?_) (fun _ => ?_)) | (refine qv_q (k4) rfl rfl rfl ?_)
    have hE : l ++ putE e = (l ++ pInt e.op.1 ++ pCount e.kids.length ++ pBytes (tb e.name) ++ putV e.val) ++ e.kids.flatMap putE := by rw [putE_]; simp only [List.append_assoc]
    rw [hE]
    generalize hacc0 : l ++ pInt e.op.1 ++ pCount e.kids.length ++ pBytes (tb e.name) ++ putV e.val = acc0
    have hb0 : acc0.length + (e.kids.flatMap putE).length ≤ 1099511627776 := by rw [← hacc0]; simp only [List.length_append] at b3 ⊢; omega
    clear k1 k2 k3 k4 b1 b2 b3 hacc0 hE
    refine AW_wk (Wk_cut [] [0, 24, 25, 26] (by simp) (by simp)) (AW_inv mixed (n := e.kids.length) (fun n st => ∃ (i : Nat) (acc : List UInt8), i + n = e.kids.length ∧ acc ++ (e.kids.drop i).flatMap putE = acc0 ++ e.kids.flatMap putE ∧ st = ⟨0, [(0, bts acc), (24, .c (.sl 8 (e.kids.map encE))), (25, vi e.kids.length), (26, vi i)], []⟩) ⟨0, acc0, by omega, by simp, rfl⟩ ?_)
    rintro n _ ⟨i, acc, hi, hacc, rfl⟩
    simp -dsimp (disch := omega) only [↓wi, wo, wrap64, reduceIte, Nat.reduceEqDiff, Nat.reduceAdd, Nat.reduceLT, Nat.reduceLeDiff, Nat.reduceMul, Nat.reduceSub, Int.reduceToNat, Int.reduceLT, Int.reduceLE, Int.reduceEq, Int.reduceAdd, reduceCtorEq]
    refine forkd (fun h => ?_) (fun h => ?_)
    · have hi' : i < e.kids.length := by omega
      rw [flat_at hi'] at hacc
      have hgd := getD_map (f := encE) hi'
      have hb := congrArg List.length hacc
      simp only [List.length_append] at hb
      simp -dsimp (disch := omega) only [↓wi, wo, wrap64, reduceIte, Nat.reduceEqDiff, Nat.reduceAdd, Nat.reduceLT, Nat.reduceLeDiff, Nat.reduceMul, Nat.reduceSub, Int.reduceToNat, Int.reduceLT, Int.reduceLE, Int.reduceEq, Int.reduceAdd, reduceCtorEq]
      refine need (by omega) ?_
      have hk := ih _ (List.getElem_mem hi') acc (by omega)
      generalize e.kids[i] = x at hacc hgd hb hk
      rw [encE_ x] at hk hgd
      simp -dsimp (disch := omega) only [↓wi, wo, wrap64, reduceIte, Nat.reduceEqDiff, Nat.reduceAdd, Nat.reduceLT, Nat.reduceLeDiff, Nat.reduceMul, Nat.reduceSub, Int.reduceToNat, Int.reduceLT, Int.reduceLE, Int.reduceEq, Int.reduceAdd, reduceCtorEq, hgd]
      refine calls_p hk rfl rfl ?_
      simp -dsimp (disch := omega) only [↓wi, wo, wrap64, reduceIte, Nat.reduceEqDiff, Nat.reduceAdd, Nat.reduceLT, Nat.reduceLeDiff, Nat.reduceMul, Nat.reduceSub, Int.reduceToNat, Int.reduceLT, Int.reduceLE, Int.reduceEq, Int.reduceAdd, reduceCtorEq]
      exact ⟨n - 1, _, by omega, Wk_cut [] [0, 24, 25, 26] (by simp) (by simp), i + 1, acc ++ putE x, by omega, by rw [List.append_assoc]; exact hacc, rfl⟩
    · simp -dsimp (disch := omega) only [↓wi, wo, wrap64, reduceIte, Nat.reduceEqDiff, Nat.reduceAdd, Nat.reduceLT, Nat.reduceLeDiff, Nat.reduceMul, Nat.reduceSub, Int.reduceToNat, Int.reduceLT, Int.reduceLE, Int.reduceEq, Int.reduceAdd, reduceCtorEq]
      rw [flat_end (by omega), List.append_nil] at hacc
      refine ret_p ?_
      simp [lk, frz, hacc]
set_option maxHeartbeats 4000000 in
theorem p_reput (e : Ex) : ∀ (l : List UInt8), l.length + (putE e).length ≤ 1099511627776 → PC Tryz.prog 119 [bts l, ag (encE e)] (.ret (bts (l ++ putE e))) := by
  induction e using Ex.ind with
  | h e ih =>
    intro l hl
    have hlen : (putE e).length = 8 + (4 + (4 + e.name.size + ((putV e.val).length + (e.kids.flatMap putE).length))) := by
      rw [putE_]; simp only [List.length_append, len_pInt, len_pCount, len_pBytes, len_tb]
    refine pc_of mixed F119 (by simp) ?_
    simp -dsimp (disch := omega) only [↓wi, wo, wrap64, reduceIte, Nat.reduceEqDiff, Nat.reduceAdd, Nat.reduceLT, Nat.reduceLeDiff, Nat.reduceMul, Nat.reduceSub, Int.reduceToNat, Int.reduceLT, Int.reduceLE, Int.reduceEq, Int.reduceAdd, reduceCtorEq, c119, enter, encE_ e]
    have b1 : (l ++ pInt e.op.1).length = l.length + 8 := by simp [len_pInt]
    have b2 : (l ++ pInt e.op.1 ++ pCount e.kids.length).length = l.length + 12 := by simp [len_pInt, len_pCount]
    have b3 : (l ++ pInt e.op.1 ++ pCount e.kids.length ++ pBytes (tb e.name)).length = l.length + 16 + e.name.size := by simp [len_pInt, len_pCount, len_pBytes, len_tb]; omega
    have k1 := (h_rInt l e.op.1 (by omega)).pc
    have k2 := (h_rCount (l ++ pInt e.op.1) e.kids.length (by omega)).pc
    have k3 := (h_rBytes (l ++ pInt e.op.1 ++ pCount e.kids.length) (tb e.name) (by rw [len_tb]; omega)).pc
    have k4 := p_rputV (l ++ pInt e.op.1 ++ pCount e.kids.length ++ pBytes (tb e.name)) e.val (by omega)
    repeat' first | (simp -dsimp (disch := omega) only [↓wi, wo, wrap64, reduceIte, Nat.reduceEqDiff, Nat.reduceAdd, Nat.reduceLT, Nat.reduceLeDiff, Nat.reduceMul, Nat.reduceSub, Int.reduceToNat, Int.reduceLT, Int.reduceLE, Int.reduceEq, Int.reduceAdd, reduceCtorEq, row_tb, encV]) | (refine brd_y (by first | assumption | omega) ?_) | (refine brd_no (by first | assumption | omega) ?_) | (refine forkd (fun _ => ?_) (fun _ => ?_)) | (refine brs_y (by assumption) ?_) | (refine brs_n (by assumption) ?_) | (refine fork (fun _ => ?_) (fun _ => ?_)) | (refine need (by omega) ?_) | (refine qv_need (by omega) ?_) | (refine qv_give ?_) | (refine give fun _ => ?_) | (refine retb rfl ?_) | (refine reti rfl ?_) | (refine ret_p ?_) | (refine ret_ps rfl ?_) | (refine ret_pp rfl ?_) | (refine calls_b (k1) rfl (fun _ => ?_) (fun _ => ?_)) | (refine calls_p (k1) rfl rfl ?_) | (refine qv_b (k1) rfl rfl (fun _ => ?_) (fun _ => ?_)) | (refine qv_q (k1) rfl rfl rfl ?_) | (refine calls_b (k2) rfl (fun _ => ?_) (fun _ => ?_)) | (refine calls_p (k2) rfl rfl ?_) | (refine qv_b (k2) rfl rfl (fun _ => ?_) (fun _ => ?_)) | (refine qv_q (k2) rfl rfl rfl ?_) | (refine calls_b (k3) rfl (fun _ => ?_) (fun _ => ?_)) | (refine calls_p (k3) rfl rfl ?_) | (refine qv_b (k3) rfl rfl (fun _ => ?_) (fun _ => ?_)) | (refine qv_q (k3) rfl rfl rfl ?_) | (refine calls_b (k4) rfl (fun _ => ?_) (fun _ => ?_)) | (refine calls_p (k4) rfl rfl ?_) | (refine qv_b (k4) rfl rfl (fun _ => ?_) (fun _ => ?_)) | (refine qv_q (k4) rfl rfl rfl ?_)
    have hE : l ++ putE e = (l ++ pInt e.op.1 ++ pCount e.kids.length ++ pBytes (tb e.name) ++ putV e.val) ++ e.kids.flatMap putE := by rw [putE_]; simp only [List.append_assoc]
    rw [hE]
    generalize hacc0 : l ++ pInt e.op.1 ++ pCount e.kids.length ++ pBytes (tb e.name) ++ putV e.val = acc0
    have hb0 : acc0.length + (e.kids.flatMap putE).length ≤ 1099511627776 := by rw [← hacc0]; simp only [List.length_append] at b3 ⊢; omega
    clear k1 k2 k3 k4 b1 b2 b3 hacc0 hE
    refine AW_wk (Wk_cut [true] [0, 3, 5] (by simp) (by simp)) (AW_inv mixed (n := e.kids.length) (fun n st => ∃ (i : Nat) (acc : List UInt8), i + n = e.kids.length ∧ acc ++ (e.kids.drop i).flatMap putE = acc0 ++ e.kids.flatMap putE ∧ st = ⟨0, [(0, bts acc), (3, .ptr 0 0), (5, vi i)], [.box ((encE e).map .c)]⟩) ⟨0, acc0, by omega, by simp, by rw [encE_ e]; rfl⟩ ?_)
    rintro n _ ⟨i, acc, hi, hacc, rfl⟩
    simp -dsimp (disch := omega) only [↓wi, wo, wrap64, reduceIte, Nat.reduceEqDiff, Nat.reduceAdd, Nat.reduceLT, Nat.reduceLeDiff, Nat.reduceMul, Nat.reduceSub, Int.reduceToNat, Int.reduceLT, Int.reduceLE, Int.reduceEq, Int.reduceAdd, reduceCtorEq, encE_ e]
    refine give fun _ => ?_
    simp -dsimp (disch := omega) only [↓wi, wo, wrap64, reduceIte, Nat.reduceEqDiff, Nat.reduceAdd, Nat.reduceLT, Nat.reduceLeDiff, Nat.reduceMul, Nat.reduceSub, Int.reduceToNat, Int.reduceLT, Int.reduceLE, Int.reduceEq, Int.reduceAdd, reduceCtorEq]
    refine forkd (fun h => ?_) (fun h => ?_)
    · have hi' : i < e.kids.length := by omega
      rw [flat_at hi'] at hacc
      have hgd := getD_map (f := encE) hi'
      have hb := congrArg List.length hacc
      simp only [List.length_append] at hb
      simp -dsimp (disch := omega) only [↓wi, wo, wrap64, reduceIte, Nat.reduceEqDiff, Nat.reduceAdd, Nat.reduceLT, Nat.reduceLeDiff, Nat.reduceMul, Nat.reduceSub, Int.reduceToNat, Int.reduceLT, Int.reduceLE, Int.reduceEq, Int.reduceAdd, reduceCtorEq]
      refine need (by omega) ?_
      have hk := ih _ (List.getElem_mem hi') acc (by omega)
      generalize e.kids[i] = x at hacc hgd hb hk
      rw [encE_ x] at hk hgd
      simp -dsimp (disch := omega) only [↓wi, wo, wrap64, reduceIte, Nat.reduceEqDiff, Nat.reduceAdd, Nat.reduceLT, Nat.reduceLeDiff, Nat.reduceMul, Nat.reduceSub, Int.reduceToNat, Int.reduceLT, Int.reduceLE, Int.reduceEq, Int.reduceAdd, reduceCtorEq, hgd]
      refine calls_p hk rfl rfl ?_
      simp -dsimp (disch := omega) only [↓wi, wo, wrap64, reduceIte, Nat.reduceEqDiff, Nat.reduceAdd, Nat.reduceLT, Nat.reduceLeDiff, Nat.reduceMul, Nat.reduceSub, Int.reduceToNat, Int.reduceLT, Int.reduceLE, Int.reduceEq, Int.reduceAdd, reduceCtorEq]
      exact ⟨n - 1, _, by omega, Wk_cut [true] [0, 3, 5] (by simp) (by simp), i + 1, acc ++ putE x, by omega, by rw [List.append_assoc]; exact hacc, by rw [encE_ e]; rfl⟩
    · simp -dsimp (disch := omega) only [↓wi, wo, wrap64, reduceIte, Nat.reduceEqDiff, Nat.reduceAdd, Nat.reduceLT, Nat.reduceLeDiff, Nat.reduceMul, Nat.reduceSub, Int.reduceToNat, Int.reduceLT, Int.reduceLE, Int.reduceEq, Int.reduceAdd, reduceCtorEq]
      rw [flat_end (by omega), List.append_nil] at hacc
      refine ret_p ?_
      simp [lk, frz, hacc]
def PutE (e : Ex) : List UInt8 := if smallE e then putE e else []
theorem p_ePut (l : List UInt8) (e : Ex) (hl : l.length + (PutE e).length ≤ 1099511627776) : PC Tryz.prog 52 [bts l, ag (encE e)] (.ret (bts (l ++ PutE e))) := by
  refine pc_of mixed F52 (by simp) ?_
  simp -dsimp (disch := omega) only [↓wi, wo, wrap64, reduceIte, Nat.reduceEqDiff, Nat.reduceAdd, Nat.reduceLT, Nat.reduceLeDiff, Nat.reduceMul, Nat.reduceSub, Int.reduceToNat, Int.reduceLT, Int.reduceLE, Int.reduceEq, Int.reduceAdd, reduceCtorEq, c52, enter]
  refine calls_p (p_clone l (by omega)) rfl rfl ?_
  simp -dsimp (disch := omega) only [↓wi, wo, wrap64, reduceIte, Nat.reduceEqDiff, Nat.reduceAdd, Nat.reduceLT, Nat.reduceLeDiff, Nat.reduceMul, Nat.reduceSub, Int.reduceToNat, Int.reduceLT, Int.reduceLE, Int.reduceEq, Int.reduceAdd, reduceCtorEq, lenE, take_mapc (lenE e)]
  refine calls_b (p_small e) (data_ag _) (fun h => ?_) (fun h => ?_)
  · simp -dsimp (disch := omega) only [↓wi, wo, wrap64, reduceIte, Nat.reduceEqDiff, Nat.reduceAdd, Nat.reduceLT, Nat.reduceLeDiff, Nat.reduceMul, Nat.reduceSub, Int.reduceToNat, Int.reduceLT, Int.reduceLE, Int.reduceEq, Int.reduceAdd, reduceCtorEq, lenE, take_mapc (lenE e)]
    simp only [PutE, h, if_true] at hl ⊢
    refine calls_p (p_eput e l hl) (by simp [SV.data.dataAll, SV.data, data_m]) rfl ?_
    simp -dsimp (disch := omega) only [↓wi, wo, wrap64, reduceIte, Nat.reduceEqDiff, Nat.reduceAdd, Nat.reduceLT, Nat.reduceLeDiff, Nat.reduceMul, Nat.reduceSub, Int.reduceToNat, Int.reduceLT, Int.reduceLE, Int.reduceEq, Int.reduceAdd, reduceCtorEq]
    refine ret_p ?_
    simp [lk, frz, h]
  · simp -dsimp (disch := omega) only [↓wi, wo, wrap64, reduceIte, Nat.reduceEqDiff, Nat.reduceAdd, Nat.reduceLT, Nat.reduceLeDiff, Nat.reduceMul, Nat.reduceSub, Int.reduceToNat, Int.reduceLT, Int.reduceLE, Int.reduceEq, Int.reduceAdd, reduceCtorEq]
    refine ret_p ?_
    simp [lk, frz, PutE, h]
theorem p_rePut (l : List UInt8) (e : Ex) (hl : l.length + (PutE e).length ≤ 1099511627776) : PC Tryz.prog 58 [bts l, ag (encE e)] (.ret (bts (l ++ PutE e))) := by
  have hs : smallE e = decide (0 ≤ leftE e 6 24) := rfl
  refine pc_of mixed F58 (by simp) ?_
  simp -dsimp (disch := omega) only [↓wi, wo, wrap64, reduceIte, Nat.reduceEqDiff, Nat.reduceAdd, Nat.reduceLT, Nat.reduceLeDiff, Nat.reduceMul, Nat.reduceSub, Int.reduceToNat, Int.reduceLT, Int.reduceLE, Int.reduceEq, Int.reduceAdd, reduceCtorEq, c58, enter, lenE, take_mapc (lenE e)]
  refine calls_b (p_rsmall e) (data_ag _) (fun h => ?_) (fun h => ?_)
  · simp -dsimp (disch := omega) only [↓wi, wo, wrap64, reduceIte, Nat.reduceEqDiff, Nat.reduceAdd, Nat.reduceLT, Nat.reduceLeDiff, Nat.reduceMul, Nat.reduceSub, Int.reduceToNat, Int.reduceLT, Int.reduceLE, Int.reduceEq, Int.reduceAdd, reduceCtorEq, lenE, take_mapc (lenE e)]
    rw [← hs] at h
    simp only [PutE, h, if_true] at hl ⊢
    refine calls_p (p_reput e l hl) (by simp [SV.data.dataAll, SV.data, data_m]) rfl ?_
    simp -dsimp (disch := omega) only [↓wi, wo, wrap64, reduceIte, Nat.reduceEqDiff, Nat.reduceAdd, Nat.reduceLT, Nat.reduceLeDiff, Nat.reduceMul, Nat.reduceSub, Int.reduceToNat, Int.reduceLT, Int.reduceLE, Int.reduceEq, Int.reduceAdd, reduceCtorEq]
    refine ret_p ?_
    simp [lk, frz, h]
  · rw [← hs] at h
    simp -dsimp (disch := omega) only [↓wi, wo, wrap64, reduceIte, Nat.reduceEqDiff, Nat.reduceAdd, Nat.reduceLT, Nat.reduceLeDiff, Nat.reduceMul, Nat.reduceSub, Int.reduceToNat, Int.reduceLT, Int.reduceLE, Int.reduceEq, Int.reduceAdd, reduceCtorEq]
    refine need ⟨brow_one l, by rw [len_brow]; omega⟩ ?_
    simp -dsimp (disch := omega) only [↓wi, wo, wrap64, reduceIte, Nat.reduceEqDiff, Nat.reduceAdd, Nat.reduceLT, Nat.reduceLeDiff, Nat.reduceMul, Nat.reduceSub, Int.reduceToNat, Int.reduceLT, Int.reduceLE, Int.reduceEq, Int.reduceAdd, reduceCtorEq, List.nil_append]
    refine ret_p ?_
    simp [lk, frz, PutE, h, len_brow]
end Go.Proofs.YtbnelpgogjbgjaaGreat.Q
