/- Data in which nothing may stand for an empty slice. -/
import Derived.Test.YtbnelpgogjbgjaaGreatCodQw
/- Data in which nothing may stand for an empty slice. -/
set_option linter.unusedVariables false
set_option linter.unusedSimpArgs false
namespace Go.Proofs.YtbnelpgogjbgjaaGreat.Q
open Go.RowKit

mutual
inductive CLe : Cell → Cell → Prop where
  | refl (x : Cell) : CLe x x
  | nil (m : Nat) : CLe (.sc (.slice none 0 0)) (.sl m [])
  | sl (m : Nat) {xs ys : List (List Cell)} (h : RLe xs ys) : CLe (.sl m xs) (.sl m ys)
inductive LLe : List Cell → List Cell → Prop where
  | nil : LLe [] []
  | cons {x y : Cell} {xs ys : List Cell} (h : CLe x y) (k : LLe xs ys) : LLe (x :: xs) (y :: ys)
inductive RLe : List (List Cell) → List (List Cell) → Prop where
  | nil : RLe [] []
  | cons {x y : List Cell} {xs ys : List (List Cell)} (h : LLe x y) (k : RLe xs ys) : RLe (x :: xs) (y :: ys)
end
theorem LLe.len {xs ys : List Cell} (h : LLe xs ys) : xs.length = ys.length := by
  induction xs generalizing ys with
  | nil => cases h; rfl
  | cons x xs ih => cases h with | cons _ k => simp [ih k]
theorem RLe.len {xs ys : List (List Cell)} (h : RLe xs ys) : xs.length = ys.length := by
  induction xs generalizing ys with
  | nil => cases h; rfl
  | cons x xs ih => cases h with | cons _ k => simp [ih k]
theorem LLe.get {xs ys : List Cell} (h : LLe xs ys) (j : Nat) (hj : j < xs.length) (hk : j < ys.length) : CLe xs[j] ys[j] := by
  induction xs generalizing ys j with
  | nil => simp at hj
  | cons x xs ih =>
    cases h with
    | cons h k =>
    cases j with
    | zero => exact h
    | succ j => exact ih k j (by simpa using hj) (by simpa using hk)
theorem RLe.get {xs ys : List (List Cell)} (h : RLe xs ys) (j : Nat) (hj : j < xs.length) (hk : j < ys.length) : LLe xs[j] ys[j] := by
  induction xs generalizing ys j with
  | nil => simp at hj
  | cons x xs ih =>
    cases h with
    | cons h k =>
    cases j with
    | zero => exact h
    | succ j => exact ih k j (by simpa using hj) (by simpa using hk)
theorem CR.nil {w : World} {I : Nat → Prop} (m : Nat) : CR w I (.sl m []) (.slice none 0 0) := CR.sl m [] none 0 (fun _ _ => undef) (by simp) (by simp) (by simp) (by simp) (by simp)
theorem CLe.R {w : World} {I : Nat → Prop} {x : Cell} {v : Value} (h : CR w I x v) : ∀ {y : Cell}, CLe x y → CR w I y v := by
  induction h with
  | sc v h1 =>
    intro y hy
    cases hy with
    | refl => exact .sc v h1
    | nil m => exact CR.nil m
  | sl m xs A cap f hcap hmax hm hA hx ih =>
    intro y hy
    cases hy with
    | refl => exact .sl m xs A cap f hcap hmax hm hA hx
    | @sl _ _ ys hr =>
      have hl := hr.len
      rw [hl]
      refine .sl m ys A cap f (by omega) hmax (fun y hy => ?_) (fun h0 => ?_) fun i hi j hj => ?_
      · obtain ⟨i, hi, rfl⟩ := List.getElem_of_mem hy
        rw [← (hr.get i (by omega) hi).len]
        exact hm _ (List.getElem_mem _)
      · obtain ⟨a, e, h1, h2⟩ := hA (by omega)
        exact ⟨a, e, h1, fun i j hi hj => h2 i j (by omega) hj⟩
      · have hll := hr.get i (by omega) hi
        exact ih i (by omega) j (by rw [hll.len]; exact hj) (hll.get j _ hj)
theorem LLe.R {w : World} {I : Nat → Prop} {ρ : List (Option Nat)} {H : List AObj} {xs ys : List Cell} {v : Value} (h : SVR w I ρ H (.ag (xs.map .c)) v) (hl : LLe xs ys) : SVR w I ρ H (.ag (ys.map .c)) v := by
  cases h with
  | ag hn h =>
  have e := hl.len
  refine .ag (by simp at hn ⊢; omega) fun i hi hv => ?_
  have hi' : i < ys.length := by simpa using hi
  have hx := h i (by simp; omega) hv
  simp only [List.getElem_map] at hx ⊢
  cases hx with
  | c hx => exact .c (CLe.R hx (hl.get i (by omega) hi'))
theorem LLe.refl (xs : List Cell) : LLe xs xs := by
  induction xs with
  | nil => exact .nil
  | cons x xs ih => exact .cons (.refl x) ih
/-- The result, told in fewer words. -/
theorem ret_le {res : List RV} {x : List (Nat × SV)} {H : List AObj} {o : Out} {svs : List SV} {xs ys : List Cell} (hv : resS ⟨0, x, H⟩ res = some (.ag svs)) (hd : dcs svs = some xs) (hl : LLe xs ys) (h : Out.ret (.ag (ys.map .c)) = o) : RetQ res (fun o' H' => o' = o ∧ H' = []) .ret ⟨0, x, H⟩ := by
  have e := dcs_map hd
  subst e
  refine ⟨_, hv, .ag (ys.map .c), [], fun w I ρ u E hk mv hr hu => ⟨cutI [] I ρ, keepρ [] ρ, keep_Fr, keep_Mv hr (Nat.zero_le _) (by rw [hk]; exact Nat.zero_le _) mv, keep_HRel hr (Nat.zero_le _), ?_⟩, h, rfl⟩
  refine LLe.R ?_ hl
  have := frz_R hr (Nat.zero_le _) hu (keep := [])
  simp only [frz] at this
  have hf : ∀ l : List Cell, frz.frzL [] H (l.map .c) = l.map .c := fun l => by induction l <;> simp_all [frz.frzL, frz]
  rw [hf] at this
  exact this
/-- A call with one argument of which less is said. -/
theorem PC.le {P : Program} {f : Nat} {svs : List SV} {xs ys : List Cell} {a b : List SV} {o : Out} (h : PC P f (a ++ .ag (ys.map .c) :: b) o) (hd : dcs svs = some xs) (hl : LLe xs ys) : PC P f (a ++ .ag svs :: b) o := by
  have e := dcs_map hd
  subst e
  unfold PC at h ⊢
  refine ⟨h.1, fun w I ρ vs hr hv => h.2 w I ρ vs hr ?_⟩
  cases hv with
  | tup hn hvs =>
  refine .tup (by simpa using hn) fun i hi hv => ?_
  have hi' : i < (a ++ SV.ag (xs.map .c) :: b).length := by simpa using hi
  have hh := hvs i hi' hv
  by_cases h1 : i < a.length
  · rw [List.getElem_append_left h1] at hh ⊢; exact hh
  · rw [List.getElem_append_right (by omega)] at hh ⊢
    by_cases h2 : i - a.length = 0
    · simp only [h2, List.getElem_cons_zero] at hh ⊢; exact LLe.R hh hl
    · obtain ⟨k, hk⟩ : ∃ k, i - a.length = k + 1 := ⟨i - a.length - 1, by omega⟩
      simp only [hk, List.getElem_cons_succ] at hh ⊢; exact hh
end Go.Proofs.YtbnelpgogjbgjaaGreat.Q
