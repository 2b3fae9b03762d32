/- A slice that is nil, taken as a row that grows. -/
import Derived.Test.YtbnelpgogjbgjaaGreatCodQv
/- A slice that is nil, taken as a row that grows. -/
set_option linter.unusedVariables false
set_option linter.unusedSimpArgs false
namespace Go.Proofs.YtbnelpgogjbgjaaGreat.Q
open Go.RowKit

theorem row_nil {w : World} {I : Nat → Prop} {ρ : List (Option Nat)} {H : List AObj} {e m : Nat} (hl : ρ.length = H.length) : SVR w I (ρ ++ [none]) (H ++ [.row true e m []]) (.row H.length 0) (.slice none 0 0) := by
  refine .row rfl (by simp) fun st e' m' xs rb h hρ => ?_
  rw [List.getElem?_append_right (Nat.le_refl _)] at h
  rw [List.getElem?_append_right (by omega)] at hρ
  simp only [Nat.sub_self, List.getElem?_cons_zero, Option.some.injEq, AObj.row.injEq] at h
  simp only [hl, Nat.sub_self, List.getElem?_cons_zero, Option.some.injEq] at hρ
  obtain ⟨rfl, rfl, rfl, rfl⟩ := h
  subst hρ
  exact ⟨Nat.le_refl _, fun _ => by simp [RowV]⟩
theorem SRel.nil {N : Nat} {ds : List Deferred} {E : Ent} {w : World} {I : Nat → Prop} {ρ : List (Option Nat)} {s : AState} {a : Act} (hs : SRel N ds E w I ρ s a) (e m : Nat) : SRel N ds E w I (ρ ++ [none]) ⟨s.k, s.t, s.H ++ [.row true e m []]⟩ a :=
  hs.step (Stp.push hs.h ⟨rfl, rfl, rfl⟩ (fun _ _ => rfl) (Nat.le_refl _) (fun _ h => h) (fun b h => .inl h) (by simp) (fun _ => trivial))
theorem Wk_nil {k : Nat} {t : List (Nat × SV)} {H : List AObj} (i e m : Nat) (h : lk i t = .c (.sc (.slice none 0 0))) : Wk ⟨k, t, H⟩ ⟨k, (i, .row H.length 0) :: t, H ++ [.row true e m []]⟩ := by
  intro N ds E w I ρ a hs
  have hs' := hs.nil e m
  refine ⟨I, ρ ++ [none], hs'.fr, hs'.mv, hs'.k, hs'.h, hs'.n, hs'.ds, fun j => ?_⟩
  simp only [lk]
  split
  · rename_i e
    subst e
    have := hs.t j
    simp only [h] at this
    rw [this.sc_inv.1]
    exact row_nil hs.h.len
  · exact hs'.t j
/-- A call that answers a truth. -/
theorem calls_hb {P : Program} {H : List AObj} {K : SV → List AObj → Prop} {Qp : Value → List AObj → Prop} {f : Nat} {args : List SV} {b : Bool} {H' : List AObj} {th : Th (K, Qp)} (hb : Bod P f) (h : ACalls P f args H fun o H1 => o = .ret (.c (.sc (.bool b))) ∧ H1 = H')
    (y : b = true → go K (.c (.sc (.bool true))) H') (n : b = false → go K (.c (.sc (.bool false))) H') : callPT P f args H K Qp th := calls_h hb h (by cases b; exact n rfl; exact y rfl)
theorem ren_data {μ : Nat → Nat} {x : SV} (h : x.data = true) : ren μ x = x := by
  have key : ∀ (n : Nat) (x : SV), SizeOf.sizeOf x ≤ n → x.data = true → ren μ x = x := by
    intro n
    induction n with
    | zero => intro x hx; cases x <;> simp at hx
    | succ n ih =>
      intro x hx h
      have lst : ∀ xs : List SV, SizeOf.sizeOf xs ≤ n → SV.data.dataAll xs = true → ren.renL μ xs = xs := by
        intro xs
        induction xs with
        | nil => intro _ _; rfl
        | cons y ys ihy =>
          intro hs hd
          simp only [SV.data.dataAll, Bool.and_eq_true] at hd
          simp only [List.cons.sizeOf_spec] at hs
          simp only [ren.renL, ih y (by omega) hd.1, ihy (by omega) hd.2]
      cases x with
      | ptr => simp [SV.data] at h
      | row => simp [SV.data] at h
      | ag xs => simp only [SV.ag.sizeOf_spec] at hx; simp only [ren, lst xs (by omega) (by simpa [SV.data] using h)]
      | tup xs => simp only [SV.tup.sizeOf_spec] at hx; simp only [ren, lst xs (by omega) (by simpa [SV.data] using h)]
      | fn f a b =>
        simp only [SV.fn.sizeOf_spec] at hx
        simp only [SV.data, Bool.and_eq_true] at h
        simp only [ren, lst a (by omega) h.1, lst b (by omega) h.2]
      | _ => rfl
  exact key _ x (Nat.le_refl _) h
theorem renL_data {μ : Nat → Nat} {xs : List SV} (h : SV.data.dataAll xs = true) : ren.renL μ xs = xs := by
  have := ren_data (μ := μ) (x := .ag xs) (by simpa [SV.data] using h)
  simpa [ren] using this
end Go.Proofs.YtbnelpgogjbgjaaGreat.Q
