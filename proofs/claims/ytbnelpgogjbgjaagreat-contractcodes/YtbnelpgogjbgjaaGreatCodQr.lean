/- Telling less of memory; calls by contract. -/
import Derived.Test.YtbnelpgogjbgjaaGreatCodQq
/- Telling less of memory; calls by contract. -/
set_option linter.unusedVariables false
set_option linter.unusedSimpArgs false
namespace Go.Proofs.YtbnelpgogjbgjaaGreat.Q
open Go.RowKit

/-- Rows that are not kept become data; pointers into boxes that are not kept are forgotten. -/
def frz (keep : List Bool) (H : List AObj) : SV → SV
  | .row r n => if keep.getD r false then .row r n else match H[r]? with
    | some (.row _ _ m xs) => if n = xs.length then .c (.sl m xs) else .top
    | _ => .top
  | .ptr r o => if keep.getD r false then .ptr r o else .top
  | .ag xs => .ag (frzL xs)
  | .tup xs => .tup (frzL xs)
  | .fn f a b => .fn f (frzL a) (frzL b)
  | .c x => .c x
  | .dp cs => .dp cs
  | .ifc t v => .ifc t v
  | .top => .top
where frzL : List SV → List SV
  | [] => []
  | x :: xs => frz keep H x :: frzL xs
def frzO (keep : List Bool) (H : List AObj) : AObj → AObj
  | .box cells => .box (frz.frzL keep H cells)
  | o => o
def keepH (keep : List Bool) (H : List AObj) : List AObj := List.zipWith (fun b o => if b then frzO keep H o else .dead) keep H
def keepρ (keep : List Bool) (ρ : List (Option Nat)) : List (Option Nat) := List.zipWith (fun b x => if b then x else none) keep ρ
def frzT (keep : List Bool) (H : List AObj) (t : List (Nat × SV)) (live : List Nat) : List (Nat × SV) := live.map fun i => (i, frz keep H (lk i t))

theorem frzL_len {keep : List Bool} {H : List AObj} (xs : List SV) : (frz.frzL keep H xs).length = xs.length := by
  induction xs with
  | nil => rfl
  | cons x xs ih => simp [frz.frzL, ih]
theorem frzL_get {keep : List Bool} {H : List AObj} {xs : List SV} {i : Nat} (h : i < (frz.frzL keep H xs).length) : (frz.frzL keep H xs)[i] = frz keep H (xs[i]'(by rw [frzL_len] at h; exact h)) := by
  induction xs generalizing i with
  | nil => simp [frz.frzL] at h
  | cons x xs ih =>
    cases i with
    | zero => rfl
    | succ i => exact ih (by simpa [frz.frzL] using h)

section
variable {w : World} {I : Nat → Prop} {ρ : List (Option Nat)} {H : List AObj}

theorem keepH_get {keep : List Bool} {r : Nat} {o : AObj} (h : (keepH keep H)[r]? = some o) : r < keep.length ∧ ∃ o', H[r]? = some o' ∧ o = if keep.getD r false then frzO keep H o' else .dead := by
  simp only [keepH, List.getElem?_zipWith] at h
  split at h
  · rename_i b o' hb ho
    obtain rfl := Option.some.inj h
    refine ⟨(List.getElem?_eq_some_iff.1 hb).1, o', ho, ?_⟩
    rw [List.getD_eq_getElem?_getD, hb]
    rfl
  · cases h
theorem keepρ_get {keep : List Bool} {r : Nat} {x : Option Nat} (h : (keepρ keep ρ)[r]? = some x) : r < keep.length ∧ ∃ x', ρ[r]? = some x' ∧ x = if keep.getD r false then x' else none := by
  simp only [keepρ, List.getElem?_zipWith] at h
  split at h
  · rename_i b x' hb hx
    obtain rfl := Option.some.inj h
    refine ⟨(List.getElem?_eq_some_iff.1 hb).1, x', hx, ?_⟩
    rw [List.getD_eq_getElem?_getD, hb]
    rfl
  · cases h
theorem keep_lt {keep : List Bool} {r : Nat} (h : keep.getD r false = true) : r < keep.length := by
  by_cases hh : r < keep.length
  · exact hh
  · rw [List.getD_eq_getElem?_getD, List.getElem?_eq_none (by omega)] at h
    cases h

theorem RowV.moreI {I' : Nat → Prop} {rb : Option Nat} {st : Bool} {e m : Nat} {xs : List (List Cell)} {v : Value} (hI : ∀ b, I b → I' b) (h : RowV w I rb st e m xs v) : RowV w I' rb st e m xs v :=
  h.mono (fun _ _ => rfl) hI fun _ _ => rfl

/-- A row read as data. -/
theorem row_data {I' : Nat → Prop} {r n : Nat} {v : Value} {st : Bool} {e m : Nat} {xs : List (List Cell)} (hr : HRel w I ρ H) (hI : ∀ b, I b → I' b) (hv : SVR w I ρ H (.row r n) v) (ho : H[r]? = some (.row st e m xs)) (hn : n = xs.length) (hb : ∀ b, ρ[r]? = some (some b) → I' b) : CR w I' (.sl m xs) v := by
  cases hv with
  | row _ hlt h =>
  obtain ⟨rb, hρ⟩ : ∃ rb, ρ[r]? = some rb := ⟨_, List.getElem?_eq_getElem (by rw [hr.len]; exact hlt)⟩
  have hrow := (h st e m xs rb ho hρ).2 hn
  have hobj := hr.obj r _ rb ho hρ
  unfold RowV at hrow
  cases rb with
  | some b =>
    obtain ⟨cap, vs, rfl, h1, h2, h3, h4⟩ := hrow
    obtain ⟨vs', f, h3', h5, hm, h6, h7⟩ := hobj
    rw [h3] at h3'
    simp only [Option.some.injEq, Obj.cells.injEq, true_and] at h3'
    obtain ⟨rfl, _⟩ := h3'
    refine .sl m xs _ cap f h1 h2 hm (fun _ => ⟨_, rfl, hb b hρ, fun i j hi hj => ?_⟩) fun i hi j hj => (h7 i hi j hj).mono (fun _ _ => rfl) hI
    have h8 := h6 i j hi hj
    have hlt' : i * m + j < vs.size := by
      by_cases hh : i * m + j < vs.size
      · exact hh
      · rw [Array.getElem?_eq_none (by omega)] at h8; cases h8
    rw [add_off, Nat.zero_add, cells_at h3 _ hlt']
    rw [Array.getElem?_eq_getElem hlt'] at h8
    exact h8
  | none =>
    dsimp only at hrow
    split at hrow
    · obtain ⟨rfl, rfl⟩ := hrow
      exact CR.sl m [] none 0 (fun _ _ => undef) (by simp) (by simp) (by simp) (by simp) (by simp)
    · obtain ⟨A, _, hc⟩ := hrow
      exact hc.mono (fun _ _ => rfl) hI

def cutI (keep : List Bool) (I : Nat → Prop) (ρ : List (Option Nat)) : Nat → Prop := fun b => I b ∨ ∃ r : Nat, keep.getD r false = false ∧ ρ[r]? = some (some b)

theorem frz_R {keep : List Bool} (hr : HRel w I ρ H) (hk : keep.length ≤ H.length) {x : SV} {v : Value} (h : SVR w I ρ H x v) : SVR w (cutI keep I ρ) (keepρ keep ρ) (keepH keep H) (frz keep H x) v := by
  have hlen : (keepH keep H).length = keep.length := by simp [keepH]; omega
  induction h with
  | c h => exact .c (h.mono (fun _ _ => rfl) fun _ h => .inl h)
  | ag hl h ih =>
    simp only [frz]
    refine .ag (by rw [frzL_len]; exact hl) fun i hi hv => ?_
    rw [frzL_get]
    exact ih i (by rw [frzL_len] at hi; exact hi) hv
  | @ptr r off v h1 hlt h =>
    simp only [frz]
    split
    · rename_i hkr
      refine .ptr h1 (by rw [hlen]; exact keep_lt hkr) fun b cells hb hρ => ?_
      obtain ⟨_, o', ho', e⟩ := keepH_get hb
      rw [if_pos hkr] at e
      obtain ⟨_, x', hx', e'⟩ := keepρ_get hρ
      rw [if_pos hkr] at e'
      cases o' with
      | box cs => exact h b cs ho' (by rw [hx', e'])
      | row => simp [frzO] at e
      | dead => simp [frzO] at e
    · exact .top
  | dp f hi h hc => exact .dp f (.inl hi) h fun j hj => (hc j hj).mono (fun _ _ => rfl) fun _ h => .inl h
  | @row r n v h1 hlt h =>
    simp only [frz]
    split
    · rename_i hkr
      refine .row h1 (by rw [hlen]; exact keep_lt hkr) fun st e m xs rb hb hρ => ?_
      obtain ⟨_, o', ho', e1⟩ := keepH_get hb
      rw [if_pos hkr] at e1
      obtain ⟨_, x', hx', e'⟩ := keepρ_get hρ
      rw [if_pos hkr] at e'
      subst e'
      cases o' with
      | box cs => simp [frzO] at e1
      | row st' e'' m' xs' =>
        simp only [frzO, AObj.row.injEq] at e1
        obtain ⟨rfl, rfl, rfl, rfl⟩ := e1
        obtain ⟨h3, h4⟩ := h _ _ _ _ _ ho' hx'
        exact ⟨h3, fun hn => (h4 hn).moreI fun _ h => .inl h⟩
      | dead => simp [frzO] at e1
    · rename_i hkr
      split
      · rename_i st e m xs ho
        split
        · rename_i hn
          exact .c (row_data hr (fun _ h => .inl h) (.row h1 hlt h) ho hn fun b hb => .inr ⟨r, by simpa using hkr, hb⟩)
        · exact .top
      · exact .top
  | fn h1 h2 hf hc ihf ihc =>
    simp only [frz]
    refine .fn (by rw [frzL_len]; exact h1) (by rw [frzL_len]; exact h2) (fun i hi hv => ?_) fun i hi hv => ?_
    · rw [frzL_get]; exact ihf i (by rw [frzL_len] at hi; exact hi) hv
    · rw [frzL_get]; exact ihc i (by rw [frzL_len] at hi; exact hi) hv
  | tup hl h ih =>
    simp only [frz]
    refine .tup (by rw [frzL_len]; exact hl) fun i hi hv => ?_
    rw [frzL_get]
    exact ih i (by rw [frzL_len] at hi; exact hi) hv
  | ifc => exact .ifc
  | top => exact .top

theorem keep_HRel {keep : List Bool} (hr : HRel w I ρ H) (hk : keep.length ≤ H.length) : HRel w (cutI keep I ρ) (keepρ keep ρ) (keepH keep H) where
  len := by simp [keepH, keepρ, hr.len]
  live := fun b hb => by
    rcases hb with hb | ⟨r, _, hb⟩
    · exact hr.live b hb
    · exact hr.lt r b hb
  lt := fun r b h => by
    obtain ⟨_, x', hx', e⟩ := keepρ_get h
    split at e
    · exact hr.lt r b (by rw [hx', e])
    · cases e
  apart := fun r b h hb => by
    obtain ⟨_, x', hx', e⟩ := keepρ_get h
    split at e
    · rename_i hkr
      subst e
      rcases hb with hb | ⟨r', hr', hb⟩
      · exact hr.apart r b hx' hb
      · have := hr.inj r r' b hx' hb
        subst this
        rw [hkr] at hr'; cases hr'
    · cases e
  inj := fun r r' b h h' => by
    obtain ⟨_, x, hx, e⟩ := keepρ_get h
    obtain ⟨_, x', hx', e'⟩ := keepρ_get h'
    split at e
    · split at e'
      · exact hr.inj r r' b (by rw [hx, e]) (by rw [hx', e'])
      · cases e'
    · cases e
  obj := fun r o rb h h' => by
    obtain ⟨_, o', ho', e⟩ := keepH_get h
    obtain ⟨_, x', hx', e'⟩ := keepρ_get h'
    subst e e'
    split
    · have hobj := hr.obj r o' x' ho' hx'
      cases o' with
      | box cells =>
        cases x' with
        | none => exact hobj.elim
        | some b =>
          obtain ⟨vs, e, h1, h2, h3⟩ := hobj
          refine ⟨vs, e, h1, by rw [frzL_len]; exact h2, fun j hj hv => ?_⟩
          rw [frzL_get]
          exact frz_R hr hk (h3 j (by rw [frzL_len] at hj; exact hj) hv)
      | row st e m xs =>
        cases x' with
        | none => trivial
        | some b =>
          obtain ⟨vs, f, h1, h2, h3, h4, h5⟩ := hobj
          exact ⟨vs, f, h1, h2, h3, h4, fun i hi j hj => (h5 i hi j hj).mono (fun _ _ => rfl) fun _ h => .inl h⟩
      | dead => cases x' <;> trivial
    · trivial

theorem keep_Fr {keep : List Bool} : Fr w I ρ w (cutI keep I ρ) (keepρ keep ρ) :=
  ⟨rfl, rfl, rfl, Nat.le_refl _, fun _ _ _ => rfl, fun _ h => .inl h, fun b hb => by
    rcases hb with hb | ⟨r, _, hb⟩
    · exact .inl hb
    · exact .inr (.inr ⟨r, hb⟩), fun r b h => by
    obtain ⟨_, x', hx', e⟩ := keepρ_get h
    split at e
    · exact .inl ⟨r, by rw [hx', e]⟩
    · cases e⟩

theorem keep_Mv {keep : List Bool} {E : Ent} (hr : HRel w I ρ H) (hk : keep.length ≤ H.length) (hE : E.H.length ≤ keep.length) (mv : Mv E.w E.I E.ρ E.H w I ρ H) : Mv E.w E.I E.ρ E.H w (cutI keep I ρ) (keepρ keep ρ) (keepH keep H) where
  heap := mv.heap
  more := fun b hb => .inl (mv.more b hb)
  len := by simp [keepH]; omega
  box := fun r cells hl h => by
    obtain ⟨hlt, o', ho', e⟩ := keepH_get h
    split at e
    · rename_i hkr
      cases o' with
      | box cs =>
        obtain ⟨h1, h2⟩ := mv.box r cs hl ho'
        refine ⟨h1, ?_⟩
        rw [← h2]
        have hrl : r < ρ.length := by rw [hr.len]; exact (List.getElem?_eq_some_iff.1 ho').1
        simp only [keepρ, List.getElem?_zipWith, List.getElem?_eq_getElem hlt, List.getElem?_eq_getElem hrl]
        have : keep[r] = true := by rw [List.getD_eq_getElem?_getD, List.getElem?_eq_getElem hlt] at hkr; exact hkr
        simp [this]
      | row => simp [frzO] at e
      | dead => simp [frzO] at e
    · cases e
  row := fun r st e m xs rb hl h hρ => by
    obtain ⟨hlt, o', ho', e1⟩ := keepH_get h
    split at e1
    · rename_i hkr
      cases o' with
      | box cs => simp [frzO] at e1
      | row st' e' m' xs' =>
        simp only [frzO, AObj.row.injEq] at e1
        obtain ⟨rfl, rfl, rfl, rfl⟩ := e1
        obtain ⟨_, x', hx', e2⟩ := keepρ_get hρ
        rw [if_pos hkr] at e2
        subst e2
        obtain ⟨st1, xs1, rb1, h1, h2, h3, h4⟩ := mv.row r _ _ _ _ _ hl ho' hx'
        exact ⟨st1, xs1, rb1, h1, h2, h3, fun el v hv => (h4 el v hv).moreI fun _ h => .inl h⟩
      | dead => simp [frzO] at e1
    · cases e1
end

theorem lk_frzT {keep : List Bool} {H : List AObj} {t : List (Nat × SV)} {live : List Nat} (i : Nat) : lk i (frzT keep H t live) = .top ∨ lk i (frzT keep H t live) = frz keep H (lk i t) := by
  induction live with
  | nil => exact .inl rfl
  | cons j live ih =>
    simp only [frzT, List.map_cons, lk]
    split
    · rename_i e; subst e; exact .inr rfl
    · exact ih

/-- At a loop's head, or anywhere: some slots, some boxes. -/
theorem Wk_cut {s : AState} (keep : List Bool) (live : List Nat) (h1 : keep.length ≤ s.H.length) (h2 : s.k ≤ keep.length) : Wk s ⟨s.k, frzT keep s.H s.t live, keepH keep s.H⟩ := by
  intro N ds E w I ρ a hs
  refine ⟨cutI keep I ρ, keepρ keep ρ, hs.fr.trans keep_Fr, keep_Mv hs.h h1 (by rw [hs.k]; exact h2) hs.mv, hs.k, keep_HRel hs.h h1, hs.n, hs.ds, fun i => ?_⟩
  rcases lk_frzT (keep := keep) (H := s.H) (t := s.t) (live := live) i with e | e
  · dsimp only; rw [e]; exact .top
  · dsimp only; rw [e]; exact frz_R hs.h h1 (hs.t i)

/-- At a function's end. -/
theorem Clo_cut {k : Nat} {v : SV} {H : List AObj} (keep : List Bool) (h1 : keep.length ≤ H.length) (h2 : k ≤ keep.length) : Clo k v H (frz keep H v) (keepH keep H) :=
  fun w I ρ u E hk mv hr hv => ⟨cutI keep I ρ, keepρ keep ρ, keep_Fr, keep_Mv hr h1 (by omega) mv, keep_HRel hr h1, frz_R hr h1 hv⟩

/-! ### Calls -/
/-- A pure function's contract. -/
def PC (P : Program) (f : Nat) (args : List SV) (o : Out) : Prop := Bod P f ∧ ACalls P f args [] fun o' H' => o' = o ∧ H' = []

section
variable {P : Program}

theorem ACalls.mono {f : Nat} {args : List SV} {H : List AObj} {R R' : Out → List AObj → Prop} (h : ACalls P f args H R) (hr : ∀ o H', R o H' → R' o H') : ACalls P f args H R' :=
  fun w I ρ vs h1 h2 => (h w I ρ vs h1 h2).mono fun e w' ⟨o, H', I', ρ', a, b⟩ => ⟨o, H', I', ρ', hr _ _ a, b⟩

theorem callP_of {f : Nat} {args : List SV} {H : List AObj} {K : SV → List AObj → Prop} {Qp : Value → List AObj → Prop} {R : Out → List AObj → Prop} (hb : Bod P f) (h : ACalls P f args H R) (hr : ∀ v H', R (.ret v) H' → K v H') (hp : ∀ p H', R (.pan p) H' → Qp p H') : callP P f args H K Qp :=
  .inl ⟨hb, h.mono fun o H' hR => by cases o <;> first | exact hr _ _ hR | exact hp _ _ hR⟩

theorem HRel.empty {w : World} {I : Nat → Prop} {ρ : List (Option Nat)} {H : List AObj} (hr : HRel w I ρ H) {I' : Nat → Prop} (hI : ∀ b, I' b → I b ∨ ∃ r : Nat, ρ[r]? = some (some b)) : HRel w I' [] [] :=
  ⟨rfl, fun b hb => by
    rcases hI b hb with h | ⟨r, h⟩
    · exact hr.live b h
    · exact hr.lt r b h, fun r b h => by simp at h, fun r b h => by simp at h, fun r r' b h => by simp at h, fun r o rb h => by simp at h⟩

/-- A pure call; the arguments are data. -/
theorem callP_pure {f : Nat} {args : List SV} {H : List AObj} {K : SV → List AObj → Prop} {Qp : Value → List AObj → Prop} {o : Out} (h : PC P f args o) (hd : SV.data.dataAll args = true) (hv : ∀ v, o = .ret v → v.data = true ∧ K v H) (hp : ∀ p, o = .pan p → Qp p H) : callP P f args H K Qp := by
  refine .inl ⟨h.1, fun w I ρ vs hr hargs => ?_⟩
  have h0 : HRel w I [] [] := hr.empty fun b hb => .inl hb
  refine (h.2 w I [] vs h0 (hargs.mono_data (fun _ _ => rfl) (fun _ h => h) (by simpa [SV.data] using hd))).mono ?_
  rintro e w' ⟨o', H', I', ρ', ⟨rfl, rfl⟩, hfr, hmv, hh, hout⟩
  have hbel := hfr.below
  have st : Stp w I ρ H w' I' ρ H := Stp.same hr ⟨hbel.os, hbel.tape, hbel.output⟩ hbel.block hbel.size hfr.more fun b hb => by
    rcases hfr.fresh b hb with h | h | ⟨r, h⟩
    · exact .inl h
    · exact .inr ⟨h, hh.live b hb⟩
    · simp at h
  refine ⟨o', H, I', ρ, ?_, st.fr, st.mv, st.h, ?_⟩
  · cases o' with
    | ret v => exact (hv v rfl).2
    | pan p => exact hp p rfl
  · cases o' with
    | ret v => cases e <;> first | exact hout.mono_data (fun _ _ => rfl) (fun _ h => h) (hv v rfl).1 | exact hout
    | pan p => cases e <;> exact hout

/-- Nothing of memory is in it. -/
def SV.flat : SV → Bool
  | .c (.sc _) => true
  | .ag xs => flatL xs
  | .tup xs => flatL xs
  | .ifc _ _ => true
  | .top => true
  | _ => false
where flatL : List SV → Bool
  | [] => true
  | x :: xs => x.flat && flatL xs
theorem flatL_get {xs : List SV} (h : SV.flat.flatL xs = true) (i : Nat) (hi : i < xs.length) : (xs[i]).flat = true := by
  induction xs generalizing i with
  | nil => simp at hi
  | cons x xs ih =>
    simp only [SV.flat.flatL, Bool.and_eq_true] at h
    cases i with
    | zero => exact h.1
    | succ i => exact ih h.2 i (by simpa using hi)
theorem SVR.flat {w w' : World} {I I' : Nat → Prop} {ρ ρ' : List (Option Nat)} {H H' : List AObj} {x : SV} {v : Value} (h : SVR w I ρ H x v) (hd : x.flat = true) : SVR w' I' ρ' H' x v := by
  induction h with
  | @c x v h =>
    cases h with
    | sc v h1 => exact .c (.sc v h1)
    | sl => simp [SV.flat] at hd
  | ag hl h ih => exact .ag hl fun i hi hv => ih i hi hv (flatL_get (by simpa [SV.flat] using hd) i hi)
  | tup hl h ih => exact .tup hl fun i hi hv => ih i hi hv (flatL_get (by simpa [SV.flat] using hd) i hi)
  | ifc => exact .ifc
  | top => exact .top
  | ptr => simp [SV.flat] at hd
  | dp => simp [SV.flat] at hd
  | row => simp [SV.flat] at hd
  | fn => simp [SV.flat] at hd

/-- A pure call that reads rows, and tells nothing of memory. -/
theorem callP_lend {f : Nat} {args : List SV} {H : List AObj} {K : SV → List AObj → Prop} {Qp : Value → List AObj → Prop} {o : Out} (h : PC P f (frz.frzL [] H args) o) (hd : SV.data.dataAll (frz.frzL [] H args) = true) (hv : ∀ v, o = .ret v → v.flat = true ∧ K v H) (hp : ∀ p, o = .pan p → Qp p H) : callP P f args H K Qp := by
  refine .inl ⟨h.1, fun w I ρ vs hr hargs => ?_⟩
  have h0 : HRel w (cutI [] I ρ) [] [] := hr.empty fun b hb => by
    rcases hb with hb | ⟨r, _, hb⟩
    · exact .inl hb
    · exact .inr ⟨r, hb⟩
  have ha := frz_R (keep := []) hr (Nat.zero_le _) hargs
  simp only [frz] at ha
  refine (h.2 w _ [] vs h0 (ha.mono_data (fun _ _ => rfl) (fun _ h => h) (by simpa [SV.data] using hd))).mono ?_
  rintro e w' ⟨o', H', I', ρ', ⟨rfl, rfl⟩, hfr, hmv, hh, hout⟩
  have hbel := hfr.below
  have st : Stp w I ρ H w' I ρ H := Stp.same hr ⟨hbel.os, hbel.tape, hbel.output⟩ hbel.block hbel.size (fun _ h => h) fun b hb => .inl hb
  refine ⟨o', H, I, ρ, ?_, st.fr, st.mv, st.h, ?_⟩
  · cases o' with
    | ret v => exact (hv v rfl).2
    | pan p => exact hp p rfl
  · cases o' with
    | ret v => cases e <;> first | exact hout.flat (hv v rfl).1 | exact hout
    | pan p => cases e <;> exact hout
end
section
variable {P : Program}
/-- A pure function, among things that stay. -/
theorem PC.ac {f : Nat} {args : List SV} {H : List AObj} {v : SV} (h : PC P f args (.ret v)) (hd : SV.data.dataAll args = true) (hv : v.data = true) : ACalls P f args H fun o H1 => o = .ret v ∧ H1 = H := by
  intro w I ρ vs hr hargs
  have h0 : HRel w I [] [] := hr.empty fun b hb => .inl hb
  refine (h.2 w I [] vs h0 (hargs.mono_data (fun _ _ => rfl) (fun _ h => h) (by simpa [SV.data] using hd))).mono ?_
  rintro e w' ⟨o', H', I', ρ', ⟨rfl, rfl⟩, hfr, hmv, hh, hout⟩
  have hbel := hfr.below
  have st : Stp w I ρ H w' I' ρ H := Stp.same hr ⟨hbel.os, hbel.tape, hbel.output⟩ hbel.block hbel.size hfr.more fun b hb => by
    rcases hfr.fresh b hb with h | h | ⟨r, h⟩
    · exact .inl h
    · exact .inr ⟨h, hh.live b hb⟩
    · simp at h
  refine ⟨.ret v, H, I', ρ, ⟨rfl, rfl⟩, st.fr, st.mv, st.h, ?_⟩
  cases e <;> first | exact hout.mono_data (fun _ _ => rfl) (fun _ h => h) hv | exact hout
theorem PC.bod {f : Nat} {args : List SV} {o : Out} (h : PC P f args o) : Bod P f := h.1
end
attribute [irreducible] PC
end Go.Proofs.YtbnelpgogjbgjaaGreat.Q
