/- Each operation does what its short form says: struct and slice literals, cuts, appends. -/
import Derived.Test.YtbnelpgogjbgjaaGreatCodQf
import Derived.Great.BuildSlice
/- Each operation does what its short form says: struct and slice literals, cuts, appends. -/
set_option linter.unusedVariables false
set_option linter.unusedSimpArgs false
namespace Go.Proofs.YtbnelpgogjbgjaaGreat.Q
open Go.RowKit

section
variable {P : Program} {w : World} {I : Nat → Prop} {ρ : List (Option Nat)} {H : List AObj} {a : Act}

/-- Cells told one by one. -/
def Cells (w : World) (I : Nat → Prop) (ρ : List (Option Nat)) (H : List AObj) (cs : List SV) (vs : List Value) : Prop :=
  vs.length = cs.length ∧ ∀ i (hi : i < cs.length) (hv : i < vs.length), SVR w I ρ H (cs[i]) (vs[i])

/-- A part laid into an array of cells. -/
def laid (vs : List Value) (off : Nat) (us : List Value) : List Value := vs.take off ++ us ++ vs.drop (off + us.length)

theorem foldl_laid (us : List Value) : ∀ (k off : Nat) (cells : Array Value), off + k + us.length ≤ cells.size →
    ((us.zipIdx k).foldl (fun cs (c, j) => cs.setIfInBounds (off + j) c) cells).toList = cells.toList.take (off + k) ++ us ++ cells.toList.drop (off + k + us.length) := by
  induction us with
  | nil => intro k off cells h; simp
  | cons u us ih =>
    intro k off cells h
    simp only [List.length_cons] at h
    simp only [List.zipIdx_cons, List.foldl_cons]
    rw [ih (k + 1) off _ (by simp; omega)]
    have hlt : off + k < cells.size := by omega
    simp only [Array.toList_setIfInBounds, List.length_cons]
    rw [List.drop_set_of_lt (by omega)]
    rw [show off + (k + 1) = off + k + 1 from by omega, List.take_add_one]
    simp only [List.take_set, List.getElem?_set_self (show off + k < cells.toList.length from by simpa using hlt), Option.toList_some]
    rw [List.set_eq_of_length_le (by simp; omega)]
    simp only [List.append_assoc, List.singleton_append]
    rw [show off + k + 1 + us.length = off + k + (us.length + 1) from by omega]

theorem cells_splice {cs xs : List SV} {vs us : List Value} {off : Nat} (h : Cells w I ρ H cs vs) (hu : Cells w I ρ H xs us) (hl : off + xs.length ≤ cs.length) : Cells w I ρ H (splice cs off xs) (laid vs off us) := by
  have h1 := h.1
  have h2 := hu.1
  refine ⟨by rw [length_splice _ _ _ hl]; simp [laid]; omega, fun j hj hv => ?_⟩
  rw [getElem_splice _ _ _ hl]
  rw [length_splice _ _ _ hl] at hj
  split
  · rename_i hh
    have : (laid vs off us)[j] = us[j - off]'(by omega) := by
      simp only [laid]
      rw [List.getElem_append_left (by simp; omega), List.getElem_append_right (by simp; omega)]
      congr 1
      simp; omega
    rw [this]
    exact hu.2 _ _ _
  · rename_i hh
    have : (laid vs off us)[j] = vs[j]'(by omega) := by
      simp only [laid]
      by_cases h1 : j < off
      · rw [List.getElem_append_left (by simp; omega), List.getElem_append_left (by simp; omega)]
        simp
      · rw [List.getElem_append_right (by simp; omega)]
        simp only [List.getElem_drop]
        congr 1
        simp; omega
    rw [this]
    exact h.2 _ _ _

theorem svc_cells {x : SV} {v : Value} {cs : List SV} (h : SVR w I ρ H x v) (hc : svc x = some cs) : Cells w I ρ H cs v.cells.toList := by
  obtain ⟨h1, h2, _⟩ := svc_R h hc
  exact ⟨by simpa using h1, fun i hi hv => by simpa using h2 i hi (by simpa using hv)⟩

/-- Instr.fill, by parts. -/
theorem fill_R {ev : Operand → SV} {q : Operand → Value} (hev : ∀ x, SVR w I ρ H (ev x) (q x)) (place : Nat → Option (Nat × Nat)) :
    ∀ (parts : List (Nat × Operand)) (ps : List (Nat × Nat × Operand)) (cs cs' : List SV) (cells : Array Value),
      ps.map (fun p => (some (p.1, p.2.1), p.2.2)) = parts.map (fun p => (place p.1, p.2)) → buildV ev cs ps = some cs' → Cells w I ρ H cs cells.toList →
      ∃ cells', Instr.fill place cells (parts.map fun (i, x) => (i, q x)) = some cells' ∧ Cells w I ρ H cs' cells'.toList := by
  intro parts
  induction parts with
  | nil =>
    intro ps cs cs' cells hp hb hc
    obtain rfl : ps = [] := by cases ps <;> simp_all
    simp only [buildV, Option.some.injEq] at hb
    subst hb
    exact ⟨cells, rfl, hc⟩
  | cons p parts ih =>
    intro ps cs cs' cells hp hb hc
    match ps, hp, hb with
    | (off, n, x) :: ps, hp, hb =>
      obtain ⟨i, y⟩ := p
      simp only [List.map_cons, List.cons.injEq, Prod.mk.injEq] at hp
      obtain ⟨⟨hpl, rfl⟩, hp'⟩ := hp
      simp only [buildV] at hb
      split at hb
      · rename_i xs hx
        split at hb
        · rename_i hn
          obtain ⟨hn1, hn2⟩ := hn
          have hxs := svc_cells (hev x) hx
          have hsz : (q x).cells.size = n := by have := hxs.1; simp at this; omega
          have hcs := hc.1
          simp only [Array.length_toList] at hcs
          obtain ⟨cells', h1, h2⟩ := ih ps _ cs' ((q x).cells.zipIdx.foldl (fun cs (c, j) => cs.setIfInBounds (off + j) c) cells) hp' hb (by
            have hfold := foldl_laid (q x).cells.toList 0 off cells (by simp; omega)
            have hz : ((q x).cells.zipIdx.foldl (fun cs (c, j) => cs.setIfInBounds (off + j) c) cells).toList = laid cells.toList off (q x).cells.toList := by
              rw [← Array.foldl_toList, Array.toList_zipIdx]
              simpa [laid] using hfold
            rw [hz]
            exact cells_splice hc hxs (by omega))
          refine ⟨cells', ?_, h2⟩
          simp only [List.map_cons, Instr.fill, ← hpl]
          rw [if_neg (by simp [hsz]; omega)]
          exact h1
        · cases hb
      · cases hb

theorem compParts_R {fs : Array Field} {places : List (Nat × Nat)} (hpl : fs.toList.mapM (fun f => (P.info? f.type).map fun i => (f.offset, i.size)) = some places) :
    ∀ (parts : List (Nat × Operand)) (ps : List (Nat × Nat × Operand)), compParts P fs parts = some ps →
      ps.map (fun p => (some (p.1, p.2.1), p.2.2)) = parts.map (fun p => (places.toArray[p.1]?, p.2)) := by
  intro parts
  induction parts with
  | nil => intro ps h; simp only [compParts, Option.some.injEq] at h; subst h; rfl
  | cons p parts ih =>
    intro ps h
    obtain ⟨j, x⟩ := p
    simp only [compParts] at h
    split at h
    · rename_i f hf
      split at h
      · rename_i i r hi hr
        obtain rfl := Option.some.inj h
        have hget : places[j]? = some (f.offset, i.size) := by
          have hl := mapM_some_length hpl
          have hf' : fs.toList[j]? = some f := by simpa using hf
          have hjl : j < fs.toList.length := by
            by_cases hh : j < fs.toList.length
            · exact hh
            · rw [List.getElem?_eq_none (by omega)] at hf'; cases hf'
          have hx := mapM_some_get hpl j f hf'
          have hjl' : j < places.length := by omega
          rw [List.getElem?_eq_getElem hjl'] at hx ⊢
          simp only [hi, Option.map_some] at hx
          simpa using hx.symm
        simp only [List.map_cons, ih r hr, List.cons.injEq, Prod.mk.injEq, and_true]
        simpa using hget.symm
      · cases h
    · cases h
end
end Go.Proofs.YtbnelpgogjbgjaaGreat.Q
