/- Each operation does what its short form says: struct and slice literals, cuts, appends (2). -/
import Derived.Test.YtbnelpgogjbgjaaGreatCodQg
/- Each operation does what its short form says: struct and slice literals, cuts, appends (2). -/
set_option linter.unusedVariables false
set_option linter.unusedSimpArgs false
namespace Go.Proofs.YtbnelpgogjbgjaaGreat.Q
open Go.RowKit

section
variable {P : Program} {w : World} {I : Nat → Prop} {ρ : List (Option Nat)} {H : List AObj} {a : Act}

theorem zeros_R {z : List Value} (hz : z.all (·.oneCell') = true) : Cells w I ρ H (z.map scv) z :=
  ⟨by simp, fun i hi hv => by
    simp only [List.getElem_map]
    exact SVR.sc (List.all_eq_true.1 hz _ (List.getElem_mem _))⟩

theorem snd_build {ev : Operand → SV} {q : Operand → Value} (hev : ∀ x, SVR w I ρ H (ev x) (q x)) {t : TypeId} {parts : Array (Nat × Operand)} {fs : Array Field} {i : TypeInfo} {z : Value} (hu : P.underlying t = some (.struct fs)) (hi : P.info? t = some i) (hz : i.zero = some z)
    (hfs : fs.all (fun f => (P.info? f.type).isSome) = true) (h1 : z.cells.toList.all (·.oneCell') = true) {ps : List (Nat × Nat × Operand)} (hps : compParts P fs parts.toList = some ps) {cs : List SV} (hb : buildV ev (z.cells.toList.map scv) ps = some cs) :
    ∃ u, (Instr.build t (parts.map fun (i, x) => (i, q x))).run P w = .ok u w ∧ SVR w I ρ H (.ag cs) u := by
  obtain ⟨places, hpl⟩ : ∃ places, fs.toList.mapM (fun f => (P.info? f.type).map fun i => (f.offset, i.size)) = some places := by
    have h2 : ∀ f ∈ fs.toList, (P.info? f.type).isSome = true := by
      intro f hf
      rw [← Array.all_toList] at hfs
      exact List.all_eq_true.1 hfs f hf
    clear hfs hps hu
    generalize fs.toList = l at h2 ⊢
    induction l with
    | nil => exact ⟨[], rfl⟩
    | cons f l ih =>
      obtain ⟨pl, hp⟩ := ih fun g hg => h2 g (by simp [hg])
      obtain ⟨j, hj⟩ := Option.isSome_iff_exists.1 (h2 f (by simp))
      exact ⟨(f.offset, j.size) :: pl, by rw [List.mapM_cons, hp, hj]; rfl⟩
  obtain ⟨cells, hf, hc⟩ := fill_R hev (places.toArray[·]?) parts.toList ps _ cs z.cells (compParts_R hpl _ _ hps) hb (zeros_R h1)
  refine ⟨.agg cells, run_build w t _ cells ?_, ?_⟩
  · unfold Program.built
    simp only [hi, hu, hz, hpl, Array.toList_map]
    exact hf
  · have := ag_of (w := w) (I := I) (ρ := ρ) (H := H) hc.1 hc.2
    simpa using this

theorem dcs_map {xs : List SV} {cs : List Cell} (h : dcs xs = some cs) : xs = cs.map .c := by
  induction xs generalizing cs with
  | nil => simp only [dcs, Option.some.injEq] at h; subst h; rfl
  | cons x xs ih =>
    cases x with
    | c y =>
      simp only [dcs, Option.map_eq_some_iff] at h
      obtain ⟨r, hr, rfl⟩ := h
      rw [ih hr]; rfl
    | _ => simp [dcs] at h

theorem datac_svc {x : SV} {cs : List Cell} (h : datac x = some cs) : svc x = some (cs.map .c) := by
  cases x with
  | c y => simp only [datac, Option.some.injEq] at h; subst h; rfl
  | ag xs =>
    simp only [datac] at h
    have := dcs_map h
    subst this
    simp only [svc]
    rw [if_pos]
    simp [List.all_eq_true, isOne]
  | _ => simp [datac] at h

theorem slitV_len {ev : Operand → SV} {m : Nat} {xs : List Operand} {rows : List (List Cell)} (h : slitV ev m xs = some rows) : rows.length = xs.length ∧ ∀ y ∈ rows, y.length = m := by
  induction xs generalizing rows with
  | nil => simp only [slitV, Option.some.injEq] at h; subst h; simp
  | cons x xs ih =>
    simp only [slitV] at h
    split at h
    · rename_i cs r h1 h2
      split at h
      · obtain rfl := Option.some.inj h
        obtain ⟨h3, h4⟩ := ih h2
        refine ⟨by simp [h3], fun y hy => ?_⟩
        rcases List.mem_cons.1 hy with rfl | hy
        · assumption
        · exact h4 y hy
      · cases h
    · cases h

/-- The rows of a literal, laid one behind the other. -/
theorem slit_build {ev : Operand → SV} {m : Nat} : ∀ (xs : List Operand) (k : Nat) (rows : List (List Cell)) (cs : List SV), slitV ev m xs = some rows → (k + xs.length) * m ≤ cs.length →
    buildV ev cs ((xs.zipIdx k).map fun (x, i) => (i * m, m, x)) = some (cs.take (k * m) ++ (rows.flatten.map .c) ++ cs.drop ((k + xs.length) * m)) := by
  intro xs
  induction xs with
  | nil =>
    intro k rows cs h hl
    simp only [slitV, Option.some.injEq] at h
    subst h
    simp [buildV]
  | cons x xs ih =>
    intro k rows cs h hl
    simp only [slitV] at h
    split at h
    · rename_i c r h1 h2
      split at h
      · rename_i hm
        obtain rfl := Option.some.inj h
        have hlen := (slitV_len h2).1
        simp only [List.length_cons] at hl
        have e1 : (k + (xs.length + 1)) * m = k * m + m + xs.length * m := by rw [Nat.add_mul, Nat.add_mul]; omega
        simp only [List.zipIdx_cons, List.map_cons, buildV, datac_svc h1]
        rw [if_pos ⟨by simp [hm], by omega⟩]
        rw [ih (k + 1) r _ h2 (by rw [length_splice _ _ _ (by simp [hm]; omega)]; rw [show (k + 1 + xs.length) * m = k * m + m + xs.length * m from by rw [Nat.add_mul, Nat.add_mul]; omega]; omega)]
        congr 1
        have e2 : (k + 1) * m = k * m + m := by rw [Nat.add_mul]; omega
        have e3 : (k + 1 + xs.length) * m = k * m + m + xs.length * m := by rw [Nat.add_mul, Nat.add_mul]; omega
        simp only [splice, List.length_map, hm, e2, e3]
        have t1 : (cs.take (k * m) ++ c.map SV.c ++ cs.drop (k * m + m)).take (k * m + m) = cs.take (k * m) ++ c.map SV.c := by
          rw [List.take_append_of_le_length (by simp [hm]; omega), List.take_of_length_le (by simp [hm]; omega)]
        have t2 : (cs.take (k * m) ++ c.map SV.c ++ cs.drop (k * m + m)).drop (k * m + m + xs.length * m) = cs.drop (k * m + m + xs.length * m) := by
          rw [List.drop_append]
          have z1 : (cs.take (k * m) ++ c.map SV.c).length = k * m + m := by simp [hm]; omega
          rw [List.drop_of_length_le (by omega), z1, List.nil_append, List.drop_drop]
          congr 1
          omega
        rw [t1, t2]
        simp only [List.flatten_cons, List.map_append, List.append_assoc, List.length_cons]
        congr 4
        omega
      · cases h
    · cases h
end
end Go.Proofs.YtbnelpgogjbgjaaGreat.Q
