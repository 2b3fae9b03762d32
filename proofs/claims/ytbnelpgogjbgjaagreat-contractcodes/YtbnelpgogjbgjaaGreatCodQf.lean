/- Each operation does what its short form says: memory. -/
import Derived.Test.YtbnelpgogjbgjaaGreatCodQe
/- Each operation does what its short form says: memory. -/
set_option linter.unusedVariables false
set_option linter.unusedSimpArgs false
namespace Go.Proofs.YtbnelpgogjbgjaaGreat.Q
open Go.RowKit

section
variable {P : Program} {w : World} {I : Nat → Prop} {ρ : List (Option Nat)} {H : List AObj} {a : Act}

theorem getD_toArray (vs : Array Value) (j : Nat) (d : Value) : vs.toList.getD j d = vs.getD j d := by
  simp [List.getD_eq_getElem?_getD]

theorem oneCell_cells {v : Value} (h : v.oneCell' = true) : v.cells = #[v] := by cases v <;> first | rfl | simp [Value.oneCell'] at h

/-- Cells j, j+1, .. of an aggregate. -/
theorem ag_of {cs : List SV} {vs : List Value} (hl : vs.length = cs.length) (h : ∀ i (hi : i < cs.length) (hv : i < vs.length), SVR w I ρ H (cs[i]) (vs[i])) : SVR w I ρ H (.ag cs) (.agg vs.toArray) :=
  .ag (by simpa using hl) fun i hi hv => by simpa using h i hi (by simpa using hv)

/-- A load out of a box. -/
theorem box_load {t : TypeId} {d : TypeDesc} {i : TypeInfo} (hd : P.underlying t = some d) (hi : P.info? t = some i) (hr : HRel w I ρ H) {r off : Nat} {v : Value} {cells : List SV} (hv : SVR w I ρ H (.ptr r off) v) (hb : H[r]? = some (.box cells))
    (hlt : off + i.size ≤ cells.length) (h1 : isAggD d = false → i.size = 1) :
    ∃ u, (Instr.loadAt t v).run P w = .ok u w ∧ SVR w I ρ H (if isAggD d then .ag ((cells.drop off).take i.size) else cells.getD off .top) u := by
  cases hv with
  | ptr ho hlt' h =>
  have hρl : r < ρ.length := by rw [hr.len]; exact hlt'
  obtain ⟨rb, hρ⟩ : ∃ rb, ρ[r]? = some rb := ⟨_, List.getElem?_eq_getElem hρl⟩
  have hobj := hr.obj r _ rb hb hρ
  cases rb with
  | none => exact hobj.elim
  | some b =>
    obtain rfl := h b cells hb hρ
    obtain ⟨vs, e, hheap, hsz, hcell⟩ := hobj
    have hload := run_loadVar' (P := P) (w := w) hd hi ⟨b, off, none⟩ ((vs.toList.drop off).take i.size) (by simp; omega) h1 (fun j u hj => by
      rw [add_off]
      have hj1 : j < i.size := by
        by_cases hh : j < i.size
        · exact hh
        · rw [List.getElem?_eq_none (by simp; omega)] at hj; cases hj
      rw [List.getElem?_take_of_lt hj1, List.getElem?_drop] at hj
      have : off + j < vs.size := by omega
      rw [cells_at hheap _ this]
      simpa [this] using hj)
    refine ⟨_, by simp only [Instr.loadAt, Instr.sureAddr, Sem.run_bind, Sem.run_pure, Result.andThen_ok]; exact hload, ?_⟩
    cases hag : isAggD d with
    | true =>
      simp only [if_true]
      refine ag_of (by simp; omega) fun j hj hv => ?_
      simp only [List.getElem_take, List.getElem_drop, Array.getElem_toList]
      simp only [List.length_take, List.length_drop] at hj
      exact hcell (off + j) (by omega) (by omega)
    | false =>
      have hs1 := h1 hag
      have hx : ((vs.toList.drop off).take i.size).getD 0 undef = vs[off]'(by omega) := by
        rw [hs1, List.getD_eq_getElem?_getD, List.getElem?_take_of_lt (by omega), List.getElem?_drop]
        have : off < vs.size := by omega
        simp [this]
      have hy : cells.getD off .top = cells[off]'(by omega) := by
        have : off < cells.length := by omega
        simp [List.getD_eq_getElem?_getD, this]
      simp only [Bool.false_eq_true, if_false, hx, hy]
      exact hcell off (by omega) (by omega)

/-- A load of data. -/
theorem dp_load {t : TypeId} {d : TypeDesc} {i : TypeInfo} (hd : P.underlying t = some d) (hi : P.info? t = some i) {cs : List Cell} {v : Value} (hv : SVR w I ρ H (.dp cs) v)
    (hlt : i.size ≤ cs.length) (h1 : isAggD d = false → i.size = 1) :
    ∃ u, (Instr.loadAt t v).run P w = .ok u w ∧ SVR w I ρ H (if isAggD d then .ag ((cs.take i.size).map .c) else .c (cs.getD 0 (.sc undef))) u := by
  cases hv with
  | @dp _ ad f hi' h hc =>
  have hload := run_loadVar' (P := P) (w := w) hd hi ad ((List.range i.size).map f) (by simp) h1 (fun j u hj => by
    have hj1 : j < i.size := by
      by_cases hh : j < i.size
      · exact hh
      · rw [List.getElem?_eq_none (by simp; omega)] at hj; cases hj
    rw [h j (by omega)]
    simpa [hj1] using hj)
  refine ⟨_, by simp only [Instr.loadAt, Instr.sureAddr, Sem.run_bind, Sem.run_pure, Result.andThen_ok]; exact hload, ?_⟩
  cases hag : isAggD d with
  | true =>
    simp only [if_true]
    refine ag_of (by simp; omega) fun j hj hv => ?_
    simp only [List.length_map, List.length_take] at hj
    simp only [List.getElem_map, List.getElem_take, List.getElem_range]
    exact .c (hc j (by omega))
  | false =>
    have hs1 := h1 hag
    have hx : ((List.range i.size).map f).getD 0 undef = f 0 := by simp [hs1]
    have hy : cs.getD 0 (.sc undef) = cs[0]'(by omega) := by
      have : 0 < cs.length := by omega
      simp [List.getD_eq_getElem?_getD, this]
    simp only [Bool.false_eq_true, if_false, hx, hy]
    exact .c (hc 0 (by omega))

/-- What is nothing but a box's content changed. -/
theorem Mv.box_put {w' : World} {r : Nat} {cells cells' : List SV} (hr : HRel w I ρ H) {b : Nat} (hb : H[r]? = some (.box cells)) (hρ : ρ[r]? = some (some b))
    (hw : ∀ b', b' < w.heap.size → b ≠ b' → w'.heap[b']? = w.heap[b']?) : Mv w I ρ H w' I ρ (H.set r (.box cells')) := by
  have hI : ∀ b', I b' → w'.heap[b']? = w.heap[b']? := fun b' hb' => hw b' (hr.live b' hb') fun e => hr.apart r b hρ (by rw [e]; exact hb')
  refine ⟨hI, fun _ h => h, by simp, fun r' cs hl h => ?_, fun r' st e m xs rb hl h hρ' => ?_⟩
  · by_cases e : r' = r
    · subst e; exact ⟨⟨_, hb⟩, rfl⟩
    · rw [List.getElem?_set_ne (by omega)] at h; exact ⟨⟨_, h⟩, rfl⟩
  · by_cases er : r' = r
    · subst er; rw [List.getElem?_set_self hl] at h; cases h
    · rw [List.getElem?_set_ne (by omega)] at h
      refine ⟨st, xs, rb, h, hρ', Nat.le_refl _, fun _ v hv => hv.mono hI (fun _ h => h) fun b' eb => hw b' (hr.lt r' b' (by rw [hρ', eb])) fun e => er ?_⟩
      exact hr.inj r' r b (by rw [hρ', eb, e]) hρ

theorem getElem_splice (cs xs : List SV) (off : Nat) (hl : off + xs.length ≤ cs.length) (j : Nat) (hj : j < (splice cs off xs).length) :
    (splice cs off xs)[j] = if h : off ≤ j ∧ j < off + xs.length then xs[j - off]'(by omega) else cs[j]'(by simp [splice] at hj; omega) := by
  simp only [splice] at hj ⊢
  by_cases h1 : j < off
  · rw [List.getElem_append_left (by simp; omega), List.getElem_append_left (by simp; omega)]
    rw [dif_neg (by omega)]
    simp
  · by_cases h2 : j < off + xs.length
    · rw [List.getElem_append_left (by simp; omega), List.getElem_append_right (by simp; omega)]
      rw [dif_pos ⟨by omega, h2⟩]
      congr 1
      simp; omega
    · rw [List.getElem_append_right (by simp; omega)]
      rw [dif_neg (by omega)]
      simp only [List.getElem_drop]
      congr 1
      simp; omega
theorem length_splice (cs xs : List SV) (off : Nat) (hl : off + xs.length ≤ cs.length) : (splice cs off xs).length = cs.length := by
  simp [splice]; omega

/-- A store into a box. -/
theorem box_store {t : TypeId} {i : TypeInfo} (hi : P.info? t = some i) (hr : HRel w I ρ H) {r off : Nat} {v u : Value} {x : SV} {cells xs : List SV} (hv : SVR w I ρ H (.ptr r off) v) (hb : H[r]? = some (.box cells)) (hu : SVR w I ρ H x u) (hx : svc x = some xs)
    (hn : xs.length = i.size) (hlt : off + i.size ≤ cells.length) :
    ∃ w', (Instr.storeAt t v u).run P w = .ok () w' ∧ Stp w I ρ H w' I ρ (H.set r (.box (splice cells off xs))) := by
  cases hv with
  | ptr ho hlt' h =>
  have hρl : r < ρ.length := by rw [hr.len]; exact hlt'
  obtain ⟨rb, hρ⟩ : ∃ rb, ρ[r]? = some rb := ⟨_, List.getElem?_eq_getElem hρl⟩
  have hobj := hr.obj r _ rb hb hρ
  cases rb with
  | none => exact hobj.elim
  | some b =>
    obtain rfl := h b cells hb hρ
    obtain ⟨vs, e, hheap, hsz, hcell⟩ := hobj
    obtain ⟨hz, hcs, hone⟩ := svc_R hu hx
    have hst := run_storeCells_at P b off e u.cells.toList 0 vs w hheap (by simp [hz]; omega) hone
    have hbl : b < w.heap.size := hr.lt r b hρ
    generalize hnew : (vs.toList.take (off + 0) ++ u.cells.toList ++ vs.toList.drop (off + 0 + u.cells.toList.length)).toArray = new at hst
    have hw : ∀ b', b' < w.heap.size → b ≠ b' → (w.setRow b new).heap[b']? = w.heap[b']? := by
      intro b' _ hne
      simp [World.setRow, Array.getElem?_modify, hne]
    have hheap' : (w.setRow b new).heap[b]? = some (.cells new e (0, 0)) := by
      simp [World.setRow, Array.getElem?_modify, hheap]
    have hsize : (w.setRow b new).heap.size = w.heap.size := by simp [World.setRow]
    have hul : u.cells.toList.length = xs.length := by simpa using hz
    have hnl : new.toList.length = cells.length := by
      rw [← hnew]; simp; omega
    have mv : Mv w I ρ H (w.setRow b new) I ρ (H.set r (.box (splice cells off xs))) := Mv.box_put hr hb hρ hw
    refine ⟨w.setRow b new, by
      simp only [Instr.storeAt, Instr.sureAddr, Sem.run_bind, Sem.run_pure, Result.andThen_ok, storeVar, run_sizeOf' hi]
      rw [if_neg (by omega)]
      exact hst, ⟨⟨rfl, rfl, rfl, by omega, fun b' hb' hr' => hw b' hb' fun eb => hr' r (by rw [hρ, eb]), fun _ h => h, fun _ h => .inl h, fun r b h => .inl ⟨r, h⟩⟩, mv, ?_⟩⟩
    refine hr.put hb hρ (fun b' hb' hne => hw b' hb' fun eb => hne (by rw [eb])) hsize mv ?_
    refine ⟨new, e, hheap', by rw [length_splice _ _ _ (by omega)]; simpa using hnl, fun j hj hv => ?_⟩
    rw [getElem_splice _ _ _ (by omega)]
    have hnj : new[j] = (vs.toList.take off ++ u.cells.toList ++ vs.toList.drop (off + u.cells.toList.length))[j]'(by have := hnl; rw [length_splice _ _ _ (by omega)] at hj; simp; omega) := by
      subst hnew; simp
    rw [hnj]
    rw [length_splice _ _ _ (by omega)] at hj
    split
    · rename_i hh
      have : (vs.toList.take off ++ u.cells.toList ++ vs.toList.drop (off + u.cells.toList.length))[j]'(by simp; omega) = u.cells[j - off]'(by omega) := by
        rw [List.getElem_append_left (by simp; omega), List.getElem_append_right (by simp; omega)]
        simp only [List.length_take, Array.length_toList, Array.getElem_toList]
        congr 1
        omega
      rw [this]
      exact (hcs (j - off) (by omega) (by omega)).mono mv
    · rename_i hh
      have : (vs.toList.take off ++ u.cells.toList ++ vs.toList.drop (off + u.cells.toList.length))[j]'(by simp; omega) = vs[j]'(by omega) := by
        by_cases h1 : j < off
        · rw [List.getElem_append_left (by simp; omega), List.getElem_append_left (by simp; omega)]
          simp
        · rw [List.getElem_append_right (by simp; omega)]
          simp only [List.getElem_drop, Array.getElem_toList]
          congr 1
          simp; omega
      rw [this]
      exact (hcell j hj (by omega)).mono mv

/-- A new box. -/
theorem new_box {e : TypeId} {xs : List SV} {vs : Array Value} (hr : HRel w I ρ H) (hl : vs.size = xs.length) (h : ∀ i (hi : i < xs.length) (hv : i < vs.size), SVR w I ρ H (xs[i]) (vs[i])) :
    ∃ w', (newRow e vs).run P w = .ok ⟨w.heap.size, 0, none⟩ w' ∧ Stp w I ρ H w' I (ρ ++ [some w.heap.size]) (H ++ [.box xs]) ∧ SVR w' I (ρ ++ [some w.heap.size]) (H ++ [.box xs]) (.ptr H.length 0) (.pointer (some ⟨w.heap.size, 0, none⟩)) := by
  have hw : ∀ b, b < w.heap.size → (w.heap.push (.cells vs e (0, 0)))[b]? = w.heap[b]? := fun b hb => by rw [Array.getElem?_push, if_neg (by omega)]
  have hnew : (w.heap.push (.cells vs e (0, 0)))[w.heap.size]? = some (.cells vs e (0, 0)) := by simp
  have st : Stp w I ρ H { w with heap := w.heap.push (.cells vs e (0, 0)) } I (ρ ++ [some w.heap.size]) (H ++ [.box xs]) := by
    refine Stp.push hr ⟨rfl, rfl, rfl⟩ hw (by simp) (fun _ h => h) (fun _ h => .inl h) (fun b e => ?_) fun mv => ⟨vs, e, hnew, hl, fun j hj hv => (h j hj hv).mono mv⟩
    obtain rfl := Option.some.inj e
    exact ⟨Nat.le_refl _, by simp, fun hI => by have := hr.live _ hI; omega⟩
  refine ⟨_, by simp [newRow, newObj, Sem.run_bind, Sem.run, Result.andThen], st, .ptr rfl (by simp) fun b cells _ hρ => ?_⟩
  rw [← hr.len, List.getElem?_append_right (Nat.le_refl _)] at hρ
  simp at hρ
  rw [hρ]
end
end Go.Proofs.YtbnelpgogjbgjaaGreat.Q
