/- Slot values: what stays when memory grows; data does not hang on the boxes; objects. -/
import Derived.Test.YtbnelpgogjbgjaaGreatCodQa
/- Slot values: what stays when memory grows; data does not hang on the boxes; objects. -/
set_option linter.unusedVariables false
namespace Go.Proofs.YtbnelpgogjbgjaaGreat.Q
open Go.RowKit

/-- Data alone: nothing in it leads to a box or a row. -/
def SV.data : SV → Bool
  | .c _ => true
  | .ag xs => dataAll xs
  | .ptr _ _ => false
  | .dp _ => true
  | .row _ _ => false
  | .fn _ a b => dataAll a && dataAll b
  | .tup xs => dataAll xs
  | .ifc _ _ => true
  | .top => true
where dataAll : List SV → Bool
  | [] => true
  | x :: xs => x.data && dataAll xs

theorem dataAll_get {xs : List SV} (h : SV.data.dataAll xs = true) (i : Nat) (hi : i < xs.length) : (xs[i]).data = true := by
  induction xs generalizing i with
  | nil => simp at hi
  | cons x xs ih =>
    simp only [SV.data.dataAll, Bool.and_eq_true] at h
    cases i with
    | zero => exact h.1
    | succ i => exact ih h.2 i (by simpa using hi)

/-- Data stays data where its blocks stay, whatever boxes there are. -/
theorem SVR.mono_data {w w' : World} {I I' : Nat → Prop} {ρ ρ' : List (Option Nat)} {H H' : List AObj} (hw : ∀ b, I b → w'.heap[b]? = w.heap[b]?) (hI : ∀ b, I b → I' b) {x : SV} {v : Value}
    (h : SVR w I ρ H x v) (hd : x.data = true) : SVR w' I' ρ' H' x v := by
  induction h with
  | c h => exact .c (h.mono hw hI)
  | ag hl h ih => exact .ag hl fun i hi hv => ih i hi hv (dataAll_get (by simpa [SV.data] using hd) i hi)
  | ptr _ _ h => simp [SV.data] at hd
  | dp f hi h hc => exact .dp f (hI _ hi) (fun j hj => by rw [cell?_block (w := w) (by rw [block_add]; exact hw _ hi)]; exact h j hj) fun j hj => (hc j hj).mono hw hI
  | row _ _ h => simp [SV.data] at hd
  | fn h1 h2 hf hc ihf ihc =>
    simp only [SV.data, Bool.and_eq_true] at hd
    exact .fn h1 h2 (fun i hi hv => ihf i hi hv (dataAll_get hd.1 i hi)) fun i hi hv => ihc i hi hv (dataAll_get hd.2 i hi)
  | tup hl h ih => exact .tup hl fun i hi hv => ih i hi hv (dataAll_get (by simpa [SV.data] using hd) i hi)
  | ifc => exact .ifc
  | top => exact .top

/-- What a change of the abstract heap must keep for all slot values to keep their meaning. -/
structure Mv (w : World) (I : Nat → Prop) (ρ : List (Option Nat)) (H : List AObj) (w' : World) (I' : Nat → Prop) (ρ' : List (Option Nat)) (H' : List AObj) : Prop where
  heap : ∀ b, I b → w'.heap[b]? = w.heap[b]?
  more : ∀ b, I b → I' b
  len : H.length ≤ H'.length
  box : ∀ (r : Nat) cells', r < H.length → H'[r]? = some (.box cells') → (∃ cells, H[r]? = some (.box cells)) ∧ ρ'[r]? = ρ[r]?
  row : ∀ (r : Nat) st' e' m' xs' rb', r < H.length → H'[r]? = some (.row st' e' m' xs') → ρ'[r]? = some rb' →
    ∃ st xs rb, H[r]? = some (.row st e' m' xs) ∧ ρ[r]? = some rb ∧ xs.length ≤ xs'.length ∧ (xs.length = xs'.length → ∀ v, RowV w I rb st e' m' xs v → RowV w' I' rb' st' e' m' xs' v)

theorem SVR.mono {w w' : World} {I I' : Nat → Prop} {ρ ρ' : List (Option Nat)} {H H' : List AObj} (m : Mv w I ρ H w' I' ρ' H') {x : SV} {v : Value}
    (h : SVR w I ρ H x v) : SVR w' I' ρ' H' x v := by
  induction h with
  | c h => exact .c (h.mono m.heap m.more)
  | ag hl h ih => exact .ag hl ih
  | ptr h1 hr h =>
    refine .ptr h1 (Nat.lt_of_lt_of_le hr m.len) fun b cells hb hρ => ?_
    obtain ⟨⟨c0, h0⟩, e⟩ := m.box _ _ hr hb
    exact h b c0 h0 (by rw [← e]; exact hρ)
  | dp f hi h hc => exact .dp f (m.more _ hi) (fun j hj => by rw [cell?_block (w := w) (by rw [block_add]; exact m.heap _ hi)]; exact h j hj) fun j hj => (hc j hj).mono m.heap m.more
  | row h1 hr h =>
    refine .row h1 (Nat.lt_of_lt_of_le hr m.len) fun st' e' m' xs' rb' hH hρ => ?_
    obtain ⟨st, xs, rb, h0, hρ0, hle, hv⟩ := m.row _ _ _ _ _ _ hr hH hρ
    obtain ⟨h3, h2⟩ := h st e' m' xs rb h0 hρ0
    exact ⟨Nat.le_trans h3 hle, fun hn => hv (by omega) _ (h2 (by omega))⟩
  | fn h1 h2 hf hc ihf ihc => exact .fn h1 h2 ihf ihc
  | tup hl h ih => exact .tup hl ih
  | ifc => exact .ifc
  | top => exact .top

theorem FullV.mono {w w' : World} {I I' : Nat → Prop} (hw : ∀ b, I b → w'.heap[b]? = w.heap[b]?) (hI : ∀ b, I b → I' b) {m : Nat} {xs : List (List Cell)} {v : Value} (h : FullV w I m xs v) : FullV w' I' m xs v := by
  obtain ⟨A, e, c⟩ := h
  exact ⟨A, e, c.mono hw hI⟩

/-- A row whose block is as it was. -/
theorem RowV.mono {w w' : World} {I I' : Nat → Prop} (hw : ∀ b, I b → w'.heap[b]? = w.heap[b]?) (hI : ∀ b, I b → I' b) {rb : Option Nat} {st : Bool} {e : TypeId} {m : Nat} {xs : List (List Cell)} {v : Value}
    (hb : ∀ b, rb = some b → w'.heap[b]? = w.heap[b]?) (h : RowV w I rb st e m xs v) : RowV w' I' rb st e m xs v := by
  unfold RowV at h ⊢
  cases rb with
  | some b =>
    obtain ⟨cap, vs, h1, h2, h3, h4, h5⟩ := h
    exact ⟨cap, vs, h1, h2, h3, by rw [hb b rfl]; exact h4, h5⟩
  | none =>
    dsimp only at h ⊢
    split
    · rename_i hs; rw [if_pos hs] at h; exact h
    · rename_i hs; rw [if_neg hs] at h; exact h.mono hw hI

theorem ObjR.mono {w w' : World} {I I' : Nat → Prop} {ρ ρ' : List (Option Nat)} {H H' : List AObj} (m : Mv w I ρ H w' I' ρ' H') {o : AObj} {rb : Option Nat} (hb : ∀ b, rb = some b → w'.heap[b]? = w.heap[b]?)
    (h : ObjR w I ρ H o rb) : ObjR w' I' ρ' H' o rb := by
  cases o with
  | box cells =>
    cases rb with
    | none => exact h
    | some b =>
      obtain ⟨vs, e, h1, h2, h3⟩ := h
      exact ⟨vs, e, by rw [hb b rfl]; exact h1, h2, fun j hj hv => (h3 j hj hv).mono m⟩
  | row st e k xs =>
    cases rb with
    | none => trivial
    | some b =>
      obtain ⟨vs, f, h1, h2, h3, h4, h5⟩ := h
      exact ⟨vs, f, by rw [hb b rfl]; exact h1, h2, h3, h4, fun i hi j hj => (h5 i hi j hj).mono m.heap m.more⟩
  | dead => cases rb <;> trivial

/-- Nothing but memory beyond has changed. -/
theorem Mv.same {w w' : World} {I I' : Nat → Prop} {ρ : List (Option Nat)} {H : List AObj} (hr : HRel w I ρ H) (hw : ∀ b, b < w.heap.size → w'.heap[b]? = w.heap[b]?) (hI : ∀ b, I b → I' b) : Mv w I ρ H w' I' ρ H where
  heap := fun b hb => hw b (hr.live b hb)
  more := hI
  len := Nat.le_refl _
  box := fun r cells hl h => ⟨⟨cells, h⟩, rfl⟩
  row := fun r st e m xs rb hl h hρ => ⟨st, xs, rb, h, hρ, Nat.le_refl _, fun _ v hv => hv.mono (fun b hb => hw b (hr.live b hb)) hI (fun b eb => hw b (hr.lt r b (by rw [hρ, eb])))⟩

theorem HRel.same {w w' : World} {I I' : Nat → Prop} {ρ : List (Option Nat)} {H : List AObj} (hr : HRel w I ρ H) (hw : ∀ b, b < w.heap.size → w'.heap[b]? = w.heap[b]?) (hs : w.heap.size ≤ w'.heap.size) (hI : ∀ b, I b → I' b)
    (hI' : ∀ b, I' b → I b ∨ (w.heap.size ≤ b ∧ b < w'.heap.size)) : HRel w' I' ρ H where
  len := hr.len
  live := fun b hb => by
    rcases hI' b hb with h | h
    · exact Nat.lt_of_lt_of_le (hr.live b h) hs
    · exact h.2
  lt := fun r b h => Nat.lt_of_lt_of_le (hr.lt r b h) hs
  apart := fun r b h hb => by
    rcases hI' b hb with h' | h'
    · exact hr.apart r b h h'
    · have := hr.lt r b h; omega
  inj := hr.inj
  obj := fun r o rb h1 h2 => (hr.obj r o rb h1 h2).mono (Mv.same hr hw hI) fun b e => hw b (hr.lt r b (by rw [h2, e]))

/-- A new object at the end, in a new block of its own (or in none). -/
theorem HRel.push {w w' : World} {I I' : Nat → Prop} {ρ : List (Option Nat)} {H : List AObj} {o : AObj} {rb : Option Nat} (hr : HRel w I ρ H) (hw : ∀ b, b < w.heap.size → w'.heap[b]? = w.heap[b]?) (hs : w.heap.size ≤ w'.heap.size) (hI : ∀ b, I b → I' b)
    (hI' : ∀ b, I' b → I b ∨ (w.heap.size ≤ b ∧ b < w'.heap.size)) (hb : ∀ b, rb = some b → w.heap.size ≤ b ∧ b < w'.heap.size ∧ ¬ I' b)
    (ho : Mv w I ρ H w' I' (ρ ++ [rb]) (H ++ [o]) → ObjR w' I' (ρ ++ [rb]) (H ++ [o]) o rb) : Mv w I ρ H w' I' (ρ ++ [rb]) (H ++ [o]) ∧ HRel w' I' (ρ ++ [rb]) (H ++ [o]) := by
  have hl := hr.len
  have key : ∀ (r : Nat) x, (ρ ++ [rb])[r]? = some x → (r < ρ.length ∧ ρ[r]? = some x) ∨ (r = ρ.length ∧ x = rb) := by
    intro r x h
    rw [List.getElem?_append] at h
    split at h
    · exact .inl ⟨‹_›, h⟩
    · rename_i hn
      have : r - ρ.length = 0 := by
        by_cases h0 : r - ρ.length = 0
        · exact h0
        · rw [List.getElem?_eq_none (by simp; omega)] at h; cases h
      rw [this] at h
      simp at h
      exact .inr ⟨by omega, h.symm⟩
  have keyH : ∀ (r : Nat) x, (H ++ [o])[r]? = some x → (r < H.length ∧ H[r]? = some x) ∨ (r = H.length ∧ x = o) := by
    intro r x h
    rw [List.getElem?_append] at h
    split at h
    · exact .inl ⟨‹_›, h⟩
    · rename_i hn
      have : r - H.length = 0 := by
        by_cases h0 : r - H.length = 0
        · exact h0
        · rw [List.getElem?_eq_none (by simp; omega)] at h; cases h
      rw [this] at h
      simp at h
      exact .inr ⟨by omega, h.symm⟩
  have mv : Mv w I ρ H w' I' (ρ ++ [rb]) (H ++ [o]) := by
    refine ⟨fun b hb => hw b (hr.live b hb), hI, by simp, fun r cells hl h => ?_, fun r st e m xs rb' hl h hρ => ?_⟩
    · rw [List.getElem?_append_left hl] at h
      exact ⟨⟨cells, h⟩, List.getElem?_append_left (by omega)⟩
    · rw [List.getElem?_append_left hl] at h
      rw [List.getElem?_append_left (by omega)] at hρ
      exact ⟨st, xs, rb', h, hρ, Nat.le_refl _, fun _ v hv => hv.mono (fun b hb => hw b (hr.live b hb)) hI (fun b eb => hw b (hr.lt r b (by rw [hρ, eb])))⟩
  refine ⟨mv, by simp [hl], fun b hb => ?_, fun r b h => ?_, fun r b h hb' => ?_, fun r r' b h h' => ?_, fun r x y h1 h2 => ?_⟩
  · rcases hI' b hb with h | h
    · exact Nat.lt_of_lt_of_le (hr.live b h) hs
    · exact h.2
  · rcases key r _ h with ⟨_, h⟩ | ⟨_, h⟩
    · exact Nat.lt_of_lt_of_le (hr.lt r b h) hs
    · exact (hb b h.symm).2.1
  · rcases key r _ h with ⟨_, h⟩ | ⟨_, h⟩
    · rcases hI' b hb' with h' | h'
      · exact hr.apart r b h h'
      · have := hr.lt r b h; omega
    · exact (hb b h.symm).2.2 hb'
  · rcases key r _ h with ⟨_, h⟩ | ⟨e, h⟩ <;> rcases key r' _ h' with ⟨_, h'⟩ | ⟨e', h'⟩
    · exact hr.inj r r' b h h'
    · have := hr.lt r b h; have := (hb b h'.symm).1; omega
    · have := hr.lt r' b h'; have := (hb b h.symm).1; omega
    · omega
  · rcases keyH r _ h1 with ⟨hlt, h1'⟩ | ⟨e, rfl⟩
    · rw [List.getElem?_append_left (by omega)] at h2
      exact (hr.obj r x y h1' h2).mono mv fun b e => hw b (hr.lt r b (by rw [h2, e]))
    · subst e
      rcases key _ _ h2 with ⟨hlt, _⟩ | ⟨_, rfl⟩
      · omega
      · exact ho mv

/-- An object is changed in its place, its block at most. -/
theorem HRel.put {w w' : World} {I : Nat → Prop} {ρ : List (Option Nat)} {H : List AObj} {r : Nat} {o o' : AObj} {rb : Option Nat} (hr : HRel w I ρ H) (ho : H[r]? = some o) (hρ : ρ[r]? = some rb)
    (hw : ∀ b, b < w.heap.size → rb ≠ some b → w'.heap[b]? = w.heap[b]?) (hs : w'.heap.size = w.heap.size)
    (mv : Mv w I ρ H w' I ρ (H.set r o')) (hn : ObjR w' I ρ (H.set r o') o' rb) : HRel w' I ρ (H.set r o') := by
  have hl := hr.len
  have hlt : r < H.length := (List.getElem?_eq_some_iff.1 ho).1
  refine ⟨by simp [hl], fun b hb => by rw [hs]; exact hr.live b hb, fun r b h => by rw [hs]; exact hr.lt r b h, hr.apart, hr.inj, fun r' x y h1 h2 => ?_⟩
  by_cases e : r' = r
  · subst e
    rw [List.getElem?_set_self hlt] at h1
    obtain rfl := Option.some.inj h1
    rw [hρ] at h2
    obtain rfl := Option.some.inj h2
    exact hn
  · rw [List.getElem?_set_ne (by omega)] at h1
    refine (hr.obj r' x y h1 h2).mono mv fun b eb => hw b (hr.lt r' b (by rw [h2, eb])) fun hb => e ?_
    exact hr.inj r' r b (by rw [h2, eb]) (by rw [hρ, hb])
end Go.Proofs.YtbnelpgogjbgjaaGreat.Q
