/- Each operation does what its short form says. -/
import Derived.Test.YtbnelpgogjbgjaaGreatCodQc
import Derived.Maps.AppendAt
import Derived.ArgAppend
import Derived.Lib.AppendStr
/- Each operation does what its short form says. -/
set_option linter.unusedVariables false
namespace Go.Proofs.YtbnelpgogjbgjaaGreat.Q
open Go.RowKit

/-- A step: what is known before and behind. -/
structure Stp (w : World) (I : Nat → Prop) (ρ : List (Option Nat)) (H : List AObj) (w' : World) (I' : Nat → Prop) (ρ' : List (Option Nat)) (H' : List AObj) : Prop where
  fr : Fr w I ρ w' I' ρ'
  mv : Mv w I ρ H w' I' ρ' H'
  h : HRel w' I' ρ' H'

theorem Mv.refl (w : World) (I : Nat → Prop) (ρ : List (Option Nat)) (H : List AObj) : Mv w I ρ H w I ρ H :=
  ⟨fun _ _ => rfl, fun _ h => h, Nat.le_refl _, fun r cells _ h => ⟨⟨cells, h⟩, rfl⟩, fun r st e m xs rb _ h hρ => ⟨st, xs, rb, h, hρ, Nat.le_refl _, fun _ _ hv => hv⟩⟩
theorem Mv.trans {w w1 w2 : World} {I I1 I2 : Nat → Prop} {ρ ρ1 ρ2 : List (Option Nat)} {H H1 H2 : List AObj} (h : Mv w I ρ H w1 I1 ρ1 H1) (k : Mv w1 I1 ρ1 H1 w2 I2 ρ2 H2) : Mv w I ρ H w2 I2 ρ2 H2 where
  heap := fun b hb => (k.heap b (h.more b hb)).trans (h.heap b hb)
  more := fun b hb => k.more b (h.more b hb)
  len := Nat.le_trans h.len k.len
  box := fun r cells hl hb => by
    obtain ⟨⟨c1, h1⟩, e1⟩ := k.box r cells (Nat.lt_of_lt_of_le hl h.len) hb
    obtain ⟨h2, e2⟩ := h.box r c1 hl h1
    exact ⟨h2, e1.trans e2⟩
  row := fun r st e m xs rb hl hb hρ => by
    obtain ⟨st1, xs1, rb1, h1, hρ1, l1, q1⟩ := k.row r st e m xs rb (Nat.lt_of_lt_of_le hl h.len) hb hρ
    obtain ⟨st2, xs2, rb2, h2, hρ2, l2, q2⟩ := h.row r st1 e m xs1 rb1 hl h1 hρ1
    exact ⟨st2, xs2, rb2, h2, hρ2, Nat.le_trans l2 l1, fun el v hv => q1 (by omega) v (q2 (by omega) v hv)⟩

theorem Stp.refl {w : World} {I : Nat → Prop} {ρ : List (Option Nat)} {H : List AObj} (h : HRel w I ρ H) : Stp w I ρ H w I ρ H := ⟨Fr.refl .., Mv.refl .., h⟩
theorem Stp.trans {w w1 w2 : World} {I I1 I2 : Nat → Prop} {ρ ρ1 ρ2 : List (Option Nat)} {H H1 H2 : List AObj} (h : Stp w I ρ H w1 I1 ρ1 H1) (k : Stp w1 I1 ρ1 H1 w2 I2 ρ2 H2) : Stp w I ρ H w2 I2 ρ2 H2 := ⟨h.fr.trans k.fr, h.mv.trans k.mv, k.h⟩

/-- A world with memory beyond, the boxes as they were; some of the new memory is data. -/
theorem Stp.same {w w' : World} {I I' : Nat → Prop} {ρ : List (Option Nat)} {H : List AObj} (hr : HRel w I ρ H) (ho : w'.os = w.os ∧ w'.tape = w.tape ∧ w'.output = w.output) (hw : ∀ b, b < w.heap.size → w'.heap[b]? = w.heap[b]?) (hs : w.heap.size ≤ w'.heap.size)
    (hI : ∀ b, I b → I' b) (hI' : ∀ b, I' b → I b ∨ (w.heap.size ≤ b ∧ b < w'.heap.size)) : Stp w I ρ H w' I' ρ H :=
  ⟨⟨ho.1, ho.2.1, ho.2.2, hs, fun b hb _ => hw b hb, hI, fun b hb => (hI' b hb).imp id fun h => .inl h.1, fun r b h => .inl ⟨r, h⟩⟩, Mv.same hr hw hI, hr.same hw hs hI hI'⟩

/-- A new object at the end. -/
theorem Stp.push {w w' : World} {I I' : Nat → Prop} {ρ : List (Option Nat)} {H : List AObj} {o : AObj} {rb : Option Nat} (hr : HRel w I ρ H) (ho : w'.os = w.os ∧ w'.tape = w.tape ∧ w'.output = w.output) (hw : ∀ b, b < w.heap.size → w'.heap[b]? = w.heap[b]?) (hs : w.heap.size ≤ w'.heap.size) (hI : ∀ b, I b → I' b)
    (hI' : ∀ b, I' b → I b ∨ (w.heap.size ≤ b ∧ b < w'.heap.size)) (hb : ∀ b, rb = some b → w.heap.size ≤ b ∧ b < w'.heap.size ∧ ¬ I' b)
    (hobj : Mv w I ρ H w' I' (ρ ++ [rb]) (H ++ [o]) → ObjR w' I' (ρ ++ [rb]) (H ++ [o]) o rb) : Stp w I ρ H w' I' (ρ ++ [rb]) (H ++ [o]) := by
  obtain ⟨m, h⟩ := hr.push hw hs hI hI' hb hobj
  refine ⟨⟨ho.1, ho.2.1, ho.2.2, hs, fun b hb _ => hw b hb, hI, fun b hb => (hI' b hb).imp id fun h => .inl h.1, fun r b h => ?_⟩, m, h⟩
  rw [List.getElem?_append] at h
  split at h
  · exact .inl ⟨r, h⟩
  · right
    have : rb = some b := by
      by_cases h0 : r - ρ.length = 0
      · rw [h0] at h; simpa using h
      · rw [List.getElem?_eq_none (by simp; omega)] at h; cases h
    exact (hb b this).1

theorem SVR.sc {w : World} {I : Nat → Prop} {ρ : List (Option Nat)} {H : List AObj} {v : Value} (h : v.oneCell' = true) : SVR w I ρ H (scv v) v := .c (.sc v h)
theorem SVR.sc_inv {w : World} {I : Nat → Prop} {ρ : List (Option Nat)} {H : List AObj} {v u : Value} (h : SVR w I ρ H (.c (.sc v)) u) : u = v ∧ v.oneCell' = true := by
  cases h with
  | c h => cases h with
    | sc v h1 => exact ⟨rfl, h1⟩

theorem isOne_one {w : World} {I : Nat → Prop} {ρ : List (Option Nat)} {H : List AObj} {x : SV} {v : Value} (h : SVR w I ρ H x v) (h1 : isOne x = true) : v.oneCell' = true := by
  cases h with
  | c h => cases h <;> first | assumption | rfl
  | ag => simp [isOne] at h1
  | ptr h => exact h
  | dp => rfl
  | row h => exact h
  | fn => rfl
  | tup => simp [isOne] at h1
  | ifc => rfl
  | top => simp [isOne] at h1

theorem evl_R {w : World} {I : Nat → Prop} {ρ : List (Option Nat)} {H : List AObj} {t : List (Nat × SV)} {a : Act} (h : ∀ i, SVR w I ρ H (lk i t) (a.tmps.getD i undef)) (x : Operand) : SVR w I ρ H (evl t x) (a.eval x) := by
  cases x with
  | tmp i => exact h i
  | const v =>
    unfold evl
    dsimp only
    split
    · exact SVR.sc (by assumption)
    · exact .top
  | global g => exact .top
  | func f => exact .fn (us := #[]) (vs := #[]) rfl rfl (fun i hi => by simp at hi) (fun i hi => by simp at hi)

/-- What a one-celled piece is, by cells. -/
theorem svc_R {w : World} {I : Nat → Prop} {ρ : List (Option Nat)} {H : List AObj} {x : SV} {v : Value} {cs : List SV} (h : SVR w I ρ H x v) (hc : svc x = some cs) :
    v.cells.size = cs.length ∧ (∀ i (hi : i < cs.length) (hv : i < v.cells.size), SVR w I ρ H (cs[i]) (v.cells[i])) ∧ ∀ u ∈ v.cells.toList, u.oneCell' = true := by
  have one : ∀ {x : SV} {v : Value}, SVR w I ρ H x v → isOne x = true → some [x] = some cs → v.cells.size = cs.length ∧ (∀ i (hi : i < cs.length) (hv : i < v.cells.size), SVR w I ρ H (cs[i]) (v.cells[i])) ∧ ∀ u ∈ v.cells.toList, u.oneCell' = true := by
    intro x v h h1 e
    obtain rfl := (Option.some.inj e).symm
    have h2 := isOne_one h h1
    have hv : v.cells = #[v] := by cases v <;> first | rfl | simp [Value.oneCell'] at h2
    rw [hv]
    refine ⟨rfl, fun i hi _ => ?_, fun u hu => ?_⟩
    · obtain rfl : i = 0 := by simpa using hi
      exact h
    · obtain rfl : u = v := by simpa using hu
      exact h2
  cases x with
  | ag xs =>
    cases h with
    | @ag _ vs hl h =>
      simp only [svc] at hc
      split at hc
      · rename_i ha
        obtain rfl := Option.some.inj hc
        refine ⟨hl, h, fun u hu => ?_⟩
        obtain ⟨i, hi, rfl⟩ := List.getElem_of_mem hu
        have hi' : i < xs.length := by rw [← hl]; simpa [Value.cells] using hi
        have := h i hi' (by omega)
        refine isOne_one (x := xs[i]) (by simpa [Value.cells] using this) ?_
        exact List.all_eq_true.1 ha _ (List.getElem_mem _)
      · cases hc
  | tup => simp [svc] at hc
  | top => simp [svc] at hc
  | c x => exact one h rfl hc
  | ptr r o => exact one h rfl hc
  | dp cs => exact one h rfl hc
  | row r n => exact one h rfl hc
  | fn f a b => exact one h rfl hc
  | ifc t v => exact one h rfl hc
end Go.Proofs.YtbnelpgogjbgjaaGreat.Q
