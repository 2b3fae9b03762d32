/- A call that knows of some of the memory only: names of boxes told anew. -/
import Derived.Test.YtbnelpgogjbgjaaGreatCodQr
/- A call that knows of some of the memory only: names of boxes told anew. -/
set_option linter.unusedVariables false
set_option linter.unusedSimpArgs false
namespace Go.Proofs.YtbnelpgogjbgjaaGreat.Q
open Go.RowKit

def ren (μ : Nat → Nat) : SV → SV
  | .c x => .c x
  | .ag xs => .ag (renL xs)
  | .ptr r o => .ptr (μ r) o
  | .dp cs => .dp cs
  | .row r n => .row (μ r) n
  | .fn f a b => .fn f (renL a) (renL b)
  | .tup xs => .tup (renL xs)
  | .ifc t v => .ifc t v
  | .top => .top
where renL : List SV → List SV
  | [] => []
  | x :: xs => ren μ x :: renL xs
theorem renL_len {μ : Nat → Nat} (xs : List SV) : (ren.renL μ xs).length = xs.length := by induction xs <;> simp_all [ren.renL]
theorem renL_get {μ : Nat → Nat} {xs : List SV} {i : Nat} (h : i < (ren.renL μ xs).length) : (ren.renL μ xs)[i] = ren μ (xs[i]'(by rw [renL_len] at h; exact h)) := by
  induction xs generalizing i with
  | nil => simp [ren.renL] at h
  | cons x xs ih =>
    cases i with
    | zero => rfl
    | succ i => exact ih (by simpa [ren.renL] using h)
def renO (μ : Nat → Nat) : AObj → AObj
  | .box cells => .box (ren.renL μ cells)
  | .row st e m xs => .row st e m xs
  | .dead => .dead

/-- The same memory, told twice. -/
structure Two (μ : Nat → Nat) (ρ : List (Option Nat)) (H : List AObj) (ρ0 : List (Option Nat)) (H0 : List AObj) : Prop where
  r : ∀ i, ρ[μ i]? = ρ0[i]?
  h : ∀ i, H[μ i]? = (H0[i]?).map (renO μ)

section
variable {μ : Nat → Nat} {w : World} {I : Nat → Prop} {ρ ρ0 : List (Option Nat)} {H H0 : List AObj}
theorem Two.lt (t : Two μ ρ H ρ0 H0) (i : Nat) : μ i < H.length ↔ i < H0.length := by
  have := t.h i
  constructor <;> intro hi
  · by_cases hj : i < H0.length
    · exact hj
    · rw [List.getElem?_eq_getElem hi, List.getElem?_eq_none (l := H0) (by omega)] at this; cases this
  · by_cases hj : μ i < H.length
    · exact hj
    · rw [List.getElem?_eq_none (l := H) (by omega), List.getElem?_eq_getElem hi] at this; cases this
theorem Two.up (t : Two μ ρ H ρ0 H0) {x : SV} {v : Value} (h : SVR w I ρ0 H0 x v) : SVR w I ρ H (ren μ x) v := by
  induction h with
  | c h => exact .c h
  | ag hl h ih => exact .ag (by rw [renL_len]; exact hl) fun i hi hv => by rw [renL_get]; exact ih i (by rw [renL_len] at hi; exact hi) hv
  | ptr h1 hr h =>
    refine .ptr h1 ((t.lt _).2 hr) fun b cells hb hρ => ?_
    rw [t.h] at hb
    rw [t.r] at hρ
    simp only [Option.map_eq_some_iff] at hb
    obtain ⟨o, ho, e⟩ := hb
    cases o with
    | box c0 => exact h b c0 ho hρ
    | row => simp [renO] at e
    | dead => simp [renO] at e
  | dp f hi h hc => exact .dp f hi h hc
  | row h1 hr h =>
    refine .row h1 ((t.lt _).2 hr) fun st e m xs rb hb hρ => ?_
    rw [t.h] at hb
    rw [t.r] at hρ
    simp only [Option.map_eq_some_iff] at hb
    obtain ⟨o, ho, e⟩ := hb
    cases o with
    | box c0 => simp [renO] at e
    | row st' e' m' xs' => simp only [renO, AObj.row.injEq] at e; obtain ⟨rfl, rfl, rfl, rfl⟩ := e; exact h _ _ _ _ _ ho hρ
    | dead => simp [renO] at e
  | fn h1 h2 hf hc ihf ihc =>
    exact .fn (by rw [renL_len]; exact h1) (by rw [renL_len]; exact h2) (fun i hi hv => by rw [renL_get]; exact ihf i (by rw [renL_len] at hi; exact hi) hv) fun i hi hv => by rw [renL_get]; exact ihc i (by rw [renL_len] at hi; exact hi) hv
  | tup hl h ih => exact .tup (by rw [renL_len]; exact hl) fun i hi hv => by rw [renL_get]; exact ih i (by rw [renL_len] at hi; exact hi) hv
  | ifc => exact .ifc
  | top => exact .top
theorem Two.down (t : Two μ ρ H ρ0 H0) {x y : SV} {v : Value} (h : SVR w I ρ H y v) : y = ren μ x → SVR w I ρ0 H0 x v := by
  induction h generalizing x with
  | c h => intro e; cases x <;> simp [ren] at e; subst e; exact .c h
  | ag hl h ih =>
    intro e
    cases x <;> simp [ren] at e
    subst e
    refine .ag (by rw [renL_len] at hl; exact hl) fun i hi hv => ih i (by rw [renL_len]; exact hi) hv (by rw [renL_get])
  | ptr h1 hr h =>
    intro e
    cases x <;> simp [ren] at e
    obtain ⟨rfl, rfl⟩ := e
    refine .ptr h1 ((t.lt _).1 hr) fun b cells hb hρ => ?_
    exact h b (ren.renL μ cells) (by rw [t.h, hb]; rfl) (by rw [t.r, hρ])
  | dp f hi h hc => intro e; cases x <;> simp [ren] at e; subst e; exact .dp f hi h hc
  | row h1 hr h =>
    intro e
    cases x <;> simp [ren] at e
    obtain ⟨rfl, rfl⟩ := e
    refine .row h1 ((t.lt _).1 hr) fun st e m xs rb hb hρ => ?_
    exact h st e m xs rb (by rw [t.h, hb]; rfl) (by rw [t.r, hρ])
  | fn h1 h2 hf hc ihf ihc =>
    intro e
    cases x <;> simp [ren] at e
    obtain ⟨rfl, rfl, rfl⟩ := e
    exact .fn (by rw [renL_len] at h1; exact h1) (by rw [renL_len] at h2; exact h2) (fun i hi hv => ihf i (by rw [renL_len]; exact hi) hv (by rw [renL_get])) fun i hi hv => ihc i (by rw [renL_len]; exact hi) hv (by rw [renL_get])
  | tup hl h ih =>
    intro e
    cases x <;> simp [ren] at e
    subst e
    exact .tup (by rw [renL_len] at hl; exact hl) fun i hi hv => ih i (by rw [renL_len]; exact hi) hv (by rw [renL_get])
  | ifc => intro e; cases x <;> simp [ren] at e; obtain ⟨rfl, rfl⟩ := e; exact .ifc
  | top => intro e; cases x <;> simp [ren] at e; exact .top
theorem Two.obj (t : Two μ ρ H ρ0 H0) (o : AObj) (rb : Option Nat) : ObjR w I ρ H (renO μ o) rb ↔ ObjR w I ρ0 H0 o rb := by
  cases o with
  | box cells =>
    cases rb with
    | none => exact Iff.rfl
    | some b =>
      simp only [renO, ObjR, renL_len]
      constructor
      · rintro ⟨vs, e, h1, h2, h3⟩
        exact ⟨vs, e, h1, h2, fun j hj hv => t.down (h3 j hj hv) (by rw [renL_get])⟩
      · rintro ⟨vs, e, h1, h2, h3⟩
        exact ⟨vs, e, h1, h2, fun j hj hv => by rw [renL_get]; exact t.up (h3 j hj hv)⟩
  | row => cases rb <;> exact Iff.rfl
  | dead => cases rb <;> exact Iff.rfl
end

/-- Things put into their places; the others follow. -/
def upd {α β : Type} (f : β → α) : List α → List Nat → List β → List α
  | L, [], os => L ++ os.map f
  | L, r :: ms, o :: os => upd f (L.set r (f o)) ms os
  | L, _ :: _, [] => L
def mu (m : List Nat) (n i : Nat) : Nat := if i < m.length then m.getD i 0 else n + (i - m.length)
section
variable {α β : Type} {f : β → α}
theorem upd_len (m : List Nat) : ∀ (L : List α) (os : List β), m.length ≤ os.length → (upd f L m os).length = L.length + (os.length - m.length) := by
  induction m with
  | nil => intro L os h; simp [upd]
  | cons r ms ih =>
    intro L os h
    match os, h with
    | o :: os, h => simp only [upd]; rw [ih _ _ (by simpa using h)]; simp
theorem upd_other (m : List Nat) : ∀ (L : List α) (os : List β) (j : Nat), j ∉ m → j < L.length → (upd f L m os)[j]? = L[j]? := by
  induction m with
  | nil => intro L os j h hj; simp only [upd]; rw [List.getElem?_append_left hj]
  | cons r ms ih =>
    intro L os j h hj
    simp only [List.mem_cons, not_or] at h
    match os with
    | [] => rfl
    | o :: os =>
      simp only [upd]
      rw [ih _ _ _ h.2 (by simpa using hj), List.getElem?_set_ne (fun e => h.1 e.symm)]
theorem mu_cons (r : Nat) (ms : List Nat) (n i : Nat) : mu (r :: ms) n (i + 1) = mu ms n i := by
  simp only [mu, List.length_cons, Nat.add_lt_add_iff_right, List.getD_cons_succ]
  split
  · rfl
  · omega
theorem upd_at (m : List Nat) : ∀ (L : List α) (os : List β), m.Nodup → (∀ r ∈ m, r < L.length) → m.length ≤ os.length → ∀ i, (upd f L m os)[mu m L.length i]? = (os[i]?).map f := by
  induction m with
  | nil =>
    intro L os _ _ _ i
    simp only [upd, mu, List.length_nil, Nat.not_lt_zero, if_false, Nat.sub_zero]
    rw [List.getElem?_append_right (by omega), Nat.add_sub_cancel_left, List.getElem?_map]
  | cons r ms ih =>
    intro L os hn hr hl i
    match os, hl with
    | o :: os, hl =>
      rw [List.nodup_cons] at hn
      simp only [upd]
      cases i with
      | zero =>
        have e : mu (r :: ms) L.length 0 = r := by simp [mu]
        rw [e, upd_other ms _ _ _ hn.1 (by simpa using hr r (by simp)), List.getElem?_set_self (hr r (by simp))]
        rfl
      | succ i =>
        rw [mu_cons]
        have := ih (L.set r (f o)) os hn.2 (fun x hx => by simpa using hr x (by simp [hx])) (by simpa using hl) i
        simp only [List.length_set] at this
        rw [this]; rfl
theorem mu_inj {m : List Nat} {n : Nat} (hn : m.Nodup) (hr : ∀ r ∈ m, r < n) {i j : Nat} (h : mu m n i = mu m n j) : i = j := by
  have key : ∀ i, i < m.length → mu m n i < n := fun i hi => by
    simp only [mu, if_pos hi]
    rw [List.getD_eq_getElem?_getD, List.getElem?_eq_getElem hi]
    exact hr _ (List.getElem_mem hi)
  by_cases hi : i < m.length <;> by_cases hj : j < m.length
  · simp only [mu, if_pos hi, if_pos hj] at h
    rw [List.getD_eq_getElem?_getD, List.getElem?_eq_getElem hi, List.getD_eq_getElem?_getD, List.getElem?_eq_getElem hj] at h
    exact (List.getElem_inj hn).1 h
  · have := key i hi
    rw [h] at this
    simp only [mu, if_neg hj] at this
    omega
  · have := key j hj
    rw [← h] at this
    simp only [mu, if_neg hi] at this
    omega
  · simp only [mu, if_neg hi, if_neg hj] at h
    omega
theorem mu_mem {m : List Nat} {n j : Nat} (h : j ∈ m) : ∃ i, i < m.length ∧ mu m n i = j := by
  obtain ⟨i, hi, rfl⟩ := List.getElem_of_mem h
  exact ⟨i, hi, by simp [mu, hi]⟩
end

def renOut (μ : Nat → Nat) : Out → Out
  | .ret v => .ret (ren μ v)
  | .pan p => .pan p
theorem mu_cases (m : List Nat) (n j : Nat) : (∃ i, j = mu m n i) ∨ (j ∉ m ∧ j < n) := by
  by_cases hj : j ∈ m
  · obtain ⟨i, _, e⟩ := mu_mem (n := n) hj; exact .inl ⟨i, e.symm⟩
  · by_cases hn : j < n
    · exact .inr ⟨hj, hn⟩
    · exact .inl ⟨m.length + (j - n), by simp only [mu]; rw [if_neg (by omega)]; omega⟩
theorem mu_ne {m : List Nat} {n j : Nat} (h : j ∉ m ∧ j < n) (i : Nat) : mu m n i ≠ j := by
  intro e
  by_cases hi : i < m.length
  · refine h.1 ?_
    rw [← e]
    simp only [mu, if_pos hi]
    rw [List.getD_eq_getElem?_getD, List.getElem?_eq_getElem hi]
    exact List.getElem_mem hi
  · simp only [mu, if_neg hi] at e
    omega
/-- A function that knows of some boxes only. -/
theorem ACalls.sub {P : Program} {f : Nat} {m : List Nat} {H H0 : List AObj} {args0 : List SV} {R0 : Out → List AObj → Prop} (hn : m.Nodup) (hr : ∀ r ∈ m, r < H.length) (hl : H0.length = m.length)
    (hH : ∀ i, i < m.length → H[mu m H.length i]? = (H0[i]?).map (renO (mu m H.length))) (h : ACalls P f args0 H0 R0) :
    ACalls P f (ren.renL (mu m H.length) args0) H fun o H' => ∃ o0 H0', R0 o0 H0' ∧ o = renOut (mu m H.length) o0 ∧ H' = upd (renO (mu m H.length)) H m H0' := by
  intro w I ρ vs hrel hargs
  generalize hμ : mu m H.length = μ at *
  have hρl : ρ.length = H.length := hrel.len
  let ρ0 : List (Option Nat) := m.map fun r => ρ.getD r none
  have hbig : ∀ i, ¬ i < m.length → H.length ≤ μ i := fun i hi => by rw [← hμ]; simp only [mu, if_neg hi]; omega
  have two : Two μ ρ H ρ0 H0 := ⟨fun i => by
    by_cases hi : i < m.length
    · have e : μ i = m[i] := by rw [← hμ]; simp [mu, hi]
      have hlt : m[i] < ρ.length := by rw [hρl]; exact hr _ (List.getElem_mem hi)
      simp only [ρ0]
      rw [e, List.getElem?_map, List.getElem?_eq_getElem hi, List.getElem?_eq_getElem hlt]
      simp [List.getD_eq_getElem?_getD, hlt]
    · rw [List.getElem?_eq_none (by have := hbig i hi; omega), List.getElem?_eq_none (by simp [ρ0]; omega)], fun i => by
    by_cases hi : i < m.length
    · exact hH i hi
    · rw [List.getElem?_eq_none (by have := hbig i hi; omega), List.getElem?_eq_none (by omega)]; rfl⟩
  have inj : ∀ {i j : Nat}, μ i = μ j → i = j := fun {i j} e => by rw [← hμ] at e; exact mu_inj hn hr e
  have hrel0 : HRel w I ρ0 H0 := {
    len := by simp [ρ0, hl]
    live := hrel.live
    lt := fun r b e => hrel.lt (μ r) b (by rw [two.r]; exact e)
    apart := fun r b e => hrel.apart (μ r) b (by rw [two.r]; exact e)
    inj := fun r r' b e e' => inj (hrel.inj (μ r) (μ r') b (by rw [two.r]; exact e) (by rw [two.r]; exact e'))
    obj := fun r o rb e e' => (two.obj o rb).1 (hrel.obj (μ r) (renO μ o) rb (by rw [two.h, e]; rfl) (by rw [two.r]; exact e')) }
  refine (h w I ρ0 vs hrel0 (two.down hargs rfl)).mono ?_
  rintro e w' ⟨o0, H0', I', ρ0', hR, hfr, hmv, hh, hout⟩
  have hlen : m.length ≤ H0'.length := by rw [← hl]; exact hmv.len
  have hlenρ : m.length ≤ ρ0'.length := by rw [hh.len]; exact hlen
  have two' : Two μ (upd id ρ m ρ0') (upd (renO μ) H m H0') ρ0' H0' := ⟨fun i => by
    have := upd_at (f := id) m ρ ρ0' hn (by rw [hρl]; exact hr) hlenρ i
    rw [hρl, hμ] at this
    rw [this]; simp, fun i => by
    have := upd_at (f := renO μ) m H H0' hn hr hlen i
    rw [hμ] at this
    exact this⟩
  have cases : ∀ j, (∃ i, j = μ i) ∨ (j ∉ m ∧ j < H.length) := fun j => by rw [← hμ]; exact mu_cases m H.length j
  have ne : ∀ {j}, j ∉ m ∧ j < H.length → ∀ i, μ i ≠ j := fun {j} hj i => by rw [← hμ]; exact mu_ne hj i
  have othH : ∀ {j}, j ∉ m ∧ j < H.length → (upd (renO μ) H m H0')[j]? = H[j]? := fun {j} hj => upd_other m H H0' j hj.1 hj.2
  have othρ : ∀ {j}, j ∉ m ∧ j < H.length → (upd id ρ m ρ0')[j]? = ρ[j]? := fun {j} hj => upd_other m ρ ρ0' j hj.1 (by rw [hρl]; exact hj.2)
  -- a block of a box that the function does not know of
  have notρ0 : ∀ {j b}, j ∉ m ∧ j < H.length → ρ[j]? = some (some b) → ∀ r : Nat, ρ0[r]? ≠ some (some b) := fun {j b} hj hb r hr' => ne hj r (hrel.inj _ _ b (by rw [two.r]; exact hr') hb)
  have inρ : ∀ {b}, (∃ r : Nat, ρ0[r]? = some (some b)) → ∃ r : Nat, ρ[r]? = some (some b) := fun {b} ⟨r, hr'⟩ => ⟨μ r, by rw [two.r]; exact hr'⟩
  have mv : Mv w I ρ H w' I' (upd id ρ m ρ0') (upd (renO μ) H m H0') := {
    heap := hmv.heap
    more := hmv.more
    len := by rw [upd_len m H H0' hlen]; omega
    box := fun r cells hlt hb => by
      rcases cases r with ⟨i, rfl⟩ | hj
      · have hi : i < H0.length := (two.lt i).1 hlt
        rw [two'.h] at hb
        simp only [Option.map_eq_some_iff] at hb
        obtain ⟨o, ho, eo⟩ := hb
        cases o with
        | box c1 =>
          obtain ⟨⟨c0, h0⟩, e1⟩ := hmv.box i c1 hi ho
          exact ⟨⟨ren.renL μ c0, by rw [two.h, h0]; rfl⟩, by rw [two'.r, two.r, e1]⟩
        | row => simp [renO] at eo
        | dead => simp [renO] at eo
      · rw [othH hj] at hb
        exact ⟨⟨cells, hb⟩, othρ hj⟩
    row := fun r st e' m' xs rb hlt hb hρ => by
      rcases cases r with ⟨i, rfl⟩ | hj
      · have hi : i < H0.length := (two.lt i).1 hlt
        rw [two'.h] at hb
        rw [two'.r] at hρ
        simp only [Option.map_eq_some_iff] at hb
        obtain ⟨o, ho, eo⟩ := hb
        cases o with
        | box c1 => simp [renO] at eo
        | row st1 e1 m1 xs1 =>
          simp only [renO, AObj.row.injEq] at eo
          obtain ⟨rfl, rfl, rfl, rfl⟩ := eo
          obtain ⟨st0, xs0, rb0, h0, h1, h2, h3⟩ := hmv.row i _ _ _ _ rb hi ho hρ
          exact ⟨st0, xs0, rb0, by rw [two.h, h0]; rfl, by rw [two.r]; exact h1, h2, h3⟩
        | dead => simp [renO] at eo
      · rw [othH hj] at hb
        rw [othρ hj] at hρ
        exact ⟨st, xs, rb, hb, hρ, Nat.le_refl _, fun _ v hv => hv.mono hmv.heap hmv.more fun b eb => by
          subst eb
          exact hfr.block b (hrel.lt r b hρ) (notρ0 hj hρ)⟩ }
  refine ⟨renOut μ o0, upd (renO μ) H m H0', I', upd id ρ m ρ0', ⟨o0, H0', hR, rfl, rfl⟩, ?_, mv, ?_, ?_⟩
  · exact {
      os := hfr.os, tape := hfr.tape, output := hfr.output, size := hfr.size
      block := fun b hb hno => hfr.block b hb fun r hr' => hno (μ r) (by rw [two.r]; exact hr')
      more := hfr.more
      fresh := fun b hb => by
        rcases hfr.fresh b hb with h1 | h1 | h1
        · exact .inl h1
        · exact .inr (.inl h1)
        · exact .inr (.inr (inρ h1))
      refs := fun r b hrb => by
        rcases cases r with ⟨i, rfl⟩ | hj
        · rw [two'.r] at hrb
          rcases hfr.refs i b hrb with h1 | h1
          · exact .inl (inρ h1)
          · exact .inr h1
        · rw [othρ hj] at hrb
          exact .inl ⟨r, hrb⟩ }
  · exact {
      len := by rw [upd_len m ρ ρ0' hlenρ, upd_len m H H0' hlen, hρl, hh.len]
      live := hh.live
      lt := fun r b hrb => by
        rcases cases r with ⟨i, rfl⟩ | hj
        · rw [two'.r] at hrb; exact hh.lt i b hrb
        · rw [othρ hj] at hrb; exact Nat.lt_of_lt_of_le (hrel.lt r b hrb) hfr.size
      apart := fun r b hrb hI => by
        rcases cases r with ⟨i, rfl⟩ | hj
        · rw [two'.r] at hrb; exact hh.apart i b hrb hI
        · rw [othρ hj] at hrb
          rcases hfr.fresh b hI with h1 | h1 | ⟨r', h1⟩
          · exact hrel.apart r b hrb h1
          · have := hrel.lt r b hrb; omega
          · exact notρ0 hj hrb r' h1
      inj := fun r r' b h1 h2 => by
        have mix : ∀ {i j}, j ∉ m ∧ j < H.length → (upd id ρ m ρ0')[μ i]? = some (some b) → (upd id ρ m ρ0')[j]? = some (some b) → False := fun {i j} hj h1 h2 => by
          rw [two'.r] at h1
          rw [othρ hj] at h2
          rcases hfr.refs i b h1 with ⟨r', h3⟩ | h3
          · exact notρ0 hj h2 r' h3
          · have := hrel.lt j b h2; omega
        rcases cases r with ⟨i, rfl⟩ | hj <;> rcases cases r' with ⟨i', rfl⟩ | hj'
        · rw [two'.r] at h1 h2; rw [hh.inj i i' b h1 h2]
        · exact (mix hj' h1 h2).elim
        · exact (mix hj h2 h1).elim
        · rw [othρ hj] at h1; rw [othρ hj'] at h2; exact hrel.inj r r' b h1 h2
      obj := fun r o rb h1 h2 => by
        rcases cases r with ⟨i, rfl⟩ | hj
        · rw [two'.h] at h1
          rw [two'.r] at h2
          simp only [Option.map_eq_some_iff] at h1
          obtain ⟨o1, ho, rfl⟩ := h1
          exact (two'.obj o1 rb).2 (hh.obj i o1 rb ho h2)
        · rw [othH hj] at h1
          rw [othρ hj] at h2
          exact (hrel.obj r o rb h1 h2).mono mv fun b eb => by
            subst eb
            exact hfr.block b (hrel.lt r b h2) (notρ0 hj h2) }
  · cases o0 with
    | ret v => cases e <;> first | exact two'.up hout | exact hout
    | pan p => cases e <;> exact hout
end Go.Proofs.YtbnelpgogjbgjaaGreat.Q
