/- Pieces of code: what the short code asks is enough. -/
import Derived.Test.YtbnelpgogjbgjaaGreatCodQm
/- Pieces of code: what the short code asks is enough. -/
set_option linter.unusedVariables false
set_option linter.unusedSimpArgs false
namespace Go.Proofs.YtbnelpgogjbgjaaGreat.Q
open Go.RowKit

theorem upon_mono {P : Program} {o : Oper} {a : Act} {K K' : Act → World → Prop} {Q Q' : Exit → Act → World → Prop} (hk : ∀ a w, K a w → K' a w) (hq : ∀ e a w, Q e a w → Q' e a w) {r : Result Next} (h : o.upon P a K Q r) : o.upon P a K' Q' r := by
  cases r with
  | ok n w' =>
    cases n <;> simp only [Oper.upon] at h ⊢ <;>
      first
        | exact hk _ _ h
        | exact Calls.mono h (fun e w'' he => by
            cases e <;> first
              | exact hk _ _ he
              | exact hq _ _ _ he
              | (obtain ⟨a0, w0, hl⟩ := he; exact ⟨a0, w0, hq _ _ _ hl⟩))
        | exact Rows.mono h (fun _ _ he => hk _ _ he)
        | exact h
  | halt x w' => cases x <;> simp only [Oper.upon] at h ⊢ <;> first | exact hq _ _ _ h | exact h

/-- What a piece of code has come to, as the model's wp asks. -/
def Post (N : Nat) (ds : List Deferred) (E : Ent) (Q : AExit → AState → Prop) : Exit → Act → World → Prop :=
  fun e a' w' => ∃ e' s' I' ρ', exitR e' e ∧ SRel N ds E w' I' ρ' s' a' ∧ Q e' s'

section
variable {P : Program} {N : Nat} {ds : List Deferred} {E : Ent}

theorem SRel.hev {w : World} {I : Nat → Prop} {ρ : List (Option Nat)} {s : AState} {a : Act} (h : SRel N ds E w I ρ s a) (x : Operand) : SVR w I ρ s.H (s.ev x) (a.eval x) := evl_R h.t x

theorem SRel.step {w w' : World} {I I' : Nat → Prop} {ρ ρ' : List (Option Nat)} {s : AState} {a : Act} {H' : List AObj} (h : SRel N ds E w I ρ s a) (st : Stp w I ρ s.H w' I' ρ' H') : SRel N ds E w' I' ρ' { s with H := H' } a :=
  ⟨h.fr.trans st.fr, h.mv.trans st.mv, h.k, st.h, h.n, h.ds, fun i => (h.t i).mono st.mv⟩

theorem SRel.put {w : World} {I : Nat → Prop} {ρ : List (Option Nat)} {s : AState} {a : Act} (h : SRel N ds E w I ρ s a) {d : Option Nat} (hd : ∀ x, d = some x → x < N) {sv : SV} {u : Value} (hv : SVR w I ρ s.H sv u) : SRel N ds E w I ρ (s.put d sv) (a.put d u) := by
  cases d with
  | none => exact h
  | some d =>
    refine ⟨h.fr, h.mv, h.k, h.h, by simp [Act.put, h.n], h.ds, fun i => ?_⟩
    simp only [AState.put, lk, Act.put]
    by_cases e : i = d
    · subst e
      have : i < a.tmps.size := by rw [h.n]; exact hd i rfl
      rw [if_pos rfl]
      simp [this]
      exact hv
    · rw [if_neg e]
      have : (a.tmps.setIfInBounds d u).getD i undef = a.tmps.getD i undef := by
        simp only [Array.getD_eq_getD_getElem?]
        rw [Array.getElem?_setIfInBounds_ne (by omega)]
      rw [this]
      exact h.t i

theorem compO_R {ops : Array Oper} {o : Oper} {ao : AO} (h : compO P N ops o = some ao) : ao.dst = o.dst ∧ compOp P o.op = some ao.op ∧ (∀ x, o.dst = some x → x < N) ∧
    (match ao.guard with | none => o.guard = none | some (t, want) => ∃ j, o.guard = some (j, want) ∧ (ops[j]?).bind (·.dst) = some t) := by
  unfold compO at h
  split at h
  · cases h
  · rename_i op hop
    split at h
    · rename_i hd
      have hd' : ∀ x, o.dst = some x → x < N := by
        intro x hx
        rw [hx] at hd
        simpa [dstOk] using hd
      split at h
      · rename_i hg
        obtain rfl := Option.some.inj h
        exact ⟨rfl, hop, hd', hg⟩
      · rename_i j want hg
        split at h
        · rename_i t ht
          obtain rfl := Option.some.inj h
          exact ⟨rfl, hop, hd', j, hg, ht⟩
        · cases h
    · cases h

theorem compOs_R {ops : Array Oper} : ∀ {l : List Oper} {xs : List AO}, compOs P N ops l = some xs → xs.length = l.length ∧ ∀ i (hi : i < l.length) (hx : i < xs.length), compO P N ops (l[i]) = some (xs[i]) := by
  intro l
  induction l with
  | nil => intro xs h; simp only [compOs, Option.some.injEq] at h; subst h; simp
  | cons o os ih =>
    intro xs h
    simp only [compOs] at h
    split at h
    · rename_i x r h1 h2
      obtain rfl := Option.some.inj h
      obtain ⟨h3, h4⟩ := ih h2
      refine ⟨by simp [h3], fun i hi hx => ?_⟩
      cases i with
      | zero => exact h1
      | succ i => simpa using h4 i (by simpa using hi) (by simpa using hx)
    · cases h

theorem guard_R {ops : Array Oper} {o : Oper} {ao : AO} (hc : compO P N ops o = some ao) {w : World} {I : Nat → Prop} {ρ : List (Option Nat)} {s : AState} {a : Act} (h : SRel N ds E w I ρ s a) {b : Bool} (hg : aguard s ao.guard = some b) : Region.wanted o (yielded ops a.tmps) = b := by
  obtain ⟨_, _, _, h4⟩ := compO_R hc
  unfold aguard at hg
  unfold Region.wanted
  cases hgd : ao.guard with
  | none =>
    rw [hgd] at hg h4
    dsimp only at h4
    rw [h4]
    exact Option.some.inj hg
  | some p =>
    obtain ⟨t, want⟩ := p
    rw [hgd] at hg h4
    dsimp only at hg h4
    obtain ⟨j, hj, ht⟩ := h4
    rw [hj]
    split at hg
    · rename_i c hlk
      obtain rfl := Option.some.inj hg
      have hv := h.t t
      rw [hlk] at hv
      have hv := hv.sc_inv.1
      have : a.tmps[t]? = some (.bool c) := by
        by_cases hlt : t < a.tmps.size
        · simpa [Array.getD, hlt] using hv
        · simp [Array.getD, hlt, undef] at hv
      simp only [yielded, ht, Option.bind_some, this]
      cases c <;> cases want <;> rfl
    · rename_i hlk
      obtain rfl := Option.some.inj hg
      have hv := h.t t
      rw [hlk] at hv
      have hv' : a.tmps.getD t undef = .tuple #[] := by
        generalize a.tmps.getD t undef = u at hv
        cases hv with
        | @tup _ vs hl _ => have : vs = #[] := Array.eq_empty_of_size_eq_zero (by simpa using hl); rw [this]
      have : ∀ b, a.tmps[t]? ≠ some (.bool b) := by
        intro b e
        simp only [Array.getD_eq_getD_getElem?, e, Option.getD_some] at hv'
        cases hv'
      have hy : yielded ops a.tmps j = none := by
        simp only [yielded, ht, Option.bind_some]
        try (split <;> first | rfl | (rename_i b e; exact absurd e (this b)))
      simp [hy]
    · cases hg

theorem aops_cons (o : AO) (os : List AO) (Q : AExit → AState → Prop) (s : AState) (h : aops P (o :: os) Q s) : ∃ b, aguard s o.guard = some b ∧
    if b then aop P o.op s.ev s.H (fun v H' => aops P os Q ({ s with H := H' }.put o.dst v)) (fun p H' => Q (.pan p) { s with H := H' }) else aops P os Q (s.put o.dst (.tup [])) := by
  simp only [aops] at h
  unfold aguard
  split at h
  · rename_i hg
    try rw [hg]
    exact ⟨true, rfl, h⟩
  · rename_i t want hg
    try rw [hg]
    try dsimp only
    split at h
    · rename_i b hb
      try rw [hb]
      refine ⟨b == want, rfl, ?_⟩
      by_cases e : b = want
      · rw [if_pos e] at h; subst e; simpa using h
      · rw [if_neg e] at h; simpa [e] using h
    · rename_i hb
      try rw [hb]
      exact ⟨false, rfl, h⟩
    · exact h.elim

/-- One operation of a region. -/
theorem one_op {ops : Array Oper} {i : Nat} {o : Oper} (hi : ops[i]? = some o) {ao : AO} (hc : compO P N ops o = some ao) {w : World} {I : Nat → Prop} {ρ : List (Option Nat)} {s : AState} {a : Act} (h : SRel N ds E w I ρ s a)
    {b : Bool} (hg : aguard s ao.guard = some b) {K : SV → List AObj → Prop} {Qp : Value → List AObj → Prop} (ha : if b then aop P ao.op s.ev s.H K Qp else K (.tup []) s.H) {Kc : Act → World → Prop} {Qc : Exit → Act → World → Prop}
    (hk : ∀ sv H' w' I' ρ' a', K sv H' → SRel N ds E w' I' ρ' ({ s with H := H' }.put ao.dst sv) a' → Kc a' w') (hq : ∀ p H' w' I' ρ', Qp p H' → SRel N ds E w' I' ρ' { s with H := H' } a → Qc (.panic [{ v := p, recovered := false }]) a w') :
    wpOp P ops Qc i Kc a w := by
  obtain ⟨h1, h2, h3, _⟩ := compO_R hc
  unfold wpOp
  simp only [hi]
  have hw := guard_R hc h hg
  cases b with
  | true =>
    simp only [if_true] at ha
    simp only [hw, if_true]
    left
    unfold Oper.wp
    refine upon_mono ?_ ?_ (aop_sound o h2 h.h h.hev ha)
    · rintro a' w' ⟨u, sv, H', I', ρ', rfl, st, hsv, hk'⟩
      refine hk sv H' w' I' ρ' _ hk' ?_
      rw [h1]
      exact (h.step st).put h3 hsv
    · rintro e a' w' ⟨p, H', I', ρ', rfl, rfl, st, hq'⟩
      exact hq p H' w' I' ρ' hq' (h.step st)
  | false =>
    simp only [Bool.false_eq_true, if_false] at ha
    simp only [hw, Bool.false_eq_true, if_false]
    refine hk (.tup []) s.H w I ρ _ ha ?_
    rw [h1]
    exact h.put h3 (.tup rfl fun i hi => by simp at hi)

theorem region_sound {ops : Array Oper} {xs : List AO} (hc : compOs P N ops ops.toList = some xs) (Q : AExit → AState → Prop) :
    ∀ (n i : Nat), i + n = ops.size → ∀ (s : AState) (w : World) (I : Nat → Prop) (ρ : List (Option Nat)) (a : Act), SRel N ds E w I ρ s a → aops P (xs.drop i) Q s → wpOps P ops (Post N ds E Q) (List.range' i n) a w := by
  obtain ⟨hl, hx⟩ := compOs_R hc
  simp only [Array.length_toList] at hl
  intro n
  induction n with
  | zero =>
    intro i hi s w I ρ a h ha
    rw [List.drop_of_length_le (by omega)] at ha
    simp only [List.range'_zero, wpOps]
    exact ⟨.normal, s, I, ρ, trivial, h, ha⟩
  | succ n ih =>
    intro i hi s w I ρ a h ha
    have hlt : i < ops.size := by omega
    have hlx : i < xs.length := by omega
    rw [List.drop_eq_getElem_cons hlx] at ha
    obtain ⟨b, hg, ha⟩ := aops_cons _ _ _ _ ha
    rw [List.range'_succ, wpOps_cons]
    have hci := hx i (by simpa using hlt) hlx
    refine one_op (o := ops[i]) (by simp [hlt]) (by simpa using hci) h hg (K := fun v H' => aops P (xs.drop (i + 1)) Q (AState.put ⟨s.k, s.t, H'⟩ (xs[i]).dst v)) (Qp := fun p H' => Q (.pan p) ⟨s.k, s.t, H'⟩) (by
      cases b <;> exact ha) (fun sv H' w' I' ρ' a' hk hs => ih (i + 1) (by omega) _ w' I' ρ' a' hs hk) (fun p H' w' I' ρ' hq hs => ⟨.pan p, _, I', ρ', rfl, hs, hq⟩)
end
end Go.Proofs.YtbnelpgogjbgjaaGreat.Q
