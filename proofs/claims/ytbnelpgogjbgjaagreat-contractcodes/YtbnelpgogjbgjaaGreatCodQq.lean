/- Functions: entry, results, contracts, calls. -/
import Derived.Test.YtbnelpgogjbgjaaGreatCodQp
/- Functions: entry, results, contracts, calls. -/
set_option linter.unusedVariables false
set_option linter.unusedSimpArgs false
namespace Go.Proofs.YtbnelpgogjbgjaaGreat.Q
open Go.RowKit

inductive RV where
  | tmp (t : Nat)
  | cell (t : Nat) (ag : Bool) (n : Nat)
def compRes (P : Program) : List ResultVar → Option (List RV)
  | [] => some []
  | .tmp t :: rs => (compRes P rs).map (.tmp t :: ·)
  | .cell a t :: rs => match sizeP P t, compRes P rs with
    | some p, some r => some (.cell a p.1 p.2 :: r)
    | _, _ => none
structure AFn where
  np : Nat
  N : Nat
  res : List RV
  code : ACode
def compF (P : Program) (f : Nat) : Option AFn :=
  match P.funcs[f]? with
  | some fn => match fn.body with
    | some c => match comp P fn.ntmps c, compRes P fn.results.toList with
      | some ac, some rs => if fn.params.size + fn.nfree ≤ fn.ntmps ∧ fn.name ≠ "runtime.NumGoroutine" then some ⟨fn.params.size + fn.nfree, fn.ntmps, rs, ac⟩ else none
      | _, _ => none
    | none => none
  | none => none

def resV (s : AState) : RV → Option SV
  | .tmp t => some (lk t s.t)
  | .cell t ag n => match lk t s.t with
    | .ptr r off => match s.H[r]? with
      | some (.box cells) => if off + n ≤ cells.length ∧ (ag = false → n = 1) then some (if ag then .ag ((cells.drop off).take n) else cells.getD off .top) else none
      | _ => none
    | _ => none
def resL (s : AState) : List RV → Option (List SV)
  | [] => some []
  | r :: rs => match resV s r, resL s rs with
    | some v, some vs => some (v :: vs)
    | _, _ => none
def resS (s : AState) (rs : List RV) : Option SV :=
  match rs with
  | [r] => resV s r
  | rs => (resL s rs).map .tup
def enter : Nat → List SV → List (Nat × SV)
  | _, [] => []
  | i, a :: as => (i, a) :: enter (i + 1) as

/-- A result and what is known of memory, told in fewer words. -/
def Clo (k : Nat) (v : SV) (H : List AObj) (v' : SV) (H' : List AObj) : Prop :=
  ∀ (w : World) (I : Nat → Prop) (ρ : List (Option Nat)) (u : Value) (E : Ent), E.H.length = k → Mv E.w E.I E.ρ E.H w I ρ H → HRel w I ρ H → SVR w I ρ H v u →
    ∃ I' ρ', Fr w I ρ w I' ρ' ∧ Mv E.w E.I E.ρ E.H w I' ρ' H' ∧ HRel w I' ρ' H' ∧ SVR w I' ρ' H' v' u
theorem Clo.refl (k : Nat) (v : SV) (H : List AObj) : Clo k v H v H := fun w I ρ u E hk mv hr hv => ⟨I, ρ, Fr.refl .., mv, hr, hv⟩

def RetQ (res : List RV) (R : Out → List AObj → Prop) : AExit → AState → Prop
  | .normal, s | .ret, s => ∃ v, resS s res = some v ∧ ∃ v' H', Clo s.k v s.H v' H' ∧ R (.ret v') H'
  | .pan p, s => ∃ H', Clo s.k .top s.H .top H' ∧ R (.pan p) H'
  | .exit _, _ => False

section
variable {P : Program}

theorem resV_R {N : Nat} {ds : List Deferred} {E : Ent} {w : World} {I : Nat → Prop} {ρ : List (Option Nat)} {s : AState} {a : Act} (hs : SRel N ds E w I ρ s a) : ∀ {l : List ResultVar} {rs : List RV}, compRes P l = some rs → ∀ {vs : List SV}, resL s rs = some vs →
    ∃ us : List Value, (l.mapM fun
      | .tmp t => pure (a.tmps.getD t undef)
      | .cell b t => do loadVar t (← asAddr (a.tmps.getD b undef)) : Sem (List Value)).run P w = .ok us w ∧ us.length = vs.length ∧ ∀ i (hi : i < vs.length) (hv : i < us.length), SVR w I ρ s.H (vs[i]) (us[i]) := by
  intro l
  induction l with
  | nil =>
    intro rs hc vs hr
    simp only [compRes, Option.some.injEq] at hc
    subst hc
    simp only [resL, Option.some.injEq] at hr
    subst hr
    exact ⟨[], by simp, rfl, fun i hi => by simp at hi⟩
  | cons x l ih =>
    intro rs hc vs hr
    have one : ∀ {r : RV} {rs' : List RV}, rs = r :: rs' → compRes P l = some rs' → (∀ v, resV s r = some v → ∃ u, ((match x with
      | .tmp t => pure (a.tmps.getD t undef)
      | .cell b t => do loadVar t (← asAddr (a.tmps.getD b undef)) : Sem Value)).run P w = .ok u w ∧ SVR w I ρ s.H v u) → ∃ us : List Value, ((x :: l).mapM fun
      | .tmp t => pure (a.tmps.getD t undef)
      | .cell b t => do loadVar t (← asAddr (a.tmps.getD b undef)) : Sem (List Value)).run P w = .ok us w ∧ us.length = vs.length ∧ ∀ i (hi : i < vs.length) (hv : i < us.length), SVR w I ρ s.H (vs[i]) (us[i]) := by
      intro r rs' e hc' hx
      subst e
      simp only [resL] at hr
      split at hr
      · rename_i v vs' h1 h2
        obtain rfl := Option.some.inj hr
        obtain ⟨u, hu, hsv⟩ := hx v h1
        obtain ⟨us, hus, hl, hall⟩ := ih hc' h2
        refine ⟨u :: us, ?_, by simp [hl], fun i hi hv => ?_⟩
        · rw [List.mapM_cons]
          simp only [Sem.run_bind, hu, Result.andThen_ok, hus, Sem.run_pure]
        · cases i with
          | zero => exact hsv
          | succ i => simpa using hall i (by simpa using hi) (by simpa using hv)
      · cases hr
    cases x with
    | tmp t =>
      simp only [compRes, Option.map_eq_some_iff] at hc
      obtain ⟨rs', hc', rfl⟩ := hc
      refine one rfl hc' fun v hv => ?_
      simp only [resV, Option.some.injEq] at hv
      subst hv
      exact ⟨a.tmps.getD t undef, by simp, hs.t t⟩
    | cell b t =>
      simp only [compRes] at hc
      split at hc
      · rename_i p rs' hp hc'
        obtain rfl := Option.some.inj hc
        refine one rfl hc' fun v hv => ?_
        simp only [sizeP, Option.map_eq_some_iff, Option.bind_eq_some_iff] at hp
        obtain ⟨d, hd, i, hi, rfl⟩ := hp
        simp only [resV] at hv
        split at hv
        · rename_i r off hlk
          split at hv
          · rename_i cells hb
            split at hv
            · rename_i hcond
              obtain rfl := Option.some.inj hv
              have hbv := hs.t b
              rw [hlk] at hbv
              obtain ⟨u, hrun, hsv⟩ := box_load (P := P) hd hi hs.h hbv hb hcond.1 hcond.2
              refine ⟨u, ?_, hsv⟩
              have hptr : ∃ ad, a.tmps.getD b undef = .pointer (some ad) := by
                obtain ⟨bb, e, _⟩ := ptr_move hs.h hbv hb
                exact ⟨_, e⟩
              obtain ⟨ad, e⟩ := hptr
              dsimp only
              rw [e] at hrun ⊢
              simpa [Instr.loadAt, Instr.sureAddr, asAddr, Sem.run_bind, Result.andThen] using hrun
            · cases hv
          · cases hv
        · cases hv
      · cases hc

theorem enter_R {w : World} {I : Nat → Prop} {ρ : List (Option Nat)} {H : List AObj} {n : Nat} : ∀ (args : List SV) (i : Nat) (us : List Value), us.length = args.length → (∀ j (hj : j < args.length) (hv : j < us.length), SVR w I ρ H (args[j]) (us[j])) →
    ∀ x, SVR w I ρ H (lk x (enter i args)) (if i ≤ x then us.getD (x - i) undef else undef) := by
  intro args
  induction args with
  | nil => intro i us hl h x; exact .top
  | cons a as ih =>
    intro i us hl h x
    match us, hl with
    | u :: us, hl =>
      simp only [enter, lk]
      by_cases e : x = i
      · subst e
        have := h 0 (by simp) (by simp)
        simp only [List.getElem_cons_zero] at this
        simpa using this
      · rw [if_neg e]
        have := ih (i + 1) us (by simpa using hl) (fun j hj hv => by
          have := h (j + 1) (by simpa using hj) (by simpa using hv)
          simpa only [List.getElem_cons_succ] using this) x
        by_cases hle : i + 1 ≤ x
        · rw [if_pos hle] at this
          rw [if_pos (by omega), show x - i = (x - (i + 1)) + 1 from by omega]
          simpa using this
        · rw [if_neg hle] at this
          rw [if_neg (by omega)]
          exact this

/-- A function does what its code does. -/
theorem acalls_of_AW {f : Nat} {np N : Nat} {res : List RV} {code : ACode} (hc : compF P f = some ⟨np, N, res, code⟩) {args : List SV} (hn : args.length ≤ N) {H : List AObj} {R : Out → List AObj → Prop} (h : AW P N [] code (RetQ res R) ⟨H.length, enter 0 args, H⟩) : ACalls P f args H R := by
  unfold compF at hc
  split at hc
  · rename_i fn hf
    split at hc
    · rename_i c hb
      split at hc
      · rename_i ac rs h1 h2
        split at hc
        · simp only [Option.some.injEq, AFn.mk.injEq] at hc
          obtain ⟨rfl, rfl, rfl, rfl⟩ := hc
          intro w I ρ vs hr hv
          cases hv with
          | tup hl hvs =>
          refine calls_of_wp hf hb ?_
          have hs : SRel fn.ntmps [] ⟨w, I, ρ, H⟩ w I ρ ⟨H.length, enter 0 args, H⟩ { tmps := vs ++ Array.replicate (fn.ntmps - vs.size) undef, defers := [] } := by
            refine ⟨Fr.refl .., Mv.refl .., rfl, hr, by simp; omega, rfl, fun x => ?_⟩
            have := enter_R (w := w) (I := I) (ρ := ρ) (H := H) (n := 0) args 0 vs.toList (by simpa using hl) (fun j hj hv => by simpa using hvs j hj (by simpa using hv)) x
            simp only [Nat.zero_le, if_true, Nat.sub_zero] at this
            have e : (vs ++ Array.replicate (fn.ntmps - vs.size) undef).getD x undef = vs.toList.getD x undef := by
              simp only [Array.getD_eq_getD_getElem?, List.getD_eq_getElem?_getD, Array.getElem?_append, Array.getElem?_toList]
              split
              · rfl
              · rename_i hx
                rw [Array.getElem?_eq_none (xs := vs) (by omega)]
                simp only [Array.getElem?_replicate]
                split <;> rfl
            rw [e]
            exact this
          refine wp_mono (h c h1 _ w I ρ _ hs) ?_
          rintro e a' w' ⟨e', s', I', ρ', hr', hs', hq⟩
          have fin : (∃ v, resS s' rs = some v ∧ ∃ v' H', Clo s'.k v s'.H v' H' ∧ R (.ret v') H') → a'.defers = [] ∧ ∃ v, (results fn a'.tmps).run P w' = .ok v w' ∧ ∃ o H' I' ρ', R o H' ∧ Fr w I ρ w' I' ρ' ∧ Mv w I ρ H w' I' ρ' H' ∧ HRel w' I' ρ' H' ∧ OutR w' I' ρ' H' o (.returned v) := by
            rintro ⟨v, hv, v', H', hclo, hR⟩
            refine ⟨hs'.ds, ?_⟩
            obtain ⟨u, hrun, hsv⟩ : ∃ u, (results fn a'.tmps).run P w' = .ok u w' ∧ SVR w' I' ρ' s'.H v u := by
              unfold resS at hv
              split at hv
              · rename_i r
                obtain ⟨us, hus, hl', hall⟩ := resV_R (P := P) hs' h2 (vs := [v]) (by simp [resL, hv])
                match us, hl' with
                | [u], _ =>
                  refine ⟨u, ?_, hall 0 (by simp) (by simp)⟩
                  simp only [results, Array.mapM_eq_mapM_toList, Sem.run_bind, map_eq_pure_bind]
                  change ((Sem.run P (List.mapM (fun x : ResultVar => (match x with
                    | .tmp t => pure (a'.tmps.getD t undef)
                    | .cell b t => do loadVar t (← asAddr (a'.tmps.getD b undef)) : Sem Value)) fn.results.toList) w').andThen _).andThen _ = _
                  rw [hus]
                  simp
              · rename_i hne
                simp only [Option.map_eq_some_iff] at hv
                obtain ⟨svs, hsvs, rfl⟩ := hv
                obtain ⟨us, hus, hl', hall⟩ := resV_R (P := P) hs' h2 hsvs
                have hlen1 : us.length ≠ 1 := by
                  intro h1'
                  have h11 : svs.length = 1 := by omega
                  have hrl : ∀ {l : List RV} {ws : List SV}, resL s' l = some ws → ws.length = l.length := by
                    intro l
                    induction l with
                    | nil => intro ws h; simp only [resL, Option.some.injEq] at h; subst h; rfl
                    | cons r l ih =>
                      intro ws h
                      simp only [resL] at h
                      split at h
                      · rename_i h3 h4; obtain rfl := Option.some.inj h; simp [ih h4]
                      · cases h
                  have := hrl hsvs
                  rw [h11] at this
                  match rs, hne with
                  | [], _ => simp at this
                  | [r], hne => exact hne r rfl
                  | _ :: _ :: _, _ => simp at this
                refine ⟨.tuple us.toArray, ?_, .tup (by simpa using hl') fun i hi hv => by simpa using hall i hi (by simpa using hv)⟩
                simp only [results, Array.mapM_eq_mapM_toList, Sem.run_bind, map_eq_pure_bind]
                change ((Sem.run P (List.mapM (fun x : ResultVar => (match x with
                    | .tmp t => pure (a'.tmps.getD t undef)
                    | .cell b t => do loadVar t (← asAddr (a'.tmps.getD b undef)) : Sem Value)) fn.results.toList) w').andThen _).andThen _ = _
                rw [hus]
                simp [hlen1]
            obtain ⟨I'', ρ'', hfr, hmv, hh, hsv'⟩ := hclo w' I' ρ' u _ hs'.k hs'.mv hs'.h hsv
            exact ⟨u, hrun, .ret v', H', I'', ρ'', hR, hs'.fr.trans hfr, hmv, hh, hsv'⟩
          cases e' with
          | normal => cases e <;> simp only [exitR] at hr'; exact fin hq
          | ret => cases e <;> simp only [exitR] at hr'; exact fin hq
          | exit i => exact hq.elim
          | pan p =>
            cases e <;> simp only [exitR] at hr'
            subst hr'
            obtain ⟨H', hclo, hR⟩ := hq
            obtain ⟨I'', ρ'', hfr, hmv, hh, _⟩ := hclo w' I' ρ' undef _ hs'.k hs'.mv hs'.h .top
            exact ⟨hs'.ds, .pan p, H', I'', ρ'', hR, hs'.fr.trans hfr, hmv, hh, rfl⟩
        · cases hc
      · cases hc
    · cases hc
  · cases hc

theorem bod_of {f : Nat} {x : AFn} (hc : compF P f = some x) : Bod P f := by
  unfold compF at hc
  unfold Bod
  split at hc
  · rename_i fn hf
    split at hc
    · rename_i c hb
      split at hc
      · split at hc
        · rename_i hcond
          simp [hf, hb, hcond.2]
        · cases hc
      · cases hc
    · cases hc
  · cases hc
end
end Go.Proofs.YtbnelpgogjbgjaaGreat.Q
