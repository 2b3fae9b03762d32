/- Operations whose order is drawn, calls that write among them. -/
import Derived.Test.YtbnelpgogjbgjaaGreatCodQo
/- Operations whose order is drawn, calls that write among them. -/
set_option linter.unusedVariables false
namespace Go.Proofs.YtbnelpgogjbgjaaGreat.Q
open Go.RowKit

section
variable {P : Program}
theorem aguard_congr {g : Option (Nat × Bool)} {s1 s2 : AState} (h : ∀ t want, g = some (t, want) → lk t s1.t = lk t s2.t) : aguard s1 g = aguard s2 g := by
  unfold aguard
  cases g with
  | none => rfl
  | some p => obtain ⟨t, want⟩ := p; simp only [h t want rfl]
theorem okA_congr {o : AO} {k : Nat} {t1 t2 : List (Nat × SV)} {H : List AObj} {v : SV} (h : ∀ t ∈ o.slots, lk t t1 = lk t t2) (ha : okA P o ⟨k, t1, H⟩ v) : okA P o ⟨k, t2, H⟩ v := by
  obtain ⟨b, hg, hb⟩ := ha
  refine ⟨b, ?_, ?_⟩
  · rw [← hg]
    exact aguard_congr fun t want e => (h t (by simp [AO.slots, e])).symm
  · cases b with
    | true =>
      simp only [if_true] at hb ⊢
      change aop P o.op (evl t1) H _ _ at hb
      change aop P o.op (evl t2) H _ _
      rw [← aop_congr fun t ht => h t (by simp [AO.slots, ht])]
      exact hb
    | false =>
      simp only [Bool.false_eq_true, if_false] at hb ⊢
      exact hb
theorem againA_get {s : AState} {os : List AO} (h : againA P s os) {o : AO} (ho : o ∈ os) {d : Nat} (hd : o.dst = some d) : okA P o s (lk d s.t) := by
  induction os with
  | nil => simp at ho
  | cons x xs ih =>
    rcases List.mem_cons.1 ho with rfl | ho
    · exact h.1 d hd
    · exact ih h.2 ho
theorem aoAt_get {xs : List AO} {j : Nat} (h : j < xs.length) : aoAt xs j = xs[j] := by
  simp [aoAt, List.getD_eq_getElem?_getD, h]
end

section
variable {P : Program} {N : Nat} {ds : List Deferred} {E : Ent} {ops : Array Oper} {xs : List AO} {k : Nat} {cl : List Nat} {eff : Nat → Bool}

/-- The slots behind those of pre. -/
def Env (v : Nat → SV) (xs : List AO) (t0 : List (Nat × SV)) (k : Nat) (L : Nat → Bool) (T : List (Nat × SV)) : Prop := ∀ x, lk x T = lk x (ovl v xs t0 L k)
/-- The writer of a slot that an operation looks at stands ahead of it. -/
structure Rd (xs : List AO) (k : Nat) (cl : List Nat) : Prop where
  uniq : ∀ j, j < k → ∀ t, (xs[j]?).bind (·.dst) = some t → ∀ i, i < k → (xs[i]?).bind (·.dst) = some t → i = j
  ahead : ∀ j, j < k → ∀ t ∈ (aoAt xs j).slots, ∀ i, i < k → (xs[i]?).bind (·.dst) = some t → anc cl i j = true ∧ i ≠ j
  dst : ∀ j, j < k → ∃ d, (xs[j]?).bind (·.dst) = some d ∧ (aoAt xs j).dst = some d
theorem env_at (hrd : Rd xs k cl) {v : Nat → SV} {t0 T : List (Nat × SV)} {L : Nat → Bool} (h : Env v xs t0 k L T) {i x : Nat} (hi : i < k) (hL : L i = true) (hd : (xs[i]?).bind (·.dst) = some x) : lk x T = v i := by
  rw [h x, lk_hit hi hL hd fun q hq hqd => hrd.uniq i hi x hd q hq hqd]
theorem env_no {v : Nat → SV} {t0 T : List (Nat × SV)} {L : Nat → Bool} (h : Env v xs t0 k L T) {x : Nat} (hn : ∀ i, i < k → L i = true → (xs[i]?).bind (·.dst) ≠ some x) : lk x T = lk x t0 := by
  rw [h x, lk_miss hn]
theorem env_put (hrd : Rd xs k cl) {v v' : Nat → SV} {t0 T : List (Nat × SV)} {L L' : Nat → Bool} (h : Env v xs t0 k L T) {j d : Nat} {u : SV} (hj : j < k) (hd : (xs[j]?).bind (·.dst) = some d) (hv : ∀ i, i < k → L i = true → i ≠ j → v' i = v i) (hu : v' j = u)
    (hL' : ∀ i, i < k → (L' i = true ↔ L i = true ∨ i = j)) : Env v' xs t0 k L' ((d, u) :: T) := by
  intro x
  simp only [lk]
  by_cases e : x = d
  · subst e
    rw [if_pos rfl, lk_hit hj ((hL' j hj).2 (.inr rfl)) hd fun q hq hqd => hrd.uniq j hj x hd q hq hqd, hu]
  · rw [if_neg e]
    by_cases hw : ∃ i, i < k ∧ L i = true ∧ (xs[i]?).bind (·.dst) = some x
    · obtain ⟨i, hi, hL, hdi⟩ := hw
      have hne : i ≠ j := fun e' => by subst e'; rw [hd] at hdi; exact e (Option.some.inj hdi).symm
      rw [env_at hrd h hi hL hdi, lk_hit hi ((hL' i hi).2 (.inl hL)) hdi fun q hq hqd => hrd.uniq i hi x hdi q hq hqd, hv i hi hL hne]
    · rw [env_no h fun i hi hL hdi => hw ⟨i, hi, hL, hdi⟩, lk_miss fun i hi hL hdi => ?_]
      rcases (hL' i hi).1 hL with h1 | rfl
      · exact hw ⟨i, hi, h1, hdi⟩
      · rw [hd] at hdi; exact e (Option.some.inj hdi).symm
/-- What an operation looks at does not turn, whoever else has come. -/
theorem env_slots (hrd : Rd xs k cl) {v v' : Nat → SV} {t0 T T' : List (Nat × SV)} {L L' : Nat → Bool} (h : Env v xs t0 k L T) (h' : Env v' xs t0 k L' T') {j : Nat} (hj : j < k)
    (ha : ∀ i, i < k → anc cl i j = true → i ≠ j → L i = true ∧ L' i = true ∧ v i = v' i) : ∀ t ∈ (aoAt xs j).slots, lk t T = lk t T' := by
  intro t ht
  by_cases hw : ∃ i, i < k ∧ (xs[i]?).bind (·.dst) = some t
  · obtain ⟨i, hi, hd⟩ := hw
    obtain ⟨h1, h2⟩ := hrd.ahead j hj t ht i hi hd
    obtain ⟨h3, h4, h5⟩ := ha i hi h1 h2
    rw [env_at hrd h hi h3 hd, env_at hrd h' hi h4 hd, h5]
  · rw [env_no h fun i hi _ hd => hw ⟨i, hi, hd⟩, env_no h' fun i hi _ hd => hw ⟨i, hi, hd⟩]

/-- Up to the next call. -/
theorem m_adv (hrd : Rd xs k cl) {Q : AExit → AState → Prop} {k0 : Nat} {t0 : List (Nat × SV)} {tl : List AO} {R : Nat → Prop} {H : List AObj} : ∀ (js pre : List Nat) (v : Nat → SV) (T : List (Nat × SV)), (∀ i ∈ pre ++ js, i < k) → (pre ++ js).Nodup →
    (∀ i ∈ pre, ∀ j ∈ js, anc cl j i = false) → mTopo eff cl js = true → (∀ j ∈ js, ∀ i, i < k → anc cl i j = true → i ∈ pre ++ js) →
    Env v xs t0 k (fun i => decide (i ∈ pre)) T → (∀ i ∈ pre, R i ∨ okA P (aoAt xs i) ⟨k0, T, H⟩ (v i)) → (∀ i ∈ pre, ∀ a, a < k → anc cl a i = true → a ∈ pre) →
    maops P (mHead xs eff cl js pre) tl Q ⟨k0, T, H⟩ →
    ∃ qs rs v' T', js = qs ++ rs ∧ (rs = [] ∨ ∃ r rs', rs = r :: rs' ∧ eff r = true) ∧ (∀ q ∈ qs, eff q = false) ∧ (∀ i ∈ pre, v' i = v i) ∧ Env v' xs t0 k (fun i => decide (i ∈ pre ++ qs)) T' ∧
      (∀ i ∈ pre ++ qs, R i ∨ okA P (aoAt xs i) ⟨k0, T', H⟩ (v' i)) ∧ maops P (mHead xs eff cl rs (pre ++ qs)) tl Q ⟨k0, T', H⟩ := by
  intro js
  induction js with
  | nil =>
    intro pre v T _ _ _ _ _ he hok _ hm
    exact ⟨[], [], v, T, rfl, .inl rfl, by simp, fun _ _ => rfl, by simpa using he, by simpa using hok, by simpa using hm⟩
  | cons j js ih =>
    intro pre v T hk hnd hpj htp hcl he hok hanc hm
    have hjk : j < k := hk j (by simp)
    have hjn : j ∉ pre := by
      intro hj
      rw [List.nodup_append] at hnd
      exact hnd.2.2 j hj j (by simp) rfl
    cases hef : eff j with
    | true => exact ⟨[], j :: js, v, T, rfl, .inr ⟨j, js, rfl, hef⟩, by simp, fun _ _ => rfl, by simpa using he, by simpa using hok, by simpa using hm⟩
    | false =>
      simp only [mHead, hef, Bool.false_eq_true, if_false, maops] at hm
      obtain ⟨u, hu, hm⟩ := hm
      obtain ⟨d, hd, hd'⟩ := hrd.dst j hjk
      simp only [mTopo, Bool.and_eq_true, List.all_eq_true] at htp
      have hin : ∀ i, i < k → anc cl i j = true → i ≠ j → i ∈ pre := fun i hi ha hne => by
        have := hcl j (by simp) i hi ha
        simp only [List.mem_append, List.mem_cons] at this
        rcases this with h | h | h
        · exact h
        · exact absurd h hne
        · have := (htp.1 i h).1
          simp [ha] at this
      let v1 : Nat → SV := fun i => if i = j then u else v i
      have hv1 : ∀ i, i ≠ j → v1 i = v i := fun i h => by simp only [v1]; rw [if_neg h]
      have he1 : Env v1 xs t0 k (fun i => decide (i ∈ pre ++ [j])) ((d, u) :: T) := env_put hrd he hjk hd (fun i _ _ hne => hv1 i hne) (by simp [v1]) fun i _ => by simp
      have hput : (AState.put ⟨k0, T, H⟩ (aoAt xs j).dst u) = ⟨k0, (d, u) :: T, H⟩ := by rw [hd']; rfl
      rw [hput] at hm
      have hok1 : ∀ i ∈ pre ++ [j], R i ∨ okA P (aoAt xs i) ⟨k0, (d, u) :: T, H⟩ (v1 i) := by
        intro i hi
        rcases List.mem_append.1 hi with hi | hi
        · have hik : i < k := hk i (by simp [hi])
          have hne : i ≠ j := fun e => hjn (by rw [← e]; exact hi)
          rcases hok i hi with h | h
          · exact .inl h
          · refine .inr ?_
            rw [hv1 i hne]
            refine okA_congr (env_slots hrd he he1 hik fun a ha haa han => ?_) h
            have hap := hanc i hi a ha haa
            have haj : a ≠ j := fun e => hjn (by rw [← e]; exact hap)
            exact ⟨by simpa using hap, by simp [hap], (hv1 a haj).symm⟩
        · obtain rfl : i = j := by simpa using hi
          refine .inr ?_
          have : v1 i = u := by simp [v1]
          rw [this]
          refine okA_congr (env_slots hrd he he1 hjk fun a ha haa han => ?_) hu
          have hap := hin a ha haa han
          exact ⟨by simpa using hap, by simp [hap], (hv1 a han).symm⟩
      obtain ⟨qs, rs, v', T', e1, e2, e3, e4, e5, e6, e7⟩ := ih (pre ++ [j]) v1 ((d, u) :: T) (by simpa using hk) (by simpa using hnd) (fun i hi q hq => by
          rcases List.mem_append.1 hi with hi | hi
          · exact hpj i hi q (by simp [hq])
          · obtain rfl : i = j := by simpa using hi
            have := (htp.1 q hq).1
            simpa using this) htp.2 (fun q hq i hi ha => by have := hcl q (by simp [hq]) i hi ha; simpa using this) he1 hok1 (fun i hi a ha haa => by
          rcases List.mem_append.1 hi with hi | hi
          · simp [hanc i hi a ha haa]
          · obtain rfl : i = j := by simpa using hi
            by_cases hne : a = i
            · simp [hne]
            · simp [hin a ha haa hne]) hm
      refine ⟨j :: qs, rs, v', T', by rw [e1]; rfl, e2, fun q hq => ?_, fun i hi => ?_, by simpa using e5, by simpa using e6, by simpa using e7⟩
      · rcases List.mem_cons.1 hq with rfl | hq
        · exact hef
        · exact e3 q hq
      · rw [e4 i (by simp [hi]), hv1 i fun e => hjn (by rw [← e]; exact hi)]
end
end Go.Proofs.YtbnelpgogjbgjaaGreat.Q
