/- Operations whose order is drawn, calls that write among them: whatever the order. -/
import Derived.Test.YtbnelpgogjbgjaaGreatCodQy
/- Operations whose order is drawn, calls that write among them: whatever the order. -/
set_option linter.unusedVariables false
namespace Go.Proofs.YtbnelpgogjbgjaaGreat.Q
open Go.RowKit

section
variable {P : Program} {N : Nat} {ds : List Deferred} {E : Ent} {ops : Array Oper} {xs : List AO} {k : Nat} {eff : Nat → Bool}

theorem env_self {v : Nat → SV} {t0 : List (Nat × SV)} {L : Nat → Bool} : Env v xs t0 k L (ovl v xs t0 L k) := fun _ => rfl
theorem env_congr {cl : List Nat} (hrd : Rd xs k cl) {v v' : Nat → SV} {t0 T : List (Nat × SV)} {L L' : Nat → Bool} (h : Env v xs t0 k L T) (hL : ∀ i, i < k → (L i = true ↔ L' i = true)) (hv : ∀ i, i < k → L i = true → v i = v' i) : Env v' xs t0 k L' T := by
  intro x
  by_cases hw : ∃ i, i < k ∧ L i = true ∧ (xs[i]?).bind (·.dst) = some x
  · obtain ⟨i, hi, hl, hd⟩ := hw
    rw [env_at hrd h hi hl hd, lk_hit hi ((hL i hi).1 hl) hd fun q hq hqd => hrd.uniq i hi x hd q hq hqd, hv i hi hl]
  · rw [env_no h fun i hi hl hd => hw ⟨i, hi, hl, hd⟩, lk_miss fun i hi hl hd => hw ⟨i, hi, (hL i hi).2 hl, hd⟩]

theorem mhead_any (hc : compOs P N ops ops.toList = some xs) (hcl : clOk ops.size (afterOf ops) (cls (afterOf ops)) = true) (htl : tailOk ops.size k (cls (afterOf ops)) = true) (hrd : Rd xs k (cls (afterOf ops))) (hkn : k ≤ ops.size)
    (hge : ∀ j, j < k → eff j = true → (aoAt xs j).guard = none) (Q : AExit → AState → Prop) (k0 : Nat) (t0 : List (Nat × SV)) :
    ∀ (m fuel : Nat), m + (ops.size - k) ≤ fuel → ∀ (pre post : List Nat) (v : Nat → SV) (T : List (Nat × SV)) (H : List AObj) (listed : Array Bool), listed.size = ops.size → (((List.range k).filter fun j => !listed.getD j false).length = m) → (∀ j, k ≤ j → listed.getD j false = false) →
      (∀ j, j < ops.size → listed.getD j false = true → ∀ q ∈ (afterOf ops).getD j [], listed.getD q false = true) →
      (∀ j, j < k → j ∈ pre ++ post) → (∀ j ∈ pre ++ post, j < k) → (pre ++ post).Nodup → (∀ i ∈ pre, ∀ j ∈ post, anc (cls (afterOf ops)) j i = false) → mTopo eff (cls (afterOf ops)) post = true → (post = [] ∨ ∃ r rs, post = r :: rs ∧ eff r = true) →
      (∀ i ∈ pre, ∀ a, a < k → anc (cls (afterOf ops)) a i = true → a ∈ pre) → Env v xs t0 k (fun i => decide (i ∈ pre)) T →
      (∀ i ∈ pre, listed.getD i false = true ∨ (eff i = false ∧ okA P (aoAt xs i) ⟨k0, T, H⟩ (v i))) → (∀ i, i < k → listed.getD i false = true → i ∈ pre) →
      maops P (mHead xs eff (cls (afterOf ops)) post pre) (xs.drop k) Q ⟨k0, T, H⟩ →
      ∀ (w : World) (I : Nat → Prop) (ρ : List (Option Nat)) (a : Act), SRel N ds E w I ρ ⟨k0, ovl v xs t0 (fun i => listed.getD i false) k, H⟩ a → wpAny P .any ops (Post N ds E Q) fuel listed a w := by
  obtain ⟨hl, hx⟩ := compOs_R hc
  simp only [Array.length_toList] at hl
  generalize hcle : cls (afterOf ops) = cl at *
  intro m
  induction m with
  | zero =>
    intro fuel hf pre post v T H listed hls hcount hgek hdown hcov hlt hnd hpj htp hpost hanc he hok hlp hm w I ρ a h
    have hall : ∀ j, j < k → listed.getD j false = true := by
      intro j hj
      have : (List.range k).filter (fun j => !listed.getD j false) = [] := List.eq_nil_of_length_eq_zero hcount
      have h1 : j ∉ (List.range k).filter (fun j => !listed.getD j false) := by rw [this]; simp
      simp only [List.mem_filter, List.mem_range, hj, true_and, Bool.not_eq_true', Bool.not_eq_false] at h1
      exact h1
    have hp : post = [] := by
      cases post with
      | nil => rfl
      | cons r rs =>
        have hrk : r < k := hlt r (by simp)
        have := hlp r hrk (hall r hrk)
        rw [List.nodup_append] at hnd
        exact absurd rfl (hnd.2.2 r this r (by simp))
    subst hp
    simp only [mHead, maops] at hm
    refine tail_any hc (by rw [hcle]; exact hcl) (by rw [hcle]; exact htl) Q (ops.size - k) k (by omega) (Nat.le_refl _) fuel (by omega) listed hls (fun j hj => ?_) ⟨k0, T, H⟩ w I ρ a (h.same rfl rfl fun x => ?_) hm
    · constructor
      · intro hj1
        by_cases hh : j < k
        · exact hh
        · rw [hgek j (by omega)] at hj1; cases hj1
      · exact hall j
    · have h2 := env_congr hrd he (L' := fun i => listed.getD i false) (v' := v) (fun i hi => by simp [hall i hi]; simpa using hcov i hi) (fun _ _ _ => rfl)
      exact h2 x
  | succ m ih =>
    intro fuel hf pre post v T H listed hls hcount hgek hdown hcov hlt hnd hpj htp hpost hanc he hok hlp hm w I ρ a h
    obtain ⟨fuel, rfl⟩ : ∃ f, fuel = f + 1 := ⟨fuel - 1, by omega⟩
    have hex : ∃ j, j < k ∧ listed.getD j false = false := by
      have : (List.range k).filter (fun j => !listed.getD j false) ≠ [] := fun e => by rw [e] at hcount; simp at hcount
      obtain ⟨j, hj⟩ := List.exists_mem_of_ne_nil _ this
      simp only [List.mem_filter, List.mem_range, Bool.not_eq_true'] at hj
      exact ⟨j, hj⟩
    refine ⟨fun hr => ?_, fun j hj => ?_⟩
    · exfalso
      obtain ⟨j, ⟨hjk, hjl⟩, hmin⟩ : ∃ j, (j < k ∧ listed.getD j false = false) ∧ ∀ q, q < j → ¬ (q < k ∧ listed.getD q false = false) := by
        obtain ⟨j, hj⟩ := hex
        induction j using Nat.strongRecOn with
        | _ j ihj =>
          by_cases hh : ∃ q, q < j ∧ (q < k ∧ listed.getD q false = false)
          · obtain ⟨q, hq, hq2⟩ := hh
            exact ihj q hq hq2
          · exact ⟨j, hj, fun q hq hq2 => hh ⟨q, hq, hq2⟩⟩
      have hjn : j < ops.size := by omega
      have : j ∈ Region.ready .any ops listed := by
        rw [mem_ready]
        refine ⟨by simpa [Array.getD, hls, hjn] using hjl, ops[j], by simp [hjn], fun e he hb => ?_⟩
        have h1 := (clOk_R (by rw [← hcle] at hcl; exact hcl) hjn).1 e.on ((after_get (by simp [hjn]) e.on).2 ⟨e, he, hb, rfl⟩)
        have := hmin e.on h1
        cases hh : listed.getD e.on false with
        | true => rfl
        | false => exact absurd ⟨by omega, hh⟩ this
      rw [hr] at this
      cases this
    · obtain ⟨h1, o, ho, h2⟩ := mem_ready.1 hj
      have hjn : j < ops.size := (Array.getElem?_eq_some_iff.1 ho).1
      have hafter : ∀ q ∈ (afterOf ops).getD j [], listed.getD q false = true := fun q hq => by
        obtain ⟨e', he1, he2, rfl⟩ := (after_get ho q).1 hq
        exact h2 e' he1 he2
      have hahead : ∀ i, i < ops.size → anc cl i j = true → listed.getD i false = true := fun i hi ha => ahead_R (by rw [← hcle] at hcl; exact hcl) hdown j hjn hafter i hi (by rw [hcle]; exact ha)
      have hjk : j < k := by
        by_cases hh : j < k
        · exact hh
        · exfalso
          obtain ⟨q, hq1, hq2⟩ := hex
          unfold tailOk at htl
          have := List.all_eq_true.1 htl j (List.mem_range.2 hjn)
          simp only [Bool.or_eq_true, decide_eq_true_eq] at this
          rcases this with h3 | h3
          · omega
          · have := hahead q (by omega) (List.all_eq_true.1 h3 q (List.mem_range.2 (by omega)))
            rw [hq2] at this; cases this
      have hjl : listed.getD j false = false := by simpa [Array.getD, hls, hjn] using h1
      have hlx : j < xs.length := by omega
      have hci := hx j (by simpa using hjn) hlx
      obtain ⟨d, hd, hd'⟩ := hrd.dst j hjk
      have hao : aoAt xs j = xs[j] := aoAt_get hlx
      have hset : ∀ q, (listed.setIfInBounds j true).getD q false = if q = j then true else listed.getD q false := by
        intro q
        by_cases e : q = j
        · subst e; simp [Array.getD, hls, hjn]
        · rw [getD_set_ne false (fun h => e h.symm), if_neg e]
      have hcount' : ((List.range k).filter fun q => !(listed.setIfInBounds j true).getD q false).length = m := by
        have : (List.range k).filter (fun q => !(listed.setIfInBounds j true).getD q false) = ((List.range k).filter (fun q => !listed.getD q false)).erase j := by
          have hnd' : ((List.range k).filter (fun q => !listed.getD q false)).Nodup := List.Nodup.sublist List.filter_sublist List.nodup_range
          rw [List.Nodup.erase_eq_filter hnd', List.filter_filter]
          congr 1
          funext q
          rw [hset q]
          by_cases e : q = j
          · simp [e]
          · simp [e]
        rw [this, List.length_erase_of_mem (by simp only [List.mem_filter, List.mem_range]; exact ⟨hjk, by rw [hjl]; rfl⟩), hcount]
        rfl
      have hgek' : ∀ q, k ≤ q → (listed.setIfInBounds j true).getD q false = false := fun q hq => by rw [hset q, if_neg (by omega)]; exact hgek q hq
      have hdown' : ∀ q, q < ops.size → (listed.setIfInBounds j true).getD q false = true → ∀ p ∈ (afterOf ops).getD q [], (listed.setIfInBounds j true).getD p false = true := fun q hq hql p hp => by
        by_cases e : q = j
        · subst e
          exact getD_set_true (hafter p hp)
        · rw [hset q, if_neg e] at hql
          exact getD_set_true (hdown q hq hql p hp)
      have henv' : ∀ u, Env (fun i => if i = j then u else v i) xs t0 k (fun i => (listed.setIfInBounds j true).getD i false) ((d, u) :: ovl v xs t0 (fun i => listed.getD i false) k) := fun u =>
        env_put hrd env_self hjk hd (fun i _ _ hne => by simp [hne]) (by simp) fun i _ => by rw [hset i]; by_cases e : i = j <;> simp [e]
      by_cases hjp : j ∈ pre
      · -- one that was told already
        obtain ⟨hej, hokj⟩ : eff j = false ∧ okA P (aoAt xs j) ⟨k0, T, H⟩ (v j) := by
          rcases hok j hjp with h3 | h3
          · rw [hjl] at h3; cases h3
          · exact h3
        have hokl : okA P (aoAt xs j) ⟨k0, ovl v xs t0 (fun i => listed.getD i false) k, H⟩ (v j) :=
          okA_congr (env_slots hrd he env_self hjk fun i hi ha hne => ⟨by simpa using hanc j hjp i hi ha, hahead i (by omega) ha, rfl⟩) hokj
        obtain ⟨b, hg, hb⟩ := hokl
        rw [hao] at hg hb hd'
        refine one_op (o := ops[j]) (by simp [hjn]) (by simpa using hci) h hg (K := fun v' H' => v' = v j ∧ H' = H) (Qp := fun _ _ => False) (by
          cases b with
          | true => simp only [if_true] at hb ⊢; exact hb
          | false => simp only [Bool.false_eq_true, if_false] at hb ⊢; exact ⟨hb.symm, trivial⟩) (fun sv H' w' I' ρ' a' hk' hs => ?_) (fun p H' w' I' ρ' hq hs => hq.elim)
        obtain ⟨rfl, rfl⟩ := hk'
        refine ih fuel (by omega) pre post v T H' _ (by simp [hls]) hcount' hgek' hdown' hcov hlt hnd hpj htp hpost hanc he (fun i hi => ?_) (fun i hi hil => ?_) hm w' I' ρ' a' (hs.same (by rw [hd']; rfl) (by rw [hd']; rfl) fun x => ?_)
        · rcases hok i hi with h3 | h3
          · left; rw [hset i]; split; rfl; exact h3
          · exact .inr h3
        · rw [hset i] at hil
          by_cases e : i = j
          · rw [e]; exact hjp
          · rw [if_neg e] at hil; exact hlp i hi hil
        · rw [hd']
          have h3 := env_congr hrd (henv' (v j)) (L' := fun i => (listed.setIfInBounds j true).getD i false) (v' := v) (fun _ _ => Iff.rfl) (fun i _ _ => by split <;> simp_all)
          exact (h3 x).symm
      · -- the next call
        obtain ⟨r, rs, rfl, her⟩ : ∃ r rs, post = r :: rs ∧ eff r = true := by
          rcases hpost with rfl | h3
          · have := hcov j hjk; simp at this; exact absurd this hjp
          · exact h3
        simp only [mTopo, Bool.and_eq_true, List.all_eq_true] at htp
        have hrj : j = r := by
          have := hcov j hjk
          simp only [List.mem_append, List.mem_cons] at this
          rcases this with h3 | h3 | h3
          · exact absurd h3 hjp
          · exact h3
          · exfalso
            have h4 := (htp.1 j h3).2
            simp only [her, Bool.not_true, Bool.false_or] at h4
            have h5 := hahead r (by have := hlt r (by simp); omega) h4
            have h6 := hlp r (hlt r (by simp)) h5
            rw [List.nodup_append] at hnd
            exact hnd.2.2 r h6 r (by simp) rfl
        subst hrj
        simp only [mHead, her, if_true, maops] at hm
        have hgn := hge j hjk her
        have hslots : ∀ t ∈ (aoAt xs j).slots, lk t T = lk t (ovl v xs t0 (fun i => listed.getD i false) k) :=
          env_slots hrd he env_self hjk fun i hi ha hne => ⟨by simpa using hlp i hi (hahead i (by omega) ha), hahead i (by omega) ha, rfl⟩
        have hm' : aop P (aoAt xs j).op (evl (ovl v xs t0 (fun i => listed.getD i false) k)) H (fun v1 H1 => againA P ⟨k0, T, H1⟩ ((pre.filter fun i => !eff i && !anc cl i j).map (aoAt xs)) ∧ maops P (mHead xs eff cl rs (pre ++ [j])) (xs.drop k) Q (AState.put ⟨k0, T, H1⟩ (aoAt xs j).dst v1)) (fun p H1 => ∀ t, Q (.pan p) ⟨k0, t, H1⟩) := by
          rw [← aop_congr fun t ht => hslots t (by simp [AO.slots, ht])]
          exact hm
        rw [hao] at hgn hm' hd'
        refine one_op (o := ops[j]) (by simp [hjn]) (by simpa using hci) h (b := true) (by rw [hgn]; rfl) (K := fun v1 H1 => againA P ⟨k0, T, H1⟩ ((pre.filter fun i => !eff i && !anc cl i j).map (aoAt xs)) ∧ maops P (mHead xs eff cl rs (pre ++ [j])) (xs.drop k) Q (AState.put ⟨k0, T, H1⟩ (xs[j]).dst v1)) (Qp := fun p H1 => ∀ t, Q (.pan p) ⟨k0, t, H1⟩) (by
          simp only [if_true]; exact hm') (fun sv H1 w' I' ρ' a' hk' hs => ?_) (fun p H1 w' I' ρ' hq hs => ⟨.pan p, _, I', ρ', rfl, hs, hq _⟩)
        obtain ⟨hag, hm1⟩ := hk'
        rw [hd'] at hm1 hs
        change maops P (mHead xs eff cl rs (pre ++ [j])) (xs.drop k) Q ⟨k0, (d, sv) :: T, H1⟩ at hm1
        have hin : ∀ i, i < k → anc cl i j = true → i ∈ pre := fun i hi ha => hlp i hi (hahead i (by omega) ha)
        let v1 : Nat → SV := fun i => if i = j then sv else v i
        have hv1 : ∀ i, i ≠ j → v1 i = v i := fun i h => by simp only [v1]; rw [if_neg h]
        have hne : ∀ i ∈ pre, i ≠ j := fun i hi e => hjp (by rw [← e]; exact hi)
        have he1 : Env v1 xs t0 k (fun i => decide (i ∈ pre ++ [j])) ((d, sv) :: T) := env_put hrd he hjk hd (fun i _ _ hne => hv1 i hne) (by simp [v1]) fun i _ => by simp
        obtain ⟨qs, rs', v', T', e1, e2, e3, e4, e5, e6, e7⟩ := m_adv hrd (eff := eff) (R := fun i => (listed.setIfInBounds j true).getD i false = true) (H := H1) rs (pre ++ [j]) v1 ((d, sv) :: T) (by simpa using hlt) (by simpa using hnd) (fun i hi q hq => by
            rcases List.mem_append.1 hi with hi | hi
            · exact hpj i hi q (by simp [hq])
            · obtain rfl : i = j := by simpa using hi
              have := (htp.1 q hq).1
              simpa using this) htp.2 (fun q hq i hi ha => by have := hcov i hi; simpa using this) he1 (fun i hi => by
            rcases List.mem_append.1 hi with hi | hi
            · rcases hok i hi with h3 | h3
              · left; rw [hset i]; split; rfl; exact h3
              · by_cases hli : listed.getD i false = true
                · left; rw [hset i]; split; rfl; exact hli
                · right
                  have hik : i < k := hlt i (by simp [hi])
                  have hai : anc cl i j = false := by
                    cases hh : anc cl i j with
                    | false => rfl
                    | true => exact absurd (hahead i (by omega) hh) hli
                  obtain ⟨di, hdi, hdi'⟩ := hrd.dst i hik
                  have h5 := againA_get hag (List.mem_map.2 ⟨i, List.mem_filter.2 ⟨hi, by rw [h3.1, hai]; rfl⟩, rfl⟩) hdi'
                  have h6 : lk di T = v i := env_at hrd he hik (by simp [hi]) hdi
                  dsimp only at h5
                  rw [h6, ← hv1 i (hne i hi)] at h5
                  refine okA_congr (env_slots hrd he he1 hik fun q hq hqa _ => ?_) h5
                  have hqp := hanc i hi q hq hqa
                  exact ⟨by simpa using hqp, by simp [hqp], (hv1 q (hne q hqp)).symm⟩
            · obtain rfl : i = j := by simpa using hi
              left; rw [hset i, if_pos rfl]) (fun i hi q hq hqa => by
            rcases List.mem_append.1 hi with hi | hi
            · simp [hanc i hi q hq hqa]
            · obtain rfl : i = j := by simpa using hi
              simp [hin q hq hqa]) hm1
        subst e1
        refine ih fuel (by omega) (pre ++ [j] ++ qs) rs' v' T' H1 _ (by simp [hls]) hcount' hgek' hdown' (fun q hq => by have := hcov q hq; simpa using this) (fun q hq => hlt q (by simpa using hq)) (by simpa using hnd) ?_ ?_ e2 ?_ e5 ?_ ?_ e7 w' I' ρ' a' (hs.same rfl rfl fun x => ?_)
        · -- what follows stands ahead of nothing
          intro i hi q hq
          have htopo : ∀ (a b : List Nat), mTopo eff cl (a ++ b) = true → ∀ x ∈ a, ∀ y ∈ b, anc cl y x = false := by
            intro a
            induction a with
            | nil => intro b _ x hx; simp at hx
            | cons z a iha =>
              intro b hb x hx y hy
              simp only [List.cons_append, mTopo, Bool.and_eq_true, List.all_eq_true] at hb
              rcases List.mem_cons.1 hx with rfl | hx
              · have := (hb.1 y (by simp [hy])).1; simpa using this
              · exact iha b hb.2 x hx y hy
          simp only [List.append_assoc, List.mem_append, List.mem_singleton] at hi
          rcases hi with hi | hi | hi
          · exact hpj i hi q (by simp [hq])
          · subst hi; have := (htp.1 q (by simp [hq])).1; simpa using this
          · exact htopo qs rs' htp.2 i hi q hq
        · have hdrop : ∀ (a b : List Nat), mTopo eff cl (a ++ b) = true → mTopo eff cl b = true := by
            intro a
            induction a with
            | nil => intro b hb; exact hb
            | cons z a iha => intro b hb; simp only [List.cons_append, mTopo, Bool.and_eq_true] at hb; exact iha b hb.2
          exact hdrop qs rs' htp.2
        · intro i hi q hq hqa
          have hqc := hcov q hq
          simp only [List.mem_append, List.mem_cons] at hqc
          simp only [List.append_assoc, List.mem_append, List.mem_singleton] at hi ⊢
          rcases hi with hi | hi | hi
          · exact .inl (hanc i hi q hq hqa)
          · subst hi; exact .inl (hin q hq hqa)
          · rcases hqc with h3 | h3 | h3 | h3
            · exact .inl h3
            · exact .inr (.inl h3)
            · exact .inr (.inr h3)
            · exfalso
              have htopo : ∀ (a b : List Nat), mTopo eff cl (a ++ b) = true → ∀ x ∈ a, ∀ y ∈ b, anc cl y x = false := by
                intro a
                induction a with
                | nil => intro b _ x hx; simp at hx
                | cons z a iha =>
                  intro b hb x hx y hy
                  simp only [List.cons_append, mTopo, Bool.and_eq_true, List.all_eq_true] at hb
                  rcases List.mem_cons.1 hx with rfl | hx
                  · have := (hb.1 y (by simp [hy])).1; simpa using this
                  · exact iha b hb.2 x hx y hy
              rw [htopo qs rs' htp.2 i hi q h3] at hqa
              cases hqa
        · intro i hi
          rcases e6 i hi with h3 | h3
          · exact .inl h3
          · by_cases hli : (listed.setIfInBounds j true).getD i false = true
            · exact .inl hli
            · refine .inr ⟨?_, h3⟩
              simp only [List.append_assoc, List.mem_append, List.mem_singleton] at hi
              rcases hi with hi | hi | hi
              · rcases hok i hi with h4 | h4
                · rw [hset i, if_neg (hne i hi)] at hli; exact absurd h4 hli
                · exact h4.1
              · subst hi; rw [hset i, if_pos rfl] at hli; exact absurd rfl hli
              · exact e3 i hi
        · intro i hi hil
          rw [hset i] at hil
          by_cases e : i = j
          · subst e; simp
          · rw [if_neg e] at hil; simp [hlp i hi hil]
        · have h3 := env_congr hrd (henv' sv) (L' := fun i => (listed.setIfInBounds j true).getD i false) (v' := v') (fun _ _ => Iff.rfl) (fun i hi hil => by
            rw [hset i] at hil
            by_cases e : i = j
            · subst e
              rw [e4 i (by simp)]
            · rw [if_neg e] at hil
              rw [e4 i (by simp [hlp i hi hil])])
          exact (h3 x).symm
end
end Go.Proofs.YtbnelpgogjbgjaaGreat.Q
