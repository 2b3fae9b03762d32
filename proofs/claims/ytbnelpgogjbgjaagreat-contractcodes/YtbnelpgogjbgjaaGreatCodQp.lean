/- Code, loops, functions: the walk's rules. -/
import Derived.Test.YtbnelpgogjbgjaaGreatCodQz
import Derived.LoopN
/- Code, loops, functions: the walk's rules. -/
set_option linter.unusedVariables false
set_option linter.unusedSimpArgs false
namespace Go.Proofs.YtbnelpgogjbgjaaGreat.Q
open Go.RowKit

def thenQ (K : AState → Prop) (Q : AExit → AState → Prop) : AExit → AState → Prop
  | .normal, s => K s
  | e, s => Q e s
def blockQ (id : Nat) (Q : AExit → AState → Prop) : AExit → AState → Prop
  | .exit i, s => if i = id then Q .normal s else Q (.exit i) s
  | e, s => Q e s

/-- What the code asks of a state. -/
def W (P : Program) (N : Nat) (ds : List Deferred) : ACode → (AExit → AState → Prop) → AState → Prop
  | .skip, Q, s => Q .normal s
  | .reg ops, Q, s => aops P ops Q s
  | .dreg k ops, Q, s => daops P k ops Q s
  | .mreg hd tl, Q, s => maops P hd tl Q s
  | .seq a b, Q, s => W P N ds a (thenQ (W P N ds b Q) Q) s
  | .cond c a b, Q, s => match s.ev c with
    | .c (.sc (.bool t)) => if t then W P N ds a Q s else W P N ds b Q s
    | _ => False
  | .block id c, Q, s => W P N ds c (blockQ id Q) s
  | .loop c, Q, s => AW P N ds (.loop c) Q s
  | .exit id, Q, s => Q (.exit id) s
  | .ret, Q, s => Q .ret s

section
variable {P : Program} {N : Nat} {ds : List Deferred}

theorem AWp.wp {c : Code} {Q : AExit → AState → Prop} {s : AState} (h : AWp P N ds c Q s) {E : Ent} {w : World} {I : Nat → Prop} {ρ : List (Option Nat)} {a : Act} (hs : SRel N ds E w I ρ s a) : c.wp P (Post N ds E Q) a w := h E w I ρ a hs

theorem W_sound (hm : P.follows .mixedOrders = true) : ∀ (c : Code) {ac : ACode} {Q : AExit → AState → Prop} {s : AState}, comp P N c = some ac → W P N ds ac Q s → AWp P N ds c Q s := by
  intro c
  induction c with
  | skip =>
    intro ac Q s hc h E w I ρ a hs
    simp only [comp, Option.some.injEq] at hc
    subst hc
    exact wp_skip ⟨.normal, s, I, ρ, trivial, hs, h⟩
  | region id ops draw =>
    intro ac Q s hc h E w I ρ a hs
    simp only [comp] at hc
    split at hc
    · rename_i l hl
      have hlen := (compOs_R hl).1
      simp only [Array.length_toList] at hlen
      split at hc
      · rename_i hd
        subst hd
        split at hc
        · rename_i k hk
          split at hc
          · split at hc
            · rename_i hok
              obtain rfl := Option.some.inj hc
              unfold mOk dOk at hok
              simp only [Bool.and_eq_true, decide_eq_true_eq, List.all_eq_true, List.mem_range] at hok
              obtain ⟨⟨⟨⟨⟨⟨⟨hkn, hcl⟩, htl⟩, hrdk⟩, htp⟩, hnd⟩, hlt⟩, hcov⟩ := hok
              have hR : Rd l k (cls (afterOf ops)) := ⟨fun j hj t ht i hi hd => (rdOk_R hrdk hj).1 t ht i hi hd, fun j hj t ht i hi hd => by
                have hjl : j < l.length := by omega
                have := (rdOk_R hrdk hj).2 (aoAt l j) (by rw [aoAt_get hjl, List.getElem?_eq_getElem hjl]) t ht i hi hd
                exact ⟨this.2, by omega⟩, fun j hj => by
                have hjl : j < l.length := by omega
                have := (hcov j hj).1.2
                obtain ⟨d, hd⟩ := Option.isSome_iff_exists.1 this
                exact ⟨d, by rw [aoAt_get hjl] at hd; simp [hjl, hd], hd⟩⟩
              refine wp_region_any hm ?_
              have hw : SRel N ds E { w with drawn := w.drawn + 1 } I ρ s a := by
                have st : Stp w I ρ s.H { w with drawn := w.drawn + 1 } I ρ s.H := Stp.same hs.h ⟨rfl, rfl, rfl⟩ (fun _ _ => rfl) (Nat.le_refl _) (fun _ h => h) (fun _ h => .inl h)
                exact hs.step st
              simp only [W] at h
              obtain ⟨qs, rs, v', T', e1, e2, e3, e4, e5, e6, e7⟩ := m_adv hR (eff := effAt P ops) (R := fun _ => False) (k0 := s.k) (t0 := s.t) (H := s.H) (mOrd k (effAt P ops) (cls (afterOf ops))) [] (fun _ => .top) s.t (by simpa using hlt) (by simpa using hnd) (by simp) htp
                (fun q hq i hi ha => by have := (hcov i hi).1.1; simpa using this) (fun x => by rw [lk_miss fun i _ hL => by simp at hL]) (by simp) (by simp) h
              simp only [List.nil_append] at e5 e6 e7
              have hsub : ∀ i, i ∈ qs ++ rs → i < k := fun i hi => hlt i (by rw [e1]; exact hi)
              have htopo : ∀ (a b : List Nat), mTopo (effAt P ops) (cls (afterOf ops)) (a ++ b) = true → ∀ x ∈ a, ∀ y ∈ b, anc (cls (afterOf ops)) y x = false := by
                intro a
                induction a with
                | nil => intro b _ x hx; simp at hx
                | cons z a iha =>
                  intro b hb x hx y hy
                  simp only [List.cons_append, mTopo, Bool.and_eq_true, List.all_eq_true] at hb
                  rcases List.mem_cons.1 hx with rfl | hx
                  · have := (hb.1 y (by simp [hy])).1; simpa using this
                  · exact iha b hb.2 x hx y hy
              have hdrop : ∀ (a b : List Nat), mTopo (effAt P ops) (cls (afterOf ops)) (a ++ b) = true → mTopo (effAt P ops) (cls (afterOf ops)) b = true := by
                intro a
                induction a with
                | nil => intro b hb; exact hb
                | cons z a iha => intro b hb; simp only [List.cons_append, mTopo, Bool.and_eq_true] at hb; exact iha b hb.2
              have hcov' : ∀ j, j < k → j ∈ qs ++ rs := fun j hj => by rw [← e1]; have := (hcov j hj).1.1; simpa using this
              have htp' := htp
              rw [e1] at htp' hnd
              refine mhead_any hl hcl htl hR hkn (fun j hj he => by have := (hcov j hj).2; rw [he] at this; simpa using this) Q s.k s.t k ops.size (by omega) qs rs v' T' s.H _ (by simp) ?_ (fun j hj => by simp [Array.getD]) (fun j hj hjl => by simp [Array.getD] at hjl) hcov' hsub hnd (htopo qs rs htp') (hdrop qs rs htp') e2 (fun i hi q hq hqa => ?_) e5 (fun i hi => ?_) (fun i hi hil => by simp [Array.getD] at hil) e7 _ I ρ a (hw.same rfl rfl fun x => ?_)
              · rw [List.filter_eq_self.2]
                · simp
                · intro j hj
                  simp [Array.getD]
              · rcases List.mem_append.1 (hcov' q hq) with h3 | h3
                · exact h3
                · rw [htopo qs rs htp' i hi q h3] at hqa; cases hqa
              · rcases e6 i hi with h3 | h3
                · exact h3.elim
                · exact .inr ⟨e3 i hi, h3⟩
              · exact lk_miss fun i hi hL => by simp [Array.getD] at hL
            · cases hc
          split at hc
          · rename_i hok
            obtain rfl := Option.some.inj hc
            unfold dOk at hok
            simp only [Bool.and_eq_true, decide_eq_true_eq] at hok
            obtain ⟨⟨⟨hkn, hcl⟩, htl⟩, hrd⟩ := hok
            refine wp_region_any hm ?_
            obtain ⟨v, hv, hrest⟩ := daops_vals l Q s k 0 (fun _ => .top) (by omega) (fun j hj => by omega) (by simp only [W] at h; simpa [ovl] using h)
            simp only [Nat.zero_add] at hv hrest
            have hw : SRel N ds E { w with drawn := w.drawn + 1 } I ρ s a := by
              have st : Stp w I ρ s.H { w with drawn := w.drawn + 1 } I ρ s.H := Stp.same hs.h ⟨rfl, rfl, rfl⟩ (fun _ _ => rfl) (Nat.le_refl _) (fun _ h => h) (fun _ h => .inl h)
              exact hs.step st
            refine head_any hl hcl htl hrd hkn Q s v hv hrest k ops.size (by omega) _ (by simp) ?_ (fun j hj => by simp [Array.getD]) (fun j hj hjl => by simp [Array.getD] at hjl) _ I ρ a (hw.same rfl rfl fun x => ?_)
            · rw [List.filter_eq_self.2]
              · simp
              · intro j hj
                simp [Array.getD]
            · exact lk_miss fun i hi hL => by simp [Array.getD] at hL
          · cases hc
        · cases hc
      · rename_i hd
        obtain rfl : draw = false := by simpa using hd
        obtain rfl := Option.some.inj hc
        refine wp_region ?_
        rw [List.range_eq_range']
        exact region_sound hl Q ops.size 0 (by omega) s w I ρ a hs (by simp only [W] at h; simpa using h)
    · cases hc
  | seq x y ihx ihy =>
    intro ac Q s hc h E w I ρ a hs
    simp only [comp] at hc
    split at hc
    · rename_i ax ay hx hy
      obtain rfl := Option.some.inj hc
      simp only [W] at h
      refine wp_seq (wp_mono (ihx hx h E w I ρ a hs) ?_)
      rintro e a' w' ⟨e', s', I', ρ', hr, hs', hq⟩
      cases e' with
      | normal =>
        cases e <;> simp only [exitR] at hr
        exact ihy hy hq E w' I' ρ' a' hs'
      | exit i => cases e <;> simp only [exitR] at hr; subst hr; exact ⟨.exit i, s', I', ρ', rfl, hs', hq⟩
      | ret => cases e <;> simp only [exitR] at hr; exact ⟨.ret, s', I', ρ', trivial, hs', hq⟩
      | pan v => cases e <;> simp only [exitR] at hr; subst hr; exact ⟨.pan v, s', I', ρ', rfl, hs', hq⟩
    · cases hc
  | cond c x y ihx ihy =>
    intro ac Q s hc h E w I ρ a hs
    simp only [comp] at hc
    split at hc
    · rename_i ax ay hx hy
      obtain rfl := Option.some.inj hc
      simp only [W] at h
      split at h
      · rename_i t ht
        have hv := hs.hev c
        rw [ht] at hv
        refine wp_cond hv.sc_inv.1 ?_
        cases t with
        | true => simp only [if_true] at h ⊢; exact ihx hx h E w I ρ a hs
        | false => simp only [Bool.false_eq_true, if_false] at h ⊢; exact ihy hy h E w I ρ a hs
      · exact h.elim
    · cases hc
  | block id c ih =>
    intro ac Q s hc h E w I ρ a hs
    simp only [comp, Option.map_eq_some_iff] at hc
    obtain ⟨ax, hx, rfl⟩ := hc
    simp only [W] at h
    refine wp_block (wp_mono (ih hx h E w I ρ a hs) ?_)
    rintro e a' w' ⟨e', s', I', ρ', hr, hs', hq⟩
    cases e' with
    | normal => cases e <;> simp only [exitR] at hr; exact ⟨.normal, s', I', ρ', trivial, hs', hq⟩
    | exit i =>
      cases e <;> simp only [exitR] at hr
      subst hr
      simp only [blockQ] at hq
      simp only [Exit.inBlock]
      split
      · rename_i e; rw [if_pos e] at hq; exact ⟨.normal, s', I', ρ', trivial, hs', hq⟩
      · rename_i e; rw [if_neg e] at hq; exact ⟨.exit i, s', I', ρ', rfl, hs', hq⟩
    | ret => cases e <;> simp only [exitR] at hr; exact ⟨.ret, s', I', ρ', trivial, hs', hq⟩
    | pan v => cases e <;> simp only [exitR] at hr; subst hr; exact ⟨.pan v, s', I', ρ', rfl, hs', hq⟩
  | loop c ih =>
    intro ac Q s hc h
    have hc' := hc
    simp only [comp, Option.map_eq_some_iff] at hc
    obtain ⟨ax, hx, rfl⟩ := hc
    exact h _ hc'
  | exit id =>
    intro ac Q s hc h E w I ρ a hs
    simp only [comp, Option.some.injEq] at hc
    subst hc
    exact wp_exit ⟨.exit id, s, I, ρ, rfl, hs, h⟩
  | ret =>
    intro ac Q s hc h E w I ρ a hs
    simp only [comp, Option.some.injEq] at hc
    subst hc
    exact wp_ret ⟨.ret, s, I, ρ, trivial, hs, h⟩
  | rangeFunc => intro ac Q s hc; simp [comp] at hc
  | scope => intro ac Q s hc; simp [comp] at hc
  | label => intro ac Q s hc; simp [comp] at hc
  | goto => intro ac Q s hc; simp [comp] at hc
  | refuse => intro ac Q s hc; simp [comp] at hc

/-! ### Knowing less -/
/-- What is known may be told in fewer words. -/
def Wk (s s' : AState) : Prop := ∀ N ds E w I ρ a, SRel N ds E w I ρ s a → ∃ I' ρ', SRel N ds E w I' ρ' s' a
theorem Wk.refl (s : AState) : Wk s s := fun _ _ _ _ _ _ _ h => ⟨_, _, h⟩
theorem Wk.trans {a b c : AState} (h : Wk a b) (k : Wk b c) : Wk a c := fun N ds E w I ρ x hs => by
  obtain ⟨I', ρ', h1⟩ := h N ds E w I ρ x hs
  exact k N ds E w I' ρ' x h1
theorem AW_wk {c : ACode} {Q : AExit → AState → Prop} {s s' : AState} (hw : Wk s s') (h : AW P N ds c Q s') : AW P N ds c Q s := fun c' hc E w I ρ a hs => by
  obtain ⟨I', ρ', h1⟩ := hw N ds E w I ρ a hs
  exact h c' hc E w I' ρ' a h1
theorem AW_of_W (hm : P.follows .mixedOrders = true) {c : ACode} {Q : AExit → AState → Prop} {s : AState} (h : W P N ds c Q s) : AW P N ds c Q s := fun c' hc => W_sound hm c' hc h
theorem AW_mono {c : ACode} {Q Q' : AExit → AState → Prop} {s : AState} (h : AW P N ds c Q s) (hq : ∀ e s, Q e s → Q' e s) : AW P N ds c Q' s := fun c' hc E w I ρ a hs =>
  wp_mono (h c' hc E w I ρ a hs) fun e a' w' ⟨e', s', I', ρ', h1, h2, h3⟩ => ⟨e', s', I', ρ', h1, h2, hq _ _ h3⟩

/-- At most so many rounds. -/
def Rnd (P : Program) (N : Nat) (ds : List Deferred) (b : ACode) (Q : AExit → AState → Prop) : Nat → AState → Prop
  | 0, _ => False
  | n + 1, s => AW P N ds b (thenQ (Rnd P N ds b Q n) Q) s
theorem Rnd_wk {b : ACode} {Q : AExit → AState → Prop} {n : Nat} {s s' : AState} (hw : Wk s s') (h : Rnd P N ds b Q n s') : Rnd P N ds b Q n s := by
  cases n with
  | zero => exact h
  | succ n => exact AW_wk hw h
theorem comp_loop {c : Code} {b : ACode} (h : comp P N c = some (.loop b)) : ∃ c0, c = .loop c0 ∧ comp P N c0 = some b := by
  cases c <;> simp only [comp, Option.map_eq_some_iff, reduceCtorEq, and_false, exists_false, Option.some.injEq] at h
  case loop c =>
    obtain ⟨b', hb, e⟩ := h
    obtain rfl : b' = b := by injection e
    exact ⟨c, rfl, hb⟩
  case region id ops draw =>
    exfalso
    revert h
    split
    · split
      · split
        · split <;> simp
        · simp
      · simp
    · simp
  case seq => exfalso; revert h; split <;> simp
  case cond => exfalso; revert h; split <;> simp
theorem AW_loop {b : ACode} {Q : AExit → AState → Prop} (n : Nat) {s : AState} (h : Rnd P N ds b Q n s) : AW P N ds (.loop b) Q s := by
  intro c' hc E w I ρ a hs
  obtain ⟨c, rfl, hb⟩ := comp_loop hc
  refine wp_loop_rounds n ?_
  induction n generalizing s w I ρ a with
  | zero => exact h.elim
  | succ n ih =>
    rw [rounds_succ]
    refine wp_mono (h c hb E w I ρ a hs) ?_
    rintro e a' w' ⟨e', s', I', ρ', hr, hs', hq⟩
    cases e' with
    | normal =>
      cases e <;> simp only [exitR] at hr
      exact ih hq w' I' ρ' a' hs'
    | exit i => cases e <;> simp only [exitR] at hr; subst hr; exact ⟨.exit i, s', I', ρ', rfl, hs', hq⟩
    | ret => cases e <;> simp only [exitR] at hr; exact ⟨.ret, s', I', ρ', trivial, hs', hq⟩
    | pan v => cases e <;> simp only [exitR] at hr; subst hr; exact ⟨.pan v, s', I', ρ', rfl, hs', hq⟩
end
end Go.Proofs.YtbnelpgogjbgjaaGreat.Q
