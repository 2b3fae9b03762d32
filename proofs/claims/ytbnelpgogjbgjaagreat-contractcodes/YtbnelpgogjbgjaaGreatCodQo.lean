/- A region that draws its order. -/
import Derived.Test.YtbnelpgogjbgjaaGreatCodQn
/- A region that draws its order. -/
set_option linter.unusedVariables false
set_option linter.unusedSimpArgs false
namespace Go.Proofs.YtbnelpgogjbgjaaGreat.Q
open Go.RowKit

section
variable {P : Program} {N : Nat} {ds : List Deferred} {E : Ent}

theorem evl_congr {t1 t2 : List (Nat × SV)} {x : Operand} (h : ∀ t ∈ opd x, lk t t1 = lk t t2) : evl t1 x = evl t2 x := by
  cases x <;> first
    | rfl
    | exact h _ (by simp [opd])
theorem map_congr {t1 t2 : List (Nat × SV)} {l : List Operand} (h : ∀ t ∈ l.flatMap opd, lk t t1 = lk t t2) : l.map (evl t1) = l.map (evl t2) :=
  List.map_congr_left fun x hx => evl_congr fun t ht => h t (List.mem_flatMap.2 ⟨x, hx, ht⟩)
theorem optInt_congr {t1 t2 : List (Nat × SV)} {d : Int} {x : Option Operand} (h : ∀ t ∈ opdO x, lk t t1 = lk t t2) : optInt (evl t1) d x = optInt (evl t2) d x := by
  cases x with
  | none => rfl
  | some x => simp only [optInt]; rw [evl_congr h]
theorem buildV_congr {t1 t2 : List (Nat × SV)} : ∀ {ps : List (Nat × Nat × Operand)} {cs : List SV}, (∀ t ∈ ps.flatMap (fun p => opd p.2.2), lk t t1 = lk t t2) → buildV (evl t1) cs ps = buildV (evl t2) cs ps := by
  intro ps
  induction ps with
  | nil => intros; rfl
  | cons p ps ih =>
    intro cs h
    obtain ⟨off, n, x⟩ := p
    have hx : evl t1 x = evl t2 x := evl_congr fun t ht => h t (by simp [ht])
    simp only [buildV, hx]
    split
    · split
      · exact ih fun t ht => h t (by simp only [List.flatMap_cons, List.mem_append]; exact .inr ht)
      · rfl
    · rfl
theorem slitV_congr {t1 t2 : List (Nat × SV)} {m : Nat} : ∀ {l : List Operand}, (∀ t ∈ l.flatMap opd, lk t t1 = lk t t2) → slitV (evl t1) m l = slitV (evl t2) m l := by
  intro l
  induction l with
  | nil => intros; rfl
  | cons x l ih =>
    intro h
    have hx : evl t1 x = evl t2 x := evl_congr fun t ht => h t (by simp [ht])
    simp only [slitV, hx]
    rw [ih fun t ht => h t (by simp only [List.flatMap_cons, List.mem_append]; exact .inr ht)]

theorem aop_congr {t1 t2 : List (Nat × SV)} {op : AOp} (h : ∀ t ∈ op.slots, lk t t1 = lk t t2) (H : List AObj) (K : SV → List AObj → Prop) (Qp : Value → List AObj → Prop) : aop P op (evl t1) H K Qp = aop P op (evl t2) H K Qp := by
  cases op <;> simp only [AOp.slots] at h
  case pick c a b =>
    simp only [aop]
    rw [evl_congr (x := c) fun t ht => h t (by simp [ht]), evl_congr (x := a) fun t ht => h t (by simp [ht]), evl_congr (x := b) fun t ht => h t (by simp [ht])]
  case alloc => rfl
  case build z ps => simp only [aop]; rw [buildV_congr h]
  case slit e m xs => simp only [aop]; rw [slitV_congr h]
  case store n x v =>
    simp only [aop]
    rw [evl_congr (x := x) fun t ht => h t (by simp [ht]), evl_congr (x := v) fun t ht => h t (by simp [ht])]
  case bin op bk x y =>
    simp only [aop]
    rw [evl_congr (x := x) fun t ht => h t (by simp [ht]), evl_congr (x := y) fun t ht => h t (by simp [ht])]
  case eqs neg ks x y =>
    simp only [aop]
    rw [evl_congr (x := x) fun t ht => h t (by simp [ht]), evl_congr (x := y) fun t ht => h t (by simp [ht])]
  case mkf f a b =>
    simp only [aop]
    rw [map_congr (l := a) fun t ht => h t (List.mem_append.2 (.inl ht)), map_congr (l := b) fun t ht => h t (List.mem_append.2 (.inr ht))]
  case cut e m x lo hi mx =>
    simp only [aop]
    rw [evl_congr (x := x) fun t ht => h t (by simp [ht])]
    have e1 : ∀ d, optInt (evl t1) d lo = optInt (evl t2) d lo := fun d => optInt_congr fun t ht => h t (by simp [ht])
    have e2 : ∀ d, optInt (evl t1) d hi = optInt (evl t2) d hi := fun d => optInt_congr fun t ht => h t (by simp [ht])
    simp only [e1, e2]
    cases mx with
    | none => rfl
    | some y =>
      have e3 : evl t1 y = evl t2 y := evl_congr fun t ht => h t (by simp [opdO, ht])
      simp only [e3]
  case cutS x lo hi =>
    simp only [aop]
    rw [evl_congr (x := x) fun t ht => h t (by simp [ht])]
    have e1 : ∀ d, optInt (evl t1) d lo = optInt (evl t2) d lo := fun d => optInt_congr fun t ht => h t (by simp [ht])
    have e2 : ∀ d, optInt (evl t1) d hi = optInt (evl t2) d hi := fun d => optInt_congr fun t ht => h t (by simp [ht])
    simp only [e1, e2]
  case iad m x i =>
    simp only [aop]
    rw [evl_congr (x := x) fun t ht => h t (by simp [ht]), evl_congr (x := i) fun t ht => h t (by simp [ht])]
  case iadA l m x i =>
    simp only [aop]
    rw [evl_congr (x := x) fun t ht => h t (by simp [ht]), evl_congr (x := i) fun t ht => h t (by simp [ht])]
  case idx x i =>
    simp only [aop]
    rw [evl_congr (x := x) fun t ht => h t (by simp [ht]), evl_congr (x := i) fun t ht => h t (by simp [ht])]
  case call f args =>
    simp only [aop]
    rw [evl_congr (x := f) fun t ht => h t (by simp [ht]), map_congr (l := args) fun t ht => h t (List.mem_append.2 (.inr ht))]
  case app m b z e s x =>
    simp only [aop]
    rw [evl_congr (x := s) fun t ht => h t (by simp [ht]), evl_congr (x := x) fun t ht => h t (by simp [ht])]
  case mm b args =>
    simp only [aop]
    match args with
    | [] => rfl
    | [_] => rfl
    | [x, y] =>
      dsimp only
      rw [evl_congr (x := x) fun t ht => h t (by simp [ht]), evl_congr (x := y) fun t ht => h t (by simp [ht])]
    | _ :: _ :: _ :: _ => rfl
  case len str x => cases str <;> simp only [aop] <;> rw [evl_congr h]
  all_goals (simp only [aop]; rw [evl_congr h])

theorem SRel.same {w : World} {I : Nat → Prop} {ρ : List (Option Nat)} {s1 s2 : AState} {a : Act} (h : SRel N ds E w I ρ s1 a) (hk : s2.k = s1.k) (hH : s2.H = s1.H) (ht : ∀ x, lk x s2.t = lk x s1.t) : SRel N ds E w I ρ s2 a :=
  ⟨h.fr, by rw [hH]; exact h.mv, by rw [hk]; exact h.k, by rw [hH]; exact h.h, h.n, h.ds, fun i => by rw [hH, ht]; exact h.t i⟩

/-- The slots behind those operations of L below m. -/
def ovl (v : Nat → SV) (xs : List AO) (t : List (Nat × SV)) (L : Nat → Bool) : Nat → List (Nat × SV)
  | 0 => t
  | m + 1 => if L m then (match (xs[m]?).bind (·.dst) with | some d => (d, v m) :: ovl v xs t L m | none => ovl v xs t L m) else ovl v xs t L m

theorem ovl_congr {v : Nat → SV} {xs : List AO} {t : List (Nat × SV)} {L L' : Nat → Bool} {m : Nat} (h : ∀ i, i < m → L i = L' i) : ovl v xs t L m = ovl v xs t L' m := by
  induction m with
  | zero => rfl
  | succ m ih => simp only [ovl, h m (by omega), ih fun i hi => h i (by omega)]

theorem lk_miss {v : Nat → SV} {xs : List AO} {t : List (Nat × SV)} {L : Nat → Bool} {x : Nat} : ∀ {m : Nat}, (∀ i, i < m → L i = true → (xs[i]?).bind (·.dst) ≠ some x) → lk x (ovl v xs t L m) = lk x t := by
  intro m
  induction m with
  | zero => intro _; rfl
  | succ m ih =>
    intro h
    simp only [ovl]
    have ih' := ih fun i hi => h i (by omega)
    split
    · rename_i hL
      split
      · rename_i d hd
        have := h m (by omega) hL
        rw [hd] at this
        simp only [lk]
        rw [if_neg (fun e => this (by rw [e])), ih']
      · exact ih'
    · exact ih'
theorem lk_hit {v : Nat → SV} {xs : List AO} {t : List (Nat × SV)} {L : Nat → Bool} {x j : Nat} : ∀ {m : Nat}, j < m → L j = true → (xs[j]?).bind (·.dst) = some x → (∀ i, i < m → (xs[i]?).bind (·.dst) = some x → i = j) → lk x (ovl v xs t L m) = v j := by
  intro m
  induction m with
  | zero => intro h; omega
  | succ m ih =>
    intro hj hL hd hu
    simp only [ovl]
    by_cases e : m = j
    · subst e
      rw [if_pos hL, hd]
      simp [lk]
    · have ih' := ih (by omega) hL hd fun i hi => hu i (by omega)
      split
      · split
        · rename_i d hd'
          simp only [lk]
          rw [if_neg, ih']
          rintro rfl
          exact e (hu m (by omega) hd')
        · exact ih'
      · exact ih'

theorem ovl_put {v : Nat → SV} {xs : List AO} {s : AState} {j : Nat} (hj : j < xs.length) : (⟨s.k, ovl v xs s.t (fun i => decide (i < j + 1)) (j + 1), s.H⟩ : AState) = (⟨s.k, ovl v xs s.t (fun i => decide (i < j)) j, s.H⟩ : AState).put (xs[j]).dst (v j) := by
  simp only [ovl, decide_true, if_true, Nat.lt_succ_self, List.getElem?_eq_getElem hj, Option.bind_some]
  rw [ovl_congr (L' := fun i => decide (i < j)) fun i hi => by simp [hi]; omega]
  unfold AState.put
  cases (xs[j]).dst <;> rfl

/-- What the operations ahead tell, one by one. -/
def OkAt (P : Program) (v : Nat → SV) (xs : List AO) (s : AState) (j : Nat) : Prop :=
  ∀ hj : j < xs.length, ∃ b, aguard ⟨s.k, ovl v xs s.t (fun i => decide (i < j)) j, s.H⟩ (xs[j]).guard = some b ∧
    if b then aop P (xs[j]).op (evl (ovl v xs s.t (fun i => decide (i < j)) j)) s.H (fun v' H' => v' = v j ∧ H' = s.H) (fun _ _ => False) else v j = .tup []

theorem daops_cons (k : Nat) (o : AO) (os : List AO) (Q : AExit → AState → Prop) (s : AState) (h : daops P (k + 1) (o :: os) Q s) : ∃ b v, aguard s o.guard = some b ∧
    (if b then aop P o.op s.ev s.H (fun v' H' => v' = v ∧ H' = s.H) (fun _ _ => False) else v = .tup []) ∧ daops P k os Q (s.put o.dst v) := by
  simp only [daops] at h
  unfold aguard
  split at h
  · rename_i hg
    obtain ⟨v, h1, h2⟩ := h
    try rw [hg]
    exact ⟨true, v, rfl, h1, h2⟩
  · rename_i t want hg
    try rw [hg]
    try dsimp only
    split at h
    · rename_i b hb
      try rw [hb]
      by_cases e : b = want
      · rw [if_pos e] at h
        obtain ⟨v, h1, h2⟩ := h
        exact ⟨true, v, by subst e; simp, h1, h2⟩
      · rw [if_neg e] at h
        exact ⟨false, .tup [], by cases b <;> cases want <;> simp_all, rfl, h⟩
    · rename_i hb
      try rw [hb]
      exact ⟨false, .tup [], rfl, rfl, h⟩
    · exact h.elim

theorem daops_vals (xs : List AO) (Q : AExit → AState → Prop) (s : AState) : ∀ (k m : Nat) (v : Nat → SV), m + k ≤ xs.length → (∀ j, j < m → OkAt P v xs s j) → daops P k (xs.drop m) Q ⟨s.k, ovl v xs s.t (fun i => decide (i < m)) m, s.H⟩ →
    ∃ v', (∀ j, j < m + k → OkAt P v' xs s j) ∧ aops P (xs.drop (m + k)) Q ⟨s.k, ovl v' xs s.t (fun i => decide (i < m + k)) (m + k), s.H⟩ := by
  intro k
  induction k with
  | zero => intro m v hm hok h; exact ⟨v, hok, h⟩
  | succ k ih =>
    intro m v hm hok h
    have hlt : m < xs.length := by omega
    rw [List.drop_eq_getElem_cons hlt] at h
    obtain ⟨b, u, hg, ha, hd⟩ := daops_cons _ _ _ _ _ h
    let v' : Nat → SV := fun i => if i = m then u else v i
    have hov : ∀ j L, j ≤ m → ovl v' xs s.t L j = ovl v xs s.t L j := by
      intro j L hj
      induction j with
      | zero => rfl
      | succ j ih2 =>
        have : v' j = v j := by simp only [v']; rw [if_neg (by omega)]
        simp only [ovl, this, ih2 (by omega)]
    have hvm : v' m = u := by simp [v']
    obtain ⟨v'', h1, h2⟩ := ih (m + 1) v' (by omega) (fun j hj => by
      intro hjl
      by_cases e : j = m
      · subst e
        refine ⟨b, by rw [hov _ _ (Nat.le_refl _)]; exact hg, ?_⟩
        rw [hov _ _ (Nat.le_refl _), hvm]
        exact ha
      · obtain ⟨b', hb1, hb2⟩ := hok j (by omega) hjl
        have : v' j = v j := by simp only [v']; rw [if_neg e]
        refine ⟨b', by rw [hov _ _ (by omega)]; exact hb1, ?_⟩
        rw [hov _ _ (by omega), this]
        exact hb2) (by
      rw [ovl_put hlt, hov _ _ (Nat.le_refl _), hvm]
      exact hd)
    exact ⟨v'', fun j hj => h1 j (by omega), by rw [show m + (k + 1) = m + 1 + k from by omega]; exact h2⟩

theorem clOk_R {n : Nat} {after : List (List Nat)} {cl : List Nat} (h : clOk n after cl = true) {i : Nat} (hi : i < n) : (∀ m ∈ after.getD i [], m < i) ∧ ∀ j, j < n → (cl.getD i 0).testBit j = true → ∃ m ∈ after.getD i [], m = j ∨ (cl.getD m 0).testBit j = true := by
  unfold clOk at h
  have := List.all_eq_true.1 h i (List.mem_range.2 hi)
  simp only [Bool.and_eq_true, List.all_eq_true, decide_eq_true_eq, List.mem_range, Bool.or_eq_true, Bool.not_eq_true', List.any_eq_true, beq_iff_eq] at this
  refine ⟨this.1, fun j hj hb => ?_⟩
  rcases this.2 j hj with h1 | ⟨m, h1, h2⟩
  · rw [hb] at h1; cases h1
  · exact ⟨m, h1, h2⟩

/-- All that stands ahead of what may come next has come. -/
theorem ahead_R {n : Nat} {after : List (List Nat)} {cl : List Nat} (h : clOk n after cl = true) {L : Nat → Bool} (hL : ∀ i, i < n → L i = true → ∀ m ∈ after.getD i [], L m = true) :
    ∀ i, i < n → (∀ m ∈ after.getD i [], L m = true) → ∀ j, j < n → (cl.getD i 0).testBit j = true → L j = true := by
  intro i
  induction i using Nat.strongRecOn with
  | _ i ih =>
    intro hi hm j hj hb
    obtain ⟨h1, h2⟩ := clOk_R h hi
    obtain ⟨m, hm1, hm2⟩ := h2 j hj hb
    rcases hm2 with rfl | hm2
    · exact hm _ hm1
    · have hlt := h1 m hm1
      exact ih m hlt (by omega) (hL m (by omega) (hm m hm1)) j hj hm2

theorem after_get {ops : Array Oper} {i : Nat} {o : Oper} (hi : ops[i]? = some o) (m : Nat) : m ∈ (afterOf ops).getD i [] ↔ ∃ e ∈ o.after, Region.binds .any e = true ∧ e.on = m := by
  have : (afterOf ops).getD i [] = (o.after.toList.filter (Region.binds .any)).map (·.on) := by
    simp only [afterOf, List.getD_eq_getElem?_getD, List.getElem?_map, Array.getElem?_toList, hi, Option.map_some, Option.getD_some]
  rw [this]
  simp only [List.mem_map, List.mem_filter, Array.mem_toList_iff]
  constructor
  · rintro ⟨e, ⟨h1, h2⟩, h3⟩; exact ⟨e, h1, h2, h3⟩
  · rintro ⟨e, h1, h2, h3⟩; exact ⟨e, ⟨h1, h2⟩, h3⟩

theorem dsts_mem {k : Nat} {xs : List AO} {t i : Nat} : i ∈ dsts k xs t ↔ i < k ∧ (xs[i]?).bind (·.dst) = some t := by
  simp [dsts, List.mem_filter, List.mem_range]

theorem rdOk_R {k : Nat} {xs : List AO} {cl : List Nat} (h : rdOk k xs cl = true) {j : Nat} (hj : j < k) :
    (∀ t, (xs[j]?).bind (·.dst) = some t → ∀ i, i < k → (xs[i]?).bind (·.dst) = some t → i = j) ∧
    (∀ o, xs[j]? = some o → ∀ t ∈ o.slots, ∀ i, i < k → (xs[i]?).bind (·.dst) = some t → i < j ∧ (cl.getD j 0).testBit i = true) := by
  unfold rdOk at h
  have := List.all_eq_true.1 h j (List.mem_range.2 hj)
  simp only [Bool.and_eq_true] at this
  refine ⟨fun t ht i hi hd => ?_, fun o ho t ht i hi hd => ?_⟩
  · have h1 := this.1
    rw [ht] at h1
    have := List.all_eq_true.1 h1 i (dsts_mem.2 ⟨hi, hd⟩)
    simpa using this
  · have h1 := this.2
    rw [ho] at h1
    have := List.all_eq_true.1 (List.all_eq_true.1 h1 t ht) i (dsts_mem.2 ⟨hi, hd⟩)
    simpa using this

section draw
variable {ops : Array Oper} {xs : List AO} {k : Nat}

/-- The tail, in the text's order. -/
theorem tail_any (hc : compOs P N ops ops.toList = some xs) (hcl : clOk ops.size (afterOf ops) (cls (afterOf ops)) = true) (htl : tailOk ops.size k (cls (afterOf ops)) = true) (Q : AExit → AState → Prop) :
    ∀ (m i : Nat), i + m = ops.size → k ≤ i → ∀ (fuel : Nat), m ≤ fuel → ∀ (listed : Array Bool), listed.size = ops.size → (∀ j, j < ops.size → (listed.getD j false = true ↔ j < i)) →
      ∀ (s : AState) (w : World) (I : Nat → Prop) (ρ : List (Option Nat)) (a : Act), SRel N ds E w I ρ s a → aops P (xs.drop i) Q s → wpAny P .any ops (Post N ds E Q) fuel listed a w := by
  obtain ⟨hl, hx⟩ := compOs_R hc
  simp only [Array.length_toList] at hl
  intro m
  induction m with
  | zero =>
    intro i hi hk fuel hf listed hls hL s w I ρ a h ha
    have hr : Region.ready .any ops listed = [] := by
      apply List.eq_nil_iff_forall_not_mem.2
      intro j hj
      obtain ⟨h1, o, ho, _⟩ := mem_ready.1 hj
      have hlt : j < ops.size := (Array.getElem?_eq_some_iff.1 ho).1
      have := (hL j hlt).2 (by omega)
      simp [Array.getD, hls, hlt] at h1 this
      rw [this] at h1
      cases h1
    have hq : Post N ds E Q .normal a w := by
      rw [List.drop_of_length_le (by omega)] at ha
      exact ⟨.normal, s, I, ρ, trivial, h, ha⟩
    cases fuel with
    | zero => exact ⟨hr, hq⟩
    | succ fuel => exact ⟨fun _ => hq, fun j hj => by rw [hr] at hj; cases hj⟩
  | succ m ih =>
    intro i hi hk fuel hf listed hls hL s w I ρ a h ha
    have hlt : i < ops.size := by omega
    have hlx : i < xs.length := by omega
    obtain ⟨fuel, rfl⟩ : ∃ f, fuel = f + 1 := ⟨fuel - 1, by omega⟩
    have hdown : ∀ j, j < ops.size → listed.getD j false = true → ∀ q ∈ (afterOf ops).getD j [], listed.getD q false = true := by
      intro j hj hjl q hq
      have h1 := (clOk_R hcl hj).1 q hq
      have h2 := (hL j hj).1 hjl
      exact (hL q (by omega)).2 (by omega)
    have hready : ∀ j, j ∈ Region.ready .any ops listed ↔ j = i := by
      intro j
      rw [mem_ready]
      constructor
      · rintro ⟨h1, o, ho, h2⟩
        have hjl : j < ops.size := (Array.getElem?_eq_some_iff.1 ho).1
        have hge : i ≤ j := by
          by_cases hh : i ≤ j
          · exact hh
          · have := (hL j hjl).2 (by omega)
            simp [Array.getD, hls, hjl] at h1 this
            rw [this] at h1; cases h1
        by_cases e : j = i
        · exact e
        · have ht : (cls (afterOf ops)).getD j 0 |>.testBit i := by
            unfold tailOk at htl
            have := List.all_eq_true.1 htl j (List.mem_range.2 hjl)
            simp only [Bool.or_eq_true, decide_eq_true_eq, List.all_eq_true, List.mem_range] at this
            rcases this with hh | hh
            · omega
            · exact hh i (by omega)
          have := ahead_R hcl hdown j hjl (fun q hq => by
            obtain ⟨e', he1, he2, rfl⟩ := (after_get ho q).1 hq
            exact h2 e' he1 he2) i hlt ht
          have := (hL i hlt).1 this
          omega
      · rintro rfl
        refine ⟨?_, ops[j], by simp [hlt], fun e he hb => ?_⟩
        · have : ¬ listed.getD j false = true := fun hh => by have := (hL j hlt).1 hh; omega
          simp [Array.getD, hls, hlt] at this ⊢
          exact this
        · have h1 := (clOk_R hcl hlt).1 e.on ((after_get (by simp [hlt]) e.on).2 ⟨e, he, hb, rfl⟩)
          exact (hL e.on (by omega)).2 h1
    refine ⟨fun hr => ?_, fun j hj => ?_⟩
    · have := (hready i).2 rfl
      rw [hr] at this
      cases this
    · obtain rfl := (hready j).1 hj
      rw [List.drop_eq_getElem_cons hlx] at ha
      obtain ⟨b, hg, ha⟩ := aops_cons _ _ _ _ ha
      have hci := hx j (by simpa using hlt) hlx
      refine one_op (o := ops[j]) (by simp [hlt]) (by simpa using hci) h hg (K := fun v H' => aops P (xs.drop (j + 1)) Q (AState.put ⟨s.k, s.t, H'⟩ (xs[j]).dst v)) (Qp := fun p H' => Q (.pan p) ⟨s.k, s.t, H'⟩) (by
        cases b <;> exact ha) (fun sv H' w' I' ρ' a' hk' hs => ?_) (fun p H' w' I' ρ' hq hs => ⟨.pan p, _, I', ρ', rfl, hs, hq⟩)
      refine ih (j + 1) (by omega) (by omega) fuel (by omega) _ (by simp [hls]) (fun q hq => ?_) _ w' I' ρ' a' hs hk'
      by_cases e : q = j
      · subst e
        simp [Array.getD, hls, hq]
      · rw [getD_set_ne false (fun h => e h.symm), hL q hq]
        omega

/-- The operations ahead of the tail, in whatever order. -/
theorem head_any (hc : compOs P N ops ops.toList = some xs) (hcl : clOk ops.size (afterOf ops) (cls (afterOf ops)) = true) (htl : tailOk ops.size k (cls (afterOf ops)) = true) (hrd : rdOk k xs (cls (afterOf ops)) = true) (hkn : k ≤ ops.size) (Q : AExit → AState → Prop)
    (s : AState) (v : Nat → SV) (hok : ∀ j, j < k → OkAt P v xs s j) (hrest : aops P (xs.drop k) Q ⟨s.k, ovl v xs s.t (fun i => decide (i < k)) k, s.H⟩) :
    ∀ (m : Nat) (fuel : Nat), m + (ops.size - k) ≤ fuel → ∀ (listed : Array Bool), listed.size = ops.size → (((List.range k).filter fun j => !listed.getD j false).length = m) → (∀ j, k ≤ j → listed.getD j false = false) →
      (∀ j, j < ops.size → listed.getD j false = true → ∀ q ∈ (afterOf ops).getD j [], listed.getD q false = true) →
      ∀ (w : World) (I : Nat → Prop) (ρ : List (Option Nat)) (a : Act), SRel N ds E w I ρ ⟨s.k, ovl v xs s.t (fun i => listed.getD i false) k, s.H⟩ a → wpAny P .any ops (Post N ds E Q) fuel listed a w := by
  obtain ⟨hl, hx⟩ := compOs_R hc
  simp only [Array.length_toList] at hl
  intro m
  induction m with
  | zero =>
    intro fuel hf listed hls hcount hge hdown w I ρ a h
    have hall : ∀ j, j < k → listed.getD j false = true := by
      intro j hj
      have : (List.range k).filter (fun j => !listed.getD j false) = [] := List.eq_nil_of_length_eq_zero hcount
      have h1 : j ∉ (List.range k).filter (fun j => !listed.getD j false) := by rw [this]; simp
      simp only [List.mem_filter, List.mem_range, hj, true_and, Bool.not_eq_true', Bool.not_eq_false] at h1
      exact h1
    refine tail_any hc hcl htl Q (ops.size - k) k (by omega) (Nat.le_refl _) fuel (by omega) listed hls (fun j hj => ?_) _ w I ρ a (h.same (s2 := ⟨s.k, ovl v xs s.t (fun i => decide (i < k)) k, s.H⟩) rfl rfl fun x => ?_) hrest
    · constructor
      · intro hj1
        by_cases hh : j < k
        · exact hh
        · rw [hge j (by omega)] at hj1; cases hj1
      · exact hall j
    · rw [ovl_congr (L' := fun i => listed.getD i false) fun i hi => by simp [hi, hall i hi]]
  | succ m ih =>
    intro fuel hf listed hls hcount hge hdown w I ρ a h
    obtain ⟨fuel, rfl⟩ : ∃ f, fuel = f + 1 := ⟨fuel - 1, by omega⟩
    have hex : ∃ j, j < k ∧ listed.getD j false = false := by
      have : (List.range k).filter (fun j => !listed.getD j false) ≠ [] := fun e => by rw [e] at hcount; simp at hcount
      obtain ⟨j, hj⟩ := List.exists_mem_of_ne_nil _ this
      simp only [List.mem_filter, List.mem_range, Bool.not_eq_true'] at hj
      exact ⟨j, hj⟩
    refine ⟨fun hr => ?_, fun j hj => ?_⟩
    · -- the least that has not come is ready
      exfalso
      obtain ⟨j, ⟨hjk, hjl⟩, hmin⟩ : ∃ j, (j < k ∧ listed.getD j false = false) ∧ ∀ q, q < j → ¬ (q < k ∧ listed.getD q false = false) := by
        obtain ⟨j, hj⟩ := hex
        induction j using Nat.strongRecOn with
        | _ j ihj =>
          by_cases hh : ∃ q, q < j ∧ (q < k ∧ listed.getD q false = false)
          · obtain ⟨q, hq, hq2⟩ := hh
            exact ihj q hq hq2
          · exact ⟨j, hj, fun q hq hq2 => hh ⟨q, hq, hq2⟩⟩
      have hjn : j < ops.size := by omega
      have : j ∈ Region.ready .any ops listed := by
        rw [mem_ready]
        refine ⟨by simpa [Array.getD, hls, hjn] using hjl, ops[j], by simp [hjn], fun e he hb => ?_⟩
        have h1 := (clOk_R hcl hjn).1 e.on ((after_get (by simp [hjn]) e.on).2 ⟨e, he, hb, rfl⟩)
        have := hmin e.on h1
        cases hh : listed.getD e.on false with
        | true => rfl
        | false => exact absurd ⟨by omega, hh⟩ this
      rw [hr] at this
      cases this
    · obtain ⟨h1, o, ho, h2⟩ := mem_ready.1 hj
      have hjn : j < ops.size := (Array.getElem?_eq_some_iff.1 ho).1
      have hafter : ∀ q ∈ (afterOf ops).getD j [], listed.getD q false = true := fun q hq => by
        obtain ⟨e', he1, he2, rfl⟩ := (after_get ho q).1 hq
        exact h2 e' he1 he2
      have hahead := ahead_R hcl hdown j hjn hafter
      have hjk : j < k := by
        by_cases hh : j < k
        · exact hh
        · exfalso
          obtain ⟨q, hq1, hq2⟩ := hex
          unfold tailOk at htl
          have := List.all_eq_true.1 htl j (List.mem_range.2 hjn)
          simp only [Bool.or_eq_true, decide_eq_true_eq, List.all_eq_true, List.mem_range] at this
          rcases this with h3 | h3
          · omega
          · have := hahead q (by omega) (h3 q (by omega))
            rw [hq2] at this; cases this
      have hjl : listed.getD j false = false := by simpa [Array.getD, hls, hjn] using h1
      have hlx : j < xs.length := by omega
      have hci := hx j (by simpa using hjn) hlx
      obtain ⟨b, hg, ha⟩ := hok j hjk hlx
      obtain ⟨hr1, hr2⟩ := rdOk_R hrd hjk
      -- what the operation looks at is as in the text's order
      have hslots : ∀ t ∈ (xs[j]).slots, lk t (ovl v xs s.t (fun i => decide (i < j)) j) = lk t (ovl v xs s.t (fun i => listed.getD i false) k) := by
        intro t ht
        by_cases hw : ∃ i, i < k ∧ (xs[i]?).bind (·.dst) = some t
        · obtain ⟨i, hi, hd⟩ := hw
          obtain ⟨hij, hbit⟩ := hr2 _ (List.getElem?_eq_getElem hlx) t ht i hi hd
          have hli := hahead i (by omega) hbit
          have huniq := (rdOk_R hrd hi).1 t hd
          rw [lk_hit hij (by simp [hij]) hd (fun q hq => huniq q (by omega)), lk_hit hi hli hd (fun q hq => huniq q hq)]
        · rw [lk_miss (fun i hi _ hd => hw ⟨i, by omega, hd⟩), lk_miss (fun i hi _ hd => hw ⟨i, hi, hd⟩)]
      have hslot1 : ∀ t ∈ (xs[j]).op.slots, lk t (ovl v xs s.t (fun i => decide (i < j)) j) = lk t (ovl v xs s.t (fun i => listed.getD i false) k) := fun t ht => hslots t (by simp [AO.slots, ht])
      have hg' : aguard ⟨s.k, ovl v xs s.t (fun i => listed.getD i false) k, s.H⟩ (xs[j]).guard = some b := by
        unfold aguard at hg ⊢
        cases hgd : (xs[j]).guard with
        | none => rw [hgd] at hg; exact hg
        | some p =>
          obtain ⟨t, want⟩ := p
          rw [hgd] at hg
          dsimp only at hg ⊢
          rw [← hslots t (by simp [AO.slots, hgd])]
          exact hg
      refine one_op (o := ops[j]) (by simp [hjn]) (by simpa using hci) h hg' (K := fun v' H' => v' = v j ∧ H' = s.H) (Qp := fun _ _ => False) (by
        cases b with
        | true =>
          simp only [if_true] at ha ⊢
          rw [aop_congr hslot1] at ha
          exact ha
        | false =>
          simp only [Bool.false_eq_true, if_false] at ha ⊢
          exact ⟨ha.symm, trivial⟩) (fun sv H' w' I' ρ' a' hk' hs => ?_) (fun p H' w' I' ρ' hq hs => hq.elim)
      obtain ⟨rfl, rfl⟩ := hk'
      refine ih fuel (by omega) _ (by simp [hls]) ?_ (fun q hq => ?_) (fun q hq hql p hp => ?_) w' I' ρ' a' (hs.same (by unfold AState.put; cases (xs[j]).dst <;> rfl) (by unfold AState.put; cases (xs[j]).dst <;> rfl) fun x => ?_)
      · -- one fewer
        have hset : ∀ q, (listed.setIfInBounds j true).getD q false = if q = j then true else listed.getD q false := by
          intro q
          by_cases e : q = j
          · subst e; simp [Array.getD, hls, hjn]
          · rw [getD_set_ne false (fun h => e h.symm), if_neg e]
        have : (List.range k).filter (fun q => !(listed.setIfInBounds j true).getD q false) = ((List.range k).filter (fun q => !listed.getD q false)).erase j := by
          have hnd : ((List.range k).filter (fun q => !listed.getD q false)).Nodup := List.Nodup.sublist List.filter_sublist List.nodup_range
          rw [List.Nodup.erase_eq_filter hnd, List.filter_filter]
          congr 1
          funext q
          rw [hset q]
          by_cases e : q = j
          · simp [e]
          · simp [e]
        rw [this, List.length_erase_of_mem (by simp only [List.mem_filter, List.mem_range]; exact ⟨hjk, by rw [hjl]; rfl⟩), hcount]
        rfl
      · by_cases e : q = j
        · omega
        · rw [getD_set_ne false (fun h => e h.symm)]; exact hge q hq
      · by_cases e : q = j
        · subst e
          exact getD_set_true (hafter p hp)
        · rw [getD_set_ne false (fun h => e h.symm)] at hql
          exact getD_set_true (hdown q hq hql p hp)
      · -- the slots
        have hset : ∀ q, (listed.setIfInBounds j true).getD q false = if q = j then true else listed.getD q false := by
          intro q
          by_cases e : q = j
          · subst e; simp [Array.getD, hls, hjn]
          · rw [getD_set_ne false (fun h => e h.symm), if_neg e]
        simp only [AState.put]
        cases hd : (xs[j]).dst with
        | none =>
          dsimp only
          have hd' : (xs[j]?).bind (·.dst) = none := by simp [hlx, hd]
          by_cases hw : ∃ i, i < k ∧ listed.getD i false = true ∧ (xs[i]?).bind (·.dst) = some x
          · obtain ⟨i, hi, hli, hdi⟩ := hw
            have huniq := (rdOk_R hrd hi).1 x hdi
            rw [lk_hit hi (by rw [hset i]; split; rfl; exact hli) hdi (fun q hq => huniq q hq), lk_hit hi hli hdi (fun q hq => huniq q hq)]
          · rw [lk_miss fun i hi hL hdi => ?_, lk_miss fun i hi hL hdi => hw ⟨i, hi, hL, hdi⟩]
            rw [hset i] at hL
            by_cases e : i = j
            · subst e; rw [hd'] at hdi; cases hdi
            · rw [if_neg e] at hL; exact hw ⟨i, hi, hL, hdi⟩
        | some d =>
          dsimp only
          have hd' : (xs[j]?).bind (·.dst) = some d := by simp [hlx, hd]
          simp only [lk]
          by_cases e : x = d
          · subst e
            rw [if_pos rfl, lk_hit hjk (by rw [hset j]; simp) hd' (fun q hq => hr1 x hd' q hq)]
          · rw [if_neg e]
            by_cases hw : ∃ i, i < k ∧ listed.getD i false = true ∧ (xs[i]?).bind (·.dst) = some x
            · obtain ⟨i, hi, hli, hdi⟩ := hw
              have huniq := (rdOk_R hrd hi).1 x hdi
              rw [lk_hit hi (by rw [hset i]; split; rfl; exact hli) hdi (fun q hq => huniq q hq), lk_hit hi hli hdi (fun q hq => huniq q hq)]
            · rw [lk_miss fun i hi hL hdi => ?_, lk_miss fun i hi hL hdi => hw ⟨i, hi, hL, hdi⟩]
              rw [hset i] at hL
              by_cases e' : i = j
              · subst e'; rw [hd'] at hdi; exact e (Option.some.inj hdi).symm
              · rw [if_neg e'] at hL; exact hw ⟨i, hi, hL, hdi⟩
end draw
end
end Go.Proofs.YtbnelpgogjbgjaaGreat.Q
