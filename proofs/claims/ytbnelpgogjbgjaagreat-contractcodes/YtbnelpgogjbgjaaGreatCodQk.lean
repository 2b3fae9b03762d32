/- Each operation does what its short form says: appends (3). -/
import Derived.Test.YtbnelpgogjbgjaaGreatCodQj
/- Each operation does what its short form says: appends (3). -/
set_option linter.unusedVariables false
set_option linter.unusedSimpArgs false
namespace Go.Proofs.YtbnelpgogjbgjaaGreat.Q
open Go.RowKit

section
variable {P : Program} {w : World} {I : Nat → Prop} {ρ : List (Option Nat)} {H : List AObj} {a : Act}

theorem flatV_append {m n k : Nat} {f g : Nat → Nat → Value} : flatV m n f ++ flatV m k g = flatV m (n + k) fun i j => if i < n then f i j else g (i - n) j := by
  apply List.ext_getElem
  · simp [flatV_len, Nat.add_mul]
  · intro q h1 h2
    simp only [List.length_append, flatV_len] at h1
    have hm : 0 < m := by
      rcases Nat.eq_zero_or_pos m with h0 | h0
      · subst h0; simp at h1
      · exact h0
    by_cases hq : q < n * m
    · rw [List.getElem_append_left (by rw [flatV_len]; exact hq)]
      simp only [flatV, List.getElem_map, List.getElem_range]
      rw [if_pos (Nat.div_lt_of_lt_mul (by rw [Nat.mul_comm]; exact hq))]
    · rw [List.getElem_append_right (by rw [flatV_len]; omega)]
      simp only [flatV, List.getElem_map, List.getElem_range, List.length_map, List.length_range]
      have e1 : q = q - n * m + m * n := by rw [Nat.mul_comm m n]; omega
      have e2 : q / m = (q - n * m) / m + n := by
        conv => lhs; rw [e1]
        rw [Nat.add_mul_div_left _ _ hm]
      have e3 : q % m = (q - n * m) % m := by
        conv => lhs; rw [e1]
        rw [Nat.add_mul_mod_self_left]
      rw [e2, e3, if_neg (Nat.not_lt.mpr (Nat.le_add_left _ _)), Nat.add_sub_cancel]

theorem take_flatV {m n : Nat} {vs : List Value} {f : Nat → Nat → Value} (hl : n * m ≤ vs.length) (h : ∀ i j, i < n → j < m → vs[i * m + j]? = some (f i j)) : vs.take (n * m) = flatV m n f := by
  apply List.ext_getElem
  · simp [flatV_len]; omega
  · intro q h1 h2
    have hq : q < n * m := by rw [flatV_len] at h2; exact h2
    have h3 := List.getElem?_eq_getElem h2
    obtain ⟨hm, ha, hb, hc, hd⟩ := flatV_inv h3
    have h4 := h (q / m) (q % m) ha hb
    rw [← hd] at h4
    rw [hc]
    simp only [List.getElem_take]
    rw [List.getElem?_eq_getElem (by omega)] at h4
    exact Option.some.inj h4

/-- A row has grown: in its block, or in a new one. -/
theorem Stp.rowput {w' : World} {r : Nat} {rb : Option Nat} {st : Bool} {e m : Nat} {xs zs : List (List Cell)} {b : Nat} (hr : HRel w I ρ H) (ho : H[r]? = some (.row st e m xs)) (hρ : ρ[r]? = some rb) (hg : w.grownBy w' rb) (hb : rb = some b ∨ w.heap.size ≤ b) (hb' : b < w'.heap.size)
    (hl : xs.length < zs.length) (hobj : ∀ ρ' H', (∀ x, I x → w'.heap[x]? = w.heap[x]?) → ObjR w' I ρ' H' (.row st e m zs) (some b)) : Stp w I ρ H w' I (ρ.set r (some b)) (H.set r (.row st e m zs)) := by
  have hlen := hr.len
  have hrl : r < H.length := (List.getElem?_eq_some_iff.1 ho).1
  have old : ∀ x, x < w.heap.size → some x ≠ rb → w'.heap[x]? = w.heap[x]? := fun x hx hne => hg.block x hx hne
  have hI : ∀ x, I x → w'.heap[x]? = w.heap[x]? := fun x hx => old x (hr.live x hx) fun e => hr.apart r x (by rw [hρ, e]) hx
  have get : ∀ (r' : Nat) y, (ρ.set r (some b))[r']? = some y → (r' = r ∧ y = some b) ∨ (r' ≠ r ∧ ρ[r']? = some y) := by
    intro r' y h
    by_cases e : r' = r
    · subst e; rw [List.getElem?_set_self (by omega)] at h; exact .inl ⟨rfl, (Option.some.inj h).symm⟩
    · rw [List.getElem?_set_ne (by omega)] at h; exact .inr ⟨e, h⟩
  have oldb : ∀ (r' x : Nat), r' ≠ r → ρ[r']? = some (some x) → w'.heap[x]? = w.heap[x]? := fun r' x hne h => old x (hr.lt r' x h) fun e => hne (hr.inj r' r x h (by rw [hρ, e]))
  have mv : Mv w I ρ H w' I (ρ.set r (some b)) (H.set r (.row st e m zs)) := by
    refine ⟨hI, fun _ h => h, by simp, fun r' cells hl' h => ?_, fun r' st' e' m' xs' rb' hl' h hρ' => ?_⟩
    · by_cases er : r' = r
      · subst er; rw [List.getElem?_set_self hl'] at h; cases h
      · rw [List.getElem?_set_ne (by omega)] at h
        exact ⟨⟨_, h⟩, List.getElem?_set_ne (by omega)⟩
    · by_cases er : r' = r
      · subst er
        rw [List.getElem?_set_self hl'] at h
        simp only [Option.some.injEq, AObj.row.injEq] at h
        obtain ⟨rfl, rfl, rfl, rfl⟩ := h
        exact ⟨_, _, rb, ho, hρ, by omega, fun e => by omega⟩
      · rw [List.getElem?_set_ne (by omega)] at h
        rcases get r' _ hρ' with ⟨e', _⟩ | ⟨_, hρ'⟩
        · exact absurd e' er
        · exact ⟨st', xs', rb', h, hρ', Nat.le_refl _, fun _ v hv => hv.mono hI (fun _ h => h) fun x ex => oldb r' x er (by rw [hρ', ex])⟩
  refine ⟨⟨hg.os, hg.tape, hg.output, hg.size, fun x hx hn => old x hx fun e => hn r (by rw [hρ, e]), fun _ h => h, fun _ h => .inl h, fun r' x h => ?_⟩, mv, ?_⟩
  · rcases get r' _ h with ⟨_, h⟩ | ⟨_, h⟩
    · obtain rfl := Option.some.inj h
      rcases hb with rfl | hb
      · exact .inl ⟨r, hρ⟩
      · exact .inr hb
    · exact .inl ⟨r', h⟩
  · refine ⟨by simp [hlen], fun x hx => Nat.lt_of_lt_of_le (hr.live x hx) hg.size, fun r' x h => ?_, fun r' x h hx => ?_, fun r1 r2 x h h' => ?_, fun r' o y h1 h2 => ?_⟩
    · rcases get r' _ h with ⟨_, h⟩ | ⟨_, h⟩
      · obtain rfl := Option.some.inj h; exact hb'
      · exact Nat.lt_of_lt_of_le (hr.lt r' x h) hg.size
    · rcases get r' _ h with ⟨_, h⟩ | ⟨_, h⟩
      · obtain rfl := Option.some.inj h
        rcases hb with rfl | hb
        · exact hr.apart r _ hρ hx
        · have := hr.live _ hx; omega
      · exact hr.apart r' x h hx
    · rcases get r1 _ h with ⟨e1, g1⟩ | ⟨e1, g1⟩ <;> rcases get r2 _ h' with ⟨e2, g2⟩ | ⟨e2, g2⟩
      · omega
      · have eb := Option.some.inj g1
        rcases hb with hb | hb
        · exact absurd (hr.inj r2 r x g2 (by rw [hρ, hb, eb])) e2
        · have := hr.lt r2 _ g2; omega
      · have eb := Option.some.inj g2
        rcases hb with hb | hb
        · exact absurd (hr.inj r1 r x g1 (by rw [hρ, hb, eb])) e1
        · have := hr.lt r1 _ g1; omega
      · exact hr.inj r1 r2 x g1 g2
    · by_cases er : r' = r
      · subst er
        rw [List.getElem?_set_self (by omega)] at h1 h2
        obtain rfl := Option.some.inj h1
        obtain rfl := Option.some.inj h2
        exact hobj _ _ hI
      · rw [List.getElem?_set_ne (by omega)] at h1 h2
        exact (hr.obj r' o y h1 h2).mono mv fun x ex => oldb r' x er (by rw [h2, ex])

theorem set_same {α : Type} {l : List α} {r : Nat} {o : α} (h : l[r]? = some o) : l.set r o = l := by
  apply List.ext_getElem?
  intro i
  by_cases e : i = r
  · subst e
    rw [List.getElem?_set_self (List.getElem?_eq_some_iff.1 h).1, h]
  · rw [List.getElem?_set_ne (by omega)]

theorem snd_app (hr : HRel w I ρ H) {t ty e : TypeId} {i : TypeInfo} {z : Value} (hu : P.underlying t = some (.slice e)) (hi : P.info? e = some i) (hz : i.zero = some z) (hs0 : 0 < i.size) (hzs : z.cells.size = i.size)
    {y : SV} {v u : Value} {r n : Nat} {st : Bool} {xs ys : List (List Cell)} (hb0 : 0 < i.bytes) (hv : SVR w I ρ H (.row r n) v) (ho : H[r]? = some (.row st e i.size xs)) (hn : xs.length = n) (hy : SVR w I ρ H y u) (hys : srcOf y = some ys) (hym : ∀ c ∈ ys, c.length = i.size)
    (hbound : (xs.length + ys.length) * i.bytes ≤ 140737488355328) :
    ∃ v' w' ρ', (Builtin.append_ #[t, t] ty #[v, u]).run P w = .ok v' w' ∧ Stp w I ρ H w' I ρ' (H.set r (.row st e i.size (xs ++ ys))) ∧ SVR w' I ρ' (H.set r (.row st e i.size (xs ++ ys))) (.row r (xs.length + ys.length)) v' := by
  have hrl : r < H.length := (List.getElem?_eq_some_iff.1 ho).1
  obtain ⟨rb, hρ⟩ : ∃ rb, ρ[r]? = some rb := ⟨_, List.getElem?_eq_getElem (by rw [hr.len]; exact hrl)⟩
  have hobj := hr.obj r _ rb ho hρ
  simp only [srcOf, Option.map_eq_some_iff] at hys
  obtain ⟨⟨m', ys'⟩, hq, rfl⟩ := hys
  obtain ⟨B, k, c, rfl, rfl, hcy⟩ := asSl_R hy hq
  dsimp only at *
  have hcy : CR w I (.sl i.size ys') (.slice B ys'.length c) := hcy.reM fun hne => by
    obtain ⟨y0, hy0⟩ := List.exists_mem_of_ne_nil _ hne
    have h1 := hym y0 hy0
    cases hcy with
    | sl _ _ _ _ _ _ _ hm _ _ => rw [← hm y0 hy0, h1]
  subst hn
  obtain ⟨hrow⟩ : Nonempty (RowV w I rb st e i.size xs v) := by
    cases hv with
    | row _ _ h => exact ⟨(h st e i.size xs rb ho hρ).2 rfl⟩
  have hform : ∃ A cap, v = .slice A xs.length cap ∧ xs.length ≤ cap := by
    unfold RowV at hrow
    cases rb with
    | some b => obtain ⟨cap, _, h1, h2, _⟩ := hrow; exact ⟨_, cap, h1, h2⟩
    | none =>
      dsimp only at hrow
      split at hrow
      · obtain ⟨rfl, rfl⟩ := hrow; exact ⟨none, 0, rfl, Nat.le_refl _⟩
      · obtain ⟨A, h1, _⟩ := hrow; exact ⟨A, _, h1, Nat.le_refl _⟩
  by_cases hy0 : ys' = []
  · subst hy0
    obtain ⟨A, cap, rfl, hcap⟩ := hform
    refine ⟨_, w, ρ, run_append_zero hu hi A B xs.length cap c hcap, ?_, ?_⟩
    · rw [List.append_nil, set_same ho]; exact Stp.refl hr
    · rw [List.append_nil, set_same ho]; exact hv
  · have hk : 0 < ys'.length := List.length_pos_iff.2 hy0
    cases hcy with
    | sl _ _ _ _ g hcap hmax hm hA hx =>
    obtain ⟨ad, rfl, hI, hcell⟩ := hA hk
    have hlen : xs.length + ys'.length ≤ 140737488355328 := Nat.le_trans (Nat.le_mul_of_pos_right _ hb0) hbound
    have hnews : ∀ j u, (flatV i.size ys'.length g)[j]? = some u → w.cell? (ad.add j) = some u := by
      intro j u hj
      obtain ⟨_, h1, h2, rfl, h4⟩ := flatV_inv hj
      have := hcell _ _ h1 h2
      rwa [← h4] at this
    have hone : ∀ u ∈ flatV i.size ys'.length g, u.oneCell' = true := by
      intro u hu
      obtain ⟨j, hj, rfl⟩ := List.getElem_of_mem hu
      have h3 := List.getElem?_eq_getElem hj
      obtain ⟨_, h1, h2, h4, _⟩ := flatV_inv h3
      rw [h4]
      exact (hx _ h1 _ (by rw [hym _ (List.getElem_mem h1)]; exact h2)).one
    -- whatever way the law went
    have fin : ∀ (f : Nat → Nat → Value) (v' : Value) (w' : World), (∀ b, v'.ownBlock = some b → rb = some b ∨ w.heap.size ≤ b) → w.grownBy w' rb →
        (∀ j (hj : j < xs.length) l (hl : l < (xs[j]).length), CR w I (xs[j][l]) (f j l)) → (∀ y ∈ xs, y.length = i.size) →
        w'.ownsRow 0 e i.size v' (xs.length + ys'.length) (flatV i.size xs.length f ++ flatV i.size ys'.length g) →
        ∃ ρ', Stp w I ρ H w' I ρ' (H.set r (.row st e i.size (xs ++ ys'))) ∧ SVR w' I ρ' (H.set r (.row st e i.size (xs ++ ys'))) (.row r (xs.length + ys'.length)) v' := by
      intro f v' w' hblk hg hxf hxm hown
      rw [flatV_append, ← List.length_append] at hown
      have hzm : ∀ y ∈ xs ++ ys', y.length = i.size := fun y hy => (List.mem_append.1 hy).elim (hxm y) (hym y)
      have hIw : ∀ x, I x → w'.heap[x]? = w.heap[x]? := fun x hx => hg.block x (hr.live x hx) fun e => hr.apart r x (by rw [hρ, e]) hx
      obtain ⟨b, hvb, hownV, _⟩ := own_obj (w' := w') (I' := I) (ρ' := ρ) (H' := H) hs0 hzm (by simp; omega) hown (fun j hj l hl => by
        by_cases hjx : j < xs.length
        · simp only [List.getElem_append_left hjx] at hl ⊢
          rw [if_pos hjx]
          exact (hxf j hjx l hl).mono hIw fun _ h => h
        · simp only [List.getElem_append_right (by omega : xs.length ≤ j)] at hl ⊢
          rw [if_neg hjx]
          exact (hx _ (by simp at hj; omega) l hl).mono hIw fun _ h => h) st
      have hb'' : b < w'.heap.size := by
        obtain ⟨_, vs, _, _, _, hh, _⟩ := hownV
        by_cases hh' : b < w'.heap.size
        · exact hh'
        · rw [Array.getElem?_eq_none (by omega)] at hh; cases hh
      refine ⟨ρ.set r (some b), Stp.rowput hr ho hρ hg (hblk b hvb) hb'' (by simp; omega) (fun ρ' H' _ => ?_), ?_⟩
      · obtain ⟨b', hvb', _, ho'⟩ := own_obj (w' := w') (I' := I) (ρ' := ρ') (H' := H') hs0 hzm (by simp; omega) hown (fun j hj l hl => by
          by_cases hjx : j < xs.length
          · simp only [List.getElem_append_left hjx] at hl ⊢
            rw [if_pos hjx]
            exact (hxf j hjx l hl).mono hIw fun _ h => h
          · simp only [List.getElem_append_right (by omega : xs.length ≤ j)] at hl ⊢
            rw [if_neg hjx]
            exact (hx _ (by simp at hj; omega) l hl).mono hIw fun _ h => h) st
        rw [hvb] at hvb'
        obtain rfl := Option.some.inj hvb'
        exact ho'
      · refine .row ?_ (by simp [hrl]) fun st' e' m' xs' rb' h1 h2 => ?_
        · obtain ⟨_, _, rfl, _⟩ := hownV; rfl
        · rw [List.getElem?_set_self hrl] at h1
          simp only [Option.some.injEq, AObj.row.injEq] at h1
          obtain ⟨rfl, rfl, rfl, rfl⟩ := h1
          rw [List.getElem?_set_self (by rw [hr.len]; exact hrl)] at h2
          obtain rfl := Option.some.inj h2
          exact ⟨by simp, fun _ => hownV⟩
    cases rb with
    | some b =>
      obtain ⟨cap, vs, rfl, h1, h2, h3, h4⟩ := hrow
      obtain ⟨vs', f, h3', h5, hxm, h6, h7⟩ := hobj
      rw [h3] at h3'
      simp only [Option.some.injEq, Obj.cells.injEq, true_and] at h3'
      obtain ⟨rfl, _⟩ := h3'
      have hown : w.ownsRow 0 e i.size (.slice (some ⟨b, 0, none⟩) xs.length cap) xs.length (flatV i.size xs.length f) :=
        ⟨flatV_len, .inr ⟨b, cap, vs, rfl, Nat.zero_le _, h3, h1, h2, h4, take_flatV (by simpa using h5) (fun j l hj hl => by simpa using h6 j l hj hl)⟩⟩
      obtain ⟨v', w', hrun, ho', hg, _, hblk⟩ := run_append_own_at (P := P) w 0 t ty e i z i.size i.bytes hu hi hz rfl rfl hzs hs0 _ xs.length _ hown ad ys'.length c (flatV i.size ys'.length g) flatV_len hnews hone (by unfold maxLen; omega) hbound (Nat.zero_le _)
      obtain ⟨ρ', hst, hsv⟩ := fin f v' w' (fun b' hb' => by
        rcases hblk with h | h
        · rw [h] at hb'; exact .inl (by simpa [Value.ownBlock] using hb')
        · rw [h] at hb'; right; obtain rfl := Option.some.inj hb'; exact Nat.le_refl _) (by simpa [Value.ownBlock] using hg) h7 hxm ho'
      exact ⟨v', w', ρ', hrun, hst, hsv⟩
    | none =>
      have nilc : xs = [] → v = .slice none 0 0 → ∃ v' w' ρ', (Builtin.append_ #[t, t] ty #[v, .slice (some ad) ys'.length c]).run P w = .ok v' w' ∧ Stp w I ρ H w' I ρ' (H.set r (.row st e i.size (xs ++ ys'))) ∧ SVR w' I ρ' (H.set r (.row st e i.size (xs ++ ys'))) (.row r (xs.length + ys'.length)) v' := by
        rintro rfl rfl
        have hown : w.ownsRow 0 e i.size (.slice none 0 0) 0 (flatV i.size 0 fun _ _ => undef) := ⟨flatV_len, .inl ⟨rfl, rfl⟩⟩
        obtain ⟨v', w', hrun, ho', hg, _, hblk⟩ := run_append_own_at (P := P) w 0 t ty e i z i.size i.bytes hu hi hz rfl rfl hzs hs0 _ 0 _ hown ad ys'.length c (flatV i.size ys'.length g) flatV_len hnews hone (by unfold maxLen; simp at hlen; omega) (by simpa using hbound) (Nat.zero_le _)
        obtain ⟨ρ', hst, hsv⟩ := fin (fun _ _ => undef) v' w' (fun b' hb' => by
          rcases hblk with h | h
          · rw [h] at hb'; simp [Value.ownBlock] at hb'
          · rw [h] at hb'; right; obtain rfl := Option.some.inj hb'; exact Nat.le_refl _) (by simpa [Value.ownBlock] using hg) (fun j hj => by simp at hj) (by simp) (by simpa using ho')
        exact ⟨v', w', ρ', hrun, hst, hsv⟩
      dsimp only [RowV] at hrow
      split at hrow
      · exact nilc hrow.1 hrow.2
      · obtain ⟨A, rfl, hcr⟩ := hrow
        cases hcr with
        | sl _ _ _ _ f h1 h2 hxm hA' h7 =>
        cases A with
        | none =>
          have : xs = [] := by
            rcases Nat.eq_zero_or_pos xs.length with h | h
            · exact List.eq_nil_of_length_eq_zero h
            · obtain ⟨_, h, _⟩ := hA' h; cases h
          subst this
          exact nilc rfl rfl
        | some ad0 =>
          obtain ⟨v', w', hrun, ho', hg⟩ := run_append_arg_grows (P := P) (w := w) t ty e i z i.size i.bytes hu hi hz rfl rfl hzs hs0 ad0 xs.length xs.length (flatV i.size xs.length f) flatV_len (fun j u hj => by
              obtain ⟨_, h1, h2, rfl, h4⟩ := flatV_inv hj
              obtain ⟨ad1, e1, _, hc1⟩ := hA' (Nat.lt_of_le_of_lt (Nat.zero_le _) h1)
              obtain rfl := Option.some.inj e1
              have := hc1 _ _ h1 h2
              rwa [← h4] at this) ad ys'.length c (flatV i.size ys'.length g) flatV_len hnews (by omega) (by unfold maxLen; omega) hbound
          have ho2 : w'.ownsRow 0 e i.size v' (xs.length + ys'.length) (flatV i.size xs.length f ++ flatV i.size ys'.length g) := by
            obtain ⟨hq1, hq2⟩ := ho'
            refine ⟨hq1, hq2.imp id ?_⟩
            rintro ⟨b, cap, cur, h1, _, h3⟩
            exact ⟨b, cap, cur, h1, Nat.zero_le _, h3⟩
          obtain ⟨ρ', hst, hsv⟩ := fin f v' w' (fun b' hb' => by
            obtain ⟨_, h | ⟨b, cap, cur, rfl, hb, _⟩⟩ := ho'
            · omega
            · right; simp only [Value.ownBlock, Option.some.injEq] at hb'; omega) hg h7 hxm ho2
          exact ⟨v', w', ρ', hrun, hst, hsv⟩
end
end Go.Proofs.YtbnelpgogjbgjaaGreat.Q
