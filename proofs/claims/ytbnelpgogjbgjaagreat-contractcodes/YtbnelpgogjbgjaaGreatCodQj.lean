/- Each operation does what its short form says: cuts, appends (2). -/
import Derived.Test.YtbnelpgogjbgjaaGreatCodQi
/- Each operation does what its short form says: cuts, appends (2). -/
set_option linter.unusedVariables false
set_option linter.unusedSimpArgs false
namespace Go.Proofs.YtbnelpgogjbgjaaGreat.Q
open Go.RowKit

section
variable {P : Program} {w : World} {I : Nat → Prop} {ρ : List (Option Nat)} {H : List AObj} {a : Act}

theorem asInt_R {x : SV} {v : Value} {q : IntKind × Int} (h : SVR w I ρ H x v) (hq : asInt x = some q) : v = .int q.1 q.2 := by
  unfold asInt at hq
  split at hq
  · obtain rfl := Option.some.inj hq
    exact h.sc_inv.1
  · cases hq
theorem asStr_R {x : SV} {v : Value} {s : ByteArray} (h : SVR w I ρ H x v) (hq : asStr x = some s) : v = .string s := by
  unfold asStr at hq
  split at hq
  · obtain rfl := Option.some.inj hq
    exact h.sc_inv.1
  · cases hq

theorem run_bound {k : IntKind} {n : Int} {y : Nat} {code : BoundsCode} (h0 : 0 ≤ n) (h1 : n ≤ y) : (Instr.sliceBound (.int k n) y code).run P w = .ok n.toNat w := by
  simp [Instr.sliceBound, asIntOf, Sem.run_bind, Result.andThen, h0, h1]

/-- The bounds of a slice expression. -/
theorem run_bounds {ev : Operand → SV} {q : Operand → Value} (hev : ∀ x, SVR w I ρ H (ev x) (q x)) (isS : Bool) (len cap : Nat) (lo hi mx : Option Operand) {l h m : Int} (hl : optInt ev 0 lo = some l) (hh : optInt ev len hi = some h)
    (hm : match mx with | none => m = cap | some x => ∃ k, asInt (ev x) = some (k, m)) (hmh : mx.isSome → hi.isSome) (h0 : 0 ≤ l) (h1 : l ≤ h) (h2 : h ≤ m) (h3 : m ≤ cap) (h4 : hi = none → (len : Int) ≤ m) :
    (Instr.sliceBounds isS len cap (lo.map q) (hi.map q) (mx.map q)).run P w = .ok (l.toNat, h.toNat, m.toNat) w := by
  cases mx with
  | none =>
    subst hm
    cases hi with
    | none =>
      simp only [optInt, Option.some.injEq] at hh
      subst hh
      simp only [Instr.sliceBounds, Option.map_none, Sem.run_bind, Sem.run_pure, Result.andThen_ok, Int.toNat_natCast]
      simp only [Option.isSome_none, Bool.false_eq_true, if_false]
      cases lo with
      | none => simp only [optInt, Option.some.injEq] at hl; subst hl; simp
      | some z =>
        simp only [optInt, Option.map_eq_some_iff] at hl
        obtain ⟨r, hr', rfl⟩ := hl
        simp only [Option.map_some, asInt_R (hev z) hr', Sem.run_bind]
        rw [run_bound h0 (by omega)]
        simp
    | some x =>
      simp only [optInt, Option.map_eq_some_iff] at hh
      obtain ⟨p, hp, rfl⟩ := hh
      simp only [Instr.sliceBounds, Option.map_some, Option.map_none, Sem.run_bind, Sem.run_pure, Result.andThen_ok, asInt_R (hev x) hp, Int.toNat_natCast]
      rw [run_bound (by omega) (by omega)]
      simp only [Result.andThen_ok, Option.isSome_none, Bool.false_eq_true, if_false]
      cases lo with
      | none => simp only [optInt, Option.some.injEq] at hl; subst hl; simp
      | some z =>
        simp only [optInt, Option.map_eq_some_iff] at hl
        obtain ⟨r, hr', rfl⟩ := hl
        simp only [Option.map_some, asInt_R (hev z) hr', Sem.run_bind]
        rw [run_bound h0 (by omega)]
        simp
  | some y =>
    obtain ⟨k, hk⟩ := hm
    cases hi with
    | none => simp at hmh
    | some x =>
      simp only [optInt, Option.map_eq_some_iff] at hh
      obtain ⟨p, hp, rfl⟩ := hh
      simp only [Instr.sliceBounds, Option.map_some, Sem.run_bind, Sem.run_pure, Result.andThen_ok, asInt_R (hev x) hp, asInt_R (hev y) hk]
      rw [run_bound (by omega) (by omega)]
      simp only [Result.andThen_ok]
      rw [run_bound (by omega) (by omega)]
      simp only [Result.andThen_ok, Option.isSome_some, if_true]
      cases lo with
      | none => simp only [optInt, Option.some.injEq] at hl; subst hl; simp
      | some z =>
        simp only [optInt, Option.map_eq_some_iff] at hl
        obtain ⟨r, hr', rfl⟩ := hl
        simp only [Option.map_some, asInt_R (hev z) hr', Sem.run_bind]
        rw [run_bound h0 (by omega)]
        simp

theorem snd_cut {ev : Operand → SV} {q : Operand → Value} (hev : ∀ x, SVR w I ρ H (ev x) (q x)) {t e : TypeId} {i : TypeInfo} (hu : P.underlying t = some (.slice e)) (hi : P.info? e = some i) {x : Operand} {lo hi' : Option Operand} {p : Nat × List (List Cell)} {l h : Int}
    (hx : asSl (ev x) = some p) (hp : p.2 ≠ [] → p.1 = i.size) (hl : optInt ev 0 lo = some l) (hh : optInt ev p.2.length hi' = some h) (h0 : 0 ≤ l) (h1 : l ≤ h) (h2 : h ≤ p.2.length) :
    ∃ u, (Instr.sliceAt t (q x) (lo.map q) (hi'.map q) none).run P w = .ok u w ∧ SVR w I ρ H (.c (.sl i.size ((p.2.take h.toNat).drop l.toNat))) u := by
  obtain ⟨A, n, cap, hv, rfl, hc⟩ := asSl_R (hev x) hx
  have hc := hc.reM hp
  rw [hv] at hc ⊢
  have hcap : p.2.length ≤ cap := by cases hc; assumption
  have hb := run_bounds (P := P) (w := w) hev true p.2.length cap lo hi' none (m := cap) hl hh rfl (by simp) h0 h1 (by omega) (by omega) (fun _ => by omega)
  refine ⟨.slice (if cap = l.toNat then A else A.map (·.add (l.toNat * i.size))) (h.toNat - l.toNat) (cap - l.toNat), ?_, .c (hc.cut (by omega) (by omega) (by omega) (Nat.le_refl _))⟩
  simp only [Instr.sliceAt, Sem.run_bind, run_underlying hu, Result.andThen_ok, Instr.slice]
  simp only [Option.map_none] at hb
  simp only [hb, Result.andThen_ok, run_sizeOf' hi, Sem.run_pure, Int.toNat_natCast]

theorem snd_cutM {ev : Operand → SV} {q : Operand → Value} (hr : HRel w I ρ H) (hev : ∀ x, SVR w I ρ H (ev x) (q x)) {t e : TypeId} {i : TypeInfo} (hu : P.underlying t = some (.slice e)) (hi : P.info? e = some i) {x y : Operand} {lo hi' : Option Operand} {p : Nat × List (List Cell)} {l h : Int}
    (hx : asSl (ev x) = some p) (hp : p.2 ≠ [] → p.1 = i.size) (hl : optInt ev 0 lo = some l) (hh : optInt ev p.2.length hi' = some h) (hs : hi'.isSome) (h0 : 0 ≤ l) (h1 : l ≤ h) (h2 : h ≤ p.2.length) (hy : ∃ k, asInt (ev y) = some (k, h)) :
    ∃ u, (Instr.sliceAt t (q x) (lo.map q) (hi'.map q) (some (q y))).run P w = .ok u w ∧
      Stp w I ρ H w I (ρ ++ [none]) (H ++ [.row false e i.size ((p.2.take h.toNat).drop l.toNat)]) ∧ SVR w I (ρ ++ [none]) (H ++ [.row false e i.size ((p.2.take h.toNat).drop l.toNat)]) (.row H.length ((p.2.take h.toNat).drop l.toNat).length) u := by
  obtain ⟨A, n, cap, hv, rfl, hc⟩ := asSl_R (hev x) hx
  have hc := hc.reM hp
  rw [hv] at hc ⊢
  have hcap : p.2.length ≤ cap := by cases hc; assumption
  have hb := run_bounds (P := P) (w := w) hev true p.2.length cap lo hi' (some y) (m := h) hl hh hy (fun _ => hs) h0 h1 (by omega) (by omega) (fun e => by simp [e] at hs)
  refine ⟨.slice (if h.toNat = l.toNat then A else A.map (·.add (l.toNat * i.size))) (h.toNat - l.toNat) (h.toNat - l.toNat), ?_, ?_, ?_⟩
  · simp only [Instr.sliceAt, Sem.run_bind, run_underlying hu, Result.andThen_ok, Instr.slice]
    simp only [Option.map_some] at hb
    simp only [hb, Result.andThen_ok, run_sizeOf' hi, Sem.run_pure, Int.toNat_natCast]
  · exact Stp.push hr ⟨rfl, rfl, rfl⟩ (fun _ _ => rfl) (Nat.le_refl _) (fun _ h => h) (fun _ h => .inl h) (fun b e => by cases e) fun _ => trivial
  · refine .row rfl (by simp) fun st e' m xs rb g1 g2 => ?_
    rw [List.getElem?_append_right (Nat.le_refl _)] at g1
    simp only [Nat.sub_self, List.getElem?_cons_zero, Option.some.injEq, AObj.row.injEq] at g1
    obtain ⟨rfl, rfl, rfl, rfl⟩ := g1
    rw [← hr.len, List.getElem?_append_right (Nat.le_refl _)] at g2
    simp at g2
    subst g2
    refine ⟨Nat.le_refl _, fun _ => ?_⟩
    have := hc.cut (l := l.toNat) (r := h.toNat) (c := h.toNat) (by omega) (by omega) (Nat.le_refl _) (by omega)
    have hlen : ((p.2.take h.toNat).drop l.toNat).length = h.toNat - l.toNat := by simp; omega
    exact ⟨_, by rw [hlen], by exact this⟩

theorem snd_cutS {ev : Operand → SV} {q : Operand → Value} (hev : ∀ x, SVR w I ρ H (ev x) (q x)) {t : TypeId} (hu : P.underlying t = some .string) {x : Operand} {lo hi' : Option Operand} {s : ByteArray} {l h : Int}
    (hx : asStr (ev x) = some s) (hl : optInt ev 0 lo = some l) (hh : optInt ev s.size hi' = some h) (h0 : 0 ≤ l) (h1 : l ≤ h) (h2 : h ≤ s.size) :
    (Instr.sliceAt t (q x) (lo.map q) (hi'.map q) none).run P w = .ok (.string (s.extract l.toNat h.toNat)) w := by
  rw [asStr_R (hev x) hx]
  have hb := run_bounds (P := P) (w := w) hev false s.size s.size lo hi' none (m := s.size) hl hh rfl (by simp) h0 h1 (by omega) (by omega) (fun _ => by omega)
  simp only [Option.map_none] at hb
  simp only [Instr.sliceAt, Sem.run_bind, run_underlying hu, Result.andThen_ok, Instr.slice, Option.isSome_none, Bool.false_eq_true, if_false, Sem.run_pure, hb]

/-! ### Appends -/
theorem run_append_zero {t ty e : TypeId} {i : TypeInfo} (hu : P.underlying t = some (.slice e)) (hi : P.info? e = some i) (A B : Option Addr) (n cap c : Nat) (hc : n ≤ cap) : (Builtin.append_ #[t, t] ty #[.slice A n cap, .slice B 0 c]).run P w = .ok (.slice A n cap) w := by
  have hl : ∀ (x : Addr), (loadCells x 0).run P w = .ok #[] w := fun x => by simpa using run_loadCells_list (P := P) (w := w) x [] (by simp)
  cases A <;> cases B <;> simp [Builtin.append_, Sem.run_bind, run_underlying hu, run_sizeOf' hi, Builtin.lenOf, Builtin.firstCells, hc, Result.andThen, hl, storeCells]

/-- Values of a slice's cells, one behind the other. -/
def flatV (m : Nat) (n : Nat) (f : Nat → Nat → Value) : List Value := (List.range (n * m)).map fun q => f (q / m) (q % m)
theorem flatV_get {m n : Nat} {f : Nat → Nat → Value} {i j : Nat} (hi : i < n) (hj : j < m) : (flatV m n f)[i * m + j]? = some (f i j) := by
  have h1 : i * m + j < n * m := by
    have : (i + 1) * m ≤ n * m := Nat.mul_le_mul_right _ hi
    rw [Nat.add_mul] at this
    omega
  simp only [flatV, List.getElem?_map, List.getElem?_range h1, Option.map_some, Option.some.injEq]
  have hm : 0 < m := by omega
  rw [Nat.mul_comm i m, Nat.mul_add_div hm, Nat.mul_add_mod, Nat.div_eq_of_lt hj, Nat.mod_eq_of_lt hj, Nat.add_zero]
theorem flatV_len {m n : Nat} {f : Nat → Nat → Value} : (flatV m n f).length = n * m := by simp [flatV]
theorem flatV_inv {m n : Nat} {f : Nat → Nat → Value} {k : Nat} {v : Value} (h : (flatV m n f)[k]? = some v) : 0 < m ∧ k / m < n ∧ k % m < m ∧ v = f (k / m) (k % m) ∧ k = k / m * m + k % m := by
  have hk : k < n * m := by
    by_cases hh : k < n * m
    · exact hh
    · rw [List.getElem?_eq_none (by rw [flatV_len]; omega)] at h; cases h
  have hm : 0 < m := by
    rcases Nat.eq_zero_or_pos m with h0 | h0
    · subst h0; omega
    · exact h0
  refine ⟨hm, Nat.div_lt_of_lt_mul (by rw [Nat.mul_comm]; exact hk), Nat.mod_lt _ hm, ?_, ?_⟩
  · simp only [flatV, List.getElem?_map, List.getElem?_range hk, Option.map_some, Option.some.injEq] at h
    exact h.symm
  · have := Nat.div_add_mod k m
    rw [Nat.mul_comm] at this
    omega

theorem CR.one {x : Cell} {v : Value} (h : CR w I x v) : v.oneCell' = true := by cases h <;> first | assumption | rfl

/-- The row of an object behind an append: what the law tells of memory, as an object. -/
theorem own_obj {w' : World} {I' : Nat → Prop} {ρ' : List (Option Nat)} {H' : List AObj} {e m : Nat} {v' : Value} {zs : List (List Cell)} {g : Nat → Nat → Value} (hm : 0 < m) (hz : ∀ y ∈ zs, y.length = m) (hn : 0 < zs.length)
    (hown : w'.ownsRow 0 e m v' zs.length (flatV m zs.length g)) (hg : ∀ i (hi : i < zs.length) j (hj : j < (zs[i]).length), CR w' I' (zs[i][j]) (g i j)) (st : Bool) :
    ∃ b, v'.ownBlock = some b ∧ OwnV w' b e m zs.length v' ∧ ObjR w' I' ρ' H' (.row st e m zs) (some b) := by
  obtain ⟨_, h | ⟨b, cap, cur, rfl, _, hheap, h1, h2, h3, h4⟩⟩ := hown
  · omega
  · refine ⟨b, rfl, ⟨cap, cur, rfl, h1, h2, hheap, h3⟩, cur, g, hheap, ?_, hz, fun i j hi hj => ?_, hg⟩
    · rw [h3]; exact Nat.mul_le_mul_right _ h1
    · have h5 := flatV_get (f := g) hi hj
      rw [← h4] at h5
      have hlt : i * m + j < zs.length * m := by
        have : (i + 1) * m ≤ zs.length * m := Nat.mul_le_mul_right _ hi
        rw [Nat.add_mul] at this
        omega
      rw [List.getElem?_take_of_lt hlt] at h5
      simpa using h5
end
end Go.Proofs.YtbnelpgogjbgjaaGreat.Q
