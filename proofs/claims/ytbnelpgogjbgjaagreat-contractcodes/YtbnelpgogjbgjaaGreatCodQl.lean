/- Each operation does what its short form says: values. -/
import Derived.Test.YtbnelpgogjbgjaaGreatCodQk
/- Each operation does what its short form says: values. -/
set_option linter.unusedVariables false
set_option linter.unusedSimpArgs false
namespace Go.Proofs.YtbnelpgogjbgjaaGreat.Q
open Go.RowKit

section
variable {P : Program} {w : World} {I : Nat → Prop} {ρ : List (Option Nat)} {H : List AObj} {a : Act}

theorem equal_step (t : TypeId) (x y : Value) : ∃ d, Op.equal t x y = Op.equalIn (d + 1) t x y := ⟨9999, rfl⟩
theorem eq_bool {t : TypeId} (hd : P.underlying t = some .bool) (a b : Bool) : (Op.equal t (.bool a) (.bool b)).run P w = .ok (a == b) w := by
  obtain ⟨d, e⟩ := equal_step t (.bool a) (.bool b)
  rw [e]
  simp [Op.equalIn, Sem.run_bind, run_underlying hd, Result.andThen]
theorem eq_slice {t e : TypeId} (hd : P.underlying t = some (.slice e)) (A : Option Addr) (n c : Nat) : (Op.equal t (.slice A n c) (.slice none 0 0)).run P w = .ok A.isNone w := by
  obtain ⟨d, h⟩ := equal_step t (.slice A n c) (.slice none 0 0)
  rw [h]
  cases A <;> simp [Op.equalIn, Sem.run_bind, run_underlying hd, Result.andThen]
theorem eq_ptr {t e : TypeId} (hd : P.underlying t = some (.pointer e)) (A : Option Addr) : (Op.equal t (.pointer A) (.pointer none)).run P w = .ok A.isNone w := by
  obtain ⟨d, h⟩ := equal_step t (.pointer A) (.pointer none)
  rw [h]
  cases A <;> simp [Op.equalIn, Sem.run_bind, run_underlying hd, Result.andThen]

theorem bk_slice {d : TypeDesc} (h : bkOf d = .slice) : ∃ e, d = .slice e := by cases d <;> simp [bkOf] at h; exact ⟨_, rfl⟩
theorem bk_ptr {d : TypeDesc} (h : bkOf d = .ptr) : ∃ e, d = .pointer e := by cases d <;> simp [bkOf] at h; exact ⟨_, rfl⟩

theorem binV_run {op : BinOp} {t : TypeId} {d : TypeDesc} (hd : P.underlying t = some d) {a b v : Value} (h : binV op (bkOf d) a b = some v) (x y : Operand) :
    (do eqGuard op t x y a b; binOp op t a b : Sem Value).run P w = .ok v w ∧ v.oneCell' = true := by
  have guard : ∀ {s : Sem Value}, (match a, b with | .nilIface, .nilIface => False | .agg _, .agg _ => False | _, _ => True) → (do eqGuard op t x y a b; s : Sem Value).run P w = s.run P w := by
    intro s hn
    unfold eqGuard
    cases op <;> first
      | (simp [Sem.run_bind, Result.andThen]; done)
      | (cases a <;> cases b <;> simp_all [Sem.run_bind, Result.andThen])
  match a, b, h with
  | .int k a, .int k' b, h =>
    unfold binV at h
    (try dsimp only at h)
    rw [guard trivial]
    cases op <;> dsimp only at h <;> (first | (cases h; done) | skip) <;> split at h <;> (first | (cases h; done) | skip)
    all_goals
      rename_i hk
      obtain rfl := Option.some.inj h
      refine ⟨?_, rfl⟩
      simp [binOp, Op.intArith, Op.intCmp, Op.intDiv, Op.intBits, Op.shift, hk]
  | .string a, .string b, h =>
    unfold binV at h
    (try dsimp only at h)
    rw [guard trivial]
    cases op <;> dsimp only at h <;> (first | (cases h; done) | skip)
    all_goals
      obtain rfl := Option.some.inj h
      refine ⟨?_, rfl⟩
      simp [binOp, Op.stringOp]
  | .bool a, .bool b, h =>
    unfold binV at h
    (try dsimp only at h)
    rw [guard trivial]
    split at h
    · rename_i hb
      obtain rfl := Option.some.inj h
      refine ⟨?_, rfl⟩
      cases d <;> simp [bkOf] at hb
      simp [binOp, Sem.run_bind, eq_bool hd, Result.andThen]
    · rename_i hb
      obtain rfl := Option.some.inj h
      refine ⟨?_, rfl⟩
      cases d <;> simp [bkOf] at hb
      simp [binOp, Sem.run_bind, eq_bool hd, Result.andThen]
    · cases h
  | .float k a, .float k' b, h =>
    unfold binV at h
    (try dsimp only at h)
    rw [guard trivial]
    clear guard
    cases op <;> dsimp only at h <;> split at h <;> (first | (cases h; done) | skip)
    all_goals
      rename_i hk
      simp only [ne_eq, Decidable.not_not] at hk
      subst hk
      obtain rfl := Option.some.inj h
      refine ⟨?_, rfl⟩
      simp [binOp, Op.floatCmp]
  | .slice none 0 0, .slice none 0 0, h =>
    simp only [binV] at h
    rw [guard trivial]
    clear guard
    split at h
    · obtain ⟨e, rfl⟩ := bk_slice (d := d) (by assumption)
      obtain rfl := Option.some.inj (show some (Value.bool true) = some v by assumption)
      exact ⟨by simp [binOp, Sem.run_bind, eq_slice hd, Result.andThen], rfl⟩
    · obtain ⟨e, rfl⟩ := bk_slice (d := d) (by assumption)
      obtain rfl := Option.some.inj (show some (Value.bool false) = some v by assumption)
      exact ⟨by simp [binOp, Sem.run_bind, eq_slice hd, Result.andThen], rfl⟩
    · cases h
  | .pointer none, .pointer none, h =>
    simp only [binV] at h
    rw [guard trivial]
    clear guard
    split at h
    · obtain ⟨e, rfl⟩ := bk_ptr (d := d) (by assumption)
      obtain rfl := Option.some.inj (show some (Value.bool true) = some v by assumption)
      exact ⟨by simp [binOp, Sem.run_bind, eq_ptr hd, Result.andThen], rfl⟩
    · obtain ⟨e, rfl⟩ := bk_ptr (d := d) (by assumption)
      obtain rfl := Option.some.inj (show some (Value.bool false) = some v by assumption)
      exact ⟨by simp [binOp, Sem.run_bind, eq_ptr hd, Result.andThen], rfl⟩
    · cases h

theorem guard_none {op : BinOp} {t : TypeId} {x y : Operand} {a b : Value} (hn : match a, b with | .nilIface, .nilIface => False | .agg _, .agg _ => False | _, _ => True) {s : Sem Value} : (do eqGuard op t x y a b; s : Sem Value).run P w = s.run P w := by
  unfold eqGuard
  cases op <;> first
    | (simp [Sem.run_bind, Result.andThen]; done)
    | (cases a <;> cases b <;> simp_all [Sem.run_bind, Result.andThen])

theorem snd_bin {op : BinOp} {t : TypeId} {d : TypeDesc} (hd : P.underlying t = some d) (hr : HRel w I ρ H) {x y : SV} {u v : Value} (hx : SVR w I ρ H x u) (hy : SVR w I ρ H y v) (o1 o2 : Operand) {K : SV → Prop} (h : binK op (bkOf d) H x y K) :
    ∃ r, (do eqGuard op t o1 o2 u v; binOp op t u v : Sem Value).run P w = .ok r w ∧ ∃ sv, SVR w I ρ H sv r ∧ K sv := by
  unfold binK at h
  split at h
  · obtain ⟨r, hr1, hk⟩ := h
    obtain ⟨rfl, _⟩ := hx.sc_inv
    obtain ⟨rfl, _⟩ := hy.sc_inv
    obtain ⟨h1, h2⟩ := binV_run (w := w) hd hr1 o1 o2
    exact ⟨r, h1, _, SVR.sc h2, hk⟩
  · obtain ⟨hb, hk⟩ := h
    obtain ⟨e, rfl⟩ := bk_slice hb
    obtain ⟨rfl, _⟩ := hy.sc_inv
    have hc := hx.c_inv
    cases hc with
    | sl _ xs A cap f _ _ _ hA _ =>
    rw [guard_none trivial]
    cases A with
    | some ad =>
      rcases hk with ⟨rfl, _, hk⟩ | ⟨rfl, _, hk⟩
      · exact ⟨.bool false, by simp [binOp, Sem.run_bind, eq_slice hd, Result.andThen], _, SVR.sc rfl, hk⟩
      · exact ⟨.bool true, by simp [binOp, Sem.run_bind, eq_slice hd, Result.andThen], _, SVR.sc rfl, hk⟩
    | none =>
      have he := List.eq_nil_of_length_eq_zero (Nat.eq_zero_of_not_pos fun h0 => by obtain ⟨ad, e, _⟩ := hA h0; cases e)
      rcases hk with ⟨rfl, hk, _⟩ | ⟨rfl, hk, _⟩
      · exact ⟨.bool true, by simp [binOp, Sem.run_bind, eq_slice hd, Result.andThen], _, SVR.sc rfl, hk he⟩
      · exact ⟨.bool false, by simp [binOp, Sem.run_bind, eq_slice hd, Result.andThen], _, SVR.sc rfl, hk he⟩
  · obtain ⟨hb, ⟨cells, hbox⟩, hk⟩ := h
    obtain ⟨e, rfl⟩ := bk_ptr hb
    obtain ⟨rfl, _⟩ := hy.sc_inv
    cases hx with
    | ptr _ hlt hp =>
    obtain ⟨rb, hρ⟩ : ∃ rb, ρ[_]? = some rb := ⟨_, List.getElem?_eq_getElem (by rw [hr.len]; exact hlt)⟩
    have hobj := hr.obj _ _ rb hbox hρ
    cases rb with
    | none => exact hobj.elim
    | some b =>
    obtain rfl := hp b cells hbox hρ
    rw [guard_none trivial]
    rcases hk with ⟨rfl, hk⟩ | ⟨rfl, hk⟩
    · exact ⟨.bool false, by simp [binOp, Sem.run_bind, eq_ptr hd, Result.andThen], _, SVR.sc rfl, hk⟩
    · exact ⟨.bool true, by simp [binOp, Sem.run_bind, eq_ptr hd, Result.andThen], _, SVR.sc rfl, hk⟩
  · obtain ⟨hb, hk⟩ := h
    obtain ⟨e, rfl⟩ := bk_ptr hb
    obtain ⟨rfl, _⟩ := hy.sc_inv
    cases hx with
    | dp f hi h hc =>
    rw [guard_none trivial]
    rcases hk with ⟨rfl, hk⟩ | ⟨rfl, hk⟩
    · exact ⟨.bool false, by simp [binOp, Sem.run_bind, eq_ptr hd, Result.andThen], _, SVR.sc rfl, hk⟩
    · exact ⟨.bool true, by simp [binOp, Sem.run_bind, eq_ptr hd, Result.andThen], _, SVR.sc rfl, hk⟩
  · exact h.elim

theorem snd_un {op : UnOp} {a v : Value} (h : unV op a = some v) : (Op.unary op a).run P w = .ok v w ∧ v.oneCell' = true := by
  unfold unV at h
  split at h <;> first
    | (split at h
       · rename_i ho
         subst ho
         obtain rfl := Option.some.inj h
         exact ⟨by simp [Op.unary, Op.intArith], rfl⟩
       · cases h)
    | cases h

theorem rowBytes_R {xs : List (List Cell)} {l : List UInt8} (h : rowBytes xs = some l) : xs.length = l.length ∧ ∀ i (hi : i < xs.length), ∃ n, xs[i] = [.sc (.int .u8 n)] ∧ l[i]? = some (UInt8.ofNat n.toNat) := by
  induction xs generalizing l with
  | nil => simp only [rowBytes, Option.some.injEq] at h; subst h; simp
  | cons x xs ih =>
    match x, h with
    | [.sc (.int .u8 n)], h =>
      simp only [rowBytes, Option.map_eq_some_iff] at h
      obtain ⟨r, hr, rfl⟩ := h
      obtain ⟨h1, h2⟩ := ih hr
      refine ⟨by simp [h1], fun i hi => ?_⟩
      cases i with
      | zero => exact ⟨n, rfl, rfl⟩
      | succ i => simpa using h2 i (by simpa using hi)

theorem snd_b2s {src dst e : TypeId} (hs : P.underlying src = some (.slice e)) (he : P.underlying e = some (.int .u8)) (hd : P.underlying dst = some .string) {x : SV} {v : Value} {q : Nat × List (List Cell)} {l : List UInt8} (hx : SVR w I ρ H x v) (hq : asSl x = some q) (hl : rowBytes q.2 = some l) :
    (convert src dst v).run P w = .ok (.string ⟨l.toArray⟩) w := by
  obtain ⟨A, n, cap, rfl, rfl, hc⟩ := asSl_R hx hq
  obtain ⟨h1, h2⟩ := rowBytes_R hl
  cases A with
  | none =>
    have : q.2 = [] := by
      cases hc with
      | sl _ _ _ _ _ _ _ _ hA _ =>
        rcases Nat.eq_zero_or_pos q.2.length with h | h
        · exact List.eq_nil_of_length_eq_zero h
        · obtain ⟨_, h, _⟩ := hA h; cases h
    have hl0 : l = [] := List.eq_nil_of_length_eq_zero (by rw [← h1, this]; rfl)
    subst hl0
    rw [this]
    have := run_convert_bytes_nil w src e hs he 0 cap dst hd
    exact this
  | some ad =>
    have hcell : ∀ i (hi : i < q.2.length), ∃ k, w.cell? (ad.add i) = some (.int .u8 k) ∧ l[i]? = some (UInt8.ofNat k.toNat) := by
      intro i hi
      obtain ⟨k, hk1, hk2⟩ := h2 i hi
      cases hc with
      | sl _ _ _ _ f _ _ hm hA hx' =>
        obtain ⟨ad', e', _, hc'⟩ := hA (by omega)
        obtain rfl := Option.some.inj e'
        have hm1 : q.1 = 1 := by
          have := hm _ (List.getElem_mem hi)
          rw [hk1] at this
          exact this.symm
        have h3 := hc' i 0 hi (by omega)
        rw [hm1] at h3
        have h4 := hx' i hi 0 (by rw [hk1]; simp)
        simp only [hk1, List.getElem_cons_zero] at h4
        have h5 := (SVR.sc_inv (H := H) (ρ := ρ) (.c h4)).1
        exact ⟨k, by simpa [h5] using h3, hk2⟩
    obtain ⟨b, off, sp⟩ := ad
    have hbytes : (convert src dst (.slice (some ⟨b, off, sp⟩) q.2.length cap)).run P w = (Conv.bytesToString (.slice (some ⟨b, off, sp⟩) q.2.length cap)).run P w := run_convert_bytes_string w src dst e _ _ _ hs he hd
    have hsp : q.2.length = 0 ∨ sp = none := by
      rcases Nat.eq_zero_or_pos q.2.length with h | h
      · exact .inl h
      · obtain ⟨k, hk, _⟩ := hcell 0 h
        right
        have h0 : (⟨b, off, sp⟩ : Addr).add 0 = ⟨b, off, sp⟩ := by simp [Addr.add]
        rw [h0] at hk
        simp only [World.cell?] at hk
        split at hk
        · split at hk
          · cases hk
          · rename_i hh; simpa using hh
        · cases hk
    rcases hsp with h0 | rfl
    · have hl0 : l = [] := List.eq_nil_of_length_eq_zero (by rw [← h1, h0])
      subst hl0
      rw [hbytes, h0]
      have hl : (loadCells ⟨b, off, sp⟩ 0).run P w = .ok #[] w := by simpa using run_loadCells_list (P := P) (w := w) ⟨b, off, sp⟩ [] (by simp)
      simp [Conv.bytesToString, Sem.run_bind, hl, Result.andThen]
      rfl
    · have hmap : ∃ ks : List Int, ks.length = q.2.length ∧ (∀ i, i < q.2.length → w.cell? ⟨b, off + i, none⟩ = some (.int .u8 (ks.getD i 0))) ∧ strOfNums ks = ⟨l.toArray⟩ := by
        have hex : ∀ i : Nat, ∃ k : Int, i < q.2.length → (w.cell? ⟨b, off + i, none⟩ = some (.int .u8 k) ∧ l[i]? = some (UInt8.ofNat k.toNat)) := by
          intro i
          by_cases hi : i < q.2.length
          · obtain ⟨k, hk1, hk2⟩ := hcell i hi
            rw [add_off] at hk1
            exact ⟨k, fun _ => ⟨hk1, hk2⟩⟩
          · exact ⟨0, fun h => absurd h hi⟩
        obtain ⟨f, hf⟩ := Classical.axiomOfChoice hex
        refine ⟨(List.range q.2.length).map f, by simp, fun i hi => ?_, ?_⟩
        · rw [(hf i hi).1]
          simp [hi]
        · unfold strOfNums
          congr 2
          apply List.ext_getElem
          · simp [h1]
          · intro i h3 h4
            simp only [List.length_map, List.length_range] at h3
            have := (hf i h3).2
            rw [List.getElem?_eq_getElem h4] at this
            simpa using (Option.some.inj this).symm
      obtain ⟨ks, hk1, hk2, hk3⟩ := hmap
      rw [run_convert_bytes_arg w src e hs he b off q.2.length cap ks hk1 hk2 dst hd, hk3]
end
end Go.Proofs.YtbnelpgogjbgjaaGreat.Q
