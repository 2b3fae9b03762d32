/- Each operation does what its short form says: all of them. -/
import Derived.Test.YtbnelpgogjbgjaaGreatCodQl
/- Each operation does what its short form says: all of them. -/
set_option linter.unusedVariables false
set_option linter.unusedSimpArgs false
namespace Go.Proofs.YtbnelpgogjbgjaaGreat.Q
open Go.RowKit

section
variable {P : Program} {w : World} {I : Nat → Prop} {ρ : List (Option Nat)} {H : List AObj} {a : Act}

theorem fn_inv {x : SV} {v : Value} {q : Nat × List SV × List SV} (h : SVR w I ρ H x v) (hq : callee x = some q) :
    ∃ us vs : Array Value, v = .func (.func q.1) us vs ∧ us.size = q.2.1.length ∧ vs.size = q.2.2.length ∧ (∀ i (hi : i < q.2.1.length) (hv : i < us.size), SVR w I ρ H (q.2.1[i]) (us[i])) ∧ ∀ i (hi : i < q.2.2.length) (hv : i < vs.size), SVR w I ρ H (q.2.2[i]) (vs[i]) := by
  unfold callee at hq
  split at hq
  · obtain rfl := Option.some.inj hq
    cases h with
    | fn h1 h2 h3 h4 => exact ⟨_, _, rfl, h1, h2, h3, h4⟩
  · cases hq

theorem map_R {ev : Operand → SV} {q : Operand → Value} (hev : ∀ x, SVR w I ρ H (ev x) (q x)) (l : List Operand) : (l.map q).length = (l.map ev).length ∧ ∀ i (hi : i < (l.map ev).length) (hv : i < (l.map q).length), SVR w I ρ H ((l.map ev)[i]) ((l.map q)[i]) :=
  ⟨by simp, fun i hi hv => by simpa using hev _⟩

theorem append_R {xs ys : List SV} {us vs : List Value} (h1 : us.length = xs.length) (h2 : vs.length = ys.length) (hx : ∀ i (hi : i < xs.length) (hv : i < us.length), SVR w I ρ H (xs[i]) (us[i])) (hy : ∀ i (hi : i < ys.length) (hv : i < vs.length), SVR w I ρ H (ys[i]) (vs[i])) :
    ∀ i (hi : i < (xs ++ ys).length) (hv : i < (us ++ vs).length), SVR w I ρ H ((xs ++ ys)[i]) ((us ++ vs)[i]) := by
  intro i hi hv
  by_cases h : i < xs.length
  · rw [List.getElem_append_left h, List.getElem_append_left (by omega)]
    exact hx i h (by omega)
  · rw [List.getElem_append_right (by omega), List.getElem_append_right (by omega)]
    have e : i - us.length = i - xs.length := by omega
    simp only [e]
    exact hy _ (by simp at hi; omega) (by simp at hv; omega)

theorem new_dataW {w' : World} {e : TypeId} {fr : Nat × Nat} {vs : Array Value} {m : Nat} {rows : List (List Cell)} (hr : HRel w I ρ H) (ho : w'.os = w.os ∧ w'.tape = w.tape ∧ w'.output = w.output) (hw : ∀ b, b < w.heap.size → w'.heap[b]? = w.heap[b]?)
    (hs : w'.heap.size = w.heap.size + 1) (hnew : w'.heap[w.heap.size]? = some (.cells vs e fr)) (hm : ∀ y ∈ rows, y.length = m)
    (hv : rows.length * m ≤ vs.size) (hc : ∀ i j (hi : i < rows.length) (hj : j < (rows[i]).length) (hx : i * m + j < vs.size), CR w I (rows[i][j]) (vs[i * m + j])) (cap : Nat) (hcap : rows.length ≤ cap) (hcm : cap ≤ maxLen) :
    ∃ I', Stp w I ρ H w' I' ρ H ∧ SVR w' I' ρ H (.c (.sl m rows)) (.slice (some ⟨w.heap.size, 0, none⟩) rows.length cap) := by
  refine ⟨fun b => I b ∨ b = w.heap.size, Stp.same hr ho hw (by omega) (fun _ h => .inl h) (fun b h => h.imp id fun e => by subst e; omega), .c ?_⟩
  refine .sl m rows _ cap (fun i j => vs.getD (i * m + j) undef) hcap hcm hm (fun h0 => ⟨_, rfl, .inr rfl, fun i j hi hj => ?_⟩) fun i hi j hj => ?_
  · have hx : i * m + j < vs.size := by
      have : (i + 1) * m ≤ rows.length * m := Nat.mul_le_mul_right _ hi
      rw [Nat.add_mul] at this
      omega
    rw [add_off, Nat.zero_add, cells_at hnew _ hx]
    simp [Array.getD, hx]
  · have hj' : j < m := by rw [← hm _ (List.getElem_mem hi)]; exact hj
    have hx : i * m + j < vs.size := by
      have : (i + 1) * m ≤ rows.length * m := Nat.mul_le_mul_right _ hi
      rw [Nat.add_mul] at this
      omega
    have := hc i j hi hj hx
    simp only [Array.getD, hx, dif_pos]
    exact this.mono (fun b hb => hw b (hr.live b hb)) fun b h => .inl h

theorem snd_s2b (hr : HRel w I ρ H) {src dst e : TypeId} (hs : P.underlying src = some .string) (hd : P.underlying dst = some (.slice e)) (he : P.underlying e = some (.int .u8)) (s : ByteArray) (hl : s.size ≤ 140737488355328) :
    ∃ u w' I', (convert src dst (.string s)).run P w = .ok u w' ∧ Stp w I ρ H w' I' ρ H ∧ SVR w' I' ρ H (.c (.sl 1 (byteRows s))) u := by
  generalize hcap : Question.cut (.appendCap s.size 0 e) (w.tape w.drawn (.appendCap s.size 0 e)) = cap
  have hc1 : s.size ≤ cap ∧ cap ≤ maxLen := by
    have h1 : cap = s.size + w.tape w.drawn (.appendCap s.size 0 e) % (2 ^ 63 - s.size) := hcap.symm
    have h2 : w.tape w.drawn (.appendCap s.size 0 e) % (2 ^ 63 - s.size) < 2 ^ 63 - s.size := Nat.mod_lt _ (by omega)
    unfold maxLen
    omega
  let arr : Array Value := (s.data.map fun b => Value.int .u8 b.toNat) ++ Array.replicate (cap - s.size) (.int .u8 0)
  have hsz : arr.size = cap := by
    have : s.data.size = s.size := rfl
    simp [arr]; omega
  let w1 : World := { w with drawn := w.drawn + 1, heap := w.heap.push (.cells arr e (0, 0)) }
  let w2 : World := w1.freeze ⟨w.heap.size, cap, none⟩ 1
  have hrun : (convert src dst (.string s)).run P w = .ok (.slice (some ⟨w.heap.size, 0, none⟩) s.size cap) w2 := by
    have hch : (choose (.appendCap s.size 0 e)).run P w = .ok cap { w with drawn := w.drawn + 1 } := by
      simp only [choose, Sem.run, Question.forced, hcap]
      rfl
    have hsh : (shape w.heap.size).run P w1 = .ok (some (e, cap)) w1 := by
      simp [shape, Sem.run, World.shape?, w1, hsz]
    simp only [convert, Sem.run_bind, run_underlying hs, run_underlying hd, Result.andThen_ok, run_underlying he, Conv.stringToBytes, hch]
    have hnr : (newRow e arr).run P { w with drawn := w.drawn + 1 } = .ok ⟨w.heap.size, 0, none⟩ w1 := by
      rfl
    have hmk : (markStringish ⟨w.heap.size, 0, none⟩).run P w1 = .ok () w2 := by
      simp [markStringish, Sem.run_bind, hsh, Result.andThen, freeze, Sem.run, w2]
    show (((newRow e arr).run P { w with drawn := w.drawn + 1 }).andThen _) = _
    rw [hnr]
    simp only [Result.andThen_ok, hmk, Sem.run_pure]
  have hheap : ∀ b, b < w.heap.size → w2.heap[b]? = w.heap[b]? := by
    intro b hb
    simp only [w2, World.freeze, w1]
    rw [if_neg (by omega)]
    simp only [Array.getElem?_modify]
    rw [if_neg (by omega), Array.getElem?_push, if_neg (by omega)]
  have hnew : ∃ fr, w2.heap[w.heap.size]? = some (.cells arr e fr) := by
    simp only [w2, World.freeze, w1]
    rw [if_neg (by omega)]
    simp only [Array.getElem?_modify, if_true]
    exact ⟨_, by simp; rfl⟩
  obtain ⟨fr, hnew⟩ := hnew
  have hlen : (byteRows s).length = s.size := by simp only [byteRows, List.length_map]; rw [Array.length_toList]; rfl
  obtain ⟨I', hst, hsv⟩ := new_dataW (w := w) (w' := w2) (I := I) (ρ := ρ) (H := H) (rows := byteRows s) (m := 1) hr ⟨by simp [w2, World.freeze, w1], by simp [w2, World.freeze, w1], by simp [w2, World.freeze, w1]⟩ hheap (by simp [w2, World.freeze, w1]) hnew
    (fun y hy => by simp only [byteRows, List.mem_map] at hy; obtain ⟨b, _, rfl⟩ := hy; rfl) (by rw [hlen, hsz]; omega) (fun i j hi hj hx => by
      have hi' : i < s.data.size := by rw [hlen] at hi; exact hi
      have hrow : (byteRows s)[i] = [.sc (.int .u8 (s.data[i]).toNat)] := by simp [byteRows]
      simp only [hrow] at hj ⊢
      obtain rfl : j = 0 := by simpa using hj
      have : arr[i * 1 + 0] = .int .u8 (s.data[i]).toNat := by
        simp only [arr, Nat.mul_one, Nat.add_zero]
        rw [Array.getElem_append_left (by simpa using hi')]
        simp
      simp only [List.getElem_cons_zero, this]
      exact .sc _ rfl) cap (by omega) hc1.2
  rw [hlen] at hsv
  exact ⟨_, _, I', hrun, hst, hsv⟩

theorem snd_call (o : Oper) {c : Call} {f : Operand} (hop : o.op = .call c) (hcal : c.callee = .value f) (hr : HRel w I ρ H) {ev : Operand → SV} (hev : ∀ x, SVR w I ρ H (ev x) (a.eval x)) {q : Nat × List SV × List SV} (hq : callee (ev f) = some q)
    {K : SV → List AObj → Prop} {Qp : Value → List AObj → Prop} (h : callP P q.1 (q.2.1 ++ c.args.toList.map ev ++ q.2.2) H K Qp) :
    o.upon P a (Nx o.dst a w I ρ H K) (Qx a w I ρ H Qp) ((execOp a.eval o).run P w) := by
  obtain ⟨us, vs, hfv, h1, h2, h3, h4⟩ := fn_inv (hev f) hq
  have hexec : (execOp a.eval o).run P w = (callFunc q.1 (us ++ c.args.map a.eval ++ vs)).run P w := by
    simp [execOp, hop, resolve, hcal, hfv, Deferred.ofValue, invoke, Sem.run_bind, Result.andThen]
  have hargs : SVR w I ρ H (.tup (q.2.1 ++ c.args.toList.map ev ++ q.2.2)) (.tuple (us ++ c.args.map a.eval ++ vs)) := by
    obtain ⟨m1, m2⟩ := map_R hev c.args.toList
    have k1 := append_R (xs := q.2.1) (ys := c.args.toList.map ev) (us := us.toList) (vs := c.args.toList.map a.eval) (by simpa using h1) m1 (fun i hi hv => by simpa using h3 i hi (by simpa using hv)) m2
    have k2 := append_R (xs := q.2.1 ++ c.args.toList.map ev) (ys := q.2.2) (us := us.toList ++ c.args.toList.map a.eval) (vs := vs.toList) (by simp [h1]) (by simpa using h2) k1 (fun i hi hv => by simpa using h4 i hi (by simpa using hv))
    refine .tup (by simp [h1, h2]) fun i hi hv => ?_
    have := k2 i hi (by simpa using hv)
    have e : us ++ c.args.map a.eval ++ vs = (us.toList ++ c.args.toList.map a.eval ++ vs.toList).toArray := by
      apply Array.ext'
      simp
    simp only [e]
    simpa using this
  rw [hexec]
  rcases h with ⟨hbody, h⟩ | h
  case inr =>
    obtain ⟨u, sv, w', H', I', ρ', hrun, hfr, hmv, hh, hsv, hk⟩ := h w I ρ _ hr hargs
    exact up_new hrun ⟨hfr, hmv, hh⟩ hsv hk
  unfold Bod at hbody
  cases hg : P.funcs[q.1]? with
  | none => simp [hg] at hbody
  | some g =>
  simp only [hg, Option.any_some, Bool.and_eq_true, bne_iff_ne, ne_eq] at hbody
  have hb1 : g.body.isNone = false := by cases hb : g.body <;> simp_all
  have hrun : (callFunc q.1 (us ++ c.args.map a.eval ++ vs)).run P w = .ok (.enter q.1 (us ++ c.args.map a.eval ++ vs)) w := by
    simp only [callFunc, program, Sem.run_bind, Sem.run, Result.andThen_ok, hg, hb1]
    have hn : (g.name == "runtime.NumGoroutine") = false := by simpa using hbody.2
    simp [hn]
  rw [hrun]
  refine (h w I ρ _ hr hargs).mono fun e w' he => ?_
  obtain ⟨o', H', I', ρ', hR, hfr, hmv, hh, hout⟩ := he
  cases o' with
  | ret sv =>
    cases e with
    | returned v => exact ⟨v, sv, H', I', ρ', rfl, ⟨hfr, hmv, hh⟩, hout, hR⟩
    | panicked ch => exact hout.elim
    | outgrown => exact hout.elim
  | pan p =>
    cases e with
    | returned v => exact hout.elim
    | panicked ch =>
      simp only [OutR] at hout
      subst hout
      exact ⟨p, H', I', ρ', rfl, rfl, ⟨hfr, hmv, hh⟩, hR⟩
    | outgrown => exact hout.elim

/-- A pointer into a box, moved on. -/
theorem ptr_move {r off : Nat} {v : Value} {cells : List SV} (hr : HRel w I ρ H) (hv : SVR w I ρ H (.ptr r off) v) (hb : H[r]? = some (.box cells)) : ∃ b, v = .pointer (some ⟨b, off, none⟩) ∧ ∀ k, SVR w I ρ H (.ptr r (off + k)) (.pointer (some ((⟨b, off, none⟩ : Addr).add k))) := by
  cases hv with
  | ptr h1 hlt hp =>
  obtain ⟨rb, hρ⟩ : ∃ rb, ρ[r]? = some rb := ⟨_, List.getElem?_eq_getElem (by rw [hr.len]; exact hlt)⟩
  have hobj := hr.obj _ _ rb hb hρ
  cases rb with
  | none => exact hobj.elim
  | some b =>
    refine ⟨b, hp b cells hb hρ, fun k => .ptr rfl hlt fun b' cells' _ hρ' => ?_⟩
    rw [hρ] at hρ'
    obtain rfl := Option.some.inj (Option.some.inj hρ')
    rw [add_off]
theorem dp_move {cs : List Cell} {v : Value} (hv : SVR w I ρ H (.dp cs) v) : ∃ ad, v = .pointer (some ad) ∧ ∀ k, SVR w I ρ H (.dp (cs.drop k)) (.pointer (some (ad.add k))) := by
  cases hv with
  | dp f hi h hc =>
  refine ⟨_, rfl, fun k => .dp (fun j => f (k + j)) (by rw [block_add]; exact hi) (fun j hj => ?_) fun j hj => ?_⟩
  · rw [add_add]; exact h (k + j) (by simp at hj; omega)
  · simp only [List.getElem_drop]; exact hc (k + j) (by simp at hj; omega)

theorem isU8_R {e : TypeId} (h : isU8 P e = true) : P.underlying e = some (.int .u8) := by
  unfold isU8 at h
  split at h
  · assumption
  · cases h

def ekOk : TypeDesc → Nat → Prop
  | .int _, k => k = 0
  | .bool, k => k = 1
  | .string, k => k = 2
  | .float _, k => k = 3
  | _, _ => False
theorem eqC_R {d k : Nat} {t : TypeId} {a b : Value} {p : Bool} {ds : TypeDesc} (hu : P.underlying t = some ds) (hk : ekOk ds k) (h : eqC k a b = some p) : (Op.equalIn (d + 1) t a b).run P w = .ok p w := by
  unfold eqC at h
  split at h
  · cases ds <;> simp [ekOk] at hk
    · split at h
      · rename_i e; subst e; obtain rfl := Option.some.inj h; simp [Op.equalIn, Sem.run_bind, run_underlying hu]; rfl
      · cases h
  · cases ds <;> simp [ekOk] at hk
    obtain rfl := Option.some.inj h; simp [Op.equalIn, Sem.run_bind, run_underlying hu]
  · cases ds <;> simp [ekOk] at hk
    obtain rfl := Option.some.inj h; simp [Op.equalIn, Sem.run_bind, run_underlying hu]
  · cases ds <;> simp [ekOk] at hk
    split at h
    · rename_i e; subst e; obtain rfl := Option.some.inj h; simp [Op.equalIn, Sem.run_bind, run_underlying hu, Op.floatEq]
    · cases h
  · cases h
theorem part_R {k : Nat} {t : TypeId} {ds : TypeDesc} {us : Array Value} {off : Nat} {u : Value} (hu : P.underlying t = some ds) (hk : ekOk ds k) (h : us[off]? = some u) : (part t us off).run P w = .ok u w := by
  cases ds <;> simp [ekOk] at hk <;> simp [part, isAgg, run_underlying hu, h]
theorem eqF_R {d : Nat} {us vs : Array Value} : ∀ (fs : List Field) {ks : List Nat} {i : Nat} {xs ys : List SV} {b : Bool}, eqKinds P i fs = some ks → eqL ks xs ys = some b →
    (∀ j (hj : j < xs.length), ∃ u, us[i + j]? = some u ∧ SVR w I ρ H (xs[j]) u) → (∀ j (hj : j < ys.length), ∃ u, vs[i + j]? = some u ∧ SVR w I ρ H (ys[j]) u) →
    (Op.eqFields (d + 1) us vs fs).run P w = .ok b w := by
  intro fs
  induction fs with
  | nil =>
    intro ks i xs ys b hk h hx hy
    simp only [eqKinds, Option.some.injEq] at hk
    subst hk
    unfold eqL at h
    split at h <;> simp_all [Op.eqFields]
  | cons f fs ih =>
    intro ks i xs ys b hk h hx hy
    simp only [eqKinds] at hk
    split at hk
    · rename_i hf
      obtain ⟨hn, hoff⟩ := hf
      have step : ∀ {k : Nat} {r : List Nat} {ds : TypeDesc}, P.underlying f.type = some ds → ekOk ds k → eqKinds P (i + 1) fs = some r → ks = k :: r → (Op.eqFields (d + 1) us vs (f :: fs)).run P w = .ok b w := by
        intro k r ds hu h1 hr e
        subst e
        match xs, ys, h with
        | .c (.sc a) :: xs', .c (.sc a') :: ys', h =>
          simp only [eqL] at h
          split at h
          · rename_i p q hp hq
            obtain rfl := Option.some.inj h
            obtain ⟨u, hu1, hu2⟩ := hx 0 (by simp)
            obtain ⟨u', hu1', hu2'⟩ := hy 0 (by simp)
            simp only [List.getElem_cons_zero, Nat.add_zero] at hu1 hu2 hu1' hu2'
            rw [hu2.sc_inv.1] at hu1
            rw [hu2'.sc_inv.1] at hu1'
            rw [← hoff] at hu1 hu1'
            simp only [Op.eqFields, hn, ne_eq, not_false_eq_true, if_true, Sem.run_bind, part_R hu h1 hu1, part_R hu h1 hu1', Result.andThen_ok, eqC_R hu h1 hp]
            cases p
            · simp
            · simp only [Bool.not_true, Bool.false_eq_true, if_false, Bool.true_and]
              refine ih hr hq (fun j hj => ?_) (fun j hj => ?_)
              · obtain ⟨u, h3, h4⟩ := hx (j + 1) (by simpa using hj)
                exact ⟨u, by rw [Nat.add_assoc, Nat.add_comm 1]; exact h3, by simpa using h4⟩
              · obtain ⟨u, h3, h4⟩ := hy (j + 1) (by simpa using hj)
                exact ⟨u, by rw [Nat.add_assoc, Nat.add_comm 1]; exact h3, by simpa using h4⟩
          · cases h
      split at hk
      · rename_i hu hr; exact step hu rfl hr (Option.some.inj hk).symm
      · rename_i hu hr; exact step hu rfl hr (Option.some.inj hk).symm
      · rename_i hu hr; exact step hu rfl hr (Option.some.inj hk).symm
      · rename_i hu hr; exact step hu rfl hr (Option.some.inj hk).symm
      · cases hk
    · cases hk

theorem row_le {r n : Nat} {v : Value} {st : Bool} {e m : Nat} {xs : List (List Cell)} (hr : HRel w I ρ H) (hv : SVR w I ρ H (.row r n) v) (ho : H[r]? = some (.row st e m xs)) (hn : xs.length = n) : n ≤ 9223372036854775807 := by
  cases hv with
  | row _ hlt h =>
  obtain ⟨rb, hρ⟩ : ∃ rb, ρ[r]? = some rb := ⟨_, List.getElem?_eq_getElem (by rw [hr.len]; exact hlt)⟩
  have hrow := (h st e m xs rb ho hρ).2 hn.symm
  subst hn
  unfold RowV at hrow
  cases rb with
  | some b => obtain ⟨cap, _, h1, h2, h3, _⟩ := hrow; simp only [maxLen] at h3; omega
  | none =>
    dsimp only at hrow
    split at hrow
    · obtain ⟨rfl, rfl⟩ := hrow; simp
    · obtain ⟨A, h1, h2⟩ := hrow
      cases h2 with
      | sl _ _ _ _ _ hcap hmax => simp only [maxLen] at hmax; omega
theorem asSl_le {x : SV} {v : Value} {q : Nat × List (List Cell)} (hv : SVR w I ρ H x v) (hq : asSl x = some q) : q.2.length ≤ 9223372036854775807 := by
  unfold asSl at hq
  split at hq
  · obtain rfl := Option.some.inj hq
    cases hv with
    | c h =>
    cases h with
    | sl _ _ _ _ _ hcap hmax => simp only [maxLen] at hmax; dsimp only; omega
  · obtain rfl := Option.some.inj hq; simp
  · cases hq

theorem row_form {r n : Nat} {v : Value} {st : Bool} {e m : Nat} {xs : List (List Cell)} (hr : HRel w I ρ H) (hv : SVR w I ρ H (.row r n) v) (ho : H[r]? = some (.row st e m xs)) (hn : xs.length = n) : ∃ A cap, v = .slice A n cap := by
  cases hv with
  | row _ hlt h =>
  obtain ⟨rb, hρ⟩ : ∃ rb, ρ[r]? = some rb := ⟨_, List.getElem?_eq_getElem (by rw [hr.len]; exact hlt)⟩
  have hrow := (h st e m xs rb ho hρ).2 hn.symm
  subst hn
  unfold RowV at hrow
  cases rb with
  | some b => obtain ⟨cap, _, h1, _⟩ := hrow; exact ⟨_, cap, h1⟩
  | none =>
    dsimp only at hrow
    split at hrow
    · obtain ⟨rfl, rfl⟩ := hrow; exact ⟨none, 0, rfl⟩
    · obtain ⟨A, h1, _⟩ := hrow; exact ⟨A, _, h1⟩

theorem mm_R {b : Bool} {x y v : Value} (h : mmV b x y = some v) : ((if b then Builtin.max2 x y else Builtin.min2 x y : Sem Value)).run P w = .ok v w ∧ v.oneCell' = true := by
  unfold mmV at h
  split at h
  · split at h
    · rename_i hk
      subst hk
      obtain rfl := Option.some.inj h
      refine ⟨?_, rfl⟩
      cases b <;> simp [Builtin.max2, Builtin.min2]
    · cases h
  · cases h

theorem snd_builtin (o : Oper) {c : Call} {b : Builtin} (hop : o.op = .call c) (hcal : c.callee = .builtin b) {op : AOp} (hc : compBuiltin P b c.args.toList c.argTypes.toList = some op) (hr : HRel w I ρ H) {ev : Operand → SV} (hev : ∀ x, SVR w I ρ H (ev x) (a.eval x))
    {K : SV → List AObj → Prop} {Qp : Value → List AObj → Prop} (h : aop P op ev H K Qp) :
    o.upon P a (Nx o.dst a w I ρ H K) (Qx a w I ρ H Qp) ((execOp a.eval o).run P w) := by
  have hexec : ∃ cs, (execOp a.eval o).run P w = (builtin b c.argTypes o.type cs (c.args.map a.eval)).run P w :=
    ⟨(c.args.map fun | .const _ => true | _ => false), by simp only [execOp, hop, resolve, hcal, Sem.run_bind, Sem.run_pure, Result.andThen_ok, invoke]; rfl⟩
  obtain ⟨consts, hexec⟩ := hexec
  rw [hexec]
  have arr : ∀ {α : Type} {xs : Array α} {l : List α}, xs.toList = l → xs = l.toArray := fun h => by rw [← h]
  unfold compBuiltin at hc
  split at hc
  · rename_i x t hx ht
    rw [arr hx, arr ht]
    have hv := hev x
    split at hc
    all_goals (try (cases hc; done))
    · rename_i hu
      obtain rfl := Option.some.inj hc
      simp only [aop] at h
      obtain ⟨s, hs, hk⟩ := h
      exact up_val hr (u := .int .i64 s.size) (by simp [builtin, Sem.run_bind, Builtin.len_, run_underlying hu, asStr_R hv hs, Result.andThen, goInt]) (SVR.sc rfl) hk
    · rename_i e hu
      obtain rfl := Option.some.inj hc
      simp only [aop] at h
      split at h
      · rename_i r n hs
        rw [hs] at hv
        obtain ⟨⟨st, e', m, xs, hb, hn⟩, hk⟩ := h
        obtain ⟨A, cap, hform⟩ := row_form hr hv hb hn
        exact up_val hr (u := .int .i64 n) (by simp [builtin, Sem.run_bind, Builtin.len_, run_underlying hu, hform, Result.andThen, goInt]) (SVR.sc rfl) (hk (row_le hr hv hb hn))
      · obtain ⟨q, hq, hk⟩ := h
        obtain ⟨A, n, cap, hform, rfl, _⟩ := asSl_R hv hq
        exact up_val hr (u := .int .i64 q.2.length) (by simp [builtin, Sem.run_bind, Builtin.len_, run_underlying hu, hform, Result.andThen, goInt]) (SVR.sc rfl) (hk (asSl_le hv hq))
  · rename_i s x t t' hx ht
    rw [arr hx, arr ht]
    split at hc
    · rename_i e d hu hu'
      split at hc
      · rename_i i hi
        split at hc
        · rename_i z hz
          split at hc
          · rename_i hcond
            obtain ⟨rfl, c1, c2, c3⟩ := hcond
            obtain rfl := Option.some.inj hc
            simp only [aop] at h
            split at h
            · rename_i r n hs
              obtain ⟨st, xs, ys, hb, hn, hys, hym, hbd, hk⟩ := h
              have hv := hev s
              rw [hs] at hv
              obtain ⟨v', w', ρ', hrun, hst, hsv⟩ := snd_app (P := P) (ty := o.type) hr hu hi hz c1 c3 c2 hv hb hn (hev x) hys hym hbd
              exact up_new (by simp only [builtin, List.map_toArray, List.map_cons, List.map_nil]; exact run_v hrun) hst hsv hk
            · exact h.elim
          · cases hc
        · cases hc
      · cases hc
    · cases hc
  · rename_i xs ts
    obtain rfl := Option.some.inj hc
    simp only [aop] at h
    split at h
    · rename_i x y hargs
      rw [arr hargs]
      split at h
      · rename_i u v hu hv
        obtain ⟨r, hr1, hk⟩ := h
        have h1 := hev x
        have h2 := hev y
        rw [hu] at h1
        rw [hv] at h2
        obtain ⟨hrun, hone⟩ := mm_R (P := P) (w := w) hr1
        refine up_val hr ?_ (SVR.sc hone) hk
        simp only [builtin]
        refine run_v ?_
        simp only [List.map_toArray, List.map_cons, List.map_nil, Builtin.max_, List.foldlM_cons, List.foldlM_nil, h1.sc_inv.1, h2.sc_inv.1, Sem.run_bind]
        simp only [if_true] at hrun
        simp [hrun]
      · exact h.elim
    · exact h.elim
  · rename_i xs ts
    obtain rfl := Option.some.inj hc
    simp only [aop] at h
    split at h
    · rename_i x y hargs
      rw [arr hargs]
      split at h
      · rename_i u v hu hv
        obtain ⟨r, hr1, hk⟩ := h
        have h1 := hev x
        have h2 := hev y
        rw [hu] at h1
        rw [hv] at h2
        obtain ⟨hrun, hone⟩ := mm_R (P := P) (w := w) hr1
        refine up_val hr ?_ (SVR.sc hone) hk
        simp only [builtin]
        refine run_v ?_
        simp only [List.map_toArray, List.map_cons, List.map_nil, Builtin.min_, List.foldlM_cons, List.foldlM_nil, h1.sc_inv.1, h2.sc_inv.1, Sem.run_bind]
        simp only [Bool.false_eq_true, if_false] at hrun
        simp [hrun]
      · exact h.elim
    · exact h.elim
  · cases hc

theorem aop_sound (o : Oper) {op : AOp} (hc : compOp P o.op = some op) (hr : HRel w I ρ H) {ev : Operand → SV} (hev : ∀ x, SVR w I ρ H (ev x) (a.eval x)) {K : SV → List AObj → Prop} {Qp : Value → List AObj → Prop} (h : aop P op ev H K Qp) :
    o.upon P a (Nx o.dst a w I ρ H K) (Qx a w I ρ H Qp) ((execOp a.eval o).run P w) := by
  cases ho : o.op with
  | move x =>
    rw [ho] at hc
    simp only [compOp, Option.some.injEq] at hc
    subst hc
    exact up_val hr (by simp [execOp, ho]) (hev x) h
  | assign x =>
    rw [ho] at hc
    simp only [compOp, Option.some.injEq] at hc
    subst hc
    exact up_val hr (by simp [execOp, ho]) (hev x) h
  | pick c x y =>
    rw [ho] at hc
    simp only [compOp, Option.some.injEq] at hc
    subst hc
    simp only [aop] at h
    split at h
    · rename_i t ht
      have hb := hev c
      rw [ht] at hb
      have hb := hb.sc_inv.1
      refine up_val (sv := if t then ev x else ev y) (u := if t then a.eval x else a.eval y) hr (by simp [execOp, ho, hb, asBool, Sem.run_bind, Result.andThen]) ?_ h
      split
      · exact hev x
      · exact hev y
    · exact h.elim
  | alloc e =>
    rw [ho] at hc
    simp only [compOp] at hc
    split at hc
    · rename_i i hi
      split at hc
      · rename_i z hz
        split at hc
        · rename_i hz1
          obtain rfl := Option.some.inj hc
          simp only [aop] at h
          obtain ⟨w', hrun, hst, hsv⟩ := new_box (P := P) (e := e) (vs := z.cells) (xs := z.cells.toList.map scv) hr (by simp) (fun i hi hv => by
            simp only [List.getElem_map, Array.getElem_toList]
            exact SVR.sc (List.all_eq_true.1 hz1 _ (by simp)))
          refine up_new (by
            simp only [execOp, ho]
            refine run_v ?_
            simp only [Instr.alloc, Sem.run_bind, run_zero' hi hz, Result.andThen_ok, newVar, hrun]
            rfl) hst hsv h
        · cases hc
      · cases hc
    · cases hc
  | box e x =>
    rw [ho] at hc
    simp only [compOp, Option.some.injEq] at hc
    subst hc
    simp only [aop] at h
    obtain ⟨cs, hcs, hk⟩ := h
    obtain ⟨h1, h2, _⟩ := svc_R (hev x) hcs
    obtain ⟨w', hrun, hst, hsv⟩ := new_box (P := P) (e := e) hr h1 h2
    refine up_new (by
      simp only [execOp, ho]
      refine run_v ?_
      simp only [Instr.box, newVar, Sem.run_bind, hrun, Result.andThen_ok, Sem.run_pure]) hst hsv hk
  | build t parts =>
    rw [ho] at hc
    simp only [compOp] at hc
    split at hc
    · rename_i fs i hu hi
      split at hc
      · rename_i z hz
        split at hc
        · rename_i hcond
          simp only [Option.map_eq_some_iff] at hc
          obtain ⟨ps, hps, rfl⟩ := hc
          simp only [aop] at h
          obtain ⟨cs, hcs, hk⟩ := h
          obtain ⟨u, hrun, hsv⟩ := snd_build (P := P) hev hu hi hz hcond.1 hcond.2 hps hcs
          exact up_val hr (by simp only [execOp, ho]; exact run_v hrun) hsv hk
        · cases hc
      · cases hc
    · cases hc
  | buildSlice t len parts =>
    rw [ho] at hc
    simp only [compOp] at hc
    split at hc
    · rename_i e hu
      split at hc
      · rename_i i hi
        split at hc
        · rename_i hcond
          obtain ⟨c1, c2, c3, c4, c5⟩ := hcond
          obtain rfl := Option.some.inj hc
          obtain ⟨z, hz⟩ := Option.isSome_iff_exists.1 c1
          rw [hz] at c3
          simp only [Option.map_some, Option.some.injEq] at c3
          simp only [aop] at h
          have hlen : parts.toList.length = len := by have := congrArg List.length c5; simpa using this
          split at h
          · rename_i hnil
            have h0 : parts = #[] := by
              have : parts.toList = [] := by simpa using hnil
              exact Array.ext' this
            subst h0
            simp at hlen
            subst hlen
            obtain ⟨u, w', hrun, hst, hsv⟩ := snd_slit0 (P := P) hr hu hi ((#[] : Array (Nat × Operand)).map fun (i, x) => (i, a.eval x)) (by simp)
            exact up_new (by simp only [execOp, ho]; exact run_v hrun) hst hsv h
          · rename_i hne
            obtain ⟨rows, hrows, hk⟩ := h
            have hpos : 0 < len := by
              rw [← hlen]
              refine List.length_pos_iff.2 fun h0 => hne ?_
              rw [h0]; rfl
            obtain ⟨u, w', I', hrun, hst, hsv⟩ := snd_slit (P := P) hr hev hu hi hz c2 c3 c4 c5 hpos hrows
            exact up_new (by simp only [execOp, ho]; exact run_v hrun) hst hsv hk
        · cases hc
      · cases hc
    · cases hc
  | load t x =>
    rw [ho] at hc
    simp only [compOp, sizeP, Option.map_eq_some_iff, Option.bind_eq_some_iff] at hc
    obtain ⟨_, ⟨d, hd, i, hi, rfl⟩, rfl⟩ := hc
    simp only [aop] at h
    split at h
    · rename_i r off hx
      obtain ⟨cells, hb, hlt, hk, h1⟩ := h
      have hv := hev x
      rw [hx] at hv
      obtain ⟨u, hrun, hsv⟩ := box_load (P := P) hd hi hr hv hb hlt h1
      exact up_val hr (by simp only [execOp, ho]; exact run_v hrun) hsv hk
    · rename_i cs hx
      obtain ⟨hlt, hk, h1⟩ := h
      have hv := hev x
      rw [hx] at hv
      obtain ⟨u, hrun, hsv⟩ := dp_load (P := P) (H := H) (ρ := ρ) hd hi hv hlt h1
      exact up_val hr (by simp only [execOp, ho]; exact run_v hrun) hsv hk
    · exact h.elim
  | store t x y =>
    rw [ho] at hc
    simp only [compOp, Option.map_eq_some_iff] at hc
    obtain ⟨i, hi, rfl⟩ := hc
    simp only [aop] at h
    split at h
    · rename_i r off hx
      obtain ⟨cells, vs, hb, hvs, hn, hlt, hk⟩ := h
      have hv := hev x
      rw [hx] at hv
      obtain ⟨w', hrun, hst⟩ := box_store (P := P) hi hr hv hb (hev y) hvs hn hlt
      exact up_skip (by simp only [execOp, ho]; exact run_u hrun) hst hk
    · exact h.elim
  | nilCheck x =>
    rw [ho] at hc
    simp only [compOp, Option.some.injEq] at hc
    subst hc
    simp only [aop] at h
    have hv := hev x
    split at h
    · rename_i r off hx
      rw [hx] at hv
      obtain ⟨⟨cells, hb⟩, hk⟩ := h
      have hv' := hv
      cases hv with
      | ptr _ hlt hp =>
      obtain ⟨rb, hρ⟩ : ∃ rb, ρ[r]? = some rb := ⟨_, List.getElem?_eq_getElem (by rw [hr.len]; exact hlt)⟩
      have hobj := hr.obj _ _ rb hb hρ
      cases rb with
      | none => exact hobj.elim
      | some b =>
        have hpv := hp b cells hb hρ
        exact up_val hr (u := a.eval x) (by simp [execOp, ho, hpv]) hv' hk
    · rename_i cs hx
      rw [hx] at hv
      obtain ⟨ad, e⟩ : ∃ ad, a.eval x = .pointer (some ad) := by
        generalize a.eval x = v at hv
        cases hv
        exact ⟨_, rfl⟩
      exact up_val hr (u := a.eval x) (by simp [execOp, ho, e]) hv h
    · rename_i f us vs hx
      rw [hx] at hv
      obtain ⟨A, B, e⟩ : ∃ A B, a.eval x = .func (.func f) A B := by
        generalize a.eval x = v at hv
        cases hv
        exact ⟨_, _, rfl⟩
      exact up_val hr (u := a.eval x) (by simp [execOp, ho, e]) hv h
    · exact h.elim
  | binOp op t x y yt =>
    rw [ho] at hc
    simp only [compOp] at hc
    split at hc
    · rename_i d hd
      split at hc
      · split at hc
        · rename_i fs _
          split at hc
          · rename_i ks hks
            split at hc
            · rename_i hg
              have key : ∀ {neg : Bool}, (op = .eql ∧ neg = false ∨ op = .neq ∧ neg = true) → aop P (.eqs neg ks x y) ev H K Qp → o.upon P a (Nx o.dst a w I ρ H K) (Qx a w I ρ H Qp) ((execOp a.eval o).run P w) := by
                intro neg hop h
                simp only [aop] at h
                split at h
                · rename_i xs ys hx hy
                  obtain ⟨b, hb, hk⟩ := h
                  have hxv := hev x
                  have hyv := hev y
                  rw [hx] at hxv
                  rw [hy] at hyv
                  generalize hu : a.eval x = u at hxv
                  generalize hv : a.eval y = v at hyv
                  cases hxv with
                  | ag hl1 h1 =>
                  cases hyv with
                  | ag hl2 h2 =>
                  rename_i us vs
                  have hfo : P.fieldsOf t = fs := by simp [Program.fieldsOf, hd]
                  have hrun : (Op.equal t (.agg us) (.agg vs)).run P w = .ok b w := by
                    unfold Op.equal Op.maxDepth
                    rw [run_equalIn_struct w _ t us vs (by rw [hfo]; exact hd) hg.1, hfo]
                    refine eqF_R (I := I) (ρ := ρ) (H := H) fs.toList hks hb (fun j hj => ?_) fun j hj => ?_
                    · have hj' : j < us.size := by omega
                      exact ⟨us[j], by rw [Nat.zero_add]; exact Array.getElem?_eq_getElem hj', h1 j hj hj'⟩
                    · have hj' : j < vs.size := by omega
                      exact ⟨vs[j], by rw [Nat.zero_add]; exact Array.getElem?_eq_getElem hj', h2 j hj hj'⟩
                  refine up_val hr (u := .bool (if neg then !b else b)) ?_ (SVR.sc rfl) hk
                  simp only [execOp, ho, hu, hv]
                  refine run_v ?_
                  rcases hop with ⟨rfl, rfl⟩ | ⟨rfl, rfl⟩ <;> simp [eqGuard, hg.2, Sem.run_bind, binOp, hrun, Result.andThen]
                · exact h.elim
              cases op <;> simp only [Option.some.injEq, reduceCtorEq] at hc
              · subst hc; exact key (.inl ⟨rfl, rfl⟩) h
              · subst hc; exact key (.inr ⟨rfl, rfl⟩) h
            · cases hc
          · cases hc
        · cases hc
      · obtain rfl := Option.some.inj hc
        simp only [aop] at h
        obtain ⟨r, hrun, sv, hsv, hk⟩ := snd_bin (P := P) hd hr (hev x) (hev y) x y h
        exact up_val hr (by simp only [execOp, ho]; exact run_v hrun) hsv hk
    · cases hc
  | unOp op t x =>
    rw [ho] at hc
    simp only [compOp, Option.some.injEq] at hc
    subst hc
    simp only [aop] at h
    split at h
    · rename_i q hx
      obtain ⟨v, hv, hk⟩ := h
      have hq := hev x
      rw [hx] at hq
      obtain ⟨hrun, h1⟩ := snd_un (P := P) (w := w) hv
      exact up_val hr (by simp only [execOp, ho, hq.sc_inv.1]; exact run_v hrun) (SVR.sc h1) hk
    · exact h.elim
  | convert src dst x =>
    rw [ho] at hc
    simp only [compOp] at hc
    split at hc
    · rename_i k1 k hs hd
      obtain rfl := Option.some.inj hc
      simp only [aop] at h
      obtain ⟨q, hq, hk⟩ := h
      have := asInt_R (hev x) hq
      exact up_val hr (by simp only [execOp, ho]; exact run_v (by rw [this]; simp [convert, Sem.run_bind, run_underlying hs, run_underlying hd, Result.andThen, Conv.intToInt])) (SVR.sc rfl) hk
    · rename_i k1 k hs hd
      obtain rfl := Option.some.inj hc
      simp only [aop] at h
      obtain ⟨q, hq, hk⟩ := h
      have := asInt_R (hev x) hq
      exact up_val hr (by simp only [execOp, ho]; exact run_v (by rw [this]; simp [convert, Sem.run_bind, run_underlying hs, run_underlying hd, Result.andThen, Conv.intToFloat])) (SVR.sc rfl) hk
    · rename_i hs hd
      obtain rfl := Option.some.inj hc
      simp only [aop] at h
      obtain ⟨s, hq, hk⟩ := h
      have := asStr_R (hev x) hq
      exact up_val hr (by simp only [execOp, ho]; exact run_v (u := a.eval x) (by rw [this]; simp [convert, Sem.run_bind, run_underlying hs, run_underlying hd, Result.andThen])) (hev x) hk
    · rename_i e hs hd
      split at hc
      · rename_i he
        obtain rfl := Option.some.inj hc
        simp only [aop] at h
        obtain ⟨q, l, hq, hl, hk⟩ := h
        have he' := isU8_R he
        exact up_val hr (by simp only [execOp, ho]; exact run_v (snd_b2s (P := P) hs he' hd (hev x) hq hl)) (SVR.sc rfl) hk
      · cases hc
    · rename_i e hs hd
      split at hc
      · rename_i he
        obtain rfl := Option.some.inj hc
        simp only [aop] at h
        obtain ⟨s, hq, hl, hk⟩ := h
        have he' := isU8_R he
        have := asStr_R (hev x) hq
        obtain ⟨u, w', I', hrun, hst, hsv⟩ := snd_s2b (P := P) hr hs hd he' s hl
        exact up_new (by simp only [execOp, ho, this]; exact run_v hrun) hst hsv hk
      · cases hc
    · cases hc
  | makeInterface t x =>
    rw [ho] at hc
    simp only [compOp] at hc
    split at hc
    · cases hc
    · cases hc
    · rename_i d hn hd
      obtain rfl := Option.some.inj hc
      simp only [aop] at h
      split at h
      · rename_i v hx
        have hq := hev x
        rw [hx] at hq
        refine up_val hr (u := .iface t v) ?_ .ifc h
        simp only [execOp, ho, hq.sc_inv.1]
        refine run_v ?_
        simp only [Instr.makeInterface, Sem.run_bind, run_underlying hd, Result.andThen_ok]
        cases d <;> first
          | rfl
          | (exact absurd hd (hn _))
      · exact h.elim
  | makeFunc fn first caps =>
    rw [ho] at hc
    simp only [compOp] at hc
    cases fn <;> simp only [reduceCtorEq, Option.some.injEq] at hc
    rename_i f
    subst hc
    simp only [aop] at h
    obtain ⟨m1, m2⟩ := map_R hev first.toList
    obtain ⟨m3, m4⟩ := map_R hev caps.toList
    refine up_val hr (u := .func (.func f) (first.map a.eval) (caps.map a.eval)) (by simp only [execOp, ho]; exact run_v (by simp [Instr.makeFunc])) ?_ h
    exact .fn (by simp) (by simp) (fun i hi hv => by simp only [List.getElem_map, Array.getElem_map, Array.getElem_toList]; exact hev _) (fun i hi hv => by simp only [List.getElem_map, Array.getElem_map, Array.getElem_toList]; exact hev _)
  | slice t x lo hi mx =>
    rw [ho] at hc
    simp only [compOp] at hc
    split at hc
    · rename_i e hu
      split at hc
      · cases hc
      rename_i hcond
      simp only [Option.map_eq_some_iff] at hc
      obtain ⟨i, hi', rfl⟩ := hc
      simp only [aop] at h
      obtain ⟨q, l, hh, hq, hm, hl, hhi, h0, h1, h2, hk⟩ := h
      cases mx with
      | none =>
        obtain ⟨u, hrun, hsv⟩ := snd_cut (P := P) hev hu hi' hq hm hl hhi h0 h1 h2
        exact up_val hr (by simp only [execOp, ho, Option.map_none]; exact run_v hrun) hsv hk
      | some y =>
        obtain ⟨hy, hk⟩ := hk
        cases hi with
        | none => simp at hcond
        | some z =>
          obtain ⟨u, hrun, hst, hsv⟩ := snd_cutM (P := P) hr hev hu hi' hq hm hl hhi rfl h0 h1 h2 hy
          exact up_new (by simp only [execOp, ho, Option.map_some]; exact run_v hrun) hst hsv hk
    · rename_i hu
      split at hc
      · rename_i hmx
        obtain rfl := Option.some.inj hc
        obtain rfl : mx = none := by simpa using hmx
        simp only [aop] at h
        obtain ⟨s, l, hh, hq, hl, hhi, h0, h1, h2, hk⟩ := h
        exact up_val hr (by simp only [execOp, ho, Option.map_none]; exact run_v (snd_cutS (P := P) hev hu hq hl hhi h0 h1 h2)) (SVR.sc rfl) hk
      · cases hc
    · cases hc
  | fieldAddr t x j =>
    rw [ho] at hc
    simp only [compOp] at hc
    split at hc
    · rename_i fs hu
      split at hc
      · rename_i f hf
        split at hc
        · rename_i i hi
          split at hc
          · rename_i hpos
            obtain rfl := Option.some.inj hc
            simp only [aop] at h
            have run : ∀ ad, a.eval x = .pointer (some ad) → (execOp a.eval o).run P w = .ok (.value (.pointer (some (ad.add f.offset)))) w := by
              intro ad e
              simp only [execOp, ho, e]
              refine run_v ?_
              simp only [Instr.fieldAt, Sem.run_bind, run_underlying hu, Result.andThen_ok, hf, Instr.sureAddr, Sem.run_pure, fieldPlace, run_sizeOf' hi]
              rw [if_neg (by omega)]
              rfl
            have hv := hev x
            split at h
            · rename_i r off hx
              rw [hx] at hv
              obtain ⟨⟨cells, hb⟩, hk⟩ := h
              obtain ⟨b, e, hm⟩ := ptr_move hr hv hb
              exact up_val hr (run _ e) (hm _) hk
            · rename_i cs hx
              rw [hx] at hv
              obtain ⟨ad, e, hm⟩ := dp_move hv
              exact up_val hr (run _ e) (hm _) h
            · exact h.elim
          · cases hc
        · cases hc
      · cases hc
    · cases hc
  | indexAddr t x i =>
    rw [ho] at hc
    simp only [compOp] at hc
    split at hc
    · rename_i e hu
      simp only [Option.map_eq_some_iff] at hc
      obtain ⟨q, hq, rfl⟩ := hc
      simp only [aop] at h
      obtain ⟨p, k, hx, hi, hm, h0, h1, hk⟩ := h
      obtain ⟨A, n, cap, hv, rfl, hcr⟩ := asSl_R (hev x) hx
      have hiv := asInt_R (hev i) hi
      rw [hv] at hcr
      cases hcr with
      | sl _ _ _ _ f hcap hmax hm' hA hx' =>
      obtain ⟨ad, rfl, hI, hcell⟩ := hA (by omega)
      have hkl : k.2.toNat < p.2.length := by omega
      refine up_val hr (u := .pointer (some (ad.add (k.2.toNat * q.size)))) ?_ ?_ hk
      · simp only [execOp, ho, hv, hiv]
        refine run_v ?_
        simp only [Instr.indexAt, asIntOf, Sem.run_bind, Sem.run_pure, Result.andThen_ok, run_underlying hu]
        rw [if_pos ⟨h0, h1⟩]
        simp only [Sem.run_bind, run_sizeOf' hq, Result.andThen_ok, Sem.run_pure]
      · have hget : p.2.getD k.2.toNat [] = p.2[k.2.toNat] := by simp [List.getD_eq_getElem?_getD, hkl]
        rw [hget]
        have hlen : (p.2[k.2.toNat]).length = q.size := by rw [hm' _ (List.getElem_mem hkl), hm]
        refine .dp (f k.2.toNat) (by rw [block_add]; exact hI) (fun j hj => ?_) fun j hj => hx' _ hkl j hj
        rw [add_add, ← hm]
        exact hcell _ _ hkl (by omega)
    · rename_i n e hu
      split at hc
      · cases hc
      · rename_i hn
        simp only [Option.map_eq_some_iff] at hc
        obtain ⟨q, hq, rfl⟩ := hc
        simp only [aop] at h
        obtain ⟨k, hi, h0, h1, h⟩ := h
        have hiv := asInt_R (hev i) hi
        have hv := hev x
        split at h
        · rename_i r off hx
          rw [hx] at hv
          obtain ⟨⟨cells, hb⟩, hk⟩ := h
          obtain ⟨b, e', hm⟩ := ptr_move hr hv hb
          refine up_val hr ?_ (hm (k.2.toNat * q.size)) hk
          simp only [execOp, ho, hiv, e']
          refine run_v ?_
          simp only [Instr.indexAt, asIntOf, Sem.run_bind, Sem.run_pure, Result.andThen_ok, run_underlying hu, Instr.sureAddr]
          rw [if_pos ⟨h0, h1⟩]
          simp only [Sem.run_bind, run_sizeOf' hq, Result.andThen_ok, Sem.run_pure]
        · exact h.elim
    · cases hc
  | field t x j =>
    rw [ho] at hc
    simp only [compOp] at hc
    split at hc
    · rename_i fs hu
      split at hc
      · rename_i f hf
        simp only [sizeP, Option.map_eq_some_iff, Option.bind_eq_some_iff] at hc
        obtain ⟨_, ⟨d, hd, i, hi, rfl⟩, rfl⟩ := hc
        simp only [aop] at h
        split at h
        · rename_i cs hx
          obtain ⟨hlt, hk, h1⟩ := h
          have hv := hev x
          rw [hx] at hv
          generalize hu' : a.eval x = v at hv
          cases hv with
          | @ag _ vs hl hvs =>
          cases hag : isAggD d with
          | true =>
            rw [hag] at hk
            simp only [if_true] at hk
            refine up_val hr (u := .agg (vs.extract f.offset (f.offset + i.size))) ?_ ?_ hk
            · simp only [execOp, ho, hu']
              refine run_v ?_
              simp only [Instr.field, Sem.run_bind, run_underlying hu, Result.andThen_ok, hf, asAgg, Sem.run_pure, part, run_isAgg' hd, hag, if_true, run_sizeOf' hi]
            · refine .ag (by simp; omega) fun j hj hv => ?_
              simp only [List.getElem_take, List.getElem_drop, Array.getElem_extract]
              simp only [List.length_take, List.length_drop] at hj
              exact hvs _ (by omega) (by omega)
          | false =>
            rw [hag] at hk
            simp only [Bool.false_eq_true, if_false] at hk
            have hs := h1 hag
            have ho1 : f.offset < vs.size := by omega
            refine up_val hr (u := vs[f.offset]) ?_ ?_ hk
            · simp only [execOp, ho, hu']
              refine run_v ?_
              simp only [Instr.field, Sem.run_bind, run_underlying hu, Result.andThen_ok, hf, asAgg, Sem.run_pure, part, run_isAgg' hd, hag, Bool.false_eq_true, if_false]
              simp [ho1]
            · have : cs.getD f.offset .top = cs[f.offset] := by simp [List.getD_eq_getElem?_getD, show f.offset < cs.length by omega]
              rw [this]
              exact hvs _ (by omega) ho1
        · exact h.elim
      · cases hc
    · cases hc
  | index t x i =>
    rw [ho] at hc
    simp only [compOp] at hc
    split at hc
    · rename_i hu
      obtain rfl := Option.some.inj hc
      simp only [aop] at h
      obtain ⟨s, k, hs, hi, h0, h1, hk⟩ := h
      have e1 := asStr_R (hev x) hs
      have e2 := asInt_R (hev i) hi
      refine up_val hr ?_ (SVR.sc rfl) hk
      simp only [execOp, ho, e1, e2]
      refine run_v ?_
      have hlt : k.2.toNat < s.data.size := by
        have : s.data.size = s.size := rfl
        omega
      have hget : s[k.2.toNat]? = some (s.data[k.2.toNat]) := by
        simp [getElem?_pos, show k.2.toNat < s.size from hlt]
        rfl
      simp only [Instr.index, asIntOf, Sem.run_bind, Sem.run_pure, Result.andThen_ok, run_underlying hu]
      rw [if_pos h0]
      simp [hget, hlt, Array.getElem?_eq_getElem hlt]
    · cases hc
  | extract x i =>
    rw [ho] at hc
    simp only [compOp, Option.some.injEq] at hc
    subst hc
    simp only [aop] at h
    split at h
    · rename_i vs hx
      obtain ⟨hi, hk⟩ := h
      have hv := hev x
      rw [hx] at hv
      generalize hu' : a.eval x = v at hv
      cases hv with
      | @tup _ us hl hvs =>
      have h2 : i < us.size := by omega
      refine up_val hr (u := us[i]) ?_ ?_ hk
      · simp only [execOp, ho, hu']
        exact run_v (by simp [Instr.extract, h2])
      · have : vs.getD i .top = vs[i] := by simp [List.getD_eq_getElem?_getD, hi]
        rw [this]
        exact hvs _ hi h2
    · exact h.elim
  | panic x =>
    rw [ho] at hc
    simp only [compOp, Option.some.injEq] at hc
    subst hc
    simp only [aop] at h
    split at h
    · rename_i t v hx
      have hv := hev x
      rw [hx] at hv
      generalize hu' : a.eval x = u at hv
      cases hv
      refine up_panic hr (p := .iface t v) ?_ h
      simp [execOp, ho, hu', Sem.run_bind, Instr.panic, goPanic, Sem.run, Result.andThen]
    · exact h.elim
  | call c =>
    rw [ho] at hc
    simp only [compOp] at hc
    split at hc
    · rename_i f hcal
      obtain rfl := Option.some.inj hc
      simp only [aop] at h
      obtain ⟨q, hq, hk⟩ := h
      exact snd_call o ho hcal hr hev hq hk
    · rename_i b hcal
      exact snd_builtin o ho hcal hc hr hev h
    · cases hc
  | _ => rw [ho] at hc; simp [compOp] at hc
end
end Go.Proofs.YtbnelpgogjbgjaaGreat.Q
