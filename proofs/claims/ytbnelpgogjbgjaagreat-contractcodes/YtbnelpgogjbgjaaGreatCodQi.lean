/- Each operation does what its short form says: slice literals, cuts, appends. -/
import Derived.Test.YtbnelpgogjbgjaaGreatCodQh
/- Each operation does what its short form says: slice literals, cuts, appends. -/
set_option linter.unusedVariables false
set_option linter.unusedSimpArgs false
namespace Go.Proofs.YtbnelpgogjbgjaaGreat.Q
open Go.RowKit

section
variable {P : Program} {w : World} {I : Nat → Prop} {ρ : List (Option Nat)} {H : List AObj} {a : Act}

theorem flatten_get {α : Type} {m : Nat} : ∀ (rows : List (List α)), (∀ y ∈ rows, y.length = m) → ∀ i j (hi : i < rows.length) (hj : j < (rows[i]).length), rows.flatten[i * m + j]? = some ((rows[i])[j]) := by
  intro rows
  induction rows with
  | nil => intro _ i j hi; simp at hi
  | cons r rows ih =>
    intro h i j hi hj
    have hr : r.length = m := h r (by simp)
    cases i with
    | zero =>
      simp only [List.getElem_cons_zero] at hj
      simp only [List.flatten_cons, Nat.zero_mul, Nat.zero_add, List.getElem_cons_zero]
      rw [List.getElem?_append_left (by omega), List.getElem?_eq_getElem (by omega)]
    | succ i =>
      simp only [List.flatten_cons, List.getElem_cons_succ]
      rw [List.getElem?_append_right (by rw [hr, Nat.add_mul]; omega)]
      rw [show (i + 1) * m + j - r.length = i * m + j from by rw [hr, Nat.add_mul]; omega]
      simp only [List.getElem_cons_succ] at hj
      exact ih (fun y hy => h y (by simp [hy])) i j (by simpa using hi) hj
theorem flatten_len {α : Type} {m : Nat} (rows : List (List α)) (h : ∀ y ∈ rows, y.length = m) : rows.flatten.length = rows.length * m := by
  induction rows with
  | nil => simp
  | cons r rows ih =>
    simp only [List.flatten_cons, List.length_append, List.length_cons, h r (by simp), ih fun y hy => h y (by simp [hy]), Nat.add_mul]
    omega

theorem SVR.c_inv {x : Cell} {v : Value} (h : SVR w I ρ H (.c x) v) : CR w I x v := by cases h; assumption

/-- A block of data that was just made. -/
theorem new_data {e : TypeId} {vs : Array Value} {m : Nat} {rows : List (List Cell)} (hr : HRel w I ρ H) (hm : ∀ y ∈ rows, y.length = m) (hmax : rows.length ≤ maxLen)
    (hv : rows.length * m ≤ vs.size) (hc : ∀ i j (hi : i < rows.length) (hj : j < (rows[i]).length) (hx : i * m + j < vs.size), CR w I (rows[i][j]) (vs[i * m + j])) (cap : Nat) (hcap : rows.length ≤ cap) (hcm : cap ≤ maxLen) :
    ∃ I', Stp w I ρ H { w with heap := w.heap.push (.cells vs e (0, 0)) } I' ρ H ∧ SVR { w with heap := w.heap.push (.cells vs e (0, 0)) } I' ρ H (.c (.sl m rows)) (.slice (some ⟨w.heap.size, 0, none⟩) rows.length cap) := by
  have hw : ∀ b, b < w.heap.size → (w.heap.push (.cells vs e (0, 0)))[b]? = w.heap[b]? := fun b hb => by rw [Array.getElem?_push, if_neg (by omega)]
  have hnew : (w.heap.push (.cells vs e (0, 0)))[w.heap.size]? = some (.cells vs e (0, 0)) := by simp
  refine ⟨fun b => I b ∨ b = w.heap.size, Stp.same hr ⟨rfl, rfl, rfl⟩ hw (by simp) (fun _ h => .inl h) (fun b h => h.imp id fun e => by subst e; simp), .c ?_⟩
  refine .sl m rows _ cap (fun i j => vs.getD (i * m + j) undef) hcap hcm hm (fun h0 => ⟨_, rfl, .inr rfl, fun i j hi hj => ?_⟩) fun i hi j hj => ?_
  · have hx : i * m + j < vs.size := by
      have : (i + 1) * m ≤ rows.length * m := Nat.mul_le_mul_right _ hi
      rw [Nat.add_mul] at this
      omega
    rw [add_off, Nat.zero_add, cells_at (w := { w with heap := w.heap.push (.cells vs e (0, 0)) }) hnew _ hx]
    simp [Array.getD, hx]
  · have hj' : j < m := by rw [← hm _ (List.getElem_mem hi)]; exact hj
    have hx : i * m + j < vs.size := by
      have : (i + 1) * m ≤ rows.length * m := Nat.mul_le_mul_right _ hi
      rw [Nat.add_mul] at this
      omega
    have := hc i j hi hj hx
    simp only [Array.getD, hx, dif_pos]
    exact this.mono (fun b hb => hw b (hr.live b hb)) fun b h => .inl h

theorem zipIdx_eq {α : Type} (l : List (Nat × α)) (h : l.map (·.1) = List.range l.length) : l = (l.map (·.2)).zipIdx.map fun (x, i) => (i, x) := by
  apply List.ext_getElem
  · simp
  · intro i h1 h2
    have : (l.map (·.1))[i]'(by simpa using h1) = i := by simp [h]
    simp only [List.getElem_map] at this ⊢
    simp only [List.getElem_zipIdx, List.getElem_map, Nat.zero_add]
    exact Prod.ext this rfl

theorem snd_slit {ev : Operand → SV} {q : Operand → Value} (hr : HRel w I ρ H) (hev : ∀ x, SVR w I ρ H (ev x) (q x)) {t e : TypeId} {len : Nat} {parts : Array (Nat × Operand)} {i : TypeInfo} (hu : P.underlying t = some (.slice e)) (hi : P.info? e = some i)
    {z : Value} (hz : i.zero = some z) (hs0 : 0 < i.size) (hzs : z.cells.size = i.size) (h24 : len * i.size ≤ 2 ^ 24) (hp : parts.toList.map (·.1) = List.range len) (hlen : 0 < len) {rows : List (List Cell)} (hrows : slitV ev i.size (parts.toList.map (·.2)) = some rows) :
    ∃ u w' I', (Instr.buildSlice t len (parts.map fun (i, x) => (i, q x))).run P w = .ok u w' ∧ Stp w I ρ H w' I' ρ H ∧ SVR w' I' ρ H (.c (.sl i.size rows)) u := by
  have hpl : parts.toList.length = len := by have := congrArg List.length hp; simpa using this
  obtain ⟨hrl, hrm⟩ := slitV_len hrows
  simp only [List.length_map] at hrl
  have hzip := zipIdx_eq parts.toList (by rw [hp, hpl])
  have hb := slit_build (ev := ev) (m := i.size) (parts.toList.map (·.2)) 0 rows (List.replicate (len * i.size) .top) hrows (by simp only [List.length_map, hpl, List.length_replicate, Nat.zero_add]; exact Nat.le_refl _)
  have hz0 : Cells w I ρ H (List.replicate (len * i.size) .top) ((Array.range (len * i.size)).map (z.cells[· % z.cells.size]!)).toList := ⟨by simp, fun j hj hv => by simp only [List.getElem_replicate]; exact .top⟩
  obtain ⟨cells, hf, hcl, hcc⟩ := fill_R hev (fun i_1 => some (i_1 * i.size, i.size)) parts.toList _ _ _ _ (by rw [hzip]; simp [Function.comp_def, List.map_map]) hb hz0
  have hfin : (List.replicate (len * i.size) SV.top).take (0 * i.size) ++ rows.flatten.map SV.c ++ (List.replicate (len * i.size) SV.top).drop ((0 + (parts.toList.map (·.2)).length) * i.size) = rows.flatten.map SV.c := by
    simp [hpl]
  rw [hfin] at hcl hcc
  have hfl := flatten_len rows hrm
  have hsz : cells.size = rows.length * i.size := by
    simp only [List.length_map, Array.length_toList] at hcl
    omega
  have hlm : rows.length ≤ maxLen := by
    unfold maxLen
    have : len ≤ len * i.size := Nat.le_mul_of_pos_right _ hs0
    omega
  obtain ⟨I', hst, hsv⟩ := new_data (w := w) (I := I) (ρ := ρ) (H := H) (e := e) (vs := cells) hr hrm hlm (by omega) (fun j k hj hk hx => by
    have hk' : k < i.size := by rw [← hrm _ (List.getElem_mem hj)]; exact hk
    have h1 := flatten_get rows hrm j k hj hk
    have h2 : j * i.size + k < rows.flatten.length := by omega
    have := hcc (j * i.size + k) (by rw [List.length_map]; exact h2) (by simpa using hx)
    simp only [List.getElem_map] at this
    rw [List.getElem?_eq_getElem h2] at h1
    rw [Option.some.inj h1] at this
    simpa using this.c_inv) rows.length (Nat.le_refl _) hlm
  refine ⟨_, _, I', ?_, hst, hsv⟩
  rw [run_buildSlice w t e len _ cells i z hu hi hz (by omega) (Nat.ne_of_gt (Nat.mul_pos hlen hs0)) (by simpa using hf)]
  rw [show rows.length = len from by omega]
  rfl

theorem snd_slit0 (hr : HRel w I ρ H) {t e : TypeId} {i : TypeInfo} (hu : P.underlying t = some (.slice e)) (hi : P.info? e = some i) (parts : Array (Nat × Value)) (hp : parts = #[]) :
    ∃ u w', (Instr.buildSlice t 0 parts).run P w = .ok u w' ∧ Stp w I ρ H w' I (ρ ++ [some w.heap.size]) (H ++ [.row true e i.size []]) ∧ SVR w' I (ρ ++ [some w.heap.size]) (H ++ [.row true e i.size []]) (.row H.length 0) u := by
  subst hp
  have hw : ∀ b, b < w.heap.size → (w.heap.push (.cells #[] e (0, 0)))[b]? = w.heap[b]? := fun b hb => by rw [Array.getElem?_push, if_neg (by omega)]
  have hnew : (w.heap.push (.cells #[] e (0, 0)))[w.heap.size]? = some (.cells #[] e (0, 0)) := by simp
  refine ⟨.slice (some ⟨w.heap.size, 0, none⟩) 0 0, { w with heap := w.heap.push (.cells #[] e (0, 0)) }, ?_, ?_, ?_⟩
  · simp [Instr.buildSlice, Sem.run_bind, run_underlying hu, run_sizeOf' hi, Result.andThen, Instr.fill, newRow, newObj, Sem.run]
    have : Array.map (fun _ : Nat => (default : Value)) (Array.range 0) = #[] := by simp [Array.range]
    first | rw [this] | (simp only [this])
  · refine Stp.push hr ⟨rfl, rfl, rfl⟩ hw (by simp) (fun _ h => h) (fun _ h => .inl h) (fun b e => ?_) fun mv => ⟨#[], fun _ _ => undef, hnew, by simp, by simp, fun i j hi => by simp at hi, fun i hi => by simp at hi⟩
    obtain rfl := Option.some.inj e
    exact ⟨Nat.le_refl _, by simp, fun hI => by have := hr.live _ hI; omega⟩
  · refine .row rfl (by simp) fun st e' m xs rb h1 h2 => ?_
    rw [List.getElem?_append_right (Nat.le_refl _)] at h1
    simp at h1
    obtain ⟨rfl, rfl, rfl, rfl⟩ := h1
    rw [← hr.len, List.getElem?_append_right (Nat.le_refl _)] at h2
    simp at h2
    subst h2
    exact ⟨Nat.le_refl _, fun _ => ⟨0, #[], rfl, Nat.le_refl _, by simp, hnew, by simp⟩⟩

/-! ### Cuts -/
theorem add_add (ad : Addr) (p q : Nat) : (ad.add p).add q = ad.add (p + q) := by
  unfold Addr.add
  by_cases hp : p = 0 <;> by_cases hq : q = 0 <;> simp [hp, hq]
  omega

theorem asSl_R {x : SV} {v : Value} {q : Nat × List (List Cell)} (h : SVR w I ρ H x v) (hq : asSl x = some q) : ∃ A n cap, v = .slice A n cap ∧ n = q.2.length ∧ CR w I (.sl q.1 q.2) v := by
  unfold asSl at hq
  split at hq
  · rename_i m xs
    obtain rfl := Option.some.inj hq
    have := h.c_inv
    cases this with
    | sl _ _ A cap f a b c d e => exact ⟨A, _, cap, rfl, rfl, .sl m xs A cap f a b c d e⟩
  · obtain rfl := Option.some.inj hq
    obtain ⟨rfl, _⟩ := h.sc_inv
    exact ⟨none, 0, 0, rfl, rfl, CR.sl 0 [] none 0 (fun _ _ => undef) (by simp) (by simp) (by simp) (by simp) (by simp)⟩
  · cases hq

theorem CR.reM {m m' : Nat} {xs : List (List Cell)} {v : Value} (h : CR w I (.sl m xs) v) (hm : xs ≠ [] → m = m') : CR w I (.sl m' xs) v := by
  by_cases e : xs = []
  · subst e
    cases h with
    | sl _ _ A cap f a b c d g => exact .sl m' [] A cap f a b (by simp) (by simp) (by simp)
  · rw [← hm e]; exact h

/-- A piece of a slice. -/
theorem CR.cut {m : Nat} {xs : List (List Cell)} {A : Option Addr} {n cap : Nat} (h : CR w I (.sl m xs) (.slice A n cap)) {l r c : Nat} (hl : l ≤ r) (hr : r ≤ xs.length) (hc1 : r ≤ c) (hc2 : c ≤ cap) :
    CR w I (.sl m ((xs.take r).drop l)) (.slice (if c = l then A else A.map (·.add (l * m))) (r - l) (c - l)) := by
  cases h with
  | sl _ _ _ _ f hcap hmax hm hA hx =>
  have hlen : ((xs.take r).drop l).length = r - l := by simp; omega
  have key : CR w I (.sl m ((xs.take r).drop l)) (.slice (if c = l then A else A.map (·.add (l * m))) ((xs.take r).drop l).length (c - l)) := by
    refine .sl m _ _ (c - l) (fun i j => f (l + i) j) (by omega) (by omega) (fun y hy => hm y (List.mem_of_mem_take (List.mem_of_mem_drop hy))) (fun h0 => ?_) fun i hi j hj => ?_
    · obtain ⟨ad, rfl, hI, hcell⟩ := hA (by omega)
      rw [if_neg (by omega)]
      refine ⟨ad.add (l * m), rfl, by rw [block_add]; exact hI, fun i j hi hj => ?_⟩
      rw [add_add, show l * m + (i * m + j) = (l + i) * m + j from by rw [Nat.add_mul]; omega]
      exact hcell (l + i) j (by omega) hj
    · have hi' : l + i < xs.length := by omega
      have e : ((xs.take r).drop l)[i] = xs[l + i] := by simp
      simp only [e] at hj ⊢
      exact hx (l + i) hi' j hj
  rwa [hlen] at key
end
end Go.Proofs.YtbnelpgogjbgjaaGreat.Q
