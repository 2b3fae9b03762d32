/- What is read of an argument, as data. -/
import Derived.Test.YtbnelpgogjbgjaaGreatCodQx
import Derived.ProofKit
import Derived.Test.YtbnelpgogjbgjaaGreatCodQt
import Derived.Test.YtbnelpgogjbgjaaGreatProg
import Derived.KernelRfl
/- What is read of an argument, as data. -/
set_option linter.unusedVariables false
set_option linter.unusedSimpArgs false
namespace Go.Proofs.YtbnelpgogjbgjaaGreat.Q
open Go.RowKit

mutual
/-- Cells of a type. -/
inductive Ty (P : Program) : TypeId → List Cell → Prop where
  | bool {t : TypeId} {b : Bool} (h : P.underlying t = some .bool) : Ty P t [.sc (.bool b)]
  | int {t : TypeId} {k : IntKind} {n : Int} (h : P.underlying t = some (.int k)) (hw : (Lit.int k n).wf = true) : Ty P t [.sc (.int k n)]
  | float {t : TypeId} {k : FloatKind} {n : Nat} (h : P.underlying t = some (.float k)) (hw : (Lit.float k n).wf = true) : Ty P t [.sc (.float k n)]
  | str {t : TypeId} {s : ByteArray} (h : P.underlying t = some .string) : Ty P t [.sc (.string s)]
  | sl {t e : TypeId} {xs : List (List Cell)} (h : P.underlying t = some (.slice e)) (hx : ∀ x ∈ xs, Ty P e x) : Ty P t [.sl (P.cellsOf e) xs]
  | st {t : TypeId} {fs : Array Field} {xss : List (List Cell)} (h : P.underlying t = some (.struct fs)) (hx : TyL P (fs.toList.map (·.type)) xss) : Ty P t xss.flatten
inductive TyL (P : Program) : List TypeId → List (List Cell) → Prop where
  | nil : TyL P [] []
  | cons {t : TypeId} {ts : List TypeId} {x : List Cell} {xs : List (List Cell)} (h : Ty P t x) (k : TyL P ts xs) : TyL P (t :: ts) (x :: xs)
end
/-- Fields that follow one another. -/
def packed (P : Program) : Nat → List Field → Option Nat
  | n, [] => some n
  | n, f :: fs => if f.offset = n then packed P (n + P.cellsOf f.type) fs else none
def structT (P : Program) (t : TypeId) : Option (List TypeId) := match P.underlying t with
  | some (.struct fs) => some (fs.toList.map (·.type))
  | _ => none
/-- Types that can be read as data of cells. -/
def goodT (P : Program) (G : List TypeId) : Bool := G.all fun t => match P.underlying t with
  | some .bool | some (.int _) | some (.float _) | some .string => P.cellsOf t == 1
  | some (.slice e) => P.cellsOf t == 1 && G.contains e && decide (0 < P.cellsOf e)
  | some (.struct fs) => fs.all (fun f => G.contains f.type) && packed P 0 fs.toList == some (P.cellsOf t)
  | _ => false
section
variable {P : Program} {w : World} {H : Type} {enc : TypeId × Value → H} {base : Nat} {spare : Nat → Bool} {held : Bool} {G : List TypeId}
theorem mapM_get {α β : Type} {f : α → Option β} : ∀ {l : List α} {r : List β}, l.mapM f = some r → r.length = l.length ∧ ∀ i (hi : i < l.length) (hr : i < r.length), f l[i] = some r[i] := by
  intro l
  induction l with
  | nil => intro r h; simp at h; subst h; exact ⟨rfl, fun i hi => by simp at hi⟩
  | cons a l ih =>
    intro r h
    rw [List.mapM_cons] at h
    simp only [Option.pure_def, Option.bind_eq_bind, Option.bind_eq_some_iff, Option.some.injEq] at h
    obtain ⟨b, hb, bs, hbs, rfl⟩ := h
    obtain ⟨h1, h2⟩ := ih hbs
    refine ⟨by simp [h1], fun i hi hr => ?_⟩
    cases i with
    | zero => exact hb
    | succ i => exact h2 i (by simpa using hi) (by simpa using hr)
/-- Cells that are told by cells of data. -/
def Told (w : World) (xs : List Cell) (cs : List Value) : Prop := xs.length = cs.length ∧ ∀ j (hj : j < xs.length) (hk : j < cs.length), CR w (fun b => b < w.heap.size) xs[j] cs[j]
theorem Told.one {x : Cell} {v : Value} (h : CR w (fun b => b < w.heap.size) x v) : Told w [x] [v] := ⟨rfl, fun j hj hk => by
  obtain rfl : j = 0 := by simp at hj; omega
  exact h⟩
theorem Told.append {xs ys : List Cell} {cs ds : List Value} (h : Told w xs cs) (k : Told w ys ds) : Told w (xs ++ ys) (cs ++ ds) := by
  refine ⟨by simp [h.1, k.1], fun j hj hk => ?_⟩
  by_cases e : j < xs.length
  · have e' : j < cs.length := by rw [← h.1]; exact e
    rw [List.getElem_append_left e, List.getElem_append_left e']
    exact h.2 j e e'
  · have e' : cs.length ≤ j := by rw [← h.1]; omega
    rw [List.getElem_append_right (by omega), List.getElem_append_right e']
    have hj' := hj
    have hk' := hk
    rw [List.length_append] at hj' hk'
    have := k.2 (j - xs.length) (by omega) (by have := h.1; omega)
    simpa [h.1] using this
theorem packed_le : ∀ {fs : List Field} {n k : Nat}, packed P n fs = some k → n ≤ k := by
  intro fs
  induction fs with
  | nil => intro n k h; simp [packed] at h; omega
  | cons f fs ih =>
    intro n k h
    simp only [packed] at h
    split at h
    · have := ih h; omega
    · cases h
theorem read_fields {g : TypeId → List Value → Option (DataW H × List MemPlace)} (ih : ∀ (t : TypeId) (cs : List Value) x, t ∈ G → cs.length = P.cellsOf t → g t cs = some x → ∃ xs, Ty P t xs ∧ Told w xs cs) :
    ∀ (fs : List Field) (n : Nat) (cs : List Value) (r : List (DataW H × List MemPlace)), packed P n fs = some cs.length → (∀ f ∈ fs, f.type ∈ G) → fs.mapM (fun f => g f.type ((cs.drop f.offset).take (P.cellsOf f.type))) = some r →
      ∃ xss, TyL P (fs.map (·.type)) xss ∧ Told w xss.flatten (cs.drop n) := by
  intro fs
  induction fs with
  | nil =>
    intro n cs r hp _ _
    simp only [packed, Option.some.injEq] at hp
    refine ⟨[], .nil, ?_⟩
    rw [List.drop_of_length_le (by omega)]
    exact ⟨rfl, fun j hj => by simp at hj⟩
  | cons f fs ihf =>
    intro n cs r hp hG hm
    simp only [packed] at hp
    split at hp
    · rename_i ho
      have hle := packed_le hp
      rw [List.mapM_cons] at hm
      simp only [Option.pure_def, Option.bind_eq_bind, Option.bind_eq_some_iff, Option.some.injEq] at hm
      obtain ⟨b, hb, bs, hbs, rfl⟩ := hm
      obtain ⟨xs, hty, htold⟩ := ih _ _ _ (hG f (by simp)) (by rw [List.length_take, List.length_drop]; omega) hb
      obtain ⟨xss, htl, htt⟩ := ihf _ cs bs hp (fun g hg => hG g (by simp [hg])) hbs
      refine ⟨xs :: xss, .cons hty htl, ?_⟩
      have e : cs.drop n = (cs.drop f.offset).take (P.cellsOf f.type) ++ cs.drop (n + P.cellsOf f.type) := by
        rw [ho, ← List.drop_drop, List.take_append_drop]
      rw [e, List.flatten_cons]
      exact htold.append htt
    · cases hp
theorem read_data (hG : goodT P G = true) : ∀ (fuel : Nat) (t : TypeId) (cs : List Value) (d : DataW H) (ps : List MemPlace), t ∈ G → cs.length = P.cellsOf t → DataW.trod enc P w base spare held fuel t cs = some (d, ps) → ∃ xs, Ty P t xs ∧ Told w xs cs := by
  intro fuel
  induction fuel with
  | zero => intro t cs d ps _ _ h; simp [DataW.trod] at h
  | succ fuel ih =>
    intro t cs d ps ht hlen h
    have hg := List.all_eq_true.1 hG t ht
    unfold DataW.trod at h
    split at h
    all_goals rename_i hu
    all_goals try rw [hu] at hg
    all_goals try (simp at hg; done)
    all_goals try (cases h; done)
    · exact ⟨_, .bool hu, Told.one (.sc _ rfl)⟩
    · split at h
      · rename_i hc; exact ⟨_, .int hu hc.2, by rw [hc.1]; exact Told.one (.sc _ rfl)⟩
      · cases h
    · split at h
      · rename_i hc; exact ⟨_, .float hu hc.2, by rw [hc.1]; exact Told.one (.sc _ rfl)⟩
      · cases h
    · split at h
      · exact ⟨_, .str hu, Told.one (.sc _ rfl)⟩
      · cases h
    · exact ⟨_, .sl (xs := []) hu (by simp), Told.one (CR.nil _)⟩
    · rename_i e a len cap
      simp only [Bool.and_eq_true, beq_iff_eq, List.contains_iff_mem, decide_eq_true_eq] at hg
      obtain ⟨⟨_, hge⟩, hpos⟩ := hg
      dsimp only at h
      split at h
      · rename_i hc
        simp only [Option.bind_eq_some_iff] at h
        obtain ⟨elems, hel, _⟩ := h
        obtain ⟨h1, h2⟩ := mapM_get hel
        simp only [List.length_range] at h1 h2
        have key : ∀ i : Nat, ∃ xc : List Cell × List Value, i < len → Ty P e xc.1 ∧ Told w xc.1 xc.2 ∧ xc.2.length = P.cellsOf e ∧ ∀ j (hj : j < xc.2.length), w.cell? ((a.add (i * P.cellsOf e)).add j) = some xc.2[j] := fun i => by
          by_cases hi : i < len
          · have h3 := h2 i hi (by omega)
            simp only [List.getElem_range, Option.bind_eq_some_iff] at h3
            obtain ⟨cs, hcs, htr⟩ := h3
            obtain ⟨k1, k2, k3⟩ := World.cells?_some hcs
            obtain ⟨xs, hty, htold⟩ := ih e cs _ _ hge k2 htr
            refine ⟨(xs, cs), fun _ => ⟨hty, htold, k2, fun j hj => ?_⟩⟩
            have hj' : j < cs.length := hj
            rw [k3 j (by omega)]
            simp [hj]
          · exact ⟨([], []), fun h => absurd h hi⟩
        obtain ⟨F, hF⟩ := Classical.skolem.1 key
        let xs := (List.range len).map fun i => (F i).1
        have hxl : xs.length = len := by simp [xs]
        have hxi : ∀ i (hi : i < xs.length), xs[i] = (F i).1 := fun i hi => by simp [xs]
        refine ⟨[.sl (P.cellsOf e) xs], .sl hu fun x hx => ?_, Told.one ?_⟩
        · obtain ⟨i, hi, rfl⟩ := List.mem_map.1 hx
          exact (hF i (List.mem_range.1 hi)).1
        · rw [show Value.slice (some a) len cap = .slice (some a) xs.length cap from by rw [hxl]]
          refine .sl (P.cellsOf e) xs (some a) cap (fun i j => (F i).2.getD j undef) (by omega) hc.2.2 (fun x hx => ?_) (fun h0 => ⟨a, rfl, ?_, fun i j hi hj => ?_⟩) fun i hi j hj => ?_
          · obtain ⟨i, hi, rfl⟩ := List.mem_map.1 hx
            have := hF i (List.mem_range.1 hi)
            rw [this.2.1.1, this.2.2.1]
          · have h4 := (hF 0 (by omega)).2.2
            have h5 := h4.2 0 (by omega)
            simp only [Nat.zero_mul] at h5
            simp only [World.cell?] at h5
            by_cases hb : a.block < w.heap.size
            · exact hb
            · rw [block_add, block_add, Array.getElem?_eq_none (by omega)] at h5
              cases h5
          · have h4 := (hF i (by omega)).2.2
            have h5 := h4.2 j (by omega)
            rw [add_add] at h5
            rw [h5, List.getD_eq_getElem?_getD, List.getElem?_eq_getElem (by omega)]
            rfl
          · have h4 := (hF i (by omega)).2
            have hj' : j < (F i).1.length := by rw [← hxi i hi]; exact hj
            have h5 := h4.1.2 j hj' (by rw [← h4.1.1]; exact hj')
            rw [List.getD_eq_getElem?_getD, List.getElem?_eq_getElem (by rw [← h4.1.1]; exact hj')]
            have : (xs[i])[j] = ((F i).1)[j] := by simp only [hxi i hi]
            rw [this]
            exact h5
      · cases h
    · rename_i fs
      simp only [Bool.and_eq_true, beq_iff_eq, Array.all_eq_true_iff_forall_mem, List.contains_iff_mem] at hg
      rw [if_pos hlen] at h
      simp only [Option.map_eq_some_iff] at h
      obtain ⟨r, hr, _⟩ := h
      obtain ⟨xss, h1, h2⟩ := read_fields (G := G) (g := fun t cs => DataW.trod enc P w base spare held fuel t cs) (fun t cs x => ih t cs x.1 x.2) fs.toList 0 _ r (by rw [hg.2, hlen]) (fun f hf => hg.1 f (by simpa using hf)) hr
      exact ⟨_, .st hu h1, h2⟩
end
end Go.Proofs.YtbnelpgogjbgjaaGreat.Q
/- The data's kinds, and how each lies in cells. -/
set_option linter.unusedVariables false
namespace Go.Proofs.YtbnelpgogjbgjaaGreat.Q
open Go.RowKit

/-- An int of 64 bits. -/
abbrev I64 := { n : Int // -9223372036854775808 ≤ n ∧ n ≤ 9223372036854775807 }
abbrev Flt := { n : Nat // n < 18446744073709551616 }
theorem wrapI (x : I64) : IntKind.wrap .i64 x.1 = x.1 := wrap64 x.2
instance : Inhabited I64 := ⟨⟨0, by decide⟩⟩
instance : Inhabited Flt := ⟨⟨0, by decide⟩⟩
abbrev ci (n : Int) : Cell := .sc (.int .i64 n)
abbrev cs (s : ByteArray) : Cell := .sc (.string s)
abbrev cb (b : Bool) : Cell := .sc (.bool b)
abbrev cf (n : Nat) : Cell := .sc (.float .f64 n)
abbrev vi (n : Int) : SV := .c (.sc (.int .i64 n))
abbrev vs (s : ByteArray) : SV := .c (.sc (.string s))
abbrev vb (b : Bool) : SV := .c (.sc (.bool b))
abbrev vf (n : Nat) : SV := .c (.sc (.float .f64 n))

def zI : I64 := ⟨0, by decide⟩
def zF : Flt := ⟨0, by decide⟩
structure Vl where
  kind : I64
  int : I64
  bool : Bool
  text : ByteArray
  num : Flt
  deriving Inhabited
def encV (v : Vl) : List Cell := [ci v.kind.1, ci v.int.1, cb v.bool, cs v.text, cf v.num.1]
inductive Ex where
  | mk (op : I64) (kids : List Ex) (name : ByteArray) (val : Vl)
instance : Inhabited Ex := ⟨.mk default [] default default⟩
def Ex.op : Ex → I64
  | .mk o _ _ _ => o
def Ex.kids : Ex → List Ex
  | .mk _ k _ _ => k
def Ex.name : Ex → ByteArray
  | .mk _ _ n _ => n
def Ex.val : Ex → Vl
  | .mk _ _ _ v => v
mutual
  def encE : Ex → List Cell
    | .mk o k n v => [ci o.1, .sl 8 (encEs k), cs n, ci v.kind.1, ci v.int.1, cb v.bool, cs v.text, cf v.num.1]
  def encEs : List Ex → List (List Cell)
    | [] => []
    | e :: es => encE e :: encEs es
end
theorem encEs_map (l : List Ex) : encEs l = l.map encE := by
  induction l with
  | nil => rfl
  | cons e l ih => simp only [encEs, List.map_cons, ih]
theorem encE_ (e : Ex) : encE e = [ci e.op.1, .sl 8 (e.kids.map encE), cs e.name, ci e.val.kind.1, ci e.val.int.1, cb e.val.bool, cs e.val.text, cf e.val.num.1] := by
  cases e
  simp only [encE, encEs_map, Ex.op, Ex.kids, Ex.name, Ex.val]
structure Fd where
  name : ByteArray
  kind : I64
  enum : List ByteArray
  init : Vl
  deriving Inhabited
def strs (l : List ByteArray) : List (List Cell) := l.map fun s => [cs s]
def ints (l : List I64) : List (List Cell) := l.map fun n => [ci n.1]
def encF (f : Fd) : List Cell := [cs f.name, ci f.kind.1, .sl 1 (strs f.enum), ci f.init.kind.1, ci f.init.int.1, cb f.init.bool, cs f.init.text, cf f.init.num.1]
structure Stg where
  name : ByteArray
  need : I64
  orgs : List I64
  deriving Inhabited
def encS (s : Stg) : List Cell := [cs s.name, ci s.need.1, .sl 1 (ints s.orgs)]
structure Eff where
  field : ByteArray
  expr : Ex
  deriving Inhabited
def encX (x : Eff) : List Cell := cs x.field :: encE x.expr
structure Mov where
  name : ByteArray
  frm : I64
  to : I64
  guard : Ex
  effects : List Eff
  org : I64
  deriving Inhabited
def encM (m : Mov) : List Cell := [cs m.name, ci m.frm.1, ci m.to.1, ci m.guard.op.1, .sl 8 (m.guard.kids.map encE), cs m.guard.name, ci m.guard.val.kind.1, ci m.guard.val.int.1, cb m.guard.val.bool, cs m.guard.val.text, cf m.guard.val.num.1, .sl 9 (m.effects.map encX), ci m.org.1]
structure Ctr where
  name : ByteArray
  fields : List Fd
  stages : List Stg
  moves : List Mov
  deriving Inhabited
def encC (c : Ctr) : List Cell := [cs c.name, .sl 8 (c.fields.map encF), .sl 3 (c.stages.map encS), .sl 13 (c.moves.map encM)]
theorem lenV (v : Vl) : (encV v).length = 5 := rfl
theorem lenE (e : Ex) : (encE e).length = 8 := by rw [encE_]; rfl
theorem lenF (v : Fd) : (encF v).length = 8 := rfl
theorem lenS (v : Stg) : (encS v).length = 3 := rfl
theorem lenX (v : Eff) : (encX v).length = 9 := by simp [encX, lenE]
theorem lenM (v : Mov) : (encM v).length = 13 := rfl
theorem lenC (v : Ctr) : (encC v).length = 4 := rfl
abbrev ag (l : List Cell) : SV := .ag (l.map .c)
theorem getD_map {α : Type} {f : α → List Cell} {l : List α} {i : Nat} (h : i < l.length) : (l.map f).getD i [] = f l[i] := by
  rw [List.getD_eq_getElem?_getD, List.getElem?_map, List.getElem?_eq_getElem h]; rfl
theorem all_map {α : Type} {f : α → List Cell} {l : List α} {m : Nat} (h : ∀ a, (f a).length = m) : ∀ x ∈ l.map f, x.length = m := by
  intro x hx
  obtain ⟨a, _, rfl⟩ := List.mem_map.1 hx
  exact h a

theorem data_m (l : List Cell) : SV.data.dataAll (l.map .c) = true := by induction l <;> simp_all [SV.data.dataAll, SV.data]
theorem data_ag (l : List Cell) : SV.data.dataAll [ag l] = true := by simp [SV.data.dataAll, SV.data, data_m]
theorem take_mapc {x : List Cell} {n : Nat} (h : x.length = n) : (x.map SV.c).take n = x.map SV.c := take_all (by simp [h])
theorem frz_m {keep : List Bool} {H : List AObj} (l : List Cell) : frz.frzL keep H (l.map .c) = l.map .c := by induction l <;> simp_all [frz.frzL, frz]

/-- Where the first one of a kind stands. -/
def findI {α : Type} (p : α → Bool) : Nat → List α → Int
  | _, [] => -1
  | i, x :: xs => if p x then i else findI p (i + 1) xs
theorem findI_at {α : Type} {p : α → Bool} {l : List α} {i : Nat} (h : i < l.length) : findI p i (l.drop i) = if p l[i] then (i : Int) else findI p (i + 1) (l.drop (i + 1)) := by
  rw [List.drop_eq_getElem_cons h]; rfl
theorem findI_end {α : Type} {p : α → Bool} {l : List α} {i : Nat} (h : l.length ≤ i) : findI p i (l.drop i) = -1 := by
  rw [List.drop_eq_nil_of_le h]; rfl
theorem findI_map {α β : Type} {p : β → Bool} {f : α → β} (l : List α) (i : Nat) : findI p i (l.map f) = findI (fun a => p (f a)) i l := by
  induction l generalizing i with
  | nil => rfl
  | cons a l ih => simp only [List.map_cons, findI, ih]
theorem findI_congr {α : Type} {p q : α → Bool} {l : List α} {i : Nat} (h : ∀ x ∈ l, p x = q x) : findI p i l = findI q i l := by
  induction l generalizing i with
  | nil => rfl
  | cons a l ih => simp only [findI, h a (by simp), ih fun x hx => h x (by simp [hx])]
theorem findI_any {α : Type} {p : α → Bool} (l : List α) (i : Nat) : decide (0 ≤ findI p i l) = l.any p := by
  induction l generalizing i with
  | nil => rfl
  | cons a l ih =>
    simp only [findI, List.any_cons]
    by_cases h : p a = true
    · simp [h]
    · simp only [h, Bool.false_eq_true, if_false, Bool.false_or]
      exact ih (i + 1)
/-- All of them, with their places. -/
def allI {α : Type} (p : Nat → α → Bool) : Nat → List α → Bool
  | _, [] => true
  | i, x :: xs => p i x && allI p (i + 1) xs
theorem allI_at {α : Type} {p : Nat → α → Bool} {l : List α} {i : Nat} (h : i < l.length) : allI p i (l.drop i) = (p i l[i] && allI p (i + 1) (l.drop (i + 1))) := by
  rw [List.drop_eq_getElem_cons h]; rfl
theorem allI_end {α : Type} {p : Nat → α → Bool} {l : List α} {i : Nat} (h : l.length ≤ i) : allI p i (l.drop i) = true := by
  rw [List.drop_eq_nil_of_le h]; rfl
theorem allI_and {α : Type} {p q : Nat → α → Bool} (l : List α) (i : Nat) : allI (fun i x => p i x && q i x) i l = (allI p i l && allI q i l) := by
  induction l generalizing i with
  | nil => rfl
  | cons a l ih => simp only [allI, ih]; cases p i a <;> cases q i a <;> simp
theorem allI_all {α : Type} {p : α → Bool} (l : List α) (i : Nat) : allI (fun _ x => p x) i l = l.all p := by
  induction l generalizing i with
  | nil => rfl
  | cons a l ih => simp only [allI, ih, List.all_cons]
theorem allI_iff {α : Type} {p : Nat → α → Bool} (l : List α) (k : Nat) : allI p k l = true ↔ ∀ i (h : i < l.length), p (k + i) l[i] = true := by
  induction l generalizing k with
  | nil => simp [allI]
  | cons a l ih =>
    simp only [allI, Bool.and_eq_true, ih, List.length_cons]
    constructor
    · rintro ⟨h1, h2⟩ i hi
      cases i with
      | zero => exact h1
      | succ i => have := h2 i (by omega); simpa [Nat.add_assoc, Nat.add_comm 1] using this
    · intro h
      refine ⟨h 0 (by omega), fun i hi => ?_⟩
      have := h (i + 1) (by omega)
      simpa [Nat.add_assoc, Nat.add_comm 1] using this
end Go.Proofs.YtbnelpgogjbgjaaGreat.Q
/- The program's types as data. -/
set_option linter.unusedVariables false
set_option linter.unusedSimpArgs false
namespace Go.Proofs.YtbnelpgogjbgjaaGreat.Q
open Go.RowKit

section
variable {P : Program}
theorem ty_str {t : TypeId} {x : List Cell} (h : P.underlying t = some .string) (k : Ty P t x) : ∃ s, x = [cs s] := by
  cases k with
  | str => exact ⟨_, rfl⟩
  | bool h' => rw [h] at h'; simp at h'
  | int h' => rw [h] at h'; simp at h'
  | float h' => rw [h] at h'; simp at h'
  | sl h' => rw [h] at h'; simp at h'
  | st h' => rw [h] at h'; simp at h'
theorem ty_bool {t : TypeId} {x : List Cell} (h : P.underlying t = some .bool) (k : Ty P t x) : ∃ s, x = [cb s] := by
  cases k with
  | bool => exact ⟨_, rfl⟩
  | str h' => rw [h] at h'; simp at h'
  | int h' => rw [h] at h'; simp at h'
  | float h' => rw [h] at h'; simp at h'
  | sl h' => rw [h] at h'; simp at h'
  | st h' => rw [h] at h'; simp at h'
theorem ty_i64 {t : TypeId} {x : List Cell} (h : P.underlying t = some (.int .i64)) (k : Ty P t x) : ∃ n : I64, x = [ci n.1] := by
  cases k with
  | @int _ k n h' hw =>
    rw [h] at h'
    simp only [Option.some.injEq, TypeDesc.int.injEq] at h'
    subst h'
    simp only [Lit.wf, Bool.and_eq_true, decide_eq_true_eq] at hw
    exact ⟨⟨n, hw⟩, rfl⟩
  | bool h' => rw [h] at h'; simp at h'
  | str h' => rw [h] at h'; simp at h'
  | float h' => rw [h] at h'; simp at h'
  | sl h' => rw [h] at h'; simp at h'
  | st h' => rw [h] at h'; simp at h'
theorem ty_f64 {t : TypeId} {x : List Cell} (h : P.underlying t = some (.float .f64)) (k : Ty P t x) : ∃ n : Flt, x = [cf n.1] := by
  cases k with
  | @float _ k n h' hw =>
    rw [h] at h'
    simp only [Option.some.injEq, TypeDesc.float.injEq] at h'
    subst h'
    simp only [Lit.wf, decide_eq_true_eq] at hw
    exact ⟨⟨n, hw⟩, rfl⟩
  | bool h' => rw [h] at h'; simp at h'
  | str h' => rw [h] at h'; simp at h'
  | int h' => rw [h] at h'; simp at h'
  | sl h' => rw [h] at h'; simp at h'
  | st h' => rw [h] at h'; simp at h'
theorem ty_sl {t e m : Nat} {x : List Cell} (h : P.underlying t = some (.slice e)) (hm : P.cellsOf e = m) (k : Ty P t x) : ∃ xs, x = [.sl m xs] ∧ ∀ y ∈ xs, Ty P e y := by
  cases k with
  | sl h' hx => rw [h] at h'; simp only [Option.some.injEq, TypeDesc.slice.injEq] at h'; subst h'; exact ⟨_, by rw [hm], hx⟩
  | bool h' => rw [h] at h'; simp at h'
  | str h' => rw [h] at h'; simp at h'
  | int h' => rw [h] at h'; simp at h'
  | float h' => rw [h] at h'; simp at h'
  | st h' => rw [h] at h'; simp at h'
theorem ty_st {t : TypeId} {ts : List TypeId} {x : List Cell} (h : structT P t = some ts) (k : Ty P t x) : ∃ xss, x = xss.flatten ∧ TyL P ts xss := by
  unfold structT at h
  cases k with
  | st h' hx => rw [h'] at h; simp only [Option.some.injEq] at h; subst h; exact ⟨_, rfl, hx⟩
  | sl h' => rw [h'] at h; simp at h
  | bool h' => rw [h'] at h; simp at h
  | str h' => rw [h'] at h; simp at h
  | int h' => rw [h'] at h; simp at h
  | float h' => rw [h'] at h; simp at h
theorem tyl_cons {t : TypeId} {ts : List TypeId} {xs : List (List Cell)} (h : TyL P (t :: ts) xs) : ∃ x ys, xs = x :: ys ∧ Ty P t x ∧ TyL P ts ys := by
  cases h with | cons h k => exact ⟨_, _, rfl, h, k⟩
theorem tyl_nil {xs : List (List Cell)} (h : TyL P [] xs) : xs = [] := by cases h; rfl
theorem rows_of {α : Type} {enc : α → List Cell} : ∀ {xs : List (List Cell)}, (∀ x ∈ xs, ∃ a, x = enc a) → ∃ l : List α, xs = l.map enc := by
  intro xs
  induction xs with
  | nil => intro _; exact ⟨[], rfl⟩
  | cons x xs ih =>
    intro h
    obtain ⟨a, rfl⟩ := h x (by simp)
    obtain ⟨l, rfl⟩ := ih fun y hy => h y (by simp [hy])
    exact ⟨a :: l, rfl⟩
end
theorem u_int : Tryz.prog.underlying 3 = some (.int .i64) := by kernel_rfl
theorem u_int64 : Tryz.prog.underlying 2 = some (.int .i64) := by kernel_rfl
theorem u_bool : Tryz.prog.underlying 4 = some .bool := by kernel_rfl
theorem u_string : Tryz.prog.underlying 9 = some .string := by kernel_rfl
theorem u_float : Tryz.prog.underlying 37 = some (.float .f64) := by kernel_rfl
theorem ty_V {x : List Cell} (h : Ty Tryz.prog 39 x) : ∃ v : Vl, x = encV v := by
  obtain ⟨xss, rfl, hl⟩ := ty_st (ts := [3, 2, 4, 9, 37]) (by kernel_rfl) h
  obtain ⟨x1, _, rfl, h1, hl⟩ := tyl_cons hl
  obtain ⟨x2, _, rfl, h2, hl⟩ := tyl_cons hl
  obtain ⟨x3, _, rfl, h3, hl⟩ := tyl_cons hl
  obtain ⟨x4, _, rfl, h4, hl⟩ := tyl_cons hl
  obtain ⟨x5, _, rfl, h5, hl⟩ := tyl_cons hl
  obtain rfl := tyl_nil hl
  obtain ⟨a, rfl⟩ := ty_i64 u_int h1
  obtain ⟨b, rfl⟩ := ty_i64 u_int64 h2
  obtain ⟨c, rfl⟩ := ty_bool u_bool h3
  obtain ⟨d, rfl⟩ := ty_str u_string h4
  obtain ⟨e, rfl⟩ := ty_f64 u_float h5
  exact ⟨⟨a, b, c, d, e⟩, rfl⟩
theorem sizeOf_mem2 {k x : List Cell} {m : Nat} {xs : List (List Cell)} (hk : k ∈ xs) (hx : Cell.sl m xs ∈ x) : SizeOf.sizeOf k < SizeOf.sizeOf x := by
  have h1 := List.sizeOf_lt_of_mem hk
  have h2 := List.sizeOf_lt_of_mem hx
  simp only [Cell.sl.sizeOf_spec] at h2
  omega
theorem ty_E : ∀ {x : List Cell}, Ty Tryz.prog 44 x → ∃ e : Ex, x = encE e := by
  have key : ∀ (n : Nat) (x : List Cell), SizeOf.sizeOf x ≤ n → Ty Tryz.prog 44 x → ∃ e : Ex, x = encE e := by
    intro n
    induction n with
    | zero => intro x hx; cases x <;> simp at hx
    | succ n ih =>
      intro x hx h
      obtain ⟨xss, rfl, hl⟩ := ty_st (ts := [3, 42, 9, 39]) (by kernel_rfl) h
      obtain ⟨x1, _, rfl, h1, hl⟩ := tyl_cons hl
      obtain ⟨x2, _, rfl, h2, hl⟩ := tyl_cons hl
      obtain ⟨x3, _, rfl, h3, hl⟩ := tyl_cons hl
      obtain ⟨x4, _, rfl, h4, hl⟩ := tyl_cons hl
      obtain rfl := tyl_nil hl
      obtain ⟨a, rfl⟩ := ty_i64 u_int h1
      obtain ⟨ks, rfl, hks⟩ := ty_sl (e := 44) (m := 8) (by kernel_rfl) (by kernel_rfl) h2
      obtain ⟨c, rfl⟩ := ty_str u_string h3
      obtain ⟨d, rfl⟩ := ty_V h4
      obtain ⟨l, rfl⟩ := rows_of (enc := encE) (xs := ks) fun k hk => ih k (by
        have := sizeOf_mem2 (m := 8) (x := [[ci a.1], [Cell.sl 8 ks], [cs c], encV d].flatten) hk (by simp)
        omega) (hks k hk)
      exact ⟨.mk a l c d, by rw [encE_]; rfl⟩
  exact fun {x} h => key _ x (Nat.le_refl _) h
theorem ty_strs {x : List Cell} (h : Ty Tryz.prog 36 x) : ∃ l, x = [.sl 1 (strs l)] := by
  obtain ⟨ks, rfl, hks⟩ := ty_sl (e := 9) (m := 1) (by kernel_rfl) (by kernel_rfl) h
  obtain ⟨l, rfl⟩ := rows_of (enc := fun s => [cs s]) (xs := ks) fun k hk => ty_str u_string (hks k hk)
  exact ⟨l, rfl⟩
theorem ty_ints {x : List Cell} (h : Ty Tryz.prog 66 x) : ∃ l, x = [.sl 1 (ints l)] := by
  obtain ⟨ks, rfl, hks⟩ := ty_sl (e := 3) (m := 1) (by kernel_rfl) (by kernel_rfl) h
  obtain ⟨l, rfl⟩ := rows_of (enc := fun n : I64 => [ci n.1]) (xs := ks) fun k hk => ty_i64 u_int (hks k hk)
  exact ⟨l, rfl⟩
theorem ty_F {x : List Cell} (h : Ty Tryz.prog 41 x) : ∃ v : Fd, x = encF v := by
  obtain ⟨xss, rfl, hl⟩ := ty_st (ts := [9, 3, 36, 39]) (by kernel_rfl) h
  obtain ⟨x1, _, rfl, h1, hl⟩ := tyl_cons hl
  obtain ⟨x2, _, rfl, h2, hl⟩ := tyl_cons hl
  obtain ⟨x3, _, rfl, h3, hl⟩ := tyl_cons hl
  obtain ⟨x4, _, rfl, h4, hl⟩ := tyl_cons hl
  obtain rfl := tyl_nil hl
  obtain ⟨a, rfl⟩ := ty_str u_string h1
  obtain ⟨b, rfl⟩ := ty_i64 u_int h2
  obtain ⟨c, rfl⟩ := ty_strs h3
  obtain ⟨d, rfl⟩ := ty_V h4
  exact ⟨⟨a, b, c, d⟩, rfl⟩
theorem ty_S {x : List Cell} (h : Ty Tryz.prog 85 x) : ∃ v : Stg, x = encS v := by
  obtain ⟨xss, rfl, hl⟩ := ty_st (ts := [9, 3, 66]) (by kernel_rfl) h
  obtain ⟨x1, _, rfl, h1, hl⟩ := tyl_cons hl
  obtain ⟨x2, _, rfl, h2, hl⟩ := tyl_cons hl
  obtain ⟨x3, _, rfl, h3, hl⟩ := tyl_cons hl
  obtain rfl := tyl_nil hl
  obtain ⟨a, rfl⟩ := ty_str u_string h1
  obtain ⟨b, rfl⟩ := ty_i64 u_int h2
  obtain ⟨c, rfl⟩ := ty_ints h3
  exact ⟨⟨a, b, c⟩, rfl⟩
theorem ty_X {x : List Cell} (h : Ty Tryz.prog 51 x) : ∃ v : Eff, x = encX v := by
  obtain ⟨xss, rfl, hl⟩ := ty_st (ts := [9, 44]) (by kernel_rfl) h
  obtain ⟨x1, _, rfl, h1, hl⟩ := tyl_cons hl
  obtain ⟨x2, _, rfl, h2, hl⟩ := tyl_cons hl
  obtain rfl := tyl_nil hl
  obtain ⟨a, rfl⟩ := ty_str u_string h1
  obtain ⟨b, rfl⟩ := ty_E h2
  exact ⟨⟨a, b⟩, by simp [encX]⟩
theorem ty_M {x : List Cell} (h : Ty Tryz.prog 47 x) : ∃ v : Mov, x = encM v := by
  obtain ⟨xss, rfl, hl⟩ := ty_st (ts := [9, 3, 3, 44, 45, 3]) (by kernel_rfl) h
  obtain ⟨x1, _, rfl, h1, hl⟩ := tyl_cons hl
  obtain ⟨x2, _, rfl, h2, hl⟩ := tyl_cons hl
  obtain ⟨x3, _, rfl, h3, hl⟩ := tyl_cons hl
  obtain ⟨x4, _, rfl, h4, hl⟩ := tyl_cons hl
  obtain ⟨x5, _, rfl, h5, hl⟩ := tyl_cons hl
  obtain ⟨x6, _, rfl, h6, hl⟩ := tyl_cons hl
  obtain rfl := tyl_nil hl
  obtain ⟨a, rfl⟩ := ty_str u_string h1
  obtain ⟨b, rfl⟩ := ty_i64 u_int h2
  obtain ⟨c, rfl⟩ := ty_i64 u_int h3
  obtain ⟨d, rfl⟩ := ty_E h4
  obtain ⟨ks, rfl, hks⟩ := ty_sl (e := 51) (m := 9) (by kernel_rfl) (by kernel_rfl) h5
  obtain ⟨l, rfl⟩ := rows_of (enc := encX) (xs := ks) fun k hk => ty_X (hks k hk)
  obtain ⟨f, rfl⟩ := ty_i64 u_int h6
  exact ⟨⟨a, b, c, d, l, f⟩, by rw [encE_]; rfl⟩
theorem ty_C {x : List Cell} (h : Ty Tryz.prog 26 x) : ∃ v : Ctr, x = encC v := by
  obtain ⟨xss, rfl, hl⟩ := ty_st (ts := [9, 22, 23, 24]) (by kernel_rfl) h
  obtain ⟨x1, _, rfl, h1, hl⟩ := tyl_cons hl
  obtain ⟨x2, _, rfl, h2, hl⟩ := tyl_cons hl
  obtain ⟨x3, _, rfl, h3, hl⟩ := tyl_cons hl
  obtain ⟨x4, _, rfl, h4, hl⟩ := tyl_cons hl
  obtain rfl := tyl_nil hl
  obtain ⟨a, rfl⟩ := ty_str u_string h1
  obtain ⟨k2, rfl, hk2⟩ := ty_sl (e := 41) (m := 8) (by kernel_rfl) (by kernel_rfl) h2
  obtain ⟨l2, rfl⟩ := rows_of (enc := encF) (xs := k2) fun k hk => ty_F (hk2 k hk)
  obtain ⟨k3, rfl, hk3⟩ := ty_sl (e := 85) (m := 3) (by kernel_rfl) (by kernel_rfl) h3
  obtain ⟨l3, rfl⟩ := rows_of (enc := encS) (xs := k3) fun k hk => ty_S (hk3 k hk)
  obtain ⟨k4, rfl, hk4⟩ := ty_sl (e := 47) (m := 13) (by kernel_rfl) (by kernel_rfl) h4
  obtain ⟨l4, rfl⟩ := rows_of (enc := encM) (xs := k4) fun k hk => ty_M (hk4 k hk)
  exact ⟨⟨a, l2, l3, l4⟩, rfl⟩
def goods : List TypeId := [3, 2, 4, 9, 37, 39, 44, 42, 36, 66, 41, 85, 51, 45, 47, 22, 23, 24, 26]
theorem goods_ok : goodT Tryz.prog goods = true := by kernel_rfl
end Go.Proofs.YtbnelpgogjbgjaaGreat.Q
/- From a call's contract to a row. -/
set_option linter.unusedVariables false
set_option linter.unusedSimpArgs false
namespace Go.Proofs.YtbnelpgogjbgjaaGreat.Q
open Go.RowKit Go.ChangeShapes Go.WideShapes Go.ChangeAt

section
variable {P : Program} {H : Type} {enc : TypeId × Value → H}
theorem all_stays (hl : laidOutB P = true) {W W' : World} (hb : Below W.heap.size W W') : ∀ {ts : List TypeId} {vs : List Value} {ds : List (DataW H)} {ps : List MemPlace}, (∀ t ∈ ts, P.readableRec t = true ∧ t < P.types.size) → (∀ x ∈ ps, x.block < W.heap.size) →
    DataW.TrodAll enc P W 0 (fun _ => true) true ts vs ds ps → DataW.TrodAll enc P W' 0 (fun b => decide (b < W.heap.size)) true ts vs ds ps
  | [], [], [], ps, _, _, h => h
  | t :: ts, v :: vs, d :: ds, ps, ht, hp, h => by
    obtain ⟨p, q, h1, h2, rfl⟩ := h
    exact ⟨p, q, Below.trod hl (ht t (by simp)).1 (ht t (by simp)).2 h1 hb fun x hx => hp x (by simp [hx]), all_stays hl hb (fun t' h' => ht t' (by simp [h'])) (fun x hx => hp x (by simp [hx])) h2, rfl⟩
theorem law_post (hl : laidOutB P = true) {fn : Func} {s : ChangeSpec} {t : TypeId} {W W' : World} {args : Array Value} {ds gs : List (DataW H)} {before : List MemPlace}
    (hW : DataW.Whole enc P fn.params.toList s.vars false W args.toList ds gs before) (hb : Below W.heap.size W W') (hs : s.vars = []) (hfn0 : s.fn H ds = { results := [.lit (.bool true)], args := ds })
    (hr : fn.resultTypes = #[t]) (ht : P.underlying t = some .bool) (hp : ∀ t ∈ fn.params.toList, P.readableRec t = true ∧ t < P.types.size) : s.post enc P fn false true false false W args (.bool true) W' := by
  have hlt : ∀ p ∈ before, p.block < W.heap.size := fun p hp => hW.lt p hp
  have hW' := hW
  obtain ⟨p, q, hA, hV, rfl, hz, hn⟩ := hW
  have hq : q = [] ∧ gs = [] := by
    rw [hs] at hV
    cases gs with
    | nil => exact ⟨hV, rfl⟩
    | cons => exact hV.elim
  obtain ⟨rfl, rfl⟩ := hq
  have hfn : s.fn H (ds ++ []) = { results := [.lit (.bool true)], args := ds } := by rw [List.append_nil]; exact hfn0
  refine ⟨ds, [], _, [], p, [], hW', ?_, ?_, ?_, World.keptBut_mono (fun x hx => ⟨hx, .inr (.inl (by simpa using hx))⟩) (hb.frame (· ∈ p ++ [])), fun h => by cases h⟩
  · rw [hfn, hr]
    exact trodAll_mk1 (shut_bool ht true)
  · rw [hfn]
    exact all_stays hl hb hp (fun x hx => hlt x (by simp [hx])) hA
  · rw [hfn, hs]; rfl
/-- A call of a law. -/
theorem law_calls {f : Nat} {args : List SV} {vs : Array Value} {W : World} (h : PC P f args (.ret (.c (.sc (.bool true))))) (hv : SVR W (fun b => b < W.heap.size) [] [] (.tup args) (.tuple vs)) : Calls P f vs W fun e W' => e = .returned (.bool true) ∧ Below W.heap.size W W' := by
  unfold PC at h
  have h0 : HRel W (fun b => b < W.heap.size) [] [] := ⟨rfl, fun b hb => hb, fun r b h => by simp at h, fun r b h => by simp at h, fun r r' b h => by simp at h, fun r o rb h => by simp at h⟩
  refine (h.2 W _ [] vs h0 hv).mono ?_
  rintro e w' ⟨o, H', I', ρ', ⟨rfl, rfl⟩, hfr, hmv, hh, hout⟩
  cases e with
  | returned v => exact ⟨by rw [SVR.sc_inv hout |>.1], hfr.below⟩
  | panicked ch => exact hout.elim
  | outgrown => exact hout.elim
/-- A struct that is handed over. -/
theorem arg_struct {base : Nat} {spare : Nat → Bool} {held : Bool} {G : List TypeId} (hG : goodT P G = true) {t : TypeId} {ts : List TypeId} (ht : t ∈ G) (hs : structT P t = some ts) {W : World} {b0 : Nat} {v : Value} {d : DataW H} {ps : List MemPlace}
    (hk : Value.okWide P W .any b0 t v) (h : DataW.Trod enc P W base spare held t v d ps) : ∃ xs, Ty P t xs ∧ SVR W (fun b => b < W.heap.size) [] [] (.ag (xs.map .c)) v := by
  unfold structT at hs
  unfold Value.okWide at hk
  split at hs
  · rename_i fs hu
    rw [hu] at hk
    obtain ⟨cs, rfl, hsz, _⟩ := hk
    obtain ⟨fuel, h⟩ := h
    obtain ⟨xs, h1, h2⟩ := read_data hG fuel t _ d ps ht (by simpa [Value.cells] using hsz) h
    refine ⟨xs, h1, .ag (by have := h2.1; simpa [Value.cells] using this.symm) fun i hi hv => ?_⟩
    have := h2.2 i (by simpa using hi) (by simpa [Value.cells] using hv)
    simp only [List.getElem_map]
    exact .c (by simpa [Value.cells] using this)
  · cases hs
/-- A string that is handed over. -/
theorem arg_str {base : Nat} {spare : Nat → Bool} {held : Bool} {t : TypeId} (ht : P.underlying t = some .string) {W : World} {b0 : Nat} {v : Value} {d : DataW H} {ps : List MemPlace}
    (hk : Value.okWide P W .any b0 t v) : ∃ s, v = .string s := by
  unfold Value.okWide at hk
  rw [ht] at hk
  unfold Cell.okWide Cell.ok at hk
  rw [ht] at hk
  cases v <;> simp at hk
  exact ⟨_, rfl⟩
/-- A slice that is handed over. -/
theorem arg_slice {base : Nat} {spare : Nat → Bool} {held : Bool} {G : List TypeId} (hG : goodT P G = true) {t e : TypeId} (ht : t ∈ G) (hu : P.underlying t = some (.slice e)) {W : World} {b0 : Nat} {v : Value} {d : DataW H} {ps : List MemPlace}
    (hk : Value.okWide P W .any b0 t v) (h : DataW.Trod enc P W base spare held t v d ps) : ∃ x, Ty P t [x] ∧ SVR W (fun b => b < W.heap.size) [] [] (.c x) v := by
  obtain ⟨A, n, c, rfl⟩ : ∃ A n c, v = .slice A n c := by
    unfold Value.okWide at hk
    rw [hu] at hk
    unfold Cell.okWide Cell.ok at hk
    rw [hu] at hk
    cases v <;> simp at hk
    exact ⟨_, _, _, rfl⟩
  have hg := List.all_eq_true.1 hG t ht
  rw [hu] at hg
  simp only [Bool.and_eq_true, beq_iff_eq] at hg
  obtain ⟨fuel, h⟩ := h
  obtain ⟨xs, h1, h2⟩ := read_data hG fuel t _ d ps ht (by simp [Value.cells, hg.1.1]) h
  have hl : xs.length = 1 := by have := h2.1; simpa [Value.cells] using this
  match xs, hl, h1, h2 with
  | [x], _, h1, h2 => exact ⟨x, h1, .c (by simpa [Value.cells] using h2.2 0 (by simp) (by simp [Value.cells]))⟩
/-- An int that is handed over. -/
theorem arg_i64 {t : TypeId} (ht : P.underlying t = some (.int .i64)) {W : World} {b0 : Nat} {v : Value} (hk : Value.okWide P W .any b0 t v) : ∃ n : Int, v = .int .i64 n ∧ -9223372036854775808 ≤ n ∧ n ≤ 9223372036854775807 := by
  unfold Value.okWide at hk
  rw [ht] at hk
  unfold Cell.okWide Cell.ok at hk
  rw [ht] at hk
  cases v <;> simp [IntKind.has] at hk
  obtain ⟨rfl, h1, h2⟩ := hk
  exact ⟨_, rfl, h1, h2⟩
end
end Go.Proofs.YtbnelpgogjbgjaaGreat.Q
