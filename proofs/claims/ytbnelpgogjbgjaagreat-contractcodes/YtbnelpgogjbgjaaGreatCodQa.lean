/- The relation between data by value and memory: cells, slot values, boxes and rows; what a piece of code leaves as it was. -/
import Derived.Calls
import Derived.Orders
import Derived.Below
import Derived.WalkKit
/- The relation between data by value and memory: cells, slot values, boxes and rows; what a piece of code leaves as it was. -/
set_option linter.unusedVariables false
namespace Go.Proofs.YtbnelpgogjbgjaaGreat.Q
open Go.RowKit

/-- A cell of data: a value without memory, or a slice, by its rows of cells. -/
inductive Cell where
  | sc (v : Value)
  | sl (m : Nat) (xs : List (List Cell))
  deriving Inhabited

/-- What a slot or a box's cell holds. -/
inductive SV where
  | c (x : Cell)
  | ag (xs : List SV)
  | ptr (r off : Nat)
  | dp (cs : List Cell)
  | row (r n : Nat)
  | fn (f : Nat) (first caps : List SV)
  | tup (xs : List SV)
  | ifc (t : Nat) (v : Value)
  | top
  deriving Inhabited

/-- What is known of memory: a box of cells; a row that grows (st: it lies in a block of its own, or is empty; else it may be any full slice); nothing. -/
inductive AObj where
  | box (cells : List SV)
  | row (st : Bool) (e : TypeId) (m : Nat) (xs : List (List Cell))
  | dead
  deriving Inhabited

/-- Data in memory: the blocks that it lies in are of I. -/
inductive CR (w : World) (I : Nat → Prop) : Cell → Value → Prop
  | sc (v : Value) (h1 : v.oneCell' = true) : CR w I (.sc v) v
  | sl (m : Nat) (xs : List (List Cell)) (A : Option Addr) (cap : Nat) (f : Nat → Nat → Value)
      (hcap : xs.length ≤ cap) (hmax : cap ≤ maxLen) (hm : ∀ x ∈ xs, x.length = m)
      (hA : 0 < xs.length → ∃ a, A = some a ∧ I a.block ∧ ∀ i j, i < xs.length → j < m → w.cell? (a.add (i * m + j)) = some (f i j))
      (hx : ∀ i (hi : i < xs.length) j (hj : j < (xs[i]).length), CR w I (xs[i][j]) (f i j)) :
      CR w I (.sl m xs) (.slice A xs.length cap)

theorem block_add (a : Addr) (n : Nat) : (a.add n).block = a.block := by unfold Addr.add; split <;> rfl
theorem cell?_block {w w' : World} {a : Addr} (h : w'.heap[a.block]? = w.heap[a.block]?) : w'.cell? a = w.cell? a := by
  simp only [World.cell?, h]

theorem CR.mono {w w' : World} {I I' : Nat → Prop} (hw : ∀ b, I b → w'.heap[b]? = w.heap[b]?) (hI : ∀ b, I b → I' b) {x : Cell} {v : Value} (h : CR w I x v) : CR w' I' x v := by
  induction h with
  | sc v h1 => exact .sc v h1
  | sl m xs A cap f hcap hmax hm hA hx ih =>
    refine .sl m xs A cap f hcap hmax hm (fun h0 => ?_) ih
    obtain ⟨a, e, hi, hc⟩ := hA h0
    refine ⟨a, e, hI _ hi, fun i j h1 h2 => ?_⟩
    rw [cell?_block (w := w) (by rw [block_add]; exact hw _ hi)]
    exact hc i j h1 h2

/-- A slice that is full (or nothing). -/
def FullV (w : World) (I : Nat → Prop) (m : Nat) (xs : List (List Cell)) (v : Value) : Prop :=
  ∃ A, v = .slice A xs.length xs.length ∧ CR w I (.sl m xs) v
/-- A row in a block of its own: what is known of its slice. -/
def OwnV (w : World) (b : Nat) (e : TypeId) (m n : Nat) (v : Value) : Prop :=
  ∃ (cap : Nat) (vs : Array Value), v = .slice (some ⟨b, 0, none⟩) n cap ∧ n ≤ cap ∧ cap ≤ maxLen ∧ w.heap[b]? = some (.cells vs e (0, 0)) ∧ vs.size = cap * m

def RowV (w : World) (I : Nat → Prop) (rb : Option Nat) (st : Bool) (e : TypeId) (m : Nat) (xs : List (List Cell)) (v : Value) : Prop :=
  match rb with
  | some b => OwnV w b e m xs.length v
  | none => if st then xs = [] ∧ v = .slice none 0 0 else FullV w I m xs v

inductive SVR (w : World) (I : Nat → Prop) (ρ : List (Option Nat)) (H : List AObj) : SV → Value → Prop
  | c {x v} (h : CR w I x v) : SVR w I ρ H (.c x) v
  | ag {xs : List SV} {vs : Array Value} (hl : vs.size = xs.length) (h : ∀ i (hi : i < xs.length) (hv : i < vs.size), SVR w I ρ H (xs[i]) (vs[i])) : SVR w I ρ H (.ag xs) (.agg vs)
  | ptr {r off v} (h1 : v.oneCell' = true) (hr : r < H.length) (h : ∀ (b : Nat) cells, H[r]? = some (.box cells) → ρ[r]? = some (some b) → v = .pointer (some ⟨b, off, none⟩)) : SVR w I ρ H (.ptr r off) v
  | dp {cs : List Cell} {a : Addr} (f : Nat → Value) (hi : I a.block) (h : ∀ j (hj : j < cs.length), w.cell? (a.add j) = some (f j)) (hc : ∀ j (hj : j < cs.length), CR w I (cs[j]) (f j)) : SVR w I ρ H (.dp cs) (.pointer (some a))
  | row {r n v} (h1 : v.oneCell' = true) (hr : r < H.length) (h : ∀ st e m xs rb, H[r]? = some (.row st e m xs) → ρ[r]? = some rb → n ≤ xs.length ∧ (n = xs.length → RowV w I rb st e m xs v)) : SVR w I ρ H (.row r n) v
  | fn {f : Nat} {first caps : List SV} {us vs : Array Value} (h1 : us.size = first.length) (h2 : vs.size = caps.length) (hf : ∀ i (hi : i < first.length) (hv : i < us.size), SVR w I ρ H (first[i]) (us[i])) (hc : ∀ i (hi : i < caps.length) (hv : i < vs.size), SVR w I ρ H (caps[i]) (vs[i])) : SVR w I ρ H (.fn f first caps) (.func (.func f) us vs)
  | tup {xs : List SV} {vs : Array Value} (hl : vs.size = xs.length) (h : ∀ i (hi : i < xs.length) (hv : i < vs.size), SVR w I ρ H (xs[i]) (vs[i])) : SVR w I ρ H (.tup xs) (.tuple vs)
  | ifc {t v} : SVR w I ρ H (.ifc t v) (.iface t v)
  | top {v} : SVR w I ρ H .top v

/-- An object of the abstract heap, in its block. -/
def ObjR (w : World) (I : Nat → Prop) (ρ : List (Option Nat)) (H : List AObj) : AObj → Option Nat → Prop
  | .box cells, some b => ∃ (vs : Array Value) (e : TypeId), w.heap[b]? = some (.cells vs e (0, 0)) ∧ vs.size = cells.length ∧ ∀ j (hj : j < cells.length) (hv : j < vs.size), SVR w I ρ H (cells[j]) (vs[j])
  | .box _, none => False
  | .row _ e m xs, some b => ∃ (vs : Array Value) (f : Nat → Nat → Value), w.heap[b]? = some (.cells vs e (0, 0)) ∧ xs.length * m ≤ vs.size ∧ (∀ x ∈ xs, x.length = m) ∧
      (∀ i j, i < xs.length → j < m → vs[i * m + j]? = some (f i j)) ∧ ∀ i (hi : i < xs.length) j (hj : j < (xs[i]).length), CR w I (xs[i][j]) (f i j)
  | .row _ _ _ _, none => True
  | .dead, _ => True

structure HRel (w : World) (I : Nat → Prop) (ρ : List (Option Nat)) (H : List AObj) : Prop where
  len : ρ.length = H.length
  live : ∀ b, I b → b < w.heap.size
  lt : ∀ (r b : Nat), ρ[r]? = some (some b) → b < w.heap.size
  apart : ∀ (r b : Nat), ρ[r]? = some (some b) → ¬ I b
  inj : ∀ (r r' b : Nat), ρ[r]? = some (some b) → ρ[r']? = some (some b) → r = r'
  obj : ∀ (r : Nat) o rb, H[r]? = some o → ρ[r]? = some rb → ObjR w I ρ H o rb

/-- What a piece of code leaves as it was: what is not of ρ. -/
structure Fr (w : World) (I : Nat → Prop) (ρ : List (Option Nat)) (w' : World) (I' : Nat → Prop) (ρ' : List (Option Nat)) : Prop where
  os : w'.os = w.os
  tape : w'.tape = w.tape
  output : w'.output = w.output
  size : w.heap.size ≤ w'.heap.size
  block : ∀ b, b < w.heap.size → (∀ r : Nat, ρ[r]? ≠ some (some b)) → w'.heap[b]? = w.heap[b]?
  more : ∀ b, I b → I' b
  fresh : ∀ b, I' b → I b ∨ w.heap.size ≤ b ∨ ∃ r : Nat, ρ[r]? = some (some b)
  refs : ∀ (r b : Nat), ρ'[r]? = some (some b) → (∃ r' : Nat, ρ[r']? = some (some b)) ∨ w.heap.size ≤ b

theorem Fr.refl (w : World) (I : Nat → Prop) (ρ : List (Option Nat)) : Fr w I ρ w I ρ :=
  ⟨rfl, rfl, rfl, Nat.le_refl _, fun _ _ _ => rfl, fun _ h => h, fun _ h => .inl h, fun r b h => .inl ⟨r, h⟩⟩

theorem Fr.trans {w w1 w2 : World} {I I1 I2 : Nat → Prop} {ρ ρ1 ρ2 : List (Option Nat)} (h : Fr w I ρ w1 I1 ρ1) (k : Fr w1 I1 ρ1 w2 I2 ρ2) : Fr w I ρ w2 I2 ρ2 where
  os := k.os.trans h.os
  tape := k.tape.trans h.tape
  output := k.output.trans h.output
  size := Nat.le_trans h.size k.size
  block := fun b hb hr => by
    rw [k.block b (Nat.lt_of_lt_of_le hb h.size) (fun r hr' => ?_), h.block b hb hr]
    rcases h.refs r b hr' with ⟨r', h'⟩ | h'
    · exact hr r' h'
    · omega
  more := fun b hb => k.more b (h.more b hb)
  fresh := fun b hb => by
    rcases k.fresh b hb with h1 | h1 | ⟨r, h1⟩
    · exact h.fresh b h1
    · exact .inr (.inl (Nat.le_trans h.size h1))
    · rcases h.refs r b h1 with h2 | h2
      · exact .inr (.inr h2)
      · exact .inr (.inl h2)
  refs := fun r b hr => by
    rcases k.refs r b hr with ⟨r', h1⟩ | h1
    · exact h.refs r' b h1
    · exact .inr (Nat.le_trans h.size h1)

/-- With nothing known of memory, all that was there stays. -/
theorem Fr.below {w w' : World} {I I' : Nat → Prop} {ρ' : List (Option Nat)} (h : Fr w I [] w' I' ρ') : Below w.heap.size w w' :=
  ⟨h.os, h.tape, h.output, h.size, fun b hb => h.block b hb (by simp)⟩

/-- Data of I is not written. -/
theorem Fr.keep {w w' : World} {I I' : Nat → Prop} {ρ ρ' : List (Option Nat)} {H : List AObj} (h : Fr w I ρ w' I' ρ') (hr : HRel w I ρ H) : ∀ b, I b → w'.heap[b]? = w.heap[b]? :=
  fun b hb => h.block b (hr.live b hb) fun r h' => hr.apart r b h' hb

theorem Fr.CR {w w' : World} {I I' : Nat → Prop} {ρ ρ' : List (Option Nat)} {H : List AObj} (h : Fr w I ρ w' I' ρ') (hr : HRel w I ρ H) {x : Cell} {v : Value} (hc : CR w I x v) : Q.CR w' I' x v :=
  hc.mono (h.keep hr) h.more
end Go.Proofs.YtbnelpgogjbgjaaGreat.Q
