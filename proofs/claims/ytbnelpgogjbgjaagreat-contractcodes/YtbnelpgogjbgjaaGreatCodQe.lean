/- Each operation does what its short form says: those that make no call. -/
import Derived.Test.YtbnelpgogjbgjaaGreatCodQd
/- Each operation does what its short form says: those that make no call. -/
set_option linter.unusedVariables false
set_option linter.unusedSimpArgs false
namespace Go.Proofs.YtbnelpgogjbgjaaGreat.Q
open Go.RowKit

section
variable {P : Program} {w : World} {I : Nat → Prop} {ρ : List (Option Nat)} {H : List AObj} {a : Act} {dst : Option Nat}

/-- What an operation leaves. -/
def Nx (dst : Option Nat) (a : Act) (w : World) (I : Nat → Prop) (ρ : List (Option Nat)) (H : List AObj) (K : SV → List AObj → Prop) : Act → World → Prop :=
  fun a' w' => ∃ u sv H' I' ρ', a' = a.put dst u ∧ Stp w I ρ H w' I' ρ' H' ∧ SVR w' I' ρ' H' sv u ∧ K sv H'
def Qx (a : Act) (w : World) (I : Nat → Prop) (ρ : List (Option Nat)) (H : List AObj) (Qp : Value → List AObj → Prop) : Exit → Act → World → Prop :=
  fun e a' w' => ∃ p H' I' ρ', a' = a ∧ e = .panic [{ v := p, recovered := false }] ∧ Stp w I ρ H w' I' ρ' H' ∧ Qp p H'

/-- A value, the world as it was. -/
theorem up_val {o : Oper} {K : SV → List AObj → Prop} {Qp : Value → List AObj → Prop} {u : Value} {sv : SV} (hr : HRel w I ρ H) {r : Result Next} (he : r = .ok (.value u) w) (hv : SVR w I ρ H sv u) (hk : K sv H) :
    o.upon P a (Nx o.dst a w I ρ H K) (Qx a w I ρ H Qp) r := by
  subst he
  exact ⟨u, sv, H, I, ρ, rfl, Stp.refl hr, hv, hk⟩
/-- A value, in a world of more. -/
theorem up_new {o : Oper} {K : SV → List AObj → Prop} {Qp : Value → List AObj → Prop} {u : Value} {sv : SV} {w' : World} {I' : Nat → Prop} {ρ' : List (Option Nat)} {H' : List AObj} {r : Result Next} (he : r = .ok (.value u) w')
    (hs : Stp w I ρ H w' I' ρ' H') (hv : SVR w' I' ρ' H' sv u) (hk : K sv H') : o.upon P a (Nx o.dst a w I ρ H K) (Qx a w I ρ H Qp) r := by
  subst he
  exact ⟨u, sv, H', I', ρ', rfl, hs, hv, hk⟩
theorem up_skip {o : Oper} {K : SV → List AObj → Prop} {Qp : Value → List AObj → Prop} {w' : World} {I' : Nat → Prop} {ρ' : List (Option Nat)} {H' : List AObj} {r : Result Next} (he : r = .ok .skip w')
    (hs : Stp w I ρ H w' I' ρ' H') (hk : K .top H') : o.upon P a (Nx o.dst a w I ρ H K) (Qx a w I ρ H Qp) r := by
  subst he
  exact ⟨undef, .top, H', I', ρ', rfl, hs, .top, hk⟩
theorem up_panic {o : Oper} {K : SV → List AObj → Prop} {Qp : Value → List AObj → Prop} {p : Value} (hr : HRel w I ρ H) {r : Result Next} (he : r = .halt (.panic p) w) (hq : Qp p H) :
    o.upon P a (Nx o.dst a w I ρ H K) (Qx a w I ρ H Qp) r := by
  subst he
  exact ⟨p, H, I, ρ, rfl, rfl, Stp.refl hr, hq⟩

/-- The run of a value's operation. -/
theorem run_v {s : Sem Value} {u : Value} {w' : World} (h : s.run P w = .ok u w') : (do pure (Next.value (← s)) : Sem Next).run P w = .ok (.value u) w' := by
  simp [Sem.run_bind, h, Result.andThen]
theorem run_u {s : Sem Unit} {w' : World} (h : s.run P w = .ok () w') : (do s; pure Next.skip : Sem Next).run P w = .ok .skip w' := by
  simp [Sem.run_bind, h, Result.andThen]

theorem run_typeInfo' {t : TypeId} {i : TypeInfo} (h : P.info? t = some i) : (typeInfo t).run P w = .ok i w := by simp [typeInfo, program, Sem.run_bind, Sem.run, h, Result.andThen]
theorem run_sizeOf' {t : TypeId} {i : TypeInfo} (h : P.info? t = some i) : (sizeOf t).run P w = .ok i.size w := by simp [sizeOf, Sem.run_bind, run_typeInfo' h, Result.andThen]
theorem run_zero' {t : TypeId} {i : TypeInfo} {z : Value} (h : P.info? t = some i) (hz : i.zero = some z) : (zeroValue t).run P w = .ok z w := by simp [zeroValue, Sem.run_bind, run_typeInfo' h, hz, Result.andThen]
theorem run_isAgg' {t : TypeId} {d : TypeDesc} (h : P.underlying t = some d) : (isAgg t).run P w = .ok (isAggD d) w := by
  simp only [isAgg, Sem.run_bind, run_underlying h, Result.andThen_ok]
  cases d <;> simp [isAggD]

/-! ### Memory that is read -/
theorem cells_at {b : Nat} {vs : Array Value} {e : TypeId} {fr : Nat × Nat} (h : w.heap[b]? = some (.cells vs e fr)) (j : Nat) (hj : j < vs.size) : w.cell? ⟨b, j, none⟩ = some vs[j] := by
  simp [World.cell?, h, hj]
theorem add_off (b o j : Nat) : (⟨b, o, none⟩ : Addr).add j = ⟨b, o + j, none⟩ := by unfold Addr.add; split <;> simp_all

theorem run_loadVar' {t : TypeId} {d : TypeDesc} {i : TypeInfo} (hd : P.underlying t = some d) (hi : P.info? t = some i) (ad : Addr) (cs : List Value) (hl : cs.length = i.size) (hn : isAggD d = false → i.size = 1)
    (hc : ∀ j v, cs[j]? = some v → w.cell? (ad.add j) = some v) : (loadVar t ad).run P w = .ok (if isAggD d then .agg cs.toArray else cs.getD 0 undef) w := by
  simp only [loadVar, Sem.run_bind, run_isAgg' hd, Result.andThen_ok]
  cases hb : isAggD d with
  | true =>
    have := run_loadCells_list (P := P) (w := w) ad cs hc
    rw [hl] at this
    simp [Sem.run_bind, run_sizeOf' hi, Result.andThen, this]
  | false =>
    have h1 := hn hb
    obtain ⟨v, rfl⟩ : ∃ v, cs = [v] := by
      match cs, hl with
      | [v], _ => exact ⟨v, rfl⟩
      | [], h => simp at h; omega
      | _ :: _ :: _, h => simp at h; omega
    have h0 := hc 0 v rfl
    have : ad.add 0 = ad := by simp [Addr.add]
    rw [this] at h0
    simp [load, Sem.run, h0]
end
end Go.Proofs.YtbnelpgogjbgjaaGreat.Q
