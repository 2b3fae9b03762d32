/- Values: package value, and the document's. -/
import Derived.Test.YtbnelpgogjbgjaaGreatCodJRe
import Derived.Test.YtbnelpgogjbgjaaGreatCodQx
/- Values: package value, and the document's. -/
set_option linter.unusedVariables false
set_option linter.unusedSimpArgs false
namespace Go.Proofs.YtbnelpgogjbgjaaGreat.Q
open Go.RowKit

noncomputable def fnBits : Func := (Tryz.prog.funcs[181]?).get (by kernel_rfl)
theorem x_bits {H : List AObj} {K : SV → List AObj → Prop} {Qp : Value → List AObj → Prop} {th : Th (K, Qp)} (n : Nat) (k : go K (.c (.sc (.int .u64 n))) H) : callPT Tryz.prog 181 [vf n] H K Qp th :=
  calls_x (fn := fnBits) (e := Extern.MathFloatBits.float64bits) (by kernel_rfl) (by kernel_rfl) (by kernel_rfl) (by kernel_rfl) (by kernel_rfl) (fun w => rfl) rfl k
def nan (n : Nat) : Bool := FloatKind.f64.format.order n n != some .eq
def code (n : Nat) : Int := if nan n then 9221120237041090561 else n
theorem p_isNaN (n : Nat) : PC Tryz.prog 182 [vf n] (.ret (vb (nan n))) := by
  refine pc_of mixed F182 (by simp) ?_
  simp -dsimp (disch := omega) only [↓wi, wo, wrap64, reduceIte, Nat.reduceEqDiff, Nat.reduceAdd, Nat.reduceLT, Nat.reduceLeDiff, Nat.reduceMul, Nat.reduceSub, Int.reduceToNat, Int.reduceLT, Int.reduceLE, Int.reduceEq, Int.reduceAdd, reduceCtorEq, c182, enter]
  exact ret_p rfl
theorem p_code (n : Nat) : PC Tryz.prog 190 [vf n] (.ret (.c (.sc (.int .u64 (code n))))) := by
  refine pc_of mixed F190 (by simp) ?_
  simp -dsimp (disch := omega) only [↓wi, wo, wrap64, reduceIte, Nat.reduceEqDiff, Nat.reduceAdd, Nat.reduceLT, Nat.reduceLeDiff, Nat.reduceMul, Nat.reduceSub, Int.reduceToNat, Int.reduceLT, Int.reduceLE, Int.reduceEq, Int.reduceAdd, reduceCtorEq, c190, enter]
  refine calls_p (p_isNaN n) rfl rfl ?_
  simp -dsimp (disch := omega) only [↓wi, wo, wrap64, reduceIte, Nat.reduceEqDiff, Nat.reduceAdd, Nat.reduceLT, Nat.reduceLeDiff, Nat.reduceMul, Nat.reduceSub, Int.reduceToNat, Int.reduceLT, Int.reduceLE, Int.reduceEq, Int.reduceAdd, reduceCtorEq]
  refine fork (fun h => ?_) (fun h => ?_)
  · simp -dsimp (disch := omega) only [↓wi, wo, wrap64, reduceIte, Nat.reduceEqDiff, Nat.reduceAdd, Nat.reduceLT, Nat.reduceLeDiff, Nat.reduceMul, Nat.reduceSub, Int.reduceToNat, Int.reduceLT, Int.reduceLE, Int.reduceEq, Int.reduceAdd, reduceCtorEq]
    refine ret_p ?_
    simp only [code, h]; rfl
  · simp -dsimp (disch := omega) only [↓wi, wo, wrap64, reduceIte, Nat.reduceEqDiff, Nat.reduceAdd, Nat.reduceLT, Nat.reduceLeDiff, Nat.reduceMul, Nat.reduceSub, Int.reduceToNat, Int.reduceLT, Int.reduceLE, Int.reduceEq, Int.reduceAdd, reduceCtorEq]
    refine x_bits n ?_
    simp -dsimp (disch := omega) only [↓wi, wo, wrap64, reduceIte, Nat.reduceEqDiff, Nat.reduceAdd, Nat.reduceLT, Nat.reduceLeDiff, Nat.reduceMul, Nat.reduceSub, Int.reduceToNat, Int.reduceLT, Int.reduceLE, Int.reduceEq, Int.reduceAdd, reduceCtorEq]
    refine ret_p ?_
    simp only [code, h]; rfl
theorem p_bits (n : Nat) : PC Tryz.prog 134 [vf n] (.ret (.c (.sc (.int .u64 (code n))))) := by
  refine pc_of mixed F134 (by simp) ?_
  simp -dsimp (disch := omega) only [↓wi, wo, wrap64, reduceIte, Nat.reduceEqDiff, Nat.reduceAdd, Nat.reduceLT, Nat.reduceLeDiff, Nat.reduceMul, Nat.reduceSub, Int.reduceToNat, Int.reduceLT, Int.reduceLE, Int.reduceEq, Int.reduceAdd, reduceCtorEq, c134, enter]
  refine fork (fun h => ?_) (fun h => ?_)
  · simp -dsimp (disch := omega) only [↓wi, wo, wrap64, reduceIte, Nat.reduceEqDiff, Nat.reduceAdd, Nat.reduceLT, Nat.reduceLeDiff, Nat.reduceMul, Nat.reduceSub, Int.reduceToNat, Int.reduceLT, Int.reduceLE, Int.reduceEq, Int.reduceAdd, reduceCtorEq]
    refine ret_p ?_
    simp only [code, nan, h]; rfl
  · simp -dsimp (disch := omega) only [↓wi, wo, wrap64, reduceIte, Nat.reduceEqDiff, Nat.reduceAdd, Nat.reduceLT, Nat.reduceLeDiff, Nat.reduceMul, Nat.reduceSub, Int.reduceToNat, Int.reduceLT, Int.reduceLE, Int.reduceEq, Int.reduceAdd, reduceCtorEq]
    refine x_bits n ?_
    simp -dsimp (disch := omega) only [↓wi, wo, wrap64, reduceIte, Nat.reduceEqDiff, Nat.reduceAdd, Nat.reduceLT, Nat.reduceLeDiff, Nat.reduceMul, Nat.reduceSub, Int.reduceToNat, Int.reduceLT, Int.reduceLE, Int.reduceEq, Int.reduceAdd, reduceCtorEq]
    refine ret_p ?_
    simp only [code, nan, h]; rfl
def sameV (a b : Vl) : Bool := decide (a.kind.1 = b.kind.1) && decide (a.int.1 = b.int.1) && (a.bool == b.bool) && decide (a.text = b.text) && decide (code a.num.1 = code b.num.1)
theorem p_same (a b : Vl) : PC Tryz.prog 137 [ag (encV a), ag (encV b)] (.ret (vb (sameV a b))) := by
  refine pc_of mixed F137 (by simp) ?_
  simp -dsimp (disch := omega) only [↓wi, wo, wrap64, reduceIte, Nat.reduceEqDiff, Nat.reduceAdd, Nat.reduceLT, Nat.reduceLeDiff, Nat.reduceMul, Nat.reduceSub, Int.reduceToNat, Int.reduceLT, Int.reduceLE, Int.reduceEq, Int.reduceAdd, reduceCtorEq, c137, enter, encV]
  refine qv_p (p_code _) rfl rfl ?_
  simp -dsimp (disch := omega) only [↓wi, wo, wrap64, reduceIte, Nat.reduceEqDiff, Nat.reduceAdd, Nat.reduceLT, Nat.reduceLeDiff, Nat.reduceMul, Nat.reduceSub, Int.reduceToNat, Int.reduceLT, Int.reduceLE, Int.reduceEq, Int.reduceAdd, reduceCtorEq]
  refine calls_p (p_code _) rfl rfl ?_
  simp -dsimp (disch := omega) only [↓wi, wo, wrap64, reduceIte, Nat.reduceEqDiff, Nat.reduceAdd, Nat.reduceLT, Nat.reduceLeDiff, Nat.reduceMul, Nat.reduceSub, Int.reduceToNat, Int.reduceLT, Int.reduceLE, Int.reduceEq, Int.reduceAdd, reduceCtorEq]
  have e : (FloatKind.f64.format.order 0 0 == some Ordering.eq) = true := by decide
  repeat' first | (simp -dsimp (disch := omega) only [↓wi, wo, wrap64, reduceIte, Nat.reduceEqDiff, Nat.reduceAdd, Nat.reduceLT, Nat.reduceLeDiff, Nat.reduceMul, Nat.reduceSub, Int.reduceToNat, Int.reduceLT, Int.reduceLE, Int.reduceEq, Int.reduceAdd, reduceCtorEq]) | (refine brd_y (by first | assumption | omega) ?_) | (refine brd_no (by first | assumption | omega) ?_) | (refine forkd (fun _ => ?_) (fun _ => ?_)) | (refine brs_y (by assumption) ?_) | (refine brs_n (by assumption) ?_) | (refine fork (fun _ => ?_) (fun _ => ?_)) | (refine need (by omega) ?_) | (refine qv_need (by omega) ?_) | (refine qv_give ?_) | (refine give fun _ => ?_) | (refine retb rfl ?_) | (refine reti rfl ?_) | (refine ret_p ?_) | (refine ret_ps rfl ?_) | (refine ret_pp rfl ?_)
  all_goals grind [sameV]
def partV (v : Vl) : Vl := ⟨v.kind, if v.kind.1 = 1 then v.int else zI, if v.kind.1 = 2 then v.bool else false, if v.kind.1 = 3 then v.text else ⟨#[]⟩, if v.kind.1 = 4 then v.num else zF⟩
def partOk (v : Vl) : Bool := decide (v.kind.1 = 1 ∨ v.kind.1 = 2 ∨ v.kind.1 = 3 ∨ v.kind.1 = 4)
theorem p_part (v : Vl) : PC Tryz.prog 140 [ag (encV v)] (.ret (.tup [ag (encV (partV v)), vb (partOk v)])) := by
  refine pc_of mixed F140 (by simp) ?_
  simp -dsimp (disch := omega) only [↓wi, wo, wrap64, reduceIte, Nat.reduceEqDiff, Nat.reduceAdd, Nat.reduceLT, Nat.reduceLeDiff, Nat.reduceMul, Nat.reduceSub, Int.reduceToNat, Int.reduceLT, Int.reduceLE, Int.reduceEq, Int.reduceAdd, reduceCtorEq, c140, enter, encV]
  repeat' first | (simp -dsimp (disch := omega) only [↓wi, wo, wrap64, reduceIte, Nat.reduceEqDiff, Nat.reduceAdd, Nat.reduceLT, Nat.reduceLeDiff, Nat.reduceMul, Nat.reduceSub, Int.reduceToNat, Int.reduceLT, Int.reduceLE, Int.reduceEq, Int.reduceAdd, reduceCtorEq]) | (refine brd_y (by first | assumption | omega) ?_) | (refine brd_no (by first | assumption | omega) ?_) | (refine forkd (fun _ => ?_) (fun _ => ?_)) | (refine brs_y (by assumption) ?_) | (refine brs_n (by assumption) ?_) | (refine fork (fun _ => ?_) (fun _ => ?_)) | (refine need (by omega) ?_) | (refine qv_need (by omega) ?_) | (refine qv_give ?_) | (refine give fun _ => ?_) | (refine retb rfl ?_) | (refine reti rfl ?_) | (refine ret_p ?_) | (refine ret_ps rfl ?_) | (refine ret_pp rfl ?_)
  all_goals simp_all [partV, partOk, encV, zI, zF]
def goodV (v : Vl) : Bool := partOk v && sameV v (partV v) && decide ((v.text.size : Int) ≤ 32)
theorem p_good (v : Vl) : PC Tryz.prog 87 [ag (encV v)] (.ret (vb (goodV v))) := by
  refine pc_of mixed F87 (by simp) ?_
  simp -dsimp (disch := omega) only [↓wi, wo, wrap64, reduceIte, Nat.reduceEqDiff, Nat.reduceAdd, Nat.reduceLT, Nat.reduceLeDiff, Nat.reduceMul, Nat.reduceSub, Int.reduceToNat, Int.reduceLT, Int.reduceLE, Int.reduceEq, Int.reduceAdd, reduceCtorEq, c87, enter, encV]
  repeat' first | (simp -dsimp (disch := omega) only [↓wi, wo, wrap64, reduceIte, Nat.reduceEqDiff, Nat.reduceAdd, Nat.reduceLT, Nat.reduceLeDiff, Nat.reduceMul, Nat.reduceSub, Int.reduceToNat, Int.reduceLT, Int.reduceLE, Int.reduceEq, Int.reduceAdd, reduceCtorEq, encV]) | (refine brd_y (by first | assumption | omega) ?_) | (refine brd_no (by first | assumption | omega) ?_) | (refine forkd (fun _ => ?_) (fun _ => ?_)) | (refine brs_y (by assumption) ?_) | (refine brs_n (by assumption) ?_) | (refine fork (fun _ => ?_) (fun _ => ?_)) | (refine need (by omega) ?_) | (refine qv_need (by omega) ?_) | (refine qv_give ?_) | (refine give fun _ => ?_) | (refine retb rfl ?_) | (refine reti rfl ?_) | (refine ret_p ?_) | (refine ret_ps rfl ?_) | (refine ret_pp rfl ?_) | (refine calls_b (p_part v) rfl (fun _ => ?_) (fun _ => ?_)) | (refine calls_p (p_part v) rfl rfl ?_) | (refine qv_b (p_part v) rfl rfl (fun _ => ?_) (fun _ => ?_)) | (refine qv_q (p_part v) rfl rfl rfl ?_) | (refine calls_b (p_same v (partV v)) rfl (fun _ => ?_) (fun _ => ?_)) | (refine calls_p (p_same v (partV v)) rfl rfl ?_) | (refine qv_b (p_same v (partV v)) rfl rfl (fun _ => ?_) (fun _ => ?_)) | (refine qv_q (p_same v (partV v)) rfl rfl rfl ?_)
  all_goals grind [goodV]
end Go.Proofs.YtbnelpgogjbgjaaGreat.Q
/- Bytes that are put behind others: package wire. -/
set_option linter.unusedVariables false
set_option linter.unusedSimpArgs false
namespace Go.Proofs.YtbnelpgogjbgjaaGreat.Q
open Go.RowKit

def brow (l : List UInt8) : List (List Cell) := l.map fun b => [.sc (.int .u8 b.toNat)]
abbrev bts (l : List UInt8) : SV := .c (.sl 1 (brow l))
abbrev vu (n : Int) : SV := .c (.sc (.int .u64 n))
theorem len_brow (l : List UInt8) : (brow l).length = l.length := by simp [brow]
theorem brow_app (l k : List UInt8) : brow l ++ brow k = brow (l ++ k) := by simp [brow]
theorem brow_one (l : List UInt8) : ∀ y ∈ brow l, y.length = 1 := by
  intro y hy
  obtain ⟨b, _, rfl⟩ := List.mem_map.1 hy
  rfl
theorem brow_str (s : ByteArray) : byteRows s = brow s.data.toList := rfl
/-- A call that makes a row of bytes of its own. -/
def RB (st : Bool) (f : Nat) (args : List SV) (l : List UInt8) : Prop := Bod Tryz.prog f ∧ ACalls Tryz.prog f args [] fun o H' => o = .ret (.row 0 l.length) ∧ H' = [.row st 5 1 (brow l)]
section
variable {P : Program}
def frzOut (H : List AObj) : Out → Out
  | .ret v => .ret (frz [] H v)
  | .pan p => .pan p
/-- What a call made of its own is taken as data. -/
theorem ac_cut {f : Nat} {args : List SV} {R : Out → List AObj → Prop} (h : ACalls P f args [] R) : ACalls P f args [] fun o H' => ∃ o1 H1, R o1 H1 ∧ o = frzOut H1 o1 ∧ H' = [] := by
  intro w I ρ vs hr hv
  refine (h w I ρ vs hr hv).mono ?_
  rintro e w' ⟨o, H', I', ρ', hR, hfr, hmv, hh, hout⟩
  refine ⟨frzOut H' o, keepH [] H', cutI [] I' ρ', keepρ [] ρ', ⟨o, H', hR, rfl, rfl⟩, hfr.trans keep_Fr, keep_Mv (E := ⟨w, I, ρ, []⟩) hh (Nat.zero_le _) (Nat.le_refl _) hmv, keep_HRel hh (Nat.zero_le _), ?_⟩
  cases o with
  | ret v => cases e <;> first | exact frz_R hh (Nat.zero_le _) hout | exact hout
  | pan p => cases e <;> exact hout
end
theorem RB.pc {st : Bool} {f : Nat} {args : List SV} {l : List UInt8} (h : RB st f args l) : PC Tryz.prog f args (.ret (bts l)) := by
  unfold PC
  refine ⟨h.1, (ac_cut h.2).mono ?_⟩
  rintro o H' ⟨o1, H1, ⟨rfl, rfl⟩, rfl, rfl⟩
  refine ⟨?_, rfl⟩
  simp [frzOut, frz, len_brow]
theorem calls_rb {st : Bool} {f : Nat} {args : List SV} {l : List UInt8} {H : List AObj} {K : SV → List AObj → Prop} {Qp : Value → List AObj → Prop} {th : Th (K, Qp)} (h : RB st f args l) (hd : SV.data.dataAll args = true) (k : go K (.row H.length l.length) (H ++ [.row st 5 1 (brow l)])) : callPT Tryz.prog f args H K Qp th := by
  have key : ∀ (μ : Nat → Nat) (xs : List SV), SV.data.dataAll xs = true → xs = ren.renL μ xs := fun μ xs hx => (renL_data hx).symm
  refine calls_s [] h.1 h.2 (by simp) (by simp) rfl (key _ _ hd) ?_ ?_
  · rintro v H0' ⟨h1, rfl⟩
    obtain rfl := Out.ret.inj h1
    have e : ren (mu [] H.length) (.row 0 l.length) = .row H.length l.length := by simp [ren, mu]
    rw [e]
    exact k
  · rintro p H0' ⟨h1, _⟩; cases h1
theorem SVR.nil {w : World} {I : Nat → Prop} {ρ : List (Option Nat)} {H : List AObj} (m : Nat) {u : Value} (h : SVR w I ρ H (.c (.sc (.slice none 0 0))) u) : SVR w I ρ H (.c (.sl m [])) u := by
  rw [h.sc_inv.1]; exact .c (CR.nil m)
theorem ret_nl {res : List RV} {x : List (Nat × SV)} {H : List AObj} {o : Out} (m : Nat) (hv : resS ⟨0, x, H⟩ res = some (.c (.sc (.slice none 0 0)))) (h : Out.ret (.c (.sl m [])) = o) : RetQ res (fun o' H' => o' = o ∧ H' = []) .ret ⟨0, x, H⟩ :=
  ⟨_, hv, .c (.sl m []), [], fun w I ρ u E hk mv hr hu => ⟨cutI [] I ρ, keepρ [] ρ, keep_Fr, keep_Mv hr (Nat.zero_le _) (by rw [hk]; exact Nat.zero_le _) mv, keep_HRel hr (Nat.zero_le _), (frz_R hr (Nat.zero_le _) hu).nil m⟩, h, rfl⟩
/-- A call with nothing in the place of an empty slice. -/
theorem PC.nil {P : Program} {f : Nat} {m : Nat} {args : List SV} {o : Out} (h : PC P f (.c (.sl m []) :: args) o) : PC P f (.c (.sc (.slice none 0 0)) :: args) o := by
  unfold PC at h ⊢
  refine ⟨h.1, fun w I ρ vs hr hv => h.2 w I ρ vs hr ?_⟩
  cases hv with
  | tup hl hvs =>
  refine .tup hl fun i hi hv => ?_
  cases i with
  | zero => exact (hvs 0 (by simp) hv).nil m
  | succ i => exact hvs (i + 1) hi hv
end Go.Proofs.YtbnelpgogjbgjaaGreat.Q
/- Numbers as bytes: the program's, the document's. -/
set_option linter.unusedVariables false
set_option linter.unusedSimpArgs false
namespace Go.Proofs.YtbnelpgogjbgjaaGreat.Q
open Go.RowKit

/-- So many bytes of a number, the highest first. -/
def be (n : Int) : Nat → List UInt8
  | 0 => []
  | k + 1 => UInt8.ofNat ((n / 2 ^ (8 * k)) % 256).toNat :: be n k
theorem len_be (n : Int) (k : Nat) : (be n k).length = k := by induction k <;> simp_all [be]
theorem byte_wrap {n : Int} (h0 : 0 ≤ n) {k : Nat} (hk : k < 8) : IntKind.wrap .u8 (n.fdiv (2 ^ min (8 * (k : Int)).toNat 64)) = ((UInt8.ofNat ((n / 2 ^ (8 * k)) % 256).toNat).toNat : Int) := by
  have e : min (8 * (k : Int)).toNat 64 = 8 * k := by omega
  rw [e]
  have hp : (0 : Int) ≤ 2 ^ (8 * k) := Int.pow_nonneg (by omega)
  rw [Int.fdiv_eq_ediv_of_nonneg _ hp]
  generalize n / 2 ^ (8 * k) = m
  simp only [IntKind.wrap, IntKind.bits, IntKind.signed, UInt8.toNat_ofNat']
  simp
  omega
theorem take_brow (l : List UInt8) : List.take l.length (brow l) = brow l := take_all (by rw [len_brow]; exact Nat.le_refl _)
theorem h_clip (l : List UInt8) : RB false 180 [bts l] l := by
  refine ⟨B180, ac_of mixed F180 (by simp) ?_⟩
  simp -dsimp (disch := omega) only [↓wi, wo, wrap64, reduceIte, Nat.reduceEqDiff, Nat.reduceAdd, Nat.reduceLT, Nat.reduceLeDiff, Nat.reduceMul, Nat.reduceSub, Int.reduceToNat, Int.reduceLT, Int.reduceLE, Int.reduceEq, Int.reduceAdd, reduceCtorEq, c180, enter, len_brow]
  refine give fun _ => ?_
  simp -dsimp (disch := omega) only [↓wi, wo, wrap64, reduceIte, Nat.reduceEqDiff, Nat.reduceAdd, Nat.reduceLT, Nat.reduceLeDiff, Nat.reduceMul, Nat.reduceSub, Int.reduceToNat, Int.reduceLT, Int.reduceLE, Int.reduceEq, Int.reduceAdd, reduceCtorEq, len_brow]
  refine give fun _ => ?_
  simp -dsimp (disch := omega) only [↓wi, wo, wrap64, reduceIte, Nat.reduceEqDiff, Nat.reduceAdd, Nat.reduceLT, Nat.reduceLeDiff, Nat.reduceMul, Nat.reduceSub, Int.reduceToNat, Int.reduceLT, Int.reduceLE, Int.reduceEq, Int.reduceAdd, reduceCtorEq, len_brow]
  refine need (by simp) ?_
  simp -dsimp (disch := omega) only [↓wi, wo, wrap64, reduceIte, Nat.reduceEqDiff, Nat.reduceAdd, Nat.reduceLT, Nat.reduceLeDiff, Nat.reduceMul, Nat.reduceSub, Int.reduceToNat, Int.reduceLT, Int.reduceLE, Int.reduceEq, Int.reduceAdd, reduceCtorEq, len_brow, Int.toNat_natCast, Int.toNat_zero, take_brow]
  exact ret_i [true] rfl (by simp) (by simp) ⟨rfl, rfl⟩
theorem p_clone (l : List UInt8) (hl : l.length ≤ 140737488355328) : PC Tryz.prog 39 [bts l] (.ret (bts l)) := by
  refine pc_of mixed F39 (by simp) ?_
  simp -dsimp (disch := omega) only [↓wi, wo, wrap64, reduceIte, Nat.reduceEqDiff, Nat.reduceAdd, Nat.reduceLT, Nat.reduceLeDiff, Nat.reduceMul, Nat.reduceSub, Int.reduceToNat, Int.reduceLT, Int.reduceLE, Int.reduceEq, Int.reduceAdd, reduceCtorEq, c39, enter, len_brow]
  refine nil_i (fun h => ?_) ?_
  · simp -dsimp (disch := omega) only [↓wi, wo, wrap64, reduceIte, Nat.reduceEqDiff, Nat.reduceAdd, Nat.reduceLT, Nat.reduceLeDiff, Nat.reduceMul, Nat.reduceSub, Int.reduceToNat, Int.reduceLT, Int.reduceLE, Int.reduceEq, Int.reduceAdd, reduceCtorEq]
    refine ret_nl 1 rfl ?_
    cases l <;> simp_all [brow]
  · simp -dsimp (disch := omega) only [↓wi, wo, wrap64, reduceIte, Nat.reduceEqDiff, Nat.reduceAdd, Nat.reduceLT, Nat.reduceLeDiff, Nat.reduceMul, Nat.reduceSub, Int.reduceToNat, Int.reduceLT, Int.reduceLE, Int.reduceEq, Int.reduceAdd, reduceCtorEq]
    refine need ⟨brow_one l, by rw [len_brow]; omega⟩ ?_
    simp -dsimp (disch := omega) only [↓wi, wo, wrap64, reduceIte, Nat.reduceEqDiff, Nat.reduceAdd, Nat.reduceLT, Nat.reduceLeDiff, Nat.reduceMul, Nat.reduceSub, Int.reduceToNat, Int.reduceLT, Int.reduceLE, Int.reduceEq, Int.reduceAdd, reduceCtorEq, List.nil_append]
    refine ret_p ?_
    simp [lk, frz, len_brow]
set_option maxHeartbeats 1000000 in
theorem h_spell (l : List UInt8) (n : Int) (m : Nat) (h0 : 0 ≤ n) (hm : m ≤ 8) (hl : l.length ≤ 1099511627776) : RB false 179 [bts l, vu n, vi m] (l ++ be n m) := by
  refine ⟨B179, ac_of mixed F179 (by simp) ?_⟩
  simp -dsimp (disch := omega) only [↓wi, wo, wrap64, reduceIte, Nat.reduceEqDiff, Nat.reduceAdd, Nat.reduceLT, Nat.reduceLeDiff, Nat.reduceMul, Nat.reduceSub, Int.reduceToNat, Int.reduceLT, Int.reduceLE, Int.reduceEq, Int.reduceAdd, reduceCtorEq, c179, enter]
  refine calls_rb (h_clip l) rfl ?_
  simp -dsimp (disch := omega) only [↓wi, wo, wrap64, reduceIte, Nat.reduceEqDiff, Nat.reduceAdd, Nat.reduceLT, Nat.reduceLeDiff, Nat.reduceMul, Nat.reduceSub, Int.reduceToNat, Int.reduceLT, Int.reduceLE, Int.reduceEq, Int.reduceAdd, reduceCtorEq]
  refine AW_wk (Wk_live [0, 1, 2]) (AW_inv mixed (n := m) (fun k st => ∃ (p : List UInt8), be n m = p ++ be n k ∧ p.length + k = m ∧ st = ⟨0, [(0, .row 0 (l ++ p).length), (1, vu n), (2, vi k)], [.row false 5 1 (brow (l ++ p))]⟩) ⟨[], rfl, by simp, by simp; rfl⟩ ?_)
  rintro k _ ⟨p, hp, hk, rfl⟩
  simp -dsimp (disch := omega) only [↓wi, wo, wrap64, reduceIte, Nat.reduceEqDiff, Nat.reduceAdd, Nat.reduceLT, Nat.reduceLeDiff, Nat.reduceMul, Nat.reduceSub, Int.reduceToNat, Int.reduceLT, Int.reduceLE, Int.reduceEq, Int.reduceAdd, reduceCtorEq]
  refine forkd (fun h => ?_) (fun h => ?_)
  · obtain ⟨k, rfl⟩ : ∃ j, k = j + 1 := ⟨k - 1, by omega⟩
    have e1 : ((k + 1 : Nat) : Int) - 1 = k := by omega
    have e3 : ¬ (8 * (k : Int) < 0) := by omega
    have e4 : IntKind.bits .u64 = 64 := rfl
    simp -dsimp (disch := omega) only [↓wi, wo, wrap64, reduceIte, Nat.reduceEqDiff, Nat.reduceAdd, Nat.reduceLT, Nat.reduceLeDiff, Nat.reduceMul, Nat.reduceSub, Int.reduceToNat, Int.reduceLT, Int.reduceLE, Int.reduceEq, Int.reduceAdd, reduceCtorEq, e1, if_neg e3, e4, byte_wrap h0 (show k < 8 by omega)]
    refine need ⟨by rw [len_brow, List.length_append], by simp, by simp only [len_brow, List.length_append]; omega⟩ ?_
    simp -dsimp (disch := omega) only [↓wi, wo, wrap64, reduceIte, Nat.reduceEqDiff, Nat.reduceAdd, Nat.reduceLT, Nat.reduceLeDiff, Nat.reduceMul, Nat.reduceSub, Int.reduceToNat, Int.reduceLT, Int.reduceLE, Int.reduceEq, Int.reduceAdd, reduceCtorEq, len_brow]
    refine ⟨k, _, by omega, Wk_live [0, 1, 2], p ++ [UInt8.ofNat ((n / 2 ^ (8 * k)) % 256).toNat], by rw [hp, be, List.append_assoc]; rfl, by simp; omega, ?_⟩
    simp [pickT, lk, brow, Nat.add_assoc]
  · simp -dsimp (disch := omega) only [↓wi, wo, wrap64, reduceIte, Nat.reduceEqDiff, Nat.reduceAdd, Nat.reduceLT, Nat.reduceLeDiff, Nat.reduceMul, Nat.reduceSub, Int.reduceToNat, Int.reduceLT, Int.reduceLE, Int.reduceEq, Int.reduceAdd, reduceCtorEq]
    obtain rfl : k = 0 := by omega
    refine ret_i [true] rfl (by simp) (by simp) ?_
    rw [hp, be, List.append_nil]
    exact ⟨rfl, rfl⟩
theorem u64_range (n : Int) : 0 ≤ IntKind.wrap .u64 n ∧ IntKind.wrap .u64 n < 18446744073709551616 := by
  simp [IntKind.wrap, IntKind.bits, IntKind.signed]; omega
def pInt (n : Int) : List UInt8 := be (IntKind.wrap .u64 n) 8
def pCount (n : Int) : List UInt8 := be (IntKind.wrap .u64 (min (max n 0) 4294967295)) 4
def pBytes (s : List UInt8) : List UInt8 := pCount s.length ++ s
def pBool (b : Bool) : List UInt8 := [if b then 1 else 0]
def pNum (x : Nat) : List UInt8 := be (code x) 8
theorem h_PutInt (l : List UInt8) (n : Int) (hl : l.length ≤ 1099511627776) : RB false 110 [bts l, vi n] (l ++ pInt n) := by
  refine ⟨B110, ac_of mixed F110 (by simp) ?_⟩
  simp -dsimp (disch := omega) only [↓wi, wo, wrap64, reduceIte, Nat.reduceEqDiff, Nat.reduceAdd, Nat.reduceLT, Nat.reduceLeDiff, Nat.reduceMul, Nat.reduceSub, Int.reduceToNat, Int.reduceLT, Int.reduceLE, Int.reduceEq, Int.reduceAdd, reduceCtorEq, c110, enter]
  refine calls_rb (h_spell l _ 8 (u64_range n).1 (by omega) hl) rfl ?_
  simp -dsimp (disch := omega) only [↓wi, wo, wrap64, reduceIte, Nat.reduceEqDiff, Nat.reduceAdd, Nat.reduceLT, Nat.reduceLeDiff, Nat.reduceMul, Nat.reduceSub, Int.reduceToNat, Int.reduceLT, Int.reduceLE, Int.reduceEq, Int.reduceAdd, reduceCtorEq]
  exact ret_i [true] rfl (by simp) (by simp) ⟨rfl, rfl⟩
theorem h_PutCount (l : List UInt8) (n : Int) (hl : l.length ≤ 1099511627776) : RB false 108 [bts l, vi n] (l ++ pCount n) := by
  refine ⟨B108, ac_of mixed F108 (by simp) ?_⟩
  simp -dsimp (disch := omega) only [↓wi, wo, wrap64, reduceIte, Nat.reduceEqDiff, Nat.reduceAdd, Nat.reduceLT, Nat.reduceLeDiff, Nat.reduceMul, Nat.reduceSub, Int.reduceToNat, Int.reduceLT, Int.reduceLE, Int.reduceEq, Int.reduceAdd, reduceCtorEq, c108, enter]
  refine calls_rb (h_spell l _ 4 (u64_range _).1 (by omega) hl) rfl ?_
  simp -dsimp (disch := omega) only [↓wi, wo, wrap64, reduceIte, Nat.reduceEqDiff, Nat.reduceAdd, Nat.reduceLT, Nat.reduceLeDiff, Nat.reduceMul, Nat.reduceSub, Int.reduceToNat, Int.reduceLT, Int.reduceLE, Int.reduceEq, Int.reduceAdd, reduceCtorEq]
  exact ret_i [true] rfl (by simp) (by simp) ⟨rfl, rfl⟩
theorem h_PutBytes (l s : List UInt8) (hl : l.length + s.length ≤ 1099511627776) : RB false 109 [bts l, bts s] (l ++ pBytes s) := by
  refine ⟨B109, ac_of mixed F109 (by simp) ?_⟩
  simp -dsimp (disch := omega) only [↓wi, wo, wrap64, reduceIte, Nat.reduceEqDiff, Nat.reduceAdd, Nat.reduceLT, Nat.reduceLeDiff, Nat.reduceMul, Nat.reduceSub, Int.reduceToNat, Int.reduceLT, Int.reduceLE, Int.reduceEq, Int.reduceAdd, reduceCtorEq, c109, enter, len_brow]
  refine give fun _ => ?_
  simp -dsimp (disch := omega) only [↓wi, wo, wrap64, reduceIte, Nat.reduceEqDiff, Nat.reduceAdd, Nat.reduceLT, Nat.reduceLeDiff, Nat.reduceMul, Nat.reduceSub, Int.reduceToNat, Int.reduceLT, Int.reduceLE, Int.reduceEq, Int.reduceAdd, reduceCtorEq, len_brow]
  refine calls_rb (h_PutCount l s.length (by omega)) rfl ?_
  simp -dsimp (disch := omega) only [↓wi, wo, wrap64, reduceIte, Nat.reduceEqDiff, Nat.reduceAdd, Nat.reduceLT, Nat.reduceLeDiff, Nat.reduceMul, Nat.reduceSub, Int.reduceToNat, Int.reduceLT, Int.reduceLE, Int.reduceEq, Int.reduceAdd, reduceCtorEq, len_brow]
  have hc : (pCount s.length).length = 4 := len_be _ _
  refine need ⟨brow_one s, by omega⟩ ?_
  simp -dsimp (disch := omega) only [↓wi, wo, wrap64, reduceIte, Nat.reduceEqDiff, Nat.reduceAdd, Nat.reduceLT, Nat.reduceLeDiff, Nat.reduceMul, Nat.reduceSub, Int.reduceToNat, Int.reduceLT, Int.reduceLE, Int.reduceEq, Int.reduceAdd, reduceCtorEq, brow_app, len_brow, List.append_assoc]
  refine ret_i [true] rfl (by simp) (by simp) ?_
  simp [frz, pBytes, lk, Nat.add_assoc]
  rfl
theorem h_PutBool (l : List UInt8) (b : Bool) (hl : l.length ≤ 1099511627776) : RB false 111 [bts l, vb b] (l ++ pBool b) := by
  refine ⟨B111, ac_of mixed F111 (by simp) ?_⟩
  simp -dsimp (disch := omega) only [↓wi, wo, wrap64, reduceIte, Nat.reduceEqDiff, Nat.reduceAdd, Nat.reduceLT, Nat.reduceLeDiff, Nat.reduceMul, Nat.reduceSub, Int.reduceToNat, Int.reduceLT, Int.reduceLE, Int.reduceEq, Int.reduceAdd, reduceCtorEq, c111, enter]
  refine fork (fun h => ?_) (fun h => ?_)
  all_goals
    simp -dsimp (disch := omega) only [↓wi, wo, wrap64, reduceIte, Nat.reduceEqDiff, Nat.reduceAdd, Nat.reduceLT, Nat.reduceLeDiff, Nat.reduceMul, Nat.reduceSub, Int.reduceToNat, Int.reduceLT, Int.reduceLE, Int.reduceEq, Int.reduceAdd, reduceCtorEq]
    refine calls_rb (h_clip l) rfl ?_
    simp -dsimp (disch := omega) only [↓wi, wo, wrap64, reduceIte, Nat.reduceEqDiff, Nat.reduceAdd, Nat.reduceLT, Nat.reduceLeDiff, Nat.reduceMul, Nat.reduceSub, Int.reduceToNat, Int.reduceLT, Int.reduceLE, Int.reduceEq, Int.reduceAdd, reduceCtorEq]
    refine need ⟨by rw [len_brow], by simp, by rw [len_brow]; omega⟩ ?_
    simp -dsimp (disch := omega) only [↓wi, wo, wrap64, reduceIte, Nat.reduceEqDiff, Nat.reduceAdd, Nat.reduceLT, Nat.reduceLeDiff, Nat.reduceMul, Nat.reduceSub, Int.reduceToNat, Int.reduceLT, Int.reduceLE, Int.reduceEq, Int.reduceAdd, reduceCtorEq]
    refine ret_i [true] rfl (by simp) (by simp) ?_
    simp [frz, pBool, lk, h, brow]
    try rfl
theorem h_PutNum (l : List UInt8) (x : Flt) (hl : l.length ≤ 1099511627776) : RB false 112 [bts l, vf x.1] (l ++ pNum x.1) := by
  refine ⟨B112, ac_of mixed F112 (by simp) ?_⟩
  simp -dsimp (disch := omega) only [↓wi, wo, wrap64, reduceIte, Nat.reduceEqDiff, Nat.reduceAdd, Nat.reduceLT, Nat.reduceLeDiff, Nat.reduceMul, Nat.reduceSub, Int.reduceToNat, Int.reduceLT, Int.reduceLE, Int.reduceEq, Int.reduceAdd, reduceCtorEq, c112, enter]
  refine x_bits x.1 ?_
  simp -dsimp (disch := omega) only [↓wi, wo, wrap64, reduceIte, Nat.reduceEqDiff, Nat.reduceAdd, Nat.reduceLT, Nat.reduceLeDiff, Nat.reduceMul, Nat.reduceSub, Int.reduceToNat, Int.reduceLT, Int.reduceLE, Int.reduceEq, Int.reduceAdd, reduceCtorEq]
  refine calls_p (p_isNaN x.1) rfl rfl ?_
  simp -dsimp (disch := omega) only [↓wi, wo, wrap64, reduceIte, Nat.reduceEqDiff, Nat.reduceAdd, Nat.reduceLT, Nat.reduceLeDiff, Nat.reduceMul, Nat.reduceSub, Int.reduceToNat, Int.reduceLT, Int.reduceLE, Int.reduceEq, Int.reduceAdd, reduceCtorEq]
  refine fork (fun h => ?_) (fun h => ?_)
  · simp -dsimp (disch := omega) only [↓wi, wo, wrap64, reduceIte, Nat.reduceEqDiff, Nat.reduceAdd, Nat.reduceLT, Nat.reduceLeDiff, Nat.reduceMul, Nat.reduceSub, Int.reduceToNat, Int.reduceLT, Int.reduceLE, Int.reduceEq, Int.reduceAdd, reduceCtorEq]
    refine calls_rb (h_spell l _ 8 (by omega) (by omega) hl) rfl ?_
    simp -dsimp (disch := omega) only [↓wi, wo, wrap64, reduceIte, Nat.reduceEqDiff, Nat.reduceAdd, Nat.reduceLT, Nat.reduceLeDiff, Nat.reduceMul, Nat.reduceSub, Int.reduceToNat, Int.reduceLT, Int.reduceLE, Int.reduceEq, Int.reduceAdd, reduceCtorEq]
    refine ret_i [true] rfl (by simp) (by simp) ?_
    simp only [pNum, code, h]; exact ⟨rfl, rfl⟩
  · simp -dsimp (disch := omega) only [↓wi, wo, wrap64, reduceIte, Nat.reduceEqDiff, Nat.reduceAdd, Nat.reduceLT, Nat.reduceLeDiff, Nat.reduceMul, Nat.reduceSub, Int.reduceToNat, Int.reduceLT, Int.reduceLE, Int.reduceEq, Int.reduceAdd, reduceCtorEq]
    refine calls_rb (h_spell l _ 8 (by omega) (by omega) hl) rfl ?_
    simp -dsimp (disch := omega) only [↓wi, wo, wrap64, reduceIte, Nat.reduceEqDiff, Nat.reduceAdd, Nat.reduceLT, Nat.reduceLeDiff, Nat.reduceMul, Nat.reduceSub, Int.reduceToNat, Int.reduceLT, Int.reduceLE, Int.reduceEq, Int.reduceAdd, reduceCtorEq]
    refine ret_i [true] rfl (by simp) (by simp) ?_
    simp only [pNum, code, h]; exact ⟨rfl, rfl⟩
/-! ### The document's -/
set_option maxHeartbeats 1000000 in
theorem h_bits (l : List UInt8) (n : Int) (m : Nat) (h0 : 0 ≤ n) (hm : m ≤ 8) (hl : l.length ≤ 1099511627776) : RB true 114 [bts l, vu n, vi m] (l ++ be n m) := by
  refine ⟨B114, ac_of mixed F114 (by simp) ?_⟩
  simp -dsimp (disch := omega) only [↓wi, wo, wrap64, reduceIte, Nat.reduceEqDiff, Nat.reduceAdd, Nat.reduceLT, Nat.reduceLeDiff, Nat.reduceMul, Nat.reduceSub, Int.reduceToNat, Int.reduceLT, Int.reduceLE, Int.reduceEq, Int.reduceAdd, reduceCtorEq, c114, enter]
  refine need ⟨brow_one l, by rw [len_brow]; omega⟩ ?_
  simp -dsimp (disch := omega) only [↓wi, wo, wrap64, reduceIte, Nat.reduceEqDiff, Nat.reduceAdd, Nat.reduceLT, Nat.reduceLeDiff, Nat.reduceMul, Nat.reduceSub, Int.reduceToNat, Int.reduceLT, Int.reduceLE, Int.reduceEq, Int.reduceAdd, reduceCtorEq, List.nil_append, len_brow, Nat.zero_add]
  refine AW_wk (Wk_live [7, 1, 8]) (AW_inv mixed (n := m) (fun k st => ∃ (p : List UInt8), be n m = p ++ be n k ∧ p.length + k = m ∧ st = ⟨0, [(7, .row 0 (l ++ p).length), (1, vu n), (8, vi ((k : Int) - 1))], [.row true 5 1 (brow (l ++ p))]⟩) ⟨[], rfl, by simp, by simp; rfl⟩ ?_)
  rintro k _ ⟨p, hp, hk, rfl⟩
  simp -dsimp (disch := omega) only [↓wi, wo, wrap64, reduceIte, Nat.reduceEqDiff, Nat.reduceAdd, Nat.reduceLT, Nat.reduceLeDiff, Nat.reduceMul, Nat.reduceSub, Int.reduceToNat, Int.reduceLT, Int.reduceLE, Int.reduceEq, Int.reduceAdd, reduceCtorEq]
  refine forkd (fun h => ?_) (fun h => ?_)
  · obtain ⟨k, rfl⟩ : ∃ j, k = j + 1 := ⟨k - 1, by omega⟩
    have e1 : ((k + 1 : Nat) : Int) - 1 = k := by omega
    have e3 : ¬ (8 * (k : Int) < 0) := by omega
    have e4 : IntKind.bits .u64 = 64 := rfl
    simp -dsimp (disch := omega) only [↓wi, wo, wrap64, reduceIte, Nat.reduceEqDiff, Nat.reduceAdd, Nat.reduceLT, Nat.reduceLeDiff, Nat.reduceMul, Nat.reduceSub, Int.reduceToNat, Int.reduceLT, Int.reduceLE, Int.reduceEq, Int.reduceAdd, reduceCtorEq, e1, if_neg e3, e4, byte_wrap h0 (show k < 8 by omega)]
    refine need ⟨by rw [len_brow, List.length_append], by simp, by simp only [len_brow, List.length_append]; omega⟩ ?_
    simp -dsimp (disch := omega) only [↓wi, wo, wrap64, reduceIte, Nat.reduceEqDiff, Nat.reduceAdd, Nat.reduceLT, Nat.reduceLeDiff, Nat.reduceMul, Nat.reduceSub, Int.reduceToNat, Int.reduceLT, Int.reduceLE, Int.reduceEq, Int.reduceAdd, reduceCtorEq, len_brow]
    refine ⟨k, _, by omega, Wk_live [7, 1, 8], p ++ [UInt8.ofNat ((n / 2 ^ (8 * k)) % 256).toNat], by rw [hp, be, List.append_assoc]; rfl, by simp; omega, ?_⟩
    simp [pickT, lk, brow, Nat.add_assoc]
  · simp -dsimp (disch := omega) only [↓wi, wo, wrap64, reduceIte, Nat.reduceEqDiff, Nat.reduceAdd, Nat.reduceLT, Nat.reduceLeDiff, Nat.reduceMul, Nat.reduceSub, Int.reduceToNat, Int.reduceLT, Int.reduceLE, Int.reduceEq, Int.reduceAdd, reduceCtorEq]
    obtain rfl : k = 0 := by omega
    refine ret_i [true] rfl (by simp) (by simp) ?_
    rw [hp, be, List.append_nil]
    exact ⟨rfl, rfl⟩
theorem h_rInt (l : List UInt8) (n : Int) (hl : l.length ≤ 1099511627776) : RB true 56 [bts l, vi n] (l ++ pInt n) := by
  refine ⟨B56, ac_of mixed F56 (by simp) ?_⟩
  simp -dsimp (disch := omega) only [↓wi, wo, wrap64, reduceIte, Nat.reduceEqDiff, Nat.reduceAdd, Nat.reduceLT, Nat.reduceLeDiff, Nat.reduceMul, Nat.reduceSub, Int.reduceToNat, Int.reduceLT, Int.reduceLE, Int.reduceEq, Int.reduceAdd, reduceCtorEq, c56, enter]
  refine calls_rb (h_bits l _ 8 (u64_range n).1 (by omega) hl) rfl ?_
  simp -dsimp (disch := omega) only [↓wi, wo, wrap64, reduceIte, Nat.reduceEqDiff, Nat.reduceAdd, Nat.reduceLT, Nat.reduceLeDiff, Nat.reduceMul, Nat.reduceSub, Int.reduceToNat, Int.reduceLT, Int.reduceLE, Int.reduceEq, Int.reduceAdd, reduceCtorEq]
  exact ret_i [true] rfl (by simp) (by simp) ⟨rfl, rfl⟩
theorem h_rCount (l : List UInt8) (n : Int) (hl : l.length ≤ 1099511627776) : RB true 54 [bts l, vi n] (l ++ pCount n) := by
  have e : max 0 (min n 4294967295) = min (max n 0) 4294967295 := by omega
  refine ⟨B54, ac_of mixed F54 (by simp) ?_⟩
  simp -dsimp (disch := omega) only [↓wi, wo, wrap64, reduceIte, Nat.reduceEqDiff, Nat.reduceAdd, Nat.reduceLT, Nat.reduceLeDiff, Nat.reduceMul, Nat.reduceSub, Int.reduceToNat, Int.reduceLT, Int.reduceLE, Int.reduceEq, Int.reduceAdd, reduceCtorEq, c54, enter]
  rw [e]
  refine calls_rb (h_bits l _ 4 (u64_range _).1 (by omega) hl) rfl ?_
  simp -dsimp (disch := omega) only [↓wi, wo, wrap64, reduceIte, Nat.reduceEqDiff, Nat.reduceAdd, Nat.reduceLT, Nat.reduceLeDiff, Nat.reduceMul, Nat.reduceSub, Int.reduceToNat, Int.reduceLT, Int.reduceLE, Int.reduceEq, Int.reduceAdd, reduceCtorEq]
  exact ret_i [true] rfl (by simp) (by simp) ⟨rfl, rfl⟩
theorem h_rBytes (l s : List UInt8) (hl : l.length + s.length ≤ 1099511627776) : RB true 115 [bts l, bts s] (l ++ pBytes s) := by
  refine ⟨B115, ac_of mixed F115 (by simp) ?_⟩
  simp -dsimp (disch := omega) only [↓wi, wo, wrap64, reduceIte, Nat.reduceEqDiff, Nat.reduceAdd, Nat.reduceLT, Nat.reduceLeDiff, Nat.reduceMul, Nat.reduceSub, Int.reduceToNat, Int.reduceLT, Int.reduceLE, Int.reduceEq, Int.reduceAdd, reduceCtorEq, c115, enter, len_brow]
  refine give fun _ => ?_
  simp -dsimp (disch := omega) only [↓wi, wo, wrap64, reduceIte, Nat.reduceEqDiff, Nat.reduceAdd, Nat.reduceLT, Nat.reduceLeDiff, Nat.reduceMul, Nat.reduceSub, Int.reduceToNat, Int.reduceLT, Int.reduceLE, Int.reduceEq, Int.reduceAdd, reduceCtorEq, len_brow]
  refine calls_rb (h_rCount l s.length (by omega)) rfl ?_
  simp -dsimp (disch := omega) only [↓wi, wo, wrap64, reduceIte, Nat.reduceEqDiff, Nat.reduceAdd, Nat.reduceLT, Nat.reduceLeDiff, Nat.reduceMul, Nat.reduceSub, Int.reduceToNat, Int.reduceLT, Int.reduceLE, Int.reduceEq, Int.reduceAdd, reduceCtorEq, len_brow]
  have hc : (pCount s.length).length = 4 := len_be _ _
  refine need ⟨brow_one s, by omega⟩ ?_
  simp -dsimp (disch := omega) only [↓wi, wo, wrap64, reduceIte, Nat.reduceEqDiff, Nat.reduceAdd, Nat.reduceLT, Nat.reduceLeDiff, Nat.reduceMul, Nat.reduceSub, Int.reduceToNat, Int.reduceLT, Int.reduceLE, Int.reduceEq, Int.reduceAdd, reduceCtorEq, brow_app, len_brow, List.append_assoc]
  refine ret_i [true] rfl (by simp) (by simp) ?_
  simp [frz, pBytes, lk, Nat.add_assoc]
  rfl
theorem h_rBool (l : List UInt8) (b : Bool) (hl : l.length ≤ 1099511627776) : RB true 116 [bts l, vb b] (l ++ pBool b) := by
  refine ⟨B116, ac_of mixed F116 (by simp) ?_⟩
  simp -dsimp (disch := omega) only [↓wi, wo, wrap64, reduceIte, Nat.reduceEqDiff, Nat.reduceAdd, Nat.reduceLT, Nat.reduceLeDiff, Nat.reduceMul, Nat.reduceSub, Int.reduceToNat, Int.reduceLT, Int.reduceLE, Int.reduceEq, Int.reduceAdd, reduceCtorEq, c116, enter]
  refine fork (fun h => ?_) (fun h => ?_)
  · simp -dsimp (disch := omega) only [↓wi, wo, wrap64, reduceIte, Nat.reduceEqDiff, Nat.reduceAdd, Nat.reduceLT, Nat.reduceLeDiff, Nat.reduceMul, Nat.reduceSub, Int.reduceToNat, Int.reduceLT, Int.reduceLE, Int.reduceEq, Int.reduceAdd, reduceCtorEq]
    refine calls_rb (h_bits l 1 1 (by omega) (by omega) hl) rfl ?_
    simp -dsimp (disch := omega) only [↓wi, wo, wrap64, reduceIte, Nat.reduceEqDiff, Nat.reduceAdd, Nat.reduceLT, Nat.reduceLeDiff, Nat.reduceMul, Nat.reduceSub, Int.reduceToNat, Int.reduceLT, Int.reduceLE, Int.reduceEq, Int.reduceAdd, reduceCtorEq]
    refine ret_i [true] rfl (by simp) (by simp) ?_
    subst h; exact ⟨rfl, rfl⟩
  · simp -dsimp (disch := omega) only [↓wi, wo, wrap64, reduceIte, Nat.reduceEqDiff, Nat.reduceAdd, Nat.reduceLT, Nat.reduceLeDiff, Nat.reduceMul, Nat.reduceSub, Int.reduceToNat, Int.reduceLT, Int.reduceLE, Int.reduceEq, Int.reduceAdd, reduceCtorEq]
    refine calls_rb (h_bits l 0 1 (by omega) (by omega) hl) rfl ?_
    simp -dsimp (disch := omega) only [↓wi, wo, wrap64, reduceIte, Nat.reduceEqDiff, Nat.reduceAdd, Nat.reduceLT, Nat.reduceLeDiff, Nat.reduceMul, Nat.reduceSub, Int.reduceToNat, Int.reduceLT, Int.reduceLE, Int.reduceEq, Int.reduceAdd, reduceCtorEq]
    refine ret_i [true] rfl (by simp) (by simp) ?_
    subst h; exact ⟨rfl, rfl⟩
theorem h_rNum (l : List UInt8) (x : Flt) (hl : l.length ≤ 1099511627776) : RB true 117 [bts l, vf x.1] (l ++ pNum x.1) := by
  have h0 : 0 ≤ code x.1 := by unfold code; split <;> omega
  refine ⟨B117, ac_of mixed F117 (by simp) ?_⟩
  simp -dsimp (disch := omega) only [↓wi, wo, wrap64, reduceIte, Nat.reduceEqDiff, Nat.reduceAdd, Nat.reduceLT, Nat.reduceLeDiff, Nat.reduceMul, Nat.reduceSub, Int.reduceToNat, Int.reduceLT, Int.reduceLE, Int.reduceEq, Int.reduceAdd, reduceCtorEq, c117, enter]
  refine calls_p (p_bits x.1) rfl rfl ?_
  simp -dsimp (disch := omega) only [↓wi, wo, wrap64, reduceIte, Nat.reduceEqDiff, Nat.reduceAdd, Nat.reduceLT, Nat.reduceLeDiff, Nat.reduceMul, Nat.reduceSub, Int.reduceToNat, Int.reduceLT, Int.reduceLE, Int.reduceEq, Int.reduceAdd, reduceCtorEq]
  refine calls_rb (h_bits l _ 8 h0 (by omega) hl) rfl ?_
  simp -dsimp (disch := omega) only [↓wi, wo, wrap64, reduceIte, Nat.reduceEqDiff, Nat.reduceAdd, Nat.reduceLT, Nat.reduceLeDiff, Nat.reduceMul, Nat.reduceSub, Int.reduceToNat, Int.reduceLT, Int.reduceLE, Int.reduceEq, Int.reduceAdd, reduceCtorEq]
  exact ret_i [true] rfl (by simp) (by simp) ⟨rfl, rfl⟩
end Go.Proofs.YtbnelpgogjbgjaaGreat.Q
/- Values, texts, numbers, lists behind bytes. -/
set_option linter.unusedVariables false
set_option linter.unusedSimpArgs false
namespace Go.Proofs.YtbnelpgogjbgjaaGreat.Q
open Go.RowKit

def tb (s : ByteArray) : List UInt8 := s.data.toList
theorem len_tb (s : ByteArray) : (tb s).length = s.size := Array.length_toList
theorem row_tb (s : ByteArray) : byteRows s = brow (tb s) := rfl
def putV (v : Vl) : List UInt8 := pInt v.kind.1 ++ (if v.kind.1 = 1 then pInt v.int.1 else if v.kind.1 = 2 then pBool v.bool else if v.kind.1 = 3 then pBytes (tb v.text) else if v.kind.1 = 4 then pNum v.num.1 else [])
theorem len_pInt (n : Int) : (pInt n).length = 8 := len_be _ _
theorem len_pCount (n : Int) : (pCount n).length = 4 := len_be _ _
theorem len_pBytes (l : List UInt8) : (pBytes l).length = 4 + l.length := by simp [pBytes, len_pCount]
theorem len_pNum (n : Nat) : (pNum n).length = 8 := len_be _ _
theorem len_putV (v : Vl) : (putV v).length ≤ 16 + v.text.size ∧ 8 ≤ (putV v).length ∧ (v.kind.1 = 3 → v.text.size ≤ (putV v).length) := by
  simp only [putV, List.length_append, len_pInt]
  refine ⟨?_, by omega, fun h => ?_⟩
  · (repeat' split) <;> simp [len_pInt, len_pNum, len_pBytes, len_tb, pBool] <;> omega
  · simp [h, len_pBytes, len_tb]; omega
set_option maxHeartbeats 1000000 in
theorem p_putV (l : List UInt8) (v : Vl) (hl : l.length + (putV v).length ≤ 1099511627776) : PC Tryz.prog 45 [bts l, ag (encV v)] (.ret (bts (l ++ putV v))) := by
  have hlen := len_putV v
  refine pc_of mixed F45 (by simp) ?_
  simp -dsimp (disch := omega) only [↓wi, wo, wrap64, reduceIte, Nat.reduceEqDiff, Nat.reduceAdd, Nat.reduceLT, Nat.reduceLeDiff, Nat.reduceMul, Nat.reduceSub, Int.reduceToNat, Int.reduceLT, Int.reduceLE, Int.reduceEq, Int.reduceAdd, reduceCtorEq, c45, enter, encV]
  refine calls_p (h_PutInt l v.kind.1 (by omega)).pc rfl rfl ?_
  simp -dsimp (disch := omega) only [↓wi, wo, wrap64, reduceIte, Nat.reduceEqDiff, Nat.reduceAdd, Nat.reduceLT, Nat.reduceLeDiff, Nat.reduceMul, Nat.reduceSub, Int.reduceToNat, Int.reduceLT, Int.reduceLE, Int.reduceEq, Int.reduceAdd, reduceCtorEq]
  have h2 : (l ++ pInt v.kind.1).length ≤ 1099511627776 := by simp only [List.length_append, len_pInt]; omega
  refine forkd (fun h => ?_) (fun h => ?_)
  · simp -dsimp (disch := omega) only [↓wi, wo, wrap64, reduceIte, Nat.reduceEqDiff, Nat.reduceAdd, Nat.reduceLT, Nat.reduceLeDiff, Nat.reduceMul, Nat.reduceSub, Int.reduceToNat, Int.reduceLT, Int.reduceLE, Int.reduceEq, Int.reduceAdd, reduceCtorEq]
    refine calls_p (h_PutInt _ v.int.1 h2).pc rfl rfl ?_
    simp -dsimp (disch := omega) only [↓wi, wo, wrap64, reduceIte, Nat.reduceEqDiff, Nat.reduceAdd, Nat.reduceLT, Nat.reduceLeDiff, Nat.reduceMul, Nat.reduceSub, Int.reduceToNat, Int.reduceLT, Int.reduceLE, Int.reduceEq, Int.reduceAdd, reduceCtorEq]
    refine ret_p ?_
    simp [lk, frz, putV, h, List.append_assoc]
  simp -dsimp (disch := omega) only [↓wi, wo, wrap64, reduceIte, Nat.reduceEqDiff, Nat.reduceAdd, Nat.reduceLT, Nat.reduceLeDiff, Nat.reduceMul, Nat.reduceSub, Int.reduceToNat, Int.reduceLT, Int.reduceLE, Int.reduceEq, Int.reduceAdd, reduceCtorEq]
  refine forkd (fun h => ?_) (fun h => ?_)
  · simp -dsimp (disch := omega) only [↓wi, wo, wrap64, reduceIte, Nat.reduceEqDiff, Nat.reduceAdd, Nat.reduceLT, Nat.reduceLeDiff, Nat.reduceMul, Nat.reduceSub, Int.reduceToNat, Int.reduceLT, Int.reduceLE, Int.reduceEq, Int.reduceAdd, reduceCtorEq]
    refine calls_p (h_PutBool _ v.bool h2).pc rfl rfl ?_
    simp -dsimp (disch := omega) only [↓wi, wo, wrap64, reduceIte, Nat.reduceEqDiff, Nat.reduceAdd, Nat.reduceLT, Nat.reduceLeDiff, Nat.reduceMul, Nat.reduceSub, Int.reduceToNat, Int.reduceLT, Int.reduceLE, Int.reduceEq, Int.reduceAdd, reduceCtorEq]
    refine ret_p ?_
    simp [lk, frz, putV, h, List.append_assoc]
  simp -dsimp (disch := omega) only [↓wi, wo, wrap64, reduceIte, Nat.reduceEqDiff, Nat.reduceAdd, Nat.reduceLT, Nat.reduceLeDiff, Nat.reduceMul, Nat.reduceSub, Int.reduceToNat, Int.reduceLT, Int.reduceLE, Int.reduceEq, Int.reduceAdd, reduceCtorEq]
  refine forkd (fun h => ?_) (fun h => ?_)
  · simp -dsimp (disch := omega) only [↓wi, wo, wrap64, reduceIte, Nat.reduceEqDiff, Nat.reduceAdd, Nat.reduceLT, Nat.reduceLeDiff, Nat.reduceMul, Nat.reduceSub, Int.reduceToNat, Int.reduceLT, Int.reduceLE, Int.reduceEq, Int.reduceAdd, reduceCtorEq]
    have h3 := hlen.2.2 h
    have h4 : (putV v).length = 8 + (4 + v.text.size) := by simp [putV, h, len_pInt, len_pBytes, len_tb]
    refine need (by omega) ?_
    simp -dsimp (disch := omega) only [↓wi, wo, wrap64, reduceIte, Nat.reduceEqDiff, Nat.reduceAdd, Nat.reduceLT, Nat.reduceLeDiff, Nat.reduceMul, Nat.reduceSub, Int.reduceToNat, Int.reduceLT, Int.reduceLE, Int.reduceEq, Int.reduceAdd, reduceCtorEq, row_tb]
    refine calls_p (h_PutBytes _ (tb v.text) (by rw [len_tb]; simp only [List.length_append, len_pInt]; omega)).pc rfl rfl ?_
    simp -dsimp (disch := omega) only [↓wi, wo, wrap64, reduceIte, Nat.reduceEqDiff, Nat.reduceAdd, Nat.reduceLT, Nat.reduceLeDiff, Nat.reduceMul, Nat.reduceSub, Int.reduceToNat, Int.reduceLT, Int.reduceLE, Int.reduceEq, Int.reduceAdd, reduceCtorEq]
    refine ret_p ?_
    simp [lk, frz, putV, h, List.append_assoc]
  simp -dsimp (disch := omega) only [↓wi, wo, wrap64, reduceIte, Nat.reduceEqDiff, Nat.reduceAdd, Nat.reduceLT, Nat.reduceLeDiff, Nat.reduceMul, Nat.reduceSub, Int.reduceToNat, Int.reduceLT, Int.reduceLE, Int.reduceEq, Int.reduceAdd, reduceCtorEq]
  refine forkd (fun h => ?_) (fun h => ?_)
  · simp -dsimp (disch := omega) only [↓wi, wo, wrap64, reduceIte, Nat.reduceEqDiff, Nat.reduceAdd, Nat.reduceLT, Nat.reduceLeDiff, Nat.reduceMul, Nat.reduceSub, Int.reduceToNat, Int.reduceLT, Int.reduceLE, Int.reduceEq, Int.reduceAdd, reduceCtorEq]
    refine calls_p (h_PutNum _ v.num h2).pc rfl rfl ?_
    simp -dsimp (disch := omega) only [↓wi, wo, wrap64, reduceIte, Nat.reduceEqDiff, Nat.reduceAdd, Nat.reduceLT, Nat.reduceLeDiff, Nat.reduceMul, Nat.reduceSub, Int.reduceToNat, Int.reduceLT, Int.reduceLE, Int.reduceEq, Int.reduceAdd, reduceCtorEq]
    refine ret_p ?_
    simp [lk, frz, putV, h, List.append_assoc]
  · simp -dsimp (disch := omega) only [↓wi, wo, wrap64, reduceIte, Nat.reduceEqDiff, Nat.reduceAdd, Nat.reduceLT, Nat.reduceLeDiff, Nat.reduceMul, Nat.reduceSub, Int.reduceToNat, Int.reduceLT, Int.reduceLE, Int.reduceEq, Int.reduceAdd, reduceCtorEq]
    refine ret_p ?_
    simp [lk, frz, putV, *]
set_option maxHeartbeats 1000000 in
theorem p_rputV (l : List UInt8) (v : Vl) (hl : l.length + (putV v).length ≤ 1099511627776) : PC Tryz.prog 57 [bts l, ag (encV v)] (.ret (bts (l ++ putV v))) := by
  have hlen := len_putV v
  refine pc_of mixed F57 (by simp) ?_
  simp -dsimp (disch := omega) only [↓wi, wo, wrap64, reduceIte, Nat.reduceEqDiff, Nat.reduceAdd, Nat.reduceLT, Nat.reduceLeDiff, Nat.reduceMul, Nat.reduceSub, Int.reduceToNat, Int.reduceLT, Int.reduceLE, Int.reduceEq, Int.reduceAdd, reduceCtorEq, c57, enter, encV]
  refine calls_p (h_rInt l v.kind.1 (by omega)).pc rfl rfl ?_
  simp -dsimp (disch := omega) only [↓wi, wo, wrap64, reduceIte, Nat.reduceEqDiff, Nat.reduceAdd, Nat.reduceLT, Nat.reduceLeDiff, Nat.reduceMul, Nat.reduceSub, Int.reduceToNat, Int.reduceLT, Int.reduceLE, Int.reduceEq, Int.reduceAdd, reduceCtorEq]
  have h2 : (l ++ pInt v.kind.1).length ≤ 1099511627776 := by simp only [List.length_append, len_pInt]; omega
  refine forkd (fun h => ?_) (fun h => ?_)
  · simp -dsimp (disch := omega) only [↓wi, wo, wrap64, reduceIte, Nat.reduceEqDiff, Nat.reduceAdd, Nat.reduceLT, Nat.reduceLeDiff, Nat.reduceMul, Nat.reduceSub, Int.reduceToNat, Int.reduceLT, Int.reduceLE, Int.reduceEq, Int.reduceAdd, reduceCtorEq]
    refine calls_p (h_rInt _ v.int.1 h2).pc rfl rfl ?_
    simp -dsimp (disch := omega) only [↓wi, wo, wrap64, reduceIte, Nat.reduceEqDiff, Nat.reduceAdd, Nat.reduceLT, Nat.reduceLeDiff, Nat.reduceMul, Nat.reduceSub, Int.reduceToNat, Int.reduceLT, Int.reduceLE, Int.reduceEq, Int.reduceAdd, reduceCtorEq]
    refine ret_p ?_
    simp [lk, frz, putV, h, List.append_assoc]
  simp -dsimp (disch := omega) only [↓wi, wo, wrap64, reduceIte, Nat.reduceEqDiff, Nat.reduceAdd, Nat.reduceLT, Nat.reduceLeDiff, Nat.reduceMul, Nat.reduceSub, Int.reduceToNat, Int.reduceLT, Int.reduceLE, Int.reduceEq, Int.reduceAdd, reduceCtorEq]
  refine forkd (fun h => ?_) (fun h => ?_)
  · simp -dsimp (disch := omega) only [↓wi, wo, wrap64, reduceIte, Nat.reduceEqDiff, Nat.reduceAdd, Nat.reduceLT, Nat.reduceLeDiff, Nat.reduceMul, Nat.reduceSub, Int.reduceToNat, Int.reduceLT, Int.reduceLE, Int.reduceEq, Int.reduceAdd, reduceCtorEq]
    refine calls_p (h_rBool _ v.bool h2).pc rfl rfl ?_
    simp -dsimp (disch := omega) only [↓wi, wo, wrap64, reduceIte, Nat.reduceEqDiff, Nat.reduceAdd, Nat.reduceLT, Nat.reduceLeDiff, Nat.reduceMul, Nat.reduceSub, Int.reduceToNat, Int.reduceLT, Int.reduceLE, Int.reduceEq, Int.reduceAdd, reduceCtorEq]
    refine ret_p ?_
    simp [lk, frz, putV, h, List.append_assoc]
  simp -dsimp (disch := omega) only [↓wi, wo, wrap64, reduceIte, Nat.reduceEqDiff, Nat.reduceAdd, Nat.reduceLT, Nat.reduceLeDiff, Nat.reduceMul, Nat.reduceSub, Int.reduceToNat, Int.reduceLT, Int.reduceLE, Int.reduceEq, Int.reduceAdd, reduceCtorEq]
  refine forkd (fun h => ?_) (fun h => ?_)
  · simp -dsimp (disch := omega) only [↓wi, wo, wrap64, reduceIte, Nat.reduceEqDiff, Nat.reduceAdd, Nat.reduceLT, Nat.reduceLeDiff, Nat.reduceMul, Nat.reduceSub, Int.reduceToNat, Int.reduceLT, Int.reduceLE, Int.reduceEq, Int.reduceAdd, reduceCtorEq]
    have h3 := hlen.2.2 h
    have h4 : (putV v).length = 8 + (4 + v.text.size) := by simp [putV, h, len_pInt, len_pBytes, len_tb]
    refine need (by omega) ?_
    simp -dsimp (disch := omega) only [↓wi, wo, wrap64, reduceIte, Nat.reduceEqDiff, Nat.reduceAdd, Nat.reduceLT, Nat.reduceLeDiff, Nat.reduceMul, Nat.reduceSub, Int.reduceToNat, Int.reduceLT, Int.reduceLE, Int.reduceEq, Int.reduceAdd, reduceCtorEq, row_tb]
    refine calls_p (h_rBytes _ (tb v.text) (by rw [len_tb]; simp only [List.length_append, len_pInt]; omega)).pc rfl rfl ?_
    simp -dsimp (disch := omega) only [↓wi, wo, wrap64, reduceIte, Nat.reduceEqDiff, Nat.reduceAdd, Nat.reduceLT, Nat.reduceLeDiff, Nat.reduceMul, Nat.reduceSub, Int.reduceToNat, Int.reduceLT, Int.reduceLE, Int.reduceEq, Int.reduceAdd, reduceCtorEq]
    refine ret_p ?_
    simp [lk, frz, putV, h, List.append_assoc]
  simp -dsimp (disch := omega) only [↓wi, wo, wrap64, reduceIte, Nat.reduceEqDiff, Nat.reduceAdd, Nat.reduceLT, Nat.reduceLeDiff, Nat.reduceMul, Nat.reduceSub, Int.reduceToNat, Int.reduceLT, Int.reduceLE, Int.reduceEq, Int.reduceAdd, reduceCtorEq]
  refine forkd (fun h => ?_) (fun h => ?_)
  · simp -dsimp (disch := omega) only [↓wi, wo, wrap64, reduceIte, Nat.reduceEqDiff, Nat.reduceAdd, Nat.reduceLT, Nat.reduceLeDiff, Nat.reduceMul, Nat.reduceSub, Int.reduceToNat, Int.reduceLT, Int.reduceLE, Int.reduceEq, Int.reduceAdd, reduceCtorEq]
    refine calls_p (h_rNum _ v.num h2).pc rfl rfl ?_
    simp -dsimp (disch := omega) only [↓wi, wo, wrap64, reduceIte, Nat.reduceEqDiff, Nat.reduceAdd, Nat.reduceLT, Nat.reduceLeDiff, Nat.reduceMul, Nat.reduceSub, Int.reduceToNat, Int.reduceLT, Int.reduceLE, Int.reduceEq, Int.reduceAdd, reduceCtorEq]
    refine ret_p ?_
    simp [lk, frz, putV, h, List.append_assoc]
  · simp -dsimp (disch := omega) only [↓wi, wo, wrap64, reduceIte, Nat.reduceEqDiff, Nat.reduceAdd, Nat.reduceLT, Nat.reduceLeDiff, Nat.reduceMul, Nat.reduceSub, Int.reduceToNat, Int.reduceLT, Int.reduceLE, Int.reduceEq, Int.reduceAdd, reduceCtorEq]
    refine ret_p ?_
    simp [lk, frz, putV, *]
theorem p_text (l : List UInt8) (s : ByteArray) (hl : l.length + s.size ≤ 1099511627776) : PC Tryz.prog 41 [bts l, vs s] (.ret (bts (l ++ pBytes (tb s)))) := by
  refine pc_of mixed F41 (by simp) ?_
  simp -dsimp (disch := omega) only [↓wi, wo, wrap64, reduceIte, Nat.reduceEqDiff, Nat.reduceAdd, Nat.reduceLT, Nat.reduceLeDiff, Nat.reduceMul, Nat.reduceSub, Int.reduceToNat, Int.reduceLT, Int.reduceLE, Int.reduceEq, Int.reduceAdd, reduceCtorEq, c41, enter]
  refine need (by omega) ?_
  simp -dsimp (disch := omega) only [↓wi, wo, wrap64, reduceIte, Nat.reduceEqDiff, Nat.reduceAdd, Nat.reduceLT, Nat.reduceLeDiff, Nat.reduceMul, Nat.reduceSub, Int.reduceToNat, Int.reduceLT, Int.reduceLE, Int.reduceEq, Int.reduceAdd, reduceCtorEq, row_tb]
  refine calls_p (h_PutBytes l (tb s) (by rw [len_tb]; exact hl)).pc rfl rfl ?_
  repeat' first | (simp -dsimp (disch := omega) only [↓wi, wo, wrap64, reduceIte, Nat.reduceEqDiff, Nat.reduceAdd, Nat.reduceLT, Nat.reduceLeDiff, Nat.reduceMul, Nat.reduceSub, Int.reduceToNat, Int.reduceLT, Int.reduceLE, Int.reduceEq, Int.reduceAdd, reduceCtorEq]) | (refine brd_y (by first | assumption | omega) ?_) | (refine brd_no (by first | assumption | omega) ?_) | (refine forkd (fun _ => ?_) (fun _ => ?_)) | (refine brs_y (by assumption) ?_) | (refine brs_n (by assumption) ?_) | (refine fork (fun _ => ?_) (fun _ => ?_)) | (refine need (by omega) ?_) | (refine qv_need (by omega) ?_) | (refine qv_give ?_) | (refine give fun _ => ?_) | (refine retb rfl ?_) | (refine reti rfl ?_) | (refine ret_p ?_) | (refine ret_ps rfl ?_) | (refine ret_pp rfl ?_)
theorem p_number (l : List UInt8) (n : Int) (hl : l.length ≤ 1099511627776) : PC Tryz.prog 44 [bts l, vi n] (.ret (bts (l ++ pInt n))) := by
  refine pc_of mixed F44 (by simp) ?_
  simp -dsimp (disch := omega) only [↓wi, wo, wrap64, reduceIte, Nat.reduceEqDiff, Nat.reduceAdd, Nat.reduceLT, Nat.reduceLeDiff, Nat.reduceMul, Nat.reduceSub, Int.reduceToNat, Int.reduceLT, Int.reduceLE, Int.reduceEq, Int.reduceAdd, reduceCtorEq, c44, enter]
  refine calls_p (h_PutInt l n hl).pc rfl rfl ?_
  repeat' first | (simp -dsimp (disch := omega) only [↓wi, wo, wrap64, reduceIte, Nat.reduceEqDiff, Nat.reduceAdd, Nat.reduceLT, Nat.reduceLeDiff, Nat.reduceMul, Nat.reduceSub, Int.reduceToNat, Int.reduceLT, Int.reduceLE, Int.reduceEq, Int.reduceAdd, reduceCtorEq]) | (refine brd_y (by first | assumption | omega) ?_) | (refine brd_no (by first | assumption | omega) ?_) | (refine forkd (fun _ => ?_) (fun _ => ?_)) | (refine brs_y (by assumption) ?_) | (refine brs_n (by assumption) ?_) | (refine fork (fun _ => ?_) (fun _ => ?_)) | (refine need (by omega) ?_) | (refine qv_need (by omega) ?_) | (refine qv_give ?_) | (refine give fun _ => ?_) | (refine retb rfl ?_) | (refine reti rfl ?_) | (refine ret_p ?_) | (refine ret_ps rfl ?_) | (refine ret_pp rfl ?_)
end Go.Proofs.YtbnelpgogjbgjaaGreat.Q
/- Values against fields; the document's. -/
set_option linter.unusedVariables false
set_option linter.unusedSimpArgs false
namespace Go.Proofs.YtbnelpgogjbgjaaGreat.Q
open Go.RowKit

def fitsV (v : Vl) (f : Fd) : Int := if goodV v && decide (v.kind.1 = f.kind.1) then (if decide (v.kind.1 = 3) && decide (f.enum.length ≠ 0) && !(f.enum.any fun x => decide (v.text = x)) then 60 else 0) else 40
set_option maxHeartbeats 4000000 in
theorem p_fits (v : Vl) (f : Fd) : PC Tryz.prog 100 [ag (encV v), ag (encF f)] (.ret (vi (fitsV v f))) := by
  refine pc_of mixed F100 (by simp) ?_
  simp -dsimp (disch := omega) only [↓wi, wo, wrap64, reduceIte, Nat.reduceEqDiff, Nat.reduceAdd, Nat.reduceLT, Nat.reduceLeDiff, Nat.reduceMul, Nat.reduceSub, Int.reduceToNat, Int.reduceLT, Int.reduceLE, Int.reduceEq, Int.reduceAdd, reduceCtorEq, c100, enter, encV, encF]
  repeat' first | (simp -dsimp (disch := omega) only [↓wi, wo, wrap64, reduceIte, Nat.reduceEqDiff, Nat.reduceAdd, Nat.reduceLT, Nat.reduceLeDiff, Nat.reduceMul, Nat.reduceSub, Int.reduceToNat, Int.reduceLT, Int.reduceLE, Int.reduceEq, Int.reduceAdd, reduceCtorEq, len_strs]) | (refine brd_y (by first | assumption | omega) ?_) | (refine brd_no (by first | assumption | omega) ?_) | (refine forkd (fun _ => ?_) (fun _ => ?_)) | (refine brs_y (by assumption) ?_) | (refine brs_n (by assumption) ?_) | (refine fork (fun _ => ?_) (fun _ => ?_)) | (refine need (by omega) ?_) | (refine qv_need (by omega) ?_) | (refine qv_give ?_) | (refine give fun _ => ?_) | (refine retb rfl ?_) | (refine reti rfl ?_) | (refine ret_p ?_) | (refine ret_ps rfl ?_) | (refine ret_pp rfl ?_) | (refine calls_b (p_good v) rfl (fun _ => ?_) (fun _ => ?_)) | (refine calls_p (p_good v) rfl rfl ?_) | (refine qv_b (p_good v) rfl rfl (fun _ => ?_) (fun _ => ?_)) | (refine qv_q (p_good v) rfl rfl rfl ?_) | (refine calls_b (p_containsT f.enum v.text) rfl (fun _ => ?_) (fun _ => ?_)) | (refine calls_p (p_containsT f.enum v.text) rfl rfl ?_) | (refine qv_b (p_containsT f.enum v.text) rfl rfl (fun _ => ?_) (fun _ => ?_)) | (refine qv_q (p_containsT f.enum v.text) rfl rfl rfl ?_)
  all_goals grind [fitsV]
theorem code0 : code 0 = 0 := by decide
theorem goodV_iff (v : Vl) : goodV v = true ↔ (1 ≤ v.kind.1 ∧ v.kind.1 ≤ 4) ∧ (v.text.size : Int) ≤ 32 ∧ (v.kind.1 ≠ 1 → v.int.1 = 0) ∧ (v.kind.1 ≠ 2 → v.bool = false) ∧ (v.kind.1 ≠ 3 → v.text = ⟨#[]⟩) ∧ (v.kind.1 ≠ 4 → code v.num.1 = 0) := by
  have h0 := code0
  simp only [goodV, partOk, sameV, partV, zI, zF, Bool.and_eq_true, decide_eq_true_eq, beq_iff_eq]
  grind
set_option maxHeartbeats 4000000 in
theorem p_rgood (v : Vl) : PC Tryz.prog 82 [ag (encV v)] (.ret (vb (goodV v))) := by
  refine pc_of mixed F82 (by simp) ?_
  simp -dsimp (disch := omega) only [↓wi, wo, wrap64, reduceIte, Nat.reduceEqDiff, Nat.reduceAdd, Nat.reduceLT, Nat.reduceLeDiff, Nat.reduceMul, Nat.reduceSub, Int.reduceToNat, Int.reduceLT, Int.reduceLE, Int.reduceEq, Int.reduceAdd, reduceCtorEq, c82, enter, encV]
  repeat' first | (simp -dsimp (disch := omega) only [↓wi, wo, wrap64, reduceIte, Nat.reduceEqDiff, Nat.reduceAdd, Nat.reduceLT, Nat.reduceLeDiff, Nat.reduceMul, Nat.reduceSub, Int.reduceToNat, Int.reduceLT, Int.reduceLE, Int.reduceEq, Int.reduceAdd, reduceCtorEq]) | (refine brd_y (by first | assumption | omega) ?_) | (refine brd_no (by first | assumption | omega) ?_) | (refine forkd (fun _ => ?_) (fun _ => ?_)) | (refine brs_y (by assumption) ?_) | (refine brs_n (by assumption) ?_) | (refine fork (fun _ => ?_) (fun _ => ?_)) | (refine need (by omega) ?_) | (refine qv_need (by omega) ?_) | (refine qv_give ?_) | (refine give fun _ => ?_) | (refine retb rfl ?_) | (refine reti rfl ?_) | (refine ret_p ?_) | (refine ret_ps rfl ?_) | (refine ret_pp rfl ?_) | (refine calls_b (p_bits v.num.1) rfl (fun _ => ?_) (fun _ => ?_)) | (refine calls_p (p_bits v.num.1) rfl rfl ?_) | (refine qv_b (p_bits v.num.1) rfl rfl (fun _ => ?_) (fun _ => ?_)) | (refine qv_q (p_bits v.num.1) rfl rfl rfl ?_)
  all_goals first | (refine Eq.symm (Bool.eq_false_iff.2 ?_)) | refine Bool.eq_iff_iff.2 ?_
  all_goals simp only [ne_eq, decide_eq_true_eq, goodV_iff]
  all_goals grind
end Go.Proofs.YtbnelpgogjbgjaaGreat.Q
