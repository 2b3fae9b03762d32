/- The walk by simp: what each operation comes to, from outside in; nothing is looked at before it is reached. -/
import Derived.Test.YtbnelpgogjbgjaaGreatCodQu
import Derived.Laws.Strings
import Derived.Laws.StructEq
import Derived.Laws.Externs
/- The walk by simp: what each operation comes to, from outside in; nothing is looked at before it is reached. -/
set_option linter.unusedVariables false
set_option linter.unusedSimpArgs false
namespace Go.Proofs.YtbnelpgogjbgjaaGreat.Q
open Go.RowKit

/-- A mark: what it marks is not looked at. -/
structure Th {α : Type} (a : α) : Type where
/-- A thing that goes on, with what it goes on with looked at first. -/
def go (K : SV → List AObj → Prop) (v : SV) (H : List AObj) : Prop := K v H
def goT (K : SV → List AObj → Prop) (v : SV) (H : List AObj) (t : Th K) : Prop := go K v H
theorem go_t {K : SV → List AObj → Prop} {v : SV} {H : List AObj} : go K v H = goT K v H ⟨⟩ := rfl
def bnd {α : Type} (o : Option α) (K : α → Prop) : Prop := ∃ x, o = some x ∧ K x
def bndT {α : Type} (o : Option α) (K : α → Prop) (t : Th K) : Prop := bnd o K
theorem bnd_t {α : Type} {o : Option α} {K : α → Prop} : bnd o K = bndT o K ⟨⟩ := rfl
def needs (c K : Prop) : Prop := c ∧ K
def needsT (c K : Prop) (t : Th K) : Prop := needs c K
theorem needs_t {c K : Prop} : needs c K = needsT c K ⟨⟩ := rfl
def giv (c K : Prop) : Prop := c → K
def givT (c K : Prop) (t : Th K) : Prop := giv c K
theorem giv_t {c K : Prop} : giv c K = givT c K ⟨⟩ := rfl
def br (b : Bool) (A B : Prop) : Prop := if b then A else B
def brT (b : Bool) (A B : Prop) (t : Th (A, B)) : Prop := br b A B
theorem br_t {b : Bool} {A B : Prop} : br b A B = brT b A B ⟨⟩ := rfl
/-- Nothing, or an empty slice. -/
def nilD (p A B : Prop) : Prop := (p → A) ∧ B
def nilDT (p A B : Prop) (t : Th (A, B)) : Prop := nilD p A B
theorem nilD_t {p A B : Prop} : nilD p A B = nilDT p A B ⟨⟩ := rfl
theorem nil_i {p A B : Prop} {th : Th (A, B)} (h : p → A) (k : B) : nilDT p A B th := ⟨h, k⟩
theorem needs_i {c K : Prop} (h : c) (k : K) : needs c K := ⟨h, k⟩
theorem giv_i {c K : Prop} (h : c → K) : giv c K := h
theorem br_i {b : Bool} {A B : Prop} (h : b = true → A) (k : b = false → B) : br b A B := by cases b <;> simp_all [br]
theorem br_d {p : Prop} [Decidable p] {A B : Prop} (h : p → A) (k : ¬ p → B) : br (decide p) A B := by by_cases e : p <;> simp_all [br]
def callPT (P : Program) (f : Nat) (args : List SV) (H : List AObj) (K : SV → List AObj → Prop) (Qp : Value → List AObj → Prop) (t : Th (K, Qp)) : Prop := callP P f args H K Qp
theorem callP_t {P : Program} {f : Nat} {args : List SV} {H : List AObj} {K : SV → List AObj → Prop} {Qp : Value → List AObj → Prop} : callP P f args H K Qp = callPT P f args H K Qp ⟨⟩ := rfl
theorem go_ {K : SV → List AObj → Prop} {v : SV} {H : List AObj} : go K v H = K v H := rfl
theorem go_T {K : SV → List AObj → Prop} {v : SV} {H : List AObj} {th : Th _} : goT K v H th = K v H := go_
theorem bnd_some {α : Type} {x : α} {K : α → Prop} : bnd (some x) K = K x := by simp [bnd]
theorem bnd_someT {α : Type} {x : α} {K : α → Prop} {th : Th _} : bndT (some x) K th = K x := bnd_some
theorem bnd_none {α : Type} {K : α → Prop} : bnd none K = False := by simp [bnd]
theorem bnd_noneT {α : Type} {K : α → Prop} {th : Th _} : bndT none K th = False := bnd_none
theorem needs_true {K : Prop} : needs True K = K := by simp [needs]
theorem needs_trueT {K : Prop} {th : Th _} : needsT True K th = K := needs_true
theorem giv_true {K : Prop} : giv True K = K := by simp [giv]
theorem giv_trueT {K : Prop} {th : Th _} : givT True K th = K := giv_true
theorem br_true {A B : Prop} : br true A B = A := rfl
theorem br_trueT {A B : Prop} {th : Th _} : brT true A B th = A := br_true
theorem br_false {A B : Prop} : br false A B = B := rfl
theorem br_falseT {A B : Prop} {th : Th _} : brT false A B th = B := br_false
theorem br_not {b : Bool} {A B : Prop} : br (!b) A B = br b B A := by cases b <;> rfl
theorem br_notT {b : Bool} {A B : Prop} {th : Th _} : brT (!b) A B th = br b B A := br_not

section
variable {P : Program} {N : Nat} {ds : List Deferred}

/-! ### Code -/
theorem W_skip {Q : AExit → AState → Prop} {s : AState} : W P N ds .skip Q s = Q .normal s := rfl
theorem W_reg {ops : List AO} {Q : AExit → AState → Prop} {s : AState} : W P N ds (.reg ops) Q s = aops P ops Q s := rfl
theorem W_dreg {k : Nat} {ops : List AO} {Q : AExit → AState → Prop} {s : AState} : W P N ds (.dreg k ops) Q s = daops P k ops Q s := rfl
theorem W_seq {a b : ACode} {Q : AExit → AState → Prop} {s : AState} : W P N ds (.seq a b) Q s = W P N ds a (thenQ (W P N ds b Q) Q) s := rfl
def condK (v : SV) (A B : Prop) : Prop := match v with
  | .c (.sc (.bool t)) => br t A B
  | _ => False
def condKT (v : SV) (A B : Prop) (t : Th (A, B)) : Prop := condK v A B
theorem condK_t {v : SV} {A B : Prop} : condK v A B = condKT v A B ⟨⟩ := rfl
theorem condK_ {t : Bool} {A B : Prop} : condK (.c (.sc (.bool t))) A B = br t A B := rfl
theorem condK_T {t : Bool} {A B : Prop} {th : Th _} : condKT (.c (.sc (.bool t))) A B th = br t A B := condK_
theorem W_cond {c : Operand} {a b : ACode} {Q : AExit → AState → Prop} {k : Nat} {t : List (Nat × SV)} {H : List AObj} : W P N ds (.cond c a b) Q ⟨k, t, H⟩ = condK (evl t c) (W P N ds a Q ⟨k, t, H⟩) (W P N ds b Q ⟨k, t, H⟩) := by
  rfl
theorem W_block {id : Nat} {c : ACode} {Q : AExit → AState → Prop} {s : AState} : W P N ds (.block id c) Q s = W P N ds c (blockQ id Q) s := rfl
theorem W_loop {c : ACode} {Q : AExit → AState → Prop} {s : AState} : W P N ds (.loop c) Q s = AW P N ds (.loop c) Q s := rfl
theorem W_exit {id : Nat} {Q : AExit → AState → Prop} {s : AState} : W P N ds (.exit id) Q s = Q (.exit id) s := rfl
theorem W_ret {Q : AExit → AState → Prop} {s : AState} : W P N ds .ret Q s = Q .ret s := rfl
theorem thenQ_n {K : AState → Prop} {Q : AExit → AState → Prop} {s : AState} : thenQ K Q .normal s = K s := rfl
theorem thenQ_e {K : AState → Prop} {Q : AExit → AState → Prop} {s : AState} {i : Nat} : thenQ K Q (.exit i) s = Q (.exit i) s := rfl
theorem thenQ_r {K : AState → Prop} {Q : AExit → AState → Prop} {s : AState} : thenQ K Q .ret s = Q .ret s := rfl
theorem thenQ_p {K : AState → Prop} {Q : AExit → AState → Prop} {s : AState} {v : Value} : thenQ K Q (.pan v) s = Q (.pan v) s := rfl
theorem blockQ_n {id : Nat} {Q : AExit → AState → Prop} {s : AState} : blockQ id Q .normal s = Q .normal s := rfl
theorem blockQ_e {id i : Nat} {Q : AExit → AState → Prop} {s : AState} : blockQ id Q (.exit i) s = if i = id then Q .normal s else Q (.exit i) s := rfl
theorem blockQ_r {id : Nat} {Q : AExit → AState → Prop} {s : AState} : blockQ id Q .ret s = Q .ret s := rfl
theorem blockQ_p {id : Nat} {Q : AExit → AState → Prop} {s : AState} {v : Value} : blockQ id Q (.pan v) s = Q (.pan v) s := rfl
def guardK (v : SV) (want : Bool) (A B : Prop) : Prop := match v with
  | .c (.sc (.bool b)) => if b = want then A else B
  | .tup [] => B
  | _ => False
def guardKT (v : SV) (want : Bool) (A B : Prop) (t : Th (A, B)) : Prop := guardK v want A B
theorem guardK_t {v : SV} {want : Bool} {A B : Prop} : guardK v want A B = guardKT v want A B ⟨⟩ := rfl
theorem guardK_y {b : Bool} {A B : Prop} : guardK (.c (.sc (.bool b))) true A B = br b A B := by cases b <;> simp [guardK, br]
theorem guardK_yT {b : Bool} {A B : Prop} {th : Th _} : guardKT (.c (.sc (.bool b))) true A B th = br b A B := guardK_y
theorem guardK_u {want : Bool} {A B : Prop} {th : Th (A, B)} : guardKT (.tup []) want A B th = B := rfl
theorem guardK_n {b : Bool} {A B : Prop} : guardK (.c (.sc (.bool b))) false A B = br b B A := by cases b <;> simp [guardK, br]
theorem guardK_nT {b : Bool} {A B : Prop} {th : Th _} : guardKT (.c (.sc (.bool b))) false A B th = br b B A := guardK_n
theorem aops_nil {Q : AExit → AState → Prop} {s : AState} : aops P [] Q s = Q .normal s := rfl
theorem aops_d {d : Nat} {op : AOp} {os : List AO} {Q : AExit → AState → Prop} {k : Nat} {t : List (Nat × SV)} {H : List AObj} : aops P (⟨some d, none, op⟩ :: os) Q ⟨k, t, H⟩ = aop P op (evl t) H (fun v H' => aops P os Q ⟨k, (d, v) :: t, H'⟩) (fun p H' => Q (.pan p) ⟨k, t, H'⟩) := rfl
theorem aops_n {op : AOp} {os : List AO} {Q : AExit → AState → Prop} {k : Nat} {t : List (Nat × SV)} {H : List AObj} : aops P (⟨none, none, op⟩ :: os) Q ⟨k, t, H⟩ = aop P op (evl t) H (fun v H' => aops P os Q ⟨k, t, H'⟩) (fun p H' => Q (.pan p) ⟨k, t, H'⟩) := rfl
theorem aops_gd {d g : Nat} {want : Bool} {op : AOp} {os : List AO} {Q : AExit → AState → Prop} {k : Nat} {t : List (Nat × SV)} {H : List AObj} : aops P (⟨some d, some (g, want), op⟩ :: os) Q ⟨k, t, H⟩ = guardK (lk g t) want (aop P op (evl t) H (fun v H' => aops P os Q ⟨k, (d, v) :: t, H'⟩) (fun p H' => Q (.pan p) ⟨k, t, H'⟩)) (aops P os Q ⟨k, (d, .tup []) :: t, H⟩) := rfl
theorem aops_gn {g : Nat} {want : Bool} {op : AOp} {os : List AO} {Q : AExit → AState → Prop} {k : Nat} {t : List (Nat × SV)} {H : List AObj} : aops P (⟨none, some (g, want), op⟩ :: os) Q ⟨k, t, H⟩ = guardK (lk g t) want (aop P op (evl t) H (fun v H' => aops P os Q ⟨k, t, H'⟩) (fun p H' => Q (.pan p) ⟨k, t, H'⟩)) (aops P os Q ⟨k, t, H⟩) := rfl
theorem daops_0 {os : List AO} {Q : AExit → AState → Prop} {s : AState} : daops P 0 os Q s = aops P os Q s := by cases os <;> rfl
/-- A value that is known to come of an operation. -/
def qv (c : SV → Prop) (K : SV → Prop) : Prop := ∃ v, c v ∧ K v
def qvT (c : SV → Prop) (K : SV → Prop) (t : Th K) : Prop := qv c K
theorem qv_t {c : SV → Prop} {K : SV → Prop} : qv c K = qvT c K ⟨⟩ := rfl
theorem qv_i {c K : SV → Prop} (v : SV) (h : c v) (k : K v) : qv c K := ⟨v, h, k⟩
theorem daops_d {n d : Nat} {op : AOp} {os : List AO} {Q : AExit → AState → Prop} {k : Nat} {t : List (Nat × SV)} {H : List AObj} : daops P (n + 1) (⟨some d, none, op⟩ :: os) Q ⟨k, t, H⟩ = qv (fun v => aop P op (evl t) H (fun v' H' => v' = v ∧ H' = H) (fun _ _ => False)) fun v => daops P n os Q ⟨k, (d, v) :: t, H⟩ := rfl
theorem daops_gd {n d g : Nat} {want : Bool} {op : AOp} {os : List AO} {Q : AExit → AState → Prop} {k : Nat} {t : List (Nat × SV)} {H : List AObj} : daops P (n + 1) (⟨some d, some (g, want), op⟩ :: os) Q ⟨k, t, H⟩ = guardK (lk g t) want (qv (fun v => aop P op (evl t) H (fun v' H' => v' = v ∧ H' = H) (fun _ _ => False)) fun v => daops P n os Q ⟨k, (d, v) :: t, H⟩) (daops P n os Q ⟨k, (d, .tup []) :: t, H⟩) := rfl
theorem W_mreg {hd : List (Option (List AO) × AO)} {tl : List AO} {Q : AExit → AState → Prop} {s : AState} : W P N ds (.mreg hd tl) Q s = maops P hd tl Q s := rfl
theorem maops_0 {tl : List AO} {Q : AExit → AState → Prop} {s : AState} : maops P [] tl Q s = aops P tl Q s := rfl
theorem ev_mk {k : Nat} {t : List (Nat × SV)} {H : List AObj} : AState.ev ⟨k, t, H⟩ = evl t := rfl
theorem maops_d {d : Nat} {op : AOp} {os : List (Option (List AO) × AO)} {tl : List AO} {Q : AExit → AState → Prop} {k : Nat} {t : List (Nat × SV)} {H : List AObj} : maops P ((none, ⟨some d, none, op⟩) :: os) tl Q ⟨k, t, H⟩ = qv (fun v => aop P op (evl t) H (fun v' H' => v' = v ∧ H' = H) (fun _ _ => False)) fun v => maops P os tl Q ⟨k, (d, v) :: t, H⟩ := by
  simp only [maops, okA, aguard, qv, AState.put, ev_mk, Option.some.injEq, eq_iff_iff]
  constructor
  · rintro ⟨v, ⟨b, rfl, h⟩, h2⟩; exact ⟨v, by simpa using h, h2⟩
  · rintro ⟨v, h, h2⟩; exact ⟨v, ⟨true, rfl, by simpa using h⟩, h2⟩
theorem maops_gd {d g : Nat} {want : Bool} {op : AOp} {os : List (Option (List AO) × AO)} {tl : List AO} {Q : AExit → AState → Prop} {k : Nat} {t : List (Nat × SV)} {H : List AObj} : maops P ((none, ⟨some d, some (g, want), op⟩) :: os) tl Q ⟨k, t, H⟩ = guardK (lk g t) want (qv (fun v => aop P op (evl t) H (fun v' H' => v' = v ∧ H' = H) (fun _ _ => False)) fun v => maops P os tl Q ⟨k, (d, v) :: t, H⟩) (maops P os tl Q ⟨k, (d, .tup []) :: t, H⟩) := by
  simp only [maops, okA, qv, AState.put, ev_mk, eq_iff_iff]
  unfold guardK aguard
  dsimp only
  generalize lk g t = x
  constructor
  · rintro ⟨v, ⟨b', hb, h⟩, h2⟩
    split at hb
    · rename_i b
      simp only [Option.some.injEq] at hb
      subst hb
      by_cases e : b = want
      · simp only [e, if_true]; exact ⟨v, by simpa [e] using h, h2⟩
      · have : (b == want) = false := by simpa using e
        simp only [this, Bool.false_eq_true, if_false] at h
        simp only [e, if_false]
        subst h; exact h2
    · simp only [Option.some.injEq] at hb
      subst hb
      simp only [Bool.false_eq_true, if_false] at h
      subst h; exact h2
    · cases hb
  · intro h
    split at h
    · rename_i b
      by_cases e : b = want
      · simp only [e, if_true] at h
        obtain ⟨v, h1, h2⟩ := h
        exact ⟨v, ⟨true, by simp [e], by simpa using h1⟩, h2⟩
      · simp only [e, if_false] at h
        exact ⟨.tup [], ⟨false, by simpa using e, by simp⟩, h⟩
    · exact ⟨.tup [], ⟨false, rfl, by simp⟩, h⟩
    · exact h.elim
theorem maops_e {d : Nat} {re : List AO} {op : AOp} {os : List (Option (List AO) × AO)} {tl : List AO} {Q : AExit → AState → Prop} {k : Nat} {t : List (Nat × SV)} {H : List AObj} : maops P ((some re, ⟨some d, none, op⟩) :: os) tl Q ⟨k, t, H⟩ = aop P op (evl t) H (fun v H1 => needs (againA P ⟨k, t, H1⟩ re) (maops P os tl Q ⟨k, (d, v) :: t, H1⟩)) (fun p H1 => ∀ t, Q (.pan p) ⟨k, t, H1⟩) := rfl
theorem againA_n {s : AState} : againA P s [] = True := rfl
theorem againA_c {d : Nat} {op : AOp} {os : List AO} {k : Nat} {t : List (Nat × SV)} {H : List AObj} : againA P ⟨k, t, H⟩ (⟨some d, none, op⟩ :: os) = (aop P op (evl t) H (fun v' H' => v' = lk d t ∧ H' = H) (fun _ _ => False) ∧ againA P ⟨k, t, H⟩ os) := by
  simp only [againA, okA, aguard, ev_mk, Option.some.injEq, eq_iff_iff]
  constructor
  · rintro ⟨h, h2⟩
    obtain ⟨b, rfl, h3⟩ := h d rfl
    exact ⟨by simpa using h3, h2⟩
  · rintro ⟨h, h2⟩
    exact ⟨fun d' e => by subst e; exact ⟨true, rfl, by simpa using h⟩, h2⟩
theorem qv_eq {v0 : SV} {K : SV → Prop} {th : Th _} : qvT (fun v => v0 = v) K th = K v0 := by simp [qvT, qv]
theorem qv_go {v0 : SV} {H : List AObj} {K : SV → Prop} : qv (fun v => go (fun v' H' => v' = v ∧ H' = H) v0 H) K = K v0 := by simp [qv, go]

/-! ### Operations -/
theorem evl_t {t : List (Nat × SV)} {i : Nat} : evl t (.tmp i) = lk i t := rfl
theorem evl_f {t : List (Nat × SV)} {i : Nat} : evl t (.func i) = .fn i [] [] := rfl
theorem evl_int {t : List (Nat × SV)} {k : IntKind} {n : Int} : evl t (.const (.int k n)) = .c (.sc (.int k n)) := rfl
theorem evl_bool {t : List (Nat × SV)} {b : Bool} : evl t (.const (.bool b)) = .c (.sc (.bool b)) := rfl
theorem evl_float {t : List (Nat × SV)} {k : FloatKind} {n : Nat} : evl t (.const (.float k n)) = .c (.sc (.float k n)) := rfl
theorem evl_str {t : List (Nat × SV)} {s : ByteArray} : evl t (.const (.string s)) = .c (.sc (.string s)) := rfl
theorem evl_sl {t : List (Nat × SV)} : evl t (.const (.slice none 0 0)) = .c (.sc (.slice none 0 0)) := rfl
theorem evl_ptr {t : List (Nat × SV)} : evl t (.const (.pointer none)) = .c (.sc (.pointer none)) := rfl
theorem evl_if {t : List (Nat × SV)} : evl t (.const .nilIface) = .c (.sc .nilIface) := rfl
theorem evl_fn {t : List (Nat × SV)} : evl t (.const .nilFunc) = .c (.sc .nilFunc) := rfl
theorem lk_h {i : Nat} {v : SV} {t : List (Nat × SV)} : lk i ((i, v) :: t) = v := by simp [lk]
theorem lk_ {i j : Nat} {v : SV} {t : List (Nat × SV)} : lk i ((j, v) :: t) = if i = j then v else lk i t := rfl
variable {ev : Operand → SV} {H : List AObj} {K : SV → List AObj → Prop} {Qp : Value → List AObj → Prop}
theorem aop_mv {x : Operand} : aop P (.mv x) ev H K Qp = go K (ev x) H := rfl
def pickK (c a b : SV) (H : List AObj) (K : SV → List AObj → Prop) : Prop := match c with
  | .c (.sc (.bool t)) => br t (go K a H) (go K b H)
  | _ => False
def pickKT (c a b : SV) (H : List AObj) (K : SV → List AObj → Prop) (t : Th (a, b, H, K)) : Prop := pickK c a b H K
theorem pickK_t {c a b : SV} {H : List AObj} {K : SV → List AObj → Prop} : pickK c a b H K = pickKT c a b H K ⟨⟩ := rfl
theorem pickK_ {t : Bool} {a b : SV} : pickK (.c (.sc (.bool t))) a b H K = br t (go K a H) (go K b H) := rfl
theorem pickK_T {t : Bool} {a b : SV} {th : Th _} : pickKT (.c (.sc (.bool t))) a b H K th = br t (go K a H) (go K b H) := pickK_
theorem aop_pick {c a b : Operand} : aop P (.pick c a b) ev H K Qp = pickK (ev c) (ev a) (ev b) H K := by
  simp only [aop, pickK]
  generalize ev c = v
  split
  · rename_i t
    cases t <;> simp [br, go]
  · first | rfl | (split <;> first | rfl | simp_all)
theorem aop_alloc {z : List Value} : aop P (.alloc z) ev H K Qp = go K (.ptr H.length 0) (H ++ [.box (z.map scv)]) := rfl
theorem aop_box {x : Operand} : aop P (.box x) ev H K Qp = bnd (svc (ev x)) fun cs => go K (.ptr H.length 0) (H ++ [.box cs]) := rfl
theorem aop_build {z : List Value} {ps : List (Nat × Nat × Operand)} : aop P (.build z ps) ev H K Qp = bnd (buildV ev (z.map scv) ps) fun cs => go K (.ag cs) H := rfl
theorem aop_slit0 {e m : Nat} : aop P (.slit e m []) ev H K Qp = go K (.row H.length 0) (H ++ [.row true e m []]) := rfl
theorem aop_slit {e m : Nat} {x : Operand} {xs : List Operand} : aop P (.slit e m (x :: xs)) ev H K Qp = bnd (slitV ev m (x :: xs)) fun rows => go K (.c (.sl m rows)) H := rfl
def boxK (o : Option AObj) (K : List SV → Prop) : Prop := ∃ cells, o = some (.box cells) ∧ K cells
def boxKT (o : Option AObj) (K : List SV → Prop) (t : Th K) : Prop := boxK o K
theorem boxK_t {o : Option AObj} {K : List SV → Prop} : boxK o K = boxKT o K ⟨⟩ := rfl
theorem boxK_ {cells : List SV} {K : List SV → Prop} : boxK (some (.box cells)) K = K cells := by simp [boxK]
theorem boxK_T {cells : List SV} {K : List SV → Prop} {th : Th _} : boxKT (some (.box cells)) K th = K cells := boxK_
def rowK (o : Option AObj) (K : Bool → TypeId → Nat → List (List Cell) → Prop) : Prop := ∃ st e m xs, o = some (.row st e m xs) ∧ K st e m xs
def rowKT (o : Option AObj) (K : Bool → TypeId → Nat → List (List Cell) → Prop) (t : Th K) : Prop := rowK o K
theorem rowK_t {o : Option AObj} {K : Bool → TypeId → Nat → List (List Cell) → Prop} : rowK o K = rowKT o K ⟨⟩ := rfl
theorem rowK_ {st : Bool} {e m : Nat} {xs : List (List Cell)} {K : Bool → TypeId → Nat → List (List Cell) → Prop} : rowK (some (.row st e m xs)) K = K st e m xs := by
  simp only [rowK, eq_iff_iff]
  constructor
  · rintro ⟨_, _, _, _, a, b⟩; simp only [Option.some.injEq, AObj.row.injEq] at a; obtain ⟨rfl, rfl, rfl, rfl⟩ := a; exact b
  · intro b; exact ⟨_, _, _, _, rfl, b⟩
theorem rowK_T {st : Bool} {e m : Nat} {xs : List (List Cell)} {K : Bool → TypeId → Nat → List (List Cell) → Prop} {th : Th _} : rowKT (some (.row st e m xs)) K th = K st e m xs := rowK_
def loadK (ag : Bool) (n : Nat) (v : SV) (H : List AObj) (K : SV → List AObj → Prop) : Prop := match v with
  | .ptr r off => boxK (H[r]?) fun cells => needs (off + n ≤ cells.length ∧ (ag = false → n = 1)) (go K (if ag then .ag ((cells.drop off).take n) else cells.getD off .top) H)
  | .dp cs => needs (n ≤ cs.length ∧ (ag = false → n = 1)) (go K (if ag then .ag ((cs.take n).map .c) else .c (cs.getD 0 (.sc undef))) H)
  | _ => False
def loadKT (ag : Bool) (n : Nat) (v : SV) (H : List AObj) (K : SV → List AObj → Prop) (t : Th (H, K)) : Prop := loadK ag n v H K
theorem loadK_t {ag : Bool} {n : Nat} {v : SV} {H : List AObj} {K : SV → List AObj → Prop} : loadK ag n v H K = loadKT ag n v H K ⟨⟩ := rfl
theorem aop_load {ag : Bool} {n : Nat} {x : Operand} : aop P (.load ag n x) ev H K Qp = loadK ag n (ev x) H K := by
  simp only [aop, loadK]
  generalize ev x = v; split <;> simp only [boxK, needs, go]
  · simp only [eq_iff_iff]
    constructor
    · rintro ⟨c, a, b, d, e⟩; exact ⟨c, a, ⟨b, e⟩, d⟩
    · rintro ⟨c, a, ⟨b, e⟩, d⟩; exact ⟨c, a, b, d, e⟩
  · simp only [eq_iff_iff]
    constructor
    · rintro ⟨b, d, e⟩; exact ⟨⟨b, e⟩, d⟩
    · rintro ⟨⟨b, e⟩, d⟩; exact ⟨b, d, e⟩
theorem loadK_pa {n r off : Nat} : loadK true n (.ptr r off) H K = boxK (H[r]?) fun cells => needs (off + n ≤ cells.length) (go K (.ag ((cells.drop off).take n)) H) := by simp [loadK]
theorem loadK_paT {n r off : Nat} {th : Th _} : loadKT true n (.ptr r off) H K th = boxK (H[r]?) fun cells => needs (off + n ≤ cells.length) (go K (.ag ((cells.drop off).take n)) H) := loadK_pa
theorem loadK_p1 {r off : Nat} : loadK false 1 (.ptr r off) H K = boxK (H[r]?) fun cells => needs (off < cells.length) (go K (cells.getD off .top) H) := by simp [loadK, Nat.succ_le_iff]
theorem loadK_p1T {r off : Nat} {th : Th _} : loadKT false 1 (.ptr r off) H K th = boxK (H[r]?) fun cells => needs (off < cells.length) (go K (cells.getD off .top) H) := loadK_p1
theorem loadK_da {n : Nat} {cs : List Cell} : loadK true n (.dp cs) H K = needs (n ≤ cs.length) (go K (.ag ((cs.take n).map .c)) H) := by simp [loadK]
theorem loadK_daT {n : Nat} {cs : List Cell} {th : Th _} : loadKT true n (.dp cs) H K th = needs (n ≤ cs.length) (go K (.ag ((cs.take n).map .c)) H) := loadK_da
theorem loadK_d1 {cs : List Cell} : loadK false 1 (.dp cs) H K = needs (0 < cs.length) (go K (.c (cs.getD 0 (.sc undef))) H) := by simp [loadK, Nat.succ_le_iff]
theorem loadK_d1T {cs : List Cell} {th : Th _} : loadKT false 1 (.dp cs) H K th = needs (0 < cs.length) (go K (.c (cs.getD 0 (.sc undef))) H) := loadK_d1
def storeK (n : Nat) (v : SV) (x : SV) (H : List AObj) (K : SV → List AObj → Prop) : Prop := match v with
  | .ptr r off => boxK (H[r]?) fun cells => bnd (svc x) fun vs => needs (vs.length = n ∧ off + n ≤ cells.length) (go K .top (H.set r (.box (splice cells off vs))))
  | _ => False
def storeKT (n : Nat) (v : SV) (x : SV) (H : List AObj) (K : SV → List AObj → Prop) (t : Th (x, H, K)) : Prop := storeK n v x H K
theorem storeK_t {n : Nat} {v : SV} {x : SV} {H : List AObj} {K : SV → List AObj → Prop} : storeK n v x H K = storeKT n v x H K ⟨⟩ := rfl
theorem storeK_ {n r off : Nat} {x : SV} : storeK n (.ptr r off) x H K = boxK (H[r]?) fun cells => bnd (svc x) fun vs => needs (vs.length = n ∧ off + n ≤ cells.length) (go K .top (H.set r (.box (splice cells off vs)))) := rfl
theorem storeK_T {n r off : Nat} {x : SV} {th : Th _} : storeKT n (.ptr r off) x H K th = boxK (H[r]?) fun cells => bnd (svc x) fun vs => needs (vs.length = n ∧ off + n ≤ cells.length) (go K .top (H.set r (.box (splice cells off vs)))) := storeK_
theorem aop_store {n : Nat} {x v : Operand} : aop P (.store n x v) ev H K Qp = storeK n (ev x) (ev v) H K := by
  simp only [aop, storeK]
  generalize ev x = v; split <;> simp only [boxK, bnd, needs, go]
  simp only [eq_iff_iff]
  constructor
  · rintro ⟨a, b, c, d, e, f, g⟩; exact ⟨a, c, b, d, ⟨e, f⟩, g⟩
  · rintro ⟨a, c, b, d, ⟨e, f⟩, g⟩; exact ⟨a, b, c, d, e, f, g⟩
def nilK (v : SV) (H : List AObj) (K : SV → List AObj → Prop) : Prop := match v with
  | .ptr r off => boxK (H[r]?) fun _ => go K (.ptr r off) H
  | .dp cs => go K (.dp cs) H
  | .fn f a b => go K (.fn f a b) H
  | _ => False
def nilKT (v : SV) (H : List AObj) (K : SV → List AObj → Prop) (t : Th (H, K)) : Prop := nilK v H K
theorem nilK_t {v : SV} {H : List AObj} {K : SV → List AObj → Prop} : nilK v H K = nilKT v H K ⟨⟩ := rfl
theorem nilK_p {r off : Nat} : nilK (.ptr r off) H K = boxK (H[r]?) fun _ => go K (.ptr r off) H := rfl
theorem nilK_pT {r off : Nat} {th : Th _} : nilKT (.ptr r off) H K th = boxK (H[r]?) fun _ => go K (.ptr r off) H := nilK_p
theorem nilK_d {cs : List Cell} : nilK (.dp cs) H K = go K (.dp cs) H := rfl
theorem nilK_dT {cs : List Cell} {th : Th _} : nilKT (.dp cs) H K th = go K (.dp cs) H := nilK_d
theorem nilK_f {f : Nat} {a b : List SV} : nilK (.fn f a b) H K = go K (.fn f a b) H := rfl
theorem nilK_fT {f : Nat} {a b : List SV} {th : Th _} : nilKT (.fn f a b) H K th = go K (.fn f a b) H := nilK_f
theorem aop_nilc {x : Operand} : aop P (.nilc x) ev H K Qp = nilK (ev x) H K := by
  simp only [aop, nilK]
  generalize ev x = v; split <;> simp [boxK, go]
def binK' (op : BinOp) (bk : BK) (H : List AObj) (x y : SV) (K : SV → List AObj → Prop) : Prop := binK op bk H x y fun v => K v H
def binKT (op : BinOp) (bk : BK) (H : List AObj) (x y : SV) (K : SV → List AObj → Prop) (t : Th (H, K)) : Prop := binK' op bk H x y K
theorem binK_t {op : BinOp} {bk : BK} {H : List AObj} {x y : SV} {K : SV → List AObj → Prop} : binK' op bk H x y K = binKT op bk H x y K ⟨⟩ := rfl
theorem aop_bin {op : BinOp} {bk : BK} {x y : Operand} : aop P (.bin op bk x y) ev H K Qp = binK' op bk H (ev x) (ev y) K := rfl
theorem binK_sc {op : BinOp} {bk : BK} {a b : Value} : binK' op bk H (.c (.sc a)) (.c (.sc b)) K = bnd (binV op bk a b) fun v => go K (scv v) H := rfl
theorem binK_scT {op : BinOp} {bk : BK} {a b : Value} {th : Th _} : binKT op bk H (.c (.sc a)) (.c (.sc b)) K th = bnd (binV op bk a b) fun v => go K (scv v) H := binK_sc
theorem binK_se {m : Nat} {xs : List (List Cell)} : binK' .eql .slice H (.c (.sl m xs)) (.c (.sc (.slice none 0 0))) K = nilD (xs = []) (go K (scv (.bool true)) H) (go K (scv (.bool false)) H) := by simp [binK', binK, nilD, go]
theorem binK_seT {m : Nat} {xs : List (List Cell)} {th : Th _} : binKT .eql .slice H (.c (.sl m xs)) (.c (.sc (.slice none 0 0))) K th = nilD (xs = []) (go K (scv (.bool true)) H) (go K (scv (.bool false)) H) := binK_se
theorem binK_sn {m : Nat} {xs : List (List Cell)} : binK' .neq .slice H (.c (.sl m xs)) (.c (.sc (.slice none 0 0))) K = nilD (xs = []) (go K (scv (.bool false)) H) (go K (scv (.bool true)) H) := by simp [binK', binK, nilD, go]
theorem binK_snT {m : Nat} {xs : List (List Cell)} {th : Th _} : binKT .neq .slice H (.c (.sl m xs)) (.c (.sc (.slice none 0 0))) K th = nilD (xs = []) (go K (scv (.bool false)) H) (go K (scv (.bool true)) H) := binK_sn
theorem binK_pe {r off : Nat} : binK' .eql .ptr H (.ptr r off) (.c (.sc (.pointer none))) K = boxK (H[r]?) fun _ => go K (scv (.bool false)) H := by simp [binK', binK, boxK, go]
theorem binK_peT {r off : Nat} {th : Th _} : binKT .eql .ptr H (.ptr r off) (.c (.sc (.pointer none))) K th = boxK (H[r]?) fun _ => go K (scv (.bool false)) H := binK_pe
theorem binK_pn {r off : Nat} : binK' .neq .ptr H (.ptr r off) (.c (.sc (.pointer none))) K = boxK (H[r]?) fun _ => go K (scv (.bool true)) H := by simp [binK', binK, boxK, go]
theorem binK_pnT {r off : Nat} {th : Th _} : binKT .neq .ptr H (.ptr r off) (.c (.sc (.pointer none))) K th = boxK (H[r]?) fun _ => go K (scv (.bool true)) H := binK_pn
theorem binK_de {cs : List Cell} : binK' .eql .ptr H (.dp cs) (.c (.sc (.pointer none))) K = go K (scv (.bool false)) H := by simp [binK', binK, go]
theorem binK_deT {cs : List Cell} {th : Th _} : binKT .eql .ptr H (.dp cs) (.c (.sc (.pointer none))) K th = go K (scv (.bool false)) H := binK_de
theorem binK_dn {cs : List Cell} : binK' .neq .ptr H (.dp cs) (.c (.sc (.pointer none))) K = go K (scv (.bool true)) H := by simp [binK', binK, go]
theorem binK_dnT {cs : List Cell} {th : Th _} : binKT .neq .ptr H (.dp cs) (.c (.sc (.pointer none))) K th = go K (scv (.bool true)) H := binK_dn
theorem str_beq (s s' : ByteArray) : (s.toList == s'.toList) = decide (s = s') := by
  rw [ByteArray.toList_eq, ByteArray.toList_eq, Bool.eq_iff_iff]
  simp only [beq_iff_eq, decide_eq_true_eq]
  constructor
  · intro h; cases s; cases s'; congr; exact Array.toList_inj.1 h
  · rintro rfl; rfl
def eqsK (neg : Bool) (ks : List Nat) (x y : SV) (H : List AObj) (K : SV → List AObj → Prop) : Prop := match x, y with
  | .ag xs, .ag ys => bnd (eqL ks xs ys) fun b => go K (scv (.bool (if neg then !b else b))) H
  | _, _ => False
def eqsKT (neg : Bool) (ks : List Nat) (x y : SV) (H : List AObj) (K : SV → List AObj → Prop) (t : Th (H, K)) : Prop := eqsK neg ks x y H K
theorem eqsK_t {neg : Bool} {ks : List Nat} {x y : SV} {H : List AObj} {K : SV → List AObj → Prop} : eqsK neg ks x y H K = eqsKT neg ks x y H K ⟨⟩ := rfl
theorem eqsK_e {ks : List Nat} {xs ys : List SV} {th : Th (H, K)} : eqsKT false ks (.ag xs) (.ag ys) H K th = bnd (eqL ks xs ys) fun b => go K (.c (.sc (.bool b))) H := rfl
theorem eqsK_n {ks : List Nat} {xs ys : List SV} {th : Th (H, K)} : eqsKT true ks (.ag xs) (.ag ys) H K th = bnd (eqL ks xs ys) fun b => go K (.c (.sc (.bool !b))) H := rfl
theorem aop_eqs {neg : Bool} {ks : List Nat} {x y : Operand} : aop P (.eqs neg ks x y) ev H K Qp = eqsK neg ks (ev x) (ev y) H K := by
  simp only [aop, eqsK]
  generalize ev x = v; generalize ev y = u
  split
  · rfl
  · split <;> first | rfl | simp_all
def eqP (p q : Option Bool) : Option Bool := match p, q with
  | some p, some q => some (p && q)
  | _, _ => none
theorem eqP_ {p q : Bool} : eqP (some p) (some q) = some (p && q) := rfl
theorem eqL_n : eqL [] [] [] = some true := rfl
theorem eqL_c {k : Nat} {ks : List Nat} {a b : Value} {xs ys : List SV} : eqL (k :: ks) (.c (.sc a) :: xs) (.c (.sc b) :: ys) = eqP (eqC k a b) (eqL ks xs ys) := rfl
theorem eqC_i {k : IntKind} {a b : Int} : eqC 0 (.int k a) (.int k b) = some (decide (a = b)) := by simp [eqC]
theorem eqC_b {a b : Bool} : eqC 1 (.bool a) (.bool b) = some (a == b) := rfl
theorem eqC_s {a b : ByteArray} : eqC 2 (.string a) (.string b) = some (decide (a = b)) := by
  simp only [eqC, Option.some.injEq]
  rw [beq_toListBytes, str_beq]
theorem eqC_f {k : FloatKind} {a b : Nat} : eqC 3 (.float k a) (.float k b) = some (k.format.order a b == some .eq) := by simp [eqC]
theorem scv_ {v : Value} : scv v = .c (.sc v) := rfl
section
variable {bk : BK} {k : IntKind} {a b : Int}
theorem bv_add : binV .add bk (.int k a) (.int k b) = some (.int k (k.wrap (a + b))) := by simp [binV]
theorem bv_sub : binV .sub bk (.int k a) (.int k b) = some (.int k (k.wrap (a - b))) := by simp [binV]
theorem bv_mul : binV .mul bk (.int k a) (.int k b) = some (.int k (k.wrap (a * b))) := by simp [binV]
theorem bv_quo : binV .quo bk (.int k a) (.int k b) = if b ≠ 0 then some (.int k (k.wrap (a.tdiv b))) else none := by simp [binV]
theorem bv_rem : binV .rem bk (.int k a) (.int k b) = if b ≠ 0 then some (.int k (a.tmod b)) else none := by simp [binV]
theorem bv_and : binV .and bk (.int k a) (.int k b) = some (.int k (k.wrap (BitVec.ofInt k.bits a &&& BitVec.ofInt k.bits b).toNat)) := by simp [binV]
theorem bv_or : binV .or bk (.int k a) (.int k b) = some (.int k (k.wrap (BitVec.ofInt k.bits a ||| BitVec.ofInt k.bits b).toNat)) := by simp [binV]
theorem bv_xor : binV .xor bk (.int k a) (.int k b) = some (.int k (k.wrap (BitVec.ofInt k.bits a ^^^ BitVec.ofInt k.bits b).toNat)) := by simp [binV]
theorem bv_shl {k' : IntKind} : binV .shl bk (.int k a) (.int k' b) = if b < 0 then none else some (.int k (k.wrap (a * 2 ^ (min b.toNat k.bits)))) := by simp [binV]
theorem bv_shr {k' : IntKind} : binV .shr bk (.int k a) (.int k' b) = if b < 0 then none else some (.int k (a.fdiv (2 ^ (min b.toNat k.bits)))) := by simp [binV]
theorem bv_eql : binV .eql bk (.int k a) (.int k b) = some (.bool (decide (a = b))) := by simp [binV]; rfl
theorem bv_neq : binV .neq bk (.int k a) (.int k b) = some (.bool (!decide (a = b))) := by simp [binV, bne]; rfl
theorem bv_lss : binV .lss bk (.int k a) (.int k b) = some (.bool (decide (a < b))) := by simp [binV]
theorem bv_leq : binV .leq bk (.int k a) (.int k b) = some (.bool (decide (a ≤ b))) := by simp [binV]
theorem bv_gtr : binV .gtr bk (.int k a) (.int k b) = some (.bool (decide (b < a))) := by simp [binV]
theorem bv_geq : binV .geq bk (.int k a) (.int k b) = some (.bool (decide (b ≤ a))) := by simp [binV]
end
theorem bs_eql {bk : BK} {s s' : ByteArray} : binV .eql bk (.string s) (.string s') = some (.bool (decide (s = s'))) := by simp [binV, str_beq]
theorem bs_neq {bk : BK} {s s' : ByteArray} : binV .neq bk (.string s) (.string s') = some (.bool (!decide (s = s'))) := by simp [binV, str_beq]
theorem bs_lss {bk : BK} {s s' : ByteArray} : binV .lss bk (.string s) (.string s') = some (.bool (Op.bytesLess s.toList s'.toList)) := by simp [binV]
theorem bb_eql {b b' : Bool} : binV .eql .bool (.bool b) (.bool b') = some (.bool (b == b')) := by simp [binV]
theorem bb_neq {b b' : Bool} : binV .neq .bool (.bool b) (.bool b') = some (.bool (!(b == b'))) := by simp [binV]
theorem bf_eql {bk : BK} {k : FloatKind} {a b : Nat} : binV .eql bk (.float k a) (.float k b) = some (.bool (k.format.order a b == some .eq)) := by simp [binV]
theorem bf_neq {bk : BK} {k : FloatKind} {a b : Nat} : binV .neq bk (.float k a) (.float k b) = some (.bool (k.format.order a b != some .eq)) := by simp [binV]
theorem bf_lss {bk : BK} {k : FloatKind} {a b : Nat} : binV .lss bk (.float k a) (.float k b) = some (.bool (k.format.order a b == some .lt)) := by simp [binV]
theorem bf_gtr {bk : BK} {k : FloatKind} {a b : Nat} : binV .gtr bk (.float k a) (.float k b) = some (.bool (k.format.order a b == some .gt)) := by simp [binV]
theorem bn_eql : binV .eql .slice (.slice none 0 0) (.slice none 0 0) = some (.bool true) := by simp [binV]
theorem bn_neq : binV .neq .slice (.slice none 0 0) (.slice none 0 0) = some (.bool false) := by simp [binV]
theorem bp_eql : binV .eql .ptr (.pointer none) (.pointer none) = some (.bool true) := by simp [binV]
theorem bp_neq : binV .neq .ptr (.pointer none) (.pointer none) = some (.bool false) := by simp [binV]
def unK (op : UnOp) (v : SV) (H : List AObj) (K : SV → List AObj → Prop) : Prop := match v with
  | .c (.sc a) => bnd (unV op a) fun v => go K (scv v) H
  | _ => False
def unKT (op : UnOp) (v : SV) (H : List AObj) (K : SV → List AObj → Prop) (t : Th (H, K)) : Prop := unK op v H K
theorem unK_t {op : UnOp} {v : SV} {H : List AObj} {K : SV → List AObj → Prop} : unK op v H K = unKT op v H K ⟨⟩ := rfl
theorem unK_ {op : UnOp} {a : Value} : unK op (.c (.sc a)) H K = bnd (unV op a) fun v => go K (scv v) H := rfl
theorem unK_T {op : UnOp} {a : Value} {th : Th _} : unKT op (.c (.sc a)) H K th = bnd (unV op a) fun v => go K (scv v) H := unK_
theorem aop_un {op : UnOp} {x : Operand} : aop P (.un op x) ev H K Qp = unK op (ev x) H K := by
  simp only [aop, unK]
  generalize ev x = v; split <;> simp [bnd, go]
theorem un_not {b : Bool} : unV .not (.bool b) = some (.bool (!b)) := by simp [unV]
theorem un_neg {k : IntKind} {n : Int} : unV .neg (.int k n) = some (.int k (k.wrap (0 - n))) := by simp [unV]
theorem un_negf {k : FloatKind} {n : Nat} : unV .neg (.float k n) = some (.float k (Op.negFloat k n)) := by simp [unV]
theorem aop_cvi {k : IntKind} {x : Operand} : aop P (.cvi k x) ev H K Qp = bnd (asInt (ev x)) fun q => go K (scv (.int k (k.wrap q.2))) H := rfl
theorem aop_cvs {x : Operand} : aop P (.cvs x) ev H K Qp = bnd (asStr (ev x)) fun s => go K (scv (.string s)) H := by
  simp only [aop, bnd, go]
  congr 1
  funext s
  simp only [eq_iff_iff, and_congr_right_iff]
  intro h
  unfold asStr at h
  split at h
  · rename_i s' e; obtain rfl := Option.some.inj h; rw [e]; exact Iff.rfl
  · cases h
theorem aop_b2s {x : Operand} : aop P (.b2s x) ev H K Qp = bnd (asSl (ev x)) fun q => bnd (rowBytes q.2) fun l => go K (scv (.string ⟨l.toArray⟩)) H := by simp [aop, bnd, go]
theorem aop_s2b {e : Nat} {x : Operand} : aop P (.s2b e x) ev H K Qp = bnd (asStr (ev x)) fun s => needs (s.size ≤ 140737488355328) (go K (.c (.sl 1 (byteRows s))) H) := rfl
theorem aop_i2f {k : FloatKind} {x : Operand} : aop P (.i2f k x) ev H K Qp = bnd (asInt (ev x)) fun q => go K (scv (.float k (k.nearest q.2))) H := rfl
def mkiK (t : Nat) (v : SV) (H : List AObj) (K : SV → List AObj → Prop) : Prop := match v with
  | .c (.sc v) => go K (.ifc t v) H
  | _ => False
def mkiKT (n : Nat) (v : SV) (H : List AObj) (K : SV → List AObj → Prop) (t : Th (H, K)) : Prop := mkiK n v H K
theorem mkiK_t {n : Nat} {v : SV} {H : List AObj} {K : SV → List AObj → Prop} : mkiK n v H K = mkiKT n v H K ⟨⟩ := rfl
theorem mkiK_ {t : Nat} {v : Value} : mkiK t (.c (.sc v)) H K = go K (.ifc t v) H := rfl
theorem mkiK_T {t : Nat} {v : Value} {th : Th _} : mkiKT t (.c (.sc v)) H K th = go K (.ifc t v) H := mkiK_
theorem aop_mki {t : Nat} {x : Operand} : aop P (.mki t x) ev H K Qp = mkiK t (ev x) H K := by simp only [aop, mkiK]; generalize ev x = v; split <;> first | rfl | (split <;> first | rfl | simp_all)
theorem aop_mkf {f : Nat} {first caps : List Operand} : aop P (.mkf f first caps) ev H K Qp = go K (.fn f (first.map ev) (caps.map ev)) H := rfl
theorem aop_cut {e m : Nat} {x : Operand} {lo hi : Option Operand} : aop P (.cut e m x lo hi none) ev H K Qp = bnd (asSl (ev x)) fun q => bnd (optInt ev 0 lo) fun l => bnd (optInt ev q.2.length hi) fun h => needs ((q.2 ≠ [] → q.1 = m) ∧ 0 ≤ l ∧ l ≤ h ∧ h ≤ q.2.length) (go K (.c (.sl m ((q.2.take h.toNat).drop l.toNat))) H) := by
  simp only [aop, bnd, needs, go, eq_iff_iff]
  constructor
  · rintro ⟨q, l, h, a, b, c, d, e, f, g, k⟩; exact ⟨q, a, l, c, h, d, ⟨b, e, f, g⟩, k⟩
  · rintro ⟨q, a, l, c, h, d, ⟨b, e, f, g⟩, k⟩; exact ⟨q, l, h, a, b, c, d, e, f, g, k⟩
theorem aop_cutm {e m : Nat} {x y : Operand} {lo hi : Option Operand} : aop P (.cut e m x lo hi (some y)) ev H K Qp = bnd (asSl (ev x)) fun q => bnd (optInt ev 0 lo) fun l => bnd (optInt ev q.2.length hi) fun h => bnd (asInt (ev y)) fun z => needs (z.2 = h ∧ (q.2 ≠ [] → q.1 = m) ∧ 0 ≤ l ∧ l ≤ h ∧ h ≤ q.2.length) (go K (.row H.length ((q.2.take h.toNat).drop l.toNat).length) (H ++ [.row false e m ((q.2.take h.toNat).drop l.toNat)])) := by
  simp only [aop, bnd, needs, go, eq_iff_iff]
  constructor
  · rintro ⟨q, l, h, a, b, c, d, e, f, g, ⟨k, j⟩, r⟩; exact ⟨q, a, l, c, h, d, _, j, ⟨rfl, b, e, f, g⟩, r⟩
  · rintro ⟨q, a, l, c, h, d, ⟨z1, z2⟩, j, ⟨rfl, b, e, f, g⟩, r⟩; exact ⟨q, l, _, a, b, c, d, e, f, g, ⟨_, j⟩, r⟩
theorem aop_cutS {x : Operand} {lo hi : Option Operand} : aop P (.cutS x lo hi) ev H K Qp = bnd (asStr (ev x)) fun s => bnd (optInt ev 0 lo) fun l => bnd (optInt ev s.size hi) fun h => needs (0 ≤ l ∧ l ≤ h ∧ h ≤ s.size) (go K (scv (.string (s.extract l.toNat h.toNat))) H) := by
  simp only [aop, bnd, needs, go, eq_iff_iff]
  constructor
  · rintro ⟨q, l, h, a, c, d, e, f, g, k⟩; exact ⟨q, a, l, c, h, d, ⟨e, f, g⟩, k⟩
  · rintro ⟨q, a, l, c, h, d, ⟨e, f, g⟩, k⟩; exact ⟨q, l, h, a, c, d, e, f, g, k⟩
theorem optInt_n {d : Int} : optInt ev d none = some d := rfl
theorem optInt_s {d : Int} {x : Operand} : optInt ev d (some x) = (asInt (ev x)).map (·.2) := rfl
def fadK (off : Nat) (v : SV) (H : List AObj) (K : SV → List AObj → Prop) : Prop := match v with
  | .ptr r o => boxK (H[r]?) fun _ => go K (.ptr r (o + off)) H
  | .dp cs => go K (.dp (cs.drop off)) H
  | _ => False
def fadKT (n : Nat) (v : SV) (H : List AObj) (K : SV → List AObj → Prop) (t : Th (H, K)) : Prop := fadK n v H K
theorem fadK_t {n : Nat} {v : SV} {H : List AObj} {K : SV → List AObj → Prop} : fadK n v H K = fadKT n v H K ⟨⟩ := rfl
theorem fadK_p {off r o : Nat} : fadK off (.ptr r o) H K = boxK (H[r]?) fun _ => go K (.ptr r (o + off)) H := rfl
theorem fadK_pT {off r o : Nat} {th : Th _} : fadKT off (.ptr r o) H K th = boxK (H[r]?) fun _ => go K (.ptr r (o + off)) H := fadK_p
theorem fadK_d {off : Nat} {cs : List Cell} : fadK off (.dp cs) H K = go K (.dp (cs.drop off)) H := rfl
theorem fadK_dT {off : Nat} {cs : List Cell} {th : Th _} : fadKT off (.dp cs) H K th = go K (.dp (cs.drop off)) H := fadK_d
theorem aop_fad {off : Nat} {x : Operand} : aop P (.fad off x) ev H K Qp = fadK off (ev x) H K := by
  simp only [aop, fadK]; generalize ev x = v; split <;> simp [boxK, go]
theorem aop_iad {m : Nat} {x i : Operand} : aop P (.iad m x i) ev H K Qp = bnd (asSl (ev x)) fun q => bnd (asInt (ev i)) fun k => needs (q.1 = m ∧ 0 ≤ k.2 ∧ k.2 < q.2.length) (go K (.dp (q.2.getD k.2.toNat [])) H) := by
  simp only [aop, bnd, needs, go, eq_iff_iff]
  constructor
  · rintro ⟨q, k, a, b, c, d, e, f⟩; exact ⟨q, a, k, b, ⟨c, d, e⟩, f⟩
  · rintro ⟨q, a, k, b, ⟨c, d, e⟩, f⟩; exact ⟨q, k, a, b, c, d, e, f⟩
def iadAK (m : Nat) (n : Nat) (v : SV) (H : List AObj) (K : SV → List AObj → Prop) : Prop := match v with
  | .ptr r o => boxK (H[r]?) fun _ => go K (.ptr r (o + n * m)) H
  | _ => False
def iadAKT (m n : Nat) (v : SV) (H : List AObj) (K : SV → List AObj → Prop) (t : Th (H, K)) : Prop := iadAK m n v H K
theorem iadAK_t {m n : Nat} {v : SV} {H : List AObj} {K : SV → List AObj → Prop} : iadAK m n v H K = iadAKT m n v H K ⟨⟩ := rfl
theorem iadAK_ {m n r o : Nat} : iadAK m n (.ptr r o) H K = boxK (H[r]?) fun _ => go K (.ptr r (o + n * m)) H := rfl
theorem iadAK_T {m n r o : Nat} {th : Th _} : iadAKT m n (.ptr r o) H K th = boxK (H[r]?) fun _ => go K (.ptr r (o + n * m)) H := iadAK_
theorem aop_iadA {len m : Nat} {x i : Operand} : aop P (.iadA len m x i) ev H K Qp = bnd (asInt (ev i)) fun k => needs (0 ≤ k.2 ∧ k.2 < len) (iadAK m k.2.toNat (ev x) H K) := by
  simp only [aop, bnd, needs, iadAK, eq_iff_iff]
  generalize ev x = v
  constructor
  · rintro ⟨k, a, b, c, d⟩
    refine ⟨k, a, ⟨b, c⟩, ?_⟩
    cases v <;> simp_all [boxK, go]
  · rintro ⟨k, a, ⟨b, c⟩, d⟩
    refine ⟨k, a, b, c, ?_⟩
    cases v <;> simp_all [boxK, go]
def fldK (ag : Bool) (off n : Nat) (v : SV) (H : List AObj) (K : SV → List AObj → Prop) : Prop := match v with
  | .ag cs => needs (off + n ≤ cs.length ∧ (ag = false → n = 1)) (go K (if ag then .ag ((cs.drop off).take n) else cs.getD off .top) H)
  | _ => False
def fldKT (ag : Bool) (off n : Nat) (v : SV) (H : List AObj) (K : SV → List AObj → Prop) (t : Th (H, K)) : Prop := fldK ag off n v H K
theorem fldK_t {ag : Bool} {off n : Nat} {v : SV} {H : List AObj} {K : SV → List AObj → Prop} : fldK ag off n v H K = fldKT ag off n v H K ⟨⟩ := rfl
theorem fldK_a {off n : Nat} {cs : List SV} : fldK true off n (.ag cs) H K = needs (off + n ≤ cs.length) (go K (.ag ((cs.drop off).take n)) H) := by simp [fldK]
theorem fldK_aT {off n : Nat} {cs : List SV} {th : Th _} : fldKT true off n (.ag cs) H K th = needs (off + n ≤ cs.length) (go K (.ag ((cs.drop off).take n)) H) := fldK_a
theorem fldK_1 {off : Nat} {cs : List SV} : fldK false off 1 (.ag cs) H K = needs (off < cs.length) (go K (cs.getD off .top) H) := by simp [fldK, Nat.succ_le_iff]
theorem fldK_1T {off : Nat} {cs : List SV} {th : Th _} : fldKT false off 1 (.ag cs) H K th = needs (off < cs.length) (go K (cs.getD off .top) H) := fldK_1
theorem aop_fld {ag : Bool} {off n : Nat} {x : Operand} : aop P (.fld ag off n x) ev H K Qp = fldK ag off n (ev x) H K := by
  simp only [aop, fldK]
  generalize ev x = v; split
  · simp only [needs, go, eq_iff_iff]
    constructor
    · rintro ⟨a, b, c⟩; exact ⟨⟨a, c⟩, b⟩
    · rintro ⟨⟨a, c⟩, b⟩; exact ⟨a, b, c⟩
  · first | rfl | (split <;> first | rfl | simp_all)
theorem aop_idx {x i : Operand} : aop P (.idx x i) ev H K Qp = bnd (asStr (ev x)) fun s => bnd (asInt (ev i)) fun k => needs (0 ≤ k.2 ∧ k.2 < s.size) (go K (scv (.int .u8 ((s.data.getD k.2.toNat 0).toNat))) H) := by
  simp only [aop, bnd, needs, go, eq_iff_iff]
  constructor
  · rintro ⟨q, k, a, b, d, e, f⟩; exact ⟨q, a, k, b, ⟨d, e⟩, f⟩
  · rintro ⟨q, a, k, b, ⟨d, e⟩, f⟩; exact ⟨q, k, a, b, d, e, f⟩
def extK (i : Nat) (v : SV) (H : List AObj) (K : SV → List AObj → Prop) : Prop := match v with
  | .tup vs => needs (i < vs.length) (go K (vs.getD i .top) H)
  | _ => False
def extKT (n : Nat) (v : SV) (H : List AObj) (K : SV → List AObj → Prop) (t : Th (H, K)) : Prop := extK n v H K
theorem extK_t {n : Nat} {v : SV} {H : List AObj} {K : SV → List AObj → Prop} : extK n v H K = extKT n v H K ⟨⟩ := rfl
theorem extK_ {i : Nat} {vs : List SV} : extK i (.tup vs) H K = needs (i < vs.length) (go K (vs.getD i .top) H) := rfl
theorem extK_T {i : Nat} {vs : List SV} {th : Th _} : extKT i (.tup vs) H K th = needs (i < vs.length) (go K (vs.getD i .top) H) := extK_
theorem aop_ext {i : Nat} {x : Operand} : aop P (.ext x i) ev H K Qp = extK i (ev x) H K := by simp only [aop, extK]; generalize ev x = v; split <;> first | rfl | (split <;> first | rfl | simp_all)
theorem aop_call {f : Operand} {args : List Operand} : aop P (.call f args) ev H K Qp = bnd (callee (ev f)) fun q => callP P q.1 (q.2.1 ++ args.map ev ++ q.2.2) H K Qp := rfl
theorem callee_ {f : Nat} {a b : List SV} : callee (.fn f a b) = some (f, a, b) := rfl
theorem aop_lenS {x : Operand} : aop P (.len true x) ev H K Qp = bnd (asStr (ev x)) fun s => go K (scv (.int .i64 s.size)) H := rfl
def lenK (v : SV) (H : List AObj) (K : SV → List AObj → Prop) : Prop := match v with
  | .row r n => rowK (H[r]?) fun _ _ _ xs => needs (xs.length = n) (giv (n ≤ 9223372036854775807) (go K (scv (.int .i64 n)) H))
  | x => bnd (asSl x) fun q => giv (q.2.length ≤ 9223372036854775807) (go K (scv (.int .i64 q.2.length)) H)
def lenKT (v : SV) (H : List AObj) (K : SV → List AObj → Prop) (t : Th (H, K)) : Prop := lenK v H K
theorem lenK_t {v : SV} {H : List AObj} {K : SV → List AObj → Prop} : lenK v H K = lenKT v H K ⟨⟩ := rfl
theorem lenK_r {r n : Nat} : lenK (.row r n) H K = rowK (H[r]?) fun _ _ _ xs => needs (xs.length = n) (giv (n ≤ 9223372036854775807) (go K (scv (.int .i64 n)) H)) := rfl
theorem lenK_rT {r n : Nat} {th : Th _} : lenKT (.row r n) H K th = rowK (H[r]?) fun _ _ _ xs => needs (xs.length = n) (giv (n ≤ 9223372036854775807) (go K (scv (.int .i64 n)) H)) := lenK_r
theorem lenK_s {m : Nat} {xs : List (List Cell)} : lenK (.c (.sl m xs)) H K = giv (xs.length ≤ 9223372036854775807) (go K (scv (.int .i64 xs.length)) H) := by simp [lenK, asSl, bnd]
theorem lenK_sT {m : Nat} {xs : List (List Cell)} {th : Th _} : lenKT (.c (.sl m xs)) H K th = giv (xs.length ≤ 9223372036854775807) (go K (scv (.int .i64 xs.length)) H) := lenK_s
theorem lenK_n : lenK (.c (.sc (.slice none 0 0))) H K = go K (scv (.int .i64 0)) H := by simp [lenK, asSl, bnd, giv]
theorem lenK_nT {th : Th _} : lenKT (.c (.sc (.slice none 0 0))) H K th = go K (scv (.int .i64 0)) H := lenK_n
theorem aop_len {x : Operand} : aop P (.len false x) ev H K Qp = lenK (ev x) H K := by
  simp only [aop, lenK]
  generalize ev x = v; split
  · simp only [rowK, needs, giv, go, eq_iff_iff]
    constructor
    · rintro ⟨⟨st, e, m, xs, a, b⟩, c⟩; exact ⟨st, e, m, xs, a, b, c⟩
    · rintro ⟨st, e, m, xs, a, b, c⟩; exact ⟨⟨st, e, m, xs, a, b⟩, c⟩
  · simp [bnd, giv, go]
def appK (m bytes e : Nat) (v x : SV) (H : List AObj) (K : SV → List AObj → Prop) : Prop := match v with
  | .row r n => rowK (H[r]?) fun st e' m' xs => bnd (srcOf x) fun ys => needs (e' = e ∧ m' = m ∧ xs.length = n ∧ (∀ y ∈ ys, y.length = m) ∧ (xs.length + ys.length) * bytes ≤ 140737488355328) (go K (.row r (xs.length + ys.length)) (H.set r (.row st e m (xs ++ ys))))
  | _ => False
def appKT (m bytes e : Nat) (v x : SV) (H : List AObj) (K : SV → List AObj → Prop) (t : Th (x, H, K)) : Prop := appK m bytes e v x H K
theorem appK_t {m bytes e : Nat} {v x : SV} {H : List AObj} {K : SV → List AObj → Prop} : appK m bytes e v x H K = appKT m bytes e v x H K ⟨⟩ := rfl
theorem appK_ {m bytes e r n : Nat} {x : SV} : appK m bytes e (.row r n) x H K = rowK (H[r]?) fun st e' m' xs => bnd (srcOf x) fun ys => needs (e' = e ∧ m' = m ∧ xs.length = n ∧ (∀ y ∈ ys, y.length = m) ∧ (xs.length + ys.length) * bytes ≤ 140737488355328) (go K (.row r (xs.length + ys.length)) (H.set r (.row st e m (xs ++ ys)))) := rfl
theorem appK_T {m bytes e r n : Nat} {x : SV} {th : Th _} : appKT m bytes e (.row r n) x H K th = rowK (H[r]?) fun st e' m' xs => bnd (srcOf x) fun ys => needs (e' = e ∧ m' = m ∧ xs.length = n ∧ (∀ y ∈ ys, y.length = m) ∧ (xs.length + ys.length) * bytes ≤ 140737488355328) (go K (.row r (xs.length + ys.length)) (H.set r (.row st e m (xs ++ ys)))) := appK_
theorem aop_app {m bytes e : Nat} {z : List Value} {s x : Operand} : aop P (.app m bytes z e s x) ev H K Qp = appK m bytes e (ev s) (ev x) H K := by
  simp only [aop, appK]
  generalize ev s = v; split
  · simp only [rowK, bnd, needs, go, eq_iff_iff]
    constructor
    · rintro ⟨st, xs, ys, a, b, c, d, f, g⟩; exact ⟨st, _, _, xs, a, ys, c, ⟨rfl, rfl, b, d, f⟩, g⟩
    · rintro ⟨st, _, _, xs, a, ys, c, ⟨rfl, rfl, b, d, f⟩, g⟩; exact ⟨st, xs, ys, a, b, c, d, f, g⟩
  · first | rfl | (split <;> first | rfl | simp_all)
def mmK (isMax : Bool) (x y : SV) (H : List AObj) (K : SV → List AObj → Prop) : Prop := match x, y with
  | .c (.sc a), .c (.sc c) => bnd (mmV isMax a c) fun v => go K (scv v) H
  | _, _ => False
def mmKT (b : Bool) (x y : SV) (H : List AObj) (K : SV → List AObj → Prop) (t : Th (H, K)) : Prop := mmK b x y H K
theorem mmK_t {b : Bool} {x y : SV} {H : List AObj} {K : SV → List AObj → Prop} : mmK b x y H K = mmKT b x y H K ⟨⟩ := rfl
theorem mmK_ {b : Bool} {x y : Value} : mmK b (.c (.sc x)) (.c (.sc y)) H K = bnd (mmV b x y) fun v => go K (scv v) H := rfl
theorem mmK_T {b : Bool} {x y : Value} {th : Th _} : mmKT b (.c (.sc x)) (.c (.sc y)) H K th = bnd (mmV b x y) fun v => go K (scv v) H := mmK_
theorem aop_mm {b : Bool} {x y : Operand} : aop P (.mm b [x, y]) ev H K Qp = mmK b (ev x) (ev y) H K := by
  simp only [aop, mmK]; generalize ev x = v; generalize ev y = u; split <;> simp [bnd, go]
theorem mm_max {k : IntKind} {a b : Int} : mmV true (.int k a) (.int k b) = some (.int k (max a b)) := by
  simp only [mmV, if_true]; congr 2; omega
theorem mm_min {k : IntKind} {a b : Int} : mmV false (.int k a) (.int k b) = some (.int k (min a b)) := by
  simp only [mmV, if_true, Bool.false_eq_true, if_false]; congr 2; omega
def panK (v : SV) (H : List AObj) (Qp : Value → List AObj → Prop) : Prop := match v with
  | .ifc t v => Qp (.iface t v) H
  | _ => False
def panKT (v : SV) (H : List AObj) (Qp : Value → List AObj → Prop) (t : Th (H, Qp)) : Prop := panK v H Qp
theorem panK_t {v : SV} {H : List AObj} {Qp : Value → List AObj → Prop} : panK v H Qp = panKT v H Qp ⟨⟩ := rfl
theorem panK_ {t : Nat} {v : Value} : panK (.ifc t v) H Qp = Qp (.iface t v) H := rfl
theorem panK_T {t : Nat} {v : Value} {th : Th _} : panKT (.ifc t v) H Qp th = Qp (.iface t v) H := panK_
theorem aop_pan {x : Operand} : aop P (.panic x) ev H K Qp = panK (ev x) H Qp := by simp only [aop, panK]; generalize ev x = v; split <;> first | rfl | (split <;> first | rfl | simp_all)

/-! ### Parts -/
theorem svc_c {x : Cell} : svc (.c x) = some [.c x] := rfl
theorem svc_p {r o : Nat} : svc (.ptr r o) = some [.ptr r o] := rfl
theorem svc_d {cs : List Cell} : svc (.dp cs) = some [.dp cs] := rfl
theorem svc_r {r n : Nat} : svc (.row r n) = some [.row r n] := rfl
theorem svc_f {f : Nat} {a b : List SV} : svc (.fn f a b) = some [.fn f a b] := rfl
theorem svc_i {t : Nat} {v : Value} : svc (.ifc t v) = some [.ifc t v] := rfl
def allOne : List SV → Bool
  | [] => true
  | x :: xs => isOne x && allOne xs
theorem allOne_ (xs : List SV) : xs.all isOne = allOne xs := by induction xs <;> simp_all [allOne]
theorem svc_a {xs : List SV} : svc (.ag xs) = if allOne xs then some xs else none := by rw [← allOne_]; rfl
theorem allOne_n : allOne [] = true := rfl
theorem allOne_c {x : Cell} {xs : List SV} : allOne (.c x :: xs) = allOne xs := rfl
theorem allOne_p {r o : Nat} {xs : List SV} : allOne (.ptr r o :: xs) = allOne xs := rfl
theorem allOne_d {cs : List Cell} {xs : List SV} : allOne (.dp cs :: xs) = allOne xs := rfl
theorem allOne_r {r o : Nat} {xs : List SV} : allOne (.row r o :: xs) = allOne xs := rfl
theorem allOne_f {f : Nat} {a b : List SV} {xs : List SV} : allOne (.fn f a b :: xs) = allOne xs := rfl
theorem allOne_m {xs : List Cell} : allOne (xs.map .c) = true := by induction xs <;> simp_all [allOne, isOne]
theorem allOne_tm {xs : List Cell} {n : Nat} : allOne ((xs.map SV.c).take n) = true := by rw [← List.map_take]; exact allOne_m
theorem dcs_n : dcs [] = some [] := rfl
theorem dcs_c {x : Cell} {xs : List SV} : dcs (.c x :: xs) = (dcs xs).map (x :: ·) := rfl
theorem datac_a {xs : List SV} : datac (.ag xs) = dcs xs := rfl
theorem datac_c {x : Cell} : datac (.c x) = some [x] := rfl
theorem asSl_s {m : Nat} {xs : List (List Cell)} : asSl (.c (.sl m xs)) = some (m, xs) := rfl
theorem asSl_n : asSl (.c (.sc (.slice none 0 0))) = some (0, []) := rfl
theorem asStr_ {s : ByteArray} : asStr (.c (.sc (.string s))) = some s := rfl
theorem asInt_ {k : IntKind} {n : Int} : asInt (.c (.sc (.int k n))) = some (k, n) := rfl
theorem srcOf_ {x : SV} : srcOf x = (asSl x).map (·.2) := rfl
theorem buildV_n {cs : List SV} : buildV ev cs [] = some cs := rfl
def bldK (o : Option (List SV)) (off n : Nat) (cs : List SV) (K : List SV → Option (List SV)) : Option (List SV) := match o with
  | some xs => if xs.length = n ∧ off + n ≤ cs.length then K (splice cs off xs) else none
  | none => none
theorem bldK_ {xs : List SV} {off n : Nat} {cs : List SV} {K : List SV → Option (List SV)} : bldK (some xs) off n cs K = if xs.length = n ∧ off + n ≤ cs.length then K (splice cs off xs) else none := rfl
theorem buildV_c {cs : List SV} {off n : Nat} {x : Operand} {ps : List (Nat × Nat × Operand)} : buildV ev cs ((off, n, x) :: ps) = bldK (svc (ev x)) off n cs fun cs' => buildV ev cs' ps := rfl
theorem splice_ {cs xs : List SV} {off : Nat} : splice cs off xs = cs.take off ++ xs ++ cs.drop (off + xs.length) := rfl
theorem slitV_n {m : Nat} : slitV ev m [] = some [] := rfl
def sltK (o : Option (List Cell)) (m : Nat) (r : Option (List (List Cell))) : Option (List (List Cell)) := match o, r with
  | some cs, some r => if cs.length = m then some (cs :: r) else none
  | _, _ => none
theorem sltK_ {cs : List Cell} {m : Nat} {r : List (List Cell)} : sltK (some cs) m (some r) = if cs.length = m then some (cs :: r) else none := rfl
theorem slitV_c {m : Nat} {x : Operand} {xs : List Operand} : slitV ev m (x :: xs) = sltK (datac (ev x)) m (slitV ev m xs) := rfl

/-! ### Loops and ends -/
theorem AW_inv (hm : P.follows .mixedOrders = true) {b : ACode} {Q : AExit → AState → Prop} (Inv : Nat → AState → Prop) {n : Nat} {s : AState} (h : Inv n s) (step : ∀ n s, Inv n s → W P N ds b (thenQ (fun s' => ∃ m s'', m < n ∧ Wk s' s'' ∧ Inv m s'') Q) s) : AW P N ds (.loop b) Q s := by
  refine AW_loop (n + 1) ?_
  have : ∀ k n s, n < k → Inv n s → Rnd P N ds b Q k s := by
    intro k
    induction k with
    | zero => intro n s h; omega
    | succ k ih =>
      intro n s hn hi
      refine AW_mono (AW_of_W hm (step n s hi)) fun e s' he => ?_
      cases e with
      | normal =>
        obtain ⟨m, s'', hm', hw, hi'⟩ := he
        exact Rnd_wk hw (ih m s'' (by omega) hi')
      | exit => exact he
      | ret => exact he
      | pan => exact he
  exact this (n + 1) n s (Nat.lt_succ_self n) h
theorem AW_cut {c : ACode} {Q : AExit → AState → Prop} {s : AState} (keep : List Bool) (live : List Nat) (h1 : keep.length ≤ s.H.length) (h2 : s.k ≤ keep.length) (h : AW P N ds c Q ⟨s.k, frzT keep s.H s.t live, keepH keep s.H⟩) : AW P N ds c Q s := AW_wk (Wk_cut keep live h1 h2) h
theorem pc_of {f np N : Nat} {res : List RV} {code : ACode} (hm : P.follows .mixedOrders = true) (hc : compF P f = some ⟨np, N, res, code⟩) {args : List SV} {o : Out} (hn : args.length ≤ N) (h : W P N [] code (RetQ res fun o' H' => o' = o ∧ H' = []) ⟨0, enter 0 args, []⟩) : PC P f args o := by unfold PC; exact ⟨bod_of hc, acalls_of_AW hc hn (AW_of_W hm h)⟩
theorem ac_of {f np N : Nat} {res : List RV} {code : ACode} (hm : P.follows .mixedOrders = true) (hc : compF P f = some ⟨np, N, res, code⟩) {args : List SV} {H : List AObj} {R : Out → List AObj → Prop} (hn : args.length ≤ N) (h : W P N [] code (RetQ res R) ⟨H.length, enter 0 args, H⟩) : ACalls P f args H R := acalls_of_AW hc hn (AW_of_W hm h)
/-- What is given back, and what is kept. -/
theorem ret_i {res : List RV} {R : Out → List AObj → Prop} {s : AState} {v : SV} (keep : List Bool) (hv : resS s res = some v) (h1 : keep.length ≤ s.H.length) (h2 : s.k ≤ keep.length) (h : R (.ret (frz keep s.H v)) (keepH keep s.H)) : RetQ res R .ret s := ⟨v, hv, _, _, Clo_cut keep h1 h2, h⟩
theorem ret_n {res : List RV} {R : Out → List AObj → Prop} {s : AState} {v : SV} (keep : List Bool) (hv : resS s res = some v) (h1 : keep.length ≤ s.H.length) (h2 : s.k ≤ keep.length) (h : R (.ret (frz keep s.H v)) (keepH keep s.H)) : RetQ res R .normal s := ⟨v, hv, _, _, Clo_cut keep h1 h2, h⟩
theorem ret_p {t : Nat} {o : Out} {x : List (Nat × SV)} {H : List AObj} (h : Out.ret (frz [] H (lk t x)) = o) : RetQ [.tmp t] (fun o' H' => o' = o ∧ H' = []) .ret ⟨0, x, H⟩ := ret_i [] rfl (Nat.zero_le _) (Nat.le_refl _) ⟨h, rfl⟩
theorem retb {t : Nat} {x : List (Nat × SV)} {H : List AObj} {b b' : Bool} (hv : lk t x = .c (.sc (.bool b))) (h : b = b') : RetQ [.tmp t] (fun o' H' => o' = Out.ret (.c (.sc (.bool b'))) ∧ H' = []) .ret ⟨0, x, H⟩ := ret_p (by rw [hv, h]; rfl)
theorem reti {t : Nat} {x : List (Nat × SV)} {H : List AObj} {k : IntKind} {n n' : Int} (hv : lk t x = .c (.sc (.int k n))) (h : n = n') : RetQ [.tmp t] (fun o' H' => o' = Out.ret (.c (.sc (.int k n'))) ∧ H' = []) .ret ⟨0, x, H⟩ := ret_p (by rw [hv, h]; rfl)
theorem ret_ps {res : List RV} {o : Out} {x : List (Nat × SV)} {H : List AObj} {v : SV} (hv : resS ⟨0, x, H⟩ res = some v) (h : Out.ret (frz [] H v) = o) : RetQ res (fun o' H' => o' = o ∧ H' = []) .ret ⟨0, x, H⟩ := ret_i [] hv (Nat.zero_le _) (Nat.le_refl _) ⟨h, rfl⟩
theorem ret_pp {res : List RV} {o : Out} {s : AState} {p : Value} (hk : s.k = 0) (h : Out.pan p = o) : RetQ res (fun o' H' => o' = o ∧ H' = []) (.pan p) s := ⟨[], Clo_cut [] (Nat.zero_le _) (by simp [hk]), h, rfl⟩
/-- A pure call, in the walk. -/
theorem call_p {f : Nat} {args : List SV} {v : SV} (h : PC P f args (.ret v)) (hd : SV.data.dataAll args = true) (hv : v.data = true) (k : go K v H) : callP P f args H K Qp := callP_pure h hd (fun _ e => by obtain rfl := Out.ret.inj e; exact ⟨hv, k⟩) fun _ e => by cases e
theorem call_l {f : Nat} {args : List SV} {v : SV} (h : PC P f (frz.frzL [] H args) (.ret v)) (hd : SV.data.dataAll (frz.frzL [] H args) = true) (hv : v.flat = true) (k : go K v H) : callP P f args H K Qp := callP_lend h hd (fun _ e => by obtain rfl := Out.ret.inj e; exact ⟨hv, k⟩) fun _ e => by cases e
theorem call_pan {f : Nat} {args : List SV} {p : Value} (h : PC P f args (.pan p)) (hd : SV.data.dataAll args = true) (k : Qp p H) : callP P f args H K Qp := callP_pure h hd (fun _ e => by cases e) fun _ e => by obtain rfl := Out.pan.inj e; exact k
theorem call_h {f : Nat} {args : List SV} {v : SV} {H' : List AObj} (hb : Bod P f) (h : ACalls P f args H fun o H1 => o = .ret v ∧ H1 = H') (k : go K v H') : callP P f args H K Qp := callP_of hb h (fun _ _ e => by obtain ⟨e, rfl⟩ := e; obtain rfl := Out.ret.inj e; exact k) fun _ _ e => by cases e.1
end
/-! ### Fewer slots -/
def pickT (t : List (Nat × SV)) : List Nat → List (Nat × SV)
  | [] => []
  | i :: l => (i, lk i t) :: pickT t l
theorem lk_pickT {t : List (Nat × SV)} {l : List Nat} (i : Nat) : lk i (pickT t l) = .top ∨ lk i (pickT t l) = lk i t := by
  induction l with
  | nil => exact .inl rfl
  | cons j l ih =>
    simp only [pickT, lk]
    split
    · rename_i e; subst e; exact .inr rfl
    · exact ih
theorem Wk_live {k : Nat} {t : List (Nat × SV)} {H : List AObj} (live : List Nat) : Wk ⟨k, t, H⟩ ⟨k, pickT t live, H⟩ := fun N ds E w I ρ a hs =>
  ⟨I, ρ, hs.fr, hs.mv, hs.k, hs.h, hs.n, hs.ds, fun i => by
    rcases lk_pickT (t := t) (l := live) i with e | e
    · dsimp only; rw [e]; exact .top
    · dsimp only; rw [e]; exact hs.t i⟩
theorem ret_s {res : List RV} {o : Out} {k : Nat} {x : List (Nat × SV)} {H : List AObj} {v : SV} {e : AExit} (he : e = .ret ∨ e = .normal) (hv : resS ⟨k, x, H⟩ res = some v) (h : Out.ret v = o) : RetQ res (fun o' H' => o' = o ∧ H' = H) e ⟨k, x, H⟩ := by
  rcases he with rfl | rfl <;> exact ⟨v, hv, v, H, Clo.refl _ _ _, h, rfl⟩
section
variable {P : Program} {H : List AObj} {K : SV → List AObj → Prop} {Qp : Value → List AObj → Prop}
theorem need {c K : Prop} {th : Th K} (h : c) (k : K) : needsT c K th := ⟨h, k⟩
theorem give {c K : Prop} {th : Th K} (h : c → K) : givT c K th := h
theorem fork {b : Bool} {A B : Prop} {th : Th (A, B)} (h : b = true → A) (k : b = false → B) : brT b A B th := br_i h k
def brdT (p : Prop) [Decidable p] (A B : Prop) (th : Th (A, B)) : Prop := (p → A) ∧ (¬ p → B)
theorem brd_ {p : Prop} [Decidable p] {A B : Prop} {th : Th (A, B)} : brT (decide p) A B th = brdT p A B th := by
  by_cases h : p <;> simp [brT, br, brdT, h]
theorem brd_t {i : Decidable True} {A B : Prop} {th : Th (A, B)} : brdT True A B th = A := by simp [brdT]
theorem brd_f {i : Decidable False} {A B : Prop} {th : Th (A, B)} : brdT False A B th = B := by simp [brdT]
theorem forkq {p : Prop} [Decidable p] {A B : Prop} {th : Th (A, B)} (h : ¬ ¬ p → decide p = true → A) (k : ¬ p → decide p = false → B) : brdT p A B th := ⟨fun x => h (fun y => y x) (decide_eq_true x), fun x => k x (decide_eq_false x)⟩
theorem forkd {p : Prop} [Decidable p] {A B : Prop} {th : Th (A, B)} (h : p → A) (k : ¬ p → B) : brdT p A B th := ⟨h, k⟩
theorem bnd_go {α : Type} {o : Option α} {K : α → Prop} {th : Th K} (x : α) (h : o = some x) (k : K x) : bndT o K th := ⟨x, h, k⟩
theorem qv_iT {c K : SV → Prop} {th : Th K} (v : SV) (h : c v) (k : K v) : qvT c K th := ⟨v, h, k⟩
theorem calls_p {f : Nat} {args : List SV} {v : SV} {th : Th (K, Qp)} (h : PC P f args (.ret v)) (hd : SV.data.dataAll args = true) (hv : v.data = true) (k : go K v H) : callPT P f args H K Qp th := call_p h hd hv k
theorem qv_q {f : Nat} {args : List SV} {v : SV} {H2 : List AObj} {K : SV → Prop} {th : Th K} {Qp : Value → List AObj → Prop} {th' : (v : SV) → Th ((fun v1 H1 => v1 = v ∧ H1 = H2), Qp)} (h : PC P f args (.ret v)) (hd : SV.data.dataAll args = true) (hv : v.data = true) (hH : H = H2) (k : K v) : qvT (fun v' => callPT P f args H (fun v1 H1 => v1 = v' ∧ H1 = H2) Qp (th' v')) K th := ⟨v, calls_p h hd hv ⟨rfl, hH⟩, k⟩
theorem qv_p {f : Nat} {args : List SV} {v : SV} {K : SV → Prop} {th : Th K} {Qp : Value → List AObj → Prop} {th' : (v : SV) → Th ((fun v1 H1 => v1 = v ∧ H1 = H), Qp)} (h : PC P f args (.ret v)) (hd : SV.data.dataAll args = true) (hv : v.data = true) (k : K v) : qvT (fun v' => callPT P f args H (fun v1 H1 => v1 = v' ∧ H1 = H) Qp (th' v')) K th := ⟨v, calls_p h hd hv ⟨rfl, rfl⟩, k⟩
theorem qv_need {c : Prop} {F : SV → Prop} {th : (v : SV) → Th (F v)} {K : SV → Prop} {t : Th K} (h : c) (k : qv F K) : qvT (fun v => needsT c (F v) (th v)) K t := by
  obtain ⟨v, a, b⟩ := k
  exact ⟨v, ⟨h, a⟩, b⟩
theorem qv_give {c : Prop} {F : SV → Prop} {th : (v : SV) → Th (F v)} {K : SV → Prop} {t : Th K} (k : qv F K) : qvT (fun v => givT c (F v) (th v)) K t := by
  obtain ⟨v, a, b⟩ := k
  exact ⟨v, fun _ => a, b⟩
theorem calls_l {f : Nat} {args : List SV} {v : SV} {th : Th (K, Qp)} (h : PC P f (frz.frzL [] H args) (.ret v)) (hd : SV.data.dataAll (frz.frzL [] H args) = true) (hv : v.flat = true) (k : go K v H) : callPT P f args H K Qp th := call_l h hd hv k
theorem calls_pan {f : Nat} {args : List SV} {p : Value} {th : Th (K, Qp)} (h : PC P f args (.pan p)) (hd : SV.data.dataAll args = true) (k : Qp p H) : callPT P f args H K Qp th := call_pan h hd k
theorem calls_h {f : Nat} {args : List SV} {v : SV} {H' : List AObj} {th : Th (K, Qp)} (hb : Bod P f) (h : ACalls P f args H fun o H1 => o = .ret v ∧ H1 = H') (k : go K v H') : callPT P f args H K Qp th := call_h hb h k
end
/-- A call that knows of the boxes of m only. -/
theorem calls_s {P : Program} {H : List AObj} {K : SV → List AObj → Prop} {Qp : Value → List AObj → Prop} {f : Nat} {args args0 : List SV} {H0 : List AObj} {R0 : Out → List AObj → Prop} {th : Th (K, Qp)} (m : List Nat) (hb : Bod P f) (h : ACalls P f args0 H0 R0)
    (hn : m.Nodup) (hr : ∀ r ∈ m, r < H.length) (hH : m.map (fun r => H[r]?) = H0.map fun o => some (renO (mu m H.length) o)) (ha : args = ren.renL (mu m H.length) args0)
    (k : ∀ v H0', R0 (.ret v) H0' → go K (ren (mu m H.length) v) (upd (renO (mu m H.length)) H m H0')) (kp : ∀ p H0', R0 (.pan p) H0' → Qp p (upd (renO (mu m H.length)) H m H0')) : callPT P f args H K Qp th := by
  subst ha
  have hl : H0.length = m.length := by have := congrArg List.length hH; simpa using this.symm
  refine callP_of hb (ACalls.sub hn hr hl (fun i hi => ?_) h) ?_ ?_
  · have := congrArg (fun l => l[i]?) hH
    simp only [List.getElem?_map, List.getElem?_eq_getElem hi, List.getElem?_eq_getElem (show i < H0.length by omega), Option.map_some, Option.some.injEq] at this
    rw [show mu m H.length i = m[i] by simp [mu, hi], this, List.getElem?_eq_getElem (show i < H0.length by omega)]
    rfl
  · rintro v H' ⟨o0, H0', hR, e, rfl⟩
    cases o0 with
    | ret u => simp only [renOut, Out.ret.injEq] at e; subst e; exact k u H0' hR
    | pan p => simp [renOut] at e
  · rintro p H' ⟨o0, H0', hR, e, rfl⟩
    cases o0 with
    | ret u => simp [renOut] at e
    | pan q => simp only [renOut, Out.pan.injEq] at e; subst e; exact kp p H0' hR
/-- A call that the model itself answers. -/
theorem calls_x {P : Program} {H : List AObj} {K : SV → List AObj → Prop} {Qp : Value → List AObj → Prop} {f : Nat} {fn : Func} {e : Array Value → Sem Value} (hf : P.funcs[f]? = some fn) (hname : (fn.name == "runtime.NumGoroutine") = false) (hb : fn.body.isNone = true) (hn : Extern.findNext fn = none) (he : Extern.find fn = some e)
    {a v : Value} {th : Th (K, Qp)} (hrun : ∀ w, (e #[a]).run P w = .ok v w) (h1 : v.oneCell' = true) (k : go K (.c (.sc v)) H) : callPT P f [.c (.sc a)] H K Qp th := by
  refine .inr fun w I ρ vs hr hv => ?_
  have hvs : vs = #[a] := by
    cases hv with
    | tup hl h =>
    have h0 := h 0 (by simp) (by rw [hl]; simp)
    simp only [List.getElem_cons_zero] at h0
    have := h0.sc_inv.1
    apply Array.ext (by simpa using hl)
    intro i hi hi'
    obtain rfl : i = 0 := by simp at hi'; omega
    simpa using this
  subst hvs
  exact ⟨v, .c (.sc v), w, H, I, ρ, by rw [run_callFunc_extern hf hname hb hn he, hrun]; rfl, Fr.refl .., Mv.refl .., hr, SVR.sc h1, k⟩
/-! ### Held against each other: two ways to go on -/
section
variable {P : Program} {H : List AObj} {K : SV → List AObj → Prop} {bk : BK} {k : IntKind} {a b : Int} {th : Th (H, K)}
theorem cmp_d {p : Prop} [Decidable p] : (bnd (some (Value.bool (decide p))) fun v => go K (scv v) H) = brdT p (go K (.c (.sc (.bool true))) H) (go K (.c (.sc (.bool false))) H) ⟨⟩ := by
  by_cases h : p <;> simp [bnd, brdT, h, scv]
theorem cmp_n {p : Prop} [Decidable p] : (bnd (some (Value.bool (!decide p))) fun v => go K (scv v) H) = brdT p (go K (.c (.sc (.bool false))) H) (go K (.c (.sc (.bool true))) H) ⟨⟩ := by
  by_cases h : p <;> simp [bnd, brdT, h, scv]
theorem bk_eql : binKT .eql bk H (.c (.sc (.int k a))) (.c (.sc (.int k b))) K th = brdT (a = b) (go K (.c (.sc (.bool true))) H) (go K (.c (.sc (.bool false))) H) ⟨⟩ := by
  rw [← cmp_d]; simp only [binKT, binK_sc, bv_eql]
theorem bk_neq : binKT .neq bk H (.c (.sc (.int k a))) (.c (.sc (.int k b))) K th = brdT (a = b) (go K (.c (.sc (.bool false))) H) (go K (.c (.sc (.bool true))) H) ⟨⟩ := by
  rw [← cmp_n]; simp only [binKT, binK_sc, bv_neq]
theorem bk_lss : binKT .lss bk H (.c (.sc (.int k a))) (.c (.sc (.int k b))) K th = brdT (a < b) (go K (.c (.sc (.bool true))) H) (go K (.c (.sc (.bool false))) H) ⟨⟩ := by
  rw [← cmp_d]; simp only [binKT, binK_sc, bv_lss]
theorem bk_leq : binKT .leq bk H (.c (.sc (.int k a))) (.c (.sc (.int k b))) K th = brdT (a ≤ b) (go K (.c (.sc (.bool true))) H) (go K (.c (.sc (.bool false))) H) ⟨⟩ := by
  rw [← cmp_d]; simp only [binKT, binK_sc, bv_leq]
theorem bk_gtr : binKT .gtr bk H (.c (.sc (.int k a))) (.c (.sc (.int k b))) K th = brdT (b < a) (go K (.c (.sc (.bool true))) H) (go K (.c (.sc (.bool false))) H) ⟨⟩ := by
  rw [← cmp_d]; simp only [binKT, binK_sc, bv_gtr]
theorem bk_geq : binKT .geq bk H (.c (.sc (.int k a))) (.c (.sc (.int k b))) K th = brdT (b ≤ a) (go K (.c (.sc (.bool true))) H) (go K (.c (.sc (.bool false))) H) ⟨⟩ := by
  rw [← cmp_d]; simp only [binKT, binK_sc, bv_geq]
theorem bk_seql {s s' : ByteArray} : binKT .eql bk H (.c (.sc (.string s))) (.c (.sc (.string s'))) K th = brdT (s = s') (go K (.c (.sc (.bool true))) H) (go K (.c (.sc (.bool false))) H) ⟨⟩ := by
  rw [← cmp_d]; simp only [binKT, binK_sc, bs_eql]
theorem bk_sneq {s s' : ByteArray} : binKT .neq bk H (.c (.sc (.string s))) (.c (.sc (.string s'))) K th = brdT (s = s') (go K (.c (.sc (.bool false))) H) (go K (.c (.sc (.bool true))) H) ⟨⟩ := by
  rw [← cmp_n]; simp only [binKT, binK_sc, bs_neq]
theorem bk_add : binKT .add bk H (.c (.sc (.int k a))) (.c (.sc (.int k b))) K th = go K (.c (.sc (.int k (k.wrap (a + b))))) H := by simp only [binKT, binK_sc, bv_add, bnd_some, scv]
theorem bk_sub : binKT .sub bk H (.c (.sc (.int k a))) (.c (.sc (.int k b))) K th = go K (.c (.sc (.int k (k.wrap (a - b))))) H := by simp only [binKT, binK_sc, bv_sub, bnd_some, scv]
theorem bk_mul : binKT .mul bk H (.c (.sc (.int k a))) (.c (.sc (.int k b))) K th = go K (.c (.sc (.int k (k.wrap (a * b))))) H := by simp only [binKT, binK_sc, bv_mul, bnd_some, scv]
theorem bk_and : binKT .and bk H (.c (.sc (.int k a))) (.c (.sc (.int k b))) K th = bnd (binV .and bk (.int k a) (.int k b)) fun v => go K (scv v) H := rfl
theorem bk_or : binKT .or bk H (.c (.sc (.int k a))) (.c (.sc (.int k b))) K th = bnd (binV .or bk (.int k a) (.int k b)) fun v => go K (scv v) H := rfl
theorem bk_xor : binKT .xor bk H (.c (.sc (.int k a))) (.c (.sc (.int k b))) K th = bnd (binV .xor bk (.int k a) (.int k b)) fun v => go K (scv v) H := rfl
theorem bk_quo : binKT .quo bk H (.c (.sc (.int k a))) (.c (.sc (.int k b))) K th = bnd (binV .quo bk (.int k a) (.int k b)) fun v => go K (scv v) H := rfl
theorem bk_rem : binKT .rem bk H (.c (.sc (.int k a))) (.c (.sc (.int k b))) K th = bnd (binV .rem bk (.int k a) (.int k b)) fun v => go K (scv v) H := rfl
theorem bk_shl {k' : IntKind} : binKT .shl bk H (.c (.sc (.int k a))) (.c (.sc (.int k' b))) K th = bnd (binV .shl bk (.int k a) (.int k' b)) fun v => go K (scv v) H := rfl
theorem bk_shr {k' : IntKind} : binKT .shr bk H (.c (.sc (.int k a))) (.c (.sc (.int k' b))) K th = bnd (binV .shr bk (.int k a) (.int k' b)) fun v => go K (scv v) H := rfl
theorem bk_slss {s s' : ByteArray} : binKT .lss bk H (.c (.sc (.string s))) (.c (.sc (.string s'))) K th = bnd (binV .lss bk (.string s) (.string s')) fun v => go K (scv v) H := rfl
theorem bk_b {op : BinOp} {x y : Bool} : binKT op bk H (.c (.sc (.bool x))) (.c (.sc (.bool y))) K th = bnd (binV op bk (.bool x) (.bool y)) fun v => go K (scv v) H := rfl
theorem bk_f {op : BinOp} {f f' : FloatKind} {x y : Nat} : binKT op bk H (.c (.sc (.float f x))) (.c (.sc (.float f' y))) K th = bnd (binV op bk (.float f x) (.float f' y)) fun v => go K (scv v) H := rfl
theorem bk_nn {op : BinOp} : binKT op bk H (.c (.sc (.slice none 0 0))) (.c (.sc (.slice none 0 0))) K th = bnd (binV op bk (.slice none 0 0) (.slice none 0 0)) fun v => go K (scv v) H := rfl
theorem bk_pp {op : BinOp} : binKT op bk H (.c (.sc (.pointer none))) (.c (.sc (.pointer none))) K th = bnd (binV op bk (.pointer none) (.pointer none)) fun v => go K (scv v) H := rfl
theorem eqs_e {ks : List Nat} {xs ys : List SV} : eqsKT false ks (.ag xs) (.ag ys) H K th = bnd (eqL ks xs ys) fun b => br b (go K (.c (.sc (.bool true))) H) (go K (.c (.sc (.bool false))) H) := by
  rw [eqsK_e]; congr 1; funext b; cases b <;> rfl
theorem eqs_n {ks : List Nat} {xs ys : List SV} : eqsKT true ks (.ag xs) (.ag ys) H K th = bnd (eqL ks xs ys) fun b => br b (go K (.c (.sc (.bool false))) H) (go K (.c (.sc (.bool true))) H) := by
  rw [eqsK_n]; congr 1; funext b; cases b <;> rfl
theorem qv_brd {p : Prop} [Decidable p] {A B : SV → Prop} {th : (v : SV) → Th (A v, B v)} {K : SV → Prop} {t : Th K} : qvT (fun v => brdT p (A v) (B v) (th v)) K t = brdT p (qv A K) (qv B K) ⟨⟩ := by
  by_cases h : p <;> simp [qvT, qv, brdT, h]
theorem qv_br {b : Bool} {A B : SV → Prop} {th : (v : SV) → Th (A v, B v)} {K : SV → Prop} {t : Th K} : qvT (fun v => brT b (A v) (B v) (th v)) K t = br b (qv A K) (qv B K) := by
  cases b <;> simp [qvT, qv, brT, br]
theorem brd_y {p : Prop} [Decidable p] {A B : Prop} {th : Th (A, B)} (h : p) (k : A) : brdT p A B th := ⟨fun _ => k, fun x => absurd h x⟩
theorem brd_no {p : Prop} [Decidable p] {A B : Prop} {th : Th (A, B)} (h : ¬ p) (k : B) : brdT p A B th := ⟨fun x => absurd x h, fun _ => k⟩
theorem brs_y {b : Bool} {A B : Prop} {th : Th (A, B)} (h : b = true) (k : A) : brT b A B th := by subst h; exact k
theorem brs_n {b : Bool} {A B : Prop} {th : Th (A, B)} (h : b = false) (k : B) : brT b A B th := by subst h; exact k
theorem calls_b {Qp : Value → List AObj → Prop} {f : Nat} {args : List SV} {b : Bool} {th : Th (K, Qp)} (h : PC P f args (.ret (.c (.sc (.bool b))))) (hd : SV.data.dataAll args = true) (y : b = true → go K (.c (.sc (.bool true))) H) (n : b = false → go K (.c (.sc (.bool false))) H) : callPT P f args H K Qp th := calls_p h hd rfl (by cases b; exact n rfl; exact y rfl)
theorem qv_b {f : Nat} {args : List SV} {b : Bool} {H2 : List AObj} {K : SV → Prop} {th : Th K} {Qp : Value → List AObj → Prop} {th' : (v : SV) → Th ((fun v1 H1 => v1 = v ∧ H1 = H2), Qp)} (h : PC P f args (.ret (.c (.sc (.bool b))))) (hd : SV.data.dataAll args = true) (hH : H = H2) (y : b = true → K (.c (.sc (.bool true)))) (n : b = false → K (.c (.sc (.bool false)))) : qvT (fun v' => callPT P f args H (fun v1 H1 => v1 = v' ∧ H1 = H2) Qp (th' v')) K th := qv_q h hd rfl hH (by cases b; exact n rfl; exact y rfl)
end
attribute [irreducible] nilDT brdT eqsKT goT bndT needsT givT brT callPT condKT guardKT qvT pickKT boxKT rowKT loadKT storeKT nilKT binKT unKT mkiKT fadKT iadAKT fldKT extKT lenKT appKT mmKT panKT
theorem getD_lt {α : Type} {l : List α} {i : Nat} {d : α} (h : i < l.length) : l.getD i d = l[i] := by
  rw [List.getD_eq_getElem?_getD, List.getElem?_eq_getElem h]; rfl
theorem take_all {α : Type} {l : List α} {n : Nat} (h : l.length ≤ n) : l.take n = l := List.take_of_length_le h
theorem wrap64 {n : Int} (h : -9223372036854775808 ≤ n ∧ n ≤ 9223372036854775807) : IntKind.wrap .i64 n = n := by
  simp [IntKind.wrap, IntKind.bits, IntKind.signed]
  split <;> omega
end Go.Proofs.YtbnelpgogjbgjaaGreat.Q
