/- Functions that defer one call, which catches panics of one kind. -/
import Derived.Test.YtbnelpgogjbgjaaGreatCodQt
import Derived.Defers
import Derived.Recover
/- Functions that defer one call, which catches panics of one kind. -/
set_option linter.unusedVariables false
set_option linter.unusedSimpArgs false
namespace Go.Proofs.YtbnelpgogjbgjaaGreat.Q
open Go.RowKit

/-- A deferred call with one slot for its argument. -/
def deferOf (ops : Array Oper) : Option (Nat × Nat) :=
  match ops.toList with
  | [o] => match o.op, o.dst, o.guard with
    | .defer c, none, none => match c.callee, c.args.toList with
      | .value (.func f), [.tmp t] => some (f, t)
      | _, _ => none
    | _, _, _ => none
  | _ => none
structure ADn where
  np : Nat
  N : Nat
  res : List RV
  code : ACode
  fc : Nat
  dt : Nat
  rest : ACode
def compD (P : Program) (f : Nat) : Option ADn :=
  match P.funcs[f]? with
  | some fn => match fn.body with
    | some (.seq a (.seq (.region _ ops false) b)) => match deferOf ops, comp P fn.ntmps a, comp P fn.ntmps b, compRes P fn.results.toList with
      | some (fc, t), some x, some y, some rs => if fn.params.size + fn.nfree ≤ fn.ntmps ∧ fn.name ≠ "runtime.NumGoroutine" then some ⟨fn.params.size + fn.nfree, fn.ntmps, rs, x, fc, t, y⟩ else none
      | _, _, _, _ => none
    | _ => none
  | none => none

/-- What the function that is deferred does: nothing, or it puts the number that a panic bears. -/
structure Catches (P : Program) (fc bt et : Nat) : Prop where
  bod : Bod P fc
  idle : ∀ (ad : Addr) (w : World), CallsD P fc #[.pointer (some ad)] .returning w fun e u' w' => (∃ v, e = .returned v) ∧ u' = .returning ∧ w' = w
  some : ∀ (ad : Addr) (n : Int) (x : Value) (w w1 : World), w.cell? ad = some x → w.frozen? ad = false → (Instr.storeAt et (.pointer (some ad)) (.int .i64 n)).run P w = .ok () w1 →
    CallsD P fc #[.pointer (some ad)] (.panicking [{ v := .iface bt (.int .i64 n), recovered := false }]) w fun e u' w' => (∃ v, e = .returned v) ∧ u' = .panicking [{ v := .iface bt (.int .i64 n), recovered := true }] ∧ w' = w1

def RetD (bt : Nat) (res : List RV) (k r : Nat) (R : Out → List AObj → Prop) : AExit → AState → Prop
  | .normal, s | .ret, s => (∃ x, s.H[r]? = some (.box [x])) ∧ RetQ res R .ret ⟨k, s.t, s.H⟩
  | .pan p, s => ∃ n x, p = .iface bt (.int .i64 n) ∧ s.H[r]? = some (.box [x]) ∧ RetQ res R .ret ⟨k, s.t, s.H.set r (.box [.c (.sc (.int .i64 n))])⟩
  | .exit _, _ => False
def PreD (P : Program) (N bt dt : Nat) (rest : ACode) (res : List RV) (R : Out → List AObj → Prop) : AExit → AState → Prop
  | .normal, s => ∃ r x, lk dt s.t = .ptr r 0 ∧ s.H[r]? = some (.box [x]) ∧ ∀ ds, AW P N ds rest (RetD bt res s.k r R) ⟨s.H.length, s.t, s.H⟩
  | _, _ => False

section
variable {P : Program}
theorem mono_D {f : FuncId} {args : Array Value} {u : FrameMode} {w : World} {R R' : Ending → FrameMode → World → Prop} (h : CallsD P f args u w R) (k : ∀ e u w, R e u w → R' e u w) : CallsD P f args u w R' :=
  fun c cs hc => let ⟨e, u', w', fr, h1, h2⟩ := h c cs hc; ⟨e, u', w', fr, k _ _ _ h1, h2⟩
theorem run_invoke {fc : Nat} (hb : Bod P fc) (args : Array Value) (w : World) : (invoke (.fn (.func fc) #[]) args).run P w = .ok (.enter fc args) w := by
  unfold Bod at hb
  cases hg : P.funcs[fc]? with
  | none => simp [hg] at hb
  | some g =>
  simp only [hg, Option.any_some, Bool.and_eq_true, bne_iff_ne, ne_eq] at hb
  have hb1 : g.body.isNone = false := by cases hb' : g.body <;> simp_all
  have hn : (g.name == "runtime.NumGoroutine") = false := by simpa using hb.2
  simp only [invoke, Array.append_empty, callFunc, program, Sem.run_bind, Sem.run, Result.andThen_ok, hg, hb1]
  simp [hn]

theorem box_cell {w : World} {I : Nat → Prop} {ρ : List (Option Nat)} {H : List AObj} {r b off : Nat} {cells : List SV} (hr : HRel w I ρ H) (hv : SVR w I ρ H (.ptr r off) (.pointer (some ⟨b, off, none⟩))) (hb : H[r]? = some (.box cells)) (hlt : off < cells.length) :
    (∃ x, w.cell? ⟨b, off, none⟩ = some x) ∧ w.frozen? ⟨b, off, none⟩ = false := by
  cases hv with
  | ptr h1 hl hp =>
  obtain ⟨rb, hρ⟩ : ∃ rb, ρ[r]? = some rb := ⟨_, List.getElem?_eq_getElem (by rw [hr.len]; exact hl)⟩
  have hobj := hr.obj r _ rb hb hρ
  cases rb with
  | none => exact hobj.elim
  | some b' =>
    have e := hp b' cells hb hρ
    simp only [Value.pointer.injEq, Option.some.injEq, Addr.mk.injEq, and_true] at e
    subst e
    obtain ⟨vs, e, hheap, hsz, _⟩ := hobj
    exact ⟨⟨_, cells_at hheap off (by omega)⟩, by simp [World.frozen?, hheap]⟩
theorem results_R {N : Nat} {ds : List Deferred} {E : Ent} {w : World} {I : Nat → Prop} {ρ : List (Option Nat)} {s : AState} {a : Act} {fn : Func} {rs : List RV} (hs : SRel N ds E w I ρ s a) (h2 : compRes P fn.results.toList = some rs) {v : SV} (hv : resS s rs = some v) :
    ∃ u, (results fn a.tmps).run P w = .ok u w ∧ SVR w I ρ s.H v u := by
  unfold resS at hv
  split at hv
  · rename_i r
    obtain ⟨us, hus, hl', hall⟩ := resV_R (P := P) hs h2 (vs := [v]) (by simp [resL, hv])
    match us, hl' with
    | [u], _ =>
      refine ⟨u, ?_, hall 0 (by simp) (by simp)⟩
      simp only [results, Array.mapM_eq_mapM_toList, Sem.run_bind, map_eq_pure_bind]
      refine Eq.trans (congrArg (fun x : Result (List Value) => (x.andThen fun a w' => Sem.run P (pure a.toArray) w').andThen fun a w' => Sem.run P (pure (if h : a.size = 1 then a[0] else Value.tuple a)) w') hus) ?_
      simp
  · rename_i hne
    simp only [Option.map_eq_some_iff] at hv
    obtain ⟨svs, hsvs, rfl⟩ := hv
    obtain ⟨us, hus, hl', hall⟩ := resV_R (P := P) hs h2 hsvs
    have hlen1 : us.length ≠ 1 := by
      intro h1'
      have h11 : svs.length = 1 := by omega
      have hrl : ∀ {l : List RV} {ws : List SV}, resL s l = some ws → ws.length = l.length := by
        intro l
        induction l with
        | nil => intro ws h; simp only [resL, Option.some.injEq] at h; subst h; rfl
        | cons r l ih =>
          intro ws h
          simp only [resL] at h
          split at h
          · rename_i h3 h4; obtain rfl := Option.some.inj h; simp [ih h4]
          · cases h
      have := hrl hsvs
      rw [h11] at this
      match rs, hne with
      | [], _ => simp at this
      | [r], hne => exact hne r rfl
      | _ :: _ :: _, _ => simp at this
    refine ⟨.tuple us.toArray, ?_, .tup (by simpa using hl') fun i hi hv => by simpa using hall i hi (by simpa using hv)⟩
    simp only [results, Array.mapM_eq_mapM_toList, Sem.run_bind, map_eq_pure_bind]
    refine Eq.trans (congrArg (fun x : Result (List Value) => (x.andThen fun a w' => Sem.run P (pure a.toArray) w').andThen fun a w' => Sem.run P (pure (if h : a.size = 1 then a[0] else Value.tuple a)) w') hus) ?_
    simp [hlen1]
theorem entry_R {w : World} {I : Nat → Prop} {ρ : List (Option Nat)} {H : List AObj} {args : List SV} {vs : Array Value} {N : Nat} (hr : HRel w I ρ H) (hn : args.length ≤ N) (hv : SVR w I ρ H (.tup args) (.tuple vs)) :
    SRel N [] ⟨w, I, ρ, H⟩ w I ρ ⟨H.length, enter 0 args, H⟩ { tmps := vs ++ Array.replicate (N - vs.size) undef, defers := [] } := by
  cases hv with
  | tup hl hvs =>
  refine ⟨Fr.refl .., Mv.refl .., rfl, hr, by simp; omega, rfl, fun x => ?_⟩
  have := enter_R (w := w) (I := I) (ρ := ρ) (H := H) (n := 0) args 0 vs.toList (by simpa using hl) (fun j hj hv => by simpa using hvs j hj (by simpa using hv)) x
  simp only [Nat.zero_le, if_true, Nat.sub_zero] at this
  have e : (vs ++ Array.replicate (N - vs.size) undef).getD x undef = vs.toList.getD x undef := by
    simp only [Array.getD_eq_getD_getElem?, List.getD_eq_getElem?_getD, Array.getElem?_append, Array.getElem?_toList]
    split
    · rfl
    · rename_i hx
      rw [Array.getElem?_eq_none (xs := vs) (by omega)]
      simp only [Array.getElem?_replicate]
      split <;> rfl
  rw [e]
  exact this
/-- The results at a function's end. -/
theorem fin_R {N : Nat} {ds : List Deferred} {E : Ent} {w : World} {I : Nat → Prop} {ρ : List (Option Nat)} {s : AState} {a : Act} {fn : Func} {rs : List RV} (hs : SRel N ds E w I ρ s a) (h2 : compRes P fn.results.toList = some rs) {R : Out → List AObj → Prop} (hq : RetQ rs R .ret s) :
    ∃ v, (results fn a.tmps).run P w = .ok v w ∧ ∃ o H' I' ρ', R o H' ∧ Fr E.w E.I E.ρ w I' ρ' ∧ Mv E.w E.I E.ρ E.H w I' ρ' H' ∧ HRel w I' ρ' H' ∧ OutR w I' ρ' H' o (.returned v) := by
  obtain ⟨v, hv, v', H', hclo, hR⟩ := hq
  obtain ⟨u, hrun, hsv⟩ := results_R hs h2 hv
  obtain ⟨I'', ρ'', hfr, hmv, hh, hsv'⟩ := hclo w I ρ u _ hs.k hs.mv hs.h hsv
  exact ⟨u, hrun, .ret v', H', I'', ρ'', hR, hs.fr.trans hfr, hmv, hh, hsv'⟩

theorem acalls_of_D {f np N bt et fc dt : Nat} {res : List RV} {code rest : ACode} {i : TypeInfo} (hc : compD P f = some ⟨np, N, res, code, fc, dt, rest⟩) (hi : P.info? et = some i) (hi1 : i.size = 1) (hcat : Catches P fc bt et)
    {args : List SV} (hn : args.length ≤ N) {H : List AObj} {R : Out → List AObj → Prop} (h : AW P N [] code (PreD P N bt dt rest res R) ⟨H.length, enter 0 args, H⟩) : ACalls P f args H R := by
  unfold compD at hc
  split at hc
  · rename_i fn hf
    split at hc
    · rename_i ca id ops cb hb
      split at hc
      · rename_i fc' t' ac bc rs h0 h1 h2 h3
        split at hc
        · simp only [Option.some.injEq, ADn.mk.injEq] at hc
          obtain ⟨rfl, rfl, rfl, rfl, rfl, rfl, rfl⟩ := hc
          intro w I ρ vs hr hv
          refine calls_of_wp_defers hf hb ?_
          have hs := entry_R (N := fn.ntmps) hr hn hv
          refine wp_seq (wp_mono (h ca h1 _ w I ρ _ hs) ?_)
          rintro e a1 w1 ⟨e', s1, I1, ρ1, hr', hs1, hq⟩
          cases e' with
          | exit i => exact hq.elim
          | ret => exact hq.elim
          | pan p => exact hq.elim
          | normal =>
          cases e <;> simp only [exitR] at hr'
          obtain ⟨r, x, hlk, hbox, hrest⟩ := hq
          have hpv := hs1.t t'
          rw [hlk] at hpv
          obtain ⟨b, hptr, _⟩ := ptr_move hs1.h hpv hbox
          -- the deferred call is laid
          obtain ⟨o, ho⟩ : ∃ o, ops = #[o] ∧ ∃ c, o.op = .defer c ∧ o.dst = none ∧ o.guard = none ∧ c.callee = .value (.func fc') ∧ c.args = #[.tmp t'] := by
            unfold deferOf at h0
            split at h0
            · rename_i o hl
              refine ⟨o, Array.ext' (by simpa using hl), ?_⟩
              split at h0
              · rename_i c ho1 ho2 ho3
                split at h0
                · rename_i f t hcal hargs
                  simp only [Option.some.injEq, Prod.mk.injEq] at h0
                  obtain ⟨rfl, rfl⟩ := h0
                  exact ⟨c, ho1, ho2, ho3, hcal, Array.ext' (by simpa using hargs)⟩
                · cases h0
              · cases h0
            · cases h0
          obtain ⟨rfl, c, ho1, ho2, ho3, ho4, ho5⟩ := ho
          have hexec : (execOp a1.eval o).run P w1 = .ok (.defer { target := .fn (.func fc') #[], args := #[.pointer (some ⟨b, 0, none⟩)] }) w1 := by
            simp [execOp, ho1, resolve, ho4, ho5, Deferred.ofValue, Act.eval, ← hptr]
          refine wp_seq (wp_region ?_)
          have hrange : List.range (#[o] : Array Oper).size = [0] := rfl
          rw [hrange]
          simp only [wpOps]
          have h0o : (#[o] : Array Oper)[0]? = some o := rfl
          rw [h0o]
          have hw : Region.wanted o (yielded #[o] a1.tmps) = true := by simp [Region.wanted, ho3]
          simp only [hw, if_true]
          refine .inl ?_
          unfold Oper.wp
          rw [hexec]
          simp only [Oper.upon, ho2, Act.put, Exit.then]
          generalize hd : ({ target := .fn (.func fc') #[], args := #[.pointer (some ⟨b, 0, none⟩)] } : Deferred) = d
          have hs2 : SRel fn.ntmps [d] ⟨w1, I1, ρ1, s1.H⟩ w1 I1 ρ1 ⟨s1.H.length, s1.t, s1.H⟩ { a1 with defers := d :: a1.defers } :=
            ⟨Fr.refl .., Mv.refl .., rfl, hs1.h, hs1.n, by simp [hs1.ds], hs1.t⟩
          refine wp_mono (hrest [d] cb h2 ⟨w1, I1, ρ1, s1.H⟩ w1 I1 ρ1 _ hs2) ?_
          rintro e a3 w3 ⟨e', s3, I3, ρ3, hr3, hs3, hq3⟩
          have hs4 : SRel fn.ntmps [d] ⟨w, I, ρ, H⟩ w3 I3 ρ3 ⟨s1.k, s3.t, s3.H⟩ a3 :=
            ⟨hs1.fr.trans hs3.fr, hs1.mv.trans hs3.mv, hs1.k, hs3.h, hs3.n, hs3.ds, hs3.t⟩
          have fin : ∀ (w4 : World) (I4 : Nat → Prop) (ρ4 : List (Option Nat)) (H4 : List AObj), SRel fn.ntmps [d] ⟨w, I, ρ, H⟩ w4 I4 ρ4 ⟨s1.k, s3.t, H4⟩ a3 → RetQ rs R .ret ⟨s1.k, s3.t, H4⟩ →
              Leaves P fn a3.tmps (fun e w' => ∃ o H' I' ρ', R o H' ∧ Fr w I ρ w' I' ρ' ∧ Mv w I ρ H w' I' ρ' H' ∧ HRel w' I' ρ' H' ∧ OutR w' I' ρ' H' o e) [] .returning w4 := fun w4 I4 ρ4 H4 hs5 hq5 => by
            obtain ⟨v, hrun, hrest⟩ := fin_R hs5 h3 hq5
            exact ⟨v, hrun, hrest⟩
          have hret : (∃ x, s3.H[r]? = some (.box [x])) ∧ RetQ rs R .ret ⟨s1.k, s3.t, s3.H⟩ → Leaves P fn a3.tmps (fun e w' => ∃ o H' I' ρ', R o H' ∧ Fr w I ρ w' I' ρ' ∧ Mv w I ρ H w' I' ρ' H' ∧ HRel w' I' ρ' H' ∧ OutR w' I' ρ' H' o e) a3.defers .returning w3 := by
            rintro ⟨_, hq⟩
            rw [hs3.ds, ← hd]
            refine leaves_cons (by simp) (run_invoke hcat.bod _ _) (mono_D (hcat.idle ⟨b, 0, none⟩ w3) ?_)
            rintro _ _ _ ⟨⟨v, rfl⟩, rfl, rfl⟩
            exact fin _ _ _ _ hs4 hq
          cases e' with
          | exit i => exact hq3.elim
          | normal => cases e <;> simp only [exitR] at hr3; exact hret hq3
          | ret => cases e <;> simp only [exitR] at hr3; exact hret hq3
          | pan p =>
            cases e <;> simp only [exitR] at hr3
            subst hr3
            obtain ⟨n, x, rfl, hb3, hq⟩ := hq3
            have hp3 := hpv.mono hs3.mv
            rw [hptr] at hp3
            obtain ⟨w4, hst, hstp⟩ := box_store (P := P) hi hs3.h hp3 hb3 (u := .int .i64 n) (SVR.sc rfl) rfl (by rw [hi1]; rfl) (by rw [hi1]; exact Nat.le_refl _)
            change Leaves P fn a3.tmps _ a3.defers (.panicking [_]) w3
            rw [hs3.ds, ← hd]
            obtain ⟨⟨y, hy⟩, hz⟩ := box_cell hs3.h hp3 hb3 (by simp)
            refine leaves_cons (by simp) (run_invoke hcat.bod _ _) (mono_D (hcat.some ⟨b, 0, none⟩ n y w3 w4 hy hz hst) ?_)
            rintro _ _ _ ⟨⟨v, rfl⟩, rfl, rfl⟩
            exact fin _ _ _ _ (hs4.step hstp) hq
        · cases hc
      · cases hc
    · cases hc
  · cases hc
theorem bod_of_D {f : Nat} {x : ADn} (hc : compD P f = some x) : Bod P f := by
  unfold compD at hc
  unfold Bod
  split at hc
  · rename_i fn hf
    split at hc
    · rename_i ca id ops cb hb
      split at hc
      · split at hc
        · rename_i hcond
          simp [hf, hb, hcond.2]
        · cases hc
      · cases hc
    · cases hc
  · cases hc
/-- A function that defers. -/
theorem ad_of {f np N bt et fc dt : Nat} {res : List RV} {code rest : ACode} {i : TypeInfo} (hm : P.follows .mixedOrders = true) (hc : compD P f = some ⟨np, N, res, code, fc, dt, rest⟩) (hi : P.info? et = some i) (hi1 : i.size = 1) (hcat : Catches P fc bt et)
    {args : List SV} (hn : args.length ≤ N) {H : List AObj} {R : Out → List AObj → Prop} (h : W P N [] code (PreD P N bt dt rest res R) ⟨H.length, enter 0 args, H⟩) : ACalls P f args H R := acalls_of_D hc hi hi1 hcat hn (AW_of_W hm h)
theorem pd_of {f np N bt et fc dt : Nat} {res : List RV} {code rest : ACode} {i : TypeInfo} (hm : P.follows .mixedOrders = true) (hc : compD P f = some ⟨np, N, res, code, fc, dt, rest⟩) (hi : P.info? et = some i) (hi1 : i.size = 1) (hcat : Catches P fc bt et)
    {args : List SV} (hn : args.length ≤ N) {o : Out} (h : W P N [] code (PreD P N bt dt rest res fun o' H' => o' = o ∧ H' = []) ⟨0, enter 0 args, []⟩) : PC P f args o := by unfold PC; exact ⟨bod_of_D hc, acalls_of_D hc hi hi1 hcat hn (AW_of_W hm h)⟩
/-- The call is laid; the rest follows. -/
theorem preD {N bt dt r k : Nat} {rest : ACode} {res : List RV} {R : Out → List AObj → Prop} {t : List (Nat × SV)} {H : List AObj} {x : SV} (hm : P.follows .mixedOrders = true) (h1 : lk dt t = .ptr r 0) (h2 : H[r]? = some (.box [x])) (h : ∀ ds, W P N ds rest (RetD bt res k r R) ⟨H.length, t, H⟩) :
    PreD P N bt dt rest res R .normal ⟨k, t, H⟩ := ⟨r, x, h1, h2, fun ds => AW_of_W hm (h ds)⟩
theorem retD_r {bt k r : Nat} {res : List RV} {R : Out → List AObj → Prop} {s : AState} {x : SV} (h1 : s.H[r]? = some (.box [x])) (h : RetQ res R .ret ⟨k, s.t, s.H⟩) : RetD bt res k r R .ret s := ⟨⟨x, h1⟩, h⟩
theorem retD_p {bt k r : Nat} {res : List RV} {R : Out → List AObj → Prop} {s : AState} {x : SV} {n : Int} (h1 : s.H[r]? = some (.box [x])) (h : RetQ res R .ret ⟨k, s.t, s.H.set r (.box [.c (.sc (.int .i64 n))])⟩) : RetD bt res k r R (.pan (.iface bt (.int .i64 n))) s := ⟨n, x, rfl, h1, h⟩
end
end Go.Proofs.YtbnelpgogjbgjaaGreat.Q
