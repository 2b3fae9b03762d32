/- Contracts behind bytes: the document's; the statement's walk. -/
import Derived.Test.YtbnelpgogjbgjaaGreatCodJRt
import Derived.Test.YtbnelpgogjbgjaaGreatCodJSh
/- Contracts behind bytes: the document's; the statement's walk. -/
set_option linter.unusedVariables false
set_option linter.unusedSimpArgs false
namespace Go.Proofs.YtbnelpgogjbgjaaGreat.Q
open Go.RowKit

/-- Bytes in a block of their own. -/
theorem CR.own {w : World} {J I : Nat → Prop} {l : List UInt8} {b n cap : Nat} (h : CR w J (.sl 1 (brow l)) (.slice (some ⟨b, 0, none⟩) n cap)) (hb : I b) : CR w I (.sl 1 (brow l)) (.slice (some ⟨b, 0, none⟩) n cap) := by
  cases h with
  | sl _ _ _ _ f hcap hmax hm hA hx =>
    refine .sl 1 _ _ _ f hcap hmax hm (fun h0 => ?_) fun i hi j hj => ?_
    · obtain ⟨a, e, _, hc⟩ := hA h0
      obtain rfl := Option.some.inj e
      exact ⟨_, rfl, hb, hc⟩
    · have h1 := hx i hi j hj
      have hj' : j < 1 := by have := hm _ (List.getElem_mem hi); omega
      obtain rfl : j = 0 := by omega
      have e : (brow l)[i][0] = .sc (.int .u8 (l[i]'(by rw [len_brow] at hi; exact hi)).toNat) := by simp [brow]
      rw [e] at h1 ⊢
      generalize f i 0 = q at h1 ⊢
      cases h1 with
      | sc _ h2 => exact .sc _ h2
/-- A call that reads rows, and makes one of its own, which is taken as data. -/
theorem callP_fresh {P : Program} {f : Nat} {args : List SV} {H : List AObj} {K : SV → List AObj → Prop} {Qp : Value → List AObj → Prop} {e : TypeId} {l : List UInt8} (hb : Bod P f) (h : ACalls P f (frz.frzL [] H args) [] fun o H' => o = .ret (.row 0 l.length) ∧ H' = [.row true e 1 (brow l)])
    (hd : SV.data.dataAll (frz.frzL [] H args) = true) (k : K (bts l) H) : callP P f args H K Qp := by
  refine .inl ⟨hb, fun w I ρ vs hr hargs => ?_⟩
  have h0 : HRel w (cutI [] I ρ) [] [] := hr.empty fun b hb => by
    rcases hb with hb | ⟨r, _, hb⟩
    · exact .inl hb
    · exact .inr ⟨r, hb⟩
  have ha := frz_R (keep := []) hr (Nat.zero_le _) hargs
  simp only [frz] at ha
  refine (h w _ [] vs h0 (ha.mono_data (fun _ _ => rfl) (fun _ h => h) (by simpa [SV.data] using hd))).mono ?_
  rintro ex w' ⟨o', H', I', ρ', ⟨rfl, rfl⟩, hfr, hmv, hh, hout⟩
  have hbel := hfr.below
  cases ex with
  | panicked ch => exact hout.elim
  | outgrown => exact hout.elim
  | returned u =>
    obtain ⟨rb, rfl⟩ : ∃ rb, ρ' = [rb] := by
      have := hh.len
      match ρ', this with
      | [rb], _ => exact ⟨rb, rfl⟩
    have hR : SVR w' I' [rb] [.row true e 1 (brow l)] (.row 0 l.length) u := hout
    have hv : RowV w' I' rb true e 1 (brow l) u := by
      cases hR with
      | row h1 hlt hv => exact (hv true e 1 (brow l) rb rfl rfl).2 (len_brow l).symm
    cases rb with
    | none =>
      obtain ⟨hx, rfl⟩ : brow l = [] ∧ u = .slice none 0 0 := hv
      have st : Stp w I ρ H w' I ρ H := Stp.same hr ⟨hbel.os, hbel.tape, hbel.output⟩ hbel.block hbel.size (fun _ h => h) fun b hb => .inl hb
      refine ⟨.ret (bts l), H, I, ρ, k, st.fr, st.mv, st.h, ?_⟩
      show SVR w' I ρ H (bts l) _
      rw [bts, hx]
      exact .c (CR.nil 1)
    | some b =>
      have hlt := hh.lt 0 b rfl
      have hge : w.heap.size ≤ b := by
        rcases hfr.refs 0 b rfl with ⟨r, hr⟩ | hr
        · simp at hr
        · exact hr
      have hcr := row_data (I' := fun x => I' x ∨ x = b) hh (fun _ h => .inl h) hR rfl (len_brow l).symm fun b' hb' => by
        obtain rfl : b = b' := by simpa using hb'
        exact .inr rfl
      obtain ⟨cap, us, rfl, _⟩ : OwnV w' b e 1 (brow l).length u := hv
      have st : Stp w I ρ H w' (fun x => I x ∨ x = b) ρ H := Stp.same hr ⟨hbel.os, hbel.tape, hbel.output⟩ hbel.block hbel.size (fun _ h => .inl h) fun b' hb' => hb'.imp id fun h => by subst h; exact ⟨hge, hlt⟩
      refine ⟨.ret (bts l), H, _, ρ, k, st.fr, st.mv, st.h, ?_⟩
      exact .c (CR.own hcr (.inr rfl))
theorem qv_f {f : Nat} {args : List SV} {H : List AObj} {l : List UInt8} {H2 : List AObj} {K : SV → Prop} {th : Th K} {Qp : Value → List AObj → Prop} {th' : (v : SV) → Th ((fun v1 H1 => v1 = v ∧ H1 = H2), Qp)} (h : RB true f (frz.frzL [] H args) l) (hd : SV.data.dataAll (frz.frzL [] H args) = true) (hH : H = H2) (k : K (bts l)) :
    qvT (fun v' => callPT Tryz.prog f args H (fun v1 H1 => v1 = v' ∧ H1 = H2) Qp (th' v')) K th := by
  have h1 : callP Tryz.prog f args H (fun v1 H1 => v1 = bts l ∧ H1 = H2) Qp := callP_fresh h.1 h.2 hd ⟨rfl, hH⟩
  rw [callP_t] at h1
  exact qv_iT (bts l) h1 k
theorem rowBytes_brow (l : List UInt8) : rowBytes (brow l) = some l := by
  induction l with
  | nil => rfl
  | cons b l ih =>
    simp only [brow, List.map_cons] at ih ⊢
    simp [rowBytes, ih]
theorem p_bsame (a b : List UInt8) : PC Tryz.prog 13 [bts a, bts b] (.ret (vb (decide (a = b)))) := by
  refine pc_of mixed F13 (by simp) ?_
  simp -dsimp (disch := omega) only [↓wi, wo, wrap64, reduceIte, Nat.reduceEqDiff, Nat.reduceAdd, Nat.reduceLT, Nat.reduceLeDiff, Nat.reduceMul, Nat.reduceSub, Int.reduceToNat, Int.reduceLT, Int.reduceLE, Int.reduceEq, Int.reduceAdd, reduceCtorEq, c13, enter, rowBytes_brow]
  refine forkd (fun h => ?_) (fun h => ?_)
  · simp -dsimp (disch := omega) only [↓wi, wo, wrap64, reduceIte, Nat.reduceEqDiff, Nat.reduceAdd, Nat.reduceLT, Nat.reduceLeDiff, Nat.reduceMul, Nat.reduceSub, Int.reduceToNat, Int.reduceLT, Int.reduceLE, Int.reduceEq, Int.reduceAdd, reduceCtorEq]
    refine retb rfl ?_
    simpa [ByteArray.mk.injEq] using h
  · simp -dsimp (disch := omega) only [↓wi, wo, wrap64, reduceIte, Nat.reduceEqDiff, Nat.reduceAdd, Nat.reduceLT, Nat.reduceLeDiff, Nat.reduceMul, Nat.reduceSub, Int.reduceToNat, Int.reduceLT, Int.reduceLE, Int.reduceEq, Int.reduceAdd, reduceCtorEq]
    refine retb rfl ?_
    simpa [ByteArray.mk.injEq] using h
theorem h_rtext (l : List UInt8) (s : ByteArray) (hl : l.length + s.size ≤ 1099511627776) : RB true 55 [bts l, vs s] (l ++ putT s) := by
  refine ⟨B55, ac_of mixed F55 (by simp) ?_⟩
  simp -dsimp (disch := omega) only [↓wi, wo, wrap64, reduceIte, Nat.reduceEqDiff, Nat.reduceAdd, Nat.reduceLT, Nat.reduceLeDiff, Nat.reduceMul, Nat.reduceSub, Int.reduceToNat, Int.reduceLT, Int.reduceLE, Int.reduceEq, Int.reduceAdd, reduceCtorEq, c55, enter]
  refine need (by omega) ?_
  simp -dsimp (disch := omega) only [↓wi, wo, wrap64, reduceIte, Nat.reduceEqDiff, Nat.reduceAdd, Nat.reduceLT, Nat.reduceLeDiff, Nat.reduceMul, Nat.reduceSub, Int.reduceToNat, Int.reduceLT, Int.reduceLE, Int.reduceEq, Int.reduceAdd, reduceCtorEq, row_tb]
  refine calls_rb (h_rBytes l (tb s) (by rw [len_tb]; exact hl)) rfl ?_
  simp -dsimp (disch := omega) only [↓wi, wo, wrap64, reduceIte, Nat.reduceEqDiff, Nat.reduceAdd, Nat.reduceLT, Nat.reduceLeDiff, Nat.reduceMul, Nat.reduceSub, Int.reduceToNat, Int.reduceLT, Int.reduceLE, Int.reduceEq, Int.reduceAdd, reduceCtorEq]
  exact ret_i [true] rfl (by simp) (by simp) ⟨rfl, rfl⟩
set_option maxHeartbeats 8000000 in
theorem p_rPutC (l : List UInt8) (c : Ctr) (hl : l.length + (PutC c).length ≤ 1099511627776) : PC Tryz.prog 15 [bts l, ag (encC c)] (.ret (bts (l ++ PutC c))) := by
  refine pc_of mixed F15 (by simp) ?_
  simp -dsimp (disch := omega) only [↓wi, wo, wrap64, reduceIte, Nat.reduceEqDiff, Nat.reduceAdd, Nat.reduceLT, Nat.reduceLeDiff, Nat.reduceMul, Nat.reduceSub, Int.reduceToNat, Int.reduceLT, Int.reduceLE, Int.reduceEq, Int.reduceAdd, reduceCtorEq, c15, enter, lenC, take_mapc (lenC c)]
  refine need ⟨brow_one l, by rw [len_brow]; omega⟩ ?_
  simp -dsimp (disch := omega) only [↓wi, wo, wrap64, reduceIte, Nat.reduceEqDiff, Nat.reduceAdd, Nat.reduceLT, Nat.reduceLeDiff, Nat.reduceMul, Nat.reduceSub, Int.reduceToNat, Int.reduceLT, Int.reduceLE, Int.reduceEq, Int.reduceAdd, reduceCtorEq, List.nil_append, len_brow, Nat.zero_add, lenC, take_mapc (lenC c)]
  refine calls_p (p_rCheckC c) rfl rfl ?_
  simp -dsimp (disch := omega) only [↓wi, wo, wrap64, reduceIte, Nat.reduceEqDiff, Nat.reduceAdd, Nat.reduceLT, Nat.reduceLeDiff, Nat.reduceMul, Nat.reduceSub, Int.reduceToNat, Int.reduceLT, Int.reduceLE, Int.reduceEq, Int.reduceAdd, reduceCtorEq]
  refine forkd (fun h => ?_) (fun h => ?_)
  · have hPC : PutC c = putC c := if_pos h
    rw [hPC] at hl ⊢
    have hlen : (putC c).length = 4 + c.name.size + ((listP putF c.fields).length + ((listP putS c.stages).length + (listP putM c.moves).length)) := by simp only [putC, List.length_append, len_putT]
    simp -dsimp (disch := omega) only [↓wi, wo, wrap64, reduceIte, Nat.reduceEqDiff, Nat.reduceAdd, Nat.reduceLT, Nat.reduceLeDiff, Nat.reduceMul, Nat.reduceSub, Int.reduceToNat, Int.reduceLT, Int.reduceLE, Int.reduceEq, Int.reduceAdd, reduceCtorEq, encC]
    have k1 := h_rtext l c.name (by omega)
    have b1 : (l ++ putT c.name).length = l.length + 4 + c.name.size := by simp [len_putT]; omega
    refine qv_f (l := l ++ putT c.name) ?_ ?_ rfl ?_
    · simpa [frz, frz.frzL, len_brow] using k1
    · simp [frz, frz.frzL, len_brow, SV.data.dataAll, SV.data]
    simp -dsimp (disch := omega) only [↓wi, wo, wrap64, reduceIte, Nat.reduceEqDiff, Nat.reduceAdd, Nat.reduceLT, Nat.reduceLeDiff, Nat.reduceMul, Nat.reduceSub, Int.reduceToNat, Int.reduceLT, Int.reduceLE, Int.reduceEq, Int.reduceAdd, reduceCtorEq, encC]
    refine qv_give ?_
    simp -dsimp (disch := omega) only [↓wi, wo, wrap64, reduceIte, Nat.reduceEqDiff, Nat.reduceAdd, Nat.reduceLT, Nat.reduceLeDiff, Nat.reduceMul, Nat.reduceSub, Int.reduceToNat, Int.reduceLT, Int.reduceLE, Int.reduceEq, Int.reduceAdd, reduceCtorEq]
    refine calls_p (h_rCount (l ++ putT c.name) c.fields.length (by omega)).pc rfl rfl ?_
    simp -dsimp (disch := omega) only [↓wi, wo, wrap64, reduceIte, Nat.reduceEqDiff, Nat.reduceAdd, Nat.reduceLT, Nat.reduceLeDiff, Nat.reduceMul, Nat.reduceSub, Int.reduceToNat, Int.reduceLT, Int.reduceLE, Int.reduceEq, Int.reduceAdd, reduceCtorEq]
    have hE : (l ++ putT c.name ++ pCount c.fields.length) ++ (c.fields.flatMap putF ++ (listP putS c.stages ++ listP putM c.moves)) = l ++ putC c := by simp only [putC, listP, List.append_assoc]
    generalize l ++ putT c.name ++ pCount c.fields.length = acc0 at hE
    have hT : (l ++ putC c).length ≤ 1099511627776 := by rw [List.length_append]; exact hl
    generalize l ++ putC c = tot at hE hT
    clear k1 b1 hlen hPC hl h
    refine AW_wk (Wk_cut [true] [3, 5, 6] (by simp) (by simp)) (AW_inv mixed (n := c.fields.length) (fun n st => ∃ (i : Nat) (acc : List UInt8), i + n = c.fields.length ∧ acc ++ ((c.fields.drop i).flatMap putF ++ (listP putS c.stages ++ listP putM c.moves)) = tot ∧ st = ⟨0, [(3, .ptr 0 0), (5, bts acc), (6, vi i)], [.box ((encC c).map .c)]⟩) ⟨0, acc0, by omega, hE, rfl⟩ ?_)
    clear hE acc0
    rintro n _ ⟨i, acc, hi, hacc, rfl⟩
    simp -dsimp (disch := omega) only [↓wi, wo, wrap64, reduceIte, Nat.reduceEqDiff, Nat.reduceAdd, Nat.reduceLT, Nat.reduceLeDiff, Nat.reduceMul, Nat.reduceSub, Int.reduceToNat, Int.reduceLT, Int.reduceLE, Int.reduceEq, Int.reduceAdd, reduceCtorEq, encC]
    refine give fun _ => ?_
    simp -dsimp (disch := omega) only [↓wi, wo, wrap64, reduceIte, Nat.reduceEqDiff, Nat.reduceAdd, Nat.reduceLT, Nat.reduceLeDiff, Nat.reduceMul, Nat.reduceSub, Int.reduceToNat, Int.reduceLT, Int.reduceLE, Int.reduceEq, Int.reduceAdd, reduceCtorEq]
    refine forkd (fun h => ?_) (fun h => ?_)
    · have hi' : i < c.fields.length := by omega
      rw [flat_at hi'] at hacc
      have hgd := getD_map (f := encF) hi'
      generalize c.fields[i] = x at hacc hgd
      have hb := congrArg List.length hacc
      simp only [putF, List.length_append, len_putT, len_pInt, listP, len_pCount] at hb
      simp -dsimp (disch := omega) only [↓wi, wo, wrap64, reduceIte, Nat.reduceEqDiff, Nat.reduceAdd, Nat.reduceLT, Nat.reduceLeDiff, Nat.reduceMul, Nat.reduceSub, Int.reduceToNat, Int.reduceLT, Int.reduceLE, Int.reduceEq, Int.reduceAdd, reduceCtorEq, encC]
      refine need (by simp; omega) ?_
      simp -dsimp (disch := omega) only [↓wi, wo, wrap64, reduceIte, Nat.reduceEqDiff, Nat.reduceAdd, Nat.reduceLT, Nat.reduceLeDiff, Nat.reduceMul, Nat.reduceSub, Int.reduceToNat, Int.reduceLT, Int.reduceLE, Int.reduceEq, Int.reduceAdd, reduceCtorEq, hgd, encF]
      have k1 := (h_rtext acc x.name (by omega)).pc
      have b1 : (acc ++ putT x.name).length = acc.length + 4 + x.name.size := by simp [len_putT]; omega
      have k2 := (h_rInt (acc ++ putT x.name) x.kind.1 (by omega)).pc
      have b2 : (acc ++ putT x.name ++ pInt x.kind.1).length = acc.length + 12 + x.name.size := by simp [len_putT, len_pInt]; omega
      have k3 := (h_rCount (acc ++ putT x.name ++ pInt x.kind.1) x.enum.length (by omega)).pc
      repeat' first | (simp -dsimp (disch := omega) only [↓wi, wo, wrap64, reduceIte, Nat.reduceEqDiff, Nat.reduceAdd, Nat.reduceLT, Nat.reduceLeDiff, Nat.reduceMul, Nat.reduceSub, Int.reduceToNat, Int.reduceLT, Int.reduceLE, Int.reduceEq, Int.reduceAdd, reduceCtorEq, encF, len_strs]) | (refine brd_y (by first | assumption | omega) ?_) | (refine brd_no (by first | assumption | omega) ?_) | (refine forkd (fun _ => ?_) (fun _ => ?_)) | (refine brs_y (by assumption) ?_) | (refine brs_n (by assumption) ?_) | (refine fork (fun _ => ?_) (fun _ => ?_)) | (refine need (by omega) ?_) | (refine qv_need (by omega) ?_) | (refine qv_give ?_) | (refine give fun _ => ?_) | (refine retb rfl ?_) | (refine reti rfl ?_) | (refine ret_p ?_) | (refine ret_ps rfl ?_) | (refine ret_pp rfl ?_) | (refine calls_b (k1) rfl (fun _ => ?_) (fun _ => ?_)) | (refine calls_p (k1) rfl rfl ?_) | (refine qv_b (k1) rfl rfl (fun _ => ?_) (fun _ => ?_)) | (refine qv_q (k1) rfl rfl rfl ?_) | (refine calls_b (k2) rfl (fun _ => ?_) (fun _ => ?_)) | (refine calls_p (k2) rfl rfl ?_) | (refine qv_b (k2) rfl rfl (fun _ => ?_) (fun _ => ?_)) | (refine qv_q (k2) rfl rfl rfl ?_) | (refine calls_b (k3) rfl (fun _ => ?_) (fun _ => ?_)) | (refine calls_p (k3) rfl rfl ?_) | (refine qv_b (k3) rfl rfl (fun _ => ?_) (fun _ => ?_)) | (refine qv_q (k3) rfl rfl rfl ?_)
      have hE : (acc ++ putT x.name ++ pInt x.kind.1 ++ pCount x.enum.length) ++ (x.enum.flatMap putT ++ (putV x.init ++ ((c.fields.drop (i + 1)).flatMap putF ++ (listP putS c.stages ++ listP putM c.moves)))) = tot := by rw [← hacc]; simp only [putF, listP, List.append_assoc]
      generalize acc ++ putT x.name ++ pInt x.kind.1 ++ pCount x.enum.length = acc1 at hE
      clear k1 k2 k3 b1 b2 hacc hb
      refine AW_wk (Wk_cut [true, true] [3, 5, 6, 7, 8] (by simp) (by simp)) (AW_inv mixed (n := x.enum.length) (fun n st => ∃ (k : Nat) (a : List UInt8), k + n = x.enum.length ∧ a ++ ((x.enum.drop k).flatMap putT ++ (putV x.init ++ ((c.fields.drop (i + 1)).flatMap putF ++ (listP putS c.stages ++ listP putM c.moves)))) = tot ∧ st = ⟨0, [(3, .ptr 0 0), (5, bts a), (6, vi i), (7, .ptr 1 0), (8, vi k)], [.box ((encC c).map .c), .box ((encF x).map .c)]⟩) ⟨0, acc1, by omega, hE, rfl⟩ ?_)
      clear hE acc1
      rintro m _ ⟨k, a, hk, ha, rfl⟩
      have hls : (strs x.enum).length = x.enum.length := len_strs _
      simp -dsimp (disch := omega) only [↓wi, wo, wrap64, reduceIte, Nat.reduceEqDiff, Nat.reduceAdd, Nat.reduceLT, Nat.reduceLeDiff, Nat.reduceMul, Nat.reduceSub, Int.reduceToNat, Int.reduceLT, Int.reduceLE, Int.reduceEq, Int.reduceAdd, reduceCtorEq, encF, len_strs]
      refine give fun _ => ?_
      simp -dsimp (disch := omega) only [↓wi, wo, wrap64, reduceIte, Nat.reduceEqDiff, Nat.reduceAdd, Nat.reduceLT, Nat.reduceLeDiff, Nat.reduceMul, Nat.reduceSub, Int.reduceToNat, Int.reduceLT, Int.reduceLE, Int.reduceEq, Int.reduceAdd, reduceCtorEq]
      refine forkd (fun h2 => ?_) (fun h2 => ?_)
      · have hk' : k < x.enum.length := by omega
        rw [flat_at hk'] at ha
        have hge : (strs x.enum).getD k [] = [cs x.enum[k]] := getD_map (f := fun s => [cs s]) hk'
        generalize x.enum[k] = y at ha hge
        have hb := congrArg List.length ha
        simp only [List.length_append, len_putT] at hb
        have k1 := (h_rtext a y (by omega)).pc
        simp -dsimp (disch := omega) only [↓wi, wo, wrap64, reduceIte, Nat.reduceEqDiff, Nat.reduceAdd, Nat.reduceLT, Nat.reduceLeDiff, Nat.reduceMul, Nat.reduceSub, Int.reduceToNat, Int.reduceLT, Int.reduceLE, Int.reduceEq, Int.reduceAdd, reduceCtorEq, encF]
        refine need (by rw [len_strs]; omega) ?_
        simp -dsimp (disch := omega) only [↓wi, wo, wrap64, reduceIte, Nat.reduceEqDiff, Nat.reduceAdd, Nat.reduceLT, Nat.reduceLeDiff, Nat.reduceMul, Nat.reduceSub, Int.reduceToNat, Int.reduceLT, Int.reduceLE, Int.reduceEq, Int.reduceAdd, reduceCtorEq, hge, encF]
        refine calls_p k1 rfl rfl ?_
        simp -dsimp (disch := omega) only [↓wi, wo, wrap64, reduceIte, Nat.reduceEqDiff, Nat.reduceAdd, Nat.reduceLT, Nat.reduceLeDiff, Nat.reduceMul, Nat.reduceSub, Int.reduceToNat, Int.reduceLT, Int.reduceLE, Int.reduceEq, Int.reduceAdd, reduceCtorEq]
        exact ⟨m - 1, _, by omega, Wk_cut [true, true] [3, 5, 6, 7, 8] (by simp) (by simp), k + 1, a ++ putT y, by omega, by rw [← ha]; simp only [List.append_assoc], rfl⟩
      · rw [flat_end (by omega), List.nil_append] at ha
        have hb := congrArg List.length ha
        simp only [List.length_append] at hb
        have k1 := p_rputV a x.init (by omega)
        simp -dsimp (disch := omega) only [↓wi, wo, wrap64, reduceIte, Nat.reduceEqDiff, Nat.reduceAdd, Nat.reduceLT, Nat.reduceLeDiff, Nat.reduceMul, Nat.reduceSub, Int.reduceToNat, Int.reduceLT, Int.reduceLE, Int.reduceEq, Int.reduceAdd, reduceCtorEq, encF]
        repeat' first | (simp -dsimp (disch := omega) only [↓wi, wo, wrap64, reduceIte, Nat.reduceEqDiff, Nat.reduceAdd, Nat.reduceLT, Nat.reduceLeDiff, Nat.reduceMul, Nat.reduceSub, Int.reduceToNat, Int.reduceLT, Int.reduceLE, Int.reduceEq, Int.reduceAdd, reduceCtorEq, encF, encV]) | (refine brd_y (by first | assumption | omega) ?_) | (refine brd_no (by first | assumption | omega) ?_) | (refine forkd (fun _ => ?_) (fun _ => ?_)) | (refine brs_y (by assumption) ?_) | (refine brs_n (by assumption) ?_) | (refine fork (fun _ => ?_) (fun _ => ?_)) | (refine need (by omega) ?_) | (refine qv_need (by omega) ?_) | (refine qv_give ?_) | (refine give fun _ => ?_) | (refine retb rfl ?_) | (refine reti rfl ?_) | (refine ret_p ?_) | (refine ret_ps rfl ?_) | (refine ret_pp rfl ?_) | (refine calls_b (k1) rfl (fun _ => ?_) (fun _ => ?_)) | (refine calls_p (k1) rfl rfl ?_) | (refine qv_b (k1) rfl rfl (fun _ => ?_) (fun _ => ?_)) | (refine qv_q (k1) rfl rfl rfl ?_)
        refine ⟨n - 1, _, by omega, Wk_cut [true] [3, 5, 6] (by simp) (by simp), i + 1, a ++ putV x.init, by omega, by rw [← ha]; simp only [List.append_assoc], rfl⟩
    · rw [flat_end (by omega), List.nil_append] at hacc
      have hb := congrArg List.length hacc
      simp only [List.length_append, listP, len_pCount] at hb
      have k1 := (h_rCount acc c.stages.length (by omega)).pc
      simp -dsimp (disch := omega) only [↓wi, wo, wrap64, reduceIte, Nat.reduceEqDiff, Nat.reduceAdd, Nat.reduceLT, Nat.reduceLeDiff, Nat.reduceMul, Nat.reduceSub, Int.reduceToNat, Int.reduceLT, Int.reduceLE, Int.reduceEq, Int.reduceAdd, reduceCtorEq, encC]
      repeat' first | (simp -dsimp (disch := omega) only [↓wi, wo, wrap64, reduceIte, Nat.reduceEqDiff, Nat.reduceAdd, Nat.reduceLT, Nat.reduceLeDiff, Nat.reduceMul, Nat.reduceSub, Int.reduceToNat, Int.reduceLT, Int.reduceLE, Int.reduceEq, Int.reduceAdd, reduceCtorEq]) | (refine brd_y (by first | assumption | omega) ?_) | (refine brd_no (by first | assumption | omega) ?_) | (refine forkd (fun _ => ?_) (fun _ => ?_)) | (refine brs_y (by assumption) ?_) | (refine brs_n (by assumption) ?_) | (refine fork (fun _ => ?_) (fun _ => ?_)) | (refine need (by omega) ?_) | (refine qv_need (by omega) ?_) | (refine qv_give ?_) | (refine give fun _ => ?_) | (refine retb rfl ?_) | (refine reti rfl ?_) | (refine ret_p ?_) | (refine ret_ps rfl ?_) | (refine ret_pp rfl ?_) | (refine calls_b (k1) rfl (fun _ => ?_) (fun _ => ?_)) | (refine calls_p (k1) rfl rfl ?_) | (refine qv_b (k1) rfl rfl (fun _ => ?_) (fun _ => ?_)) | (refine qv_q (k1) rfl rfl rfl ?_)
      have hE : (acc ++ pCount c.stages.length) ++ (c.stages.flatMap putS ++ listP putM c.moves) = tot := by rw [← hacc]; simp only [listP, List.append_assoc]
      generalize acc ++ pCount c.stages.length = acc0 at hE
      clear k1 hb hacc
      refine AW_wk (Wk_cut [true] [3, 5, 9] (by simp) (by simp)) (AW_inv mixed (n := c.stages.length) (fun n st => ∃ (i : Nat) (acc : List UInt8), i + n = c.stages.length ∧ acc ++ ((c.stages.drop i).flatMap putS ++ listP putM c.moves) = tot ∧ st = ⟨0, [(3, .ptr 0 0), (5, bts acc), (9, vi i)], [.box ((encC c).map .c)]⟩) ⟨0, acc0, by omega, hE, rfl⟩ ?_)
      clear hE acc0
      rintro n _ ⟨i, acc, hi, hacc, rfl⟩
      simp -dsimp (disch := omega) only [↓wi, wo, wrap64, reduceIte, Nat.reduceEqDiff, Nat.reduceAdd, Nat.reduceLT, Nat.reduceLeDiff, Nat.reduceMul, Nat.reduceSub, Int.reduceToNat, Int.reduceLT, Int.reduceLE, Int.reduceEq, Int.reduceAdd, reduceCtorEq, encC]
      refine give fun _ => ?_
      simp -dsimp (disch := omega) only [↓wi, wo, wrap64, reduceIte, Nat.reduceEqDiff, Nat.reduceAdd, Nat.reduceLT, Nat.reduceLeDiff, Nat.reduceMul, Nat.reduceSub, Int.reduceToNat, Int.reduceLT, Int.reduceLE, Int.reduceEq, Int.reduceAdd, reduceCtorEq]
      refine forkd (fun h => ?_) (fun h => ?_)
      · have hi' : i < c.stages.length := by omega
        rw [flat_at hi'] at hacc
        have hgd := getD_map (f := encS) hi'
        generalize c.stages[i] = x at hacc hgd
        have hb := congrArg List.length hacc
        simp only [putS, List.length_append, len_putT, len_pInt, listP, len_pCount] at hb
        simp -dsimp (disch := omega) only [↓wi, wo, wrap64, reduceIte, Nat.reduceEqDiff, Nat.reduceAdd, Nat.reduceLT, Nat.reduceLeDiff, Nat.reduceMul, Nat.reduceSub, Int.reduceToNat, Int.reduceLT, Int.reduceLE, Int.reduceEq, Int.reduceAdd, reduceCtorEq, encC]
        refine need (by simp; omega) ?_
        simp -dsimp (disch := omega) only [↓wi, wo, wrap64, reduceIte, Nat.reduceEqDiff, Nat.reduceAdd, Nat.reduceLT, Nat.reduceLeDiff, Nat.reduceMul, Nat.reduceSub, Int.reduceToNat, Int.reduceLT, Int.reduceLE, Int.reduceEq, Int.reduceAdd, reduceCtorEq, hgd, encS]
        have k1 := (h_rtext acc x.name (by omega)).pc
        have b1 : (acc ++ putT x.name).length = acc.length + 4 + x.name.size := by simp [len_putT]; omega
        have k2 := (h_rInt (acc ++ putT x.name) x.need.1 (by omega)).pc
        have b2 : (acc ++ putT x.name ++ pInt x.need.1).length = acc.length + 12 + x.name.size := by simp [len_putT, len_pInt]; omega
        have k3 := (h_rCount (acc ++ putT x.name ++ pInt x.need.1) x.orgs.length (by omega)).pc
        repeat' first | (simp -dsimp (disch := omega) only [↓wi, wo, wrap64, reduceIte, Nat.reduceEqDiff, Nat.reduceAdd, Nat.reduceLT, Nat.reduceLeDiff, Nat.reduceMul, Nat.reduceSub, Int.reduceToNat, Int.reduceLT, Int.reduceLE, Int.reduceEq, Int.reduceAdd, reduceCtorEq, encS, len_ints]) | (refine brd_y (by first | assumption | omega) ?_) | (refine brd_no (by first | assumption | omega) ?_) | (refine forkd (fun _ => ?_) (fun _ => ?_)) | (refine brs_y (by assumption) ?_) | (refine brs_n (by assumption) ?_) | (refine fork (fun _ => ?_) (fun _ => ?_)) | (refine need (by omega) ?_) | (refine qv_need (by omega) ?_) | (refine qv_give ?_) | (refine give fun _ => ?_) | (refine retb rfl ?_) | (refine reti rfl ?_) | (refine ret_p ?_) | (refine ret_ps rfl ?_) | (refine ret_pp rfl ?_) | (refine calls_b (k1) rfl (fun _ => ?_) (fun _ => ?_)) | (refine calls_p (k1) rfl rfl ?_) | (refine qv_b (k1) rfl rfl (fun _ => ?_) (fun _ => ?_)) | (refine qv_q (k1) rfl rfl rfl ?_) | (refine calls_b (k2) rfl (fun _ => ?_) (fun _ => ?_)) | (refine calls_p (k2) rfl rfl ?_) | (refine qv_b (k2) rfl rfl (fun _ => ?_) (fun _ => ?_)) | (refine qv_q (k2) rfl rfl rfl ?_) | (refine calls_b (k3) rfl (fun _ => ?_) (fun _ => ?_)) | (refine calls_p (k3) rfl rfl ?_) | (refine qv_b (k3) rfl rfl (fun _ => ?_) (fun _ => ?_)) | (refine qv_q (k3) rfl rfl rfl ?_)
        have hE : (acc ++ putT x.name ++ pInt x.need.1 ++ pCount x.orgs.length) ++ (x.orgs.flatMap (fun n : I64 => pInt n.1) ++ ((c.stages.drop (i + 1)).flatMap putS ++ listP putM c.moves)) = tot := by rw [← hacc]; simp only [putS, listP, List.append_assoc]
        generalize acc ++ putT x.name ++ pInt x.need.1 ++ pCount x.orgs.length = acc1 at hE
        clear k1 k2 k3 b1 b2 hacc hb
        refine AW_wk (Wk_cut [true, true] [3, 5, 9, 10, 11] (by simp) (by simp)) (AW_inv mixed (n := x.orgs.length) (fun n st => ∃ (k : Nat) (a : List UInt8), k + n = x.orgs.length ∧ a ++ ((x.orgs.drop k).flatMap (fun n : I64 => pInt n.1) ++ ((c.stages.drop (i + 1)).flatMap putS ++ listP putM c.moves)) = tot ∧ st = ⟨0, [(3, .ptr 0 0), (5, bts a), (9, vi i), (10, .ptr 1 0), (11, vi k)], [.box ((encC c).map .c), .box ((encS x).map .c)]⟩) ⟨0, acc1, by omega, hE, rfl⟩ ?_)
        clear hE acc1
        rintro m _ ⟨k, a, hk, ha, rfl⟩
        have hls : (ints x.orgs).length = x.orgs.length := len_ints _
        simp -dsimp (disch := omega) only [↓wi, wo, wrap64, reduceIte, Nat.reduceEqDiff, Nat.reduceAdd, Nat.reduceLT, Nat.reduceLeDiff, Nat.reduceMul, Nat.reduceSub, Int.reduceToNat, Int.reduceLT, Int.reduceLE, Int.reduceEq, Int.reduceAdd, reduceCtorEq, encS, len_ints]
        refine give fun _ => ?_
        simp -dsimp (disch := omega) only [↓wi, wo, wrap64, reduceIte, Nat.reduceEqDiff, Nat.reduceAdd, Nat.reduceLT, Nat.reduceLeDiff, Nat.reduceMul, Nat.reduceSub, Int.reduceToNat, Int.reduceLT, Int.reduceLE, Int.reduceEq, Int.reduceAdd, reduceCtorEq]
        refine forkd (fun h2 => ?_) (fun h2 => ?_)
        · have hk' : k < x.orgs.length := by omega
          rw [flat_at hk'] at ha
          have hge : (ints x.orgs).getD k [] = [ci x.orgs[k].1] := getD_map (f := fun n : I64 => [ci n.1]) hk'
          generalize x.orgs[k] = y at ha hge
          have hb := congrArg List.length ha
          simp only [List.length_append, len_pInt] at hb
          have k1 := (h_rInt a y.1 (by omega)).pc
          simp -dsimp (disch := omega) only [↓wi, wo, wrap64, reduceIte, Nat.reduceEqDiff, Nat.reduceAdd, Nat.reduceLT, Nat.reduceLeDiff, Nat.reduceMul, Nat.reduceSub, Int.reduceToNat, Int.reduceLT, Int.reduceLE, Int.reduceEq, Int.reduceAdd, reduceCtorEq, encS]
          refine need (by rw [len_ints]; omega) ?_
          simp -dsimp (disch := omega) only [↓wi, wo, wrap64, reduceIte, Nat.reduceEqDiff, Nat.reduceAdd, Nat.reduceLT, Nat.reduceLeDiff, Nat.reduceMul, Nat.reduceSub, Int.reduceToNat, Int.reduceLT, Int.reduceLE, Int.reduceEq, Int.reduceAdd, reduceCtorEq, hge, encS]
          refine calls_p k1 rfl rfl ?_
          simp -dsimp (disch := omega) only [↓wi, wo, wrap64, reduceIte, Nat.reduceEqDiff, Nat.reduceAdd, Nat.reduceLT, Nat.reduceLeDiff, Nat.reduceMul, Nat.reduceSub, Int.reduceToNat, Int.reduceLT, Int.reduceLE, Int.reduceEq, Int.reduceAdd, reduceCtorEq]
          exact ⟨m - 1, _, by omega, Wk_cut [true, true] [3, 5, 9, 10, 11] (by simp) (by simp), k + 1, a ++ pInt y.1, by omega, by rw [← ha]; simp only [List.append_assoc], rfl⟩
        · rw [flat_end (by omega), List.nil_append] at ha
          simp -dsimp (disch := omega) only [↓wi, wo, wrap64, reduceIte, Nat.reduceEqDiff, Nat.reduceAdd, Nat.reduceLT, Nat.reduceLeDiff, Nat.reduceMul, Nat.reduceSub, Int.reduceToNat, Int.reduceLT, Int.reduceLE, Int.reduceEq, Int.reduceAdd, reduceCtorEq, encS]
          refine ⟨n - 1, _, by omega, Wk_cut [true] [3, 5, 9] (by simp) (by simp), i + 1, a, by omega, ha, rfl⟩
      · rw [flat_end (by omega), List.nil_append] at hacc
        have hb := congrArg List.length hacc
        simp only [List.length_append, listP, len_pCount] at hb
        have k1 := (h_rCount acc c.moves.length (by omega)).pc
        simp -dsimp (disch := omega) only [↓wi, wo, wrap64, reduceIte, Nat.reduceEqDiff, Nat.reduceAdd, Nat.reduceLT, Nat.reduceLeDiff, Nat.reduceMul, Nat.reduceSub, Int.reduceToNat, Int.reduceLT, Int.reduceLE, Int.reduceEq, Int.reduceAdd, reduceCtorEq, encC]
        repeat' first | (simp -dsimp (disch := omega) only [↓wi, wo, wrap64, reduceIte, Nat.reduceEqDiff, Nat.reduceAdd, Nat.reduceLT, Nat.reduceLeDiff, Nat.reduceMul, Nat.reduceSub, Int.reduceToNat, Int.reduceLT, Int.reduceLE, Int.reduceEq, Int.reduceAdd, reduceCtorEq]) | (refine brd_y (by first | assumption | omega) ?_) | (refine brd_no (by first | assumption | omega) ?_) | (refine forkd (fun _ => ?_) (fun _ => ?_)) | (refine brs_y (by assumption) ?_) | (refine brs_n (by assumption) ?_) | (refine fork (fun _ => ?_) (fun _ => ?_)) | (refine need (by omega) ?_) | (refine qv_need (by omega) ?_) | (refine qv_give ?_) | (refine give fun _ => ?_) | (refine retb rfl ?_) | (refine reti rfl ?_) | (refine ret_p ?_) | (refine ret_ps rfl ?_) | (refine ret_pp rfl ?_) | (refine calls_b (k1) rfl (fun _ => ?_) (fun _ => ?_)) | (refine calls_p (k1) rfl rfl ?_) | (refine qv_b (k1) rfl rfl (fun _ => ?_) (fun _ => ?_)) | (refine qv_q (k1) rfl rfl rfl ?_)
        have hE : (acc ++ pCount c.moves.length) ++ c.moves.flatMap putM = tot := by rw [← hacc]; simp only [listP, List.append_assoc]
        generalize acc ++ pCount c.moves.length = acc0 at hE
        clear k1 hb hacc
        refine AW_wk (Wk_cut [true] [3, 5, 12] (by simp) (by simp)) (AW_inv mixed (n := c.moves.length) (fun n st => ∃ (i : Nat) (acc : List UInt8), i + n = c.moves.length ∧ acc ++ (c.moves.drop i).flatMap putM = tot ∧ st = ⟨0, [(3, .ptr 0 0), (5, bts acc), (12, vi i)], [.box ((encC c).map .c)]⟩) ⟨0, acc0, by omega, hE, rfl⟩ ?_)
        clear hE acc0
        rintro n _ ⟨i, acc, hi, hacc, rfl⟩
        simp -dsimp (disch := omega) only [↓wi, wo, wrap64, reduceIte, Nat.reduceEqDiff, Nat.reduceAdd, Nat.reduceLT, Nat.reduceLeDiff, Nat.reduceMul, Nat.reduceSub, Int.reduceToNat, Int.reduceLT, Int.reduceLE, Int.reduceEq, Int.reduceAdd, reduceCtorEq, encC]
        refine give fun _ => ?_
        simp -dsimp (disch := omega) only [↓wi, wo, wrap64, reduceIte, Nat.reduceEqDiff, Nat.reduceAdd, Nat.reduceLT, Nat.reduceLeDiff, Nat.reduceMul, Nat.reduceSub, Int.reduceToNat, Int.reduceLT, Int.reduceLE, Int.reduceEq, Int.reduceAdd, reduceCtorEq]
        refine forkd (fun h => ?_) (fun h => ?_)
        · have hi' : i < c.moves.length := by omega
          rw [flat_at hi'] at hacc
          have hgd := getD_map (f := encM) hi'
          generalize c.moves[i] = x at hacc hgd
          have hb := congrArg List.length hacc
          simp only [putM, List.length_append, len_putT, len_pInt, listP, len_pCount] at hb
          simp -dsimp (disch := omega) only [↓wi, wo, wrap64, reduceIte, Nat.reduceEqDiff, Nat.reduceAdd, Nat.reduceLT, Nat.reduceLeDiff, Nat.reduceMul, Nat.reduceSub, Int.reduceToNat, Int.reduceLT, Int.reduceLE, Int.reduceEq, Int.reduceAdd, reduceCtorEq, encC]
          refine need (by simp; omega) ?_
          simp -dsimp (disch := omega) only [↓wi, wo, wrap64, reduceIte, Nat.reduceEqDiff, Nat.reduceAdd, Nat.reduceLT, Nat.reduceLeDiff, Nat.reduceMul, Nat.reduceSub, Int.reduceToNat, Int.reduceLT, Int.reduceLE, Int.reduceEq, Int.reduceAdd, reduceCtorEq, hgd, encM]
          have b1 : (acc ++ putT x.name).length = acc.length + 4 + x.name.size := by simp [len_putT]; omega
          have b2 : (acc ++ putT x.name ++ pInt x.frm.1).length = acc.length + 12 + x.name.size := by simp [len_putT, len_pInt]; omega
          have b3 : (acc ++ putT x.name ++ pInt x.frm.1 ++ pInt x.to.1).length = acc.length + 20 + x.name.size := by simp [len_putT, len_pInt]; omega
          have b4 : (acc ++ putT x.name ++ pInt x.frm.1 ++ pInt x.to.1 ++ pInt x.org.1).length = acc.length + 28 + x.name.size := by simp [len_putT, len_pInt]; omega
          have b5 : (acc ++ putT x.name ++ pInt x.frm.1 ++ pInt x.to.1 ++ pInt x.org.1 ++ PutE x.guard).length = acc.length + 28 + x.name.size + (PutE x.guard).length := by simp only [List.length_append, len_putT, len_pInt]; omega
          have k1 := (h_rtext acc x.name (by omega)).pc
          have k2 := (h_rInt (acc ++ putT x.name) x.frm.1 (by omega)).pc
          have k3 := (h_rInt (acc ++ putT x.name ++ pInt x.frm.1) x.to.1 (by omega)).pc
          have k4 := (h_rInt (acc ++ putT x.name ++ pInt x.frm.1 ++ pInt x.to.1) x.org.1 (by omega)).pc
          have k5 := p_rePut (acc ++ putT x.name ++ pInt x.frm.1 ++ pInt x.to.1 ++ pInt x.org.1) x.guard (by omega)
          rw [encE_ x.guard] at k5
          have k6 := (h_rCount (acc ++ putT x.name ++ pInt x.frm.1 ++ pInt x.to.1 ++ pInt x.org.1 ++ PutE x.guard) x.effects.length (by omega)).pc
          repeat' first | (simp -dsimp (disch := omega) only [↓wi, wo, wrap64, reduceIte, Nat.reduceEqDiff, Nat.reduceAdd, Nat.reduceLT, Nat.reduceLeDiff, Nat.reduceMul, Nat.reduceSub, Int.reduceToNat, Int.reduceLT, Int.reduceLE, Int.reduceEq, Int.reduceAdd, reduceCtorEq, encM, encE_]) | (refine brd_y (by first | assumption | omega) ?_) | (refine brd_no (by first | assumption | omega) ?_) | (refine forkd (fun _ => ?_) (fun _ => ?_)) | (refine brs_y (by assumption) ?_) | (refine brs_n (by assumption) ?_) | (refine fork (fun _ => ?_) (fun _ => ?_)) | (refine need (by omega) ?_) | (refine qv_need (by omega) ?_) | (refine qv_give ?_) | (refine give fun _ => ?_) | (refine retb rfl ?_) | (refine reti rfl ?_) | (refine ret_p ?_) | (refine ret_ps rfl ?_) | (refine ret_pp rfl ?_) | (refine calls_b (k1) rfl (fun _ => ?_) (fun _ => ?_)) | (refine calls_p (k1) rfl rfl ?_) | (refine qv_b (k1) rfl rfl (fun _ => ?_) (fun _ => ?_)) | (refine qv_q (k1) rfl rfl rfl ?_) | (refine calls_b (k2) rfl (fun _ => ?_) (fun _ => ?_)) | (refine calls_p (k2) rfl rfl ?_) | (refine qv_b (k2) rfl rfl (fun _ => ?_) (fun _ => ?_)) | (refine qv_q (k2) rfl rfl rfl ?_) | (refine calls_b (k3) rfl (fun _ => ?_) (fun _ => ?_)) | (refine calls_p (k3) rfl rfl ?_) | (refine qv_b (k3) rfl rfl (fun _ => ?_) (fun _ => ?_)) | (refine qv_q (k3) rfl rfl rfl ?_) | (refine calls_b (k4) rfl (fun _ => ?_) (fun _ => ?_)) | (refine calls_p (k4) rfl rfl ?_) | (refine qv_b (k4) rfl rfl (fun _ => ?_) (fun _ => ?_)) | (refine qv_q (k4) rfl rfl rfl ?_) | (refine calls_b (k5) rfl (fun _ => ?_) (fun _ => ?_)) | (refine calls_p (k5) rfl rfl ?_) | (refine qv_b (k5) rfl rfl (fun _ => ?_) (fun _ => ?_)) | (refine qv_q (k5) rfl rfl rfl ?_) | (refine calls_b (k6) rfl (fun _ => ?_) (fun _ => ?_)) | (refine calls_p (k6) rfl rfl ?_) | (refine qv_b (k6) rfl rfl (fun _ => ?_) (fun _ => ?_)) | (refine qv_q (k6) rfl rfl rfl ?_)
          have hE : (acc ++ putT x.name ++ pInt x.frm.1 ++ pInt x.to.1 ++ pInt x.org.1 ++ PutE x.guard ++ pCount x.effects.length) ++ (x.effects.flatMap putX ++ (c.moves.drop (i + 1)).flatMap putM) = tot := by rw [← hacc]; simp only [putM, listP, List.append_assoc]
          generalize acc ++ putT x.name ++ pInt x.frm.1 ++ pInt x.to.1 ++ pInt x.org.1 ++ PutE x.guard ++ pCount x.effects.length = acc1 at hE
          clear k1 k2 k3 k4 k5 k6 b1 b2 b3 b4 b5 hacc hb
          refine AW_wk (Wk_cut [true, true] [3, 5, 12, 13, 14] (by simp) (by simp)) (AW_inv mixed (n := x.effects.length) (fun n st => ∃ (k : Nat) (a : List UInt8), k + n = x.effects.length ∧ a ++ ((x.effects.drop k).flatMap putX ++ (c.moves.drop (i + 1)).flatMap putM) = tot ∧ st = ⟨0, [(3, .ptr 0 0), (5, bts a), (12, vi i), (13, .ptr 1 0), (14, vi k)], [.box ((encC c).map .c), .box ((encM x).map .c)]⟩) ⟨0, acc1, by omega, hE, rfl⟩ ?_)
          clear hE acc1
          rintro m _ ⟨k, a, hk, ha, rfl⟩
          simp -dsimp (disch := omega) only [↓wi, wo, wrap64, reduceIte, Nat.reduceEqDiff, Nat.reduceAdd, Nat.reduceLT, Nat.reduceLeDiff, Nat.reduceMul, Nat.reduceSub, Int.reduceToNat, Int.reduceLT, Int.reduceLE, Int.reduceEq, Int.reduceAdd, reduceCtorEq, encM]
          refine give fun _ => ?_
          simp -dsimp (disch := omega) only [↓wi, wo, wrap64, reduceIte, Nat.reduceEqDiff, Nat.reduceAdd, Nat.reduceLT, Nat.reduceLeDiff, Nat.reduceMul, Nat.reduceSub, Int.reduceToNat, Int.reduceLT, Int.reduceLE, Int.reduceEq, Int.reduceAdd, reduceCtorEq]
          refine forkd (fun h2 => ?_) (fun h2 => ?_)
          · have hk' : k < x.effects.length := by omega
            rw [flat_at hk'] at ha
            have hge := getD_map (f := encX) hk'
            generalize x.effects[k] = y at ha hge
            have hb := congrArg List.length ha
            simp only [putX, List.length_append, len_putT] at hb
            have b1 : (a ++ putT y.field).length = a.length + 4 + y.field.size := by simp [len_putT]; omega
            have k1 := (h_rtext a y.field (by omega)).pc
            have k2 := p_rePut (a ++ putT y.field) y.expr (by omega)
            rw [encE_ y.expr] at k2
            simp -dsimp (disch := omega) only [↓wi, wo, wrap64, reduceIte, Nat.reduceEqDiff, Nat.reduceAdd, Nat.reduceLT, Nat.reduceLeDiff, Nat.reduceMul, Nat.reduceSub, Int.reduceToNat, Int.reduceLT, Int.reduceLE, Int.reduceEq, Int.reduceAdd, reduceCtorEq, encM]
            refine qv_need (by simp; omega) ?_
            simp -dsimp (disch := omega) only [↓wi, wo, wrap64, reduceIte, Nat.reduceEqDiff, Nat.reduceAdd, Nat.reduceLT, Nat.reduceLeDiff, Nat.reduceMul, Nat.reduceSub, Int.reduceToNat, Int.reduceLT, Int.reduceLE, Int.reduceEq, Int.reduceAdd, reduceCtorEq, hge, encX]
            repeat' first | (simp -dsimp (disch := omega) only [↓wi, wo, wrap64, reduceIte, Nat.reduceEqDiff, Nat.reduceAdd, Nat.reduceLT, Nat.reduceLeDiff, Nat.reduceMul, Nat.reduceSub, Int.reduceToNat, Int.reduceLT, Int.reduceLE, Int.reduceEq, Int.reduceAdd, reduceCtorEq, encX, encE_, hge]) | (refine brd_y (by first | assumption | omega) ?_) | (refine brd_no (by first | assumption | omega) ?_) | (refine forkd (fun _ => ?_) (fun _ => ?_)) | (refine brs_y (by assumption) ?_) | (refine brs_n (by assumption) ?_) | (refine fork (fun _ => ?_) (fun _ => ?_)) | (refine need (by omega) ?_) | (refine qv_need (by omega) ?_) | (refine qv_give ?_) | (refine give fun _ => ?_) | (refine retb rfl ?_) | (refine reti rfl ?_) | (refine ret_p ?_) | (refine ret_ps rfl ?_) | (refine ret_pp rfl ?_) | (refine calls_b (k1) rfl (fun _ => ?_) (fun _ => ?_)) | (refine calls_p (k1) rfl rfl ?_) | (refine qv_b (k1) rfl rfl (fun _ => ?_) (fun _ => ?_)) | (refine qv_q (k1) rfl rfl rfl ?_) | (refine calls_b (k2) rfl (fun _ => ?_) (fun _ => ?_)) | (refine calls_p (k2) rfl rfl ?_) | (refine qv_b (k2) rfl rfl (fun _ => ?_) (fun _ => ?_)) | (refine qv_q (k2) rfl rfl rfl ?_)
            exact ⟨m - 1, _, by omega, Wk_cut [true, true] [3, 5, 12, 13, 14] (by simp) (by simp), k + 1, a ++ putX y, by omega, by rw [← ha]; simp only [List.append_assoc], by simp only [putX, List.append_assoc]; rfl⟩
          · rw [flat_end (by omega), List.nil_append] at ha
            simp -dsimp (disch := omega) only [↓wi, wo, wrap64, reduceIte, Nat.reduceEqDiff, Nat.reduceAdd, Nat.reduceLT, Nat.reduceLeDiff, Nat.reduceMul, Nat.reduceSub, Int.reduceToNat, Int.reduceLT, Int.reduceLE, Int.reduceEq, Int.reduceAdd, reduceCtorEq, encM]
            refine ⟨n - 1, _, by omega, Wk_cut [true] [3, 5, 12] (by simp) (by simp), i + 1, a, by omega, ha, rfl⟩
        · rw [flat_end (by omega), List.append_nil] at hacc
          simp -dsimp (disch := omega) only [↓wi, wo, wrap64, reduceIte, Nat.reduceEqDiff, Nat.reduceAdd, Nat.reduceLT, Nat.reduceLeDiff, Nat.reduceMul, Nat.reduceSub, Int.reduceToNat, Int.reduceLT, Int.reduceLE, Int.reduceEq, Int.reduceAdd, reduceCtorEq]
          refine ret_p ?_
          simp [lk, frz, hacc]
  · simp -dsimp (disch := omega) only [↓wi, wo, wrap64, reduceIte, Nat.reduceEqDiff, Nat.reduceAdd, Nat.reduceLT, Nat.reduceLeDiff, Nat.reduceMul, Nat.reduceSub, Int.reduceToNat, Int.reduceLT, Int.reduceLE, Int.reduceEq, Int.reduceAdd, reduceCtorEq]
    refine ret_p ?_
    simp [lk, frz, PutC, h, len_brow]
theorem p_ContractCodes (c : Ctr) : PC Tryz.prog 3 [ag (encC c)] (.ret (vb true)) := by
  refine pc_of mixed F3 (by simp) ?_
  have hle := PutC_le c
  have k1 := p_PutC [9] c (by simp; omega)
  have k2 := p_rPutC [9] c (by simp; omega)
  have k3 := p_bsame ([9] ++ PutC c) ([9] ++ PutC c)
  rw [decide_eq_true rfl] at k3
  simp -dsimp (disch := omega) only [↓wi, wo, wrap64, reduceIte, Nat.reduceEqDiff, Nat.reduceAdd, Nat.reduceLT, Nat.reduceLeDiff, Nat.reduceMul, Nat.reduceSub, Int.reduceToNat, Int.reduceLT, Int.reduceLE, Int.reduceEq, Int.reduceAdd, reduceCtorEq, c3, enter, lenC, take_mapc (lenC c)]
  repeat' first | (simp -dsimp (disch := omega) only [↓wi, wo, wrap64, reduceIte, Nat.reduceEqDiff, Nat.reduceAdd, Nat.reduceLT, Nat.reduceLeDiff, Nat.reduceMul, Nat.reduceSub, Int.reduceToNat, Int.reduceLT, Int.reduceLE, Int.reduceEq, Int.reduceAdd, reduceCtorEq, lenC, take_mapc (lenC c)]) | (refine brd_y (by first | assumption | omega) ?_) | (refine brd_no (by first | assumption | omega) ?_) | (refine forkd (fun _ => ?_) (fun _ => ?_)) | (refine brs_y (by assumption) ?_) | (refine brs_n (by assumption) ?_) | (refine fork (fun _ => ?_) (fun _ => ?_)) | (refine need (by omega) ?_) | (refine qv_need (by omega) ?_) | (refine qv_give ?_) | (refine give fun _ => ?_) | (refine retb rfl ?_) | (refine reti rfl ?_) | (refine ret_p ?_) | (refine ret_ps rfl ?_) | (refine ret_pp rfl ?_) | (refine calls_b (p_Few c) rfl (fun _ => ?_) (fun _ => ?_)) | (refine calls_p (p_Few c) rfl rfl ?_) | (refine qv_b (p_Few c) rfl rfl (fun _ => ?_) (fun _ => ?_)) | (refine qv_q (p_Few c) rfl rfl rfl ?_) | (refine calls_b (k1) rfl (fun _ => ?_) (fun _ => ?_)) | (refine calls_p (k1) rfl rfl ?_) | (refine qv_b (k1) rfl rfl (fun _ => ?_) (fun _ => ?_)) | (refine qv_q (k1) rfl rfl rfl ?_) | (refine calls_b (k2) rfl (fun _ => ?_) (fun _ => ?_)) | (refine calls_p (k2) rfl rfl ?_) | (refine qv_b (k2) rfl rfl (fun _ => ?_) (fun _ => ?_)) | (refine qv_q (k2) rfl rfl rfl ?_) | (refine calls_b (k3) rfl (fun _ => ?_) (fun _ => ?_)) | (refine calls_p (k3) rfl rfl ?_) | (refine qv_b (k3) rfl rfl (fun _ => ?_) (fun _ => ?_)) | (refine qv_q (k3) rfl rfl rfl ?_) | (refine calls_b (p_awake6) rfl (fun _ => ?_) (fun _ => ?_)) | (refine calls_p (p_awake6) rfl rfl ?_) | (refine qv_b (p_awake6) rfl rfl (fun _ => ?_) (fun _ => ?_)) | (refine qv_q (p_awake6) rfl rfl rfl ?_)
  all_goals contradiction
end Go.Proofs.YtbnelpgogjbgjaaGreat.Q
