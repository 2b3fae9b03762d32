/- The kind of an expression. -/
import Derived.Test.YtbnelpgogjbgjaaGreatCodJRn
import Derived.Tactics
import Derived.Tactics2
import Derived.Laws.Pointers
import Derived.Lib.Hide
import Derived.Test.YtbnelpgogjbgjaaGreatCodQw
/- The kind of an expression. -/
set_option linter.unusedVariables false
set_option linter.unusedSimpArgs false
namespace Go.Proofs.YtbnelpgogjbgjaaGreat.Q
open Go.RowKit

theorem p_efind (name : ByteArray) (l : List Fd) : PC Tryz.prog 138 [vs name, .c (.sl 8 (l.map encF))] (.ret (vi (findI (fun f => decide (f.name = name)) 0 l))) := by
  refine pc_of mixed F138 (by simp) ?_
  simp -dsimp (disch := omega) only [↓wi, wo, wrap64, reduceIte, Nat.reduceEqDiff, Nat.reduceAdd, Nat.reduceLT, Nat.reduceLeDiff, Nat.reduceMul, Nat.reduceSub, Int.reduceToNat, Int.reduceLT, Int.reduceLE, Int.reduceEq, Int.reduceAdd, reduceCtorEq, c138, enter]
  refine calls_h B124 (h_indexF lenF B191 fun x _ => p_findc x name) ?_
  simp -dsimp (disch := omega) only [↓wi, wo, wrap64, reduceIte, Nat.reduceEqDiff, Nat.reduceAdd, Nat.reduceLT, Nat.reduceLeDiff, Nat.reduceMul, Nat.reduceSub, Int.reduceToNat, Int.reduceLT, Int.reduceLE, Int.reduceEq, Int.reduceAdd, reduceCtorEq]
  exact ret_p rfl
def zV : Vl := ⟨zI, zI, false, ⟨#[]⟩, zF⟩
def kind1 (fs : List Fd) (op : Int) (nk : Nat) (name : ByteArray) (val : Vl) (k0 k1 k2 : Int) : Except Int Int :=
  if arityE op ≠ nk then .error 1
  else if op ≠ 2 ∧ name ≠ ⟨#[]⟩ then .error 1
  else if op ≠ 1 ∧ sameV val zV = false then .error 1
  else if op = 1 then (if goodV val then .ok val.kind.1 else .error 40)
  else if op = 2 then (if 0 ≤ findI (fun f => decide (f.name = name)) 0 fs then .ok (fs.getD (findI (fun f => decide (f.name = name)) 0 fs).toNat default).kind.1 else .error 50)
  else if op = 8 then (if k0 = k1 then .ok 2 else .error 40)
  else if op = 9 then (if k0 = k1 ∧ (numericE k0 = true ∨ k0 = 3) then .ok 2 else .error 40)
  else if op = 12 then (if k0 = 2 then .ok k0 else .error 40)
  else if op = 10 ∨ op = 11 then (if k0 = 2 ∧ k1 = 2 then .ok k0 else .error 40)
  else if op = 13 then (if k0 = 2 ∧ k1 = k2 then .ok k1 else .error 40)
  else if op = 16 then (if k0 = 1 then .ok 4 else .error 40)
  else if op = 3 then (if numericE k0 then .ok k0 else .error 40)
  else if k0 = k1 ∧ numericE k0 = true then .ok k0 else .error 40
mutual
  def kindE (fs : List Fd) : Ex → Except Int Int
    | .mk op kids name val => match kindL fs kids with
      | .error x => .error x
      | .ok ks => kind1 fs op.1 kids.length name val (ks.getD 0 0) (ks.getD 1 0) (ks.getD 2 0)
  def kindL (fs : List Fd) : List Ex → Except Int (List Int)
    | [] => .ok []
    | e :: es => match kindE fs e with
      | .error x => .error x
      | .ok k => match kindL fs es with
        | .error x => .error x
        | .ok ks => .ok (k :: ks)
end
def kout : Except Int Int → Out
  | .ok k => .ret (vi k)
  | .error x => .pan (badP x)
theorem kindE_ (fs : List Fd) (e : Ex) : kindE fs e = match kindL fs e.kids with
      | .error x => .error x
      | .ok ks => kind1 fs e.op.1 e.kids.length e.name e.val (ks.getD 0 0) (ks.getD 1 0) (ks.getD 2 0) := by
  cases e; simp only [kindE, Ex.op, Ex.kids, Ex.name, Ex.val]
/-- Kinds that were told, and those that follow. -/
def kfrom (fs : List Fd) (ks : List Int) (l : List Ex) : Except Int (List Int) := match kindL fs l with
  | .error x => .error x
  | .ok r => .ok (ks ++ r)
theorem kfrom_ok {fs : List Fd} {ks : List Int} {l : List Ex} {i : Nat} {k : Int} (h : i < l.length) (hk : kindE fs l[i] = .ok k) : kfrom fs ks (l.drop i) = kfrom fs (ks ++ [k]) (l.drop (i + 1)) := by
  rw [List.drop_eq_getElem_cons h]
  simp only [kfrom, kindL, hk]
  cases kindL fs (l.drop (i + 1)) <;> simp
theorem kfrom_err {fs : List Fd} {ks : List Int} {l : List Ex} {i : Nat} {x : Int} (h : i < l.length) (hk : kindE fs l[i] = .error x) : kfrom fs ks (l.drop i) = .error x := by
  rw [List.drop_eq_getElem_cons h]
  simp only [kfrom, kindL, hk]
theorem kfrom_end {fs : List Fd} {ks : List Int} {l : List Ex} {i : Nat} (h : l.length ≤ i) : kfrom fs ks (l.drop i) = .ok ks := by
  rw [List.drop_eq_nil_of_le h]
  simp [kfrom, kindL]
theorem findI_lt {α : Type} {p : α → Bool} (l : List α) (i : Nat) : findI p i l < (i + l.length : Nat) := by
  induction l generalizing i with
  | nil => simp only [findI, List.length_nil]; omega
  | cons a l ih =>
    simp only [findI, List.length_cons]
    split
    · omega
    · have := ih (i + 1); omega
theorem sp3 (ks : List Int) (k : Int) (h : ks.length < 3) : List.take ks.length [vi (ks.getD 0 0), vi (ks.getD 1 0), vi (ks.getD 2 0)] ++ [vi k] ++ List.drop ks.length [vi (ks.getD 1 0), vi (ks.getD 2 0)] = [vi ((ks ++ [k]).getD 0 0), vi ((ks ++ [k]).getD 1 0), vi ((ks ++ [k]).getD 2 0)] := by
  match ks, h with
  | [], _ => rfl
  | [a], _ => rfl
  | [a, b], _ => rfl
theorem getD_app (ks : List Int) (k : Int) (i : Nat) (h : i < ks.length) : (ks ++ [k]).getD i 0 = ks.getD i 0 := by
  rw [List.getD_eq_getElem?_getD, List.getD_eq_getElem?_getD, List.getElem?_append_left h]
set_option maxHeartbeats 16000000 in
theorem p_kind (fs : List Fd) (e : Ex) : PC Tryz.prog 86 [ag (encE e), .c (.sl 8 (fs.map encF))] (kout (kindE fs e)) := by
  induction e using Ex.ind with
  | h e ih =>
    refine pc_of mixed F86 (by simp) ?_
    simp -dsimp (disch := omega) only [↓wi, wo, wrap64, reduceIte, Nat.reduceEqDiff, Nat.reduceAdd, Nat.reduceLT, Nat.reduceLeDiff, Nat.reduceMul, Nat.reduceSub, Int.reduceToNat, Int.reduceLT, Int.reduceLE, Int.reduceEq, Int.reduceAdd, reduceCtorEq, c86, enter, encE_ e]
    refine give fun _ => ?_
    simp -dsimp (disch := omega) only [↓wi, wo, wrap64, reduceIte, Nat.reduceEqDiff, Nat.reduceAdd, Nat.reduceLT, Nat.reduceLeDiff, Nat.reduceMul, Nat.reduceSub, Int.reduceToNat, Int.reduceLT, Int.reduceLE, Int.reduceEq, Int.reduceAdd, reduceCtorEq]
    refine AW_wk (Wk_cut [true, true] [1, 2, 5, 11, 12, 13] (by simp) (by simp)) (AW_inv mixed (n := e.kids.length) (fun m st => ∃ (i : Nat) (ks : List Int), i + m = e.kids.length ∧ ks.length = i ∧ kindL fs e.kids = kfrom fs ks (e.kids.drop i) ∧ st = ⟨0, [(1, .c (.sl 8 (fs.map encF))), (2, .ptr 0 0), (5, .ptr 1 0), (11, .c (.sl 8 (e.kids.map encE))), (12, vi e.kids.length), (13, vi i)], [.box ((encE e).map .c), .box [vi (ks.getD 0 0), vi (ks.getD 1 0), vi (ks.getD 2 0)]]⟩) ⟨0, [], by omega, rfl, by simp only [List.drop_zero, kfrom]; cases kindL fs e.kids <;> simp, by rw [encE_ e]; rfl⟩ ?_)
    rintro m _ ⟨i, ks, hi, hks, hf, rfl⟩
    simp -dsimp (disch := omega) only [↓wi, wo, wrap64, reduceIte, Nat.reduceEqDiff, Nat.reduceAdd, Nat.reduceLT, Nat.reduceLeDiff, Nat.reduceMul, Nat.reduceSub, Int.reduceToNat, Int.reduceLT, Int.reduceLE, Int.reduceEq, Int.reduceAdd, reduceCtorEq]
    refine forkd (fun h => ?_) (fun h => ?_)
    · have hi' : i < e.kids.length := by omega
      simp -dsimp (disch := omega) only [↓wi, wo, wrap64, reduceIte, Nat.reduceEqDiff, Nat.reduceAdd, Nat.reduceLT, Nat.reduceLeDiff, Nat.reduceMul, Nat.reduceSub, Int.reduceToNat, Int.reduceLT, Int.reduceLE, Int.reduceEq, Int.reduceAdd, reduceCtorEq]
      refine need (by omega) ?_
      simp -dsimp (disch := omega) only [↓wi, wo, wrap64, reduceIte, Nat.reduceEqDiff, Nat.reduceAdd, Nat.reduceLT, Nat.reduceLeDiff, Nat.reduceMul, Nat.reduceSub, Int.reduceToNat, Int.reduceLT, Int.reduceLE, Int.reduceEq, Int.reduceAdd, reduceCtorEq, getD_map hi', lenE, take_all (Nat.le_of_eq (lenE _)), take_mapc (lenE _)]
      have hkid := ih _ (List.getElem_mem hi')
      cases hk : kindE fs e.kids[i] with
      | error x =>
        rw [hk] at hkid
        refine calls_pan hkid (by simp [SV.data.dataAll, SV.data, data_m]) ?_
        simp -dsimp (disch := omega) only [↓wi, wo, wrap64, reduceIte, Nat.reduceEqDiff, Nat.reduceAdd, Nat.reduceLT, Nat.reduceLeDiff, Nat.reduceMul, Nat.reduceSub, Int.reduceToNat, Int.reduceLT, Int.reduceLE, Int.reduceEq, Int.reduceAdd, reduceCtorEq]
        refine ret_pp rfl ?_
        rw [kindE_, hf, kfrom_err hi' hk]; rfl
      | ok k =>
        rw [hk] at hkid
        rw [kfrom_ok hi' hk] at hf
        refine calls_p hkid (by simp [SV.data.dataAll, SV.data, data_m]) rfl ?_
        simp -dsimp (disch := omega) only [↓wi, wo, wrap64, reduceIte, Nat.reduceEqDiff, Nat.reduceAdd, Nat.reduceLT, Nat.reduceLeDiff, Nat.reduceMul, Nat.reduceSub, Int.reduceToNat, Int.reduceLT, Int.reduceLE, Int.reduceEq, Int.reduceAdd, reduceCtorEq]
        subst hks
        refine forkd (fun h3 => ?_) (fun h3 => ?_)
        · simp -dsimp (disch := omega) only [↓wi, wo, wrap64, reduceIte, Nat.reduceEqDiff, Nat.reduceAdd, Nat.reduceLT, Nat.reduceLeDiff, Nat.reduceMul, Nat.reduceSub, Int.reduceToNat, Int.reduceLT, Int.reduceLE, Int.reduceEq, Int.reduceAdd, reduceCtorEq]
          refine need (by omega) ?_
          simp -dsimp (disch := omega) only [↓wi, wo, wrap64, reduceIte, Nat.reduceEqDiff, Nat.reduceAdd, Nat.reduceLT, Nat.reduceLeDiff, Nat.reduceMul, Nat.reduceSub, Int.reduceToNat, Int.reduceLT, Int.reduceLE, Int.reduceEq, Int.reduceAdd, reduceCtorEq, Int.toNat_natCast, Nat.mul_one]
          refine need (by omega) ?_
          simp -dsimp (disch := omega) only [↓wi, wo, wrap64, reduceIte, Nat.reduceEqDiff, Nat.reduceAdd, Nat.reduceLT, Nat.reduceLeDiff, Nat.reduceMul, Nat.reduceSub, Int.reduceToNat, Int.reduceLT, Int.reduceLE, Int.reduceEq, Int.reduceAdd, reduceCtorEq, sp3 ks k (by omega)]
          refine ⟨m - 1, _, by omega, Wk_cut [true, true] [1, 2, 5, 11, 12, 13] (by simp) (by simp), ks.length + 1, ks ++ [k], by omega, by simp, hf, by rw [encE_ e]; rfl⟩
        · simp -dsimp (disch := omega) only [↓wi, wo, wrap64, reduceIte, Nat.reduceEqDiff, Nat.reduceAdd, Nat.reduceLT, Nat.reduceLeDiff, Nat.reduceMul, Nat.reduceSub, Int.reduceToNat, Int.reduceLT, Int.reduceLE, Int.reduceEq, Int.reduceAdd, reduceCtorEq]
          refine ⟨m - 1, _, by omega, Wk_cut [true, true] [1, 2, 5, 11, 12, 13] (by simp) (by simp), ks.length + 1, ks ++ [k], by omega, by simp, hf, ?_⟩
          rw [getD_app ks k 0 (by omega), getD_app ks k 1 (by omega), getD_app ks k 2 (by omega), encE_ e]; rfl
    · simp -dsimp (disch := omega) only [↓wi, wo, wrap64, reduceIte, Nat.reduceEqDiff, Nat.reduceAdd, Nat.reduceLT, Nat.reduceLeDiff, Nat.reduceMul, Nat.reduceSub, Int.reduceToNat, Int.reduceLT, Int.reduceLE, Int.reduceEq, Int.reduceAdd, reduceCtorEq, encE_ e]
      rw [kfrom_end (by omega)] at hf
      have hE : kindE fs e = kind1 fs e.op.1 e.kids.length e.name e.val (ks.getD 0 0) (ks.getD 1 0) (ks.getD 2 0) := by rw [kindE_, hf]
      rw [hE]
      have hfl := findI_lt (p := fun f => decide (f.name = e.name)) fs 0
      generalize ks.getD 0 0 = k0
      generalize ks.getD 1 0 = k1
      generalize ks.getD 2 0 = k2
      refine qv_q (p_arity e.op.1) rfl rfl rfl ?_
      simp -dsimp (disch := omega) only [↓wi, wo, wrap64, reduceIte, Nat.reduceEqDiff, Nat.reduceAdd, Nat.reduceLT, Nat.reduceLeDiff, Nat.reduceMul, Nat.reduceSub, Int.reduceToNat, Int.reduceLT, Int.reduceLE, Int.reduceEq, Int.reduceAdd, reduceCtorEq, encE_ e]
      repeat' first | (simp -dsimp (disch := omega) only [↓wi, wo, wrap64, reduceIte, Nat.reduceEqDiff, Nat.reduceAdd, Nat.reduceLT, Nat.reduceLeDiff, Nat.reduceMul, Nat.reduceSub, Int.reduceToNat, Int.reduceLT, Int.reduceLE, Int.reduceEq, Int.reduceAdd, reduceCtorEq, encF, getD_map]) | (refine brd_y (by first | assumption | omega) ?_) | (refine brd_no (by first | assumption | omega) ?_) | (refine forkd (fun _ => ?_) (fun _ => ?_)) | (refine brs_y (by assumption) ?_) | (refine brs_n (by assumption) ?_) | (refine fork (fun _ => ?_) (fun _ => ?_)) | (refine need (by omega) ?_) | (refine qv_need (by omega) ?_) | (refine qv_give ?_) | (refine give fun _ => ?_) | (refine retb rfl ?_) | (refine reti rfl ?_) | (refine ret_p ?_) | (refine ret_ps rfl ?_) | (refine ret_pp rfl ?_) | (refine calls_b (p_must _) rfl (fun _ => ?_) (fun _ => ?_)) | (refine calls_p (p_must _) rfl rfl ?_) | (refine qv_b (p_must _) rfl rfl (fun _ => ?_) (fun _ => ?_)) | (refine qv_q (p_must _) rfl rfl rfl ?_) | (refine calls_pan (p_must_no _) rfl ?_) | (refine calls_b (p_same e.val zV) rfl (fun _ => ?_) (fun _ => ?_)) | (refine calls_p (p_same e.val zV) rfl rfl ?_) | (refine qv_b (p_same e.val zV) rfl rfl (fun _ => ?_) (fun _ => ?_)) | (refine qv_q (p_same e.val zV) rfl rfl rfl ?_) | (refine calls_b (p_good e.val) rfl (fun _ => ?_) (fun _ => ?_)) | (refine calls_p (p_good e.val) rfl rfl ?_) | (refine qv_b (p_good e.val) rfl rfl (fun _ => ?_) (fun _ => ?_)) | (refine qv_q (p_good e.val) rfl rfl rfl ?_) | (refine calls_b (p_numeric k0) rfl (fun _ => ?_) (fun _ => ?_)) | (refine calls_p (p_numeric k0) rfl rfl ?_) | (refine qv_b (p_numeric k0) rfl rfl (fun _ => ?_) (fun _ => ?_)) | (refine qv_q (p_numeric k0) rfl rfl rfl ?_) | (refine calls_b (p_efind e.name fs) rfl (fun _ => ?_) (fun _ => ?_)) | (refine calls_p (p_efind e.name fs) rfl rfl ?_) | (refine qv_b (p_efind e.name fs) rfl rfl (fun _ => ?_) (fun _ => ?_)) | (refine qv_q (p_efind e.name fs) rfl rfl rfl ?_)
      all_goals clear ih hf hE
      all_goals first | (simp only [kind1]; simp_all [kout, numericE]; done) | (rw [← getD_lt (d := default) (by omega)]; simp_all [kind1, kout]; done) | grind [kind1, kout, numericE]
end Go.Proofs.YtbnelpgogjbgjaaGreat.Q
/- The function that catches. -/
set_option linter.unusedVariables false
set_option linter.unusedSimpArgs false
namespace Go.Proofs.YtbnelpgogjbgjaaGreat.Q
open Go.RowKit

theorem caught_idle (ad : Addr) (w : World) : CallsD Tryz.prog 83 #[.pointer (some ad)] .returning w fun e u' w' => (∃ v, e = .returned v) ∧ u' = .returning ∧ w' = w := by
  refine callsD_of_wpS Tryz.func83 rfl fun c₀ cs hu => ?_
  apply wpS_seq
  apply wpS_region
  simp [wpOpsS, go_sem, recoverD, hu, Tryz.ntmps83, Exit.thenS]
  apply wpS_of_wp
  go_wp2
  cases c₀
  simp_all [bodyPostS, results, Tryz.results83]
theorem run_ta (n : Int) (W : World) : (Instr.typeAssert (.iface 166 (.int .i64 n)) 20 166 true).run Tryz.prog W = .ok (.tuple #[.int .i64 n, .bool true]) W := by
  have h : (underlying 166).run Tryz.prog W = .ok (.int .i64) W := run_underlying (by kernel_rfl) _
  unfold Instr.typeAssert
  simp only [Sem.run_bind, h, Result.andThen_ok]
  simp
set_option maxHeartbeats 4000000 in
set_option maxRecDepth 100000 in
theorem caught_set (ad : Addr) (n : Int) (x : Value) (w : World) (hc : w.cell? ad = some x) (hz : w.frozen? ad = false) :
    CallsD Tryz.prog 83 #[.pointer (some ad)] (.panicking [{ v := .iface 166 (.int .i64 n), recovered := false }]) w fun e u' w' => (∃ v, e = .returned v) ∧ u' = .panicking [{ v := .iface 166 (.int .i64 n), recovered := true }] ∧ w' = w.setCell ad (.int .i64 n) := by
  have hta := run_ta n
  refine callsD_of_wpS Tryz.func83 rfl fun c₀ cs hu => ?_
  apply wpS_seq
  apply wpS_region
  simp [wpOpsS, go_sem, recoverD, hu, Tryz.ntmps83, Exit.thenS]
  apply wpS_of_wp
  go_wp2
  cases c₀
  simp_all [bodyPostS, results, Tryz.results83]
theorem store_set (ad : Addr) (n : Int) (x : Value) (w w1 : World) (hc : w.cell? ad = some x) (hz : w.frozen? ad = false) (hst : (Instr.storeAt 33 (.pointer (some ad)) (.int .i64 n)).run Tryz.prog w = .ok () w1) : w1 = w.setCell ad (.int .i64 n) := by
  simp [go_sem, hc, hz, Tryz.underlying33] at hst
  exact hst.symm
theorem catches : Catches Tryz.prog 83 166 33 where
  bod := by unfold Bod; kernel_rfl
  idle := caught_idle
  some := fun ad n x w w1 hc hz hst => by rw [store_set ad n x w w1 hc hz hst]; exact caught_set ad n x w hc hz
end Go.Proofs.YtbnelpgogjbgjaaGreat.Q
/- Expressions are checked: the program's, the document's. -/
set_option linter.unusedVariables false
set_option linter.unusedSimpArgs false
namespace Go.Proofs.YtbnelpgogjbgjaaGreat.Q
open Go.RowKit

theorem infoE : ∃ i, Tryz.prog.info? 33 = some i ∧ i.size = 1 := ⟨(Tryz.prog.info? 33).get (by kernel_rfl), by kernel_rfl, by kernel_rfl⟩
def checkE (fs : List Fd) (e : Ex) : Int × Int := if smallE e then (match kindE fs e with | .ok k => (k, 0) | .error x => (0, x)) else (0, 51)
def out2 (p : Int × Int) : SV := .tup [vi p.1, vi p.2]
set_option maxHeartbeats 4000000 in
theorem p_check (fs : List Fd) (e : Ex) : PC Tryz.prog 185 [ag (encE e), .c (.sl 8 (fs.map encF))] (.ret (out2 (checkE fs e))) := by
  obtain ⟨i, hi, hi1⟩ := infoE
  refine pd_of mixed F185 hi hi1 catches (by simp) ?_
  simp -dsimp (disch := omega) only [↓wi, wo, wrap64, reduceIte, Nat.reduceEqDiff, Nat.reduceAdd, Nat.reduceLT, Nat.reduceLeDiff, Nat.reduceMul, Nat.reduceSub, Int.reduceToNat, Int.reduceLT, Int.reduceLE, Int.reduceEq, Int.reduceAdd, reduceCtorEq, c185, enter]
  refine preD mixed rfl rfl fun ds => ?_
  simp -dsimp (disch := omega) only [↓wi, wo, wrap64, reduceIte, Nat.reduceEqDiff, Nat.reduceAdd, Nat.reduceLT, Nat.reduceLeDiff, Nat.reduceMul, Nat.reduceSub, Int.reduceToNat, Int.reduceLT, Int.reduceLE, Int.reduceEq, Int.reduceAdd, reduceCtorEq, d185, lenE, take_mapc (lenE _)]
  refine calls_p (p_small e) (data_ag _) rfl ?_
  simp -dsimp (disch := omega) only [↓wi, wo, wrap64, reduceIte, Nat.reduceEqDiff, Nat.reduceAdd, Nat.reduceLT, Nat.reduceLeDiff, Nat.reduceMul, Nat.reduceSub, Int.reduceToNat, Int.reduceLT, Int.reduceLE, Int.reduceEq, Int.reduceAdd, reduceCtorEq]
  cases hs : smallE e with
  | false =>
    refine calls_pan (p_must_no _) rfl ?_
    simp -dsimp (disch := omega) only [↓wi, wo, wrap64, reduceIte, Nat.reduceEqDiff, Nat.reduceAdd, Nat.reduceLT, Nat.reduceLeDiff, Nat.reduceMul, Nat.reduceSub, Int.reduceToNat, Int.reduceLT, Int.reduceLE, Int.reduceEq, Int.reduceAdd, reduceCtorEq]
    refine retD_p rfl (ret_ps rfl ?_)
    simp [checkE, hs, out2]; rfl
  | true =>
    refine calls_p (p_must _) rfl rfl ?_
    simp -dsimp (disch := omega) only [↓wi, wo, wrap64, reduceIte, Nat.reduceEqDiff, Nat.reduceAdd, Nat.reduceLT, Nat.reduceLeDiff, Nat.reduceMul, Nat.reduceSub, Int.reduceToNat, Int.reduceLT, Int.reduceLE, Int.reduceEq, Int.reduceAdd, reduceCtorEq, lenE, take_mapc (lenE _)]
    have hk := p_kind fs e
    cases h : kindE fs e with
    | error x =>
      rw [h] at hk
      refine calls_pan hk (by simp [SV.data.dataAll, SV.data, data_m]) ?_
      simp -dsimp (disch := omega) only [↓wi, wo, wrap64, reduceIte, Nat.reduceEqDiff, Nat.reduceAdd, Nat.reduceLT, Nat.reduceLeDiff, Nat.reduceMul, Nat.reduceSub, Int.reduceToNat, Int.reduceLT, Int.reduceLE, Int.reduceEq, Int.reduceAdd, reduceCtorEq]
      refine retD_p rfl (ret_ps rfl ?_)
      simp [checkE, hs, h, out2]; rfl
    | ok k =>
      rw [h] at hk
      refine calls_p hk (by simp [SV.data.dataAll, SV.data, data_m]) rfl ?_
      simp -dsimp (disch := omega) only [↓wi, wo, wrap64, reduceIte, Nat.reduceEqDiff, Nat.reduceAdd, Nat.reduceLT, Nat.reduceLeDiff, Nat.reduceMul, Nat.reduceSub, Int.reduceToNat, Int.reduceLT, Int.reduceLE, Int.reduceEq, Int.reduceAdd, reduceCtorEq]
      refine retD_r rfl (ret_ps rfl ?_)
      simp [checkE, hs, h, out2]; rfl
def kres : Except Int Int → Int × Int
  | .ok k => (k, 0)
  | .error x => (0, x)
def nrow (ks : List Int) : List (List Cell) := ks.map fun n => [ci n]
theorem len_nrow (l : List Int) : (nrow l).length = l.length := by simp [nrow]
theorem getD_nrow {l : List Int} {i : Nat} (h : i < l.length) : (nrow l).getD i [] = [ci (l.getD i 0)] := by
  rw [getD_lt h]; exact getD_map h
theorem arity_facts (op : Int) : ((op = 1 ∨ op = 2) → arityE op = 0) ∧ ((op = 3 ∨ op = 12 ∨ op = 16) → arityE op = 1) ∧ (op = 13 → arityE op = 3) ∧ ((4 ≤ op ∧ op ≤ 16 ∧ op ≠ 12 ∧ op ≠ 13 ∧ op ≠ 16) → arityE op = 2) ∧ ((op < 1 ∨ 16 < op) → arityE op = -1) := by
  unfold arityE
  refine ⟨?_, ?_, ?_, ?_, ?_⟩ <;> intro h <;> (repeat' split) <;> omega
set_option maxHeartbeats 16000000 in
theorem p_rkind (fs : List Fd) (e : Ex) (ks : List Int) (hks : ks.length = e.kids.length) : PC Tryz.prog 213 [ag (encE e), .c (.sl 1 (nrow ks)), .c (.sl 8 (fs.map encF))] (.ret (out2 (kres (kind1 fs e.op.1 e.kids.length e.name e.val (ks.getD 0 0) (ks.getD 1 0) (ks.getD 2 0))))) := by
  have har := arity_facts e.op.1
  have hfl := findI_lt (p := fun f => decide (f.name = e.name)) fs 0
  have g0 := getD_nrow (l := ks) (i := 0)
  have g1 := getD_nrow (l := ks) (i := 1)
  have g2 := getD_nrow (l := ks) (i := 2)
  have hln := len_nrow ks
  generalize ks.getD 0 0 = k0 at *
  generalize ks.getD 1 0 = k1 at *
  generalize ks.getD 2 0 = k2 at *
  generalize nrow ks = row at *
  refine pc_of mixed F213 (by simp) ?_
  simp -dsimp (disch := omega) only [↓wi, wo, wrap64, reduceIte, Nat.reduceEqDiff, Nat.reduceAdd, Nat.reduceLT, Nat.reduceLeDiff, Nat.reduceMul, Nat.reduceSub, Int.reduceToNat, Int.reduceLT, Int.reduceLE, Int.reduceEq, Int.reduceAdd, reduceCtorEq, c213, enter, encE_ e]
  repeat' first | (simp -dsimp (disch := omega) only [↓wi, wo, wrap64, reduceIte, Nat.reduceEqDiff, Nat.reduceAdd, Nat.reduceLT, Nat.reduceLeDiff, Nat.reduceMul, Nat.reduceSub, Int.reduceToNat, Int.reduceLT, Int.reduceLE, Int.reduceEq, Int.reduceAdd, reduceCtorEq, encE_ e, encF, getD_map, hln, g0, g1, g2]) | (refine brd_y (by first | assumption | omega) ?_) | (refine brd_no (by first | assumption | omega) ?_) | (refine forkd (fun _ => ?_) (fun _ => ?_)) | (refine brs_y (by assumption) ?_) | (refine brs_n (by assumption) ?_) | (refine fork (fun _ => ?_) (fun _ => ?_)) | (refine need (by omega) ?_) | (refine qv_need (by omega) ?_) | (refine qv_give ?_) | (refine give fun _ => ?_) | (refine retb rfl ?_) | (refine reti rfl ?_) | (refine ret_p ?_) | (refine ret_ps rfl ?_) | (refine ret_pp rfl ?_) | (refine calls_b (p_rkids e.op.1) rfl (fun _ => ?_) (fun _ => ?_)) | (refine calls_p (p_rkids e.op.1) rfl rfl ?_) | (refine qv_b (p_rkids e.op.1) rfl rfl (fun _ => ?_) (fun _ => ?_)) | (refine qv_q (p_rkids e.op.1) rfl rfl rfl ?_) | (refine calls_b (p_rsame e.val zV) rfl (fun _ => ?_) (fun _ => ?_)) | (refine calls_p (p_rsame e.val zV) rfl rfl ?_) | (refine qv_b (p_rsame e.val zV) rfl rfl (fun _ => ?_) (fun _ => ?_)) | (refine qv_q (p_rsame e.val zV) rfl rfl rfl ?_) | (refine calls_b (p_rgood e.val) rfl (fun _ => ?_) (fun _ => ?_)) | (refine calls_p (p_rgood e.val) rfl rfl ?_) | (refine qv_b (p_rgood e.val) rfl rfl (fun _ => ?_) (fun _ => ?_)) | (refine qv_q (p_rgood e.val) rfl rfl rfl ?_) | (refine calls_b (p_rfield e.name fs) rfl (fun _ => ?_) (fun _ => ?_)) | (refine calls_p (p_rfield e.name fs) rfl rfl ?_) | (refine qv_b (p_rfield e.name fs) rfl rfl (fun _ => ?_) (fun _ => ?_)) | (refine qv_q (p_rfield e.name fs) rfl rfl rfl ?_)
  all_goals clear har g0 g1 g2 hln
  all_goals first | (simp only [kind1]; simp_all [kres, out2, numericE]; done) | (rw [← getD_lt (d := default) (by omega)]; simp_all [kind1, kres, out2]; done) | grind [kind1, kres, out2, numericE]
end Go.Proofs.YtbnelpgogjbgjaaGreat.Q
/- The document's check of an expression. -/
set_option linter.unusedVariables false
set_option linter.unusedSimpArgs false
namespace Go.Proofs.YtbnelpgogjbgjaaGreat.Q
open Go.RowKit

/-- No part has many kids. -/
inductive Thin : Ex → Prop where
  | mk {e : Ex} (h : e.kids.length ≤ 1000) (k : ∀ x ∈ e.kids, Thin x) : Thin e
theorem leftL_thin {deep : Int} (ih : ∀ (l : List Ex), True) (l : List Ex) : ∀ n : Int, 0 ≤ leftL l deep n → (l.length : Int) ≤ n ∧ ∀ x ∈ l, ∃ m : Int, 0 ≤ m ∧ m ≤ n ∧ 0 ≤ leftE x deep m := by
  induction l with
  | nil => intro n h; simp only [leftL] at h; simp; exact h
  | cons e l ihl =>
    intro n h
    simp only [leftL] at h
    by_cases h0 : 0 ≤ n
    · rw [if_pos h0] at h
      have hle := leftE_le e deep n h0
      obtain ⟨h1, h2⟩ := ihl _ h
      have h3 : 0 ≤ leftE e deep n := by omega
      have h4 : leftE e deep n ≤ n - 1 := by
        rw [leftE_] at h3 ⊢
        split at h3
        · omega
        · rename_i hd
          rw [if_neg hd]
          by_cases hn : 0 ≤ n - 1
          · clear h3 h1 h2 h hle
            have : ∀ (l : List Ex) (n : Int), -1 ≤ n → leftL l (deep - 1) n ≤ n := by
              intro l
              induction l with
              | nil => intro n _; simp only [leftL]; omega
              | cons k l ihk =>
                intro n h
                simp only [leftL]
                split
                · rename_i h0
                  have h1 := leftE_le k (deep - 1) n h0
                  have h2 := ihk _ h1.1
                  omega
                · omega
            exact this _ _ (by omega)
          · rw [leftL_neg _ hn] at h3 ⊢; omega
      refine ⟨by simp only [List.length_cons]; omega, fun x hx => ?_⟩
      rcases List.mem_cons.1 hx with rfl | hx
      · exact ⟨n, h0, by omega, h3⟩
      · obtain ⟨m, m0, m1, m2⟩ := h2 x hx
        exact ⟨m, m0, by omega, m2⟩
    · rw [if_neg h0] at h; omega
theorem thin_of (e : Ex) : ∀ deep n : Int, n ≤ 1000 → 0 ≤ leftE e deep n → Thin e := by
  induction e using Ex.ind with
  | h e ih =>
    intro deep n hn h
    rw [leftE_] at h
    split at h
    · omega
    · obtain ⟨h1, h2⟩ := leftL_thin (fun _ => trivial) _ _ h
      exact .mk (by omega) fun x hx => by
        obtain ⟨m, _, m1, m2⟩ := h2 x hx
        exact ih x hx _ m (by omega) m2
def ErrOk (r : Except Int Int) : Prop := ∀ x, r = .error x → x = 1 ∨ x = 40 ∨ x = 50
theorem ErrOk.ite {c : Prop} [Decidable c] {a b : Except Int Int} (h : ErrOk a) (k : ErrOk b) : ErrOk (if c then a else b) := by split <;> assumption
theorem kind1_err {fs : List Fd} {op : Int} {nk : Nat} {name : ByteArray} {val : Vl} {k0 k1 k2 x : Int} (h : kind1 fs op nk name val k0 k1 k2 = .error x) : x = 1 ∨ x = 40 ∨ x = 50 := by
  revert x
  change ErrOk _
  unfold kind1
  repeat' refine ErrOk.ite ?_ ?_
  all_goals (intro x h; simp at h; try omega)
theorem kindE_err {fs : List Fd} (e : Ex) : ∀ x : Int, kindE fs e = .error x → x = 1 ∨ x = 40 ∨ x = 50 := by
  induction e using Ex.ind with
  | h e ih =>
    intro x hx
    rw [kindE_] at hx
    have : ∀ (l : List Ex), (∀ k ∈ l, k ∈ e.kids) → ∀ x : Int, kindL fs l = .error x → x = 1 ∨ x = 40 ∨ x = 50 := by
      intro l
      induction l with
      | nil => intro _ x h; simp [kindL] at h
      | cons k l ihl =>
        intro hk x h
        simp only [kindL] at h
        split at h
        · rename_i y hy
          injection h with h
          subst h
          exact ih k (hk k (by simp)) _ hy
        · split at h
          · rename_i y hy
            injection h with h
            subst h
            exact ihl (fun z hz => hk z (by simp [hz])) _ hy
          · cases h
    split at hx
    · rename_i y hy
      injection hx with hx
      subst hx
      exact this _ (fun _ h => h) _ hy
    · exact kind1_err hx
theorem nrow_app (ks : List Int) (k : Int) : nrow ks ++ [[ci k]] = nrow (ks ++ [k]) := by simp [nrow]
set_option maxHeartbeats 4000000 in
theorem p_rcheck (fs : List Fd) (e : Ex) : Thin e → PC Tryz.prog 189 [ag (encE e), .c (.sl 8 (fs.map encF))] (.ret (out2 (kres (kindE fs e)))) := by
  induction e using Ex.ind with
  | h e ih =>
    intro hthin
    obtain ⟨hl, hks⟩ : e.kids.length ≤ 1000 ∧ ∀ x ∈ e.kids, Thin x := by cases hthin; exact ⟨‹_›, ‹_›⟩
    refine pc_of mixed F189 (by simp) ?_
    simp -dsimp (disch := omega) only [↓wi, wo, wrap64, reduceIte, Nat.reduceEqDiff, Nat.reduceAdd, Nat.reduceLT, Nat.reduceLeDiff, Nat.reduceMul, Nat.reduceSub, Int.reduceToNat, Int.reduceLT, Int.reduceLE, Int.reduceEq, Int.reduceAdd, reduceCtorEq, c189, enter, encE_ e]
    refine AW_wk ((Wk_nil 6 3 1 rfl).trans (Wk_live [6, 1, 2, 7])) (AW_inv mixed (n := e.kids.length) (fun m st => ∃ (i : Nat) (ks : List Int), i + m = e.kids.length ∧ ks.length = i ∧ kindL fs e.kids = kfrom fs ks (e.kids.drop i) ∧ st = ⟨0, [(6, .row 1 ks.length), (1, .c (.sl 8 (fs.map encF))), (2, .ptr 0 0), (7, vi i)], [.box ((encE e).map .c), .row true 3 1 (nrow ks)]⟩) ⟨0, [], by omega, rfl, by simp only [List.drop_zero, kfrom]; cases kindL fs e.kids <;> simp, by rw [encE_ e]; rfl⟩ ?_)
    rintro m _ ⟨i, ks, hi, hks', hf, rfl⟩
    simp -dsimp (disch := omega) only [↓wi, wo, wrap64, reduceIte, Nat.reduceEqDiff, Nat.reduceAdd, Nat.reduceLT, Nat.reduceLeDiff, Nat.reduceMul, Nat.reduceSub, Int.reduceToNat, Int.reduceLT, Int.reduceLE, Int.reduceEq, Int.reduceAdd, reduceCtorEq, encE_ e]
    refine give fun _ => ?_
    simp -dsimp (disch := omega) only [↓wi, wo, wrap64, reduceIte, Nat.reduceEqDiff, Nat.reduceAdd, Nat.reduceLT, Nat.reduceLeDiff, Nat.reduceMul, Nat.reduceSub, Int.reduceToNat, Int.reduceLT, Int.reduceLE, Int.reduceEq, Int.reduceAdd, reduceCtorEq]
    refine forkd (fun h => ?_) (fun h => ?_)
    · have hi' : i < e.kids.length := by omega
      simp -dsimp (disch := omega) only [↓wi, wo, wrap64, reduceIte, Nat.reduceEqDiff, Nat.reduceAdd, Nat.reduceLT, Nat.reduceLeDiff, Nat.reduceMul, Nat.reduceSub, Int.reduceToNat, Int.reduceLT, Int.reduceLE, Int.reduceEq, Int.reduceAdd, reduceCtorEq]
      refine need (by omega) ?_
      simp -dsimp (disch := omega) only [↓wi, wo, wrap64, reduceIte, Nat.reduceEqDiff, Nat.reduceAdd, Nat.reduceLT, Nat.reduceLeDiff, Nat.reduceMul, Nat.reduceSub, Int.reduceToNat, Int.reduceLT, Int.reduceLE, Int.reduceEq, Int.reduceAdd, reduceCtorEq, getD_map hi', lenE, take_all (Nat.le_of_eq (lenE _)), take_mapc (lenE _)]
      have hkid := ih _ (List.getElem_mem hi') (hks _ (List.getElem_mem hi'))
      cases hk : kindE fs e.kids[i] with
      | error x =>
        rw [hk] at hkid
        refine calls_p hkid (by simp [SV.data.dataAll, SV.data, data_m]) rfl ?_
        have hx := kindE_err _ _ hk
        simp -dsimp (disch := omega) only [↓wi, wo, wrap64, reduceIte, Nat.reduceEqDiff, Nat.reduceAdd, Nat.reduceLT, Nat.reduceLeDiff, Nat.reduceMul, Nat.reduceSub, Int.reduceToNat, Int.reduceLT, Int.reduceLE, Int.reduceEq, Int.reduceAdd, reduceCtorEq, kres, out2]
        refine brd_no (by omega) ?_
        simp -dsimp (disch := omega) only [↓wi, wo, wrap64, reduceIte, Nat.reduceEqDiff, Nat.reduceAdd, Nat.reduceLT, Nat.reduceLeDiff, Nat.reduceMul, Nat.reduceSub, Int.reduceToNat, Int.reduceLT, Int.reduceLE, Int.reduceEq, Int.reduceAdd, reduceCtorEq]
        refine ret_ps rfl ?_
        rw [kindE_, hf, kfrom_err hi' hk]; rfl
      | ok k =>
        rw [hk] at hkid
        rw [kfrom_ok hi' hk] at hf
        refine calls_p hkid (by simp [SV.data.dataAll, SV.data, data_m]) rfl ?_
        simp -dsimp (disch := omega) only [↓wi, wo, wrap64, reduceIte, Nat.reduceEqDiff, Nat.reduceAdd, Nat.reduceLT, Nat.reduceLeDiff, Nat.reduceMul, Nat.reduceSub, Int.reduceToNat, Int.reduceLT, Int.reduceLE, Int.reduceEq, Int.reduceAdd, reduceCtorEq, kres, out2]
        refine need ⟨len_nrow ks, by simp, by rw [len_nrow]; omega⟩ ?_
        simp -dsimp (disch := omega) only [↓wi, wo, wrap64, reduceIte, Nat.reduceEqDiff, Nat.reduceAdd, Nat.reduceLT, Nat.reduceLeDiff, Nat.reduceMul, Nat.reduceSub, Int.reduceToNat, Int.reduceLT, Int.reduceLE, Int.reduceEq, Int.reduceAdd, reduceCtorEq, len_nrow]
        subst hks'
        refine ⟨m - 1, _, by omega, Wk_live [6, 1, 2, 7], ks.length + 1, ks ++ [k], by omega, by simp, hf, ?_⟩
        rw [← nrow_app, encE_ e]
        simp only [List.length_append]
        rfl
    · simp -dsimp (disch := omega) only [↓wi, wo, wrap64, reduceIte, Nat.reduceEqDiff, Nat.reduceAdd, Nat.reduceLT, Nat.reduceLeDiff, Nat.reduceMul, Nat.reduceSub, Int.reduceToNat, Int.reduceLT, Int.reduceLE, Int.reduceEq, Int.reduceAdd, reduceCtorEq, encE_ e]
      rw [kfrom_end (by omega)] at hf
      have hlen : ks.length = e.kids.length := by omega
      have hk := p_rkind fs e ks hlen
      refine calls_l (v := out2 (kres (kindE fs e))) (f := 213) (by
        rw [kindE_, hf]
        rw [encE_ e] at hk
        simp -dsimp (disch := omega) only [↓wi, wo, wrap64, reduceIte, Nat.reduceEqDiff, Nat.reduceAdd, Nat.reduceLT, Nat.reduceLeDiff, Nat.reduceMul, Nat.reduceSub, Int.reduceToNat, Int.reduceLT, Int.reduceLE, Int.reduceEq, Int.reduceAdd, reduceCtorEq, len_nrow]
        exact hk) ?_ rfl ?_
      · simp -dsimp (disch := omega) only [↓wi, wo, wrap64, reduceIte, Nat.reduceEqDiff, Nat.reduceAdd, Nat.reduceLT, Nat.reduceLeDiff, Nat.reduceMul, Nat.reduceSub, Int.reduceToNat, Int.reduceLT, Int.reduceLE, Int.reduceEq, Int.reduceAdd, reduceCtorEq, len_nrow]
        rfl
      · simp -dsimp (disch := omega) only [↓wi, wo, wrap64, reduceIte, Nat.reduceEqDiff, Nat.reduceAdd, Nat.reduceLT, Nat.reduceLeDiff, Nat.reduceMul, Nat.reduceSub, Int.reduceToNat, Int.reduceLT, Int.reduceLE, Int.reduceEq, Int.reduceAdd, reduceCtorEq, out2]
        refine ret_ps rfl ?_
        rfl
theorem p_rCheck (fs : List Fd) (e : Ex) : PC Tryz.prog 133 [ag (encE e), .c (.sl 8 (fs.map encF))] (.ret (out2 (checkE fs e))) := by
  refine pc_of mixed F133 (by simp) ?_
  simp -dsimp (disch := omega) only [↓wi, wo, wrap64, reduceIte, Nat.reduceEqDiff, Nat.reduceAdd, Nat.reduceLT, Nat.reduceLeDiff, Nat.reduceMul, Nat.reduceSub, Int.reduceToNat, Int.reduceLT, Int.reduceLE, Int.reduceEq, Int.reduceAdd, reduceCtorEq, c133, enter, lenE, take_mapc (lenE _)]
  refine calls_b (p_rsmall e) (data_ag _) (fun h => ?_) (fun h => ?_)
  · simp -dsimp (disch := omega) only [↓wi, wo, wrap64, reduceIte, Nat.reduceEqDiff, Nat.reduceAdd, Nat.reduceLT, Nat.reduceLeDiff, Nat.reduceMul, Nat.reduceSub, Int.reduceToNat, Int.reduceLT, Int.reduceLE, Int.reduceEq, Int.reduceAdd, reduceCtorEq, lenE, take_mapc (lenE _)]
    have h0 : 0 ≤ leftE e 6 24 := by simpa using h
    refine calls_p (p_rcheck fs e (thin_of e 6 24 (by omega) h0)) (by simp [SV.data.dataAll, SV.data, data_m]) rfl ?_
    simp -dsimp (disch := omega) only [↓wi, wo, wrap64, reduceIte, Nat.reduceEqDiff, Nat.reduceAdd, Nat.reduceLT, Nat.reduceLeDiff, Nat.reduceMul, Nat.reduceSub, Int.reduceToNat, Int.reduceLT, Int.reduceLE, Int.reduceEq, Int.reduceAdd, reduceCtorEq, out2]
    refine ret_ps rfl ?_
    simp only [checkE, smallE, h, if_true]
    cases kindE fs e <;> rfl
  · simp -dsimp (disch := omega) only [↓wi, wo, wrap64, reduceIte, Nat.reduceEqDiff, Nat.reduceAdd, Nat.reduceLT, Nat.reduceLeDiff, Nat.reduceMul, Nat.reduceSub, Int.reduceToNat, Int.reduceLT, Int.reduceLE, Int.reduceEq, Int.reduceAdd, reduceCtorEq]
    refine ret_ps rfl ?_
    simp only [checkE, smallE, h]; rfl
end Go.Proofs.YtbnelpgogjbgjaaGreat.Q
/- Moves that are right: the program's. -/
set_option linter.unusedVariables false
set_option linter.unusedSimpArgs false
namespace Go.Proofs.YtbnelpgogjbgjaaGreat.Q
open Go.RowKit

theorem getD_mapD {α : Type} [Inhabited α] {f : α → List Cell} {l : List α} {i : Nat} (h : i < l.length) : (l.map f).getD i [] = f (l.getD i default) := by
  rw [getD_map h, getD_lt h]
def isE (fs : List Fd) (e : Ex) (kind : Int) : Bool := decide ((checkE fs e).2 = 0) && decide ((checkE fs e).1 = kind)
theorem p_is (fs : List Fd) (e : Ex) (kind : Int) : PC Tryz.prog 122 [ag (encE e), vi kind, .c (.sl 8 (fs.map encF))] (.ret (vb (isE fs e kind))) := by
  refine pc_of mixed F122 (by simp) ?_
  simp -dsimp (disch := omega) only [↓wi, wo, wrap64, reduceIte, Nat.reduceEqDiff, Nat.reduceAdd, Nat.reduceLT, Nat.reduceLeDiff, Nat.reduceMul, Nat.reduceSub, Int.reduceToNat, Int.reduceLT, Int.reduceLE, Int.reduceEq, Int.reduceAdd, reduceCtorEq, c122, enter, lenE, take_mapc (lenE _)]
  refine calls_p (p_check fs e) (by simp [SV.data.dataAll, SV.data, data_m]) rfl ?_
  repeat' first | (simp -dsimp (disch := omega) only [↓wi, wo, wrap64, reduceIte, Nat.reduceEqDiff, Nat.reduceAdd, Nat.reduceLT, Nat.reduceLeDiff, Nat.reduceMul, Nat.reduceSub, Int.reduceToNat, Int.reduceLT, Int.reduceLE, Int.reduceEq, Int.reduceAdd, reduceCtorEq, out2]) | (refine brd_y (by first | assumption | omega) ?_) | (refine brd_no (by first | assumption | omega) ?_) | (refine forkd (fun _ => ?_) (fun _ => ?_)) | (refine brs_y (by assumption) ?_) | (refine brs_n (by assumption) ?_) | (refine fork (fun _ => ?_) (fun _ => ?_)) | (refine need (by omega) ?_) | (refine qv_need (by omega) ?_) | (refine qv_give ?_) | (refine give fun _ => ?_) | (refine retb rfl ?_) | (refine reti rfl ?_) | (refine ret_p ?_) | (refine ret_ps rfl ?_) | (refine ret_pp rfl ?_)
  all_goals simp_all [isE]
theorem p_there (c : Ctr) (H : List AObj) (n : Int) : ACalls Tryz.prog 121 [vi n, .ptr 0 0] (.box ((encC c).map .c) :: H) fun o H1 => o = .ret (vb (decide (0 ≤ n) && decide (n < c.stages.length))) ∧ H1 = .box ((encC c).map .c) :: H := by
  refine ac_of mixed F121 (by simp) ?_
  simp -dsimp (disch := omega) only [↓wi, wo, wrap64, reduceIte, Nat.reduceEqDiff, Nat.reduceAdd, Nat.reduceLT, Nat.reduceLeDiff, Nat.reduceMul, Nat.reduceSub, Int.reduceToNat, Int.reduceLT, Int.reduceLE, Int.reduceEq, Int.reduceAdd, reduceCtorEq, c121, enter, encC]
  refine forkd (fun h => ?_) (fun h => ?_)
  · simp -dsimp (disch := omega) only [↓wi, wo, wrap64, reduceIte, Nat.reduceEqDiff, Nat.reduceAdd, Nat.reduceLT, Nat.reduceLeDiff, Nat.reduceMul, Nat.reduceSub, Int.reduceToNat, Int.reduceLT, Int.reduceLE, Int.reduceEq, Int.reduceAdd, reduceCtorEq]
    refine give fun _ => ?_
    simp -dsimp (disch := omega) only [↓wi, wo, wrap64, reduceIte, Nat.reduceEqDiff, Nat.reduceAdd, Nat.reduceLT, Nat.reduceLeDiff, Nat.reduceMul, Nat.reduceSub, Int.reduceToNat, Int.reduceLT, Int.reduceLE, Int.reduceEq, Int.reduceAdd, reduceCtorEq]
    refine forkd (fun h2 => ?_) (fun h2 => ?_)
    · simp -dsimp (disch := omega) only [↓wi, wo, wrap64, reduceIte, Nat.reduceEqDiff, Nat.reduceAdd, Nat.reduceLT, Nat.reduceLeDiff, Nat.reduceMul, Nat.reduceSub, Int.reduceToNat, Int.reduceLT, Int.reduceLE, Int.reduceEq, Int.reduceAdd, reduceCtorEq]
      refine ret_s (.inl rfl) rfl ?_
      simp [h, h2]; rfl
    · simp -dsimp (disch := omega) only [↓wi, wo, wrap64, reduceIte, Nat.reduceEqDiff, Nat.reduceAdd, Nat.reduceLT, Nat.reduceLeDiff, Nat.reduceMul, Nat.reduceSub, Int.reduceToNat, Int.reduceLT, Int.reduceLE, Int.reduceEq, Int.reduceAdd, reduceCtorEq]
      refine ret_s (.inl rfl) rfl ?_
      simp [h, h2]; rfl
  · simp -dsimp (disch := omega) only [↓wi, wo, wrap64, reduceIte, Nat.reduceEqDiff, Nat.reduceAdd, Nat.reduceLT, Nat.reduceLeDiff, Nat.reduceMul, Nat.reduceSub, Int.reduceToNat, Int.reduceLT, Int.reduceLE, Int.reduceEq, Int.reduceAdd, reduceCtorEq]
    refine ret_s (.inl rfl) rfl ?_
    simp [h]; rfl
def fieldAt (c : Ctr) (s : ByteArray) : Int := findI (fun f => decide (f.name = s)) 0 c.fields
theorem fieldAt_lt (c : Ctr) (s : ByteArray) : fieldAt c s < c.fields.length := by
  have := findI_lt (p := fun f : Fd => decide (f.name = s)) c.fields 0
  rw [Nat.zero_add] at this
  exact this
theorem p_cField (c : Ctr) (s : ByteArray) : PC Tryz.prog 21 [ag (encC c), vs s] (.ret (vi (fieldAt c s))) := by
  refine pc_of mixed F21 (by simp) ?_
  simp -dsimp (disch := omega) only [↓wi, wo, wrap64, reduceIte, Nat.reduceEqDiff, Nat.reduceAdd, Nat.reduceLT, Nat.reduceLeDiff, Nat.reduceMul, Nat.reduceSub, Int.reduceToNat, Int.reduceLT, Int.reduceLE, Int.reduceEq, Int.reduceAdd, reduceCtorEq, c21, enter, encC]
  refine calls_p (p_findF lenF p_fieldName s) rfl rfl ?_
  repeat' first | (simp -dsimp (disch := omega) only [↓wi, wo, wrap64, reduceIte, Nat.reduceEqDiff, Nat.reduceAdd, Nat.reduceLT, Nat.reduceLeDiff, Nat.reduceMul, Nat.reduceSub, Int.reduceToNat, Int.reduceLT, Int.reduceLE, Int.reduceEq, Int.reduceAdd, reduceCtorEq]) | (refine brd_y (by first | assumption | omega) ?_) | (refine brd_no (by first | assumption | omega) ?_) | (refine forkd (fun _ => ?_) (fun _ => ?_)) | (refine brs_y (by assumption) ?_) | (refine brs_n (by assumption) ?_) | (refine fork (fun _ => ?_) (fun _ => ?_)) | (refine need (by omega) ?_) | (refine qv_need (by omega) ?_) | (refine qv_give ?_) | (refine give fun _ => ?_) | (refine retb rfl ?_) | (refine reti rfl ?_) | (refine ret_p ?_) | (refine ret_ps rfl ?_) | (refine ret_pp rfl ?_)
  all_goals rfl
theorem p_cStage (c : Ctr) (s : ByteArray) : PC Tryz.prog 60 [ag (encC c), vs s] (.ret (vi (findI (fun f => decide (f.name = s)) 0 c.stages))) := by
  refine pc_of mixed F60 (by simp) ?_
  simp -dsimp (disch := omega) only [↓wi, wo, wrap64, reduceIte, Nat.reduceEqDiff, Nat.reduceAdd, Nat.reduceLT, Nat.reduceLeDiff, Nat.reduceMul, Nat.reduceSub, Int.reduceToNat, Int.reduceLT, Int.reduceLE, Int.reduceEq, Int.reduceAdd, reduceCtorEq, c60, enter, encC]
  refine calls_p (p_findS lenS p_stageName s) rfl rfl ?_
  repeat' first | (simp -dsimp (disch := omega) only [↓wi, wo, wrap64, reduceIte, Nat.reduceEqDiff, Nat.reduceAdd, Nat.reduceLT, Nat.reduceLeDiff, Nat.reduceMul, Nat.reduceSub, Int.reduceToNat, Int.reduceLT, Int.reduceLE, Int.reduceEq, Int.reduceAdd, reduceCtorEq]) | (refine brd_y (by first | assumption | omega) ?_) | (refine brd_no (by first | assumption | omega) ?_) | (refine forkd (fun _ => ?_) (fun _ => ?_)) | (refine brs_y (by assumption) ?_) | (refine brs_n (by assumption) ?_) | (refine fork (fun _ => ?_) (fun _ => ?_)) | (refine need (by omega) ?_) | (refine qv_need (by omega) ?_) | (refine qv_give ?_) | (refine give fun _ => ?_) | (refine retb rfl ?_) | (refine reti rfl ?_) | (refine ret_p ?_) | (refine ret_ps rfl ?_) | (refine ret_pp rfl ?_)
theorem p_cMove (c : Ctr) (s : ByteArray) : PC Tryz.prog 210 [ag (encC c), vs s] (.ret (vi (findI (fun f => decide (f.name = s)) 0 c.moves))) := by
  refine pc_of mixed F210 (by simp) ?_
  simp -dsimp (disch := omega) only [↓wi, wo, wrap64, reduceIte, Nat.reduceEqDiff, Nat.reduceAdd, Nat.reduceLT, Nat.reduceLeDiff, Nat.reduceMul, Nat.reduceSub, Int.reduceToNat, Int.reduceLT, Int.reduceLE, Int.reduceEq, Int.reduceAdd, reduceCtorEq, c210, enter, encC]
  refine calls_p (p_findM lenM p_moveName s) rfl rfl ?_
  repeat' first | (simp -dsimp (disch := omega) only [↓wi, wo, wrap64, reduceIte, Nat.reduceEqDiff, Nat.reduceAdd, Nat.reduceLT, Nat.reduceLeDiff, Nat.reduceMul, Nat.reduceSub, Int.reduceToNat, Int.reduceLT, Int.reduceLE, Int.reduceEq, Int.reduceAdd, reduceCtorEq]) | (refine brd_y (by first | assumption | omega) ?_) | (refine brd_no (by first | assumption | omega) ?_) | (refine forkd (fun _ => ?_) (fun _ => ?_)) | (refine brs_y (by assumption) ?_) | (refine brs_n (by assumption) ?_) | (refine fork (fun _ => ?_) (fun _ => ?_)) | (refine need (by omega) ?_) | (refine qv_need (by omega) ?_) | (refine qv_give ?_) | (refine give fun _ => ?_) | (refine retb rfl ?_) | (refine reti rfl ?_) | (refine ret_p ?_) | (refine ret_ps rfl ?_) | (refine ret_pp rfl ?_)
/-- An effect that may be, but for its place. -/
def effOk (c : Ctr) (x : Eff) : Bool := decide (0 ≤ fieldAt c x.field) && isE c.fields x.expr (c.fields.getD (fieldAt c x.field).toNat default).kind.1
def headOk (c : Ctr) (m : Mov) : Bool := decide (0 ≤ m.frm.1) && decide (m.frm.1 < c.stages.length) && decide (0 ≤ m.to.1) && decide (m.to.1 < c.stages.length) && decide (-1 ≤ m.org.1) && decide (m.org.1 < 4) && decide (m.effects.length ≤ 4) && isE c.fields m.guard 2
def goodMv (c : Ctr) (m : Mov) : Bool := headOk c m && (m.effects.all (effOk c) && apart (m.effects.map (·.field)))
theorem all_at {α : Type} {p : α → Bool} {l : List α} {i : Nat} (h : i < l.length) : (l.drop i).all p = (p l[i] && (l.drop (i + 1)).all p) := by
  rw [List.drop_eq_getElem_cons h]; rfl
theorem all_end {α : Type} {p : α → Bool} {l : List α} {i : Nat} (h : l.length ≤ i) : (l.drop i).all p = true := by
  rw [List.drop_eq_nil_of_le h]; rfl
theorem strs_app (l : List ByteArray) (s : ByteArray) : strs l ++ [[cs s]] = strs (l ++ [s]) := by simp [strs]
set_option maxHeartbeats 8000000 in
theorem p_goodMove (c : Ctr) (m : Mov) : PC Tryz.prog 62 [ag (encC c), ag (encM m)] (.ret (vb (goodMv c m))) := by
  refine pc_of mixed F62 (by simp) ?_
  simp -dsimp (disch := omega) only [↓wi, wo, wrap64, reduceIte, Nat.reduceEqDiff, Nat.reduceAdd, Nat.reduceLT, Nat.reduceLeDiff, Nat.reduceMul, Nat.reduceSub, Int.reduceToNat, Int.reduceLT, Int.reduceLE, Int.reduceEq, Int.reduceAdd, reduceCtorEq, c62, enter, encC, encM]
  have hg := p_is c.fields m.guard 2
  rw [encE_ m.guard] at hg
  repeat' first | (simp -dsimp (disch := omega) only [↓wi, wo, wrap64, reduceIte, Nat.reduceEqDiff, Nat.reduceAdd, Nat.reduceLT, Nat.reduceLeDiff, Nat.reduceMul, Nat.reduceSub, Int.reduceToNat, Int.reduceLT, Int.reduceLE, Int.reduceEq, Int.reduceAdd, reduceCtorEq, encC]) | (refine brd_y (by first | assumption | omega) ?_) | (refine brd_no (by first | assumption | omega) ?_) | (refine forkd (fun _ => ?_) (fun _ => ?_)) | (refine brs_y (by assumption) ?_) | (refine brs_n (by assumption) ?_) | (refine fork (fun _ => ?_) (fun _ => ?_)) | (refine need (by omega) ?_) | (refine qv_need (by omega) ?_) | (refine qv_give ?_) | (refine give fun _ => ?_) | (refine retb rfl ?_) | (refine reti rfl ?_) | (refine ret_p ?_) | (refine ret_ps rfl ?_) | (refine ret_pp rfl ?_) | (refine calls_b (hg) rfl (fun _ => ?_) (fun _ => ?_)) | (refine calls_p (hg) rfl rfl ?_) | (refine qv_b (hg) rfl rfl (fun _ => ?_) (fun _ => ?_)) | (refine qv_q (hg) rfl rfl rfl ?_) | (refine calls_hb (B121) (p_there c _ m.frm.1) (fun _ => ?_) (fun _ => ?_)) | (refine calls_hb (B121) (p_there c _ m.to.1) (fun _ => ?_) (fun _ => ?_))
  all_goals try (simp_all [goodMv, headOk]; done)
  all_goals try (simp_all [goodMv, headOk]; omega)
  have hen : goodMv c m = (m.effects.all (effOk c) && apart (m.effects.map (·.field))) := by
    have : headOk c m = true := by simp_all [headOk]; omega
    rw [goodMv, this, Bool.true_and]
  have hlen : m.effects.length ≤ 4 := by omega
  refine AW_wk ((Wk_nil 6 9 1 rfl).trans (Wk_cut [true, false, true] [6, 2, 48, 49, 50] (by simp) (by simp))) (AW_inv mixed (n := m.effects.length) (fun n st => ∃ (i : Nat) (ns : List ByteArray), i + n = m.effects.length ∧ ns.length = i ∧ ns = (m.effects.take i).map (·.field) ∧ goodMv c m = ((m.effects.drop i).all (effOk c) && apart (m.effects.map (·.field))) ∧ st = ⟨0, [(6, .row 2 ns.length), (2, .ptr 0 0), (48, .c (.sl 9 (m.effects.map encX))), (49, vi m.effects.length), (50, vi i)], [.box ((encC c).map .c), .dead, .row true 9 1 (strs ns)]⟩) ⟨0, [], by omega, rfl, by simp, by simpa using hen, rfl⟩ ?_)
  clear hen hg
  rintro n _ ⟨i, ns, hi, hns, hns', hf, rfl⟩
  simp -dsimp (disch := omega) only [↓wi, wo, wrap64, reduceIte, Nat.reduceEqDiff, Nat.reduceAdd, Nat.reduceLT, Nat.reduceLeDiff, Nat.reduceMul, Nat.reduceSub, Int.reduceToNat, Int.reduceLT, Int.reduceLE, Int.reduceEq, Int.reduceAdd, reduceCtorEq, encC]
  refine forkd (fun h => ?_) (fun h => ?_)
  · have hi' : i < m.effects.length := by omega
    rw [all_at hi'] at hf
    have htk : (m.effects.take (i + 1)).map (·.field) = ns ++ [m.effects[i].field] := by
      rw [List.take_succ_eq_append_getElem hi', hns']; simp only [List.map_append, List.map_cons, List.map_nil]
    simp -dsimp (disch := omega) only [↓wi, wo, wrap64, reduceIte, Nat.reduceEqDiff, Nat.reduceAdd, Nat.reduceLT, Nat.reduceLeDiff, Nat.reduceMul, Nat.reduceSub, Int.reduceToNat, Int.reduceLT, Int.reduceLE, Int.reduceEq, Int.reduceAdd, reduceCtorEq]
    refine need (by omega) ?_
    simp -dsimp (disch := omega) only [↓wi, wo, wrap64, reduceIte, Nat.reduceEqDiff, Nat.reduceAdd, Nat.reduceLT, Nat.reduceLeDiff, Nat.reduceMul, Nat.reduceSub, Int.reduceToNat, Int.reduceLT, Int.reduceLE, Int.reduceEq, Int.reduceAdd, reduceCtorEq, getD_map hi', encX, encE_, encC]
    generalize m.effects[i] = x at hf htk
    refine calls_p (p_cField c x.field) rfl rfl ?_
    simp -dsimp (disch := omega) only [↓wi, wo, wrap64, reduceIte, Nat.reduceEqDiff, Nat.reduceAdd, Nat.reduceLT, Nat.reduceLeDiff, Nat.reduceMul, Nat.reduceSub, Int.reduceToNat, Int.reduceLT, Int.reduceLE, Int.reduceEq, Int.reduceAdd, reduceCtorEq]
    have hx : PC Tryz.prog 122 _ _ := p_is c.fields x.expr (c.fields.getD (fieldAt c x.field).toNat default).kind.1
    rw [encE_ x.expr] at hx
    have hfl := fieldAt_lt c x.field
    repeat' first | (simp -dsimp (disch := omega) only [↓wi, wo, wrap64, reduceIte, Nat.reduceEqDiff, Nat.reduceAdd, Nat.reduceLT, Nat.reduceLeDiff, Nat.reduceMul, Nat.reduceSub, Int.reduceToNat, Int.reduceLT, Int.reduceLE, Int.reduceEq, Int.reduceAdd, reduceCtorEq, encC, encF, getD_mapD]) | (refine brd_y (by first | assumption | omega) ?_) | (refine brd_no (by first | assumption | omega) ?_) | (refine forkd (fun _ => ?_) (fun _ => ?_)) | (refine brs_y (by assumption) ?_) | (refine brs_n (by assumption) ?_) | (refine fork (fun _ => ?_) (fun _ => ?_)) | (refine need (by omega) ?_) | (refine qv_need (by omega) ?_) | (refine qv_give ?_) | (refine give fun _ => ?_) | (refine retb rfl ?_) | (refine reti rfl ?_) | (refine ret_p ?_) | (refine ret_ps rfl ?_) | (refine ret_pp rfl ?_) | (refine calls_b (hx) rfl (fun _ => ?_) (fun _ => ?_)) | (refine calls_p (hx) rfl rfl ?_) | (refine qv_b (hx) rfl rfl (fun _ => ?_) (fun _ => ?_)) | (refine qv_q (hx) rfl rfl rfl ?_)
    · rename_i h1; rw [hf, effOk, decide_eq_false (by omega)]; rfl
    · rename_i h1 h2
      rw [show effOk c x = true from by rw [effOk, h2]; simp; omega, Bool.true_and] at hf
      refine need ⟨by rw [len_strs], by simp, by rw [len_strs]; omega⟩ ?_
      simp -dsimp (disch := omega) only [↓wi, wo, wrap64, reduceIte, Nat.reduceEqDiff, Nat.reduceAdd, Nat.reduceLT, Nat.reduceLeDiff, Nat.reduceMul, Nat.reduceSub, Int.reduceToNat, Int.reduceLT, Int.reduceLE, Int.reduceEq, Int.reduceAdd, reduceCtorEq, len_strs]
      subst hns
      refine ⟨n - 1, _, by omega, Wk_cut [true, false, true] [6, 2, 48, 49, 50] (by simp) (by simp), ns.length + 1, ns ++ [x.field], by omega, by simp, htk.symm, hf, ?_⟩
      rw [← strs_app]
      simp only [List.length_append]
      rfl
    · rename_i h1 h2; rw [hf, effOk, h2, Bool.and_false]; rfl
  · simp -dsimp (disch := omega) only [↓wi, wo, wrap64, reduceIte, Nat.reduceEqDiff, Nat.reduceAdd, Nat.reduceLT, Nat.reduceLeDiff, Nat.reduceMul, Nat.reduceSub, Int.reduceToNat, Int.reduceLT, Int.reduceLE, Int.reduceEq, Int.reduceAdd, reduceCtorEq]
    rw [all_end (by omega), Bool.true_and] at hf
    have ht : m.effects.take i = m.effects := List.take_of_length_le (by omega)
    rw [ht] at hns'
    refine calls_l (v := vb (apart ns)) (by simp -dsimp (disch := omega) only [↓wi, wo, wrap64, reduceIte, Nat.reduceEqDiff, Nat.reduceAdd, Nat.reduceLT, Nat.reduceLeDiff, Nat.reduceMul, Nat.reduceSub, Int.reduceToNat, Int.reduceLT, Int.reduceLE, Int.reduceEq, Int.reduceAdd, reduceCtorEq, len_strs]; exact p_apart ns) (by simp -dsimp (disch := omega) only [↓wi, wo, wrap64, reduceIte, Nat.reduceEqDiff, Nat.reduceAdd, Nat.reduceLT, Nat.reduceLeDiff, Nat.reduceMul, Nat.reduceSub, Int.reduceToNat, Int.reduceLT, Int.reduceLE, Int.reduceEq, Int.reduceAdd, reduceCtorEq, len_strs]; rfl) rfl ?_
    simp -dsimp (disch := omega) only [↓wi, wo, wrap64, reduceIte, Nat.reduceEqDiff, Nat.reduceAdd, Nat.reduceLT, Nat.reduceLeDiff, Nat.reduceMul, Nat.reduceSub, Int.reduceToNat, Int.reduceLT, Int.reduceLE, Int.reduceEq, Int.reduceAdd, reduceCtorEq]
    refine retb rfl ?_
    rw [hf, hns']
end Go.Proofs.YtbnelpgogjbgjaaGreat.Q
