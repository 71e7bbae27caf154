/- batch.Check over the rows of the statement. -/
import Derived.Test.YtgehagonolkhhaaGreatDoorW2
namespace Go.Ai
open Go Go.Proofs
set_option maxRecDepth 100000
set_option maxHeartbeats 4000000
set_option linter.unusedSimpArgs false
set_option linter.unusedVariables false

def rowA (t : Int) : List SV := [labA, .v (.int .i64 t), .v (.int .u64 0), .v (.int .i64 0), .v (.bool false)]
def rowsL (t : Int) (k : Nat) : List (List SV) := (List.range k).map fun j => rowA (t + (j : Nat))
theorem rowsL_length (t : Int) (k : Nat) : (rowsL t k).length = k := by simp [rowsL]
theorem rowsL_getD (t : Int) {k i : Nat} (h : i < k) : (rowsL t k).getD i [] = rowA (t + i) := by
  simp [rowsL, List.getD_eq_getElem?_getD, h]
def ents (t : Int) : Nat → List (Value × Value)
  | 0 => []
  | i + 1 => [(keyA, .int .i64 (t + i))]

theorem wrap64 {n : Int} (h0 : 0 ≤ n) (h : n < 9223372036854775808) : IntKind.i64.wrap n = n := by
  simp only [IntKind.wrap, IntKind.bits, IntKind.signed]
  simp
  omega

def e8n : MemoE := ⟨8, [.v (.slice none 0 0)], 2 ^ 600, 0, [], .tup [.v (.int .i64 0), .v (.int .i64 6)], [], []⟩
theorem e8n_chk : e8n.chk tab (extX exts) funF [] 100000 30 = true := by kernel_rfl
/-- No rows. -/
theorem chk8n : CallP Tryz.prog 8 [.v (.slice none 0 0)] (.tup [.v (.int .i64 0), .v (.int .i64 6)]) := callP_of_chk (e := e8n) rfl rfl rfl rfl e8n_chk

/-- Too many. -/
theorem chk8l (t : Int) (k : Nat) (hk : 1024 < k) : CallP Tryz.prog 8 [.xs 5 none (rowsL t k)] (.tup [.v (.int .i64 0), .v (.int .i64 6)]) := by
  obtain ⟨c, hb, hlc⟩ := L8_eq
  have g0 := rowsL_length t k
  have g1 : decide ((k : Int) < 1) = false := by simp; omega
  have g2 : decide ((k : Int) > 1024) = true := by simp; omega
  refine .of_sat (sat_of tabOK moOK (f := 8) (fn := Tryz.f8) Tryz.func8 hb (L := []) (L' := []) (nx := 0) (by simp [hget_nil]) (nt := 32) rfl (rs := [.tmp 2, .tmp 3]) rfl hlc ?_) rfl
  intro Q hQ
  unfold L8
  simp only [argσ]
  repeat' (first
    | (with_reducible refine c_seq ?_)
    | (with_reducible refine c_reg ?_)
    | (with_reducible refine l_nil ?_)
    | (with_reducible refine c_block ?_)
    | (with_reducible refine c_exitE ?_)
    | (with_reducible refine c_exit ?_
       simp only [eq_self, if_true, Nat.reduceEqDiff, if_false])
    | (with_reducible apply l_op
       · rfl
       · simp only [go_sem, eq_self, Int.toNat_natCast, Int.reduceBNe, Int.reduceBEq, Int.reduceLT, Int.reduceLE, Int.reduceGT, Int.reduceGE, decide_true, decide_false, bne_self_eq_false, beq_self_eq_true, cond_true, cond_false, reduceIte, Nat.reduceEqDiff, Nat.reduceAdd, Nat.reduceMul, Nat.reduceSub, reduceCtorEq, g0, g1, g2, stLen2, srcOf]; rfl
       · first | trivial | simp [go_sem, g0, g1, g2, stLen2, srcOf]
       simp only [List.nil_append, List.cons_append])
    | (with_reducible apply l_do
       · rfl
       · simp only [go_sem, eq_self, Int.toNat_natCast, Int.reduceBNe, Int.reduceBEq, Int.reduceLT, Int.reduceLE, Int.reduceGT, Int.reduceGE, decide_true, decide_false, bne_self_eq_false, beq_self_eq_true, cond_true, cond_false, reduceIte, Nat.reduceEqDiff, Nat.reduceAdd, Nat.reduceMul, Nat.reduceSub, reduceCtorEq, g0, g1, g2, stLen2, srcOf]; rfl
       · first | trivial | simp [go_sem, g0, g1, g2, stLen2, srcOf]
       simp only [List.nil_append, List.cons_append])
    | (with_reducible refine c_ret ?_)
    | (with_reducible refine c_skip ?_)
    | (with_reducible apply l_take
       · simp only [go_sem, eq_self, Int.toNat_natCast, Int.reduceBNe, Int.reduceBEq, Int.reduceLT, Int.reduceLE, Int.reduceGT, Int.reduceGE, decide_true, decide_false, bne_self_eq_false, beq_self_eq_true, cond_true, cond_false, reduceIte, Nat.reduceEqDiff, Nat.reduceAdd, Nat.reduceMul, Nat.reduceSub, reduceCtorEq, g0, g1, g2, stLen2, srcOf]; done)
    | (with_reducible apply l_passT
       · simp only [go_sem, eq_self, Int.toNat_natCast, Int.reduceBNe, Int.reduceBEq, Int.reduceLT, Int.reduceLE, Int.reduceGT, Int.reduceGE, decide_true, decide_false, bne_self_eq_false, beq_self_eq_true, cond_true, cond_false, reduceIte, Nat.reduceEqDiff, Nat.reduceAdd, Nat.reduceMul, Nat.reduceSub, reduceCtorEq, g0, g1, g2, stLen2, srcOf]; done)
    | (with_reducible apply l_passF
       · simp only [go_sem, eq_self, Int.toNat_natCast, Int.reduceBNe, Int.reduceBEq, Int.reduceLT, Int.reduceLE, Int.reduceGT, Int.reduceGE, decide_true, decide_false, bne_self_eq_false, beq_self_eq_true, cond_true, cond_false, reduceIte, Nat.reduceEqDiff, Nat.reduceAdd, Nat.reduceMul, Nat.reduceSub, reduceCtorEq, g0, g1, g2, stLen2, srcOf]; done)
    | (with_reducible apply l_passU
       · simp only [go_sem, eq_self, Int.toNat_natCast, Int.reduceBNe, Int.reduceBEq, Int.reduceLT, Int.reduceLE, Int.reduceGT, Int.reduceGE, decide_true, decide_false, bne_self_eq_false, beq_self_eq_true, cond_true, cond_false, reduceIte, Nat.reduceEqDiff, Nat.reduceAdd, Nat.reduceMul, Nat.reduceSub, reduceCtorEq, g0, g1, g2, stLen2, srcOf]; rfl)
    | (with_reducible apply l_gT
       · simp only [go_sem, eq_self, Int.toNat_natCast, Int.reduceBNe, Int.reduceBEq, Int.reduceLT, Int.reduceLE, Int.reduceGT, Int.reduceGE, decide_true, decide_false, bne_self_eq_false, beq_self_eq_true, cond_true, cond_false, reduceIte, Nat.reduceEqDiff, Nat.reduceAdd, Nat.reduceMul, Nat.reduceSub, reduceCtorEq, g0, g1, g2, stLen2, srcOf]; rfl)
    | (with_reducible apply l_gF
       · simp only [go_sem, eq_self, Int.toNat_natCast, Int.reduceBNe, Int.reduceBEq, Int.reduceLT, Int.reduceLE, Int.reduceGT, Int.reduceGE, decide_true, decide_false, bne_self_eq_false, beq_self_eq_true, cond_true, cond_false, reduceIte, Nat.reduceEqDiff, Nat.reduceAdd, Nat.reduceMul, Nat.reduceSub, reduceCtorEq, g0, g1, g2, stLen2, srcOf]; rfl)
    | (with_reducible apply c_true
       · simp only [go_sem, eq_self, Int.toNat_natCast, Int.reduceBNe, Int.reduceBEq, Int.reduceLT, Int.reduceLE, Int.reduceGT, Int.reduceGE, decide_true, decide_false, bne_self_eq_false, beq_self_eq_true, cond_true, cond_false, reduceIte, Nat.reduceEqDiff, Nat.reduceAdd, Nat.reduceMul, Nat.reduceSub, reduceCtorEq, g0, g1, g2, stLen2, srcOf]; done)
    | (with_reducible apply c_false
       · simp only [go_sem, eq_self, Int.toNat_natCast, Int.reduceBNe, Int.reduceBEq, Int.reduceLT, Int.reduceLE, Int.reduceGT, Int.reduceGE, decide_true, decide_false, bne_self_eq_false, beq_self_eq_true, cond_true, cond_false, reduceIte, Nat.reduceEqDiff, Nat.reduceAdd, Nat.reduceMul, Nat.reduceSub, reduceCtorEq, g0, g1, g2, stLen2, srcOf]; done)
    | (with_reducible apply c_cond
       · simp only [go_sem, eq_self, Int.toNat_natCast, Int.reduceBNe, Int.reduceBEq, Int.reduceLT, Int.reduceLE, Int.reduceGT, Int.reduceGE, decide_true, decide_false, bne_self_eq_false, beq_self_eq_true, cond_true, cond_false, reduceIte, Nat.reduceEqDiff, Nat.reduceAdd, Nat.reduceMul, Nat.reduceSub, reduceCtorEq, g0, g1, g2, stLen2, srcOf]; rfl)
    | intro hc)
  with_reducible apply hQ
  exact leaves_val rfl rfl rfl

/-- As many as may be. -/
theorem chk8 (t : Int) (k : Nat) (h0 : 0 ≤ t) (h1 : t ≤ 1099511627776) (hk0 : 0 < k) (hk : k ≤ 1024) : CallP Tryz.prog 8 [.xs 5 none (rowsL t k)] (.tup [.v (.int .i64 0), .v (.int .i64 0)]) := by
  obtain ⟨c, hb, hlc⟩ := L8_eq
  have g0 := rowsL_length t k
  have g1 : decide ((k : Int) < 1) = false := by simp; omega
  have g2 : decide ((k : Int) > 1024) = false := by simp; omega
  refine .of_sat (sat_of tabOK moOK (f := 8) (fn := Tryz.f8) Tryz.func8 hb (L := []) (L' := []) (nx := 0) (by simp [hget_nil]) (nt := 32) rfl (rs := [.tmp 2, .tmp 3]) rfl hlc ?_) rfl
  intro Q hQ
  unfold L8
  simp only [argσ]
  repeat' (first
    | (with_reducible refine c_seq ?_)
    | (with_reducible refine c_reg ?_)
    | (with_reducible refine l_nil ?_)
    | (with_reducible refine c_block ?_)
    | (with_reducible refine c_exitE ?_)
    | (with_reducible refine c_exit ?_
       simp only [eq_self, if_true, Nat.reduceEqDiff, if_false])
    | (with_reducible apply l_op
       · rfl
       · simp only [go_sem, eq_self, Int.toNat_natCast, Int.reduceBNe, Int.reduceBEq, Int.reduceLT, Int.reduceLE, Int.reduceGT, Int.reduceGE, decide_true, decide_false, bne_self_eq_false, beq_self_eq_true, cond_true, cond_false, reduceIte, Nat.reduceEqDiff, Nat.reduceAdd, Nat.reduceMul, Nat.reduceSub, reduceCtorEq, g0, g1, g2, stLen2, srcOf, stBuiltin, stMakeMap]; rfl
       · first | trivial | simp [go_sem, g0, g1, g2, stLen2, srcOf, stBuiltin, stMakeMap]
       simp only [List.nil_append, List.cons_append])
    | (with_reducible apply l_do
       · rfl
       · simp only [go_sem, eq_self, Int.toNat_natCast, Int.reduceBNe, Int.reduceBEq, Int.reduceLT, Int.reduceLE, Int.reduceGT, Int.reduceGE, decide_true, decide_false, bne_self_eq_false, beq_self_eq_true, cond_true, cond_false, reduceIte, Nat.reduceEqDiff, Nat.reduceAdd, Nat.reduceMul, Nat.reduceSub, reduceCtorEq, g0, g1, g2, stLen2, srcOf, stBuiltin, stMakeMap]; rfl
       · first | trivial | simp [go_sem, g0, g1, g2, stLen2, srcOf, stBuiltin, stMakeMap]
       simp only [List.nil_append, List.cons_append])
    | (with_reducible refine c_ret ?_)
    | (with_reducible refine c_skip ?_)
    | (with_reducible apply l_take
       · simp only [go_sem, eq_self, Int.toNat_natCast, Int.reduceBNe, Int.reduceBEq, Int.reduceLT, Int.reduceLE, Int.reduceGT, Int.reduceGE, decide_true, decide_false, bne_self_eq_false, beq_self_eq_true, cond_true, cond_false, reduceIte, Nat.reduceEqDiff, Nat.reduceAdd, Nat.reduceMul, Nat.reduceSub, reduceCtorEq, g0, g1, g2, stLen2, srcOf, stBuiltin, stMakeMap]; done)
    | (with_reducible apply l_passT
       · simp only [go_sem, eq_self, Int.toNat_natCast, Int.reduceBNe, Int.reduceBEq, Int.reduceLT, Int.reduceLE, Int.reduceGT, Int.reduceGE, decide_true, decide_false, bne_self_eq_false, beq_self_eq_true, cond_true, cond_false, reduceIte, Nat.reduceEqDiff, Nat.reduceAdd, Nat.reduceMul, Nat.reduceSub, reduceCtorEq, g0, g1, g2, stLen2, srcOf, stBuiltin, stMakeMap]; done)
    | (with_reducible apply l_passF
       · simp only [go_sem, eq_self, Int.toNat_natCast, Int.reduceBNe, Int.reduceBEq, Int.reduceLT, Int.reduceLE, Int.reduceGT, Int.reduceGE, decide_true, decide_false, bne_self_eq_false, beq_self_eq_true, cond_true, cond_false, reduceIte, Nat.reduceEqDiff, Nat.reduceAdd, Nat.reduceMul, Nat.reduceSub, reduceCtorEq, g0, g1, g2, stLen2, srcOf, stBuiltin, stMakeMap]; done)
    | (with_reducible apply l_passU
       · simp only [go_sem, eq_self, Int.toNat_natCast, Int.reduceBNe, Int.reduceBEq, Int.reduceLT, Int.reduceLE, Int.reduceGT, Int.reduceGE, decide_true, decide_false, bne_self_eq_false, beq_self_eq_true, cond_true, cond_false, reduceIte, Nat.reduceEqDiff, Nat.reduceAdd, Nat.reduceMul, Nat.reduceSub, reduceCtorEq, g0, g1, g2, stLen2, srcOf, stBuiltin, stMakeMap]; rfl)
    | (with_reducible apply l_gT
       · simp only [go_sem, eq_self, Int.toNat_natCast, Int.reduceBNe, Int.reduceBEq, Int.reduceLT, Int.reduceLE, Int.reduceGT, Int.reduceGE, decide_true, decide_false, bne_self_eq_false, beq_self_eq_true, cond_true, cond_false, reduceIte, Nat.reduceEqDiff, Nat.reduceAdd, Nat.reduceMul, Nat.reduceSub, reduceCtorEq, g0, g1, g2, stLen2, srcOf, stBuiltin, stMakeMap]; rfl)
    | (with_reducible apply l_gF
       · simp only [go_sem, eq_self, Int.toNat_natCast, Int.reduceBNe, Int.reduceBEq, Int.reduceLT, Int.reduceLE, Int.reduceGT, Int.reduceGE, decide_true, decide_false, bne_self_eq_false, beq_self_eq_true, cond_true, cond_false, reduceIte, Nat.reduceEqDiff, Nat.reduceAdd, Nat.reduceMul, Nat.reduceSub, reduceCtorEq, g0, g1, g2, stLen2, srcOf, stBuiltin, stMakeMap]; rfl)
    | (with_reducible apply c_true
       · simp only [go_sem, eq_self, Int.toNat_natCast, Int.reduceBNe, Int.reduceBEq, Int.reduceLT, Int.reduceLE, Int.reduceGT, Int.reduceGE, decide_true, decide_false, bne_self_eq_false, beq_self_eq_true, cond_true, cond_false, reduceIte, Nat.reduceEqDiff, Nat.reduceAdd, Nat.reduceMul, Nat.reduceSub, reduceCtorEq, g0, g1, g2, stLen2, srcOf, stBuiltin, stMakeMap]; done)
    | (with_reducible apply c_false
       · simp only [go_sem, eq_self, Int.toNat_natCast, Int.reduceBNe, Int.reduceBEq, Int.reduceLT, Int.reduceLE, Int.reduceGT, Int.reduceGE, decide_true, decide_false, bne_self_eq_false, beq_self_eq_true, cond_true, cond_false, reduceIte, Nat.reduceEqDiff, Nat.reduceAdd, Nat.reduceMul, Nat.reduceSub, reduceCtorEq, g0, g1, g2, stLen2, srcOf, stBuiltin, stMakeMap]; done)
    | (with_reducible apply c_cond
       · simp only [go_sem, eq_self, Int.toNat_natCast, Int.reduceBNe, Int.reduceBEq, Int.reduceLT, Int.reduceLE, Int.reduceGT, Int.reduceGE, decide_true, decide_false, bne_self_eq_false, beq_self_eq_true, cond_true, cond_false, reduceIte, Nat.reduceEqDiff, Nat.reduceAdd, Nat.reduceMul, Nat.reduceSub, reduceCtorEq, g0, g1, g2, stLen2, srcOf, stBuiltin, stMakeMap]; rfl)
    | intro hc)
  refine c_loop (α := {i : Nat // i ≤ k}) (S := fun i => ⟨[(0, .xs 5 none (rowsL t k)), (4, .m 0), (17, .xs 5 none (rowsL t k)), (18, .v (.int .i64 (k : Int))), (19, .v (.int .i64 ((i.1 : Nat) : Int)))], [(0, some (mapA (ents t i.1)))], i.1 + 1⟩) (fun i => k - i.1) ⟨0, Nat.zero_le _⟩ ?_ ?_
  · refine Wk.of 0 (Nat.le_refl _) ?_ ?_
    · simp only [FrS, lget_cons, lget_nil, Nat.reduceEqDiff, reduceIte, Option.some.injEq, exists_eq_left', and_true, g0]
      exact ⟨.eq0 rfl rfl, .eq0 rfl rfl, .eq0 rfl rfl, .eq0 rfl rfl, .eq0 rfl rfl⟩
    · exact ⟨fun b hb => ⟨_, rfl, by cases hb; rfl, by cases hb; rfl, by cases hb; exact trivial⟩, trivial⟩
  · rintro ⟨i, hi⟩
    dsimp only
    have n0 : (i + 1 = 0) = False := by simp
    have n1 : (0 = i + 1) = False := by simp
    by_cases hik : i < k
    · have g3 : decide ((i : Int) < (k : Int)) = true := by simp; omega
      have g3i : (i : Int) < (k : Int) := by omega
      have g4 : (rowsL t k).getD i [] = rowA (t + (i : Nat)) := rowsL_getD t hik
      have g5 : IntKind.i64.wrap ((i : Int) + 1) = ((i + 1 : Nat) : Int) := by rw [wrap64 (by omega) (by omega)]; rfl
      have hents : ents t i = [] ∨ ∃ p : Int, ents t i = [(keyA, .int .i64 p)] ∧ p < t + (i : Nat) := by
        cases i with
        | zero => exact .inl rfl
        | succ j => exact .inr ⟨t + (j : Nat), rfl, by omega⟩
      repeat' (first
        | (with_reducible refine c_seq ?_)
        | (with_reducible refine c_reg ?_)
        | (with_reducible refine l_nil ?_)
        | (with_reducible refine c_block ?_)
        | (with_reducible refine c_exitE ?_)
        | (with_reducible refine c_exit ?_
           simp only [eq_self, if_true, Nat.reduceEqDiff, if_false])
        | (with_reducible apply l_op
           · rfl
           · simp only [go_sem, eq_self, Int.toNat_natCast, Int.reduceBNe, Int.reduceBEq, Int.reduceLT, Int.reduceLE, Int.reduceGT, Int.reduceGE, decide_true, decide_false, bne_self_eq_false, beq_self_eq_true, cond_true, cond_false, reduceIte, Nat.reduceEqDiff, Nat.reduceAdd, Nat.reduceMul, Nat.reduceSub, reduceCtorEq, g0, g3, g3i, g4, g5, n0, n1, rowA, Int.natCast_nonneg]; rfl
           · first | trivial | simp [go_sem, g0, g3, g3i, g4, g5, n0, n1, rowA, Int.natCast_nonneg]
           simp only [List.nil_append, List.cons_append])
        | (with_reducible apply l_do
           · rfl
           · simp only [go_sem, eq_self, Int.toNat_natCast, Int.reduceBNe, Int.reduceBEq, Int.reduceLT, Int.reduceLE, Int.reduceGT, Int.reduceGE, decide_true, decide_false, bne_self_eq_false, beq_self_eq_true, cond_true, cond_false, reduceIte, Nat.reduceEqDiff, Nat.reduceAdd, Nat.reduceMul, Nat.reduceSub, reduceCtorEq, g0, g3, g3i, g4, g5, n0, n1, rowA, Int.natCast_nonneg]; rfl
           · first | trivial | simp [go_sem, g0, g3, g3i, g4, g5, n0, n1, rowA, Int.natCast_nonneg]
           simp only [List.nil_append, List.cons_append])
        | (with_reducible refine c_ret ?_)
        | (with_reducible refine c_skip ?_)
        | (with_reducible apply l_take
           · simp only [go_sem, eq_self, Int.toNat_natCast, Int.reduceBNe, Int.reduceBEq, Int.reduceLT, Int.reduceLE, Int.reduceGT, Int.reduceGE, decide_true, decide_false, bne_self_eq_false, beq_self_eq_true, cond_true, cond_false, reduceIte, Nat.reduceEqDiff, Nat.reduceAdd, Nat.reduceMul, Nat.reduceSub, reduceCtorEq, g0, g3, g3i, g4, g5, n0, n1, rowA, Int.natCast_nonneg]; done)
        | (with_reducible apply l_passT
           · simp only [go_sem, eq_self, Int.toNat_natCast, Int.reduceBNe, Int.reduceBEq, Int.reduceLT, Int.reduceLE, Int.reduceGT, Int.reduceGE, decide_true, decide_false, bne_self_eq_false, beq_self_eq_true, cond_true, cond_false, reduceIte, Nat.reduceEqDiff, Nat.reduceAdd, Nat.reduceMul, Nat.reduceSub, reduceCtorEq, g0, g3, g3i, g4, g5, n0, n1, rowA, Int.natCast_nonneg]; done)
        | (with_reducible apply l_passF
           · simp only [go_sem, eq_self, Int.toNat_natCast, Int.reduceBNe, Int.reduceBEq, Int.reduceLT, Int.reduceLE, Int.reduceGT, Int.reduceGE, decide_true, decide_false, bne_self_eq_false, beq_self_eq_true, cond_true, cond_false, reduceIte, Nat.reduceEqDiff, Nat.reduceAdd, Nat.reduceMul, Nat.reduceSub, reduceCtorEq, g0, g3, g3i, g4, g5, n0, n1, rowA, Int.natCast_nonneg]; done)
        | (with_reducible apply l_passU
           · simp only [go_sem, eq_self, Int.toNat_natCast, Int.reduceBNe, Int.reduceBEq, Int.reduceLT, Int.reduceLE, Int.reduceGT, Int.reduceGE, decide_true, decide_false, bne_self_eq_false, beq_self_eq_true, cond_true, cond_false, reduceIte, Nat.reduceEqDiff, Nat.reduceAdd, Nat.reduceMul, Nat.reduceSub, reduceCtorEq, g0, g3, g3i, g4, g5, n0, n1, rowA, Int.natCast_nonneg]; rfl)
        | (with_reducible apply l_gT
           · simp only [go_sem, eq_self, Int.toNat_natCast, Int.reduceBNe, Int.reduceBEq, Int.reduceLT, Int.reduceLE, Int.reduceGT, Int.reduceGE, decide_true, decide_false, bne_self_eq_false, beq_self_eq_true, cond_true, cond_false, reduceIte, Nat.reduceEqDiff, Nat.reduceAdd, Nat.reduceMul, Nat.reduceSub, reduceCtorEq, g0, g3, g3i, g4, g5, n0, n1, rowA, Int.natCast_nonneg]; rfl)
        | (with_reducible apply l_gF
           · simp only [go_sem, eq_self, Int.toNat_natCast, Int.reduceBNe, Int.reduceBEq, Int.reduceLT, Int.reduceLE, Int.reduceGT, Int.reduceGE, decide_true, decide_false, bne_self_eq_false, beq_self_eq_true, cond_true, cond_false, reduceIte, Nat.reduceEqDiff, Nat.reduceAdd, Nat.reduceMul, Nat.reduceSub, reduceCtorEq, g0, g3, g3i, g4, g5, n0, n1, rowA, Int.natCast_nonneg]; rfl)
        | (with_reducible apply c_true
           · simp only [go_sem, eq_self, Int.toNat_natCast, Int.reduceBNe, Int.reduceBEq, Int.reduceLT, Int.reduceLE, Int.reduceGT, Int.reduceGE, decide_true, decide_false, bne_self_eq_false, beq_self_eq_true, cond_true, cond_false, reduceIte, Nat.reduceEqDiff, Nat.reduceAdd, Nat.reduceMul, Nat.reduceSub, reduceCtorEq, g0, g3, g3i, g4, g5, n0, n1, rowA, Int.natCast_nonneg]; done)
        | (with_reducible apply c_false
           · simp only [go_sem, eq_self, Int.toNat_natCast, Int.reduceBNe, Int.reduceBEq, Int.reduceLT, Int.reduceLE, Int.reduceGT, Int.reduceGE, decide_true, decide_false, bne_self_eq_false, beq_self_eq_true, cond_true, cond_false, reduceIte, Nat.reduceEqDiff, Nat.reduceAdd, Nat.reduceMul, Nat.reduceSub, reduceCtorEq, g0, g3, g3i, g4, g5, n0, n1, rowA, Int.natCast_nonneg]; done)
        | (with_reducible apply c_cond
           · simp only [go_sem, eq_self, Int.toNat_natCast, Int.reduceBNe, Int.reduceBEq, Int.reduceLT, Int.reduceLE, Int.reduceGT, Int.reduceGE, decide_true, decide_false, bne_self_eq_false, beq_self_eq_true, cond_true, cond_false, reduceIte, Nat.reduceEqDiff, Nat.reduceAdd, Nat.reduceMul, Nat.reduceSub, reduceCtorEq, g0, g3, g3i, g4, g5, n0, n1, rowA, Int.natCast_nonneg]; rfl)
        | (with_reducible refine l_call ?_ hb33 (CallOK.of_sat1 hb33 (why33 (t + (i : Nat)) (ents t i) hents (by omega) (by omega)) rfl rfl rfl) ?_
           · rfl)
        | intro hc)
      refine ⟨⟨i + 1, hik⟩, by dsimp only; omega, Wk.of 0 (by dsimp only; omega) ?_ ?_⟩
      · simp only [FrS, lget_cons, lget_nil, Nat.reduceEqDiff, reduceIte, Option.some.injEq, exists_eq_left', and_true]
        exact ⟨.eq0 rfl rfl, .eq0 rfl rfl, .eq0 rfl rfl, .eq0 rfl rfl, .eq0 rfl rfl⟩
      · exact ⟨fun b hb => ⟨_, rfl, by cases hb; rfl, by cases hb; rfl, by cases hb; exact trivial⟩, trivial⟩
    · have g3 : decide ((i : Int) < (k : Int)) = false := by simp; omega
      repeat' (first
        | (with_reducible refine c_seq ?_)
        | (with_reducible refine c_reg ?_)
        | (with_reducible refine l_nil ?_)
        | (with_reducible refine c_block ?_)
        | (with_reducible refine c_exitE ?_)
        | (with_reducible refine c_exit ?_
           simp only [eq_self, if_true, Nat.reduceEqDiff, if_false])
        | (with_reducible apply l_op
           · rfl
           · simp only [go_sem, eq_self, Int.toNat_natCast, Int.reduceBNe, Int.reduceBEq, Int.reduceLT, Int.reduceLE, Int.reduceGT, Int.reduceGE, decide_true, decide_false, bne_self_eq_false, beq_self_eq_true, cond_true, cond_false, reduceIte, Nat.reduceEqDiff, Nat.reduceAdd, Nat.reduceMul, Nat.reduceSub, reduceCtorEq, g0, g3, n0, n1]; rfl
           · first | trivial | simp [go_sem, g0, g3, n0, n1]
           simp only [List.nil_append, List.cons_append])
        | (with_reducible apply l_do
           · rfl
           · simp only [go_sem, eq_self, Int.toNat_natCast, Int.reduceBNe, Int.reduceBEq, Int.reduceLT, Int.reduceLE, Int.reduceGT, Int.reduceGE, decide_true, decide_false, bne_self_eq_false, beq_self_eq_true, cond_true, cond_false, reduceIte, Nat.reduceEqDiff, Nat.reduceAdd, Nat.reduceMul, Nat.reduceSub, reduceCtorEq, g0, g3, n0, n1]; rfl
           · first | trivial | simp [go_sem, g0, g3, n0, n1]
           simp only [List.nil_append, List.cons_append])
        | (with_reducible refine c_ret ?_)
        | (with_reducible refine c_skip ?_)
        | (with_reducible apply l_take
           · simp only [go_sem, eq_self, Int.toNat_natCast, Int.reduceBNe, Int.reduceBEq, Int.reduceLT, Int.reduceLE, Int.reduceGT, Int.reduceGE, decide_true, decide_false, bne_self_eq_false, beq_self_eq_true, cond_true, cond_false, reduceIte, Nat.reduceEqDiff, Nat.reduceAdd, Nat.reduceMul, Nat.reduceSub, reduceCtorEq, g0, g3, n0, n1]; done)
        | (with_reducible apply l_passT
           · simp only [go_sem, eq_self, Int.toNat_natCast, Int.reduceBNe, Int.reduceBEq, Int.reduceLT, Int.reduceLE, Int.reduceGT, Int.reduceGE, decide_true, decide_false, bne_self_eq_false, beq_self_eq_true, cond_true, cond_false, reduceIte, Nat.reduceEqDiff, Nat.reduceAdd, Nat.reduceMul, Nat.reduceSub, reduceCtorEq, g0, g3, n0, n1]; done)
        | (with_reducible apply l_passF
           · simp only [go_sem, eq_self, Int.toNat_natCast, Int.reduceBNe, Int.reduceBEq, Int.reduceLT, Int.reduceLE, Int.reduceGT, Int.reduceGE, decide_true, decide_false, bne_self_eq_false, beq_self_eq_true, cond_true, cond_false, reduceIte, Nat.reduceEqDiff, Nat.reduceAdd, Nat.reduceMul, Nat.reduceSub, reduceCtorEq, g0, g3, n0, n1]; done)
        | (with_reducible apply l_passU
           · simp only [go_sem, eq_self, Int.toNat_natCast, Int.reduceBNe, Int.reduceBEq, Int.reduceLT, Int.reduceLE, Int.reduceGT, Int.reduceGE, decide_true, decide_false, bne_self_eq_false, beq_self_eq_true, cond_true, cond_false, reduceIte, Nat.reduceEqDiff, Nat.reduceAdd, Nat.reduceMul, Nat.reduceSub, reduceCtorEq, g0, g3, n0, n1]; rfl)
        | (with_reducible apply l_gT
           · simp only [go_sem, eq_self, Int.toNat_natCast, Int.reduceBNe, Int.reduceBEq, Int.reduceLT, Int.reduceLE, Int.reduceGT, Int.reduceGE, decide_true, decide_false, bne_self_eq_false, beq_self_eq_true, cond_true, cond_false, reduceIte, Nat.reduceEqDiff, Nat.reduceAdd, Nat.reduceMul, Nat.reduceSub, reduceCtorEq, g0, g3, n0, n1]; rfl)
        | (with_reducible apply l_gF
           · simp only [go_sem, eq_self, Int.toNat_natCast, Int.reduceBNe, Int.reduceBEq, Int.reduceLT, Int.reduceLE, Int.reduceGT, Int.reduceGE, decide_true, decide_false, bne_self_eq_false, beq_self_eq_true, cond_true, cond_false, reduceIte, Nat.reduceEqDiff, Nat.reduceAdd, Nat.reduceMul, Nat.reduceSub, reduceCtorEq, g0, g3, n0, n1]; rfl)
        | (with_reducible apply c_true
           · simp only [go_sem, eq_self, Int.toNat_natCast, Int.reduceBNe, Int.reduceBEq, Int.reduceLT, Int.reduceLE, Int.reduceGT, Int.reduceGE, decide_true, decide_false, bne_self_eq_false, beq_self_eq_true, cond_true, cond_false, reduceIte, Nat.reduceEqDiff, Nat.reduceAdd, Nat.reduceMul, Nat.reduceSub, reduceCtorEq, g0, g3, n0, n1]; done)
        | (with_reducible apply c_false
           · simp only [go_sem, eq_self, Int.toNat_natCast, Int.reduceBNe, Int.reduceBEq, Int.reduceLT, Int.reduceLE, Int.reduceGT, Int.reduceGE, decide_true, decide_false, bne_self_eq_false, beq_self_eq_true, cond_true, cond_false, reduceIte, Nat.reduceEqDiff, Nat.reduceAdd, Nat.reduceMul, Nat.reduceSub, reduceCtorEq, g0, g3, n0, n1]; done)
        | (with_reducible apply c_cond
           · simp only [go_sem, eq_self, Int.toNat_natCast, Int.reduceBNe, Int.reduceBEq, Int.reduceLT, Int.reduceLE, Int.reduceGT, Int.reduceGE, decide_true, decide_false, bne_self_eq_false, beq_self_eq_true, cond_true, cond_false, reduceIte, Nat.reduceEqDiff, Nat.reduceAdd, Nat.reduceMul, Nat.reduceSub, reduceCtorEq, g0, g3, n0, n1]; rfl)
        | intro hc)
      with_reducible apply hQ
      exact leaves_val rfl rfl rfl
#print axioms chk8
end Go.Ai
