/- What batch.why comes to at the statement's rows. -/
import Derived.Test.YtgehagonolkhhaaGreatDoorW1
namespace Go.Ai
open Go Go.Proofs
set_option maxRecDepth 100000
set_option maxHeartbeats 4000000
set_option linter.unusedSimpArgs false
set_option linter.unusedVariables false

def mapA (l : List (Value × Value)) : Blk := ⟨91, [], some l⟩
theorem why33 (t : Int) (l : List (Value × Value)) (hl : l = [] ∨ ∃ p : Int, l = [(keyA, .int .i64 p)] ∧ p < t) (h0 : 0 ≤ t) (h1 : t < 35184372088832) :
    Sat Tryz.prog 33 [.agg [labA, .v (.int .i64 t), .v (.int .u64 0), .v (.int .i64 0), .v (.bool false)], .m 0] (hget [(0, some (mapA l))]) (.v (.int .i64 0)) (hget [(0, some (mapA [(keyA, .int .i64 t)]))]) := by
  obtain ⟨c, hb, hlc⟩ := L33_eq
  refine sat_of tabOK moOK (f := 33) (fn := Tryz.f33) Tryz.func33 hb (nx := 1) (by intro n hn; simp only [hget_cons, hget_nil]; rw [if_neg (by omega)]) (nt := 44) rfl (rs := [.tmp 4]) rfl hlc ?_
  intro Q hQ
  unfold L33
  simp only [argσ]
  rcases hl with rfl | ⟨p, rfl, hp⟩
  · repeat' (first
      | (with_reducible refine c_seq ?_)
      | (with_reducible refine c_reg ?_)
      | (with_reducible refine l_nil ?_)
      | (with_reducible refine c_block ?_)
      | (with_reducible refine c_exitE ?_)
      | (with_reducible apply l_op
         · rfl
         · simp only [go_sem, Int.reduceBNe, Int.reduceBEq, Int.reduceLT, Int.reduceLE, Int.reduceGT, Int.reduceGE, decide_true, decide_false, bne_self_eq_false, beq_self_eq_true, cond_true, cond_false, reduceIte, Nat.reduceEqDiff, Nat.reduceAdd, Nat.reduceMul, Nat.reduceSub, reduceCtorEq, mapA]; rfl
         · first | trivial | simp [go_sem, mapA]
         simp only [List.nil_append, List.cons_append])
      | (with_reducible apply l_do
         · rfl
         · simp only [go_sem, Int.reduceBNe, Int.reduceBEq, Int.reduceLT, Int.reduceLE, Int.reduceGT, Int.reduceGE, decide_true, decide_false, bne_self_eq_false, beq_self_eq_true, cond_true, cond_false, reduceIte, Nat.reduceEqDiff, Nat.reduceAdd, Nat.reduceMul, Nat.reduceSub, reduceCtorEq, mapA]; rfl
         · first | trivial | simp [go_sem, mapA]
         simp only [List.nil_append, List.cons_append])
      | (with_reducible refine c_ret ?_)
      | (with_reducible refine c_skip ?_)
      | (with_reducible apply l_take
         · simp only [go_sem, Int.reduceBNe, Int.reduceBEq, Int.reduceLT, Int.reduceLE, Int.reduceGT, Int.reduceGE, decide_true, decide_false, bne_self_eq_false, beq_self_eq_true, cond_true, cond_false, reduceIte, Nat.reduceEqDiff, Nat.reduceAdd, Nat.reduceMul, Nat.reduceSub, reduceCtorEq, mapA]; done)
      | (with_reducible apply l_passT
         · simp only [go_sem, Int.reduceBNe, Int.reduceBEq, Int.reduceLT, Int.reduceLE, Int.reduceGT, Int.reduceGE, decide_true, decide_false, bne_self_eq_false, beq_self_eq_true, cond_true, cond_false, reduceIte, Nat.reduceEqDiff, Nat.reduceAdd, Nat.reduceMul, Nat.reduceSub, reduceCtorEq, mapA]; done)
      | (with_reducible apply l_passF
         · simp only [go_sem, Int.reduceBNe, Int.reduceBEq, Int.reduceLT, Int.reduceLE, Int.reduceGT, Int.reduceGE, decide_true, decide_false, bne_self_eq_false, beq_self_eq_true, cond_true, cond_false, reduceIte, Nat.reduceEqDiff, Nat.reduceAdd, Nat.reduceMul, Nat.reduceSub, reduceCtorEq, mapA]; done)
      | (with_reducible apply l_passU
         · simp only [go_sem, Int.reduceBNe, Int.reduceBEq, Int.reduceLT, Int.reduceLE, Int.reduceGT, Int.reduceGE, decide_true, decide_false, bne_self_eq_false, beq_self_eq_true, cond_true, cond_false, reduceIte, Nat.reduceEqDiff, Nat.reduceAdd, Nat.reduceMul, Nat.reduceSub, reduceCtorEq, mapA]; rfl)
      | (with_reducible apply l_gT
         · simp only [go_sem, Int.reduceBNe, Int.reduceBEq, Int.reduceLT, Int.reduceLE, Int.reduceGT, Int.reduceGE, decide_true, decide_false, bne_self_eq_false, beq_self_eq_true, cond_true, cond_false, reduceIte, Nat.reduceEqDiff, Nat.reduceAdd, Nat.reduceMul, Nat.reduceSub, reduceCtorEq, mapA]; rfl)
      | (with_reducible apply l_gF
         · simp only [go_sem, Int.reduceBNe, Int.reduceBEq, Int.reduceLT, Int.reduceLE, Int.reduceGT, Int.reduceGE, decide_true, decide_false, bne_self_eq_false, beq_self_eq_true, cond_true, cond_false, reduceIte, Nat.reduceEqDiff, Nat.reduceAdd, Nat.reduceMul, Nat.reduceSub, reduceCtorEq, mapA]; rfl)
      | (with_reducible apply c_true
         · simp only [go_sem, Int.reduceBNe, Int.reduceBEq, Int.reduceLT, Int.reduceLE, Int.reduceGT, Int.reduceGE, decide_true, decide_false, bne_self_eq_false, beq_self_eq_true, cond_true, cond_false, reduceIte, Nat.reduceEqDiff, Nat.reduceAdd, Nat.reduceMul, Nat.reduceSub, reduceCtorEq, mapA]; done)
      | (with_reducible apply c_false
         · simp only [go_sem, Int.reduceBNe, Int.reduceBEq, Int.reduceLT, Int.reduceLE, Int.reduceGT, Int.reduceGE, decide_true, decide_false, bne_self_eq_false, beq_self_eq_true, cond_true, cond_false, reduceIte, Nat.reduceEqDiff, Nat.reduceAdd, Nat.reduceMul, Nat.reduceSub, reduceCtorEq, mapA]; done)
      | (with_reducible apply c_cond
         · simp only [go_sem, Int.reduceBNe, Int.reduceBEq, Int.reduceLT, Int.reduceLE, Int.reduceGT, Int.reduceGE, decide_true, decide_false, bne_self_eq_false, beq_self_eq_true, cond_true, cond_false, reduceIte, Nat.reduceEqDiff, Nat.reduceAdd, Nat.reduceMul, Nat.reduceSub, reduceCtorEq, mapA]; rfl)
      | (with_reducible refine l_call ?_ hb70 (CallP.ok lab70 _ _) ?_
         · rfl)
      | (with_reducible refine l_call ?_ hb71 (CallP.ok (ev71 t h0 h1) _ _) ?_
         · rfl)
      | (with_reducible refine l_call ?_ hb59 (CallP.ok key59 _ _) ?_
         · rfl)
      | intro hc)
    all_goals
      with_reducible apply hQ
      exact leaves_one rfl rfl rfl rfl rfl
  · have g0 : decide (p ≥ t) = false := by simp; omega
    repeat' (first
      | (with_reducible refine c_seq ?_)
      | (with_reducible refine c_reg ?_)
      | (with_reducible refine l_nil ?_)
      | (with_reducible refine c_block ?_)
      | (with_reducible refine c_exitE ?_)
      | (with_reducible apply l_op
         · rfl
         · simp only [go_sem, Int.reduceBNe, Int.reduceBEq, Int.reduceLT, Int.reduceLE, Int.reduceGT, Int.reduceGE, decide_true, decide_false, bne_self_eq_false, beq_self_eq_true, cond_true, cond_false, reduceIte, Nat.reduceEqDiff, Nat.reduceAdd, Nat.reduceMul, Nat.reduceSub, reduceCtorEq, mapA, g0]; rfl
         · first | trivial | simp [go_sem, mapA, g0]
         simp only [List.nil_append, List.cons_append])
      | (with_reducible apply l_do
         · rfl
         · simp only [go_sem, Int.reduceBNe, Int.reduceBEq, Int.reduceLT, Int.reduceLE, Int.reduceGT, Int.reduceGE, decide_true, decide_false, bne_self_eq_false, beq_self_eq_true, cond_true, cond_false, reduceIte, Nat.reduceEqDiff, Nat.reduceAdd, Nat.reduceMul, Nat.reduceSub, reduceCtorEq, mapA, g0]; rfl
         · first | trivial | simp [go_sem, mapA, g0]
         simp only [List.nil_append, List.cons_append])
      | (with_reducible refine c_ret ?_)
      | (with_reducible refine c_skip ?_)
      | (with_reducible apply l_take
         · simp only [go_sem, Int.reduceBNe, Int.reduceBEq, Int.reduceLT, Int.reduceLE, Int.reduceGT, Int.reduceGE, decide_true, decide_false, bne_self_eq_false, beq_self_eq_true, cond_true, cond_false, reduceIte, Nat.reduceEqDiff, Nat.reduceAdd, Nat.reduceMul, Nat.reduceSub, reduceCtorEq, mapA, g0]; done)
      | (with_reducible apply l_passT
         · simp only [go_sem, Int.reduceBNe, Int.reduceBEq, Int.reduceLT, Int.reduceLE, Int.reduceGT, Int.reduceGE, decide_true, decide_false, bne_self_eq_false, beq_self_eq_true, cond_true, cond_false, reduceIte, Nat.reduceEqDiff, Nat.reduceAdd, Nat.reduceMul, Nat.reduceSub, reduceCtorEq, mapA, g0]; done)
      | (with_reducible apply l_passF
         · simp only [go_sem, Int.reduceBNe, Int.reduceBEq, Int.reduceLT, Int.reduceLE, Int.reduceGT, Int.reduceGE, decide_true, decide_false, bne_self_eq_false, beq_self_eq_true, cond_true, cond_false, reduceIte, Nat.reduceEqDiff, Nat.reduceAdd, Nat.reduceMul, Nat.reduceSub, reduceCtorEq, mapA, g0]; done)
      | (with_reducible apply l_passU
         · simp only [go_sem, Int.reduceBNe, Int.reduceBEq, Int.reduceLT, Int.reduceLE, Int.reduceGT, Int.reduceGE, decide_true, decide_false, bne_self_eq_false, beq_self_eq_true, cond_true, cond_false, reduceIte, Nat.reduceEqDiff, Nat.reduceAdd, Nat.reduceMul, Nat.reduceSub, reduceCtorEq, mapA, g0]; rfl)
      | (with_reducible apply l_gT
         · simp only [go_sem, Int.reduceBNe, Int.reduceBEq, Int.reduceLT, Int.reduceLE, Int.reduceGT, Int.reduceGE, decide_true, decide_false, bne_self_eq_false, beq_self_eq_true, cond_true, cond_false, reduceIte, Nat.reduceEqDiff, Nat.reduceAdd, Nat.reduceMul, Nat.reduceSub, reduceCtorEq, mapA, g0]; rfl)
      | (with_reducible apply l_gF
         · simp only [go_sem, Int.reduceBNe, Int.reduceBEq, Int.reduceLT, Int.reduceLE, Int.reduceGT, Int.reduceGE, decide_true, decide_false, bne_self_eq_false, beq_self_eq_true, cond_true, cond_false, reduceIte, Nat.reduceEqDiff, Nat.reduceAdd, Nat.reduceMul, Nat.reduceSub, reduceCtorEq, mapA, g0]; rfl)
      | (with_reducible apply c_true
         · simp only [go_sem, Int.reduceBNe, Int.reduceBEq, Int.reduceLT, Int.reduceLE, Int.reduceGT, Int.reduceGE, decide_true, decide_false, bne_self_eq_false, beq_self_eq_true, cond_true, cond_false, reduceIte, Nat.reduceEqDiff, Nat.reduceAdd, Nat.reduceMul, Nat.reduceSub, reduceCtorEq, mapA, g0]; done)
      | (with_reducible apply c_false
         · simp only [go_sem, Int.reduceBNe, Int.reduceBEq, Int.reduceLT, Int.reduceLE, Int.reduceGT, Int.reduceGE, decide_true, decide_false, bne_self_eq_false, beq_self_eq_true, cond_true, cond_false, reduceIte, Nat.reduceEqDiff, Nat.reduceAdd, Nat.reduceMul, Nat.reduceSub, reduceCtorEq, mapA, g0]; done)
      | (with_reducible apply c_cond
         · simp only [go_sem, Int.reduceBNe, Int.reduceBEq, Int.reduceLT, Int.reduceLE, Int.reduceGT, Int.reduceGE, decide_true, decide_false, bne_self_eq_false, beq_self_eq_true, cond_true, cond_false, reduceIte, Nat.reduceEqDiff, Nat.reduceAdd, Nat.reduceMul, Nat.reduceSub, reduceCtorEq, mapA, g0]; rfl)
      | (with_reducible refine l_call ?_ hb70 (CallP.ok lab70 _ _) ?_
         · rfl)
      | (with_reducible refine l_call ?_ hb71 (CallP.ok (ev71 t h0 h1) _ _) ?_
         · rfl)
      | (with_reducible refine l_call ?_ hb59 (CallP.ok key59 _ _) ?_
         · rfl)
      | intro hc)
    all_goals
      with_reducible apply hQ
      exact leaves_one rfl rfl rfl rfl rfl
end Go.Ai
