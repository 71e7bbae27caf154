/- What some callees come to at the statement's rows: event.Check, label.Check, batch.key. -/
import Derived.Test.YtgehagonolkhhaaGreatDoorLB
import Derived.Test.YtgehagonolkhhaaGreatDoorAi24
namespace Go.Ai
open Go Go.Proofs
set_option maxRecDepth 100000
set_option maxHeartbeats 4000000
set_option linter.unusedSimpArgs false
set_option linter.unusedVariables false
theorem ev71 (t : Int) (h0 : 0 ≤ t) (h1 : t < 35184372088832) : CallP Tryz.prog 71 [.agg [.v (.int .i64 t), .v (.int .u64 0), .v (.int .i64 0), .v (.bool false)]] (.v (.int .i64 0)) := by
  obtain ⟨c, hb, hlc⟩ := L71_eq
  have g1 : decide (t < 0) = false := by simp; omega
  have g2 : decide (t ≥ 35184372088832) = false := by simp; omega
  have g3 : decide ((0:Int) < 0) = false := by simp
  have g4 : decide ((0:Int) > t) = false := by simp; omega
  refine .of_sat (sat_of tabOK moOK (f := 71) (fn := Tryz.f71) Tryz.func71 hb (L := []) (L' := []) (nx := 0) (by simp [hget_nil]) (nt := 33) rfl (rs := [.tmp 2]) rfl hlc ?_) rfl
  intro Q hQ
  unfold L71
  simp only [argσ]
  repeat' (first
    | (with_reducible refine c_seq ?_)
    | (with_reducible refine c_reg ?_)
    | (with_reducible refine l_nil ?_)
    | (with_reducible refine c_block ?_)
    | (with_reducible refine c_exitE ?_)
    | (with_reducible apply l_op
       · rfl
       · simp only [go_sem, cond_true, cond_false, reduceIte, Nat.reduceEqDiff, Nat.reduceAdd, Nat.reduceMul, Nat.reduceSub, reduceCtorEq, g1, g2, g3, g4]; rfl
       · first | trivial | simp [go_sem, g1, g2, g3, g4]
       simp only [List.nil_append, List.cons_append])
    | (with_reducible apply l_do
       · rfl
       · simp only [go_sem, cond_true, cond_false, reduceIte, Nat.reduceEqDiff, Nat.reduceAdd, Nat.reduceMul, Nat.reduceSub, reduceCtorEq, g1, g2, g3, g4]; rfl
       · first | trivial | simp [go_sem, g1, g2, g3, g4]
       simp only [List.nil_append, List.cons_append])
    | (with_reducible refine c_ret ?_)
    | (with_reducible refine c_skip ?_)
    | (with_reducible apply l_take
       · simp only [go_sem, cond_true, cond_false, reduceIte, Nat.reduceEqDiff, Nat.reduceAdd, Nat.reduceMul, Nat.reduceSub, reduceCtorEq, g1, g2, g3, g4]; done)
    | (with_reducible apply l_passT
       · simp only [go_sem, cond_true, cond_false, reduceIte, Nat.reduceEqDiff, Nat.reduceAdd, Nat.reduceMul, Nat.reduceSub, reduceCtorEq, g1, g2, g3, g4]; done)
    | (with_reducible apply l_passF
       · simp only [go_sem, cond_true, cond_false, reduceIte, Nat.reduceEqDiff, Nat.reduceAdd, Nat.reduceMul, Nat.reduceSub, reduceCtorEq, g1, g2, g3, g4]; done)
    | (with_reducible apply l_passU
       · simp only [go_sem, cond_true, cond_false, reduceIte, Nat.reduceEqDiff, Nat.reduceAdd, Nat.reduceMul, Nat.reduceSub, reduceCtorEq, g1, g2, g3, g4]; rfl)
    | (with_reducible apply l_gT
       · simp only [go_sem, cond_true, cond_false, reduceIte, Nat.reduceEqDiff, Nat.reduceAdd, Nat.reduceMul, Nat.reduceSub, reduceCtorEq, g1, g2, g3, g4]; rfl)
    | (with_reducible apply l_gF
       · simp only [go_sem, cond_true, cond_false, reduceIte, Nat.reduceEqDiff, Nat.reduceAdd, Nat.reduceMul, Nat.reduceSub, reduceCtorEq, g1, g2, g3, g4]; rfl)
    | (with_reducible apply c_true
       · simp only [go_sem, cond_true, cond_false, reduceIte, Nat.reduceEqDiff, Nat.reduceAdd, Nat.reduceMul, Nat.reduceSub, reduceCtorEq, g1, g2, g3, g4]; done)
    | (with_reducible apply c_false
       · simp only [go_sem, cond_true, cond_false, reduceIte, Nat.reduceEqDiff, Nat.reduceAdd, Nat.reduceMul, Nat.reduceSub, reduceCtorEq, g1, g2, g3, g4]; done)
    | (with_reducible apply c_cond
       · simp only [go_sem, cond_true, cond_false, reduceIte, Nat.reduceEqDiff, Nat.reduceAdd, Nat.reduceMul, Nat.reduceSub, reduceCtorEq, g1, g2, g3, g4]; rfl)
    | intro hc)
  all_goals with_reducible apply hQ
  all_goals apply leaves_val
  all_goals first
    | (simp only [go_sem, cond_true, cond_false, reduceIte, Nat.reduceEqDiff, Nat.reduceAdd, reduceCtorEq]; rfl)
    | rfl
    | skip

theorem hb70 : hasBody Tryz.prog 70 := ⟨Tryz.f70, Tryz.func70, by kernel_rfl⟩
theorem hb71 : hasBody Tryz.prog 71 := ⟨Tryz.f71, Tryz.func71, by kernel_rfl⟩
theorem hb59 : hasBody Tryz.prog 59 := ⟨Tryz.f59, Tryz.func59, by kernel_rfl⟩
theorem hb33 : hasBody Tryz.prog 33 := ⟨Tryz.f33, Tryz.func33, by kernel_rfl⟩
theorem hb8 : hasBody Tryz.prog 8 := ⟨Tryz.f8, Tryz.func8, by kernel_rfl⟩
theorem hb7 : hasBody Tryz.prog 7 := ⟨Tryz.f7, Tryz.func7, by kernel_rfl⟩

/-- The labels of the rows. -/
def labA : SV := .xs 2 none [[.v (.string ⟨#[97]⟩), .v (.string ⟨#[]⟩)]]
def keyA : Value := .string ⟨#[49, 58, 97, 48, 58]⟩
def e70 : MemoE := ⟨70, [labA], 2 ^ 600, 0, [], .v (.int .i64 0), [], []⟩
theorem e70_chk : e70.chk tab (extX exts) funF [] 100000 30 = true := by kernel_rfl
def e59 : MemoE := ⟨59, [labA], 2 ^ 600, 0, [], .v keyA, [], []⟩
theorem e59_chk : e59.chk tab (extX exts) funF [] 100000 30 = true := by kernel_rfl

theorem callP_of_chk {e : MemoE} (hA : e.A = []) (hU : e.U = []) (hrd : e.rd = []) (hn : namesInL (fun _ => false) e.xs = true) (h : e.chk tab (extX exts) funF [] 100000 30 = true) : CallP Tryz.prog e.f e.xs e.r := by
  have := (MemoE.ok_of_chk tabOK moOK extsOK funsOK masksOK (by simp) h).sat
  rw [hA, hU, hrd] at this
  have hnil : Heap.part (hget []) [] = hget [] := by
    funext n; simp [Heap.part, hget_nil]
  have hov : ∀ H : Heap, Heap.over H [] = H := by
    intro H; funext n; simp [Heap.over, namesU]
  rw [hov, hnil] at this
  exact .of_sat this hn
theorem lab70 : CallP Tryz.prog 70 [labA] (.v (.int .i64 0)) := callP_of_chk (e := e70) rfl rfl rfl rfl e70_chk
theorem key59 : CallP Tryz.prog 59 [labA] (.v keyA) := callP_of_chk (e := e59) rfl rfl rfl rfl e59_chk
#print axioms ev71
#print axioms key59
end Go.Ai
