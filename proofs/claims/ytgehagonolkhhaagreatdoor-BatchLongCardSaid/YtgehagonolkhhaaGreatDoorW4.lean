/- BatchLong walked. -/
import Derived.Test.YtgehagonolkhhaaGreatDoorW3
import Derived.Test.YtgehagonolkhhaaGreatDoorLv36
namespace Go.Ai
open Go Go.Proofs
set_option maxRecDepth 100000
set_option maxHeartbeats 4000000
set_option linter.unusedSimpArgs false
set_option linter.unusedVariables false

theorem rowsL_succ (t : Int) (k : Nat) : rowsL t (k + 1) = rowsL t k ++ [rowA (t + (k : Nat))] := by simp [rowsL, List.range_succ]
theorem rowsL_flat (t : Int) (k : Nat) : (rowsL t k).flatten.length = k * 5 := by
  induction k with
  | zero => rfl
  | succ k ih => rw [rowsL_succ, List.flatten_append, List.length_append, ih]; simp [rowA]; omega
theorem namesInL_append {D : Nat → Bool} : ∀ {a b : List SV}, namesInL D (a ++ b) = (namesInL D a && namesInL D b)
  | [], b => by simp [namesInL]
  | x :: a, b => by simp only [List.cons_append, namesInL, namesInL_append (a := a), Bool.and_assoc]
theorem rowsL_names (D : Nat → Bool) (t : Int) (k : Nat) : namesInL D (rowsL t k).flatten = true := by
  induction k with
  | zero => rfl
  | succ k ih => rw [rowsL_succ, List.flatten_append, namesInL_append, ih]; rfl

def rowsV (i p : Nat) : SV := if i = 0 then .v (.slice none 0 0) else .s 5 p 0 i none
def rowsH (t : Int) (i p : Nat) : HL := if i = 0 then [] else [(p, some ⟨32, (rowsL t i).flatten, none⟩)]
structure LI (k : Nat) where
  i : Nat
  p : Nat
  q : Nat
  hi : i ≤ k
  hpq : p < q ∨ i = 0

theorem frz_lab {H : HL} {K₀ K : Nat → Bool} {q : Nat} (hq : K₀ q = false) (hb : hget H q = some ⟨26, [.v (.string ⟨#[97]⟩), .v (.string ⟨#[]⟩)], none⟩) : Frz H K₀ 1 K (.s 2 q 0 1 (some 1)) labA := by
  unfold Frz labA
  right
  exact ⟨hq, rfl, .inl rfl, rfl, by simp, _, hb, frzP_refl (H := H) (K₀ := K₀) (by rfl)⟩

theorem frz_row {H : HL} {K₀ K : Nat → Bool} {q : Nat} {T : Int} (hq : K₀ q = false) (hb : hget H q = some ⟨26, [.v (.string ⟨#[97]⟩), .v (.string ⟨#[]⟩)], none⟩) :
    FrzP (Frz H K₀ 1 K) [.s 2 q 0 1 (some 1), .v (.int .i64 T), .v (.int .u64 0), .v (.int .i64 0), .v (.bool false)] (rowA T) :=
  ⟨frz_lab hq hb, .eqS rfl rfl, .eqS rfl rfl, .eqS rfl rfl, .eqS rfl rfl, trivial⟩

theorem rowsL_each (t : Int) (k : Nat) : ∀ e ∈ rowsL t k, e.length = 5 := by
  intro e he
  simp only [rowsL, List.mem_map] at he
  obtain ⟨j, _, rfl⟩ := he
  rfl

theorem frz_rows {H : HL} {K₀ K : Nat → Bool} {t : Int} {k p : Nat} (hp : K₀ p = false) (hb : hget H p = some ⟨32, (rowsL t k).flatten, none⟩) : Frz H K₀ 1 K (.s 5 p 0 k none) (.xs 5 none (rowsL t k)) := by
  unfold Frz
  right
  exact ⟨hp, rfl, .inl rfl, rowsL_length t k, rowsL_each t k, _, hb, frzP_refl (H := H) (K₀ := K₀) (rowsL_names _ t k)⟩

theorem long3 (m t : Int) (hm0 : 0 ≤ m) (hm : m < 65536) : CallP Tryz.prog 3 [.v (.int .u16 m), .v (.int .i64 t)] (.v (.bool true)) := by
  obtain ⟨c, hb, hlc⟩ := L3_eq
  have gw : IntKind.i64.wrap m = m := wrap64 hm0 (by omega)
  obtain ⟨k, hk⟩ : ∃ k : Nat, m.tmod 1100 = (k : Int) := ⟨(m.tmod 1100).toNat, by rw [Int.toNat_of_nonneg (Int.tmod_nonneg _ hm0)]⟩
  have hkl : k < 1100 := by
    have := Int.tmod_lt_of_pos m (b := 1100) (by omega)
    omega
  refine .of_sat (sat_of tabOK moOK (f := 3) (fn := Tryz.f3) Tryz.func3 hb (L := []) (L' := []) (nx := 0) (by simp [hget_nil]) (nt := 65) rfl (rs := [.tmp 4]) rfl hlc ?_) rfl
  intro Q hQ
  unfold L3
  simp only [argσ]
  repeat' (first
    | (with_reducible refine c_seqb ?_)
    | (with_reducible refine c_seq ?_)
    | (with_reducible refine c_reg ?_)
    | (with_reducible refine l_nil ?_)
    | (with_reducible refine c_block ?_)
    | (with_reducible refine c_exitE ?_)
    | (with_reducible refine c_exit ?_
       simp only [eq_self, if_true, Nat.reduceEqDiff, if_false])
    | (with_reducible apply l_op
       · rfl
       · simp only [go_sem, eq_self, Int.toNat_natCast, Int.reduceBNe, Int.reduceBEq, Int.reduceLT, Int.reduceLE, Int.reduceGT, Int.reduceGE, decide_true, decide_false, bne_self_eq_false, beq_self_eq_true, cond_true, cond_false, reduceIte, Nat.reduceEqDiff, Nat.reduceAdd, Nat.reduceMul, Nat.reduceSub, reduceCtorEq, gw, hk, Bool.not_true, decide_not]; rfl
       · first | trivial | (simp [go_sem, gw, hk, Bool.not_true, decide_not]; done) | (simp [go_sem, gw, hk, Bool.not_true, decide_not]; omega)
       simp only [List.nil_append, List.cons_append])
    | (with_reducible apply l_do
       · rfl
       · simp only [go_sem, eq_self, Int.toNat_natCast, Int.reduceBNe, Int.reduceBEq, Int.reduceLT, Int.reduceLE, Int.reduceGT, Int.reduceGE, decide_true, decide_false, bne_self_eq_false, beq_self_eq_true, cond_true, cond_false, reduceIte, Nat.reduceEqDiff, Nat.reduceAdd, Nat.reduceMul, Nat.reduceSub, reduceCtorEq, gw, hk, Bool.not_true, decide_not]; rfl
       · first | trivial | (simp [go_sem, gw, hk, Bool.not_true, decide_not]; done) | (simp [go_sem, gw, hk, Bool.not_true, decide_not]; omega)
       simp only [List.nil_append, List.cons_append])
    | (with_reducible refine c_ret ?_)
    | (with_reducible refine c_skip ?_)
    | (with_reducible apply l_take
       · simp only [go_sem, eq_self, Int.toNat_natCast, Int.reduceBNe, Int.reduceBEq, Int.reduceLT, Int.reduceLE, Int.reduceGT, Int.reduceGE, decide_true, decide_false, bne_self_eq_false, beq_self_eq_true, cond_true, cond_false, reduceIte, Nat.reduceEqDiff, Nat.reduceAdd, Nat.reduceMul, Nat.reduceSub, reduceCtorEq, gw, hk, Bool.not_true, decide_not]; done)
    | (with_reducible apply l_passT
       · simp only [go_sem, eq_self, Int.toNat_natCast, Int.reduceBNe, Int.reduceBEq, Int.reduceLT, Int.reduceLE, Int.reduceGT, Int.reduceGE, decide_true, decide_false, bne_self_eq_false, beq_self_eq_true, cond_true, cond_false, reduceIte, Nat.reduceEqDiff, Nat.reduceAdd, Nat.reduceMul, Nat.reduceSub, reduceCtorEq, gw, hk, Bool.not_true, decide_not]; done)
    | (with_reducible apply l_passF
       · simp only [go_sem, eq_self, Int.toNat_natCast, Int.reduceBNe, Int.reduceBEq, Int.reduceLT, Int.reduceLE, Int.reduceGT, Int.reduceGE, decide_true, decide_false, bne_self_eq_false, beq_self_eq_true, cond_true, cond_false, reduceIte, Nat.reduceEqDiff, Nat.reduceAdd, Nat.reduceMul, Nat.reduceSub, reduceCtorEq, gw, hk, Bool.not_true, decide_not]; done)
    | (with_reducible apply l_passU
       · simp only [go_sem, eq_self, Int.toNat_natCast, Int.reduceBNe, Int.reduceBEq, Int.reduceLT, Int.reduceLE, Int.reduceGT, Int.reduceGE, decide_true, decide_false, bne_self_eq_false, beq_self_eq_true, cond_true, cond_false, reduceIte, Nat.reduceEqDiff, Nat.reduceAdd, Nat.reduceMul, Nat.reduceSub, reduceCtorEq, gw, hk, Bool.not_true, decide_not]; rfl)
    | (with_reducible apply l_gT
       · simp only [go_sem, eq_self, Int.toNat_natCast, Int.reduceBNe, Int.reduceBEq, Int.reduceLT, Int.reduceLE, Int.reduceGT, Int.reduceGE, decide_true, decide_false, bne_self_eq_false, beq_self_eq_true, cond_true, cond_false, reduceIte, Nat.reduceEqDiff, Nat.reduceAdd, Nat.reduceMul, Nat.reduceSub, reduceCtorEq, gw, hk, Bool.not_true, decide_not]; rfl)
    | (with_reducible apply l_gF
       · simp only [go_sem, eq_self, Int.toNat_natCast, Int.reduceBNe, Int.reduceBEq, Int.reduceLT, Int.reduceLE, Int.reduceGT, Int.reduceGE, decide_true, decide_false, bne_self_eq_false, beq_self_eq_true, cond_true, cond_false, reduceIte, Nat.reduceEqDiff, Nat.reduceAdd, Nat.reduceMul, Nat.reduceSub, reduceCtorEq, gw, hk, Bool.not_true, decide_not]; rfl)
    | (with_reducible apply c_true
       · simp only [go_sem, eq_self, Int.toNat_natCast, Int.reduceBNe, Int.reduceBEq, Int.reduceLT, Int.reduceLE, Int.reduceGT, Int.reduceGE, decide_true, decide_false, bne_self_eq_false, beq_self_eq_true, cond_true, cond_false, reduceIte, Nat.reduceEqDiff, Nat.reduceAdd, Nat.reduceMul, Nat.reduceSub, reduceCtorEq, gw, hk, Bool.not_true, decide_not]; done)
    | (with_reducible apply c_false
       · simp only [go_sem, eq_self, Int.toNat_natCast, Int.reduceBNe, Int.reduceBEq, Int.reduceLT, Int.reduceLE, Int.reduceGT, Int.reduceGE, decide_true, decide_false, bne_self_eq_false, beq_self_eq_true, cond_true, cond_false, reduceIte, Nat.reduceEqDiff, Nat.reduceAdd, Nat.reduceMul, Nat.reduceSub, reduceCtorEq, gw, hk, Bool.not_true, decide_not]; done)
    | (with_reducible apply c_cond
       · simp only [go_sem, eq_self, Int.toNat_natCast, Int.reduceBNe, Int.reduceBEq, Int.reduceLT, Int.reduceLE, Int.reduceGT, Int.reduceGE, decide_true, decide_false, bne_self_eq_false, beq_self_eq_true, cond_true, cond_false, reduceIte, Nat.reduceEqDiff, Nat.reduceAdd, Nat.reduceMul, Nat.reduceSub, reduceCtorEq, gw, hk, Bool.not_true, decide_not]; rfl)
    | (with_reducible refine l_call ?_ hb7 (CallP.ok lv36_true _ _) ?_
       · rfl)
    | intro hc)
  all_goals first
    | (with_reducible apply hQ; exact leaves_val rfl rfl rfl)
    | skip
  rename_i hc1
  have hc2 := hc
  have ht0 : 0 ≤ t := by have := of_decide_eq_false hc1; omega
  have ht1 : t ≤ 1099511627776 := by have := of_decide_eq_false hc2; omega
  clear hc1 hc2
  refine c_loop (α := LI k) (S := fun x => ⟨[(1, .v (.int .i64 t)), (5, .v (.int .i64 (k : Int))), (6, rowsV x.i x.p), (21, .v (.int .i64 (k : Int))), (22, .v (.int .i64 ((x.i : Nat) : Int)))], rowsH t x.i x.p, x.q⟩) (fun x => k - x.i) ⟨0, 0, 0, Nat.zero_le _, .inr rfl⟩ ?_ ?_
  · refine Wk.of 0 (Nat.le_refl _) ?_ ?_
    · simp only [FrS, lget_cons, lget_nil, Nat.reduceEqDiff, reduceIte, Option.some.injEq, exists_eq_left', and_true, Nat.reduceAdd]
      exact ⟨.eq0 rfl rfl, .eq0 rfl rfl, .eq0 rfl rfl, .eq0 rfl rfl, .eq0 rfl rfl⟩
    · exact trivial
  · rintro ⟨i, p, q, hi, hpq⟩
    dsimp only
    have n1 : (q + 1 = q) = False := by simp
    have n2 : (q = q + 1) = False := by simp
    have n3 : (q + 1 + 1 = q) = False := by simp only [eq_iff_iff, iff_false]; omega
    have n4 : (q + 1 + 1 = q + 1) = False := by simp
    by_cases hik : i < k
    · have g3 : decide ((i : Int) < (k : Int)) = true := by simp; omega
      have g5 : IntKind.i64.wrap ((i : Int) + 1) = ((i + 1 : Nat) : Int) := by rw [wrap64 (by omega) (by omega)]; rfl
      have g6 : IntKind.i64.wrap (t + (i : Int)) = t + (i : Int) := wrap64 (by omega) (by omega)
      rcases Nat.eq_zero_or_pos i with rfl | hpos
      · have n5 : (p = q) = (p = q) := rfl
        have n6 : (p = q + 1) = (p = q + 1) := rfl
        simp only [rowsV, rowsH, reduceIte]
        repeat' (first
          | (with_reducible refine c_seqb ?_)
          | (with_reducible refine c_seq ?_)
          | (with_reducible refine c_reg ?_)
          | (with_reducible refine l_nil ?_)
          | (with_reducible refine c_block ?_)
          | (with_reducible refine c_exitE ?_)
          | (with_reducible refine c_exit ?_
             simp only [eq_self, if_true, Nat.reduceEqDiff, if_false])
          | (with_reducible apply l_op
             · rfl
             · simp only [go_sem, eq_self, Int.toNat_natCast, Int.reduceBNe, Int.reduceBEq, Int.reduceLT, Int.reduceLE, Int.reduceGT, Int.reduceGE, decide_true, decide_false, bne_self_eq_false, beq_self_eq_true, cond_true, cond_false, reduceIte, Nat.reduceEqDiff, Nat.reduceAdd, Nat.reduceMul, Nat.reduceSub, reduceCtorEq, g3, g5, g6, stBuiltin, stAppend, stBuildSlice, zcells, isSrcTy, srcOf, blkOf, capAfter, n1, n2, n3, n4, n5, n6, List.flatten_nil]; rfl
             · first | trivial | (simp [go_sem, g3, g5, g6, stBuiltin, stAppend, stBuildSlice, zcells, isSrcTy, srcOf, blkOf, capAfter, n1, n2, n3, n4, n5, n6, List.flatten_nil]; done) | (simp [go_sem, g3, g5, g6, stBuiltin, stAppend, stBuildSlice, zcells, isSrcTy, srcOf, blkOf, capAfter, n1, n2, n3, n4, n5, n6, List.flatten_nil]; omega)
             simp only [List.nil_append, List.cons_append])
          | (with_reducible apply l_do
             · rfl
             · simp only [go_sem, eq_self, Int.toNat_natCast, Int.reduceBNe, Int.reduceBEq, Int.reduceLT, Int.reduceLE, Int.reduceGT, Int.reduceGE, decide_true, decide_false, bne_self_eq_false, beq_self_eq_true, cond_true, cond_false, reduceIte, Nat.reduceEqDiff, Nat.reduceAdd, Nat.reduceMul, Nat.reduceSub, reduceCtorEq, g3, g5, g6, stBuiltin, stAppend, stBuildSlice, zcells, isSrcTy, srcOf, blkOf, capAfter, n1, n2, n3, n4, n5, n6, List.flatten_nil]; rfl
             · first | trivial | (simp [go_sem, g3, g5, g6, stBuiltin, stAppend, stBuildSlice, zcells, isSrcTy, srcOf, blkOf, capAfter, n1, n2, n3, n4, n5, n6, List.flatten_nil]; done) | (simp [go_sem, g3, g5, g6, stBuiltin, stAppend, stBuildSlice, zcells, isSrcTy, srcOf, blkOf, capAfter, n1, n2, n3, n4, n5, n6, List.flatten_nil]; omega)
             simp only [List.nil_append, List.cons_append])
          | (with_reducible refine c_ret ?_)
          | (with_reducible refine c_skip ?_)
          | (with_reducible apply l_take
             · simp only [go_sem, eq_self, Int.toNat_natCast, Int.reduceBNe, Int.reduceBEq, Int.reduceLT, Int.reduceLE, Int.reduceGT, Int.reduceGE, decide_true, decide_false, bne_self_eq_false, beq_self_eq_true, cond_true, cond_false, reduceIte, Nat.reduceEqDiff, Nat.reduceAdd, Nat.reduceMul, Nat.reduceSub, reduceCtorEq, g3, g5, g6, stBuiltin, stAppend, stBuildSlice, zcells, isSrcTy, srcOf, blkOf, capAfter, n1, n2, n3, n4, n5, n6, List.flatten_nil]; done)
          | (with_reducible apply l_passT
             · simp only [go_sem, eq_self, Int.toNat_natCast, Int.reduceBNe, Int.reduceBEq, Int.reduceLT, Int.reduceLE, Int.reduceGT, Int.reduceGE, decide_true, decide_false, bne_self_eq_false, beq_self_eq_true, cond_true, cond_false, reduceIte, Nat.reduceEqDiff, Nat.reduceAdd, Nat.reduceMul, Nat.reduceSub, reduceCtorEq, g3, g5, g6, stBuiltin, stAppend, stBuildSlice, zcells, isSrcTy, srcOf, blkOf, capAfter, n1, n2, n3, n4, n5, n6, List.flatten_nil]; done)
          | (with_reducible apply l_passF
             · simp only [go_sem, eq_self, Int.toNat_natCast, Int.reduceBNe, Int.reduceBEq, Int.reduceLT, Int.reduceLE, Int.reduceGT, Int.reduceGE, decide_true, decide_false, bne_self_eq_false, beq_self_eq_true, cond_true, cond_false, reduceIte, Nat.reduceEqDiff, Nat.reduceAdd, Nat.reduceMul, Nat.reduceSub, reduceCtorEq, g3, g5, g6, stBuiltin, stAppend, stBuildSlice, zcells, isSrcTy, srcOf, blkOf, capAfter, n1, n2, n3, n4, n5, n6, List.flatten_nil]; done)
          | (with_reducible apply l_passU
             · simp only [go_sem, eq_self, Int.toNat_natCast, Int.reduceBNe, Int.reduceBEq, Int.reduceLT, Int.reduceLE, Int.reduceGT, Int.reduceGE, decide_true, decide_false, bne_self_eq_false, beq_self_eq_true, cond_true, cond_false, reduceIte, Nat.reduceEqDiff, Nat.reduceAdd, Nat.reduceMul, Nat.reduceSub, reduceCtorEq, g3, g5, g6, stBuiltin, stAppend, stBuildSlice, zcells, isSrcTy, srcOf, blkOf, capAfter, n1, n2, n3, n4, n5, n6, List.flatten_nil]; rfl)
          | (with_reducible apply l_gT
             · simp only [go_sem, eq_self, Int.toNat_natCast, Int.reduceBNe, Int.reduceBEq, Int.reduceLT, Int.reduceLE, Int.reduceGT, Int.reduceGE, decide_true, decide_false, bne_self_eq_false, beq_self_eq_true, cond_true, cond_false, reduceIte, Nat.reduceEqDiff, Nat.reduceAdd, Nat.reduceMul, Nat.reduceSub, reduceCtorEq, g3, g5, g6, stBuiltin, stAppend, stBuildSlice, zcells, isSrcTy, srcOf, blkOf, capAfter, n1, n2, n3, n4, n5, n6, List.flatten_nil]; rfl)
          | (with_reducible apply l_gF
             · simp only [go_sem, eq_self, Int.toNat_natCast, Int.reduceBNe, Int.reduceBEq, Int.reduceLT, Int.reduceLE, Int.reduceGT, Int.reduceGE, decide_true, decide_false, bne_self_eq_false, beq_self_eq_true, cond_true, cond_false, reduceIte, Nat.reduceEqDiff, Nat.reduceAdd, Nat.reduceMul, Nat.reduceSub, reduceCtorEq, g3, g5, g6, stBuiltin, stAppend, stBuildSlice, zcells, isSrcTy, srcOf, blkOf, capAfter, n1, n2, n3, n4, n5, n6, List.flatten_nil]; rfl)
          | (with_reducible apply c_true
             · simp only [go_sem, eq_self, Int.toNat_natCast, Int.reduceBNe, Int.reduceBEq, Int.reduceLT, Int.reduceLE, Int.reduceGT, Int.reduceGE, decide_true, decide_false, bne_self_eq_false, beq_self_eq_true, cond_true, cond_false, reduceIte, Nat.reduceEqDiff, Nat.reduceAdd, Nat.reduceMul, Nat.reduceSub, reduceCtorEq, g3, g5, g6, stBuiltin, stAppend, stBuildSlice, zcells, isSrcTy, srcOf, blkOf, capAfter, n1, n2, n3, n4, n5, n6, List.flatten_nil]; done)
          | (with_reducible apply c_false
             · simp only [go_sem, eq_self, Int.toNat_natCast, Int.reduceBNe, Int.reduceBEq, Int.reduceLT, Int.reduceLE, Int.reduceGT, Int.reduceGE, decide_true, decide_false, bne_self_eq_false, beq_self_eq_true, cond_true, cond_false, reduceIte, Nat.reduceEqDiff, Nat.reduceAdd, Nat.reduceMul, Nat.reduceSub, reduceCtorEq, g3, g5, g6, stBuiltin, stAppend, stBuildSlice, zcells, isSrcTy, srcOf, blkOf, capAfter, n1, n2, n3, n4, n5, n6, List.flatten_nil]; done)
          | (with_reducible apply c_cond
             · simp only [go_sem, eq_self, Int.toNat_natCast, Int.reduceBNe, Int.reduceBEq, Int.reduceLT, Int.reduceLE, Int.reduceGT, Int.reduceGE, decide_true, decide_false, bne_self_eq_false, beq_self_eq_true, cond_true, cond_false, reduceIte, Nat.reduceEqDiff, Nat.reduceAdd, Nat.reduceMul, Nat.reduceSub, reduceCtorEq, g3, g5, g6, stBuiltin, stAppend, stBuildSlice, zcells, isSrcTy, srcOf, blkOf, capAfter, n1, n2, n3, n4, n5, n6, List.flatten_nil]; rfl)
          | intro hc)
        refine ⟨⟨1, q + 1 + 1, q + 1 + 1 + 1, hik, .inl (by omega)⟩, by dsimp only; omega, Wk.of 1 (Nat.le_refl _) ?_ ?_⟩
        · simp only [FrS, lget_cons, lget_nil, Nat.reduceEqDiff, reduceIte, Option.some.injEq, exists_eq_left', and_true]
          exact ⟨.eqS rfl rfl, .eqS rfl rfl, .eqS rfl (by simp [SV.namesIn, Kept, rowsH, rowsV, hget_cons]), .eqS rfl rfl, .eqS rfl rfl⟩
        · have e1 : (if 1 = 0 then ([] : HL) else [(q + 1 + 1, some ⟨32, (rowsL t 1).flatten, none⟩)]) = [(q + 1 + 1, some ⟨32, (rowsL t 1).flatten, none⟩)] := rfl
          have e2 : (rowsL t 1).flatten = rowA (t + ((0 : Nat) : Int)) := by simp [rowsL, List.range_succ]
          dsimp only
          rw [e1]
          refine ⟨fun b hb => ?_, trivial⟩
          cases hb
          refine ⟨⟨32, [.s 2 q 0 1 (some 1), .v (.int .i64 (t + ((0 : Nat) : Int))), .v (.int .u64 0), .v (.int .i64 0), .v (.bool false)], none⟩, by simp only [hget_cons, if_true], rfl, rfl, ?_⟩
          dsimp only
          rw [e2]
          refine frz_row ?_ ?_
          · simp only [Kept, hget_cons, hget_nil, Nat.reduceEqDiff, if_false, n3]; rfl
          · simp only [hget_cons, n1, n3, if_false, if_true]
      · have hi0 : ¬ i = 0 := by omega
        have hpq' : p < q := hpq.resolve_right hi0
        have n5 : (q = p) = False := by simp; omega
        have n6 : (q + 1 = p) = False := by simp; omega
        have gl := rowsL_flat t i
        simp only [rowsV, rowsH, hi0, reduceIte, if_false]
        repeat' (first
          | (with_reducible refine c_seqb ?_)
          | (with_reducible refine c_seq ?_)
          | (with_reducible refine c_reg ?_)
          | (with_reducible refine l_nil ?_)
          | (with_reducible refine c_block ?_)
          | (with_reducible refine c_exitE ?_)
          | (with_reducible refine c_exit ?_
             simp only [eq_self, if_true, Nat.reduceEqDiff, if_false])
          | (with_reducible apply l_op
             · rfl
             · simp only [go_sem, eq_self, Int.toNat_natCast, Int.reduceBNe, Int.reduceBEq, Int.reduceLT, Int.reduceLE, Int.reduceGT, Int.reduceGE, decide_true, decide_false, bne_self_eq_false, beq_self_eq_true, cond_true, cond_false, reduceIte, Nat.reduceEqDiff, Nat.reduceAdd, Nat.reduceMul, Nat.reduceSub, reduceCtorEq, g3, g5, g6, gl, stBuiltin, stAppend, stBuildSlice, zcells, isSrcTy, srcOf, blkOf, capAfter, n1, n2, n3, n4, n5, n6, List.flatten_nil]; rfl
             · first | trivial | (simp [go_sem, g3, g5, g6, gl, stBuiltin, stAppend, stBuildSlice, zcells, isSrcTy, srcOf, blkOf, capAfter, n1, n2, n3, n4, n5, n6, List.flatten_nil]; done) | (simp [go_sem, g3, g5, g6, gl, stBuiltin, stAppend, stBuildSlice, zcells, isSrcTy, srcOf, blkOf, capAfter, n1, n2, n3, n4, n5, n6, List.flatten_nil]; omega)
             simp only [List.nil_append, List.cons_append])
          | (with_reducible apply l_do
             · rfl
             · simp only [go_sem, eq_self, Int.toNat_natCast, Int.reduceBNe, Int.reduceBEq, Int.reduceLT, Int.reduceLE, Int.reduceGT, Int.reduceGE, decide_true, decide_false, bne_self_eq_false, beq_self_eq_true, cond_true, cond_false, reduceIte, Nat.reduceEqDiff, Nat.reduceAdd, Nat.reduceMul, Nat.reduceSub, reduceCtorEq, g3, g5, g6, gl, stBuiltin, stAppend, stBuildSlice, zcells, isSrcTy, srcOf, blkOf, capAfter, n1, n2, n3, n4, n5, n6, List.flatten_nil]; rfl
             · first | trivial | (simp [go_sem, g3, g5, g6, gl, stBuiltin, stAppend, stBuildSlice, zcells, isSrcTy, srcOf, blkOf, capAfter, n1, n2, n3, n4, n5, n6, List.flatten_nil]; done) | (simp [go_sem, g3, g5, g6, gl, stBuiltin, stAppend, stBuildSlice, zcells, isSrcTy, srcOf, blkOf, capAfter, n1, n2, n3, n4, n5, n6, List.flatten_nil]; omega)
             simp only [List.nil_append, List.cons_append])
          | (with_reducible refine c_ret ?_)
          | (with_reducible refine c_skip ?_)
          | (with_reducible apply l_take
             · simp only [go_sem, eq_self, Int.toNat_natCast, Int.reduceBNe, Int.reduceBEq, Int.reduceLT, Int.reduceLE, Int.reduceGT, Int.reduceGE, decide_true, decide_false, bne_self_eq_false, beq_self_eq_true, cond_true, cond_false, reduceIte, Nat.reduceEqDiff, Nat.reduceAdd, Nat.reduceMul, Nat.reduceSub, reduceCtorEq, g3, g5, g6, gl, stBuiltin, stAppend, stBuildSlice, zcells, isSrcTy, srcOf, blkOf, capAfter, n1, n2, n3, n4, n5, n6, List.flatten_nil]; done)
          | (with_reducible apply l_passT
             · simp only [go_sem, eq_self, Int.toNat_natCast, Int.reduceBNe, Int.reduceBEq, Int.reduceLT, Int.reduceLE, Int.reduceGT, Int.reduceGE, decide_true, decide_false, bne_self_eq_false, beq_self_eq_true, cond_true, cond_false, reduceIte, Nat.reduceEqDiff, Nat.reduceAdd, Nat.reduceMul, Nat.reduceSub, reduceCtorEq, g3, g5, g6, gl, stBuiltin, stAppend, stBuildSlice, zcells, isSrcTy, srcOf, blkOf, capAfter, n1, n2, n3, n4, n5, n6, List.flatten_nil]; done)
          | (with_reducible apply l_passF
             · simp only [go_sem, eq_self, Int.toNat_natCast, Int.reduceBNe, Int.reduceBEq, Int.reduceLT, Int.reduceLE, Int.reduceGT, Int.reduceGE, decide_true, decide_false, bne_self_eq_false, beq_self_eq_true, cond_true, cond_false, reduceIte, Nat.reduceEqDiff, Nat.reduceAdd, Nat.reduceMul, Nat.reduceSub, reduceCtorEq, g3, g5, g6, gl, stBuiltin, stAppend, stBuildSlice, zcells, isSrcTy, srcOf, blkOf, capAfter, n1, n2, n3, n4, n5, n6, List.flatten_nil]; done)
          | (with_reducible apply l_passU
             · simp only [go_sem, eq_self, Int.toNat_natCast, Int.reduceBNe, Int.reduceBEq, Int.reduceLT, Int.reduceLE, Int.reduceGT, Int.reduceGE, decide_true, decide_false, bne_self_eq_false, beq_self_eq_true, cond_true, cond_false, reduceIte, Nat.reduceEqDiff, Nat.reduceAdd, Nat.reduceMul, Nat.reduceSub, reduceCtorEq, g3, g5, g6, gl, stBuiltin, stAppend, stBuildSlice, zcells, isSrcTy, srcOf, blkOf, capAfter, n1, n2, n3, n4, n5, n6, List.flatten_nil]; rfl)
          | (with_reducible apply l_gT
             · simp only [go_sem, eq_self, Int.toNat_natCast, Int.reduceBNe, Int.reduceBEq, Int.reduceLT, Int.reduceLE, Int.reduceGT, Int.reduceGE, decide_true, decide_false, bne_self_eq_false, beq_self_eq_true, cond_true, cond_false, reduceIte, Nat.reduceEqDiff, Nat.reduceAdd, Nat.reduceMul, Nat.reduceSub, reduceCtorEq, g3, g5, g6, gl, stBuiltin, stAppend, stBuildSlice, zcells, isSrcTy, srcOf, blkOf, capAfter, n1, n2, n3, n4, n5, n6, List.flatten_nil]; rfl)
          | (with_reducible apply l_gF
             · simp only [go_sem, eq_self, Int.toNat_natCast, Int.reduceBNe, Int.reduceBEq, Int.reduceLT, Int.reduceLE, Int.reduceGT, Int.reduceGE, decide_true, decide_false, bne_self_eq_false, beq_self_eq_true, cond_true, cond_false, reduceIte, Nat.reduceEqDiff, Nat.reduceAdd, Nat.reduceMul, Nat.reduceSub, reduceCtorEq, g3, g5, g6, gl, stBuiltin, stAppend, stBuildSlice, zcells, isSrcTy, srcOf, blkOf, capAfter, n1, n2, n3, n4, n5, n6, List.flatten_nil]; rfl)
          | (with_reducible apply c_true
             · simp only [go_sem, eq_self, Int.toNat_natCast, Int.reduceBNe, Int.reduceBEq, Int.reduceLT, Int.reduceLE, Int.reduceGT, Int.reduceGE, decide_true, decide_false, bne_self_eq_false, beq_self_eq_true, cond_true, cond_false, reduceIte, Nat.reduceEqDiff, Nat.reduceAdd, Nat.reduceMul, Nat.reduceSub, reduceCtorEq, g3, g5, g6, gl, stBuiltin, stAppend, stBuildSlice, zcells, isSrcTy, srcOf, blkOf, capAfter, n1, n2, n3, n4, n5, n6, List.flatten_nil]; done)
          | (with_reducible apply c_false
             · simp only [go_sem, eq_self, Int.toNat_natCast, Int.reduceBNe, Int.reduceBEq, Int.reduceLT, Int.reduceLE, Int.reduceGT, Int.reduceGE, decide_true, decide_false, bne_self_eq_false, beq_self_eq_true, cond_true, cond_false, reduceIte, Nat.reduceEqDiff, Nat.reduceAdd, Nat.reduceMul, Nat.reduceSub, reduceCtorEq, g3, g5, g6, gl, stBuiltin, stAppend, stBuildSlice, zcells, isSrcTy, srcOf, blkOf, capAfter, n1, n2, n3, n4, n5, n6, List.flatten_nil]; done)
          | (with_reducible apply c_cond
             · simp only [go_sem, eq_self, Int.toNat_natCast, Int.reduceBNe, Int.reduceBEq, Int.reduceLT, Int.reduceLE, Int.reduceGT, Int.reduceGE, decide_true, decide_false, bne_self_eq_false, beq_self_eq_true, cond_true, cond_false, reduceIte, Nat.reduceEqDiff, Nat.reduceAdd, Nat.reduceMul, Nat.reduceSub, reduceCtorEq, g3, g5, g6, gl, stBuiltin, stAppend, stBuildSlice, zcells, isSrcTy, srcOf, blkOf, capAfter, n1, n2, n3, n4, n5, n6, List.flatten_nil]; rfl)
          | intro hc)
        refine ⟨⟨i + 1, q + 1 + 1, q + 1 + 1 + 1, hik, .inl (by omega)⟩, by dsimp only; omega, Wk.of 1 (Nat.le_refl _) ?_ ?_⟩
        · simp only [FrS, lget_cons, lget_nil, Nat.reduceEqDiff, reduceIte, Option.some.injEq, exists_eq_left', and_true]
          exact ⟨.eqS rfl rfl, .eqS rfl rfl, .eqS (by simp [rowsV]) (by simp [SV.namesIn, Kept, rowsH, rowsV, hget_cons]), .eqS rfl rfl, .eqS rfl rfl⟩
        · have e1 : (if i + 1 = 0 then ([] : HL) else [(q + 1 + 1, some ⟨32, (rowsL t (i + 1)).flatten, none⟩)]) = [(q + 1 + 1, some ⟨32, (rowsL t (i + 1)).flatten, none⟩)] := by simp
          have n7 : (p = q + 1 + 1) = False := by simp; omega
          dsimp only
          rw [e1]
          refine ⟨fun b hb => ?_, trivial⟩
          cases hb
          refine ⟨⟨32, List.take (i * 5) (rowsL t i).flatten ++ [.s 2 q 0 1 (some 1), .v (.int .i64 (t + (i : Int))), .v (.int .u64 0), .v (.int .i64 0), .v (.bool false)], none⟩, by simp only [hget_cons, n7, if_true, if_false], rfl, rfl, ?_⟩
          dsimp only
          have e2 : (rowsL t (i + 1)).flatten = (rowsL t i).flatten ++ rowA (t + (i : Int)) := by rw [rowsL_succ, List.flatten_append]; simp
          rw [List.take_of_length_le (by omega), e2]
          refine frzP_append (frzP_reflS (rowsL_names _ t i)) rfl ?_
          refine frz_row ?_ ?_
          · simp only [Kept, hget_cons, hget_nil, Nat.reduceEqDiff, if_false, n3]; rfl
          · simp only [hget_cons, n1, n3, n5, n7, if_false, if_true]
            have : (p = q) = False := by simp; omega
            simp only [this, if_false]
    · have g3 : decide ((i : Int) < (k : Int)) = false := by simp; omega
      repeat' (first
        | (with_reducible refine c_seqb ?_)
        | (with_reducible refine c_seq ?_)
        | (with_reducible refine c_reg ?_)
        | (with_reducible refine l_nil ?_)
        | (with_reducible refine c_block ?_)
        | (with_reducible refine c_exitE ?_)
        | (with_reducible refine c_exit ?_
           simp only [eq_self, if_true, Nat.reduceEqDiff, if_false])
        | (with_reducible apply l_op
           · rfl
           · simp only [go_sem, eq_self, Int.toNat_natCast, Int.reduceBNe, Int.reduceBEq, Int.reduceLT, Int.reduceLE, Int.reduceGT, Int.reduceGE, decide_true, decide_false, bne_self_eq_false, beq_self_eq_true, cond_true, cond_false, reduceIte, Nat.reduceEqDiff, Nat.reduceAdd, Nat.reduceMul, Nat.reduceSub, reduceCtorEq, g3]; rfl
           · first | trivial | (simp [go_sem, g3]; done) | (simp [go_sem, g3]; omega)
           simp only [List.nil_append, List.cons_append])
        | (with_reducible apply l_do
           · rfl
           · simp only [go_sem, eq_self, Int.toNat_natCast, Int.reduceBNe, Int.reduceBEq, Int.reduceLT, Int.reduceLE, Int.reduceGT, Int.reduceGE, decide_true, decide_false, bne_self_eq_false, beq_self_eq_true, cond_true, cond_false, reduceIte, Nat.reduceEqDiff, Nat.reduceAdd, Nat.reduceMul, Nat.reduceSub, reduceCtorEq, g3]; rfl
           · first | trivial | (simp [go_sem, g3]; done) | (simp [go_sem, g3]; omega)
           simp only [List.nil_append, List.cons_append])
        | (with_reducible refine c_ret ?_)
        | (with_reducible refine c_skip ?_)
        | (with_reducible apply l_take
           · simp only [go_sem, eq_self, Int.toNat_natCast, Int.reduceBNe, Int.reduceBEq, Int.reduceLT, Int.reduceLE, Int.reduceGT, Int.reduceGE, decide_true, decide_false, bne_self_eq_false, beq_self_eq_true, cond_true, cond_false, reduceIte, Nat.reduceEqDiff, Nat.reduceAdd, Nat.reduceMul, Nat.reduceSub, reduceCtorEq, g3]; done)
        | (with_reducible apply l_passT
           · simp only [go_sem, eq_self, Int.toNat_natCast, Int.reduceBNe, Int.reduceBEq, Int.reduceLT, Int.reduceLE, Int.reduceGT, Int.reduceGE, decide_true, decide_false, bne_self_eq_false, beq_self_eq_true, cond_true, cond_false, reduceIte, Nat.reduceEqDiff, Nat.reduceAdd, Nat.reduceMul, Nat.reduceSub, reduceCtorEq, g3]; done)
        | (with_reducible apply l_passF
           · simp only [go_sem, eq_self, Int.toNat_natCast, Int.reduceBNe, Int.reduceBEq, Int.reduceLT, Int.reduceLE, Int.reduceGT, Int.reduceGE, decide_true, decide_false, bne_self_eq_false, beq_self_eq_true, cond_true, cond_false, reduceIte, Nat.reduceEqDiff, Nat.reduceAdd, Nat.reduceMul, Nat.reduceSub, reduceCtorEq, g3]; done)
        | (with_reducible apply l_passU
           · simp only [go_sem, eq_self, Int.toNat_natCast, Int.reduceBNe, Int.reduceBEq, Int.reduceLT, Int.reduceLE, Int.reduceGT, Int.reduceGE, decide_true, decide_false, bne_self_eq_false, beq_self_eq_true, cond_true, cond_false, reduceIte, Nat.reduceEqDiff, Nat.reduceAdd, Nat.reduceMul, Nat.reduceSub, reduceCtorEq, g3]; rfl)
        | (with_reducible apply l_gT
           · simp only [go_sem, eq_self, Int.toNat_natCast, Int.reduceBNe, Int.reduceBEq, Int.reduceLT, Int.reduceLE, Int.reduceGT, Int.reduceGE, decide_true, decide_false, bne_self_eq_false, beq_self_eq_true, cond_true, cond_false, reduceIte, Nat.reduceEqDiff, Nat.reduceAdd, Nat.reduceMul, Nat.reduceSub, reduceCtorEq, g3]; rfl)
        | (with_reducible apply l_gF
           · simp only [go_sem, eq_self, Int.toNat_natCast, Int.reduceBNe, Int.reduceBEq, Int.reduceLT, Int.reduceLE, Int.reduceGT, Int.reduceGE, decide_true, decide_false, bne_self_eq_false, beq_self_eq_true, cond_true, cond_false, reduceIte, Nat.reduceEqDiff, Nat.reduceAdd, Nat.reduceMul, Nat.reduceSub, reduceCtorEq, g3]; rfl)
        | (with_reducible apply c_true
           · simp only [go_sem, eq_self, Int.toNat_natCast, Int.reduceBNe, Int.reduceBEq, Int.reduceLT, Int.reduceLE, Int.reduceGT, Int.reduceGE, decide_true, decide_false, bne_self_eq_false, beq_self_eq_true, cond_true, cond_false, reduceIte, Nat.reduceEqDiff, Nat.reduceAdd, Nat.reduceMul, Nat.reduceSub, reduceCtorEq, g3]; done)
        | (with_reducible apply c_false
           · simp only [go_sem, eq_self, Int.toNat_natCast, Int.reduceBNe, Int.reduceBEq, Int.reduceLT, Int.reduceLE, Int.reduceGT, Int.reduceGE, decide_true, decide_false, bne_self_eq_false, beq_self_eq_true, cond_true, cond_false, reduceIte, Nat.reduceEqDiff, Nat.reduceAdd, Nat.reduceMul, Nat.reduceSub, reduceCtorEq, g3]; done)
        | (with_reducible apply c_cond
           · simp only [go_sem, eq_self, Int.toNat_natCast, Int.reduceBNe, Int.reduceBEq, Int.reduceLT, Int.reduceLE, Int.reduceGT, Int.reduceGE, decide_true, decide_false, bne_self_eq_false, beq_self_eq_true, cond_true, cond_false, reduceIte, Nat.reduceEqDiff, Nat.reduceAdd, Nat.reduceMul, Nat.reduceSub, reduceCtorEq, g3]; rfl)
        | intro hc)
      have hik' : i = k := by omega
      subst hik'
      rcases Nat.eq_zero_or_pos i with rfl | hpos
      · refine ⟨_, Wk.refl _, ?_⟩
        simp only [rowsV, rowsH, reduceIte]
        repeat' (first
          | (with_reducible refine c_seqb ?_)
          | (with_reducible refine c_seq ?_)
          | (with_reducible refine c_reg ?_)
          | (with_reducible refine l_nil ?_)
          | (with_reducible refine c_block ?_)
          | (with_reducible refine c_exitE ?_)
          | (with_reducible refine c_exit ?_
             simp only [eq_self, if_true, Nat.reduceEqDiff, if_false])
          | (with_reducible apply l_op
             · rfl
             · simp only [go_sem, eq_self, Int.toNat_natCast, Int.reduceBNe, Int.reduceBEq, Int.reduceLT, Int.reduceLE, Int.reduceGT, Int.reduceGE, decide_true, decide_false, bne_self_eq_false, beq_self_eq_true, cond_true, cond_false, reduceIte, Nat.reduceEqDiff, Nat.reduceAdd, Nat.reduceMul, Nat.reduceSub, reduceCtorEq, Int.reduceBEq, Int.reduceGT, Int.natCast_zero, Int.cast_ofNat_Int]; rfl
             · first | trivial | (simp [go_sem, Int.reduceBEq, Int.reduceGT, Int.natCast_zero, Int.cast_ofNat_Int]; done) | (simp [go_sem, Int.reduceBEq, Int.reduceGT, Int.natCast_zero, Int.cast_ofNat_Int]; omega)
             simp only [List.nil_append, List.cons_append])
          | (with_reducible apply l_do
             · rfl
             · simp only [go_sem, eq_self, Int.toNat_natCast, Int.reduceBNe, Int.reduceBEq, Int.reduceLT, Int.reduceLE, Int.reduceGT, Int.reduceGE, decide_true, decide_false, bne_self_eq_false, beq_self_eq_true, cond_true, cond_false, reduceIte, Nat.reduceEqDiff, Nat.reduceAdd, Nat.reduceMul, Nat.reduceSub, reduceCtorEq, Int.reduceBEq, Int.reduceGT, Int.natCast_zero, Int.cast_ofNat_Int]; rfl
             · first | trivial | (simp [go_sem, Int.reduceBEq, Int.reduceGT, Int.natCast_zero, Int.cast_ofNat_Int]; done) | (simp [go_sem, Int.reduceBEq, Int.reduceGT, Int.natCast_zero, Int.cast_ofNat_Int]; omega)
             simp only [List.nil_append, List.cons_append])
          | (with_reducible refine c_ret ?_)
          | (with_reducible refine c_skip ?_)
          | (with_reducible apply l_take
             · simp only [go_sem, eq_self, Int.toNat_natCast, Int.reduceBNe, Int.reduceBEq, Int.reduceLT, Int.reduceLE, Int.reduceGT, Int.reduceGE, decide_true, decide_false, bne_self_eq_false, beq_self_eq_true, cond_true, cond_false, reduceIte, Nat.reduceEqDiff, Nat.reduceAdd, Nat.reduceMul, Nat.reduceSub, reduceCtorEq, Int.reduceBEq, Int.reduceGT, Int.natCast_zero, Int.cast_ofNat_Int]; done)
          | (with_reducible apply l_passT
             · simp only [go_sem, eq_self, Int.toNat_natCast, Int.reduceBNe, Int.reduceBEq, Int.reduceLT, Int.reduceLE, Int.reduceGT, Int.reduceGE, decide_true, decide_false, bne_self_eq_false, beq_self_eq_true, cond_true, cond_false, reduceIte, Nat.reduceEqDiff, Nat.reduceAdd, Nat.reduceMul, Nat.reduceSub, reduceCtorEq, Int.reduceBEq, Int.reduceGT, Int.natCast_zero, Int.cast_ofNat_Int]; done)
          | (with_reducible apply l_passF
             · simp only [go_sem, eq_self, Int.toNat_natCast, Int.reduceBNe, Int.reduceBEq, Int.reduceLT, Int.reduceLE, Int.reduceGT, Int.reduceGE, decide_true, decide_false, bne_self_eq_false, beq_self_eq_true, cond_true, cond_false, reduceIte, Nat.reduceEqDiff, Nat.reduceAdd, Nat.reduceMul, Nat.reduceSub, reduceCtorEq, Int.reduceBEq, Int.reduceGT, Int.natCast_zero, Int.cast_ofNat_Int]; done)
          | (with_reducible apply l_passU
             · simp only [go_sem, eq_self, Int.toNat_natCast, Int.reduceBNe, Int.reduceBEq, Int.reduceLT, Int.reduceLE, Int.reduceGT, Int.reduceGE, decide_true, decide_false, bne_self_eq_false, beq_self_eq_true, cond_true, cond_false, reduceIte, Nat.reduceEqDiff, Nat.reduceAdd, Nat.reduceMul, Nat.reduceSub, reduceCtorEq, Int.reduceBEq, Int.reduceGT, Int.natCast_zero, Int.cast_ofNat_Int]; rfl)
          | (with_reducible apply l_gT
             · simp only [go_sem, eq_self, Int.toNat_natCast, Int.reduceBNe, Int.reduceBEq, Int.reduceLT, Int.reduceLE, Int.reduceGT, Int.reduceGE, decide_true, decide_false, bne_self_eq_false, beq_self_eq_true, cond_true, cond_false, reduceIte, Nat.reduceEqDiff, Nat.reduceAdd, Nat.reduceMul, Nat.reduceSub, reduceCtorEq, Int.reduceBEq, Int.reduceGT, Int.natCast_zero, Int.cast_ofNat_Int]; rfl)
          | (with_reducible apply l_gF
             · simp only [go_sem, eq_self, Int.toNat_natCast, Int.reduceBNe, Int.reduceBEq, Int.reduceLT, Int.reduceLE, Int.reduceGT, Int.reduceGE, decide_true, decide_false, bne_self_eq_false, beq_self_eq_true, cond_true, cond_false, reduceIte, Nat.reduceEqDiff, Nat.reduceAdd, Nat.reduceMul, Nat.reduceSub, reduceCtorEq, Int.reduceBEq, Int.reduceGT, Int.natCast_zero, Int.cast_ofNat_Int]; rfl)
          | (with_reducible apply c_true
             · simp only [go_sem, eq_self, Int.toNat_natCast, Int.reduceBNe, Int.reduceBEq, Int.reduceLT, Int.reduceLE, Int.reduceGT, Int.reduceGE, decide_true, decide_false, bne_self_eq_false, beq_self_eq_true, cond_true, cond_false, reduceIte, Nat.reduceEqDiff, Nat.reduceAdd, Nat.reduceMul, Nat.reduceSub, reduceCtorEq, Int.reduceBEq, Int.reduceGT, Int.natCast_zero, Int.cast_ofNat_Int]; done)
          | (with_reducible apply c_false
             · simp only [go_sem, eq_self, Int.toNat_natCast, Int.reduceBNe, Int.reduceBEq, Int.reduceLT, Int.reduceLE, Int.reduceGT, Int.reduceGE, decide_true, decide_false, bne_self_eq_false, beq_self_eq_true, cond_true, cond_false, reduceIte, Nat.reduceEqDiff, Nat.reduceAdd, Nat.reduceMul, Nat.reduceSub, reduceCtorEq, Int.reduceBEq, Int.reduceGT, Int.natCast_zero, Int.cast_ofNat_Int]; done)
          | (with_reducible apply c_cond
             · simp only [go_sem, eq_self, Int.toNat_natCast, Int.reduceBNe, Int.reduceBEq, Int.reduceLT, Int.reduceLE, Int.reduceGT, Int.reduceGE, decide_true, decide_false, bne_self_eq_false, beq_self_eq_true, cond_true, cond_false, reduceIte, Nat.reduceEqDiff, Nat.reduceAdd, Nat.reduceMul, Nat.reduceSub, reduceCtorEq, Int.reduceBEq, Int.reduceGT, Int.natCast_zero, Int.cast_ofNat_Int]; rfl)
          | (with_reducible refine l_call ?_ hb8 (CallP.ok chk8n _ _) ?_
             · rfl)
          | intro hc)
        with_reducible apply hQ
        exact leaves_val rfl rfl rfl
      · have hi0 : ¬ i = 0 := by omega
        simp only [rowsV, rowsH, hi0, reduceIte, if_false]
        refine ⟨⟨[(5, .v (.int .i64 (i : Int))), (6, .xs 5 none (rowsL t i))], [], q⟩, Wk.of 1 (Nat.le_refl _) ?_ trivial, ?_⟩
        · simp only [FrS, lget_cons, lget_nil, Nat.reduceEqDiff, reduceIte, Option.some.injEq, exists_eq_left', and_true]
          exact ⟨.eqS rfl rfl, frz_rows rfl (by simp only [hget_cons, if_true])⟩
        · have k1 : decide ((i : Int) > 0) = true := by simp; omega
          have k2 : ((i : Int) == 0) = false := by simp; omega
          by_cases hbig : i ≤ 1024
          · have k3 : decide ((i : Int) ≤ 1024) = true := by simp; omega
            have k4 : decide ((i : Int) > 1024) = false := by simp; omega
            repeat' (first
              | (with_reducible refine c_seqb ?_)
              | (with_reducible refine c_seq ?_)
              | (with_reducible refine c_reg ?_)
              | (with_reducible refine l_nil ?_)
              | (with_reducible refine c_block ?_)
              | (with_reducible refine c_exitE ?_)
              | (with_reducible refine c_exit ?_
                 simp only [eq_self, if_true, Nat.reduceEqDiff, if_false])
              | (with_reducible apply l_op
                 · rfl
                 · simp only [go_sem, eq_self, Int.toNat_natCast, Int.reduceBNe, Int.reduceBEq, Int.reduceLT, Int.reduceLE, Int.reduceGT, Int.reduceGE, decide_true, decide_false, bne_self_eq_false, beq_self_eq_true, cond_true, cond_false, reduceIte, Nat.reduceEqDiff, Nat.reduceAdd, Nat.reduceMul, Nat.reduceSub, reduceCtorEq, k1, k2, k3, k4]; rfl
                 · first | trivial | (simp [go_sem, k1, k2, k3, k4]; done) | (simp [go_sem, k1, k2, k3, k4]; omega)
                 simp only [List.nil_append, List.cons_append])
              | (with_reducible apply l_do
                 · rfl
                 · simp only [go_sem, eq_self, Int.toNat_natCast, Int.reduceBNe, Int.reduceBEq, Int.reduceLT, Int.reduceLE, Int.reduceGT, Int.reduceGE, decide_true, decide_false, bne_self_eq_false, beq_self_eq_true, cond_true, cond_false, reduceIte, Nat.reduceEqDiff, Nat.reduceAdd, Nat.reduceMul, Nat.reduceSub, reduceCtorEq, k1, k2, k3, k4]; rfl
                 · first | trivial | (simp [go_sem, k1, k2, k3, k4]; done) | (simp [go_sem, k1, k2, k3, k4]; omega)
                 simp only [List.nil_append, List.cons_append])
              | (with_reducible refine c_ret ?_)
              | (with_reducible refine c_skip ?_)
              | (with_reducible apply l_take
                 · simp only [go_sem, eq_self, Int.toNat_natCast, Int.reduceBNe, Int.reduceBEq, Int.reduceLT, Int.reduceLE, Int.reduceGT, Int.reduceGE, decide_true, decide_false, bne_self_eq_false, beq_self_eq_true, cond_true, cond_false, reduceIte, Nat.reduceEqDiff, Nat.reduceAdd, Nat.reduceMul, Nat.reduceSub, reduceCtorEq, k1, k2, k3, k4]; done)
              | (with_reducible apply l_passT
                 · simp only [go_sem, eq_self, Int.toNat_natCast, Int.reduceBNe, Int.reduceBEq, Int.reduceLT, Int.reduceLE, Int.reduceGT, Int.reduceGE, decide_true, decide_false, bne_self_eq_false, beq_self_eq_true, cond_true, cond_false, reduceIte, Nat.reduceEqDiff, Nat.reduceAdd, Nat.reduceMul, Nat.reduceSub, reduceCtorEq, k1, k2, k3, k4]; done)
              | (with_reducible apply l_passF
                 · simp only [go_sem, eq_self, Int.toNat_natCast, Int.reduceBNe, Int.reduceBEq, Int.reduceLT, Int.reduceLE, Int.reduceGT, Int.reduceGE, decide_true, decide_false, bne_self_eq_false, beq_self_eq_true, cond_true, cond_false, reduceIte, Nat.reduceEqDiff, Nat.reduceAdd, Nat.reduceMul, Nat.reduceSub, reduceCtorEq, k1, k2, k3, k4]; done)
              | (with_reducible apply l_passU
                 · simp only [go_sem, eq_self, Int.toNat_natCast, Int.reduceBNe, Int.reduceBEq, Int.reduceLT, Int.reduceLE, Int.reduceGT, Int.reduceGE, decide_true, decide_false, bne_self_eq_false, beq_self_eq_true, cond_true, cond_false, reduceIte, Nat.reduceEqDiff, Nat.reduceAdd, Nat.reduceMul, Nat.reduceSub, reduceCtorEq, k1, k2, k3, k4]; rfl)
              | (with_reducible apply l_gT
                 · simp only [go_sem, eq_self, Int.toNat_natCast, Int.reduceBNe, Int.reduceBEq, Int.reduceLT, Int.reduceLE, Int.reduceGT, Int.reduceGE, decide_true, decide_false, bne_self_eq_false, beq_self_eq_true, cond_true, cond_false, reduceIte, Nat.reduceEqDiff, Nat.reduceAdd, Nat.reduceMul, Nat.reduceSub, reduceCtorEq, k1, k2, k3, k4]; rfl)
              | (with_reducible apply l_gF
                 · simp only [go_sem, eq_self, Int.toNat_natCast, Int.reduceBNe, Int.reduceBEq, Int.reduceLT, Int.reduceLE, Int.reduceGT, Int.reduceGE, decide_true, decide_false, bne_self_eq_false, beq_self_eq_true, cond_true, cond_false, reduceIte, Nat.reduceEqDiff, Nat.reduceAdd, Nat.reduceMul, Nat.reduceSub, reduceCtorEq, k1, k2, k3, k4]; rfl)
              | (with_reducible apply c_true
                 · simp only [go_sem, eq_self, Int.toNat_natCast, Int.reduceBNe, Int.reduceBEq, Int.reduceLT, Int.reduceLE, Int.reduceGT, Int.reduceGE, decide_true, decide_false, bne_self_eq_false, beq_self_eq_true, cond_true, cond_false, reduceIte, Nat.reduceEqDiff, Nat.reduceAdd, Nat.reduceMul, Nat.reduceSub, reduceCtorEq, k1, k2, k3, k4]; done)
              | (with_reducible apply c_false
                 · simp only [go_sem, eq_self, Int.toNat_natCast, Int.reduceBNe, Int.reduceBEq, Int.reduceLT, Int.reduceLE, Int.reduceGT, Int.reduceGE, decide_true, decide_false, bne_self_eq_false, beq_self_eq_true, cond_true, cond_false, reduceIte, Nat.reduceEqDiff, Nat.reduceAdd, Nat.reduceMul, Nat.reduceSub, reduceCtorEq, k1, k2, k3, k4]; done)
              | (with_reducible apply c_cond
                 · simp only [go_sem, eq_self, Int.toNat_natCast, Int.reduceBNe, Int.reduceBEq, Int.reduceLT, Int.reduceLE, Int.reduceGT, Int.reduceGE, decide_true, decide_false, bne_self_eq_false, beq_self_eq_true, cond_true, cond_false, reduceIte, Nat.reduceEqDiff, Nat.reduceAdd, Nat.reduceMul, Nat.reduceSub, reduceCtorEq, k1, k2, k3, k4]; rfl)
              | (with_reducible refine l_call ?_ hb8 (CallP.ok (chk8 t i ht0 ht1 hpos hbig) _ _) ?_
                 · rfl)
              | intro hc)
            with_reducible apply hQ
            exact leaves_val rfl rfl rfl
          · have k3 : decide ((i : Int) ≤ 1024) = false := by simp; omega
            have k4 : decide ((i : Int) > 1024) = true := by simp; omega
            repeat' (first
              | (with_reducible refine c_seqb ?_)
              | (with_reducible refine c_seq ?_)
              | (with_reducible refine c_reg ?_)
              | (with_reducible refine l_nil ?_)
              | (with_reducible refine c_block ?_)
              | (with_reducible refine c_exitE ?_)
              | (with_reducible refine c_exit ?_
                 simp only [eq_self, if_true, Nat.reduceEqDiff, if_false])
              | (with_reducible apply l_op
                 · rfl
                 · simp only [go_sem, eq_self, Int.toNat_natCast, Int.reduceBNe, Int.reduceBEq, Int.reduceLT, Int.reduceLE, Int.reduceGT, Int.reduceGE, decide_true, decide_false, bne_self_eq_false, beq_self_eq_true, cond_true, cond_false, reduceIte, Nat.reduceEqDiff, Nat.reduceAdd, Nat.reduceMul, Nat.reduceSub, reduceCtorEq, k1, k2, k3, k4]; rfl
                 · first | trivial | (simp [go_sem, k1, k2, k3, k4]; done) | (simp [go_sem, k1, k2, k3, k4]; omega)
                 simp only [List.nil_append, List.cons_append])
              | (with_reducible apply l_do
                 · rfl
                 · simp only [go_sem, eq_self, Int.toNat_natCast, Int.reduceBNe, Int.reduceBEq, Int.reduceLT, Int.reduceLE, Int.reduceGT, Int.reduceGE, decide_true, decide_false, bne_self_eq_false, beq_self_eq_true, cond_true, cond_false, reduceIte, Nat.reduceEqDiff, Nat.reduceAdd, Nat.reduceMul, Nat.reduceSub, reduceCtorEq, k1, k2, k3, k4]; rfl
                 · first | trivial | (simp [go_sem, k1, k2, k3, k4]; done) | (simp [go_sem, k1, k2, k3, k4]; omega)
                 simp only [List.nil_append, List.cons_append])
              | (with_reducible refine c_ret ?_)
              | (with_reducible refine c_skip ?_)
              | (with_reducible apply l_take
                 · simp only [go_sem, eq_self, Int.toNat_natCast, Int.reduceBNe, Int.reduceBEq, Int.reduceLT, Int.reduceLE, Int.reduceGT, Int.reduceGE, decide_true, decide_false, bne_self_eq_false, beq_self_eq_true, cond_true, cond_false, reduceIte, Nat.reduceEqDiff, Nat.reduceAdd, Nat.reduceMul, Nat.reduceSub, reduceCtorEq, k1, k2, k3, k4]; done)
              | (with_reducible apply l_passT
                 · simp only [go_sem, eq_self, Int.toNat_natCast, Int.reduceBNe, Int.reduceBEq, Int.reduceLT, Int.reduceLE, Int.reduceGT, Int.reduceGE, decide_true, decide_false, bne_self_eq_false, beq_self_eq_true, cond_true, cond_false, reduceIte, Nat.reduceEqDiff, Nat.reduceAdd, Nat.reduceMul, Nat.reduceSub, reduceCtorEq, k1, k2, k3, k4]; done)
              | (with_reducible apply l_passF
                 · simp only [go_sem, eq_self, Int.toNat_natCast, Int.reduceBNe, Int.reduceBEq, Int.reduceLT, Int.reduceLE, Int.reduceGT, Int.reduceGE, decide_true, decide_false, bne_self_eq_false, beq_self_eq_true, cond_true, cond_false, reduceIte, Nat.reduceEqDiff, Nat.reduceAdd, Nat.reduceMul, Nat.reduceSub, reduceCtorEq, k1, k2, k3, k4]; done)
              | (with_reducible apply l_passU
                 · simp only [go_sem, eq_self, Int.toNat_natCast, Int.reduceBNe, Int.reduceBEq, Int.reduceLT, Int.reduceLE, Int.reduceGT, Int.reduceGE, decide_true, decide_false, bne_self_eq_false, beq_self_eq_true, cond_true, cond_false, reduceIte, Nat.reduceEqDiff, Nat.reduceAdd, Nat.reduceMul, Nat.reduceSub, reduceCtorEq, k1, k2, k3, k4]; rfl)
              | (with_reducible apply l_gT
                 · simp only [go_sem, eq_self, Int.toNat_natCast, Int.reduceBNe, Int.reduceBEq, Int.reduceLT, Int.reduceLE, Int.reduceGT, Int.reduceGE, decide_true, decide_false, bne_self_eq_false, beq_self_eq_true, cond_true, cond_false, reduceIte, Nat.reduceEqDiff, Nat.reduceAdd, Nat.reduceMul, Nat.reduceSub, reduceCtorEq, k1, k2, k3, k4]; rfl)
              | (with_reducible apply l_gF
                 · simp only [go_sem, eq_self, Int.toNat_natCast, Int.reduceBNe, Int.reduceBEq, Int.reduceLT, Int.reduceLE, Int.reduceGT, Int.reduceGE, decide_true, decide_false, bne_self_eq_false, beq_self_eq_true, cond_true, cond_false, reduceIte, Nat.reduceEqDiff, Nat.reduceAdd, Nat.reduceMul, Nat.reduceSub, reduceCtorEq, k1, k2, k3, k4]; rfl)
              | (with_reducible apply c_true
                 · simp only [go_sem, eq_self, Int.toNat_natCast, Int.reduceBNe, Int.reduceBEq, Int.reduceLT, Int.reduceLE, Int.reduceGT, Int.reduceGE, decide_true, decide_false, bne_self_eq_false, beq_self_eq_true, cond_true, cond_false, reduceIte, Nat.reduceEqDiff, Nat.reduceAdd, Nat.reduceMul, Nat.reduceSub, reduceCtorEq, k1, k2, k3, k4]; done)
              | (with_reducible apply c_false
                 · simp only [go_sem, eq_self, Int.toNat_natCast, Int.reduceBNe, Int.reduceBEq, Int.reduceLT, Int.reduceLE, Int.reduceGT, Int.reduceGE, decide_true, decide_false, bne_self_eq_false, beq_self_eq_true, cond_true, cond_false, reduceIte, Nat.reduceEqDiff, Nat.reduceAdd, Nat.reduceMul, Nat.reduceSub, reduceCtorEq, k1, k2, k3, k4]; done)
              | (with_reducible apply c_cond
                 · simp only [go_sem, eq_self, Int.toNat_natCast, Int.reduceBNe, Int.reduceBEq, Int.reduceLT, Int.reduceLE, Int.reduceGT, Int.reduceGE, decide_true, decide_false, bne_self_eq_false, beq_self_eq_true, cond_true, cond_false, reduceIte, Nat.reduceEqDiff, Nat.reduceAdd, Nat.reduceMul, Nat.reduceSub, reduceCtorEq, k1, k2, k3, k4]; rfl)
              | (with_reducible refine l_call ?_ hb8 (CallP.ok (chk8l t i (by omega)) _ _) ?_
                 · rfl)
              | intro hc)
            with_reducible apply hQ
            exact leaves_val rfl rfl rfl
#print axioms long3
end Go.Ai
