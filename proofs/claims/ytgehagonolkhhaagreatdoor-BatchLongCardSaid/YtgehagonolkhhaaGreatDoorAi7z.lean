/- Steps: so many zeros appended to nil. -/
import Derived.Test.YtgehagonolkhhaaGreatDoorAi7n
namespace Go.Ai
open Go

section
variable {P : Program} {T : Tab} {st : St}

def stAppendZ (T : Tab) (st : St) (ts : Array TypeId) (args : Array Operand) : Option Res :=
  match ts.toList, args.toList with
  | [t, tx], [x, y] => match T t, T tx with
    | some ⟨_, _, _, .slice e⟩, some ⟨_, _, _, .int _⟩ => match T e with
      | some ie => match st.ev x, st.ev y with
        | .v (.slice none 0 0), .v (.int _ n) => if n = 0 then okRes st (.v (.slice none 0 0)) True
          else newRes st e (zcells ie.zero n.toNat) (fun k => .s ie.size k 0 n.toNat none) (0 < n ∧ n * ie.bytes ≤ 140737488355328 ∧ n ≤ 140737488355328 ∧ 0 < ie.size ∧ ie.zero.length = ie.size)
        | _, _ => none
      | none => none
    | _, _ => none
  | _, _ => none

theorem zeroCells_list {z : Array Value} (n : Nat) (hz : 0 < z.size) : (Builtin.zeroCells z n).toList = (List.replicate n z.toList).flatten := by
  unfold Builtin.zeroCells; exact zero_flat z n hz

theorem st_appendZ {c : Call} {r : Res} (hT : T.OK P) (hb : c.callee = .builtin .append) (hr : stAppendZ T st c.argTypes c.args = some r) : StepOK P T st (.call c) r := by
  unfold stAppendZ at hr
  split at hr
  · rename_i t tx x y htx hxy
    have hargs : c.args = #[x, y] := by rw [← Array.toArray_toList (xs := c.args), hxy]
    have hts : c.argTypes = #[t, tx] := by rw [← Array.toArray_toList (xs := c.argTypes), htx]
    split at hr
    · rename_i s1 s2 s3 e s4 s5 s6 ki hit hix
      have ht := under_slice (hT t _ hit) rfl
      have hk := under_int (hT tx _ hix) rfl
      split at hr
      · rename_i ie hie
        obtain ⟨j, jd, z, j1, j2, j3, j4, j5, j6, j7⟩ := ti_info (hT e ie hie)
        split at hr
        · rename_i k n hx hy
          have hv : ∀ (E : Env) (a : Act) (w : World), Ctx P T st E a w → a.eval x = .slice none 0 0 ∧ a.eval y = .int k n := by
            intro E a w hc
            have h1 := ev_ok hc.fr x
            rw [show Ai.ev (lget st.σ) x = _ from hx] at h1
            have h2 := ev_ok hc.fr y
            rw [show Ai.ev (lget st.σ) y = _ from hy] at h2
            simp only [RelV] at h1 h2
            exact ⟨h1, h2⟩
          split at hr
          · rename_i h0
            subst h0
            refine .pure hr fun E a w o hc he _ => ⟨.slice none 0 0, run_append hb he ?_, by simp [RelV]⟩
            obtain ⟨h1, h2⟩ := hv E a w hc
            have hw : IntKind.i64.wrap 0 = 0 := by decide
            rw [hargs, hts]
            simp [h1, h2, Builtin.append_, run_underlying ht, run_underlying hk, sizeOf, typeInfo, j1, asInt, asIntOf, hw]
          · rename_i h0
            refine .newD hr fun E a w o hc he hs => ?_
            obtain ⟨g1, g2, g3, g4, g5⟩ := hs
            obtain ⟨h1, h2⟩ := hv E a w hc
            have hzl : z.cells.size = j.size := by rw [j4, ← g5, ← j6]; simp
            have hw := wrap_i64 (n := n) (by omega) g3
            have hn : (n.toNat : Int) = n := Int.toNat_of_nonneg (by omega)
            have hcap : n.toNat ≤ grownCap w n.toNat 0 e := grownCap_ge _ _ _ _
            have hneg : ¬ n < 0 := by omega
            have hbig : ¬ (281474976710656 < n * (j.bytes : Int)) := by rw [j5]; omega
            have hnz : ¬ n.toNat = 0 := by omega
            have hnz' : ¬ n ≤ 0 := by omega
            have h48 : ¬ (281474976710656 < Builtin.nextslicecap n.toNat 0 * j.bytes) := by
              have : n.toNat * j.bytes ≤ 140737488355328 := by
                have : ((n.toNat * j.bytes : Nat) : Int) = n * ie.bytes := by rw [Int.natCast_mul, hn, j5]
                omega
              have := growslice_fits (need := n.toNat) (old := 0) (by omega) this
              omega
            have hsz : ¬ n.toNat * j.size = 0 := by rw [j4]; exact Nat.mul_ne_zero hnz (by omega)
            have hszz : ¬ j.size = 0 := by rw [j4]; omega
            refine ⟨.slice (some ⟨w.heap.size, 0, none⟩) n.toNat (grownCap w n.toNat 0 e), Builtin.zeroCells z.cells n.toNat ++ Builtin.zeroCells z.cells (grownCap w n.toNat 0 e - n.toNat), run_append hb he ?_, ?_, ?_⟩
            · rw [hargs, hts]
              simp [h1, h2, Builtin.append_, run_underlying ht, run_underlying hk, sizeOf, typeInfo, zeroValue, j1, j3, asInt, asIntOf, hw, hneg, hbig, hnz', h48, hsz, hszz, Question.forced, run_firstCells_none, newRow, grownCap, hn]
              intro hmax; exfalso; omega
            · refine ⟨(Builtin.zeroCells z.cells (grownCap w n.toNat 0 e - n.toNat)).toList.map SV.v, ?_⟩
              rw [Array.toList_append, zeroCells_list n.toNat (by omega), j6]
              exact (zcells_vals _ _).append (RelL.vals _)
            · simp only [RelV]
              refine ⟨w.heap.size, 0, _, by simp [Env.bind], rfl, .inr rfl, hcap, (fun _ h => by cases h), _, e, (0, 0), heap_alloc_new _ _, ?_⟩
              simp [Builtin.zeroCells, hzl, j4]
              rw [← Nat.add_mul]
              exact Nat.mul_le_mul_right _ (by omega)
        · cases hr
      · cases hr
    · cases hr
  · cases hr
end
#print axioms st_appendZ
end Go.Ai
