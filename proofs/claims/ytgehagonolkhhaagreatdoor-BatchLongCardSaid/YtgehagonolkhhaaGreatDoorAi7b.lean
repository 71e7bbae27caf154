/- Steps that make and cut slices. -/
import Derived.Test.YtgehagonolkhhaaGreatDoorAi7
import Derived.Deep.AppendSrc
namespace Go.Ai
open Go

section
variable {P : Program} {T : Tab} {st : St}

/-! ### buildSlice -/
def zcells (z : List Value) : Nat → List SV
  | 0 => []
  | n + 1 => z.map SV.v ++ zcells z n

theorem zcells_length (z : List Value) (n : Nat) : (zcells z n).length = n * z.length := by
  induction n with
  | zero => simp [zcells]
  | succ n ih => simp [zcells, ih, Nat.add_mul]; omega

theorem zcells_vals {w : World} {E : Env} (z : List Value) : ∀ n, RelL w E (zcells z n) ((List.replicate n z).flatten)
  | 0 => by simp [zcells, RelL]
  | n + 1 => by
    simp only [zcells, List.replicate_succ, List.flatten_cons]
    exact (RelL.vals z).append (zcells_vals z n)

theorem zero_flat (z : Array Value) (n : Nat) (_hz : 0 < z.size) : ((Array.range (n * z.size)).map (fun i => z[i % z.size]!)).toList = (List.replicate n z.toList).flatten := by
  induction n with
  | zero => simp
  | succ n ih =>
    have h1 : (Array.range ((n + 1) * z.size)).toList = (Array.range (n * z.size)).toList ++ (List.range z.size).map (fun j => n * z.size + j) := by
      simp only [Array.toList_range]
      rw [show (n + 1) * z.size = n * z.size + z.size by rw [Nat.add_mul]; omega, List.range_add]
    rw [Array.toList_map, h1, List.map_append, ← Array.toList_map, ih, List.map_map, List.replicate_succ']
    simp only [List.flatten_append, List.flatten_cons, List.flatten_nil, List.append_nil, List.append_cancel_left_eq]
    apply List.ext_getElem
    · simp
    · intro i h2 h3
      have hi : i < z.size := by simpa using h3
      simp only [List.getElem_map, List.getElem_range, Function.comp_apply]
      have : (n * z.size + i) % z.size = i := by rw [Nat.mul_comm, Nat.mul_add_mod]; exact Nat.mod_eq_of_lt hi
      rw [this]
      simp [hi]

def stBuildSlice (T : Tab) (st : St) (t : TypeId) (len : Nat) (parts : Array (Nat × Operand)) : Option Res :=
  match T t with
  | some ⟨_, _, _, .slice e⟩ => match T e with
    | some ie => match fillS (fun i => some (i * ie.size, ie.size)) (zcells ie.zero len) (parts.toList.map fun p => (p.1, st.ev p.2)) with
      | some (l, s) => newRes st e l (fun n => .s ie.size n 0 len (some len)) (s = true ∧ 0 < ie.size ∧ ie.zero.length = ie.size ∧ len * ie.size ≤ 16777216)
      | none => none
    | none => none
  | _ => none

theorem fillS_length {place : Nat → Option (Nat × Nat)} : ∀ {parts : List (Nat × SV)} {cells l : List SV} {s : Bool}, fillS place cells parts = some (l, s) → s = true → l.length = cells.length
  | [], cells, l, s, h, _ => by simp only [fillS, Option.some.injEq, Prod.mk.injEq] at h; rw [← h.1]
  | (i, x) :: rest, cells, l, s, h, hs => by
    simp only [fillS] at h
    split at h
    · split at h
      · rename_i l' s' hf
        cases h
        obtain ⟨g1, g2, g3, g4⟩ := of_decide_eq_true hs
        have := fillS_length hf g4
        rw [this]
        simp only [stOf, List.length_append, List.length_take, List.length_drop]
        omega
      · cases h
    · cases h

theorem st_buildSlice {t : TypeId} {len : Nat} {parts : Array (Nat × Operand)} {r : Res} (hr : stBuildSlice T st t len parts = some r) : StepOK P T st (.buildSlice t len parts) r := by
  unfold stBuildSlice at hr
  split at hr
  · rename_i s b zz e hi
    split at hr
    · rename_i ie hie
      split at hr
      · rename_i l s' hf
        refine .new hr fun E a w q hc he hs => ?_
        obtain ⟨hs1, hs2, hs3, hs4⟩ := hs
        obtain ⟨z, hz1, hz2⟩ := run_zero_ti (hc.tab e ie hie) w
        have hzs : z.cells.size = ie.size := by rw [← hs3, ← hz2]; simp
        have hcells : RelL w E (zcells ie.zero len) ((Array.range (len * ie.size)).map (fun i => z.cells[i % z.cells.size]!)).toList := by
          rw [← hzs, zero_flat z.cells len (by rw [hzs]; exact hs2), hz2]
          exact zcells_vals _ _
        obtain ⟨cs', h8, h9⟩ := fill_ok hf hs1 hcells (parts_ok hc.fr parts.toList)
        refine ⟨.slice (some ⟨w.heap.size, 0, none⟩) len len, cs', ?_, h9, ?_⟩
        · have hmap : (parts.map fun (i, x) => (i, a.eval x)).toList = parts.toList.map fun p => (p.1, a.eval p.2) := by simp
          have hgt : ¬ len * ie.size > 2 ^ 24 := by omega
          by_cases h0 : len * ie.size = 0
          · rw [h0] at h8
            have e0 : ∀ g : Nat → Value, (Array.range 0).map g = #[] := by intro g; apply Array.ext'; simp
            rw [e0] at h8
            simp only [execOp, he, Instr.buildSlice, Sem.run_bind, run_underlying (under_slice (hc.tab t _ hi) rfl), Result.andThen_ok, run_sizeOf_ti (hc.tab e ie hie), hgt, h0, if_true, e0, if_false, Sem.run_pure, hmap, h8, newRow, newObj, Sem.run]
            rfl
          · simp only [execOp, he, Instr.buildSlice, Sem.run_bind, run_underlying (under_slice (hc.tab t _ hi) rfl), Result.andThen_ok, run_sizeOf_ti (hc.tab e ie hie), hgt, h0, if_false, hz1, Sem.run_pure, hmap, h8, newRow, newObj, Sem.run]
            rfl
        · have hlen : cs'.size = len * ie.size := by
            have := h9.length
            rw [fillS_length hf hs1, zcells_length, hs3] at this
            simpa using this
          simp only [RelV, Env.bind, if_true]
          refine ⟨_, 0, len, rfl, rfl, .inr rfl, Nat.le_refl _, fun k hk => (Option.some.inj hk).symm ▸ rfl, ?_⟩
          exact ⟨cs', e, (0, 0), heap_alloc_new _ _, by omega⟩
      · cases hr
    · cases hr
  · cases hr

/-! ### makeSlice -/
def stMake (T : Tab) (st : St) (t : TypeId) (l c : Operand) : Option Res :=
  match T t, st.ev l, st.ev c with
  | some ⟨_, _, _, .slice e⟩, .v (.int _ L), .v (.int _ C) => match T e with
    | some ie => newRes st e (zcells ie.zero C.toNat) (fun n => .s ie.size n 0 L.toNat (some C.toNat))
        (0 ≤ L ∧ L ≤ C ∧ C * ie.bytes ≤ 140737488355328 ∧ C ≤ 140737488355328 ∧ 0 < ie.size ∧ ie.zero.length = ie.size)
    | none => none
  | _, _, _ => none

theorem wrap_i64 {n : Int} (h0 : 0 ≤ n) (h : n ≤ 140737488355328) : IntKind.i64.wrap n = n := by
  simp only [IntKind.wrap, IntKind.bits, IntKind.signed]
  simp
  omega

theorem st_make {t : TypeId} {l c : Operand} {r : Res} (hr : stMake T st t l c = some r) : StepOK P T st (.makeSlice t l c) r := by
  unfold stMake at hr
  split at hr
  · rename_i s b zz e k L k' C hi hL hC
    split at hr
    · rename_i ie hie
      refine .new hr fun E a w q hc he hs => ?_
      obtain ⟨g1, g2, g3, g4, g5, g6⟩ := hs
      have h1 := ev_ok hc.fr l
      rw [show Ai.ev (lget st.σ) l = _ from hL] at h1
      have h2 := ev_ok hc.fr c
      rw [show Ai.ev (lget st.σ) c = _ from hC] at h2
      simp only [RelV] at h1 h2
      obtain ⟨z, hz1, hz2⟩ := run_zero_ti (hc.tab e ie hie) w
      obtain ⟨j, hj1, hj2, _⟩ := run_info_ti (hc.tab e ie hie) w
      have hzs : z.cells.size = ie.size := by rw [← g6, ← hz2]; simp
      have hwL := wrap_i64 g1 (by omega)
      have hwC := wrap_i64 (n := C) (by omega) g4
      have hcells : RelL w E (zcells ie.zero C.toNat) ((Array.range (C.toNat * ie.size)).map (fun i => z.cells[i % z.cells.size]!)).toList := by
        rw [← hzs, zero_flat z.cells C.toNat (by omega), hz2]
        exact zcells_vals _ _
      refine ⟨.slice (some ⟨w.heap.size, 0, none⟩) L.toNat C.toNat, (Array.range (C.toNat * ie.size)).map (fun i => z.cells[i % z.cells.size]!), ?_, hcells, ?_⟩
      · have hlarge : ¬ ((j.bytes : Int) * C > 281474976710656) := by rw [hj2, Int.mul_comm]; omega
        have hneg : ¬ (C < 0) := by omega
        have hnegL : ¬ (L < 0) := by omega
        have hLC : ¬ (L > C) := by omega
        have hask : ∀ n, (askRoom n).run P w = .ok () w := by
          intro n; unfold askRoom; split <;> simp [mark, Sem.run]
        by_cases h0 : C.toNat * ie.size = 0
        · simp [execOp, he, Instr.makeSlice, run_underlying (under_slice (hc.tab t _ hi) rfl), h1, h2, asInt, asIntOf, hj1, hwL, hwC, hlarge, hneg, hnegL, hLC, run_sizeOf_ti (hc.tab e ie hie), h0, newRow, newObj, Sem.run, -Int.not_lt, -gt_iff_lt]
          have e0 : Array.range 0 = #[] := by apply Array.ext'; simp
          rw [e0]; simp
        · simp [execOp, he, Instr.makeSlice, run_underlying (under_slice (hc.tab t _ hi) rfl), h1, h2, asInt, asIntOf, hj1, hwL, hwC, hlarge, hneg, hnegL, hLC, run_sizeOf_ti (hc.tab e ie hie), h0, hz1, newRow, newObj, Sem.run, -Int.not_lt, -gt_iff_lt]
      · simp only [RelV, Env.bind, if_true]
        refine ⟨_, 0, C.toNat, rfl, rfl, .inr rfl, by omega, fun k hk => (Option.some.inj hk).symm ▸ rfl, ?_⟩
        exact ⟨_, e, (0, 0), heap_alloc_new _ _, by simp⟩
    · cases hr
  · cases hr
end
#print axioms st_buildSlice
#print axioms st_make
end Go.Ai
