/- Steps: clear, and the length of a map. -/
import Derived.Test.YtgehagonolkhhaaGreatDoorAi7m
namespace Go.Ai
open Go

section
variable {P : Program} {T : Tab} {st : St}

/-- Lengths, of maps too. -/
def stLen2 (T : Tab) (st : St) (ts : Array TypeId) (args : Array Operand) : Option Res :=
  match stLen T st ts args with
  | some r => some r
  | none => match args.toList, ts.toList with
    | [x], [t] => match T t with
      | some ⟨_, _, _, .map _ _⟩ => match st.ev x with
        | .m n => match blkOf st.H (st.ev x) with
          | some ⟨_, _, some l⟩ => okRes st (.v (.int .i64 l.length)) True
          | _ => none
        | .v (.map none) => okRes st (.v (.int .i64 0)) True
        | _ => none
      | _ => none
    | _, _ => none

theorem map_obj {E : Env} {a : Act} {w : World} (hc : Ctx P T st E a w) {x : Operand} {n : Nat} {bt : TypeId} {bc : List SV} {l : List (Value × Value)} (hx : st.ev x = .m n) (hblk : hget st.H n = some ⟨bt, bc, some l⟩) :
    ∃ g es c, E.ι n = some g ∧ a.eval x = .map (some g) ∧ w.heap[g]? = some (.map es c) ∧ es.toList.map (fun e => (e.key, e.val)) = l := by
  have h1 := ev_ok hc.fr x
  rw [show Ai.ev (lget st.σ) x = _ from hx] at h1
  simp only [RelV] at h1
  obtain ⟨g, e1, h1⟩ := h1
  obtain ⟨g', o, f1, _, f3, f4, _⟩ := hc.hp.blk n _ hblk
  rw [e1] at f1; cases f1
  simp only [ObjIs] at f4
  obtain ⟨es, c, rfl, f5⟩ := f4
  exact ⟨g, es, c, e1, h1, f3, f5⟩

theorem st_len2 {c : Call} {r : Res} (hb : c.callee = .builtin .len) (hr : stLen2 T st c.argTypes c.args = some r) : StepOK P T st (.call c) r := by
  unfold stLen2 at hr
  split at hr
  · rename_i r' h; cases hr; exact st_len hb h
  · split at hr
    · rename_i x t hx ht
      have hx' : c.args = #[x] := by rw [← Array.toArray_toList (xs := c.args), hx]
      have ht' : c.argTypes = #[t] := by rw [← Array.toArray_toList (xs := c.argTypes), ht]
      split at hr
      · rename_i s1 s2 s3 kt e hit
        split at hr
        · rename_i n hm
          split at hr
          · rename_i bt bc l hblk
            rw [hm] at hblk; simp only [blkOf] at hblk
            refine .pure hr fun E a w q hc he hs => ⟨_, run_len (v := .int .i64 l.length) hb he ?_, by simp [RelV]⟩
            obtain ⟨g, es, cl, _, h1, h2, h3⟩ := map_obj hc hm hblk
            have : es.size = l.length := by rw [← h3]; simp
            simp [Builtin.len_, hx', ht', h1, run_underlying (under_map (hc.tab t _ hit) rfl), MapKept.run_getObj_map h2, goInt, this]
          · cases hr
        · rename_i hm
          refine .pure hr fun E a w q hc he hs => ⟨_, run_len (v := .int .i64 0) hb he ?_, by simp [RelV]⟩
          have h1 := ev_ok hc.fr x
          rw [show Ai.ev (lget st.σ) x = _ from hm] at h1
          simp only [RelV] at h1
          simp [Builtin.len_, hx', ht', h1, run_underlying (under_map (hc.tab t _ hit) rfl), goInt]
        · cases hr
      · cases hr
    · cases hr

def stClear (T : Tab) (st : St) (ts : Array TypeId) (args : Array Operand) : Option Res :=
  match args.toList, ts.toList with
  | [x], [t] => match T t with
    | some ⟨_, _, _, .slice e⟩ => match T e, st.ev x with
      | some _, .v (.slice none 0 0) => okRes st (.tup []) True
      | some ie, .s z n off len _ => match blkOf st.H (st.ev x) with
        | some ⟨bt, bc, none⟩ => some ⟨.tup [], [(n, some ⟨bt, stOf bc off (zcells ie.zero len), none⟩)], st.nx,
            decide (z = ie.size ∧ ie.zero.length = ie.size ∧ 0 < ie.size ∧ allOne (zcells ie.zero len) = true ∧ off + len * ie.size ≤ bc.length)⟩
        | _ => none
      | _, _ => none
    | some ⟨_, _, _, .map _ _⟩ => match st.ev x with
      | .v (.map none) => okRes st (.tup []) True
      | .m n => match blkOf st.H (st.ev x) with
        | some ⟨bt, _, some _⟩ => some ⟨.tup [], [(n, some ⟨bt, [], some []⟩)], st.nx, decide True⟩
        | _ => none
      | _ => none
    | _ => none
  | _, _ => none

theorem st_clear {c : Call} {r : Res} (hT : T.OK P) (hb : c.callee = .builtin .clear) (hr : stClear T st c.argTypes c.args = some r) : StepOK P T st (.call c) r := by
  have run_it : ∀ {w w' : World} {a : Act} {o : Oper} {v : Value}, o.op = .call c → (Builtin.clear_ c.argTypes o.type (c.args.map a.eval)).run P w = .ok v w' → (execOp a.eval o).run P w = .ok (.value v) w' := by
    intro w w' a o v he h
    simp [execOp, he, resolve, hb, invoke, builtin, h]
  have htup : ∀ (w : World) (E : Env), RelV w E (.tup []) (.tuple #[]) := by intro w E; simp only [RelV]; exact ⟨#[], rfl, by simp [RelL]⟩
  unfold stClear at hr
  split at hr
  · rename_i x t hx ht
    have hx' : c.args = #[x] := by rw [← Array.toArray_toList (xs := c.args), hx]
    have ht' : c.argTypes = #[t] := by rw [← Array.toArray_toList (xs := c.argTypes), ht]
    split at hr
    · rename_i s1 s2 s3 e hit
      have hu := under_slice (hT t _ hit) rfl
      split at hr
      · rename_i ie hie hz
        refine .pure hr fun E a w q hc he hs => ⟨.tuple #[], run_it he ?_, htup _ _⟩
        have h1 := ev_ok hc.fr x
        rw [show Ai.ev (lget st.σ) x = _ from hz] at h1
        simp only [RelV] at h1
        simp [Builtin.clear_, hx', ht', h1, run_underlying hu]
      · rename_i ie z n off len cap hie hz
        split at hr
        · rename_i bt bc hblk
          rw [hz] at hblk; simp only [blkOf] at hblk
          refine .put hblk hr fun E a w o hc he hs => ?_
          obtain ⟨rfl, g1, g2, g3, g4⟩ := hs
          have h1 := ev_ok hc.fr x
          rw [show Ai.ev (lget st.σ) x = _ from hz] at h1
          simp only [RelV] at h1
          obtain ⟨b, o', k, e1, h1, e2, e3, _, e5⟩ := h1
          by_cases h0 : len = 0
          · subst h0
            refine ⟨.tuple #[], w, run_it he ?_, ?_, htup _ _⟩
            · simp [Builtin.clear_, hx', ht', h1, run_underlying hu]
            · simp only [zcells]
              rw [stOf_nil, heap_set_self hblk]; exact .refl hc.hp hc.en
          · have hoff : o' = off := by
              rcases e2 with e2 | e2
              · omega
              · exact e2
            subst hoff
            obtain ⟨zv, k1, k2⟩ := run_zero_ti (hT e ie hie) w
            have hzs : zv.cells.size = ie.size := by rw [← g1, ← k2]; simp
            have hzl : (Builtin.zeroCells zv.cells len).toList = (List.replicate len ie.zero).flatten := by
              unfold Builtin.zeroCells
              rw [zero_flat zv.cells len (by omega), k2]
            have hrel : RelL w E (zcells ie.zero len) (Builtin.zeroCells zv.cells len).toList := by rw [hzl]; exact zcells_vals _ _
            obtain ⟨w', w1, w2, w3⟩ := store_blk (P := P) (off := o') (l := stOf bc o' (zcells ie.zero len)) hc.hp hc.en hblk e1 hrel g3 (by
              obtain ⟨cs, ty, fz, r1, r2⟩ := e5
              refine ⟨cs, ty, fz, r1, ?_⟩
              rw [zcells_length, g1]
              have : len * ie.size ≤ k * ie.size := Nat.mul_le_mul_right _ e3
              omega) (by omega) (.inr rfl)
            refine ⟨.tuple #[], w', run_it he ?_, w2, htup _ _⟩
            simp [Builtin.clear_, hx', ht', h1, run_underlying hu, h0, k1, w1]
        · cases hr
      · cases hr
    · rename_i s1 s2 s3 kt e hit
      have hu := under_map (hT t _ hit) rfl
      split at hr
      · rename_i hz
        refine .pure hr fun E a w q hc he hs => ⟨.tuple #[], run_it he ?_, htup _ _⟩
        have h1 := ev_ok hc.fr x
        rw [show Ai.ev (lget st.σ) x = _ from hz] at h1
        simp only [RelV] at h1
        simp [Builtin.clear_, hx', ht', h1, run_underlying hu]
      · rename_i n hz
        split at hr
        · rename_i bt bc l hblk
          rw [hz] at hblk; simp only [blkOf] at hblk
          refine .put hblk hr fun E a w o hc he hs => ?_
          obtain ⟨g, es, cl, e1, h1, h2, h3⟩ := map_obj hc hz hblk
          refine ⟨.tuple #[], { w with heap := w.heap.setIfInBounds g (.map #[] cl) }, run_it he ?_, post_setMap hc.hp hc.en hblk e1 rfl, htup _ _⟩
          simp [Builtin.clear_, hx', ht', h1, run_underlying hu, MapKept.run_getObj_map h2, MapKept.run_setObj_map _ h2]
        · cases hr
      · cases hr
    · cases hr
  · cases hr
end
#print axioms st_clear
#print axioms st_len2
end Go.Ai
