/- Steps that build: structs, arrays, slices; lengths. -/
import Derived.Test.YtgehagonolkhhaaGreatDoorAi6
import Derived.Laws.Tables
namespace Go.Ai
open Go

/-! ### build -/
def fillS (place : Nat → Option (Nat × Nat)) : List SV → List (Nat × SV) → Option (List SV × Bool)
  | cells, [] => some (cells, true)
  | cells, (i, x) :: rest =>
    match place i with
    | some (off, sz) => match fillS place (stOf cells off x.cells) rest with
      | some (l, s) => some (l, decide (x.flat = true ∧ x.cells.length = sz ∧ off + x.cells.length ≤ cells.length ∧ s = true))
      | none => none
    | none => none

theorem foldl_put (off : Nat) : ∀ (vs : List Value) (k : Nat) (cs : Array Value), off + k + vs.length ≤ cs.size →
    ((vs.zipIdx k).foldl (fun cs (p : Value × Nat) => cs.setIfInBounds (off + p.2) p.1) cs).toList = cs.toList.take (off + k) ++ vs ++ cs.toList.drop (off + k + vs.length)
  | [], k, cs, _ => by simp
  | v :: vs, k, cs, h => by
    simp only [List.zipIdx_cons, List.foldl_cons]
    simp only [List.length_cons] at h
    rw [foldl_put off vs (k + 1) _ (by simp; omega)]
    have hk : off + k < cs.toList.length := by simp; omega
    have h1 : (cs.setIfInBounds (off + k) v).toList = cs.toList.set (off + k) v := by simp
    have h2 : List.take (off + (k + 1)) (cs.toList.set (off + k) v) = cs.toList.take (off + k) ++ [v] := by
      rw [show off + (k + 1) = off + k + 1 by omega, List.take_succ_eq_append_getElem (by simpa using hk)]
      simp [List.take_set_of_le]
    have h3 : List.drop (off + (k + 1) + vs.length) (cs.toList.set (off + k) v) = cs.toList.drop (off + k + (vs.length + 1)) := by
      rw [List.drop_set_of_lt (by omega)]
      congr 1
      omega
    rw [h1, h2, h3]
    simp

def PartsR (w : World) (E : Env) : List (Nat × SV) → List (Nat × Value) → Prop
  | [], qs => qs = []
  | p :: ps, qs => ∃ q qs', qs = q :: qs' ∧ p.1 = q.1 ∧ RelV w E p.2 q.2 ∧ PartsR w E ps qs'

theorem fill_ok {w : World} {E : Env} {place : Nat → Option (Nat × Nat)} : ∀ {parts : List (Nat × SV)} {ps : List (Nat × Value)} {l cells : List SV} {s : Bool} {cs : Array Value},
    fillS place cells parts = some (l, s) → s = true → RelL w E cells cs.toList → PartsR w E parts ps →
    ∃ cs', Instr.fill place cs ps = some cs' ∧ RelL w E l cs'.toList
  | [], ps, l, cells, s, cs, h, _, hc, hp => by
    simp only [PartsR] at hp
    subst hp
    simp only [fillS, Option.some.injEq, Prod.mk.injEq] at h
    obtain ⟨rfl, _⟩ := h
    exact ⟨cs, rfl, hc⟩
  | (i, x) :: rest, ps, l, cells, s, cs, h, hs, hc, hp => by
    simp only [PartsR] at hp
    obtain ⟨⟨j, v⟩, ps, rfl, hij, hv, hp⟩ := hp
    simp only at hij hv
    subst hij
    · skip
      simp only [fillS] at h
      split at h
      · rename_i off sz hpl
        split at h
        · rename_i l' s' hf
          cases h
          obtain ⟨g1, g2, g3, g4⟩ := of_decide_eq_true hs
          have hx := cells_ok hv g1
          have hlen := hx.length
          have hclen := hc.length
          have hcs : off + v.cells.toList.length ≤ cs.size := by
            have : cs.toList.length = cs.size := by simp
            omega
          have hput := foldl_put off v.cells.toList 0 cs (by omega)
          have hnew : RelL w E (stOf cells off x.cells) (v.cells.zipIdx.foldl (fun cs (p : Value × Nat) => cs.setIfInBounds (off + p.2) p.1) cs).toList := by
            rw [← Array.foldl_toList, Array.toList_zipIdx, hput]
            simp only [Nat.add_zero, stOf]
            rw [hlen]
            exact ((hc.take off).append hx).append (hc.drop (off + x.cells.length))
          obtain ⟨cs', h1, h2⟩ := fill_ok hf g4 hnew hp
          refine ⟨cs', ?_, h2⟩
          have hsz : v.cells.size = sz := by rw [← g2, ← hlen]; simp
          have hle : ¬ (off + v.cells.size > cs.size) := by have : v.cells.toList.length = v.cells.size := by simp
                                                            omega
          simp only [Instr.fill, hpl, hsz]
          rw [hsz] at hle
          simp only [Bool.false_or, hle, ne_eq, not_true_eq_false, decide_false]
          exact h1
        · cases h
      · cases h

section
variable {P : Program} {T : Tab} {st : St}

theorem fieldsOf_places : ∀ {fs : List Field} {l : List (Nat × Nat × TypeId)}, fieldsOf P fs = some l →
    fs.mapM (fun f => (P.info? f.type).map fun i => (f.offset, i.size)) = some (l.map fun r => (r.1, r.2.1))
  | [], l, h => by simp only [fieldsOf, Option.some.injEq] at h; subst h; rfl
  | f :: fs, l, h => by
    simp only [fieldsOf] at h
    split at h
    · rename_i i l' h1 h2
      cases h
      simp [List.mapM_cons, h1, fieldsOf_places h2]
    · cases h

def placesOf (T : Tab) (t : TypeId) : Option (Nat → Option (Nat × Nat)) :=
  match T t with
  | some ⟨_, _, _, .struct fs _⟩ => some fun i => (fs.map fun r => (r.1, r.2.1))[i]?
  | some ⟨_, _, _, .array _ e⟩ => match T e with
    | some ie => some fun i => some (i * ie.size, ie.size)
    | none => none
  | _ => none

def stBuild (T : Tab) (st : St) (t : TypeId) (parts : Array (Nat × Operand)) : Option Res :=
  match T t, placesOf T t with
  | some i, some place => match fillS place (i.zero.map SV.v) (parts.toList.map fun p => (p.1, st.ev p.2)) with
    | some (l, s) => okRes st (.agg l) (s = true)
    | none => none
  | _, _ => none

theorem parts_ok {E : Env} {a : Act} {w : World} (hc : FrOK E w (lget st.σ) a.tmps) : ∀ (l : List (Nat × Operand)),
    PartsR w E (l.map fun p => (p.1, st.ev p.2)) (l.map fun p => (p.1, a.eval p.2))
  | [] => by simp [PartsR]
  | p :: l => by
    simp only [List.map_cons, PartsR]
    exact ⟨_, _, rfl, rfl, ev_ok hc p.2, parts_ok hc l⟩

theorem st_build {t : TypeId} {parts : Array (Nat × Operand)} {r : Res} (hr : stBuild T st t parts = some r) : StepOK P T st (.build t parts) r := by
  unfold stBuild at hr
  split at hr
  · rename_i i place hi hplace
    split at hr
    · rename_i l s hf
      refine .pure hr fun E a w q hc e hs => ?_
      obtain ⟨j, d, z, h1, h2, h3, _, _, h6, h7⟩ := ti_info (hc.tab t i hi)
      have hz : RelL w E (i.zero.map SV.v) z.cells.toList := by rw [h6]; exact RelL.vals _
      obtain ⟨cs', h8, h9⟩ := fill_ok hf hs hz (parts_ok hc.fr parts.toList)
      have hb : P.built t (parts.map fun (i, x) => (i, a.eval x)).toList = some cs' := by
        have hmap : (parts.map fun (i, x) => (i, a.eval x)).toList = parts.toList.map fun p => (p.1, a.eval p.2) := by simp
        rw [hmap]
        unfold placesOf at hplace
        rw [hi] at hplace
        obtain ⟨sz, by_, zz, dd⟩ := i
        cases dd with
        | struct fs q =>
          simp only [Option.some.injEq] at hplace
          subst hplace
          obtain ⟨flds, k1, k2, _⟩ := under_struct (hc.tab t _ hi) rfl
          simp only [Program.built, h1, k1, h3, fieldsOf_places k2]
          have : (fun x : Nat => (fs.map fun r => (r.1, r.2.1)).toArray[x]?) = fun i : Nat => (fs.map fun r => (r.1, r.2.1))[i]? := by funext x; simp
          rw [this]
          exact h8
        | array n e' =>
          have k1 := under_array (hc.tab t _ hi) rfl
          simp only at hplace
          cases hT : T e' with
          | none => simp [hT] at hplace
          | some ie =>
            simp only [hT, Option.some.injEq] at hplace
            subst hplace
            obtain ⟨j', _, _, m1, _, _, m4, _⟩ := ti_info (hc.tab e' ie hT)
            simp only [Program.built, h1, k1, h3, m1, m4]
            exact h8
        | _ => simp at hplace
      refine ⟨.agg cs', by simp only [execOp, e, Sem.run_bind, run_build w t _ cs' hb, Result.andThen_ok, Sem.run_pure], ?_⟩
      simp only [RelV]
      exact ⟨cs', rfl, h9⟩
    · cases hr
  · cases hr

/-! ### len -/
def stLen (T : Tab) (st : St) (ts : Array TypeId) (args : Array Operand) : Option Res :=
  match args.toList, ts.toList with
  | [x], [t] => match st.ev x, T t with
    | .v (.string s), some ⟨_, _, _, .string⟩ => okRes st (.v (.int .i64 s.size)) True
    | .s _ _ _ len _, some ⟨_, _, _, .slice _⟩ => okRes st (.v (.int .i64 len)) True
    | .xs _ _ l, some ⟨_, _, _, .slice _⟩ => okRes st (.v (.int .i64 l.length)) True
    | .v (.slice none 0 0), some ⟨_, _, _, .slice _⟩ => okRes st (.v (.int .i64 0)) True
    | _, _ => none
  | _, _ => none

theorem run_len {w : World} {c : Call} {a : Act} {o : Oper} {v : Value} (hb : c.callee = .builtin .len) (he : o.op = .call c)
    (h : (Builtin.len_ c.argTypes o.type (c.args.map a.eval)).run P w = .ok v w) : (execOp a.eval o).run P w = .ok (.value v) w := by
  simp [execOp, he, resolve, hb, invoke, builtin, h]

theorem st_len {c : Call} {r : Res} (hb : c.callee = .builtin .len) (hr : stLen T st c.argTypes c.args = some r) : StepOK P T st (.call c) r := by
  unfold stLen at hr
  split at hr
  · rename_i x t hx ht
    have hx' : c.args = #[x] := by rw [← Array.toArray_toList (xs := c.args), hx]
    have ht' : c.argTypes = #[t] := by rw [← Array.toArray_toList (xs := c.argTypes), ht]
    split at hr
    · rename_i s sz by_ z hz hi
      refine .pure hr fun E a w q hc e hs => ⟨_, run_len (v := .int .i64 s.size) hb e ?_, by simp [RelV]⟩
      have h1 := ev_ok hc.fr x
      rw [show Ai.ev (lget st.σ) x = _ from hz] at h1
      simp only [RelV] at h1
      simp [Builtin.len_, hx', ht', h1, run_underlying (under_string (hc.tab t _ hi) rfl), goInt]
    · rename_i sz n off len cap sz' by_ z e' hz hi
      refine .pure hr fun E a w q hc e hs => ⟨_, run_len (v := .int .i64 len) hb e ?_, by simp [RelV]⟩
      have h1 := ev_ok hc.fr x
      rw [show Ai.ev (lget st.σ) x = _ from hz] at h1
      simp only [RelV] at h1
      obtain ⟨b, o, cc, _, h1, _⟩ := h1
      simp [Builtin.len_, hx', ht', h1, run_underlying (under_slice (hc.tab t _ hi) rfl), goInt]
    · rename_i sz cap l sz' by_ z e' hz hi
      refine .pure hr fun E a w q hc e hs => ⟨_, run_len (v := .int .i64 l.length) hb e ?_, by simp [RelV]⟩
      have h1 := ev_ok hc.fr x
      rw [show Ai.ev (lget st.σ) x = _ from hz] at h1
      simp only [RelV] at h1
      obtain ⟨b, cc, h1, _⟩ := h1
      simp [Builtin.len_, hx', ht', h1, run_underlying (under_slice (hc.tab t _ hi) rfl), goInt]
    · rename_i sz' by_ z e' hz hi
      refine .pure hr fun E a w q hc e hs => ⟨_, run_len (v := .int .i64 0) hb e ?_, by simp [RelV]⟩
      have h1 := ev_ok hc.fr x
      rw [show Ai.ev (lget st.σ) x = _ from hz] at h1
      simp only [RelV] at h1
      simp [Builtin.len_, hx', ht', h1, run_underlying (under_slice (hc.tab t _ hi) rfl), goInt]
    · cases hr
  · cases hr
end
#print axioms st_build
#print axioms st_len
end Go.Ai
