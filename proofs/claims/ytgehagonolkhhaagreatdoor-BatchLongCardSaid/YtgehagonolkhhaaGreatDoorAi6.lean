/- Steps on fields, elements, and on values that are built. -/
import Derived.Test.YtgehagonolkhhaaGreatDoorAi5
namespace Go.Ai
open Go

section
variable {P : Program} {T : Tab} {st : St}

/-! ### fieldAddr, field -/
def fieldOf (T : Tab) (t : TypeId) (f : Nat) : Option (Nat × Nat × TypeId) :=
  match T t with
  | some ⟨_, _, _, .struct fs _⟩ => fs[f]?
  | _ => none

theorem fieldOf_ok (hT : T.OK P) {t f off sz : Nat} {ty : TypeId} (h : fieldOf T t f = some (off, sz, ty)) :
    ∃ (flds : Array Field) (fd : Field) (i : TypeInfo), P.underlying t = some (.struct flds) ∧ flds[f]? = some fd ∧ fd.offset = off ∧ fd.type = ty ∧ P.info? ty = some i ∧ i.size = sz := by
  unfold fieldOf at h
  split at h
  · rename_i s b z fs q hi
    obtain ⟨flds, h1, h2, _⟩ := under_struct (hT t _ hi) rfl
    obtain ⟨fd, i, h3, h4, h5⟩ := fieldsOf_get h2 f _ h
    simp only [Prod.mk.injEq] at h5
    obtain ⟨rfl, rfl, rfl⟩ := h5
    exact ⟨flds, fd, i, h1, by simpa using h3, rfl, rfl, h4, rfl⟩
  · cases h

def stField (T : Tab) (st : St) (t : TypeId) (z : Operand) (f : Nat) : Option Res :=
  match fieldOf T t f with
  | some (off, _ + 1, _) =>
    match st.ev z with
    | .p n o => okRes st (.p n (o + off)) True
    | .pe l => okRes st (.pe (l.drop off)) True
    | _ => none
  | _ => none

theorem st_field {t : TypeId} {z : Operand} {f : Nat} {r : Res} (hr : stField T st t z f = some r) : StepOK P T st (.fieldAddr t z f) r := by
  unfold stField at hr
  split at hr
  · rename_i off sz ty hf
    have key : ∀ (hT : T.OK P) (w : World) (b o : Nat), (Instr.fieldAt t (.pointer (some ⟨b, o, none⟩)) f).run P w = .ok (.pointer (some ⟨b, o + off, none⟩)) w := by
      intro hT w b o
      obtain ⟨flds, fd, i, h1, h2, h3, h4, h5, h6⟩ := fieldOf_ok hT hf
      have hs : (sizeOf fd.type).run P w = .ok (sz + 1) w := by
        rw [h4]; simp [sizeOf, typeInfo, h5, h6]
      simp [Instr.fieldAt, run_underlying h1, h2, Instr.sureAddr, fieldPlace, hs, h3, Addr.add_mid]
    split at hr
    · rename_i n o hz
      refine .pure hr fun E a w q hc e _ => ?_
      have h1 := ev_ok hc.fr z
      rw [show Ai.ev (lget st.σ) z = _ from hz] at h1
      simp only [RelV] at h1
      obtain ⟨b, hb, h1⟩ := h1
      exact ⟨.pointer (some ⟨b, o + off, none⟩), by simp [execOp, e, h1, key hc.tab], by simp only [RelV]; exact ⟨b, hb, rfl⟩⟩
    · rename_i l hz
      refine .pure hr fun E a w q hc e _ => ?_
      have h1 := ev_ok hc.fr z
      rw [show Ai.ev (lget st.σ) z = _ from hz] at h1
      simp only [RelV] at h1
      obtain ⟨b, o, h1, hI, hcells⟩ := h1
      exact ⟨.pointer (some ⟨b, o + off, none⟩), by simp [execOp, e, h1, key hc.tab], by simp only [RelV]; exact ⟨b, o + off, rfl, hI, hcells.drop off⟩⟩
    · cases hr
  · cases hr

/-- A part of a list of cells. -/
def partOf (T : Tab) (t : TypeId) (l : List SV) (off : Nat) : Option SV :=
  match T t with
  | some i => if i.d.agg then some (.agg ((l.drop off).take i.size)) else l[off]?
  | none => none

theorem run_part {w : World} {E : Env} (hT : T.OK P) {t off : Nat} {l : List SV} {x : SV} (h : partOf T t l off = some x) {c : Array Value} (hl : RelL w E l c.toList) :
    ∃ v, (part t c off).run P w = .ok v w ∧ RelV w E x v := by
  unfold partOf at h
  split at h
  · rename_i i hi
    split at h
    · rename_i hd
      cases h
      refine ⟨.agg (c.extract off (off + i.size)), by simp [part, run_isAgg_ti (hT t i hi), hd, run_sizeOf_ti (hT t i hi)], ?_⟩
      simp only [RelV]
      refine ⟨_, rfl, ?_⟩
      have := (hl.drop off).take i.size
      rw [Array.toList_extract, List.extract_eq_take_drop]
      simpa using this
    · rename_i hd
      obtain ⟨v, h1, h2⟩ := hl.get off x h
      have h1' : c[off]? = some v := by simpa using h1
      exact ⟨v, by simp [part, run_isAgg_ti (hT t i hi), hd, h1'], h2⟩
  · cases h

def stFieldV (T : Tab) (st : St) (t : TypeId) (z : Operand) (f : Nat) : Option Res :=
  match fieldOf T t f, st.ev z with
  | some (off, _, ty), .agg l => match partOf T ty l off with
    | some x => okRes st x True
    | none => none
  | _, _ => none

theorem st_fieldV {t : TypeId} {z : Operand} {f : Nat} {r : Res} (hr : stFieldV T st t z f = some r) : StepOK P T st (.field t z f) r := by
  unfold stFieldV at hr
  split at hr
  · rename_i off sz ty l hf hz
    split at hr
    · rename_i x hx
      refine .pure hr fun E a w q hc e _ => ?_
      have h1 := ev_ok hc.fr z
      rw [show Ai.ev (lget st.σ) z = _ from hz] at h1
      simp only [RelV] at h1
      obtain ⟨c, h1, h2⟩ := h1
      obtain ⟨flds, fd, i, k1, k2, k3, k4, _⟩ := fieldOf_ok hc.tab hf
      obtain ⟨v, h3, h4⟩ := run_part hc.tab hx h2
      exact ⟨v, by simp [execOp, e, h1, Instr.field, run_underlying k1, k2, asAgg, k3, k4, h3], h4⟩
    · cases hr
  · cases hr

/-! ### indexAddr, index -/
def stIndexAddr (T : Tab) (st : St) (t : TypeId) (z i : Operand) : Option Res :=
  match T t, st.ev i with
  | some ⟨_, _, _, .slice e⟩, .v (.int _ j) => match T e with
    | some ie => match st.ev z with
      | .s _ n off len _ => okRes st (.p n (off + j.toNat * ie.size)) (0 ≤ j ∧ j < len)
      | .xs sz _ l => okRes st (.pe (l.getD j.toNat [])) (0 ≤ j ∧ j < l.length ∧ sz = ie.size)
      | _ => none
    | none => none
  | some ⟨_, _, _, .array m e⟩, .v (.int _ j) => match T e with
    | some ie => match st.ev z with
      | .p n off => okRes st (.p n (off + j.toNat * ie.size)) (0 ≤ j ∧ j < m)
      | .pe l => okRes st (.pe (l.drop (j.toNat * ie.size))) (0 ≤ j ∧ j < m)
      | _ => none
    | none => none
  | _, _ => none

theorem st_indexAddr {t : TypeId} {z i : Operand} {r : Res} (hr : stIndexAddr T st t z i = some r) : StepOK P T st (.indexAddr t z i) r := by
  unfold stIndexAddr at hr
  split at hr
  · rename_i s b zz e k j hi hj
    split at hr
    · rename_i ie hie
      split at hr
      · rename_i sz n off len cap hz
        refine .pure hr fun E a w q hc he hs => ?_
        have h1 := ev_ok hc.fr z
        rw [show Ai.ev (lget st.σ) z = _ from hz] at h1
        have h2 := ev_ok hc.fr i
        rw [show Ai.ev (lget st.σ) i = _ from hj] at h2
        simp only [RelV] at h1 h2
        obtain ⟨b', o, c, hb, h1, h0, hlen, _, _⟩ := h1
        have : o = off := by rcases h0 with h0 | h0; · omega
                             · exact h0
        subst this
        refine ⟨.pointer (some ⟨b', o + j.toNat * ie.size, none⟩), ?_, by simp only [RelV]; exact ⟨b', hb, rfl⟩⟩
        simp [execOp, he, Instr.indexAt, h1, h2, asIntOf, run_underlying (under_slice (hc.tab t _ hi) rfl), run_sizeOf_ti (hc.tab e _ hie), hs.1, hs.2, Addr.add_mid]
      · rename_i sz cap l hz
        refine .pure hr fun E a w q hc he hs => ?_
        have h1 := ev_ok hc.fr z
        rw [show Ai.ev (lget st.σ) z = _ from hz] at h1
        have h2 := ev_ok hc.fr i
        rw [show Ai.ev (lget st.σ) i = _ from hj] at h2
        simp only [RelV] at h1 h2
        obtain ⟨a', c, h1, hlen, _, h3⟩ := h1
        obtain ⟨hs1, hs2, rfl⟩ := hs
        rcases h3 with rfl | ⟨b', off, rfl, hI, _, h3⟩
        · simp at hs2; omega
        · have hlt : j.toNat < l.length := by omega
          have hg := h3.get j.toNat l[j.toNat] (List.getElem?_eq_getElem hlt)
          refine ⟨.pointer (some ⟨b', off + j.toNat * ie.size, none⟩), ?_, ?_⟩
          · simp [execOp, he, Instr.indexAt, h1, h2, asIntOf, run_underlying (under_slice (hc.tab t _ hi) rfl), run_sizeOf_ti (hc.tab e _ hie), hs1, hs2, Addr.add_mid]
          · simp only [RelV]
            refine ⟨b', _, rfl, hI, ?_⟩
            rw [List.getD_eq_getElem?_getD, List.getElem?_eq_getElem hlt]
            exact hg.2
      · cases hr
    · cases hr
  · rename_i s b zz m e k j hi hj
    split at hr
    · rename_i ie hie
      split at hr
      · rename_i n off hz
        refine .pure hr fun E a w q hc he hs => ?_
        have h1 := ev_ok hc.fr z
        rw [show Ai.ev (lget st.σ) z = _ from hz] at h1
        have h2 := ev_ok hc.fr i
        rw [show Ai.ev (lget st.σ) i = _ from hj] at h2
        simp only [RelV] at h1 h2
        obtain ⟨b', hb, h1⟩ := h1
        refine ⟨.pointer (some ⟨b', off + j.toNat * ie.size, none⟩), ?_, by simp only [RelV]; exact ⟨b', hb, rfl⟩⟩
        simp [execOp, he, Instr.indexAt, h1, h2, asIntOf, Instr.sureAddr, run_underlying (under_array (hc.tab t _ hi) rfl), run_sizeOf_ti (hc.tab e _ hie), hs.1, hs.2, Addr.add_mid]
      · rename_i l hz
        refine .pure hr fun E a w q hc he hs => ?_
        have h1 := ev_ok hc.fr z
        rw [show Ai.ev (lget st.σ) z = _ from hz] at h1
        have h2 := ev_ok hc.fr i
        rw [show Ai.ev (lget st.σ) i = _ from hj] at h2
        simp only [RelV] at h1 h2
        obtain ⟨b', off, h1, hI, h3⟩ := h1
        refine ⟨.pointer (some ⟨b', off + j.toNat * ie.size, none⟩), ?_, by simp only [RelV]; exact ⟨b', _, rfl, hI, h3.drop _⟩⟩
        simp [execOp, he, Instr.indexAt, h1, h2, asIntOf, Instr.sureAddr, run_underlying (under_array (hc.tab t _ hi) rfl), run_sizeOf_ti (hc.tab e _ hie), hs.1, hs.2, Addr.add_mid]
      · cases hr
    · cases hr
  · cases hr

/-- A string's byte. -/
def byteAt (s : ByteArray) (j : Int) : Int := ((s.data.toList.getD j.toNat 0).toNat : Int)

def stIndex (T : Tab) (st : St) (t : TypeId) (z i : Operand) : Option Res :=
  match T t, st.ev z, st.ev i with
  | some ⟨_, _, _, .array m e⟩, .agg l, .v (.int _ j) => match T e with
    | some ie => match partOf T e l (j.toNat * ie.size) with
      | some x => okRes st x (0 ≤ j ∧ j < m)
      | none => none
    | none => none
  | some ⟨_, _, _, .string⟩, .v (.string s), .v (.int _ j) => okRes st (.v (.int .u8 (byteAt s j))) (0 ≤ j ∧ j < s.size)
  | _, _, _ => none

theorem st_index {t : TypeId} {z i : Operand} {r : Res} (hr : stIndex T st t z i = some r) : StepOK P T st (.index t z i) r := by
  unfold stIndex at hr
  split at hr
  · rename_i s b zz m e l k j hi hz hj
    split at hr
    · rename_i ie hie
      split at hr
      · rename_i x hx
        refine .pure hr fun E a w q hc he hs => ?_
        have h1 := ev_ok hc.fr z
        rw [show Ai.ev (lget st.σ) z = _ from hz] at h1
        have h2 := ev_ok hc.fr i
        rw [show Ai.ev (lget st.σ) i = _ from hj] at h2
        simp only [RelV] at h1 h2
        obtain ⟨c, h1, h3⟩ := h1
        obtain ⟨v, h4, h5⟩ := run_part hc.tab hx h3
        exact ⟨v, by simp [execOp, he, Instr.index, h1, h2, asIntOf, run_underlying (under_array (hc.tab t _ hi) rfl), run_sizeOf_ti (hc.tab e _ hie), hs.1, hs.2, h4], h5⟩
      · cases hr
    · cases hr
  · rename_i s' b zz s k j hi hz hj
    refine .pure hr fun E a w q hc he hs => ⟨.int .u8 (byteAt s j), ?_, by simp [RelV]⟩
    have h1 := ev_ok hc.fr z
    rw [show Ai.ev (lget st.σ) z = _ from hz] at h1
    have h2 := ev_ok hc.fr i
    rw [show Ai.ev (lget st.σ) i = _ from hj] at h2
    simp only [RelV] at h1 h2
    have hlt : j.toNat < s.size := by omega
    have hget : s[j.toNat]? = some s[j.toNat] := getElem?_pos s j.toNat hlt
    have hb : byteAt s j = (s[j.toNat].toNat : Int) := by
      unfold byteAt
      rw [List.getD_eq_getElem?_getD]
      have : s.data.toList[j.toNat]? = some s[j.toNat] := by
        rw [Array.getElem?_toList]
        exact Array.getElem?_eq_getElem hlt
      rw [this]; rfl
    simp [execOp, he, Instr.index, h1, h2, asIntOf, run_underlying (under_string (hc.tab t _ hi) rfl), hs.1, hget, hb]
  · cases hr
end
#print axioms st_index
#print axioms st_indexAddr
end Go.Ai
