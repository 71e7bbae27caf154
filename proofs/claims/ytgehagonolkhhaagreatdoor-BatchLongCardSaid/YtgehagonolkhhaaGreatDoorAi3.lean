/- The table of types that symbolic operations go by, and the operations' laws. -/
import Derived.Test.YtgehagonolkhhaaGreatDoorAi2
namespace Go.Ai
open Go

/-! ### The table of types -/
inductive TD where
  | struct (fs : List (Nat × Nat × TypeId)) (eq : Bool)
  | array (n : Nat) (e : TypeId)
  | slice (e : TypeId)
  | int (k : IntKind)
  | bool
  | string
  | ptr (e : TypeId)
  | map (k e : TypeId)
  | func
  | uptr
  | iface
  | other

structure TI where
  size : Nat
  bytes : Nat
  zero : List Value
  d : TD

def fieldsOf (P : Program) : List Field → Option (List (Nat × Nat × TypeId))
  | [] => some []
  | f :: fs => match P.info? f.type, fieldsOf P fs with
    | some i, some l => some ((f.offset, i.size, f.type) :: l)
    | _, _ => none

theorem fieldsOf_get {P : Program} : ∀ {fs : List Field} {l : List (Nat × Nat × TypeId)}, fieldsOf P fs = some l → ∀ (k : Nat) (r : Nat × Nat × TypeId), l[k]? = some r →
    ∃ f i, fs[k]? = some f ∧ P.info? f.type = some i ∧ r = (f.offset, i.size, f.type)
  | [], l, h, k, r, hr => by simp only [fieldsOf, Option.some.injEq] at h; subst h; simp at hr
  | f :: fs, l, h, k, r, hr => by
    simp only [fieldsOf] at h
    split at h
    · rename_i i l' h1 h2
      cases h
      cases k with
      | zero => simp at hr; exact ⟨f, i, rfl, h1, hr.symm⟩
      | succ k => simpa using fieldsOf_get h2 k r (by simpa using hr)
    · cases h

def tdOf (P : Program) (t : TypeId) : TypeDesc → Option TD
  | .struct fs => (fieldsOf P fs.toList).map fun l => .struct l (fs.toList.all (fun f => f.name != "_") && !P.stoodInHeld t && !P.eqGuardType P.depth t)
  | .array n e => some (.array n e)
  | .slice e => some (.slice e)
  | .int k => some (.int k)
  | .bool => some .bool
  | .string => some .string
  | .pointer e => some (.ptr e)
  | .map k e => some (.map k e)
  | .func _ _ _ => some .func
  | .unsafePointer => some .uptr
  | .interface _ => some .iface
  | _ => some .other

def aggV : Value → Bool
  | .agg _ => true
  | _ => false

def tiOf (P : Program) (t : TypeId) : Option TI :=
  match P.info? t, P.underlying t with
  | some i, some d => match i.zero, tdOf P t d with
    | some z, some td => if aggV z = d.isRow then some ⟨i.size, i.bytes, z.cells.toList, td⟩ else none
    | _, _ => none
  | _, _ => none

abbrev Tab := TypeId → Option TI
def Tab.OK (P : Program) (T : Tab) : Prop := ∀ t i, T t = some i → tiOf P t = some i

section
variable {P : Program} {t : TypeId} {i : TI}

theorem ti_info (h : tiOf P t = some i) : ∃ j d z, P.info? t = some j ∧ P.underlying t = some d ∧ j.zero = some z ∧ j.size = i.size ∧ j.bytes = i.bytes ∧ z.cells.toList = i.zero ∧ tdOf P t d = some i.d := by
  unfold tiOf at h
  split at h
  · rename_i j d h1 h2
    split at h
    · rename_i z td h3 h4
      split at h
      · cases h
        exact ⟨j, d, z, h1, h2, h3, rfl, rfl, rfl, h4⟩
      · cases h
    · cases h
  · cases h

theorem run_sizeOf_ti (h : tiOf P t = some i) (w : World) : (sizeOf t).run P w = .ok i.size w := by
  obtain ⟨j, d, z, h1, _, _, h4, _⟩ := ti_info h
  simp [sizeOf, typeInfo, h1, h4]

theorem run_zero_ti (h : tiOf P t = some i) (w : World) : ∃ z : Value, (zeroValue t).run P w = .ok z w ∧ z.cells.toList = i.zero := by
  obtain ⟨j, d, z, h1, _, h3, _, _, h6, _⟩ := ti_info h
  exact ⟨z, by simp [zeroValue, typeInfo, h1, h3], h6⟩

theorem run_info_ti (h : tiOf P t = some i) (w : World) : ∃ j : TypeInfo, (typeInfo t).run P w = .ok j w ∧ j.bytes = i.bytes ∧ j.size = i.size := by
  obtain ⟨j, d, z, h1, _, h3, h4, h5, _⟩ := ti_info h
  exact ⟨j, by simp [typeInfo, h1], h5, h4⟩

theorem under_slice {e : TypeId} (h : tiOf P t = some i) (hd : i.d = .slice e) : P.underlying t = some (.slice e) := by
  obtain ⟨j, d, z, _, h2, _, _, _, _, h7⟩ := ti_info h
  rw [hd] at h7
  cases d <;> simp_all [tdOf]
theorem under_array {n : Nat} {e : TypeId} (h : tiOf P t = some i) (hd : i.d = .array n e) : P.underlying t = some (.array n e) := by
  obtain ⟨j, d, z, _, h2, _, _, _, _, h7⟩ := ti_info h
  rw [hd] at h7
  cases d <;> simp_all [tdOf]
theorem under_int {k : IntKind} (h : tiOf P t = some i) (hd : i.d = .int k) : P.underlying t = some (.int k) := by
  obtain ⟨j, d, z, _, h2, _, _, _, _, h7⟩ := ti_info h
  rw [hd] at h7
  cases d <;> simp_all [tdOf]
theorem under_bool (h : tiOf P t = some i) (hd : i.d = .bool) : P.underlying t = some .bool := by
  obtain ⟨j, d, z, _, h2, _, _, _, _, h7⟩ := ti_info h
  rw [hd] at h7
  cases d <;> simp_all [tdOf]
theorem under_string (h : tiOf P t = some i) (hd : i.d = .string) : P.underlying t = some .string := by
  obtain ⟨j, d, z, _, h2, _, _, _, _, h7⟩ := ti_info h
  rw [hd] at h7
  cases d <;> simp_all [tdOf]
theorem under_ptr {e : TypeId} (h : tiOf P t = some i) (hd : i.d = .ptr e) : P.underlying t = some (.pointer e) := by
  obtain ⟨j, d, z, _, h2, _, _, _, _, h7⟩ := ti_info h
  rw [hd] at h7
  cases d <;> simp_all [tdOf]
theorem under_map {k e : TypeId} (h : tiOf P t = some i) (hd : i.d = .map k e) : P.underlying t = some (.map k e) := by
  obtain ⟨j, d, z, _, h2, _, _, _, _, h7⟩ := ti_info h
  rw [hd] at h7
  cases d <;> simp_all [tdOf]
theorem under_uptr (h : tiOf P t = some i) (hd : i.d = .uptr) : P.underlying t = some .unsafePointer := by
  obtain ⟨j, d, z, _, h2, _, _, _, _, h7⟩ := ti_info h
  rw [hd] at h7
  cases d <;> simp_all [tdOf]
theorem under_iface (h : tiOf P t = some i) (hd : i.d = .iface) : ∃ ms, P.underlying t = some (.interface ms) := by
  obtain ⟨j, d, z, _, h2, _, _, _, _, h7⟩ := ti_info h
  rw [hd] at h7
  cases d <;> simp_all [tdOf]
theorem under_func (h : tiOf P t = some i) (hd : i.d = .func) : ∃ a b c, P.underlying t = some (.func a b c) := by
  obtain ⟨j, d, z, _, h2, _, _, _, _, h7⟩ := ti_info h
  rw [hd] at h7
  cases d <;> simp_all [tdOf]
theorem under_struct {fs : List (Nat × Nat × TypeId)} {q : Bool} (h : tiOf P t = some i) (hd : i.d = .struct fs q) :
    ∃ flds : Array Field, P.underlying t = some (.struct flds) ∧ fieldsOf P flds.toList = some fs ∧
      (flds.toList.all (fun f => f.name != "_") && !P.stoodInHeld t && !P.eqGuardType P.depth t) = q := by
  obtain ⟨j, d, z, _, h2, _, _, _, _, h7⟩ := ti_info h
  rw [hd] at h7
  cases d <;> simp only [tdOf, Option.some.injEq, Option.map_eq_some_iff] at h7 <;> first
    | (obtain ⟨l, h8, h9⟩ := h7
       cases h9
       exact ⟨_, h2, h8, rfl⟩)
    | (cases h7; done)

def TD.agg : TD → Bool
  | .struct _ _ | .array _ _ => true
  | _ => false

theorem agg_isRow {d : TypeDesc} {td : TD} (h : tdOf P t d = some td) : td.agg = d.isRow := by
  cases d <;> simp only [tdOf, Option.some.injEq, Option.map_eq_some_iff] at h <;> first
    | (subst h; rfl)
    | (obtain ⟨l, _, h9⟩ := h; subst h9; rfl)

theorem run_isAgg_ti (h : tiOf P t = some i) (w : World) : (isAgg t).run P w = .ok i.d.agg w := by
  obtain ⟨j, d, z, _, h2, _, _, _, _, h7⟩ := ti_info h
  unfold isAgg
  rw [Sem.run_bind, run_underlying h2 w, agg_isRow h7]
  cases d <;> rfl
end

section
variable {P : Program} {t : TypeId} {i : TI}
/-- A type that is no row has one cell. -/
theorem run_zero_one (h : tiOf P t = some i) (hd : i.d.agg = false) (w : World) : ∃ z : Value, (zeroValue t).run P w = .ok z w ∧ i.zero = [z] := by
  obtain ⟨j, d, z, h1, h2, h3, _, _, h6, h7⟩ := ti_info h
  refine ⟨z, by simp [zeroValue, typeInfo, h1, h3], ?_⟩
  have hagg : aggV z = false := by
    unfold tiOf at h
    simp only [h1, h2, h3, h7] at h
    split at h
    · rename_i ha; rw [ha, ← agg_isRow h7]; exact hd
    · cases h
  rw [← h6]
  cases z <;> first
    | (simp [aggV] at hagg; done)
    | rfl
end

/-! ### Loads and stores -/
section
variable {P : Program} {E : Env} {w : World} {H : Heap}

theorem run_load_cells {t : TypeId} {i : TI} (ht : tiOf P t = some i) {l : List SV} {b off : Nat} (hc : RelC w E l b off) {x : SV}
    (hx : (i.d.agg = true ∧ i.size ≤ l.length ∧ x = .agg (l.take i.size)) ∨ (i.d.agg = false ∧ l[0]? = some x)) :
    ∃ v, (Instr.loadAt t (.pointer (some ⟨b, off, none⟩))).run P w = .ok v w ∧ RelV w E x v := by
  rcases hx with ⟨hd, hl, rfl⟩ | ⟨hd, h0⟩
  · have hc' := hc.take i.size
    obtain ⟨vs, h1, h2⟩ := RelC_iff.1 hc'
    have hlen := h1.length
    rw [List.length_take, Nat.min_eq_left hl] at hlen
    obtain ⟨j, d, z, k1, k2, _, k4, _, _, k7⟩ := ti_info ht
    have hrow : d.isRow = true := by rw [← agg_isRow k7]; exact hd
    refine ⟨.agg vs.toArray, run_loadAt_mid w b off t vs d h2 k2 hrow (by simp [k1, k4, hlen]), ?_⟩
    simp only [RelV]
    exact ⟨_, rfl, by simpa using h1⟩
  · cases l with
    | nil => simp at h0
    | cons y l =>
      simp only [List.getElem?_cons_zero, Option.some.injEq] at h0
      subst h0
      simp only [RelC] at hc
      obtain ⟨⟨v, h1, h2⟩, _⟩ := hc
      refine ⟨v, ?_, h2⟩
      simp only [Instr.loadAt, Instr.sureAddr, Sem.run_bind, Sem.run_pure, Result.andThen_ok, loadVar, run_isAgg_ti ht, hd, Bool.false_eq_true, if_false]
      simp [load, Sem.run, h1]

/-- What a load of type t gives, out of cells. -/
def ldOf (T : Tab) (t : TypeId) (l : List SV) : Option SV :=
  match T t with
  | some i => if i.d.agg then (if i.size ≤ l.length then some (.agg (l.take i.size)) else none) else l[0]?
  | none => none

theorem run_ld {T : Tab} (hT : T.OK P) {t : TypeId} {l : List SV} {b off : Nat} (hc : RelC w E l b off) {x : SV} (hx : ldOf T t l = some x) :
    ∃ v, (Instr.loadAt t (.pointer (some ⟨b, off, none⟩))).run P w = .ok v w ∧ RelV w E x v := by
  unfold ldOf at hx
  split at hx
  · rename_i i hi
    refine run_load_cells (hT t i hi) hc ?_
    split at hx
    · rename_i hd
      split at hx
      · rename_i hl; cases hx; exact .inl ⟨hd, hl, rfl⟩
      · cases hx
    · rename_i hd; exact .inr ⟨by simpa using hd, hx⟩
  · cases hx

theorem blk_any (hH : HeapOK E w H) {n : Nat} {b : Blk} (hn : H n = some b) : ∃ k, E.ι n = some k ∧ RelC w E b.cells k 0 := by
  obtain ⟨k, cs, h1, _, _, _, h4⟩ := hH.blk n b hn
  exact ⟨k, h1, h4⟩

theorem blk_cells (hH : HeapOK E w H) {n : Nat} {b : Blk} (hn : H n = some b) (hm : b.mp = none) : ∃ k cs, E.ι n = some k ∧ w.heap[k]? = some (.cells cs b.ty (0, 0)) ∧ RelC w E b.cells k 0 := by
  obtain ⟨k, o, h1, _, h3, h3', h4⟩ := hH.blk n b hn
  simp only [ObjIs, hm] at h3'
  obtain ⟨cs, rfl⟩ := h3'
  exact ⟨k, cs, h1, h3, h4⟩

/-- LOAD from a named block. -/
theorem op_load {T : Tab} (hT : T.OK P) (hH : HeapOK E w H) {t : TypeId} {n off : Nat} {b : Blk} (hn : H n = some b) {x : SV} (hx : ldOf T t (b.cells.drop off) = some x) {v : Value} (hv : RelV w E (.p n off) v) :
    ∃ u, (Instr.loadAt t v).run P w = .ok u w ∧ RelV w E x u := by
  simp only [RelV] at hv
  obtain ⟨k, hk, rfl⟩ := hv
  obtain ⟨k', h1, h4⟩ := blk_any hH hn
  rw [hk] at h1; cases h1
  have := h4.drop off
  rw [Nat.zero_add] at this
  exact run_ld hT this hx

/-- LOAD from what nobody writes. -/
theorem op_load_pe {T : Tab} (hT : T.OK P) {t : TypeId} {l : List SV} {x : SV} (hx : ldOf T t l = some x) {v : Value} (hv : RelV w E (.pe l) v) :
    ∃ u, (Instr.loadAt t v).run P w = .ok u w ∧ RelV w E x u := by
  simp only [RelV] at hv
  obtain ⟨b, off, rfl, _, hc⟩ := hv
  obtain ⟨u, h1, h2⟩ := run_ld hT hc hx
  exact ⟨u, h1, RelV.le (E := E.base) (E' := E) (Le.of_ι (fun n b h => by simp [Env.base] at h) (fun _ h => h)) _ _ h2⟩

/-- The cells of a block behind a store. -/
def stOf (l : List SV) (off : Nat) (m : List SV) : List SV := l.take off ++ m ++ l.drop (off + m.length)

theorem op_store {t : TypeId} {i : TI} (ht : tiOf P t = some i) (hH : HeapOK E w H) (hE : EnvOK E w) {n off : Nat} {b : Blk} (hn : H n = some b) (hm : b.mp = none) {x : SV}
    (hf : x.flat = true) (h1 : allOne x.cells = true) (hs : x.cells.length = i.size) (hl : off + x.cells.length ≤ b.cells.length)
    {v u : Value} (hv : RelV w E (.p n off) v) (hu : RelV w E x u) :
    ∃ w', (Instr.storeAt t v u).run P w = .ok () w' ∧ Post E w H E w' (H.set n (some ⟨b.ty, stOf b.cells off x.cells, none⟩)) := by
  simp only [RelV] at hv
  obtain ⟨k, hk, rfl⟩ := hv
  obtain ⟨k', cs, e1, h3, h4⟩ := blk_cells hH hn hm
  rw [hk] at e1; cases e1
  have hc := cells_ok hu hf
  have hlen := hc.length
  obtain ⟨ws, q1, q2⟩ := RelC_iff.1 h4
  have qlen := q1.length
  have hsz : b.cells.length ≤ cs.size := by
    rcases Nat.eq_zero_or_pos b.cells.length with hz | hp
    · omega
    · have := q2 (ws.length - 1) (ws[ws.length - 1]'(by omega)) (List.getElem?_eq_getElem (by omega))
      simp only [World.cell?, h3] at this
      have := (Array.getElem?_eq_some_iff.1 (by simpa using this)).1
      omega
  have hrun := run_storeCells_at (P := P) k off b.ty u.cells.toList 0 cs w h3 (by omega) (allOne_ok hc h1)
  refine ⟨_, ?_, post_set hH hE hn hk h3 (cs := (cs.toList.take off ++ u.cells.toList ++ cs.toList.drop (off + u.cells.toList.length)).toArray) ?_ ?_⟩
  · simp only [Instr.storeAt, Instr.sureAddr, Sem.run_bind, Sem.run_pure, Result.andThen_ok, storeVar, run_sizeOf_ti ht]
    have : u.cells.size = i.size := by rw [← hs, ← hlen]; simp
    simp only [this, ne_eq, not_true_eq_false, if_false]
    rw [hrun]
    simp only [Nat.add_zero]
  · simp; simp at hlen; omega
  · refine ⟨ws.take off ++ u.cells.toList ++ ws.drop (off + u.cells.toList.length), ?_, ?_⟩
    · have := ((q1.take off).append hc).append (q1.drop (off + x.cells.length))
      rw [hlen]; exact this
    · intro j y hy
      have hcell : ∀ (m : Nat) (z : Value), ws[m]? = some z → cs[m]? = some z := by
        intro m z hz
        have := q2 m z hz
        simp only [World.cell?, h3] at this
        simpa using this
      have hws : ws.length = b.cells.length := qlen
      simp only [List.getElem?_toArray]
      rcases Nat.lt_or_ge j off with hj | hj
      · rw [List.append_assoc, List.getElem?_append_left (by simp; omega)] at hy ⊢
        rw [List.getElem?_take_of_lt hj] at hy ⊢
        simpa using hcell j y hy
      · rw [List.append_assoc, List.getElem?_append_right (by simp; omega)] at hy ⊢
        rw [List.length_take, Nat.min_eq_left (by omega)] at hy
        rw [List.length_take, Nat.min_eq_left (by simp; omega)]
        rcases Nat.lt_or_ge (j - off) u.cells.toList.length with hj' | hj'
        · rw [List.getElem?_append_left hj'] at hy ⊢; exact hy
        · rw [List.getElem?_append_right hj', List.getElem?_drop] at hy ⊢
          simpa using hcell _ y hy
end

#print axioms op_store
end Go.Ai
