/- Steps on slices: append, copy, clear, cap. -/
import Derived.Test.YtgehagonolkhhaaGreatDoorAi7b
import Derived.Laws.AppendOwn
namespace Go.Ai
open Go

theorem relC_append {w : World} {E : Env} : ∀ {l m : List SV} {b off : Nat}, RelC w E l b off → RelC w E m b (off + l.length) → RelC w E (l ++ m) b off
  | [], m, b, off, _, k => by simpa using k
  | x :: l, m, b, off, h, k => by
    simp only [RelC] at h
    simp only [List.cons_append, RelC]
    refine ⟨h.1, relC_append h.2 ?_⟩
    rw [show off + 1 + l.length = off + (x :: l).length by simp; omega]
    exact k

theorem relE_flatten {w : World} {E : Env} {sz : Nat} : ∀ {l : List (List SV)} {b off : Nat}, RelE w E l b off sz → RelC w E l.flatten b off ∧ l.flatten.length = l.length * sz
  | [], b, off, _ => by simp [RelC]
  | e :: l, b, off, h => by
    simp only [RelE] at h
    obtain ⟨h1, h2, h3⟩ := h
    obtain ⟨h4, h5⟩ := relE_flatten h3
    simp only [List.flatten_cons, List.length_append, List.length_cons]
    exact ⟨relC_append h2 (by rw [h1]; exact h4), by rw [h1, h5, Nat.add_mul]; omega⟩

/-- The block that a value names. -/
def blkOf (H : HL) : SV → Option Blk
  | .p n _ | .s _ n _ _ _ | .m n => hget H n
  | _ => none

/-- What a slice or a string holds: its cells, and how many elements. -/
def srcOf (H : HL) (sz : Nat) : SV → Option (List SV × Nat × Bool)
  | .v (.slice none 0 0) => some ([], 0, true)
  | .v (.string s) => some (s.data.toList.map (fun b => .v (.int .u8 b.toNat)), s.size, decide (sz = 1))
  | .s z n off len _ => match hget H n with
    | some ⟨_, bc, _⟩ => some ((bc.drop off).take (len * sz), len, decide (z = sz ∧ off + len * sz ≤ bc.length))
    | none => none
  | .xs z _ l => some (l.flatten, l.length, decide (z = sz))
  | _ => none

theorem base_le {w : World} (E : Env) : Le E.base w E w := Le.of_ι (fun n b h => by simp [Env.base] at h) (fun _ h => h)

theorem take_get {α : Type} {l : List α} {k j : Nat} {x : α} (h : (l.take k)[j]? = some x) : l[j]? = some x := by
  rw [List.getElem?_take] at h
  split at h
  · exact h
  · cases h

theorem src_ok {P : Program} {E : Env} {w : World} {H : HL} (hH : HeapOK E w (hget H)) {x : SV} {v : Value} (hx : RelV w E x v) {sz n : Nat} {l : List SV} {p : Bool} (hs : srcOf H sz x = some (l, n, p)) (hp : p = true) :
    ∃ vs, RelL w E l vs ∧ vs.length = n * sz ∧ (∀ w' : World, (Builtin.lenOf v).run P w' = .ok n w') ∧
      ∀ (w' : World) (k : Nat), w'.heap = w.heap → k ≤ n → (Builtin.firstCells sz k v).run P w' = .ok (vs.take (k * sz)).toArray w' := by
  unfold srcOf at hs
  split at hs
  · cases hs
    simp only [RelV] at hx
    subst hx
    refine ⟨[], by simp [RelL], by simp, fun _ => rfl, fun w' k _ hk => ?_⟩
    have : k = 0 := by omega
    subst this
    simp [Builtin.firstCells]
  · rename_i s
    cases hs
    simp only [RelV] at hx
    subst hx
    have hp := of_decide_eq_true hp
    subst hp
    refine ⟨byteCells s, ?_, by rw [byteCells_length]; simp, fun _ => rfl, fun w' k _ hk => ?_⟩
    · have := RelL.vals (w := w) (E := E) (byteCells s)
      rw [byteCells, List.map_map] at this
      exact this
    · simp [Builtin.firstCells, byteCells]
      apply Array.ext'
      simp
  · rename_i z m off len cap
    split at hs
    · rename_i bt bc bm hb
      cases hs
      obtain ⟨rfl, hlen⟩ := of_decide_eq_true hp
      simp only [RelV] at hx
      obtain ⟨b, o, c, h1, rfl, h0, h2, h3, h4⟩ := hx
      obtain ⟨k', e1, e4⟩ := blk_any hH hb
      rw [h1] at e1; cases e1
      have hc := (e4.drop off).take (n * z)
      obtain ⟨vs, g1, g2⟩ := RelC_iff.1 hc
      have glen := g1.length
      simp only [List.length_take, List.length_drop] at glen
      rw [Nat.min_eq_left (by omega)] at glen
      refine ⟨vs, g1, glen, fun _ => rfl, fun w' k hw hk => ?_⟩
      have hkn : k * z ≤ n * z := Nat.mul_le_mul_right _ hk
      refine run_firstCells_some w' z k _ _ _ (vs.take (k * z)) (by rw [List.length_take]; omega) fun j u hu => ?_
      rw [Addr.add_mid]
      have hu' := take_get hu
      have hoff : o = off := by
        rcases h0 with h0 | h0
        · subst h0
          have : n = 0 := by omega
          subst this
          simp at glen
          subst glen
          simp at hu'
        · exact h0
      subst hoff
      have := g2 j u hu'
      simp only [Nat.zero_add] at this
      simp only [World.cell?] at this ⊢
      rw [hw]; exact this
    · cases hs
  · rename_i z cap l'
    cases hs
    have hp := of_decide_eq_true hp
    subst hp
    simp only [RelV] at hx
    obtain ⟨a, c, rfl, h1, _, h3⟩ := hx
    rcases h3 with rfl | ⟨b, off, rfl, hI, _, h3⟩
    · refine ⟨[], by simp [RelL], by simp, fun _ => rfl, fun w' k _ hk => ?_⟩
      have : k = 0 := by simpa using hk
      subst this
      cases a with
      | none => simp [Builtin.firstCells]
      | some a => simpa using run_firstCells_some (P := P) w' z 0 a 0 c [] (by simp) (by simp)
    · obtain ⟨g1, g2⟩ := relE_flatten h3
      obtain ⟨vs, k1, k2⟩ := RelC_iff.1 g1
      have k3 := k1.length
      refine ⟨vs, RelL.le (base_le E) _ _ k1, by omega, fun _ => rfl, fun w' k hw hk => ?_⟩
      have hkn : k * z ≤ l'.length * z := Nat.mul_le_mul_right _ hk
      refine run_firstCells_some w' z k _ _ _ (vs.take (k * z)) (by rw [List.length_take]; omega) fun j u hu => ?_
      rw [Addr.add_mid]
      have := k2 j u (take_get hu)
      simp only [World.cell?] at this ⊢
      rw [hw]; exact this
  · cases hs

theorem le_drew' (E : Env) (w : World) : Le E w E w.drew := ⟨fun _ _ h => h, fun _ h => ⟨h, rfl⟩, fun _ _ h => h⟩

theorem HeapOK.drew {E : Env} {w : World} {H : Heap} (h : HeapOK E w H) : HeapOK E w.drew H := by
  refine ⟨fun n b hb => ?_, h.inj⟩
  obtain ⟨k, o, h1, h2, h3, h3', h4⟩ := h.blk n b hb
  exact ⟨k, o, h1, h2, h3, h3', RelC.le (le_drew' E w) _ _ _ rfl h4⟩

theorem EnvOK.drew {E : Env} {w : World} (h : EnvOK E w) : EnvOK E w.drew := ⟨h.I, h.ι⟩

theorem Post.of_drew {E E' : Env} {w w' : World} {H H' : Heap} (h : Post E w.drew H E' w' H') : Post E w H E' w' H' :=
  ⟨h.ι, h.I, (Out.drew (Foot E H) w).trans h.out (fun _ _ h => h), h.heap, h.env, h.newI, h.newι, h.dom⟩

/-- Less is said of the heap. -/
theorem Post.cut {E E' : Env} {w w' : World} {H H' H'' : Heap} (h : Post E w H E' w' H')
    (hb : ∀ n b, H'' n = some b → ∃ b', H' n = some b' ∧ b.ty = b'.ty ∧ b.mp = b'.mp ∧ ∃ r, b'.cells = b.cells ++ r)
    (hd : ∀ n, E.ι n = none → H' n ≠ none → H'' n = none → E'.ι n = none) : Post E w H E' w' H'' := by
  have hne : ∀ n, H'' n ≠ none → H' n ≠ none := by
    intro n hn
    cases e : H'' n with
    | none => exact (hn e).elim
    | some b => obtain ⟨b', h1, _⟩ := hb n b e; simp [h1]
  refine ⟨h.ι, h.I, h.out, ⟨?_, fun n m k hn hm => h.heap.inj n m k (hne n hn) (hne m hm)⟩, h.env, h.newI, fun n k hn => h.newι n k (hne n hn), ?_⟩
  · intro n b hn
    obtain ⟨b', h1, h2, h3, r, h4⟩ := hb n b hn
    obtain ⟨k, o, g1, g2, g3, g3', g4⟩ := h.heap.blk n b' h1
    refine ⟨k, o, g1, g2, g3, by simpa only [ObjIs, h2, h3] using g3', ?_⟩
    have := g4.take b.cells.length
    rw [h4] at this
    simpa using this
  · intro n hn hn'
    by_cases e : H' n = none
    · exact h.dom n hn e
    · exact hd n hn e hn'

/-- A block gets another name. -/
theorem post_rename {E E' : Env} {w w' : World} {H H' : Heap} (h : Post E w H E' w' H') {n m g : Nat} {b : Blk} (hb : H' n = some b) (hg : E'.ι n = some g) (hn : E.ι n ≠ none) (hm' : E'.ι m = none) :
    Post E w H (E'.bind m g) w' ((H'.set m (some b)).set n none) := by
  have hne : m ≠ n := by intro e; subst e; rw [hm'] at hg; cases hg
  have hle : Le E' w' (E'.bind m g) w' := by
    refine Le.of_ι (fun j k hk => ?_) (fun _ h => h)
    have : j ≠ m := by intro e; subst e; rw [hm'] at hk; cases hk
    simp [Env.bind, this, hk]
  have key : ∀ j, ((H'.set m (some b)).set n none) j ≠ none → (j = m ∨ (j ≠ m ∧ j ≠ n ∧ H' j ≠ none)) := by
    intro j hj
    by_cases e : j = n
    · simp [Heap.set, e] at hj
    · by_cases e' : j = m
      · exact .inl e'
      · simp only [Heap.set, e, e', if_false] at hj; exact .inr ⟨e', e, hj⟩
  refine ⟨fun j k hk => hle.ι j k (h.ι j k hk), h.I, h.out, ⟨?_, ?_⟩, ⟨h.env.I, ?_⟩, h.newI, ?_, ?_⟩
  · intro j c hc
    by_cases e : j = n
    · simp [Heap.set, e] at hc
    · by_cases e' : j = m
      · subst e'
        simp only [Heap.set, e, if_false, if_true, Option.some.injEq] at hc
        subst hc
        obtain ⟨k, o, h1, h2, h3, h3', h4⟩ := h.heap.blk n b hb
        rw [hg] at h1; cases h1
        exact ⟨g, o, by simp [Env.bind], h2, h3, h3', RelC.le hle _ _ _ rfl h4⟩
      · simp only [Heap.set, e, e', if_false] at hc
        obtain ⟨k, o, h1, h2, h3, h3', h4⟩ := h.heap.blk j c hc
        exact ⟨k, o, hle.ι j k h1, h2, h3, h3', RelC.le hle _ _ _ rfl h4⟩
  · intro j j' k hj hj' hk hk'
    rcases key j hj with rfl | ⟨a1, a2, a3⟩
    · rcases key j' hj' with rfl | ⟨b1, b2, b3⟩
      · rfl
      · simp only [Env.bind, if_true, Option.some.injEq] at hk
        subst hk
        simp only [Env.bind, b1, if_false] at hk'
        exact absurd (h.heap.inj j' n g b3 (by simp [hb]) hk' hg) b2
    · simp only [Env.bind, a1, if_false] at hk
      rcases key j' hj' with rfl | ⟨b1, b2, b3⟩
      · simp only [Env.bind, if_true, Option.some.injEq] at hk'
        subst hk'
        exact absurd (h.heap.inj j n g a3 (by simp [hb]) hk hg) a2
      · simp only [Env.bind, b1, if_false] at hk'
        exact h.heap.inj j j' k a3 b3 hk hk'
  · intro j k hk
    by_cases e : j = m
    · subst e
      simp only [Env.bind, if_true, Option.some.injEq] at hk
      subst hk
      exact h.env.ι n g hg
    · simp only [Env.bind, e, if_false] at hk; exact h.env.ι j k hk
  · intro j k hj hk
    rcases key j hj with rfl | ⟨a1, a2, a3⟩
    · simp only [Env.bind, if_true, Option.some.injEq] at hk
      subst hk
      exact h.newι n g (by simp [hb]) hg
    · simp only [Env.bind, a1, if_false] at hk; exact h.newι j k a3 hk
  · intro j hj hj'
    by_cases e : j = m
    · subst e
      simp [Heap.set, hne] at hj'
    · simp only [Env.bind, e, if_false]
      by_cases e' : j = n
      · subst e'
        exact absurd hj hn
      · refine h.dom j hj ?_
        simpa [Heap.set, e, e'] using hj'


/-- Cells are stored into a named block. -/
theorem store_blk {P : Program} {E : Env} {w : World} {H : Heap} (hH : HeapOK E w H) (hE : EnvOK E w) {n g off : Nat} {bt : TypeId} {bc : List SV} (hn : H n = some ⟨bt, bc, none⟩) (hg : E.ι n = some g)
    {m : List SV} {vs : List Value} (hm : RelL w E m vs) (h1 : allOne m = true) (hroom : HasRoom w g (off + m.length)) (hle : off ≤ bc.length) {l : List SV} (hl : l = bc.take off ++ m ∨ l = bc.take off ++ m ++ bc.drop (off + m.length)) :
    ∃ w', (storeCells ⟨g, off, none⟩ vs).run P w = .ok () w' ∧ Post E w H E w' (H.set n (some ⟨bt, l, none⟩)) ∧ (∀ k, HasRoom w g k → HasRoom w' g k) := by
  obtain ⟨k', cs, e1, h3, h4⟩ := blk_cells hH hn rfl
  rw [hg] at e1; cases e1
  obtain ⟨cs', ty, fz, k1, k2⟩ := hroom
  rw [h3] at k1; cases k1
  have hlen := hm.length
  obtain ⟨ws, q1, q2⟩ := RelC_iff.1 h4
  have qlen : ws.length = bc.length := q1.length
  have hrun := run_storeCells_at (P := P) g off bt vs 0 cs w h3 (by omega) (allOne_ok hm h1)
  have hcell : ∀ (m : Nat) (z : Value), ws[m]? = some z → cs[m]? = some z := by
    intro m z hz
    have := q2 m z hz
    simp only [World.cell?, h3] at this
    simpa using this
  have hp := post_set hH hE hn hg h3 (cs := (cs.toList.take off ++ vs ++ cs.toList.drop (off + vs.length)).toArray) (l := l) (by simp; omega) ?_
  · refine ⟨_, by simpa using hrun, hp, fun k h => h.setRow h3 (by simp; omega)⟩
  · have full : ∃ us, RelL w E (bc.take off ++ m ++ bc.drop (off + m.length)) us ∧ ∀ (j : Nat) (v : Value), us[j]? = some v → (cs.toList.take off ++ vs ++ cs.toList.drop (off + vs.length)).toArray[j]? = some v := by
      refine ⟨ws.take off ++ vs ++ ws.drop (off + vs.length), ?_, ?_⟩
      · have := ((q1.take off).append hm).append (q1.drop (off + m.length))
        rw [hlen]; exact this
      · intro j y hy
        simp only [List.getElem?_toArray]
        rcases Nat.lt_or_ge j off with hj | hj
        · rw [List.append_assoc, List.getElem?_append_left (by simp; omega)] at hy ⊢
          rw [List.getElem?_take_of_lt hj] at hy ⊢
          simpa using hcell j y hy
        · rw [List.append_assoc, List.getElem?_append_right (by simp; omega)] at hy ⊢
          rw [List.length_take, Nat.min_eq_left (by omega)] at hy
          rw [List.length_take, Nat.min_eq_left (by simp; omega)]
          rcases Nat.lt_or_ge (j - off) vs.length with hj' | hj'
          · rw [List.getElem?_append_left hj'] at hy ⊢; exact hy
          · rw [List.getElem?_append_right hj', List.getElem?_drop] at hy ⊢
            simpa using hcell _ y hy
    rcases hl with rfl | rfl
    · obtain ⟨us, u1, u2⟩ := full
      refine ⟨us.take (bc.take off ++ m).length, ?_, fun j v hj => u2 j v (take_get hj)⟩
      have := u1.take (bc.take off ++ m).length
      rwa [List.take_left'] at this
      rfl
    · exact full

section
variable {P : Program} {T : Tab} {st : St}

def capAfter (cap : Option Nat) (n : Nat) : Option Nat :=
  match cap with
  | some c => if n ≤ c then some c else none
  | none => none

def isSrcTy : TD → Bool
  | .slice _ | .string => true
  | _ => false

/-- Append: where the old array is known to have room it is written; else the slice gets a new name. -/
def stAppend (T : Tab) (st : St) (ts : Array TypeId) (args : Array Operand) : Option Res :=
  match ts.toList, args.toList with
  | [t, tx], [x, y] => match T t, T tx with
    | some ⟨_, _, _, .slice e⟩, some ix => if isSrcTy ix.d then match T e with
      | some ie => match srcOf st.H ie.size (st.ev y) with
        | some (m, n, p) => match st.ev x with
          | .v (.slice none 0 0) => if n = 0 then okRes st (.v (.slice none 0 0)) (p = true)
            else newRes st e m (fun k => .s ie.size k 0 n none) (p = true ∧ allOne m = true ∧ ie.zero.length = ie.size ∧ n * ie.bytes ≤ 140737488355328 ∧ n ≤ 140737488355328)
          | .xs z (some c) l => if n = 0 then okRes st (.xs z (some c) l) (p = true)
            else if c = l.length then newRes st e (l.flatten ++ m) (fun k => .s ie.size k 0 (l.length + n) none)
              (p = true ∧ allOne m = true ∧ ie.zero.length = ie.size ∧ z = ie.size ∧ (l.length + n) * ie.bytes ≤ 140737488355328 ∧ l.length + n ≤ 140737488355328)
            else none
          | .s z k off len cap => match blkOf st.H (st.ev x) with
            | some ⟨bt, bc, none⟩ =>
              match capAfter cap (len + n) with
              | some c => some ⟨.s z k off (len + n) (some c), [(k, some ⟨bt, stOf bc (off + len * z) m, none⟩)], st.nx,
                  decide (p = true ∧ allOne m = true ∧ z = ie.size ∧ off + len * z ≤ bc.length)⟩
              | none => some ⟨.s z st.nx 0 (len + n) none, [(k, none), (st.nx, some ⟨e, bc.take (len * z) ++ m, none⟩)], st.nx + 1,
                  decide (p = true ∧ allOne m = true ∧ ie.zero.length = ie.size ∧ z = ie.size ∧ off = 0 ∧ bt = e ∧ len * z ≤ bc.length ∧ (len + n) * ie.bytes ≤ 140737488355328 ∧ len + n ≤ 140737488355328)⟩
            | _ => none
          | _ => none
        | none => none
      | none => none
      else none
    | _, _ => none
  | _, _ => none

theorem run_append {w w' : World} {c : Call} {a : Act} {o : Oper} {v : Value} (hb : c.callee = .builtin .append) (he : o.op = .call c)
    (h : (Builtin.append_ c.argTypes o.type (c.args.map a.eval)).run P w = .ok v w') : (execOp a.eval o).run P w = .ok (.value v) w' := by
  simp [execOp, he, resolve, hb, invoke, builtin, h]

/-- Nothing is appended. -/
theorem run_append_none (w : World) (t tx ty e : TypeId) (ht : P.underlying t = some (.slice e)) (hk : (∃ e', P.underlying tx = some (.slice e')) ∨ P.underlying tx = some .string) (b : Option Addr) (l c : Nat) (hle : l ≤ c) (x : Value)
    (j : TypeInfo) (hj : P.info? e = some j) (hlen : ∀ w' : World, (Builtin.lenOf x).run P w' = .ok 0 w') {vs : List Value} (hc : (Builtin.firstCells j.size 0 x).run P w = .ok (vs.take (0 * j.size)).toArray w) :
    (Builtin.append_ #[t, tx] ty #[.slice b l c, x]).run P w = .ok (.slice b l c) w := by
  simp only [Nat.zero_mul, List.take_zero] at hc
  rcases hk with ⟨e', hk⟩ | hk <;> cases b <;> simp [Builtin.append_, run_underlying ht, run_underlying hk, sizeOf, typeInfo, hj, hlen, hle, hc, storeCells]

/-- There is room. -/
theorem run_append_in (w : World) (t tx ty e : TypeId) (i : TypeInfo) (ht : P.underlying t = some (.slice e)) (hi : P.info? e = some i) (b off sLen sCap : Nat) (x : Value) (n : Nat) (news : List Value) (hs : Src P i.size tx x n news w)
    (hroom : sLen + n ≤ sCap) {w' : World} (hst : (storeCells ⟨b, off + sLen * i.size, none⟩ news).run P w = .ok () w') :
    (Builtin.append_ #[t, tx] ty #[.slice (some ⟨b, off, none⟩) sLen sCap, x]).run P w = .ok (.slice (some ⟨b, off, none⟩) (sLen + n) sCap) w' := by
  rcases hs.kind with ⟨e', hk⟩ | hk <;> simp [Builtin.append_, run_underlying ht, run_underlying hk, sizeOf, typeInfo, hi, hs.len, hroom, hs.cells, Addr.add_lit, hst]

theorem StepOK.newD {op : Op} {t : TypeId} {l : List SV} {x : Nat → SV} {side : Prop} [Decidable side] {r : Res} (hr : newRes st t l x side = some r)
    (h : ∀ (E : Env) (a : Act) (w : World) (o : Oper), Ctx P T st E a w → o.op = op → side →
      ∃ (v : Value) (cs : Array Value), (execOp a.eval o).run P w = .ok (.value v) (w.drew.alloc (.cells cs t)) ∧ (∃ m, RelL w E (l ++ m) cs.toList) ∧
        RelV (w.drew.alloc (.cells cs t)) (E.bind st.nx w.heap.size) (x st.nx) v) : StepOK P T st op r := by
  cases hr
  refine ⟨fun E a w o hc ho hs => ?_, Nat.le_succ _, fun n hn => ?_, Nat.le_refl _⟩
  · obtain ⟨v, cs, h1, ⟨m, h2⟩, h3⟩ := h E a w o hc ho (of_decide_eq_true hs)
    refine ⟨v, _, _, .inl h1, ?_, h3⟩
    rw [List.singleton_append, hset_eq]
    have hp := post_alloc (w := w.drew) hc.hp.drew hc.en.drew hc.nx t cs (RelL.le (le_drew' E w) _ _ h2)
    have := hp.of_drew
    refine ⟨this.ι, this.I, this.out, ⟨?_, ?_⟩, this.env, this.newI, ?_, ?_⟩
    · intro k b hb
      by_cases e : k = st.nx
      · subst e
        simp only [Heap.set, if_true, Option.some.injEq] at hb
        subst hb
        obtain ⟨k', o', g1, g2, g3, g3', g4⟩ := this.heap.blk st.nx ⟨t, l ++ m, none⟩ (by simp [Heap.set])
        refine ⟨k', o', g1, g2, g3, g3', ?_⟩
        have := RelC.take l.length g4
        simpa using this
      · simp only [Heap.set, e, if_false] at hb
        exact this.heap.blk k b (by simpa [Heap.set, e] using hb)
    · intro a b k ha hb hka hkb
      refine this.heap.inj a b k ?_ ?_ hka hkb
      · by_cases e : a = st.nx
        · simp [Heap.set, e]
        · simpa [Heap.set, e] using ha
      · by_cases e : b = st.nx
        · simp [Heap.set, e]
        · simpa [Heap.set, e] using hb
    · intro k b hk hb
      refine this.newι k b ?_ hb
      by_cases e : k = st.nx
      · simp [Heap.set, e]
      · simpa [Heap.set, e] using hk
    · intro k hk hk'
      refine this.dom k hk ?_
      by_cases e : k = st.nx
      · simp [Heap.set, e] at hk'
      · simpa [Heap.set, e] using hk'
  · rw [List.singleton_append, hset_eq] at hn
    unfold Heap.set at hn
    by_cases e : n = st.nx
    · exact .inr ⟨e, Nat.lt_succ_self _⟩
    · simp only [e, if_false] at hn; exact .inl hn

/-- There is no room: a new row. -/
theorem grow_ok {E : Env} {w : World} {t tx ty e nx : TypeId} {j : TypeInfo} {z : Value} (ht : P.underlying t = some (.slice e)) (hj : P.info? e = some j) (hz : j.zero = some z) (hzl : z.cells.size = j.size) {base : Option Addr} {L C n : Nat} {x : Value}
    {lo m : List SV} {olds news : List Value} (ho : RelL w E lo olds) (hol : olds.length = L * j.size) (hold : (Builtin.firstCells j.size L (.slice base L C)).run P w.drew = .ok olds.toArray w.drew)
    (hm : RelL w E m news) (hs : Src P j.size tx x n news w) (hg : C < L + n) (h63 : L + n ≤ 140737488355328) (h47 : (L + n) * j.bytes ≤ 140737488355328) :
    ∃ v cs, (Builtin.append_ #[t, tx] ty #[.slice base L C, x]).run P w = .ok v (w.drew.alloc (.cells cs e)) ∧ (∃ m', RelL w E ((lo ++ m) ++ m') cs.toList) ∧
      ∀ E' : Env, E'.ι nx = some w.heap.size → RelV (w.drew.alloc (.cells cs e)) E' (.s j.size nx 0 (L + n) none) v := by
  have hcap : L + n ≤ grownCap w (L + n) C e := grownCap_ge _ _ _ _
  refine ⟨_, _, run_append_grow_src (P := P) w t tx ty e j z ht hj hz base L C olds hold x n news hs hg (by omega) (growslice_fits (by omega) h47), ⟨(Builtin.zeroCells z.cells (grownCap w (L + n) C e - (L + n))).toList.map SV.v, ?_⟩, fun E' hE' => ?_⟩
  · simp only [Array.toList_append]
    exact (ho.append hm).append (RelL.vals _)
  · simp only [RelV]
    refine ⟨w.heap.size, 0, _, hE', rfl, .inr rfl, hcap, (fun _ h => by cases h), ?_⟩
    refine ⟨_, e, (0, 0), heap_alloc_new _ _, ?_⟩
    have h1 := hs.newsLen
    simp [Builtin.zeroCells, hol, h1, hzl]
    rw [← Nat.add_mul, ← Nat.add_mul]
    exact Nat.mul_le_mul_right _ (by omega)

theorem st_append {c : Call} {r : Res} (hT : T.OK P) (hb : c.callee = .builtin .append) (hr : stAppend T st c.argTypes c.args = some r) : StepOK P T st (.call c) r := by
  unfold stAppend at hr
  split at hr
  · rename_i t tx x y htx hxy
    have hargs : c.args = #[x, y] := by rw [← Array.toArray_toList (xs := c.args), hxy]
    have hts : c.argTypes = #[t, tx] := by rw [← Array.toArray_toList (xs := c.argTypes), htx]
    split at hr
    · rename_i s1 s2 s3 e ix hit hix
      split at hr
      · rename_i hd
        have hkind : (∃ e', P.underlying tx = some (.slice e')) ∨ P.underlying tx = some .string := by
          obtain ⟨sz, by_, zz, d⟩ := ix
          cases d <;> simp [isSrcTy] at hd
          · exact .inl ⟨_, under_slice (hT tx _ hix) rfl⟩
          · exact .inr (under_string (hT tx _ hix) rfl)
        split at hr
        · rename_i ie hie
          obtain ⟨j, jd, z, j1, j2, j3, j4, j5, j6, j7⟩ := ti_info (hT e ie hie)
          split at hr
          · rename_i m n p hsrc
            -- what is appended
            have hSrc : ∀ (E : Env) (a : Act) (w : World), Ctx P T st E a w → p = true → allOne m = true → ∃ news, RelL w E m news ∧ Src P j.size tx (a.eval y) n news w := by
              intro E a w hc hp h1
              obtain ⟨vs, k1, k2, k3, k4⟩ := src_ok (P := P) hc.hp (ev_ok hc.fr y) hsrc hp
              refine ⟨vs, k1, hkind, k3, ?_, ?_, by rw [j4]; exact k2, allOne_ok k1 h1⟩
              · have := k4 w n rfl (Nat.le_refl _)
                rw [← k2, List.take_length] at this; rw [j4]; exact this
              · have := k4 w.drew n rfl (Nat.le_refl _)
                rw [← k2, List.take_length] at this; rw [j4]; exact this
            have ht := under_slice (hT t _ hit) rfl
            split at hr
            · rename_i hx
              split at hr
              · rename_i h0
                subst h0
                refine .pure hr fun E a w o hc he hp => ?_
                obtain ⟨vs, k1, k2, k3, k4⟩ := src_ok (P := P) hc.hp (ev_ok hc.fr y) hsrc hp
                have h1 := ev_ok hc.fr x
                rw [show Ai.ev (lget st.σ) x = _ from hx] at h1
                simp only [RelV] at h1
                refine ⟨.slice none 0 0, run_append hb he ?_, by simp [RelV]⟩
                rw [hargs, hts]
                simp only [List.map_toArray, List.map_cons, List.map_nil, h1]
                exact run_append_none w t tx o.type e ht hkind none 0 0 (Nat.le_refl _) _ j j1 k3 (vs := vs) (by rw [j4]; exact k4 w 0 rfl (Nat.le_refl _))
              · rename_i h0
                refine .newD hr fun E a w o hc he hp => ?_
                obtain ⟨hp, h1, h1', h2, h3⟩ := hp
                obtain ⟨news, k1, k2⟩ := hSrc E a w hc hp h1
                have hx1 := ev_ok hc.fr x
                rw [show Ai.ev (lget st.σ) x = _ from hx] at hx1
                simp only [RelV] at hx1
                have hzl : z.cells.size = j.size := by rw [j4, ← h1', ← j6]; simp
                obtain ⟨v, cs, g1, ⟨m', g2⟩, g3⟩ := grow_ok (P := P) (ty := o.type) (nx := st.nx) (C := 0) ht j1 j3 hzl (base := none) (L := 0) (lo := []) (olds := []) (by simp [RelL]) (by simp) (by simp [run_firstCells_none]) k1 k2 (by omega) (by omega) (by rw [Nat.zero_add, j5]; exact h2)
                refine ⟨v, cs, run_append hb he (by rw [hargs, hts]; simpa [hx1] using g1), ⟨m', by simpa using g2⟩, ?_⟩
                have := g3 (E.bind st.nx w.heap.size) (by simp [Env.bind])
                rw [Nat.zero_add, j4] at this; exact this
            · rename_i sz cc l hx
              split at hr
              · rename_i h0
                subst h0
                refine .pure hr fun E a w o hc he hp => ?_
                obtain ⟨vs, k1, k2, k3, k4⟩ := src_ok (P := P) hc.hp (ev_ok hc.fr y) hsrc hp
                have h1 := ev_ok hc.fr x
                rw [show Ai.ev (lget st.σ) x = _ from hx] at h1
                have h1' := h1
                simp only [RelV] at h1
                obtain ⟨b, c', h1, h2, _⟩ := h1
                refine ⟨_, run_append hb he ?_, h1'⟩
                rw [hargs, hts]
                simp only [List.map_toArray, List.map_cons, List.map_nil, h1]
                exact run_append_none w t tx o.type e ht hkind b _ _ h2 _ j j1 k3 (vs := vs) (by rw [j4]; exact k4 w 0 rfl (Nat.le_refl _))
              · split at hr
                · rename_i h0 hcl
                  refine .newD hr fun E a w o hc he hp => ?_
                  obtain ⟨hp, h1, h1', hz1, h2, h3⟩ := hp
                  obtain ⟨news, k1, k2⟩ := hSrc E a w hc hp h1
                  have hx1 := ev_ok hc.fr x
                  rw [show Ai.ev (lget st.σ) x = _ from hx] at hx1
                  have hzl : z.cells.size = j.size := by rw [j4, ← h1', ← j6]; simp
                  obtain ⟨olds, o1, o2, _, o4⟩ := src_ok (P := P) (sz := j.size) hc.hp hx1 (by simp only [srcOf]; rfl) (by rw [j4]; exact decide_eq_true hz1)
                  simp only [RelV] at hx1
                  obtain ⟨b, c', hx1, hcl', hcc, _⟩ := hx1
                  have := hcc cc rfl
                  subst this
                  have o4' := o4 w.drew l.length rfl (Nat.le_refl _)
                  rw [hx1, ← o2, List.take_length] at o4'
                  obtain ⟨v, cs, g1, ⟨m', g2⟩, g3⟩ := grow_ok (P := P) (ty := o.type) (nx := st.nx) (C := c') ht j1 j3 hzl (base := b) (L := l.length) o1 o2 o4' k1 k2 (by omega) (by omega) (by rw [j5]; exact h2)
                  refine ⟨v, cs, run_append hb he (by rw [hargs, hts]; simpa [hx1] using g1), ⟨m', g2⟩, ?_⟩
                  have := g3 (E.bind st.nx w.heap.size) (by simp [Env.bind])
                  rw [j4] at this; exact this
                · cases hr
            · rename_i sz k off len cap hx
              split at hr
              · rename_i bt bc hblk
                rw [hx] at hblk; simp only [blkOf] at hblk
                split at hr
                · rename_i c hcap
                  have hcap' : cap = some c ∧ len + n ≤ c := by
                    unfold capAfter at hcap
                    split at hcap
                    · split at hcap
                      · cases hcap; exact ⟨rfl, by assumption⟩
                      · cases hcap
                    · cases hcap
                  obtain ⟨rfl, hle⟩ := hcap'
                  cases hr
                  refine ⟨fun E a w o hc he hs => ?_, Nat.le_refl _, fun m' hm => ?_, Nat.le_succ _⟩
                  · obtain ⟨hp, h1, rfl, h3⟩ := of_decide_eq_true hs
                    obtain ⟨news, k1, k2⟩ := hSrc E a w hc hp h1
                    have hx1 := ev_ok hc.fr x
                    rw [show Ai.ev (lget st.σ) x = _ from hx] at hx1
                    simp only [RelV] at hx1
                    obtain ⟨b, o', c', e1, hx1, e2, e3, e4, e5⟩ := hx1
                    have := e4 c rfl
                    subst this
                    have hml : m.length = n * ie.size := by rw [← k1.length, k2.newsLen, j4]
                    rcases e2 with e2 | rfl
                    · -- no room at all: nothing is appended
                      have hn0 : n = 0 := by omega
                      have hl0 : len = 0 := by omega
                      subst hn0; subst hl0; subst e2
                      have hm0 : m = [] := by cases m with | nil => rfl | cons _ _ => simp at hml
                      subst hm0
                      obtain ⟨vs, k1', k2', k3', k4'⟩ := src_ok (P := P) hc.hp (ev_ok hc.fr y) hsrc hp
                      refine ⟨_, w, E, .inl (run_append hb he (by
                        rw [hargs, hts]
                        simp only [List.map_toArray, List.map_cons, List.map_nil, hx1]
                        exact run_append_none w t tx o.type e ht hkind _ 0 0 (Nat.le_refl _) _ j j1 k3' (vs := vs) (by rw [j4]; exact k4' w 0 rfl (Nat.le_refl _)))), ?_, ?_⟩
                      · have : hget ((k, some ⟨bt, stOf bc (off + 0 * ie.size) [], none⟩) :: st.H) = hget st.H := by
                          rw [hset_eq]
                          funext q
                          by_cases e' : q = k
                          · subst e'
                            simp [Heap.set, hblk, stOf]
                          · simp [Heap.set, e']
                        rw [List.singleton_append, this]
                        exact .refl hc.hp hc.en
                      · simp only [RelV]
                        exact ⟨b, o', 0, e1, rfl, .inl rfl, Nat.le_refl _, fun k hk => by simpa using hk, e5⟩
                    · obtain ⟨w', w1, w2, w3⟩ := store_blk (P := P) (off := o' + len * ie.size) (l := stOf bc (o' + len * ie.size) m) hc.hp hc.en hblk e1 k1 h1 (by
                        obtain ⟨cs, ty, fz, r1, r2⟩ := e5
                        refine ⟨cs, ty, fz, r1, ?_⟩
                        rw [hml]
                        have : len * ie.size + n * ie.size ≤ c' * ie.size := by rw [← Nat.add_mul]; exact Nat.mul_le_mul_right _ hle
                        omega) h3 (.inr rfl)
                      refine ⟨_, w', E, .inl (run_append hb he (by
                        rw [hargs, hts]
                        simp only [List.map_toArray, List.map_cons, List.map_nil, hx1]
                        exact run_append_in w t tx o.type e j ht j1 b o' len c' _ n news k2 hle (by rw [j4]; exact w1))), ?_, ?_⟩
                      · rw [List.singleton_append, hset_eq]; exact w2
                      · simp only [RelV]
                        exact ⟨b, o', c', e1, rfl, .inr rfl, hle, fun k hk => by simpa using hk, w3 _ e5⟩
                  · rw [List.singleton_append, hset_eq] at hm
                    unfold Heap.set at hm
                    by_cases e' : m' = k
                    · subst e'; exact .inl (by simp [hblk])
                    · simp only [e', if_false] at hm; exact .inl hm
                · rename_i hcap
                  cases hr
                  refine ⟨fun E a w o hc he hs => ?_, Nat.le_succ _, fun m' hm => ?_, Nat.le_refl _⟩
                  · obtain ⟨hp, h1, h1', rfl, rfl, rfl, h3, h4, h5⟩ := of_decide_eq_true hs
                    obtain ⟨news, k1, k2⟩ := hSrc E a w hc hp h1
                    have hx1 := ev_ok hc.fr x
                    rw [show Ai.ev (lget st.σ) x = _ from hx] at hx1
                    have hzl : z.cells.size = j.size := by rw [j4, ← h1', ← j6]; simp
                    obtain ⟨olds, o1, o2, _, o4⟩ := src_ok (P := P) (H := st.H) (sz := j.size) (n := len) (l := (bc.drop 0).take (len * j.size)) (p := decide (ie.size = j.size ∧ 0 + len * j.size ≤ bc.length)) hc.hp hx1 (by simp only [srcOf, hblk]) (by rw [j4]; exact decide_eq_true ⟨rfl, by omega⟩)
                    rw [List.drop_zero] at o1
                    have hx1' := hx1
                    simp only [RelV] at hx1
                    obtain ⟨b, o', c', e1, hx1, e2, e3, e4, e5⟩ := hx1
                    have hml : m.length = n * ie.size := by rw [← k1.length, k2.newsLen, j4]
                    have hne : st.nx ≠ k := by intro e'; rw [← e', hc.nx] at e1; cases e1
                    have hU : hget ([(k, none), (st.nx, some ⟨bt, bc.take (len * ie.size) ++ m, none⟩)] ++ st.H) = Heap.set (Heap.set (hget st.H) st.nx (some ⟨bt, bc.take (len * ie.size) ++ m, none⟩)) k none := by
                      rw [List.cons_append, hset_eq, List.cons_append, hset_eq]; rfl
                    by_cases hroom : len + n ≤ c' ∧ (c' ≠ 0)
                    · -- in place
                      obtain ⟨hroom, hc0⟩ := hroom
                      rcases e2 with e2 | rfl
                      · exact absurd e2 hc0
                      obtain ⟨w', w1, w2, w3⟩ := store_blk (P := P) (off := 0 + len * ie.size) (l := bc.take (0 + len * ie.size) ++ m) hc.hp hc.en hblk e1 k1 h1 (by
                        obtain ⟨cs, ty, fz, r1, r2⟩ := e5
                        refine ⟨cs, ty, fz, r1, ?_⟩
                        rw [hml]
                        have : len * ie.size + n * ie.size ≤ c' * ie.size := by rw [← Nat.add_mul]; exact Nat.mul_le_mul_right _ hroom
                        omega) (by omega) (.inl rfl)
                      rw [Nat.zero_add] at w1 w2
                      have hren := post_rename w2 (n := k) (m := st.nx) (g := b) (b := ⟨bt, bc.take (len * ie.size) ++ m, none⟩) (by simp [Heap.set]) e1 (by rw [e1]; simp) hc.nx
                      refine ⟨_, w', E.bind st.nx b, .inl (run_append hb he (by
                        rw [hargs, hts]
                        simp only [List.map_toArray, List.map_cons, List.map_nil, hx1]
                        exact run_append_in w t tx o.type bt j ht j1 b 0 len c' _ n news k2 hroom (by rw [j4, Nat.zero_add]; exact w1))), ?_, ?_⟩
                      · rw [hU]
                        have : Heap.set (Heap.set (Heap.set (hget st.H) k (some ⟨bt, bc.take (len * ie.size) ++ m, none⟩)) st.nx (some ⟨bt, bc.take (len * ie.size) ++ m, none⟩)) k none = Heap.set (Heap.set (hget st.H) st.nx (some ⟨bt, bc.take (len * ie.size) ++ m, none⟩)) k none := by
                          funext q
                          by_cases e' : q = k
                          · simp [Heap.set, e']
                          · simp [Heap.set, e']
                        rw [this] at hren
                        exact hren
                      · simp only [RelV]
                        exact ⟨b, 0, c', by simp [Env.bind], rfl, .inr rfl, hroom, (fun k hk => by cases hk), w3 _ e5⟩
                    · by_cases hc0 : c' = 0 ∧ len + n = 0
                      · obtain ⟨rfl, hc0⟩ := hc0
                        have hn0 : n = 0 := by omega
                        have hl0 : len = 0 := by omega
                        subst hn0; subst hl0
                        have hm0 : m = [] := by cases m with | nil => rfl | cons _ _ => simp at hml
                        subst hm0
                        obtain ⟨w', w1, w2, w3⟩ := store_blk (P := P) (off := 0) (m := []) (vs := []) (l := bc.take 0 ++ []) hc.hp hc.en hblk e1 (by simp [RelL]) rfl (by
                          obtain ⟨cs, ty, fz, r1, r2⟩ := e5
                          exact ⟨cs, ty, fz, r1, by simp⟩) (by omega) (.inl rfl)
                        have hw : w = w' := by simpa [storeCells] using w1
                        subst hw
                        have hren := post_rename w2 (n := k) (m := st.nx) (g := b) (b := ⟨bt, bc.take 0 ++ [], none⟩) (by simp [Heap.set]) e1 (by rw [e1]; simp) hc.nx
                        obtain ⟨vs, k1', k2', k3', k4'⟩ := src_ok (P := P) hc.hp (ev_ok hc.fr y) hsrc hp
                        refine ⟨_, w, E.bind st.nx b, .inl (run_append hb he (by
                          rw [hargs, hts]
                          simp only [List.map_toArray, List.map_cons, List.map_nil, hx1]
                          exact run_append_none w t tx o.type bt ht hkind _ 0 0 (Nat.le_refl _) _ j j1 k3' (vs := vs) (by rw [j4]; exact k4' w 0 rfl (Nat.le_refl _)))), ?_, ?_⟩
                        · rw [hU]
                          have : Heap.set (Heap.set (Heap.set (hget st.H) k (some ⟨bt, bc.take 0 ++ [], none⟩)) st.nx (some ⟨bt, bc.take 0 ++ [], none⟩)) k none = Heap.set (Heap.set (hget st.H) st.nx (some ⟨bt, bc.take (0 * ie.size) ++ [], none⟩)) k none := by
                            funext q
                            by_cases e' : q = k
                            · simp [Heap.set, e']
                            · simp [Heap.set, e']
                          rw [this] at hren
                          exact hren
                        · simp only [RelV]
                          refine ⟨b, o', 0, by simp [Env.bind], rfl, .inl rfl, Nat.le_refl _, (fun k hk => by cases hk), ?_⟩
                          obtain ⟨cs, ty, fz, r1, r2⟩ := e5
                          exact ⟨cs, ty, fz, r1, by simp⟩
                      · have hlt : c' < len + n := by omega
                        have o4' := o4 w.drew len rfl (Nat.le_refl _)
                        rw [hx1, ← o2, List.take_length] at o4'
                        obtain ⟨v, cs, g1, ⟨m', g2⟩, g3⟩ := grow_ok (P := P) (ty := o.type) (nx := st.nx) (C := c') ht j1 j3 hzl (L := len) o1 o2 o4' k1 k2 hlt (by omega) (by rw [j5]; exact h4)
                        have hpost := (post_alloc (w := w.drew) hc.hp.drew hc.en.drew hc.nx bt cs (RelL.le (le_drew' E w) _ _ g2)).of_drew
                        refine ⟨v, _, E.bind st.nx w.heap.size, .inl (run_append hb he (by rw [hargs, hts]; simpa [hx1] using g1)), ?_, ?_⟩
                        · rw [hU]
                          refine hpost.cut (fun q b' hb' => ?_) fun q hq hq' hq'' => ?_
                          · by_cases e' : q = k
                            · simp [Heap.set, e'] at hb'
                            · by_cases e'' : q = st.nx
                              · subst e''
                                simp only [Heap.set, e', if_false, if_true, Option.some.injEq] at hb'
                                subst hb'
                                refine ⟨⟨bt, (bc.take (len * j.size) ++ m) ++ m', none⟩, by simp [Heap.set], rfl, rfl, m', ?_⟩
                                rw [j4]
                              · simp only [Heap.set, e', e'', if_false] at hb'
                                exact ⟨b', by simp [Heap.set, e'', hb'], rfl, rfl, [], by simp⟩
                          · by_cases e' : q = k
                            · subst e'; rw [e1] at hq; cases hq
                            · by_cases e'' : q = st.nx
                              · subst e''
                                simp [Heap.set, e'] at hq''
                              · simp only [Heap.set, e', e'', if_false] at hq' hq''
                                exact absurd hq'' hq'
                        · have := g3 (E.bind st.nx w.heap.size) (by simp [Env.bind])
                          rw [j4] at this; exact this
                  · rw [List.cons_append, hset_eq, List.cons_append, hset_eq] at hm
                    unfold Heap.set at hm
                    by_cases e' : m' = k
                    · simp [e'] at hm
                    · by_cases e'' : m' = st.nx
                      · exact .inr ⟨e'', Nat.lt_succ_self _⟩
                      · simp only [e', e'', if_false] at hm; exact .inl hm
              · cases hr
            · cases hr
          · cases hr
        · cases hr
      · cases hr
    · cases hr
  · cases hr
end
#print axioms store_blk
end Go.Ai
