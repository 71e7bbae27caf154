/- Operations over symbolic values, one law each: what an operation does to a frame and a heap of named blocks. -/
import Derived.Test.YtgehagonolkhhaaGreatDoorAi1
import Derived.Deep.MidRow
import Derived.Laws.CopyRow
import Derived.Laws.IdiomCopy
namespace Go.Ai
open Go

/-! ### Lists of symbolic values and of values -/
theorem RelL.length {w : World} {E : Env} : ∀ {l : List SV} {vs : List Value}, RelL w E l vs → vs.length = l.length
  | [], vs, h => by simp only [RelL] at h; simp [h]
  | x :: l, vs, h => by
    simp only [RelL] at h
    obtain ⟨v, vs', rfl, _, h2⟩ := h
    simp [RelL.length h2]

theorem RelL.get {w : World} {E : Env} : ∀ {l : List SV} {vs : List Value}, RelL w E l vs → ∀ (i : Nat) (x : SV), l[i]? = some x → ∃ v, vs[i]? = some v ∧ RelV w E x v
  | [], _, _, i, x, hx => by simp at hx
  | y :: l, vs, h, i, x, hx => by
    simp only [RelL] at h
    obtain ⟨v, vs', rfl, h1, h2⟩ := h
    cases i with
    | zero => simp at hx; subst hx; exact ⟨v, rfl, h1⟩
    | succ i => simpa using RelL.get h2 i x (by simpa using hx)

theorem RelL.append {w : World} {E : Env} : ∀ {l m : List SV} {vs us : List Value}, RelL w E l vs → RelL w E m us → RelL w E (l ++ m) (vs ++ us)
  | [], m, vs, us, h, k => by simp only [RelL] at h; simpa [h] using k
  | x :: l, m, vs, us, h, k => by
    simp only [RelL] at h
    obtain ⟨v, vs', rfl, h1, h2⟩ := h
    simp only [List.cons_append, RelL]
    exact ⟨v, vs' ++ us, rfl, h1, RelL.append h2 k⟩

theorem RelL.take {w : World} {E : Env} : ∀ {l : List SV} {vs : List Value} (n : Nat), RelL w E l vs → RelL w E (l.take n) (vs.take n)
  | _, _, 0, _ => by simp [RelL]
  | [], vs, n + 1, h => by simp only [RelL] at h; simp [h, RelL]
  | x :: l, vs, n + 1, h => by
    simp only [RelL] at h
    obtain ⟨v, vs', rfl, h1, h2⟩ := h
    simp only [List.take_succ_cons, RelL]
    exact ⟨v, vs'.take n, rfl, h1, RelL.take n h2⟩

theorem RelL.drop {w : World} {E : Env} : ∀ {l : List SV} {vs : List Value} (n : Nat), RelL w E l vs → RelL w E (l.drop n) (vs.drop n)
  | _, _, 0, h => by simpa using h
  | [], vs, n + 1, h => by simp only [RelL] at h; simp [h, RelL]
  | x :: l, vs, n + 1, h => by
    simp only [RelL] at h
    obtain ⟨v, vs', rfl, h1, h2⟩ := h
    simpa using RelL.drop n h2

theorem RelL.vals {w : World} {E : Env} : ∀ (vs : List Value), RelL w E (vs.map SV.v) vs
  | [] => by simp [RelL]
  | v :: vs => by simp only [List.map_cons, RelL]; exact ⟨v, vs, rfl, by simp [RelV], RelL.vals vs⟩

theorem RelC_iff {w : World} {E : Env} : ∀ {l : List SV} {b off : Nat}, RelC w E l b off ↔ ∃ vs, RelL w E l vs ∧ w.rangeAt b off vs
  | [], b, off => by
    simp only [RelC, RelL, true_iff]
    exact ⟨[], rfl, fun j v hv => by simp at hv⟩
  | x :: l, b, off => by
    simp only [RelC, RelL, RelC_iff (l := l)]
    constructor
    · rintro ⟨⟨v, hc, hv⟩, vs, hl, hr⟩
      refine ⟨v :: vs, ⟨v, vs, rfl, hv, hl⟩, fun j u hu => ?_⟩
      cases j with
      | zero => simp at hu; subst hu; exact hc
      | succ j => have := hr j u (by simpa using hu); rw [show off + (j + 1) = off + 1 + j by omega]; exact this
    · rintro ⟨_, ⟨v, vs, rfl, hv, hl⟩, hr⟩
      refine ⟨⟨v, by simpa using hr 0 v rfl, hv⟩, vs, hl, fun j u hu => ?_⟩
      have := hr (j + 1) u (by simpa using hu)
      rw [show off + 1 + j = off + (j + 1) by omega]; exact this

theorem RelC.drop {w : World} {E : Env} : ∀ {l : List SV} {b off : Nat} (n : Nat), RelC w E l b off → RelC w E (l.drop n) b (off + n)
  | _, _, _, 0, h => by simpa using h
  | [], _, _, n + 1, _ => by simp [RelC]
  | x :: l, b, off, n + 1, h => by
    simp only [RelC] at h
    have := RelC.drop n h.2
    rw [show off + (n + 1) = off + 1 + n by omega]
    simpa using this

theorem RelC.take {w : World} {E : Env} : ∀ {l : List SV} {b off : Nat} (n : Nat), RelC w E l b off → RelC w E (l.take n) b off
  | _, _, _, 0, _ => by simp [RelC]
  | [], _, _, n + 1, _ => by simp [RelC]
  | x :: l, b, off, n + 1, h => by
    simp only [RelC] at h
    simp only [List.take_succ_cons, RelC]
    exact ⟨h.1, RelC.take n h.2⟩

theorem RelE.get {w : World} {E : Env} {sz b : Nat} : ∀ {l : List (List SV)} {off : Nat}, RelE w E l b off sz → ∀ (i : Nat) (e : List SV), l[i]? = some e → e.length = sz ∧ RelC w E e b (off + i * sz)
  | [], _, _, i, e, he => by simp at he
  | e' :: l, off, h, i, e, he => by
    simp only [RelE] at h
    obtain ⟨h1, h2, h3⟩ := h
    cases i with
    | zero => simp at he; subst he; exact ⟨h1, by simpa using h2⟩
    | succ i =>
      have := RelE.get h3 i e (by simpa using he)
      refine ⟨this.1, ?_⟩
      rw [show off + (i + 1) * sz = off + sz + i * sz by rw [Nat.add_mul]; omega]
      exact this.2

/-! ### A value that may lie in one cell -/
def SV.one : SV → Bool
  | .any | .agg _ | .tup _ => false
  | .v x => x.oneCell'
  | _ => true

theorem one_ok {w : World} {E : Env} {x : SV} {v : Value} (h : RelV w E x v) (h1 : x.one = true) : v.oneCell' = true := by
  cases x with
  | any => simp [SV.one] at h1
  | v y => simp only [RelV] at h; subst h; exact h1
  | p n off => simp only [RelV] at h; obtain ⟨b, _, rfl⟩ := h; rfl
  | s sz n off len cap => simp only [RelV] at h; obtain ⟨b, o, c, _, rfl, _⟩ := h; rfl
  | xs sz cap l => simp only [RelV] at h; obtain ⟨b, c, rfl, _⟩ := h; rfl
  | pe l => simp only [RelV] at h; obtain ⟨b, c, rfl, _⟩ := h; rfl
  | agg l => simp [SV.one] at h1
  | tup l => simp [SV.one] at h1
  | clo f a b => simp only [RelV] at h; obtain ⟨b, c, rfl, _⟩ := h; rfl
  | m n => simp only [RelV] at h; obtain ⟨b, _, rfl⟩ := h; rfl

def allOne : List SV → Bool
  | [] => true
  | x :: l => x.one && allOne l

theorem allOne_ok {w : World} {E : Env} : ∀ {l : List SV} {vs : List Value}, RelL w E l vs → allOne l = true → ∀ v ∈ vs, v.oneCell' = true
  | [], vs, h, _ => by simp only [RelL] at h; simp [h]
  | x :: l, vs, h, h1 => by
    simp only [allOne, Bool.and_eq_true] at h1
    simp only [RelL] at h
    obtain ⟨v, vs', rfl, hv, hl⟩ := h
    intro u hu
    rcases List.mem_cons.1 hu with rfl | hu
    · exact one_ok hv h1.1
    · exact allOne_ok hl h1.2 u hu

/-- The cells of a value. -/
def SV.cells : SV → List SV
  | .agg l => l
  | x => [x]

/-- Known to be no aggregate, or an aggregate written out. -/
def SV.flat : SV → Bool
  | .any | .tup _ => false
  | .v x => x.oneCell'
  | _ => true

theorem cells_ok {w : World} {E : Env} {x : SV} {v : Value} (h : RelV w E x v) (hf : x.flat = true) : RelL w E x.cells v.cells.toList := by
  cases x with
  | any => simp [SV.flat] at hf
  | v y =>
    simp only [RelV] at h; subst h
    cases v <;> first
      | (simp [SV.flat, Value.oneCell'] at hf; done)
      | (simp [SV.cells, Value.cells, RelL, RelV])
  | p n off => simp only [RelV] at h; obtain ⟨b, hb, rfl⟩ := h; simp [SV.cells, Value.cells, RelL, RelV, hb]
  | s sz n off len cap =>
    have h' := h
    simp only [RelV] at h; obtain ⟨b, o, c, _, rfl, _⟩ := h
    simp only [SV.cells, Value.cells, RelL]; exact ⟨_, [], rfl, h', rfl⟩
  | xs sz cap l =>
    have h' := h
    simp only [RelV] at h; obtain ⟨b, c, rfl, _⟩ := h
    simp only [SV.cells, Value.cells, RelL]; exact ⟨_, [], rfl, h', rfl⟩
  | pe l =>
    have h' := h
    simp only [RelV] at h; obtain ⟨b, c, rfl, _⟩ := h
    simp only [SV.cells, Value.cells, RelL]; exact ⟨_, [], rfl, h', rfl⟩
  | agg l => simp only [RelV] at h; obtain ⟨c, rfl, h⟩ := h; exact h
  | tup l => simp [SV.flat] at hf
  | clo f a b =>
    have h' := h
    simp only [RelV] at h; obtain ⟨b, c, rfl, _⟩ := h
    simp only [SV.cells, Value.cells, RelL]; exact ⟨_, [], rfl, h', rfl⟩
  | m n =>
    have h' := h
    simp only [RelV] at h; obtain ⟨b, _, rfl⟩ := h
    simp only [SV.cells, Value.cells, RelL]; exact ⟨_, [], rfl, h', rfl⟩

/-! ### Frames -/
abbrev Fr := Nat → Option SV

def ev (σ : Fr) : Operand → SV
  | .tmp t => (σ t).getD .any
  | .const v => .v v
  | .global g => .v (.pointer (some ⟨g, 0, none⟩))
  | .func f => .clo (.func f) [] []

def FrOK (E : Env) (w : World) (σ : Fr) (tmps : Array Value) : Prop := ∀ t x, σ t = some x → t < tmps.size ∧ RelV w E x (tmps.getD t undef)

theorem ev_ok {E : Env} {w : World} {σ : Fr} {a : Act} (h : FrOK E w σ a.tmps) (z : Operand) : RelV w E (ev σ z) (a.eval z) := by
  cases z with
  | tmp t =>
    simp only [ev, Act.eval]
    cases e : σ t with
    | none => simp [RelV]
    | some x => simpa using (h t x e).2
  | const v => simp [ev, Act.eval, RelV]
  | global g => simp [ev, Act.eval, RelV]
  | func f => simp only [ev, Act.eval, RelV]; exact ⟨#[], #[], rfl, by simp [RelL], by simp [RelL]⟩

/-! ### What an operation does -/
def Heap.set (H : Heap) (n : Nat) (b : Option Blk) : Heap := fun m => if m = n then b else H m

/-- The operation runs through, gives x, and leaves the heap H'. -/
def OpRun (P : Program) (s : Sem Next) (E : Env) (w : World) (H : Heap) (x : SV) (H' : Heap) : Prop :=
  ∃ v w' E', ((s.run P w = .ok (.value v) w') ∨ (s.run P w = .ok .skip w' ∧ v = undef)) ∧ Post E w H E' w' H' ∧ RelV w' E' x v

theorem OpRun.pure {P : Program} {s : Sem Next} {E : Env} {w : World} {H : Heap} {x : SV} {v : Value} (hH : HeapOK E w H) (hE : EnvOK E w)
    (hs : s.run P w = .ok (.value v) w) (hx : RelV w E x v) : OpRun P s E w H x H := ⟨v, w, E, .inl hs, .refl hH hE, hx⟩

def Env.bind (E : Env) (n k : Nat) : Env := ⟨fun m => if m = n then some k else E.ι m, E.I⟩

theorem HasRoom.alloc {w : World} {b k : Nat} (o : Obj) (h : HasRoom w b k) : HasRoom (w.alloc o) b k := by
  obtain ⟨cs, ty, fz, h1, h2⟩ := h
  have hlt : b < w.heap.size := (Array.getElem?_eq_some_iff.1 h1).1
  exact ⟨cs, ty, fz, by rw [RowKit.Below.heap_alloc w o b hlt]; exact h1, h2⟩

theorem heap_alloc_new (w : World) (o : Obj) : (w.alloc o).heap[w.heap.size]? = some o := by
  show (w.heap.push o)[w.heap.size]? = _
  simp

theorem Le.alloc {E : Env} {w : World} (o : Obj) {n : Nat} (hE : EnvOK E w) (hn : E.ι n = none) : Le E w (E.bind n w.heap.size) (w.alloc o) := by
  refine ⟨?_, ?_, fun b k h => h.alloc o⟩
  · intro m b hm
    have : m ≠ n := by intro e; subst e; rw [hn] at hm; cases hm
    simp [Env.bind, this, hm]
  · intro b hb
    exact ⟨hb, RowKit.Below.heap_alloc w o b (hE.I b hb)⟩

/-- A new block gets a name. -/
theorem post_alloc {E : Env} {w : World} {H : Heap} (hH : HeapOK E w H) (hE : EnvOK E w) {n : Nat} (hn : E.ι n = none) (t : TypeId) (cs : Array Value) {l : List SV} (hl : RelL w E l cs.toList) :
    Post E w H (E.bind n w.heap.size) (w.alloc (.cells cs t)) (H.set n (some ⟨t, l, none⟩)) := by
  have hle := Le.alloc (.cells cs t) hE hn
  have hnot : ∀ m k, m ≠ n → (E.bind n w.heap.size).ι m = some k → k < w.heap.size := by
    intro m k hm hk; simp only [Env.bind, hm, if_false] at hk; exact hE.ι m k hk
  refine ⟨hle.ι, fun k h => h, ⟨rfl, rfl, rfl, by simp, fun k hk _ => RowKit.Below.heap_alloc _ _ _ hk, hle.room⟩, ⟨?_, ?_⟩, ⟨?_, ?_⟩, fun k h => .inl h, ?_, ?_⟩
  · intro m b hm
    by_cases e : m = n
    · subst e
      simp only [Heap.set, if_true, Option.some.injEq] at hm
      subst hm
      refine ⟨w.heap.size, _, by simp [Env.bind], fun hI => Nat.lt_irrefl _ (hE.I _ hI), heap_alloc_new _ _, ⟨cs, rfl⟩, ?_⟩
      rw [RelC_iff]
      exact ⟨cs.toList, RelL.le hle _ _ hl, fun j v hv => by simpa using hv⟩
    · simp only [Heap.set, e, if_false] at hm
      obtain ⟨k, cs', h1, h2, h3, h3', h4⟩ := hH.blk m b hm
      have hb := RowKit.Below.heap_alloc w (.cells cs t) k (hE.ι m k h1)
      exact ⟨k, cs', by simp [Env.bind, e, h1], h2, by rw [hb]; exact h3, h3', RelC.le hle _ _ _ hb h4⟩
  · intro m m' k hm hm' hk hk'
    by_cases e : m = n
    · by_cases e' : m' = n
      · rw [e, e']
      · have := hnot m' k e' hk'
        subst e
        simp only [Env.bind, if_true, Option.some.injEq] at hk
        omega
    · by_cases e' : m' = n
      · have := hnot m k e hk
        subst e'
        simp only [Env.bind, if_true, Option.some.injEq] at hk'
        omega
      · simp only [Heap.set, e, e', if_false] at hm hm'
        simp only [Env.bind, e, e', if_false] at hk hk'
        exact hH.inj m m' k hm hm' hk hk'
  · intro k hk; simp; exact Nat.lt_succ_of_lt (hE.I k hk)
  · intro m k hk
    by_cases e : m = n
    · subst e; simp only [Env.bind, if_true, Option.some.injEq] at hk; subst hk; simp
    · have := hnot m k e hk; simp; omega
  · intro m k hm hk
    by_cases e : m = n
    · subst e; simp only [Env.bind, if_true, Option.some.injEq] at hk; subst hk; exact .inl (Nat.le_refl _)
    · simp only [Heap.set, e, if_false] at hm
      simp only [Env.bind, e, if_false] at hk
      exact .inr ⟨m, hm, hk⟩
  · intro m hm hm'
    by_cases e : m = n
    · subst e; simp [Heap.set] at hm'
    · simpa [Env.bind, e] using hm

theorem heap_setRow_other (w : World) (g : Nat) (cs : Array Value) (k : Nat) (h : k ≠ g) : (w.setRow g cs).heap[k]? = w.heap[k]? := by
  simp only [World.setRow, Array.getElem?_modify]
  rw [if_neg (by omega)]

theorem size_setRow (w : World) (g : Nat) (cs : Array Value) : (w.setRow g cs).heap.size = w.heap.size := by simp [World.setRow]

theorem HasRoom.setRow {w : World} {b k g : Nat} {old cs : Array Value} {t : TypeId} {fz : Nat × Nat} (hg : w.heap[g]? = some (.cells old t fz)) (hs : cs.size = old.size) (h : HasRoom w b k) : HasRoom (w.setRow g cs) b k := by
  obtain ⟨c, ty, f, h1, h2⟩ := h
  by_cases e : b = g
  · subst e
    rw [hg] at h1; cases h1
    exact ⟨cs, t, fz, setRow_heap w b old cs t fz hg, by omega⟩
  · exact ⟨c, ty, f, by rw [heap_setRow_other w g cs b e]; exact h1, h2⟩

/-- A named block is written. -/
theorem post_set {E : Env} {w : World} {H : Heap} (hH : HeapOK E w H) (hE : EnvOK E w) {n : Nat} {b : Blk} (hb : H n = some b) {g : Nat} (hg : E.ι n = some g) {old cs : Array Value}
    (hold : w.heap[g]? = some (.cells old b.ty (0, 0))) (hs : cs.size = old.size) {l : List SV} (hl : ∃ vs, RelL w E l vs ∧ ∀ (j : Nat) (v : Value), vs[j]? = some v → cs[j]? = some v) :
    Post E w H E (w.setRow g cs) (H.set n (some ⟨b.ty, l, none⟩)) := by
  have hnI : ¬ E.I g := by
    obtain ⟨k, _, h1, h2, _⟩ := hH.blk n b hb
    rw [hg] at h1; cases h1; exact h2
  have hle : Le E w E (w.setRow g cs) := by
    refine ⟨fun _ _ h => h, fun k hk => ⟨hk, heap_setRow_other _ _ _ _ (fun e => hnI (e ▸ hk))⟩, fun _ _ h => h.setRow hold hs⟩
  have hHn : ∀ m, (H.set n (some ⟨b.ty, l, none⟩)) m ≠ none → H m ≠ none := by
    intro m hm
    by_cases e : m = n
    · subst e; simp [hb]
    · simpa [Heap.set, e] using hm
  refine ⟨fun _ _ h => h, fun _ h => h, ⟨rfl, rfl, rfl, by rw [size_setRow]; exact Nat.le_refl _, ?_, hle.room⟩, ⟨?_, ?_⟩, ⟨fun k h => by rw [size_setRow]; exact hE.I k h, fun m k h => by rw [size_setRow]; exact hE.ι m k h⟩, fun k h => .inl h, fun m k hm hk => .inr ⟨m, hHn m hm, hk⟩, fun m hm _ => hm⟩
  · intro k _ hk
    exact heap_setRow_other _ _ _ _ (fun e => hk ⟨n, by simp [hb], by rw [e]; exact hg⟩)
  · intro m c hm
    by_cases e : m = n
    · subst e
      simp only [Heap.set, if_true, Option.some.injEq] at hm
      subst hm
      refine ⟨g, _, hg, hnI, setRow_heap w g old cs b.ty (0, 0) hold, ⟨cs, rfl⟩, ?_⟩
      obtain ⟨vs, h1, h2⟩ := hl
      rw [RelC_iff]
      refine ⟨vs, RelL.le hle _ _ h1, fun j v hv => ?_⟩
      simp only [World.cell?, setRow_heap w g old cs b.ty (0, 0) hold]
      simpa using h2 j v hv
    · simp only [Heap.set, e, if_false] at hm
      obtain ⟨k, cs', h1, h2, h3, h3', h4⟩ := hH.blk m c hm
      have hne : k ≠ g := by
        intro e'; subst e'
        exact e (hH.inj m n k (by simp [hm]) (by simp [hb]) h1 hg)
      have hbk := heap_setRow_other w g cs k hne
      exact ⟨k, cs', h1, h2, by rw [hbk]; exact h3, h3', RelC.le hle _ _ _ hbk h4⟩
  · intro m m' k hm hm' hk hk'
    exact hH.inj m m' k (hHn m hm) (hHn m' hm') hk hk'

#print axioms post_set
end Go.Ai
