/- A logic of symbolic values over the kit's walk: values, environments, and how they keep while memory grows. -/
import Derived.WalkKit
import Derived.Below
namespace Go.Ai
open Go

/-- Symbolic values: scalars as they are; pointers and slices into named blocks; slices that nobody writes any more, as lists. -/
inductive SV where
  | any
  | v (x : Value)
  | p (n off : Nat)
  | s (sz n off len : Nat) (cap : Option Nat)
  | xs (sz : Nat) (cap : Option Nat) (l : List (List SV))
  | pe (l : List SV)
  | agg (l : List SV)
  | tup (l : List SV)
  | clo (f : Fn) (first cap : List SV)
  | m (n : Nat)

structure Env where
  ι : Nat → Option Nat
  I : Nat → Prop

def HasRoom (w : World) (b k : Nat) : Prop := ∃ cs ty fz, w.heap[b]? = some (.cells cs ty fz) ∧ k ≤ cs.size

/-- The environment without names: what nobody writes any more names no block. -/
def Env.base (E : Env) : Env := ⟨fun _ => none, E.I⟩

mutual
def RelV (w : World) : Env → SV → Value → Prop
  | _, .any, _ => True
  | _, .v x, v => v = x
  | E, .p n off, v => ∃ b, E.ι n = some b ∧ v = .pointer (some ⟨b, off, none⟩)
  | E, .s sz n off len cap, v => ∃ b o c, E.ι n = some b ∧ v = .slice (some ⟨b, o, none⟩) len c ∧ (c = 0 ∨ o = off) ∧ len ≤ c ∧ (∀ k, cap = some k → c = k) ∧ HasRoom w b (off + c * sz)
  | E, .xs sz cap l, v => ∃ a c, v = .slice a l.length c ∧ l.length ≤ c ∧ (∀ k, cap = some k → c = k) ∧ (l = [] ∨ ∃ b off, a = some ⟨b, off, none⟩ ∧ E.I b ∧ HasRoom w b (off + c * sz) ∧ RelE w E.base l b off sz)
  | E, .pe l, v => ∃ b off, v = .pointer (some ⟨b, off, none⟩) ∧ E.I b ∧ RelC w E.base l b off
  | E, .agg l, v => ∃ c : Array Value, v = .agg c ∧ RelL w E l c.toList
  | E, .tup l, v => ∃ c : Array Value, v = .tuple c ∧ RelL w E l c.toList
  | E, .clo f first cap, v => ∃ a b : Array Value, v = .func f a b ∧ RelL w E first a.toList ∧ RelL w E cap b.toList
  | E, .m n, v => ∃ b, E.ι n = some b ∧ v = .map (some b)
def RelL (w : World) : Env → List SV → List Value → Prop
  | _, [], vs => vs = []
  | E, x :: l, vs => ∃ v vs', vs = v :: vs' ∧ RelV w E x v ∧ RelL w E l vs'
def RelC (w : World) : Env → List SV → Nat → Nat → Prop
  | _, [], _, _ => True
  | E, x :: l, b, off => (∃ v, w.cell? ⟨b, off, none⟩ = some v ∧ RelV w E x v) ∧ RelC w E l b (off + 1)
def RelE (w : World) : Env → List (List SV) → Nat → Nat → Nat → Prop
  | _, [], _, _, _ => True
  | E, e :: l, b, off, sz => e.length = sz ∧ RelC w E e b off ∧ RelE w E l b (off + sz) sz
end

/-- What is known stays known. -/
structure Le (E : Env) (w : World) (E' : Env) (w' : World) : Prop where
  ι : ∀ n b, E.ι n = some b → E'.ι n = some b
  I : ∀ b, E.I b → E'.I b ∧ w'.heap[b]? = w.heap[b]?
  room : ∀ b k, HasRoom w b k → HasRoom w' b k

theorem Le.refl (E : Env) (w : World) : Le E w E w := ⟨fun _ _ h => h, fun _ h => ⟨h, rfl⟩, fun _ _ h => h⟩
theorem Le.trans {E E' E'' : Env} {w w' w'' : World} (h : Le E w E' w') (k : Le E' w' E'' w'') : Le E w E'' w'' :=
  ⟨fun n b hn => k.ι n b (h.ι n b hn), fun b hb => ⟨(k.I b (h.I b hb).1).1, (k.I b (h.I b hb).1).2.trans (h.I b hb).2⟩, fun b n hb => k.room b n (h.room b n hb)⟩

theorem Le.base {E E' : Env} {w w' : World} (h : Le E w E' w') : Le E.base w E'.base w' := ⟨fun n b hn => by simp [Env.base] at hn, h.I, h.room⟩

theorem cell_of_block {w w' : World} {b off : Nat} (h : w'.heap[b]? = w.heap[b]?) : w'.cell? ⟨b, off, none⟩ = w.cell? ⟨b, off, none⟩ := by
  simp only [World.cell?, h]

mutual
theorem RelV.le {w w' : World} : ∀ {E E' : Env} (_ : Le E w E' w') (x : SV) (v : Value), RelV w E x v → RelV w' E' x v
  | _, _, _, .any, _, _ => by simp [RelV]
  | _, _, _, .v x, v, hv => by simpa [RelV] using hv
  | _, _, h, .p n off, v, hv => by
    simp only [RelV] at hv ⊢
    obtain ⟨b, hb, rfl⟩ := hv
    exact ⟨b, h.ι _ _ hb, rfl⟩
  | _, _, h, .s sz n off len cap, v, hv => by
    simp only [RelV] at hv ⊢
    obtain ⟨b, o, c, hb, rfl, h0, h1, h2, h3⟩ := hv
    exact ⟨b, o, c, h.ι _ _ hb, rfl, h0, h1, h2, h.room _ _ h3⟩
  | _, _, h, .xs sz cap l, v, hv => by
    simp only [RelV] at hv ⊢
    obtain ⟨a, c, rfl, h1, h0, h2⟩ := hv
    refine ⟨a, c, rfl, h1, h0, ?_⟩
    rcases h2 with h2 | ⟨b, off, rfl, hI, hr, h2⟩
    · exact .inl h2
    · exact .inr ⟨b, off, rfl, (h.I b hI).1, h.room _ _ hr, RelE.le h.base l b off sz hI h2⟩
  | _, _, h, .pe l, v, hv => by
    simp only [RelV] at hv ⊢
    obtain ⟨b, off, rfl, hI, h2⟩ := hv
    exact ⟨b, off, rfl, (h.I b hI).1, RelC.le h.base l b off (h.I b hI).2 h2⟩
  | _, _, h, .agg l, v, hv => by
    simp only [RelV] at hv ⊢
    obtain ⟨c, rfl, h2⟩ := hv
    exact ⟨c, rfl, RelL.le h l _ h2⟩
  | _, _, h, .tup l, v, hv => by
    simp only [RelV] at hv ⊢
    obtain ⟨c, rfl, h2⟩ := hv
    exact ⟨c, rfl, RelL.le h l _ h2⟩
  | _, _, h, .clo f a b, v, hv => by
    simp only [RelV] at hv ⊢
    obtain ⟨x, y, rfl, h1, h2⟩ := hv
    exact ⟨x, y, rfl, RelL.le h a _ h1, RelL.le h b _ h2⟩
  | _, _, h, .m n, v, hv => by
    simp only [RelV] at hv ⊢
    obtain ⟨b, hb, rfl⟩ := hv
    exact ⟨b, h.ι _ _ hb, rfl⟩
theorem RelL.le {w w' : World} : ∀ {E E' : Env} (_ : Le E w E' w') (l : List SV) (vs : List Value), RelL w E l vs → RelL w' E' l vs
  | _, _, _, [], vs, hv => by simpa [RelL] using hv
  | _, _, h, x :: l, vs, hv => by
    simp only [RelL] at hv ⊢
    obtain ⟨v, vs', rfl, h1, h2⟩ := hv
    exact ⟨v, vs', rfl, RelV.le h x v h1, RelL.le h l vs' h2⟩
theorem RelC.le {w w' : World} : ∀ {E E' : Env} (_ : Le E w E' w') (l : List SV) (b off : Nat), w'.heap[b]? = w.heap[b]? → RelC w E l b off → RelC w' E' l b off
  | _, _, _, [], _, _, _, _ => by simp [RelC]
  | _, _, h, x :: l, b, off, hb, hv => by
    simp only [RelC] at hv ⊢
    obtain ⟨⟨v, h1, h2⟩, h3⟩ := hv
    exact ⟨⟨v, by rw [cell_of_block hb]; exact h1, RelV.le h x v h2⟩, RelC.le h l b _ hb h3⟩
theorem RelE.le {w w' : World} : ∀ {E E' : Env} (_ : Le E w E' w') (l : List (List SV)) (b off sz : Nat), E.I b → RelE w E l b off sz → RelE w' E' l b off sz
  | _, _, _, [], _, _, _, _, _ => by simp [RelE]
  | _, _, h, e :: l, b, off, sz, hb, hv => by
    simp only [RelE] at hv ⊢
    obtain ⟨h1, h2, h3⟩ := hv
    exact ⟨h1, RelC.le h e b off (h.I b hb).2 h2, RelE.le h l b _ sz hb h3⟩
end

structure Blk where
  ty : TypeId
  cells : List SV
  mp : Option (List (Value × Value))

/-- What lies in memory: cells, or a map. -/
def ObjIs (o : Obj) (b : Blk) : Prop :=
  match b.mp with
  | none => ∃ cs, o = .cells cs b.ty (0, 0)
  | some l => ∃ es c, o = .map es c ∧ es.toList.map (fun e => (e.key, e.val)) = l

abbrev Heap := Nat → Option Blk

def BlkOK (E : Env) (w : World) (n : Nat) (b : Blk) : Prop :=
  ∃ k o, E.ι n = some k ∧ ¬ E.I k ∧ w.heap[k]? = some o ∧ ObjIs o b ∧ RelC w E b.cells k 0

structure HeapOK (E : Env) (w : World) (H : Heap) : Prop where
  blk : ∀ n b, H n = some b → BlkOK E w n b
  inj : ∀ n m k, H n ≠ none → H m ≠ none → E.ι n = some k → E.ι m = some k → n = m

structure EnvOK (E : Env) (w : World) : Prop where
  I : ∀ k, E.I k → k < w.heap.size
  ι : ∀ n k, E.ι n = some k → k < w.heap.size

/-- The blocks that a heap names. -/
def Foot (E : Env) (H : Heap) (k : Nat) : Prop := ∃ n, H n ≠ none ∧ E.ι n = some k

/-- Outside of S nothing that was there has changed. -/
structure Out (S : Nat → Prop) (w w' : World) : Prop where
  os : w'.os = w.os
  tape : w'.tape = w.tape
  output : w'.output = w.output
  size : w.heap.size ≤ w'.heap.size
  block : ∀ k, k < w.heap.size → ¬ S k → w'.heap[k]? = w.heap[k]?
  room : ∀ b n, HasRoom w b n → HasRoom w' b n

theorem Out.refl (S : Nat → Prop) (w : World) : Out S w w := ⟨rfl, rfl, rfl, Nat.le_refl _, fun _ _ _ => rfl, fun _ _ h => h⟩
theorem Out.trans {S S' : Nat → Prop} {a b c : World} (h : Out S a b) (k : Out S' b c) (hS : ∀ n, n < a.heap.size → S' n → S n) : Out S a c :=
  ⟨k.os.trans h.os, k.tape.trans h.tape, k.output.trans h.output, Nat.le_trans h.size k.size,
    fun i hi hs => (k.block i (Nat.lt_of_lt_of_le hi h.size) (fun h' => hs (hS i hi h'))).trans (h.block i hi hs), fun b j hb => k.room b j (h.room b j hb)⟩
theorem Out.drew (S : Nat → Prop) (w : World) : Out S w w.drew := ⟨rfl, rfl, rfl, Nat.le_refl _, fun _ _ _ => rfl, fun _ _ h => h⟩

/-- What a piece of code that was given the heap H leaves: the heap H'. -/
structure Post (E : Env) (w : World) (H : Heap) (E' : Env) (w' : World) (H' : Heap) : Prop where
  ι : ∀ n b, E.ι n = some b → E'.ι n = some b
  I : ∀ k, E.I k → E'.I k
  out : Out (Foot E H) w w'
  heap : HeapOK E' w' H'
  env : EnvOK E' w'
  newI : ∀ k, E'.I k → E.I k ∨ w.heap.size ≤ k ∨ Foot E H k
  newι : ∀ n k, H' n ≠ none → E'.ι n = some k → w.heap.size ≤ k ∨ Foot E H k
  dom : ∀ n, E.ι n = none → H' n = none → E'.ι n = none

theorem foot_notI {E : Env} {w : World} {H : Heap} (h : HeapOK E w H) {k : Nat} (hk : Foot E H k) : ¬ E.I k := by
  obtain ⟨n, hn, hk⟩ := hk
  cases hb : H n with
  | none => exact (hn hb).elim
  | some b =>
    obtain ⟨k', cs, h1, h2, _⟩ := h.blk n b hb
    rw [hk] at h1
    cases h1
    exact h2

theorem Post.le {E E' : Env} {w w' : World} {H H' : Heap} (hH : HeapOK E w H) (hE : EnvOK E w) (h : Post E w H E' w' H') : Le E w E' w' :=
  ⟨h.ι, fun b hb => ⟨h.I b hb, h.out.block b (hE.I b hb) (fun hf => foot_notI hH hf hb)⟩, h.out.room⟩

theorem Post.refl {E : Env} {w : World} {H : Heap} (hH : HeapOK E w H) (hE : EnvOK E w) : Post E w H E w H :=
  ⟨fun _ _ h => h, fun _ h => h, .refl _ _, hH, hE, fun _ h => .inl h, fun n k hn hk => .inr ⟨n, hn, hk⟩, fun _ h _ => h⟩

/-- Two heaps beside one another. -/
def Heap.or (A B : Heap) : Heap := fun n => match A n with | some b => some b | none => B n

/-- A part of the heap is handed to a piece of code; the rest stays. -/
theorem frame_rule {E E' : Env} {w w' : World} {A A' R : Heap} (hdis : ∀ n, A n ≠ none → R n = none)
    (hH : HeapOK E w (A.or R)) (hE : EnvOK E w) (h : Post E w A E' w' A') : Post E w (A.or R) E' w' (A'.or R) := by
  have hA : HeapOK E w A := ⟨fun n b hn => hH.blk n b (by simp [Heap.or, hn]), fun n m k hn hm => hH.inj n m k
    (by cases e : A n with | none => exact (hn e).elim | some b => simp [Heap.or, e]) (by cases e : A m with | none => exact (hm e).elim | some b => simp [Heap.or, e])⟩
  have hle := h.le hA hE
  have orA : ∀ n, A n ≠ none → (A.or R) n ≠ none := by
    intro n hn; cases e : A n with | none => exact (hn e).elim | some b => simp [Heap.or, e]
  have orR : ∀ n, R n ≠ none → A n = none ∧ (A.or R) n ≠ none := by
    intro n hn
    have : A n = none := by
      cases e : A n with
      | none => rfl
      | some b => exact (hn (hdis n (by simp [e]))).elim
    exact ⟨this, by simpa [Heap.or, this] using hn⟩
  -- the rest's blocks are none of A's
  have hRfoot : ∀ n k, R n ≠ none → E.ι n = some k → k < w.heap.size ∧ ¬ Foot E A k ∧ ¬ E'.I k ∧ E'.ι n = some k := by
    intro n k hn hk
    have hlt := hE.ι n k hk
    have hnf : ¬ Foot E A k := by
      rintro ⟨m, hm, hmk⟩
      have := hH.inj n m k (orR n hn).2 (orA m hm) hk hmk
      subst this
      exact hn (hdis n hm)
    refine ⟨hlt, hnf, ?_, h.ι n k hk⟩
    intro hI
    rcases h.newI k hI with h1 | h1 | h1
    · exact foot_notI hH ⟨n, (orR n hn).2, hk⟩ h1
    · omega
    · exact hnf h1
  have hRι : ∀ n, R n ≠ none → ∃ k, E.ι n = some k := by
    intro n hn
    cases e : R n with
    | none => exact (hn e).elim
    | some b =>
      obtain ⟨k, cs, h1, _⟩ := hH.blk n b (by simp [Heap.or, (orR n hn).1, e])
      exact ⟨k, h1⟩
  refine ⟨h.ι, h.I, ⟨h.out.os, h.out.tape, h.out.output, h.out.size, ?_, h.out.room⟩, ⟨?_, ?_⟩, h.env, ?_, ?_, ?_⟩
  · intro k hk hs
    exact h.out.block k hk (fun ⟨n, hn, hnk⟩ => hs ⟨n, orA n hn, hnk⟩)
  · intro n b hn
    cases e : A' n with
    | some b' =>
      have : b' = b := by simpa [Heap.or, e] using hn
      subst this
      exact h.heap.blk n b' e
    | none =>
      have hR : R n = some b := by simpa [Heap.or, e] using hn
      have hRn : R n ≠ none := by simp [hR]
      obtain ⟨k, cs, h1, h2, h3, h3', h4⟩ := hH.blk n b (by simp [Heap.or, (orR n hRn).1, hR])
      obtain ⟨hlt, hnf, hnI, hι⟩ := hRfoot n k hRn h1
      have hb := h.out.block k hlt hnf
      exact ⟨k, cs, hι, hnI, by rw [hb]; exact h3, h3', RelC.le hle _ _ _ hb h4⟩
  · intro n m k hn hm hnk hmk
    cases e : A' n with
    | some b =>
      cases e' : A' m with
      | some b' => exact h.heap.inj n m k (by simp [e]) (by simp [e']) hnk hmk
      | none =>
        have hR : R m ≠ none := by simpa [Heap.or, e'] using hm
        obtain ⟨k', hk'⟩ := hRι m hR
        obtain ⟨hlt, hnf, _, hι⟩ := hRfoot m k' hR hk'
        rw [hι] at hmk; cases hmk
        rcases h.newι n k (by simp [e]) hnk with h1 | h1
        · omega
        · exact (hnf h1).elim
    | none =>
      have hR : R n ≠ none := by simpa [Heap.or, e] using hn
      obtain ⟨k', hk'⟩ := hRι n hR
      obtain ⟨hlt, hnf, _, hι⟩ := hRfoot n k' hR hk'
      rw [hι] at hnk; cases hnk
      cases e' : A' m with
      | some b' =>
        rcases h.newι m k (by simp [e']) hmk with h1 | h1
        · omega
        · exact (hnf h1).elim
      | none =>
        have hR' : R m ≠ none := by simpa [Heap.or, e'] using hm
        obtain ⟨k'', hk''⟩ := hRι m hR'
        obtain ⟨_, _, _, hι'⟩ := hRfoot m k'' hR' hk''
        rw [hι'] at hmk; cases hmk
        exact hH.inj n m k (orR n hR).2 (orR m hR').2 hk' hk''
  · intro k hk
    rcases h.newI k hk with h1 | h1 | ⟨n, hn, hnk⟩
    · exact .inl h1
    · exact .inr (.inl h1)
    · exact .inr (.inr ⟨n, orA n hn, hnk⟩)
  · intro n k hn hnk
    cases e : A' n with
    | some b =>
      rcases h.newι n k (by simp [e]) hnk with h1 | ⟨m, hm, hmk⟩
      · exact .inl h1
      · exact .inr ⟨m, orA m hm, hmk⟩
    | none =>
      have hR : R n ≠ none := by simpa [Heap.or, e] using hn
      obtain ⟨k', hk'⟩ := hRι n hR
      obtain ⟨_, _, _, hι⟩ := hRfoot n k' hR hk'
      rw [hι] at hnk; cases hnk
      exact .inr ⟨n, (orR n hR).2, hk'⟩
  · intro n hn hn'
    refine h.dom n hn ?_
    cases e : A' n with
    | none => rfl
    | some b => simp [Heap.or, e] at hn'

mutual
/-- The names that a symbolic value bears are all in D. -/
def SV.namesIn (D : Nat → Bool) : SV → Bool
  | .any | .v _ | .xs _ _ _ | .pe _ => true
  | .p n _ | .s _ n _ _ _ | .m n => D n
  | .agg l | .tup l => namesInL D l
  | .clo _ a b => namesInL D a && namesInL D b
def namesInL (D : Nat → Bool) : List SV → Bool
  | [] => true
  | x :: l => x.namesIn D && namesInL D l
end

def Env.only (E : Env) (D : Nat → Bool) : Env := ⟨fun n => if D n then E.ι n else none, E.I⟩

mutual
theorem RelV.only {w : World} {E : Env} {D : Nat → Bool} : ∀ (x : SV) (v : Value), x.namesIn D = true → RelV w E x v → RelV w (E.only D) x v
  | .any, _, _, _ => by simp [RelV]
  | .v x, v, _, hv => by simpa [RelV] using hv
  | .p n off, v, hn, hv => by
    simp only [SV.namesIn] at hn
    simp only [RelV, Env.only, hn, if_true] at hv ⊢
    exact hv
  | .s sz n off len cap, v, hn, hv => by
    simp only [SV.namesIn] at hn
    simp only [RelV, Env.only, hn, if_true] at hv ⊢
    exact hv
  | .xs sz cap l, v, _, hv => by
    simp only [RelV, Env.only, Env.base] at hv ⊢
    exact hv
  | .pe l, v, _, hv => by
    simp only [RelV, Env.only, Env.base] at hv ⊢
    exact hv
  | .agg l, v, hn, hv => by
    simp only [SV.namesIn] at hn
    simp only [RelV] at hv ⊢
    obtain ⟨c, rfl, h2⟩ := hv
    exact ⟨c, rfl, RelL.only l _ hn h2⟩
  | .tup l, v, hn, hv => by
    simp only [SV.namesIn] at hn
    simp only [RelV] at hv ⊢
    obtain ⟨c, rfl, h2⟩ := hv
    exact ⟨c, rfl, RelL.only l _ hn h2⟩
  | .clo f a b, v, hn, hv => by
    simp only [SV.namesIn, Bool.and_eq_true] at hn
    simp only [RelV] at hv ⊢
    obtain ⟨x, y, rfl, h1, h2⟩ := hv
    exact ⟨x, y, rfl, RelL.only a _ hn.1 h1, RelL.only b _ hn.2 h2⟩
  | .m n, v, hn, hv => by
    simp only [SV.namesIn] at hn
    simp only [RelV, Env.only, hn, if_true] at hv ⊢
    exact hv
theorem RelL.only {w : World} {E : Env} {D : Nat → Bool} : ∀ (l : List SV) (vs : List Value), namesInL D l = true → RelL w E l vs → RelL w (E.only D) l vs
  | [], vs, _, hv => by simpa [RelL] using hv
  | x :: l, vs, hn, hv => by
    simp only [namesInL, Bool.and_eq_true] at hn
    simp only [RelL] at hv ⊢
    obtain ⟨v, vs', rfl, h1, h2⟩ := hv
    exact ⟨v, vs', rfl, RelV.only x v hn.1 h1, RelL.only l vs' hn.2 h2⟩
end
theorem RelC.only {w : World} {E : Env} {D : Nat → Bool} : ∀ (l : List SV) (b off : Nat), namesInL D l = true → RelC w E l b off → RelC w (E.only D) l b off
  | [], _, _, _, _ => by simp [RelC]
  | x :: l, b, off, hn, hv => by
    simp only [namesInL, Bool.and_eq_true] at hn
    simp only [RelC] at hv ⊢
    obtain ⟨⟨v, h1, h2⟩, h3⟩ := hv
    exact ⟨⟨v, h1, RelV.only x v hn.1 h2⟩, RelC.only l b _ hn.2 h3⟩

/-- The same relations where the environment knows more names. -/
theorem Le.of_ι {E E' : Env} {w : World} (h : ∀ n b, E.ι n = some b → E'.ι n = some b) (hI : ∀ b, E.I b → E'.I b) : Le E w E' w :=
  ⟨h, fun b hb => ⟨hI b hb, rfl⟩, fun _ _ h => h⟩

/-- A contract: called with these arguments, over this heap (and no other named block), the function answers this, and leaves that heap. -/
def Sat (P : Program) (f : FuncId) (args : List SV) (H : Heap) (r : SV) (H' : Heap) : Prop :=
  ∀ (E : Env) (w : World) (vals : Array Value), (∀ n, H n = none → E.ι n = none) → RelL w E args vals.toList → HeapOK E w H → EnvOK E w →
    Calls P f vals w fun e w' => ∃ v E', e = .returned v ∧ Post E w H E' w' H' ∧ RelV w' E' r v

/-- A contract where the environment knows other names, too. -/
theorem Sat.wide {P : Program} {f : FuncId} {args : List SV} {H H' : Heap} {r : SV} (h : Sat P f args H r H') {E : Env} {w : World} {vals : Array Value}
    (D : Nat → Bool) (hD : ∀ n, D n = true ↔ H n ≠ none) (hargs : namesInL D args = true) (hcells : ∀ n b, H n = some b → namesInL D b.cells = true)
    (hfresh : ∀ n, H' n ≠ none → H n = none → E.ι n = none)
    (hr : RelL w E args vals.toList) (hH : HeapOK E w H) (hE : EnvOK E w) :
    Calls P f vals w fun e w' => ∃ v E', e = .returned v ∧ Post E w H E' w' H' ∧ RelV w' E' r v := by
  have honly : ∀ n b, (E.only D).ι n = some b → E.ι n = some b := by
    intro n b hn; simp only [Env.only] at hn; split at hn
    · exact hn
    · cases hn
  have hD' : ∀ n, H n ≠ none → (E.only D).ι n = E.ι n := by
    intro n hn; simp [Env.only, (hD n).2 hn]
  have hfoot : ∀ k, Foot (E.only D) H k ↔ Foot E H k := by
    intro k
    constructor
    · rintro ⟨n, hn, hk⟩; exact ⟨n, hn, honly n k hk⟩
    · rintro ⟨n, hn, hk⟩; exact ⟨n, hn, by rw [hD' n hn]; exact hk⟩
  refine (h (E.only D) w vals ?_ (RelL.only args _ hargs hr) ⟨?_, ?_⟩ ⟨hE.I, fun n k hk => hE.ι n k (honly n k hk)⟩).mono ?_
  · intro n hn
    have : ¬ D n = true := fun hd => (hD n).1 hd hn
    simp [Env.only, this]
  · intro n b hn
    obtain ⟨k, cs, h1, h2, h3, h3', h4⟩ := hH.blk n b hn
    exact ⟨k, cs, by rw [hD' n (by simp [hn])]; exact h1, h2, h3, h3', RelC.only _ _ _ (hcells n b hn) h4⟩
  · intro n m k hn hm hnk hmk
    exact hH.inj n m k hn hm (honly n k hnk) (honly m k hmk)
  · rintro e w' ⟨v, E', he, hp, hv⟩
    -- the environment that knows both
    refine ⟨v, ⟨fun n => match E.ι n with | some k => some k | none => E'.ι n, E'.I⟩, he, ?_, ?_⟩
    · have hin : ∀ n k, H' n ≠ none → (match E.ι n with | some k => some k | none => E'.ι n) = some k → E'.ι n = some k := by
        intro n k hn hk
        cases hEn : E.ι n with
        | none => simpa [hEn] using hk
        | some k' =>
          have : H n ≠ none := fun hno => by have := hfresh n hn hno; rw [hEn] at this; cases this
          simp only [hEn] at hk
          cases hk
          exact hp.ι n k (by rw [hD' n this]; exact hEn)
      have hle : Le E' w' ⟨fun n => match E.ι n with | some k => some k | none => E'.ι n, E'.I⟩ w' := by
        refine .of_ι ?_ (fun _ h => h)
        intro n b hb
        cases hEn : E.ι n with
        | none => simpa [hEn] using hb
        | some k =>
          simp only [hEn]
          by_cases hno : H n = none
          · by_cases hn' : H' n = none
            · exact absurd hb (by rw [hp.dom n (by simp only [Env.only]; rw [if_neg (fun hd => (hD n).1 hd hno)]) hn']; simp)
            · have := hfresh n hn' hno; rw [hEn] at this; cases this
          · have := hp.ι n k (by rw [hD' n hno]; exact hEn)
            rw [this] at hb; exact hb
      refine ⟨?_, hp.I, ⟨hp.out.os, hp.out.tape, hp.out.output, hp.out.size, fun k hk hs => hp.out.block k hk (fun hf => hs ((hfoot k).1 hf)), hp.out.room⟩, ⟨?_, ?_⟩, ⟨hp.env.I, ?_⟩, ?_, ?_, ?_⟩
      · intro n b hb; simp [hb]
      · intro n b hn
        obtain ⟨k, cs, h1, h2, h3, h3', h4⟩ := hp.heap.blk n b hn
        exact ⟨k, cs, hle.ι n k h1, h2, h3, h3', RelC.le hle _ _ _ rfl h4⟩
      · intro n m k hn hm hnk hmk
        exact hp.heap.inj n m k hn hm (hin n k hn hnk) (hin m k hm hmk)
      · intro n k hk
        cases hEn : E.ι n with
        | some k' =>
          simp only [hEn] at hk
          cases hk
          exact Nat.lt_of_lt_of_le (hE.ι n k hEn) hp.out.size
        | none => exact hp.env.ι n k (by simpa [hEn] using hk)
      · intro k hk
        rcases hp.newI k hk with h1 | h1 | h1
        · exact .inl h1
        · exact .inr (.inl h1)
        · exact .inr (.inr ((hfoot k).1 h1))
      · intro n k hn hk
        rcases hp.newι n k hn (hin n k hn hk) with h1 | h1
        · exact .inl h1
        · exact .inr ((hfoot k).1 h1)
      · intro n hn hn'
        simp only [hn]
        exact hp.dom n (by simp only [Env.only]; split <;> simp [hn]) hn'
    · refine RelV.le (E := E') (E' := ⟨fun n => match E.ι n with | some k => some k | none => E'.ι n, E'.I⟩) (Le.of_ι ?_ (fun _ h => h)) r v hv
      intro n b hb
      cases hEn : E.ι n with
      | none => simpa [hEn] using hb
      | some k =>
        simp only [hEn]
        by_cases hno : H n = none
        · by_cases hn' : H' n = none
          · exact absurd hb (by rw [hp.dom n (by simp only [Env.only]; rw [if_neg (fun hd => (hD n).1 hd hno)]) hn']; simp)
          · have := hfresh n hn' hno; rw [hEn] at this; cases this
        · have := hp.ι n k (by rw [hD' n hno]; exact hEn)
          rw [this] at hb; exact hb

#print axioms frame_rule
#print axioms Sat.wide
end Go.Ai
