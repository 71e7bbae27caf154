/- Steps: maps; clear. -/
import Derived.Test.YtgehagonolkhhaaGreatDoorAi7h
import Derived.MapKept
namespace Go.Ai
open Go

/-- A new block of any kind gets a name. -/
theorem post_allocO {E : Env} {w : World} {H : Heap} (hH : HeapOK E w H) (hE : EnvOK E w) {n : Nat} (hn : E.ι n = none) (o : Obj) (b : Blk) (ho : ObjIs o b) (hl : b.cells = []) :
    Post E w H (E.bind n w.heap.size) (w.alloc o) (H.set n (some b)) := by
  have hle := Le.alloc o hE hn
  have hnot : ∀ m k, m ≠ n → (E.bind n w.heap.size).ι m = some k → k < w.heap.size := by
    intro m k hm hk; simp only [Env.bind, hm, if_false] at hk; exact hE.ι m k hk
  refine ⟨hle.ι, fun k h => h, ⟨rfl, rfl, rfl, by simp, fun k hk _ => RowKit.Below.heap_alloc _ _ _ hk, hle.room⟩, ⟨?_, ?_⟩, ⟨?_, ?_⟩, fun k h => .inl h, ?_, ?_⟩
  · intro m c hm
    by_cases e : m = n
    · subst e
      simp only [Heap.set, if_true, Option.some.injEq] at hm
      subst hm
      exact ⟨w.heap.size, o, by simp [Env.bind], fun hI => Nat.lt_irrefl _ (hE.I _ hI), heap_alloc_new _ _, ho, by rw [hl]; simp [RelC]⟩
    · simp only [Heap.set, e, if_false] at hm
      obtain ⟨k, cs', h1, h2, h3, h3', h4⟩ := hH.blk m c hm
      have hb := RowKit.Below.heap_alloc w o k (hE.ι m k h1)
      exact ⟨k, cs', by simp [Env.bind, e, h1], h2, by rw [hb]; exact h3, h3', RelC.le hle _ _ _ hb h4⟩
  · intro m m' k hm hm' hk hk'
    by_cases e : m = n
    · by_cases e' : m' = n
      · rw [e, e']
      · have := hnot m' k e' hk'
        subst e
        simp only [Env.bind, if_true, Option.some.injEq] at hk
        omega
    · by_cases e' : m' = n
      · have := hnot m k e hk
        subst e'
        simp only [Env.bind, if_true, Option.some.injEq] at hk'
        omega
      · simp only [Heap.set, e, e', if_false] at hm hm'
        simp only [Env.bind, e, e', if_false] at hk hk'
        exact hH.inj m m' k hm hm' hk hk'
  · intro k hk; simp; exact Nat.lt_succ_of_lt (hE.I k hk)
  · intro m k hk
    by_cases e : m = n
    · subst e; simp only [Env.bind, if_true, Option.some.injEq] at hk; subst hk; simp
    · have := hnot m k e hk; simp; omega
  · intro m k hm hk
    by_cases e : m = n
    · subst e; simp only [Env.bind, if_true, Option.some.injEq] at hk; subst hk; exact .inl (Nat.le_refl _)
    · simp only [Heap.set, e, if_false] at hm
      simp only [Env.bind, e, if_false] at hk
      exact .inr ⟨m, hm, hk⟩
  · intro m hm hm'
    by_cases e : m = n
    · subst e; simp [Heap.set] at hm'
    · simpa [Env.bind, e] using hm

/-- A map is written. -/
theorem post_setMap {E : Env} {w : World} {H : Heap} (hH : HeapOK E w H) (hE : EnvOK E w) {n g : Nat} {bt bt' : TypeId} {bc : List SV} {l : List (Value × Value)} (hn : H n = some ⟨bt, bc, some l⟩) (hg : E.ι n = some g)
    {es' : Array MapEntry} {c' : Nat} {l' : List (Value × Value)} (hl : es'.toList.map (fun e => (e.key, e.val)) = l') :
    Post E w H E { w with heap := w.heap.setIfInBounds g (.map es' c') } (H.set n (some ⟨bt', [], some l'⟩)) := by
  obtain ⟨k0, o0, i1, hnI, i3, i4, _⟩ := hH.blk n _ hn
  rw [hg] at i1; cases i1
  simp only [ObjIs] at i4
  obtain ⟨es, c, rfl, _⟩ := i4
  have hlt : g < w.heap.size := hE.ι n g hg
  have hother : ∀ q, q ≠ g → (w.heap.setIfInBounds g (.map es' c'))[q]? = w.heap[q]? := by
    intro q hq
    rw [Array.getElem?_setIfInBounds]
    rw [if_neg (fun e => hq e.symm)]
  have hroom : ∀ k j, HasRoom w k j → HasRoom { w with heap := w.heap.setIfInBounds g (.map es' c') } k j := by
    rintro q j ⟨cs, ty, fz, r1, r2⟩
    have : q ≠ g := by intro e; subst e; rw [i3] at r1; cases r1
    exact ⟨cs, ty, fz, by rw [← r1]; exact hother q this, r2⟩
  have hle : Le E w E { w with heap := w.heap.setIfInBounds g (.map es' c') } := ⟨fun _ _ h => h, fun q hq => ⟨hq, hother q (fun e => hnI (e ▸ hq))⟩, hroom⟩
  have hHn : ∀ m, (H.set n (some ⟨bt', [], some l'⟩)) m ≠ none → H m ≠ none := by
    intro m hm
    by_cases e : m = n
    · subst e; simp [hn]
    · simpa [Heap.set, e] using hm
  refine ⟨fun _ _ h => h, fun _ h => h, ⟨rfl, rfl, rfl, by simp, ?_, hroom⟩, ⟨?_, ?_⟩, ⟨fun k h => by simpa using hE.I k h, fun m k h => by simpa using hE.ι m k h⟩, fun k h => .inl h, fun m k hm hk => .inr ⟨m, hHn m hm, hk⟩, fun m hm _ => hm⟩
  · intro q _ hq
    exact hother q (fun e => hq ⟨n, by simp [hn], by rw [e]; exact hg⟩)
  · intro m b hm
    by_cases e : m = n
    · subst e
      simp only [Heap.set, if_true, Option.some.injEq] at hm
      subst hm
      exact ⟨g, .map es' c', hg, hnI, by simp [hlt], ⟨es', c', rfl, hl⟩, by simp [RelC]⟩
    · simp only [Heap.set, e, if_false] at hm
      obtain ⟨k, o', h1, h2, h3, h3', h4⟩ := hH.blk m b hm
      have hne : k ≠ g := by
        intro e'; subst e'
        exact e (hH.inj m n k (by simp [hm]) (by simp [hn]) h1 hg)
      exact ⟨k, o', h1, h2, by rw [← h3]; exact hother k hne, h3', RelC.le hle _ _ _ (hother k hne) h4⟩
  · intro m m' k hm hm' hk hk'
    exact hH.inj m m' k (hHn m hm) (hHn m' hm') hk hk'

section
variable {P : Program} {T : Tab} {st : St}

theorem bytes_ext {a b : ByteArray} (h : a.data.toList = b.data.toList) : a = b := by
  obtain ⟨⟨x⟩⟩ := a
  obtain ⟨⟨y⟩⟩ := b
  simp only at h
  rw [h]

/-- Are two keys the same? -/
def keyEq : TD → Value → Value → Option Bool
  | .int _, .int k a, .int k' b => if k = k' then some (a == b) else none
  | .string, .string a, .string b => some (a.data.toList == b.data.toList)
  | .bool, .bool a, .bool b => some (a == b)
  | _, _, _ => none

def mapFind (d : TD) (k : Value) : List (Value × Value) → Nat → Option (Option (Nat × Value))
  | [], _ => some none
  | p :: l, i => match keyEq d k p.1 with
    | some true => some (some (i, p.2))
    | some false => mapFind d k l (i + 1)
    | none => none

theorem keyEq_ok {t : TypeId} {i : TI} (hi : tiOf P t = some i) {k k' : Value} {b : Bool} (h : keyEq i.d k k' = some b) : ∃ d, P.underlying t = some d ∧ Instr.sameNow d k k' = some b ∧ (b = true → k' = k) := by
  unfold keyEq at h
  split at h
  · rename_i hd
    split at h
    · rename_i e
      cases h
      subst e
      exact ⟨_, under_int hi hd, by simp [Instr.sameNow], fun e => by have := eq_of_beq e; rw [this]⟩
    · cases h
  · rename_i hd
    cases h
    refine ⟨_, under_string hi hd, by simp [Instr.sameNow, beq_toListBytes, ByteArray.toList_eq], fun e => ?_⟩
    rw [bytes_ext (eq_of_beq e)]
  · rename_i hd
    cases h
    exact ⟨_, under_bool hi hd, by simp [Instr.sameNow], fun e => by have := eq_of_beq e; rw [this]⟩
  · cases h

theorem mapFind_ok {t : TypeId} {i : TI} (hi : tiOf P t = some i) {d : TypeDesc} (hd : P.underlying t = some d) {k : Value} : ∀ {es : List MapEntry} {j : Nat} {r : Option (Nat × Value)}, mapFind i.d k (es.map fun e => (e.key, e.val)) j = some r →
    Instr.findNow d k es j = some r ∧ (∀ m v, r = some (m, v) → j ≤ m ∧ ∃ e, es[m - j]? = some e ∧ e.key = k)
  | [], j, r, h => by
    simp only [List.map_nil, mapFind, Option.some.injEq] at h
    subst h
    exact ⟨rfl, fun m v h => by cases h⟩
  | e :: es, j, r, h => by
    simp only [List.map_cons, mapFind] at h
    split at h
    · rename_i hk
      cases h
      obtain ⟨d', h1, h2, h3⟩ := keyEq_ok hi hk
      rw [hd] at h1; cases h1
      refine ⟨by simp [Instr.findNow, h2], fun m v h => ?_⟩
      cases h
      exact ⟨Nat.le_refl _, e, by simp, h3 rfl⟩
    · rename_i hk
      obtain ⟨d', h1, h2, _⟩ := keyEq_ok hi hk
      rw [hd] at h1; cases h1
      obtain ⟨g1, g2⟩ := mapFind_ok hi hd h
      refine ⟨by simp [Instr.findNow, h2, g1], fun m v h => ?_⟩
      obtain ⟨g3, e', g4, g5⟩ := g2 m v h
      refine ⟨by omega, e', ?_, g5⟩
      rw [show m - j = (m - (j + 1)) + 1 by omega]
      simpa using g4
    · cases h

/-- A key that can be looked for at once. -/
def keyOK : TD → Value → Bool
  | .int k, .int k' _ => k == k'
  | .string, .string _ | .bool, .bool _ => true
  | _, _ => false

theorem run_checkKey_n {t : TypeId} {i : TI} (hi : tiOf P t = some i) {k : Value} (h : keyOK i.d k = true) (e : Bool) (n : Nat) (w : World) : (Instr.checkKey e (n + 1) t k).run P w = .ok () w := by
  unfold keyOK at h
  split at h
  · rename_i hd; simp [Instr.checkKey, run_underlying (under_int hi hd)]
  · rename_i hd; simp [Instr.checkKey, run_underlying (under_string hi hd)]
  · rename_i hd; simp [Instr.checkKey, run_underlying (under_bool hi hd)]
  · cases h
theorem run_checkKey_ok {t : TypeId} {i : TI} (hi : tiOf P t = some i) {k : Value} (h : keyOK i.d k = true) (e : Bool) (w : World) : (Instr.checkKey e 10000 t k).run P w = .ok () w := run_checkKey_n hi h e 9999 w

theorem key_under {t : TypeId} {i : TI} (hi : tiOf P t = some i) : ∃ d, P.underlying t = some d := by
  obtain ⟨_, d, _, _, h2, _⟩ := ti_info hi
  exact ⟨d, h2⟩

theorem run_findKey {t : TypeId} {i : TI} (hi : tiOf P t = some i) {k : Value} {es : List MapEntry} {r : Option (Nat × Value)} (h : mapFind i.d k (es.map fun e => (e.key, e.val)) 0 = some r) (w : World) : (Instr.findKey t k es).run P w = .ok r w := by
  obtain ⟨d, hd⟩ := key_under hi
  simp [Instr.findKey, run_underlying hd, (mapFind_ok hi hd h).1]

/-! ### makeMap, lookup, mapUpdate -/
def stMakeMap (T : Tab) (st : St) (t : TypeId) (r : Option Operand) : Option Res :=
  match r, T t with
  | none, some ⟨_, _, _, .map _ _⟩ => some ⟨.m st.nx, [(st.nx, some ⟨t, [], some []⟩)], st.nx + 1, true⟩
  | _, _ => none

theorem st_makeMap {t : TypeId} {z : Option Operand} {r : Res} (hr : stMakeMap T st t z = some r) : StepOK P T st (.makeMap t z) r := by
  unfold stMakeMap at hr
  split at hr
  · cases hr
    refine ⟨fun E a w o hc he _ => ?_, Nat.le_succ _, fun n hn => ?_, Nat.le_refl _⟩
    · refine ⟨.map (some w.heap.size), w.alloc (.map #[] 0), E.bind st.nx w.heap.size, .inl ?_, ?_, ?_⟩
      · simp [execOp, he, Instr.makeMap, newObj, Sem.run]
      · rw [List.singleton_append, hset_eq]
        exact post_allocO hc.hp hc.en hc.nx _ _ ⟨#[], 0, rfl, rfl⟩ rfl
      · simp [RelV, Env.bind]
    · rw [List.singleton_append, hset_eq] at hn
      unfold Heap.set at hn
      by_cases e : n = st.nx
      · exact .inr ⟨e, Nat.lt_succ_self _⟩
      · simp only [e, if_false] at hn; exact .inl hn
  · cases hr

def lookRes (ok : Bool) (v : Value) (b : Bool) : SV := match ok with
  | true => .tup [.v v, .v (.bool b)]
  | false => .v v

def stLookup (T : Tab) (st : St) (t : TypeId) (x k : Operand) (ok : Bool) : Option Res :=
  match T t with
  | some ⟨_, _, _, .map kt e⟩ => match T kt, T e with
    | some ik, some ⟨_, _, [z], d⟩ => match st.ev k with
      | .v kv => match st.ev x with
        | .m n => match blkOf st.H (st.ev x) with
          | some ⟨_, _, some l⟩ => match mapFind ik.d kv l 0 with
            | some (some (_, v)) => okRes st (lookRes ok v true) (keyOK ik.d kv = true)
            | some none => okRes st (lookRes ok z false) (keyOK ik.d kv = true ∧ d.agg = false)
            | none => none
          | _ => none
        | .v (.map none) => okRes st (lookRes ok z false) (keyOK ik.d kv = true ∧ d.agg = false)
        | _ => none
      | _ => none
    | _, _ => none
  | _ => none

theorem lookRes_ok {w : World} {E : Env} (ok : Bool) (v : Value) (b : Bool) : RelV w E (lookRes ok v b) (if ok then .tuple #[v, .bool b] else v) := by
  cases ok
  · simp [lookRes, RelV]
  · simp only [lookRes, RelV, if_true]
    exact ⟨_, rfl, by simp [RelL, RelV]⟩

theorem st_lookup {t : TypeId} {x k : Operand} {ok : Bool} {r : Res} (hr : stLookup T st t x k ok = some r) : StepOK P T st (.lookup t x k ok) r := by
  unfold stLookup at hr
  split at hr
  · rename_i s1 s2 s3 kt e hit
    split at hr
    · rename_i ik s4 s5 z d hik hie
      split at hr
      · rename_i kv hk
        have hkv : ∀ (E : Env) (a : Act) (w : World), Ctx P T st E a w → a.eval k = kv := by
          intro E a w hc
          have h1 := ev_ok hc.fr k
          rw [show Ai.ev (lget st.σ) k = _ from hk] at h1
          simpa only [RelV] using h1
        split at hr
        · rename_i n hx
          split at hr
          · rename_i bt bc l hblk
            rw [hx] at hblk; simp only [blkOf] at hblk
            have hblkE : ∀ (E : Env) (a : Act) (w : World), Ctx P T st E a w → ∃ g es c, a.eval x = .map (some g) ∧ w.heap[g]? = some (.map es c) ∧ es.toList.map (fun e => (e.key, e.val)) = l := by
              intro E a w hc
              have h1 := ev_ok hc.fr x
              rw [show Ai.ev (lget st.σ) x = _ from hx] at h1
              simp only [RelV] at h1
              obtain ⟨g, e1, h1⟩ := h1
              obtain ⟨g', o, f1, _, f3, f4, _⟩ := hc.hp.blk n _ hblk
              rw [e1] at f1; cases f1
              simp only [ObjIs] at f4
              obtain ⟨es, c, rfl, f5⟩ := f4
              exact ⟨g, es, c, h1, f3, f5⟩
            split at hr
            · rename_i j v hf
              refine .pure hr fun E a w o hc he hs => ⟨_, ?_, lookRes_ok ok v true⟩
              obtain ⟨g, es, c, h1, h2, h3⟩ := hblkE E a w hc
              rw [← h3] at hf
              simp [execOp, he, Instr.lookup, run_underlying (under_map (hc.tab t _ hit) rfl), h1, MapKept.run_getObj_map h2, hkv E a w hc, run_checkKey_ok (hc.tab kt ik hik) hs, run_findKey (hc.tab kt ik hik) hf]
            · rename_i hf
              refine .pure hr fun E a w o hc he hs => ⟨_, ?_, lookRes_ok ok z false⟩
              obtain ⟨g, es, c, h1, h2, h3⟩ := hblkE E a w hc
              rw [← h3] at hf
              obtain ⟨z', k1, k2⟩ := run_zero_one (hc.tab e _ hie) hs.2 w
              simp only [List.cons.injEq, and_true] at k2
              subst k2
              simp [execOp, he, Instr.lookup, run_underlying (under_map (hc.tab t _ hit) rfl), h1, MapKept.run_getObj_map h2, hkv E a w hc, run_checkKey_ok (hc.tab kt ik hik) hs.1, run_findKey (hc.tab kt ik hik) hf, k1]
            · cases hr
          · cases hr
        · rename_i hx
          refine .pure hr fun E a w o hc he hs => ⟨_, ?_, lookRes_ok ok z false⟩
          have h1 := ev_ok hc.fr x
          rw [show Ai.ev (lget st.σ) x = _ from hx] at h1
          simp only [RelV] at h1
          obtain ⟨z', k1, k2⟩ := run_zero_one (hc.tab e _ hie) hs.2 w
          simp only [List.cons.injEq, and_true] at k2
          subst k2
          have hf : mapFind ik.d kv (([] : List MapEntry).map fun e => (e.key, e.val)) 0 = some none := rfl
          simp [execOp, he, Instr.lookup, run_underlying (under_map (hc.tab t _ hit) rfl), h1, hkv E a w hc, run_checkKey_ok (hc.tab kt ik hik) hs.1, run_findKey (hc.tab kt ik hik) hf, k1]
        · cases hr
      · cases hr
    · cases hr
  · cases hr

/-- The pairs of a map behind a write. -/
def mapPut (l : List (Value × Value)) (f : Option (Nat × Value)) (k v : Value) : List (Value × Value) :=
  match f with
  | some (i, _) => l.set i (k, v)
  | none => l ++ [(k, v)]

def stMapUpdate (T : Tab) (st : St) (t : TypeId) (m k x : Operand) : Option Res :=
  match T t with
  | some ⟨_, _, _, .map kt _⟩ => match T kt with
    | some ik => match st.ev k, st.ev m, st.ev x with
      | .v kv, .m n, .v xv => match blkOf st.H (st.ev m) with
        | some ⟨bt, _, some l⟩ => match mapFind ik.d kv l 0 with
          | some f => some ⟨.v undef, [(n, some ⟨bt, [], some (mapPut l f kv xv)⟩)], st.nx, keyOK ik.d kv⟩
          | none => none
        | _ => none
      | _, _, _ => none
    | none => none
  | _ => none

theorem sameBits_n {i : TI} {k : Value} (h : keyOK i.d k = true) (n : Nat) : Instr.sameBits n k k = true := by
  unfold keyOK at h
  split at h
  · unfold Instr.sameBits; simp
  · unfold Instr.sameBits; rw [beq_toListBytes]; exact beq_self_eq_true _
  · unfold Instr.sameBits; simp
  · cases h
theorem sameBits_self {i : TI} {k : Value} (h : keyOK i.d k = true) : Instr.sameBits 10000 k k = true := sameBits_n h 10000

theorem st_mapUpdate {t : TypeId} {m k x : Operand} {r : Res} {op : Op} (hop : op = .mapUpdate t m k x ∨ op = .insert t m k x) (hr : stMapUpdate T st t m k x = some r) : StepOK P T st op r := by
  unfold stMapUpdate at hr
  split at hr
  · rename_i s1 s2 s3 kt e hit
    split at hr
    · rename_i ik hik
      split at hr
      · rename_i kv n xv hk hm hx
        split at hr
        · rename_i bt bc l hblk
          rw [hm] at hblk; simp only [blkOf] at hblk
          split at hr
          · rename_i f hf
            cases hr
            refine ⟨fun E a w o hc he hs => ?_, Nat.le_refl _, fun q hq => ?_, Nat.le_succ _⟩
            · have h1 := ev_ok hc.fr k
              rw [show Ai.ev (lget st.σ) k = _ from hk] at h1
              have h2 := ev_ok hc.fr m
              rw [show Ai.ev (lget st.σ) m = _ from hm] at h2
              have h3 := ev_ok hc.fr x
              rw [show Ai.ev (lget st.σ) x = _ from hx] at h3
              simp only [RelV] at h1 h2 h3
              obtain ⟨g, e1, h2⟩ := h2
              obtain ⟨g', o', f1, _, f3, f4, _⟩ := hc.hp.blk n _ hblk
              rw [e1] at f1; cases f1
              simp only [ObjIs] at f4
              obtain ⟨es, c, rfl, f5⟩ := f4
              subst f5
              have hfind := run_findKey (hc.tab kt ik hik) hf w
              obtain ⟨d, hd⟩ := key_under (hc.tab kt ik hik)
              have hwhere := (mapFind_ok (hc.tab kt ik hik) hd hf).2
              have hu := under_map (hc.tab t _ hit) rfl
              have hck := run_checkKey_ok (hc.tab kt ik hik) hs false w
              have hx' : (execOp a.eval o) = (do Instr.mapUpdate t (a.eval m) (a.eval k) (a.eval x); pure .skip) := by
                rcases hop with rfl | rfl <;> simp [execOp, he]
              rw [List.singleton_append, hset_eq]
              cases f with
              | none =>
                refine ⟨undef, { w with heap := w.heap.setIfInBounds g (.map (es.push { key := kv, val := xv, born := c }) (c + 1)) }, E, .inr ⟨?_, rfl⟩, ?_, by simp [RelV]⟩
                · rw [hx']
                  simp [Instr.mapUpdate, run_underlying hu, h1, h2, h3, MapKept.run_getObj_map f3, hck, hfind, MapKept.run_setObj_map _ f3]
                · exact post_setMap hc.hp hc.en hblk e1 (by simp [mapPut])
              | some p =>
                obtain ⟨j, v⟩ := p
                obtain ⟨_, e0, g4, g5⟩ := hwhere j v rfl
                simp only [Nat.sub_zero] at g4
                have g4' : es[j]? = some e0 := by simpa using g4
                refine ⟨undef, { w with heap := w.heap.setIfInBounds g (.map (es.modify j fun e => { e with key := kv, val := xv }) c) }, E, .inr ⟨?_, rfl⟩, ?_, by simp [RelV]⟩
                · rw [hx']
                  simp [Instr.mapUpdate, run_underlying hu, h1, h2, h3, MapKept.run_getObj_map f3, hck, hfind, MapKept.run_setObj_map _ f3, g4', g5, Instr.keyThatStays, sameBits_self hs]
                · refine post_setMap hc.hp hc.en hblk e1 ?_
                  simp only [mapPut]
                  apply List.ext_getElem?
                  intro q
                  simp only [List.getElem?_map, Array.getElem?_toList, Array.getElem?_modify, List.getElem?_set, List.length_map, Array.length_toList]
                  by_cases e : j = q
                  · subst e
                    have hlt : j < es.size := (Array.getElem?_eq_some_iff.1 g4').1
                    simp [hlt]
                  · simp [e]
            · rw [List.singleton_append, hset_eq] at hq
              unfold Heap.set at hq
              by_cases e : q = n
              · subst e; exact .inl (by simp [hblk])
              · simp only [e, if_false] at hq; exact .inl hq
          · cases hr
        · cases hr
      · cases hr
    · cases hr
  · cases hr
end
#print axioms st_lookup
#print axioms st_mapUpdate
end Go.Ai
