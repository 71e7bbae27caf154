/- One step of a symbolic run, operation by operation. -/
import Derived.Test.YtgehagonolkhhaaGreatDoorAi4
namespace Go.Ai
open Go

def okRes (st : St) (x : SV) (side : Prop) [Decidable side] : Option Res := some ⟨x, [], st.nx, decide side⟩
def newRes (st : St) (t : TypeId) (l : List SV) (x : Nat → SV) (side : Prop) [Decidable side] : Option Res := some ⟨x st.nx, [(st.nx, some ⟨t, l, none⟩)], st.nx + 1, decide side⟩

structure Ctx (P : Program) (T : Tab) (st : St) (E : Env) (a : Act) (w : World) : Prop where
  tab : T.OK P
  fr : FrOK E w (lget st.σ) a.tmps
  hp : HeapOK E w (hget st.H)
  en : EnvOK E w
  nx : E.ι st.nx = none

/-- A step's result is what the operation does. -/
structure StepOK (P : Program) (T : Tab) (st : St) (op : Op) (r : Res) : Prop where
  run : ∀ (E : Env) (a : Act) (w : World) (o : Oper), Ctx P T st E a w → o.op = op → r.side = true → OpRun P (execOp a.eval o) E w (hget st.H) r.x (hget (r.U ++ st.H))
  nx : st.nx ≤ r.nx
  dom : ∀ n, hget (r.U ++ st.H) n ≠ none → hget st.H n ≠ none ∨ (n = st.nx ∧ st.nx < r.nx)
  le : r.nx ≤ st.nx + 1

section
variable {P : Program} {T : Tab} {st : St}

theorem StepOK.pure {op : Op} {x : SV} {side : Prop} [Decidable side] {r : Res} (hr : okRes st x side = some r)
    (h : ∀ (E : Env) (a : Act) (w : World) (o : Oper), Ctx P T st E a w → o.op = op → side → ∃ v, (execOp a.eval o).run P w = .ok (.value v) w ∧ RelV w E x v) : StepOK P T st op r := by
  cases hr
  exact ⟨fun E a w o hc ho hs => let ⟨v, h1, h2⟩ := h E a w o hc ho (of_decide_eq_true hs); ⟨v, w, E, .inl h1, .refl hc.hp hc.en, h2⟩, Nat.le_refl _, fun n hn => .inl hn, Nat.le_succ _⟩

theorem StepOK.new {op : Op} {t : TypeId} {l : List SV} {x : Nat → SV} {side : Prop} [Decidable side] {r : Res} (hr : newRes st t l x side = some r)
    (h : ∀ (E : Env) (a : Act) (w : World) (o : Oper), Ctx P T st E a w → o.op = op → side →
      ∃ (v : Value) (cs : Array Value), (execOp a.eval o).run P w = .ok (.value v) (w.alloc (.cells cs t)) ∧ RelL w E l cs.toList ∧
        RelV (w.alloc (.cells cs t)) (E.bind st.nx w.heap.size) (x st.nx) v) : StepOK P T st op r := by
  cases hr
  refine ⟨fun E a w o hc ho hs => ?_, Nat.le_succ _, fun n hn => ?_, Nat.le_refl _⟩
  · obtain ⟨v, cs, h1, h2, h3⟩ := h E a w o hc ho (of_decide_eq_true hs)
    refine ⟨v, _, _, .inl h1, ?_, h3⟩
    rw [List.singleton_append, hset_eq]
    exact post_alloc hc.hp hc.en hc.nx t cs h2
  · rw [List.singleton_append, hset_eq] at hn
    unfold Heap.set at hn
    by_cases e : n = st.nx
    · exact .inr ⟨e, Nat.lt_succ_self _⟩
    · simp only [e, if_false] at hn; exact .inl hn

/-! ### move, assign, pick -/
theorem st_move {z : Operand} {r : Res} (hr : okRes st (st.ev z) True = some r) (op : Op) (ho : op = .move z ∨ op = .assign z) : StepOK P T st op r := by
  refine .pure hr fun E a w o hc e _ => ⟨a.eval z, ?_, ev_ok hc.fr z⟩
  rcases ho with rfl | rfl <;> simp [execOp, e]

def stPick (st : St) (c a b : Operand) : Option Res :=
  match st.ev c with
  | .v (.bool c) =>
    match st.ev a, st.ev b with
    | .v (.bool x), .v (.bool y) => okRes st (.v (.bool (bif c then x else y))) True
    | x, y => okRes st (match c with | true => x | false => y) True
  | _ => none

theorem st_pick {c a b : Operand} {r : Res} (hr : stPick st c a b = some r) : StepOK P T st (.pick c a b) r := by
  unfold stPick at hr
  split at hr
  · rename_i q hq
    have key : ∀ (E : Env) (A : Act) (w : World) (o : Oper), Ctx P T st E A w → o.op = .pick c a b → (execOp A.eval o).run P w = .ok (.value (if q then A.eval a else A.eval b)) w := by
      intro E A w o hc e
      have h1 := ev_ok hc.fr c
      rw [show Ai.ev (lget st.σ) c = .v (.bool q) from hq] at h1
      simp only [RelV] at h1
      simp [execOp, e, h1, asBool]
    split at hr
    · rename_i x y hx hy
      refine .pure hr fun E A w o hc e _ => ⟨_, key E A w o hc e, ?_⟩
      have h2 := ev_ok hc.fr a
      have h3 := ev_ok hc.fr b
      rw [show Ai.ev (lget st.σ) a = .v (.bool x) from hx] at h2
      rw [show Ai.ev (lget st.σ) b = .v (.bool y) from hy] at h3
      simp only [RelV] at h2 h3 ⊢
      rw [h2, h3]
      cases q <;> rfl
    · refine .pure hr fun E A w o hc e _ => ⟨_, key E A w o hc e, ?_⟩
      cases q
      · exact ev_ok hc.fr b
      · exact ev_ok hc.fr a
  · cases hr

/-! ### alloc, box -/
def stAlloc (T : Tab) (st : St) (t : TypeId) : Option Res :=
  match T t with
  | some i => newRes st t (i.zero.map SV.v) (fun n => .p n 0) True
  | none => none

theorem st_alloc {t : TypeId} {r : Res} (hT : T.OK P) (hr : stAlloc T st t = some r) : StepOK P T st (.alloc t) r := by
  unfold stAlloc at hr
  split at hr
  · rename_i i hi
    refine .new hr fun E a w o hc e _ => ?_
    obtain ⟨z, h1, h2⟩ := run_zero_ti (hT t i hi) w
    refine ⟨.pointer (some ⟨w.heap.size, 0, none⟩), z.cells, ?_, ?_, ?_⟩
    · simp [execOp, e, Instr.alloc, h1, newVar, newRow, newObj, Sem.run]
    · rw [h2]; exact RelL.vals _
    · simp [RelV, Env.bind]
  · cases hr

def stBox (st : St) (t : TypeId) (z : Operand) : Option Res := newRes st t (st.ev z).cells (fun n => .p n 0) ((st.ev z).flat = true)

theorem st_box {t : TypeId} {z : Operand} {r : Res} (hr : stBox st t z = some r) : StepOK P T st (.box t z) r := by
  refine .new hr fun E a w o hc e hs => ⟨.pointer (some ⟨w.heap.size, 0, none⟩), (a.eval z).cells, ?_, cells_ok (ev_ok hc.fr z) hs, ?_⟩
  · simp [execOp, e, Instr.box, newVar, newRow, newObj, Sem.run]
  · simp [RelV, Env.bind]

/-! ### load, store -/
def stLoad (T : Tab) (st : St) (t : TypeId) (z : Operand) : Option Res :=
  match st.ev z with
  | .p n off => match hget st.H n with
    | some b => match ldOf T t (b.cells.drop off) with
      | some x => okRes st x True
      | none => none
    | none => none
  | .pe l => match ldOf T t l with
    | some x => okRes st x True
    | none => none
  | _ => none

theorem st_load {t : TypeId} {z : Operand} {r : Res} (hr : stLoad T st t z = some r) : StepOK P T st (.load t z) r := by
  unfold stLoad at hr
  split at hr
  · rename_i n off hz
    split at hr
    · rename_i b hb
      split at hr
      · rename_i x hx
        refine .pure hr fun E a w o hc e _ => ?_
        have h1 := ev_ok hc.fr z
        rw [show Ai.ev (lget st.σ) z = .p n off from hz] at h1
        obtain ⟨u, h2, h3⟩ := op_load hc.tab hc.hp hb hx h1
        exact ⟨u, by simp [execOp, e, h2], h3⟩
      · cases hr
    · cases hr
  · rename_i l hz
    split at hr
    · rename_i x hx
      refine .pure hr fun E a w o hc e _ => ?_
      have h1 := ev_ok hc.fr z
      rw [show Ai.ev (lget st.σ) z = .pe l from hz] at h1
      obtain ⟨u, h2, h3⟩ := op_load_pe hc.tab hx h1
      exact ⟨u, by simp [execOp, e, h2], h3⟩
    · cases hr
  · cases hr

def stStore (T : Tab) (st : St) (t : TypeId) (z y : Operand) : Option Res :=
  match st.ev z, T t with
  | .p n off, some i => match hget st.H n with
    | some ⟨bt, bc, none⟩ => some ⟨.v undef, [(n, some ⟨bt, stOf bc off (st.ev y).cells, none⟩)], st.nx,
        decide ((st.ev y).flat = true ∧ allOne (st.ev y).cells = true ∧ (st.ev y).cells.length = i.size ∧ off + (st.ev y).cells.length ≤ bc.length)⟩
    | _ => none
  | _, _ => none

theorem st_store {t : TypeId} {z y : Operand} {r : Res} (hr : stStore T st t z y = some r) : StepOK P T st (.store t z y) r := by
  unfold stStore at hr
  split at hr
  · rename_i n off i hz hi
    split at hr
    · rename_i bt bc hb
      cases hr
      refine ⟨fun E a w o hc e hs => ?_, Nat.le_refl _, fun m hm => ?_, Nat.le_succ _⟩
      · have h1 := ev_ok hc.fr z
        rw [show Ai.ev (lget st.σ) z = .p n off from hz] at h1
        have hs := of_decide_eq_true hs
        obtain ⟨w', h2, h3⟩ := op_store (hc.tab t i hi) hc.hp hc.en hb rfl hs.1 hs.2.1 hs.2.2.1 hs.2.2.2 h1 (ev_ok hc.fr y)
        refine ⟨undef, w', E, .inr ⟨by simp [execOp, e, h2], rfl⟩, ?_, by simp [RelV]⟩
        rw [List.singleton_append, hset_eq]; exact h3
      · rw [List.singleton_append, hset_eq] at hm
        unfold Heap.set at hm
        by_cases e : m = n
        · subst e; exact .inl (by simp [hb])
        · simp only [e, if_false] at hm; exact .inl hm
    · cases hr
  · cases hr

/-! ### nilCheck, binOp, unOp, convert, makeFunc, extract -/
def stNil (st : St) (z : Operand) : Option Res :=
  match st.ev z with
  | .p n off => okRes st (.p n off) True
  | .pe l => okRes st (.pe l) True
  | .clo (.func f) a b => okRes st (.clo (.func f) a b) True
  | _ => none

theorem st_nil {z : Operand} {r : Res} (hr : stNil st z = some r) : StepOK P T st (.nilCheck z) r := by
  unfold stNil at hr
  split at hr <;> first
    | (cases hr; done)
    | (rename_i hz
       refine .pure hr fun E a w o hc e _ => ⟨a.eval z, ?_, ?_⟩
       · have h1 := ev_ok hc.fr z
         rw [show Ai.ev (lget st.σ) z = _ from hz] at h1
         simp only [RelV] at h1
         first
           | (obtain ⟨b, _, h1⟩ := h1; simp [execOp, e, h1]; done)
           | (obtain ⟨b, off, h1, _⟩ := h1; simp [execOp, e, h1]; done)
       · rw [← show Ai.ev (lget st.σ) z = _ from hz]; exact ev_ok hc.fr z)

def stBin (T : Tab) (st : St) (op : BinOp) (t : TypeId) (x y : Operand) : Option Res :=
  match st.ev x, st.ev y with
  | .v a, .v b => match scal T op t a b with
    | some (r, s) => okRes st (.v r) (s = true)
    | none => none
  | _, _ => none

theorem st_bin {op : BinOp} {t t' : TypeId} {x y : Operand} {r : Res} (hr : stBin T st op t x y = some r) : StepOK P T st (.binOp op t x y t') r := by
  unfold stBin at hr
  split at hr
  · rename_i a b hx hy
    split at hr
    · rename_i v s hs
      refine .pure hr fun E A w o hc e hside => ⟨v, ?_, by simp [RelV]⟩
      have h1 := ev_ok hc.fr x
      have h2 := ev_ok hc.fr y
      rw [show Ai.ev (lget st.σ) x = .v a from hx] at h1
      rw [show Ai.ev (lget st.σ) y = .v b from hy] at h2
      simp only [RelV] at h1 h2
      obtain ⟨g1, g2⟩ := scal_guard hs
      simp [execOp, e, h1, h2, run_guard w g1 g2, run_scal hc.tab hs hside w]
    · cases hr
  · cases hr

def stUn (st : St) (op : UnOp) (x : Operand) : Option Res :=
  match st.ev x with
  | .v a => match unI op a with
    | some v => okRes st (.v v) True
    | none => none
  | _ => none

theorem st_un {op : UnOp} {t : TypeId} {x : Operand} {r : Res} (hr : stUn st op x = some r) : StepOK P T st (.unOp op t x) r := by
  unfold stUn at hr
  split at hr
  · rename_i a hx
    split at hr
    · rename_i v hv
      refine .pure hr fun E A w o hc e _ => ⟨v, ?_, by simp [RelV]⟩
      have h1 := ev_ok hc.fr x
      rw [show Ai.ev (lget st.σ) x = .v a from hx] at h1
      simp only [RelV] at h1
      simp [execOp, e, h1, run_unI hv w]
    · cases hr
  · cases hr

def stConv (T : Tab) (st : St) (s t : TypeId) (x : Operand) : Option Res :=
  match st.ev x, T s, T t with
  | .v (.int _ n), some _, some ⟨_, _, _, .int k⟩ => okRes st (.v (.int k (k.wrap n))) True
  | .v (.string b), some _, some ⟨_, _, _, .string⟩ => okRes st (.v (.string b)) True
  | _, _, _ => none

theorem st_conv {s t : TypeId} {x : Operand} {r : Res} (hr : stConv T st s t x = some r) : StepOK P T st (.convert s t x) r := by
  unfold stConv at hr
  split at hr
  · rename_i k' n j sz by_ z k hx hj hi
    refine .pure hr fun E A w o hc e _ => ⟨.int k (k.wrap n), ?_, by simp [RelV]⟩
    have h1 := ev_ok hc.fr x
    rw [show Ai.ev (lget st.σ) x = _ from hx] at h1
    simp only [RelV] at h1
    obtain ⟨_, d, _, _, h2, _⟩ := ti_info (hc.tab s j hj)
    have h3 := under_int (hc.tab t _ hi) rfl
    simp [execOp, e, h1, convert, run_underlying h2, run_underlying h3, Conv.intToInt]
  · rename_i b j sz by_ z hx hj hi
    refine .pure hr fun E A w o hc e _ => ⟨.string b, ?_, by simp [RelV]⟩
    have h1 := ev_ok hc.fr x
    rw [show Ai.ev (lget st.σ) x = _ from hx] at h1
    simp only [RelV] at h1
    obtain ⟨_, d, _, _, h2, _⟩ := ti_info (hc.tab s j hj)
    have h3 := under_string (hc.tab t _ hi) rfl
    simp [execOp, e, h1, convert, run_underlying h2, run_underlying h3]
  · cases hr

theorem evs_ok {E : Env} {a : Act} {w : World} (hc : FrOK E w (lget st.σ) a.tmps) : ∀ (l : List Operand), RelL w E (l.map st.ev) (l.map a.eval)
  | [] => by simp [RelL]
  | z :: l => by
    simp only [List.map_cons, RelL]
    exact ⟨_, _, rfl, ev_ok hc z, evs_ok hc l⟩

theorem st_makeFunc {fn : Fn} {first cap : Array Operand} {r : Res} (hr : okRes st (.clo fn (first.toList.map st.ev) (cap.toList.map st.ev)) True = some r) : StepOK P T st (.makeFunc fn first cap) r := by
  refine .pure hr fun E A w o hc e _ => ⟨.func fn (first.map A.eval) (cap.map A.eval), ?_, ?_⟩
  · simp [execOp, e, Instr.makeFunc]
  · simp only [RelV]
    exact ⟨_, _, rfl, by simpa using evs_ok hc.fr first.toList, by simpa using evs_ok hc.fr cap.toList⟩

def stExtract (st : St) (x : Operand) (i : Nat) : Option Res :=
  match st.ev x with
  | .tup l => match l[i]? with
    | some y => okRes st y True
    | none => none
  | _ => none

theorem st_extract {x : Operand} {i : Nat} {r : Res} (hr : stExtract st x i = some r) : StepOK P T st (.extract x i) r := by
  unfold stExtract at hr
  split at hr
  · rename_i l hx
    split at hr
    · rename_i y hy
      refine .pure hr fun E A w o hc e _ => ?_
      have h1 := ev_ok hc.fr x
      rw [show Ai.ev (lget st.σ) x = _ from hx] at h1
      simp only [RelV] at h1
      obtain ⟨c, h1, h2⟩ := h1
      obtain ⟨v, h3, h4⟩ := h2.get i y hy
      refine ⟨v, ?_, h4⟩
      have h3' : c[i]? = some v := by simpa using h3
      simp [execOp, e, h1, Instr.extract, h3']
    · cases hr
  · cases hr
end
#print axioms st_extract
#print axioms st_bin
end Go.Ai
