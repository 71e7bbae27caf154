/- The symbolic weakest precondition of code, and that it holds. -/
import Derived.Test.YtgehagonolkhhaaGreatDoorAi7z
import Derived.Laws.Externs
namespace Go.Ai
open Go

/-- Binary operations: on scalars, and what is equal. -/
def stBin2 (T : Tab) (st : St) (op : BinOp) (t : TypeId) (x y : Operand) : Option Res :=
  match stBin T st op t x y with
  | some r => some r
  | none => stEq T st op t x y

def stConv2 (T : Tab) (st : St) (s t : TypeId) (x : Operand) : Option Res :=
  match stConv T st s t x with
  | some r => some r
  | none => match stConvB T st s t x with
    | some r => some r
    | none => match stConvS T st s t x with
      | some r => some r
      | none => stConvU T st s t x

def stBuiltin (T : Tab) (st : St) (b : Builtin) (ts : Array TypeId) (args : Array Operand) : Option Res :=
  match b with
  | .len => stLen2 T st ts args
  | .cap => stCap T st ts args
  | .append => match stAppend T st ts args with
    | some r => some r
    | none => stAppendZ T st ts args
  | .copy => stCopy T st ts args
  | .clear => stClear T st ts args
  | .min => stMin st false args
  | .max => stMin st true args
  | .unsafeSliceData => stData st args
  | .unsafeString => stUStr T st ts args
  | _ => none

/-- A step's result, whatever the operation. -/
def opStep (T : Tab) (st : St) : Op → Option Res
  | .move z => okRes st (st.ev z) True
  | .assign z => okRes st (st.ev z) True
  | .pick c a b => stPick st c a b
  | .alloc t => stAlloc T st t
  | .box t z => stBox st t z
  | .build t parts => stBuild T st t parts
  | .load t z => stLoad T st t z
  | .store t z y => stStore T st t z y
  | .nilCheck z => stNil st z
  | .binOp op t x y _ => stBin2 T st op t x y
  | .unOp op _ x => stUn st op x
  | .convert s t x => stConv2 T st s t x
  | .makeFunc fn first cap => okRes st (.clo fn (first.toList.map st.ev) (cap.toList.map st.ev)) True
  | .fieldAddr t z f => stField T st t z f
  | .field t z f => stFieldV T st t z f
  | .indexAddr t z i => stIndexAddr T st t z i
  | .index t z i => stIndex T st t z i
  | .extract x i => stExtract st x i
  | .buildSlice t n parts => stBuildSlice T st t n parts
  | .makeSlice t l c => stMake T st t l c
  | .slice t x lo hi mx => stSlice T st t x lo hi mx
  | .makeMap t r => stMakeMap T st t r
  | .lookup t x k ok => stLookup T st t x k ok
  | .mapUpdate t m k x => stMapUpdate T st t m k x
  | .insert t m k x => stMapUpdate T st t m k x
  | .call ⟨.builtin b, args, ts⟩ => stBuiltin T st b ts args
  | _ => none

theorem st_bin2 {P : Program} {T : Tab} {st : St} {op : BinOp} {t t' : TypeId} {x y : Operand} {r : Res} (hr : stBin2 T st op t x y = some r) : StepOK P T st (.binOp op t x y t') r := by
  unfold stBin2 at hr
  split at hr
  · rename_i h; cases hr; exact st_bin h
  · exact st_eq hr

theorem st_conv2 {P : Program} {T : Tab} {st : St} {s t : TypeId} {x : Operand} {r : Res} (hr : stConv2 T st s t x = some r) : StepOK P T st (.convert s t x) r := by
  unfold stConv2 at hr
  split at hr
  · rename_i h; cases hr; exact st_conv h
  · split at hr
    · rename_i h; cases hr; exact st_convB h
    · split at hr
      · rename_i h; cases hr; exact st_convS h
      · exact st_convU hr

theorem st_builtin {P : Program} {T : Tab} {st : St} (hT : T.OK P) {c : Call} {b : Builtin} (hb : c.callee = .builtin b) {r : Res} (hr : stBuiltin T st b c.argTypes c.args = some r) : StepOK P T st (.call c) r := by
  unfold stBuiltin at hr
  split at hr
  · exact st_len2 hb hr
  · exact st_cap hb hr
  · split at hr
    · rename_i h; cases hr; exact st_append hT hb h
    · exact st_appendZ hT hb hr
  · exact st_copy hT hb hr
  · exact st_clear hT hb hr
  · exact st_min hb hr
  · exact st_max hb hr
  · exact st_data hb hr
  · exact st_uStr hT hb hr
  · cases hr

theorem opStep_ok {P : Program} {T : Tab} (hT : T.OK P) {st : St} {op : Op} {r : Res} (h : opStep T st op = some r) : StepOK P T st op r := by
  unfold opStep at h
  split at h
  · exact st_move h _ (.inl rfl)
  · exact st_move h _ (.inr rfl)
  · exact st_pick h
  · exact st_alloc hT h
  · exact st_box h
  · exact st_build h
  · exact st_load h
  · exact st_store h
  · exact st_nil h
  · exact st_bin2 h
  · exact st_un h
  · exact st_conv2 h
  · exact st_makeFunc h
  · exact st_field h
  · exact st_fieldV h
  · exact st_indexAddr h
  · exact st_index h
  · exact st_extract h
  · exact st_buildSlice h
  · exact st_make h
  · exact st_slice h
  · exact st_makeMap h
  · exact st_lookup h
  · exact st_mapUpdate (.inl rfl) h
  · exact st_mapUpdate (.inr rfl) h
  · exact st_builtin hT (c := ⟨.builtin _, _, _⟩) rfl h
  · cases h

def putσ (σ : List (Nat × SV)) (d : Option Tmp) (x : SV) : List (Nat × SV) :=
  match d with
  | some t => lset σ t x
  | none => σ

def St.put (st : St) (d : Option Tmp) (x : SV) : St := ⟨putσ st.σ d x, st.H, st.nx⟩

def St.after (st : St) (d : Option Tmp) (r : Res) : St := ⟨putσ st.σ d r.x, r.U ++ st.H, r.nx⟩

/-! ### What has been left since the function began -/
structure PostW (E : Env) (w : World) (H : Heap) (E' : Env) (w' : World) (H' : Heap) : Prop where
  ι : ∀ n b, E.ι n = some b → E'.ι n = some b
  I : ∀ k, E.I k → E'.I k
  out : Out (Foot E H) w w'
  newI : ∀ k, E'.I k → E.I k ∨ w.heap.size ≤ k ∨ Foot E H k
  newι : ∀ n k, H' n ≠ none → E'.ι n = some k → w.heap.size ≤ k ∨ Foot E H k

theorem Post.weak {E E' : Env} {w w' : World} {H H' : Heap} (h : Post E w H E' w' H') : PostW E w H E' w' H' := ⟨h.ι, h.I, h.out, h.newI, h.newι⟩

theorem PostW.trans {E E' E'' : Env} {w w' w'' : World} {H H' H'' : Heap} (h : PostW E w H E' w' H') (k : Post E' w' H' E'' w'' H'') : PostW E w H E'' w'' H'' := by
  have hfoot : ∀ n, n < w.heap.size → Foot E' H' n → Foot E H n := by
    rintro n hn ⟨m, hm, hk⟩
    rcases h.newι m n hm hk with h1 | h1
    · omega
    · exact h1
  refine ⟨fun n b hb => k.ι n b (h.ι n b hb), fun n hn => k.I n (h.I n hn), h.out.trans k.out hfoot, ?_, ?_⟩
  · intro n hn
    rcases k.newI n hn with h1 | h1 | h1
    · exact h.newI n h1
    · have := h.out.size; exact .inr (.inl (by omega))
    · by_cases hlt : n < w.heap.size
      · exact .inr (.inr (hfoot n hlt h1))
      · exact .inr (.inl (by omega))
  · intro n b hn hb
    rcases k.newι n b hn hb with h1 | h1
    · have := h.out.size; exact .inl (by omega)
    · by_cases hlt : b < w.heap.size
      · exact .inr (hfoot b hlt h1)
      · exact .inl (by omega)

structure Base where
  P : Program
  T : Tab
  mo : P.follows .mixedOrders = true
  E : Env
  w : World
  H : Heap

/-- The machine is as the symbolic state says. -/
def Mod (B : Base) (st : St) (a : Act) (w : World) : Prop :=
  ∃ E, Ctx B.P B.T st E a w ∧ (∀ n, st.nx ≤ n → E.ι n = none) ∧ PostW B.E B.w B.H E w (hget st.H) ∧ a.defers = []

theorem put_size (a : Act) (d : Option Tmp) (v : Value) : (a.put d v).tmps.size = a.tmps.size := by cases d <;> simp [Act.put]

theorem getD_set (tmps : Array Value) (d t : Nat) (v : Value) (h : d < tmps.size) : (tmps.setIfInBounds d v).getD t undef = if t = d then v else tmps.getD t undef := by
  by_cases e : t = d
  · subst e; simp [Array.getD, h]
  · simp only [e, if_false, Array.getD]
    by_cases ht : t < tmps.size
    · simp [ht, Ne.symm e]
    · simp [ht]

/-- A frame whose slot is written. -/
theorem fr_put {E : Env} {w : World} {σ : List (Nat × SV)} {a : Act} {d : Option Tmp} {v : Value} {x : SV} (h : FrOK E w (lget σ) a.tmps) (hd : ∀ t, d = some t → t < a.tmps.size) (hx : RelV w E x v) :
    FrOK E w (lget (putσ σ d x)) (a.put d v).tmps := by
  cases d with
  | none => exact h
  | some t =>
    intro u y hu
    simp only [putσ] at hu
    rw [lget_lset] at hu
    have hlt := hd t rfl
    simp only [Act.put, Array.size_setIfInBounds]
    rw [getD_set _ _ _ _ hlt]
    by_cases e : u = t
    · subst e
      simp only [if_true, Option.some.injEq] at hu ⊢
      subst hu
      exact ⟨hlt, hx⟩
    · simp only [e, if_false] at hu ⊢
      exact h u y hu

theorem FrOK.le {E E' : Env} {w w' : World} {σ : Fr} {tmps : Array Value} (hle : Le E w E' w') (h : FrOK E w σ tmps) : FrOK E' w' σ tmps :=
  fun t x ht => ⟨(h t x ht).1, RelV.le hle _ _ (h t x ht).2⟩

theorem mod_put {B : Base} {st : St} {a : Act} {w : World} (h : Mod B st a w) (d : Option Tmp) (hd : ∀ t, d = some t → t < a.tmps.size) (v : Value) : Mod B (st.put d (.v v)) (a.put d v) w := by
  obtain ⟨E, hc, hfr, hp, hdf⟩ := h
  refine ⟨E, ⟨hc.tab, ?_, ?_, hc.en, ?_⟩, hfr, ?_, ?_⟩
  · exact fr_put (d := d) (v := v) (x := .v v) hc.fr hd (by simp [RelV])
  · exact hc.hp
  · exact hc.nx
  · exact hp
  · cases d <;> simpa [Act.put] using hdf

/-- One operation. -/
theorem mod_step {B : Base} {st : St} {a : Act} {w : World} (h : Mod B st a w) {o : Oper} {r : Res} (hr : StepOK B.P B.T st o.op r) (hs : r.side = true) (hd : ∀ t, o.dst = some t → t < a.tmps.size)
    {next : Act → World → Prop} {Q : Exit → Act → World → Prop} (K : ∀ a' w', Mod B (st.after o.dst r) a' w' → a'.tmps.size = a.tmps.size → next a' w') : o.wp B.P a w next Q := by
  obtain ⟨E, hc, hfr, hp, hdf⟩ := h
  obtain ⟨v, w', E', hrun, hpost, hx⟩ := hr.run E a w o hc rfl hs
  have hle := hpost.le hc.hp hc.en
  have hmod : Mod B (st.after o.dst r) (a.put o.dst v) w' := by
    have hfr' : ∀ n, r.nx ≤ n → E'.ι n = none := by
      intro n hnx
      have h1 := hfr n (Nat.le_trans hr.nx hnx)
      refine hpost.dom n h1 ?_
      cases hq : hget (r.U ++ st.H) n with
      | none => rfl
      | some b =>
        rcases hr.dom n (by simp [hq]) with h2 | ⟨h2, h3⟩
        · cases hb : hget st.H n with
          | none => exact (h2 hb).elim
          | some b' => obtain ⟨k, _, h4, _⟩ := hc.hp.blk n b' hb; rw [h1] at h4; cases h4
        · omega
    refine ⟨E', ⟨hc.tab, ?_, ?_, hpost.env, ?_⟩, ?_, ?_, ?_⟩
    · exact fr_put (d := o.dst) (v := v) (hc.fr.le hle) hd hx
    · exact hpost.heap
    · exact hfr' _ (Nat.le_refl _)
    · exact hfr'
    · exact hp.trans hpost
    · cases ho : o.dst <;> simpa [Act.put] using hdf
  have hK := K _ _ hmod (put_size _ _ _)
  unfold Oper.wp
  rcases hrun with hrun | ⟨hrun, rfl⟩
  · rw [hrun]; exact hK
  · rw [hrun]; exact hK

/-! ### Calls -/
/-- A call of f with these arguments, over this heap, gives r and leaves H'. -/
structure CallOK (P : Program) (H : HL) (nx : Nat) (f : FuncId) (args : List SV) (r : SV) (H' : HL) (nx' : Nat) : Prop where
  run : ∀ (E : Env) (w : World) (vals : Array Value), RelL w E args vals.toList → HeapOK E w (hget H) → EnvOK E w → (∀ n, nx ≤ n → E.ι n = none) →
    Calls P f vals w fun e w' => ∃ v E', e = .returned v ∧ Post E w (hget H) E' w' (hget H') ∧ RelV w' E' r v
  le : nx ≤ nx'
  dom : ∀ n, hget H' n ≠ none → hget H n ≠ none ∨ (nx ≤ n ∧ n < nx')

/-- A call that meets no named block. -/
def CallP (P : Program) (f : FuncId) (args : List SV) (r : SV) : Prop :=
  ∀ (E : Env) (w : World) (vals : Array Value) (H : HL), RelL w E args vals.toList → HeapOK E w (hget H) → EnvOK E w →
    Calls P f vals w fun e w' => ∃ v E', e = .returned v ∧ Post E w (hget H) E' w' (hget H) ∧ RelV w' E' r v

theorem CallP.ok {P : Program} {f : FuncId} {args : List SV} {r : SV} (h : CallP P f args r) (H : HL) (nx : Nat) : CallOK P H nx f args r H nx :=
  ⟨fun E w vals h1 h2 h3 _ => h E w vals H h1 h2 h3, Nat.le_refl _, fun _ hn => .inl hn⟩

/-- What is called, and with what. -/
def calleeOf (st : St) (f : Operand) (args : List Operand) : Option (FuncId × List SV) :=
  match st.ev f with
  | .clo (.func f) first cap => some (f, first ++ args.map st.ev ++ cap)
  | _ => none

def hasBody (P : Program) (f : FuncId) : Prop := ∃ fn, P.funcs[f]? = some fn ∧ (!(fn.name == "runtime.NumGoroutine") && fn.body.isSome) = true

/-- Functions without a body: the model answers for them at once. -/
def ExtP (P : Program) (f : FuncId) (args : List SV) (r : SV) : Prop :=
  ∀ (E : Env) (w : World) (vals : Array Value), RelL w E args vals.toList → ∃ v, (callFunc f vals).run P w = .ok (.value v) w ∧ RelV w E r v

theorem ext_run {P : Program} {st : St} {E : Env} {a : Act} {w : World} (hc : FrOK E w (lget st.σ) a.tmps) {o : Oper} {z : Operand} {args : Array Operand} {ts : Array TypeId} (ho : o.op = .call ⟨.value z, args, ts⟩)
    {f : FuncId} {xs : List SV} (hf : calleeOf st z args.toList = some (f, xs)) {r : SV} (h : ExtP P f xs r) : ∃ v, (execOp a.eval o).run P w = .ok (.value v) w ∧ RelV w E r v := by
  unfold calleeOf at hf
  split at hf
  · rename_i f' first cap hz
    simp only [Option.some.injEq, Prod.mk.injEq] at hf
    obtain ⟨rfl, rfl⟩ := hf
    have h1 := ev_ok hc z
    rw [show Ai.ev (lget st.σ) z = _ from hz] at h1
    simp only [RelV] at h1
    obtain ⟨fa, ca, h1, h2, h3⟩ := h1
    have hargs : RelL w E (first ++ args.toList.map st.ev ++ cap) (fa ++ args.map a.eval ++ ca).toList := by
      have := (h2.append (evs_ok hc args.toList)).append h3
      simpa using this
    obtain ⟨v, k1, k2⟩ := h E w _ hargs
    refine ⟨v, ?_, k2⟩
    rw [Array.append_assoc] at k1
    simp [execOp, ho, resolve, h1, Deferred.ofValue, invoke, k1]
  · cases hf

theorem mod_ext {B : Base} {st : St} {a : Act} {w : World} (h : Mod B st a w) {o : Oper} {z : Operand} {args : Array Operand} {ts : Array TypeId} (ho : o.op = .call ⟨.value z, args, ts⟩)
    {f : FuncId} {xs : List SV} (hf : calleeOf st z args.toList = some (f, xs)) {r : SV} (hr : ExtP B.P f xs r) (hd : ∀ t, o.dst = some t → t < a.tmps.size)
    {next : Act → World → Prop} {Q : Exit → Act → World → Prop} (K : ∀ a' w', Mod B (St.put st o.dst r) a' w' → a'.tmps.size = a.tmps.size → next a' w') : o.wp B.P a w next Q := by
  obtain ⟨E, hc, hfr, hp, hdf⟩ := h
  obtain ⟨v, h1, h2⟩ := ext_run hc.fr ho hf hr
  have hK := K (a.put o.dst v) w ⟨E, ⟨hc.tab, fr_put (d := o.dst) (v := v) hc.fr hd h2, hc.hp, hc.en, hc.nx⟩, hfr, hp, by cases hq : o.dst <;> simpa [Act.put] using hdf⟩ (put_size _ _ _)
  unfold Oper.wp
  rw [h1]
  exact hK

/-- A call of f, with or without a body. -/
def CallX (P : Program) (H : HL) (nx : Nat) (f : FuncId) (args : List SV) (r : SV) (H' : HL) (nx' : Nat) : Prop :=
  (hasBody P f ∧ CallOK P H nx f args r H' nx') ∨ (ExtP P f args r ∧ H' = H ∧ nx' = nx)

theorem mod_call {B : Base} {st : St} {a : Act} {w : World} (h : Mod B st a w) {o : Oper} {z : Operand} {args : Array Operand} {ts : Array TypeId} (ho : o.op = .call ⟨.value z, args, ts⟩)
    {f : FuncId} {xs : List SV} (hf : calleeOf st z args.toList = some (f, xs)) 
    {r : SV} {H' : HL} {nx' : Nat} (hX : CallX B.P st.H st.nx f xs r H' nx') (hd : ∀ t, o.dst = some t → t < a.tmps.size)
    {next : Act → World → Prop} {Q : Exit → Act → World → Prop} (K : ∀ a' w', Mod B (St.put ⟨st.σ, H', nx'⟩ o.dst r) a' w' → a'.tmps.size = a.tmps.size → next a' w') : o.wp B.P a w next Q := by
  rcases hX with ⟨hbody, hr⟩ | ⟨hr, rfl, rfl⟩
  rotate_left
  · exact mod_ext h ho hf hr hd K
  obtain ⟨E, hc, hfr, hp, hdf⟩ := h
  unfold calleeOf at hf
  split at hf
  · rename_i f' first cap hz
    simp only [Option.some.injEq, Prod.mk.injEq] at hf
    obtain ⟨rfl, rfl⟩ := hf
    have h1 := ev_ok hc.fr z
    rw [show Ai.ev (lget st.σ) z = _ from hz] at h1
    simp only [RelV] at h1
    obtain ⟨fa, ca, h1, h2, h3⟩ := h1
    have hrun : (execOp a.eval o).run B.P w = .ok (.enter f' (fa ++ args.map a.eval ++ ca)) w := by
      obtain ⟨fn, hb1, hb2⟩ := hbody
      simp only [Bool.and_eq_true, Bool.not_eq_true'] at hb2
      have hn : fn.body.isNone = false := by cases hq : fn.body <;> simp_all
      simp [execOp, ho, resolve, h1, Deferred.ofValue, invoke, callFunc, hb1, hb2.1, -beq_eq_false_iff_ne, -beq_iff_eq]
      intro hnone; rw [hnone] at hn; simp at hn
    unfold Oper.wp
    rw [hrun, Oper.upon_enter]
    have hargs : RelL w E (first ++ args.toList.map st.ev ++ cap) (fa ++ args.map a.eval ++ ca).toList := by
      have := (h2.append (evs_ok hc.fr args.toList)).append h3
      simpa using this
    refine (hr.run E w _ hargs hc.hp hc.en hfr).mono ?_
    rintro e w' ⟨v, E', rfl, hpost, hx⟩
    have hle := hpost.le hc.hp hc.en
    have hfr' : ∀ n, nx' ≤ n → E'.ι n = none := by
      intro n hnx
      have h1 := hfr n (Nat.le_trans hr.le hnx)
      refine hpost.dom n h1 ?_
      cases hq : hget H' n with
      | none => rfl
      | some b =>
        rcases hr.dom n (by simp [hq]) with h2 | ⟨h2, h3⟩
        · cases hb : hget st.H n with
          | none => exact (h2 hb).elim
          | some b' => obtain ⟨k, _, h4, _⟩ := hc.hp.blk n b' hb; rw [h1] at h4; cases h4
        · omega
    refine K _ _ ⟨E', ⟨hc.tab, ?_, ?_, hpost.env, ?_⟩, ?_, ?_, ?_⟩ (put_size _ _ _)
    · exact fr_put (d := o.dst) (v := v) (hc.fr.le hle) hd hx
    · exact hpost.heap
    · exact hfr' _ (Nat.le_refl _)
    · exact hfr'
    · exact hp.trans hpost
    · cases ho : o.dst <;> simpa [Act.put] using hdf
  · cases hf

end Go.Ai
