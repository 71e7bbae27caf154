/- Statements whose order is open: one run in the order of the text stands for all, if what is not ordered does not meet. -/
import Derived.Test.YtgehagonolkhhaaGreatDoorAi8
import Derived.Orders
namespace Go.Ai
open Go

/-! ### What an operation reads -/
def tmpsOf (l : List Operand) : List Tmp := l.filterMap fun | .tmp t => some t | _ => none

def SV.top : SV → List Nat
  | .p n _ | .s _ n _ _ _ | .m n => [n]
  | _ => []

/-- The named blocks whose cells the operation's outcome hangs on, or that it writes. -/
def hreads (st : St) : Op → List Nat
  | .load _ z => match st.ev z with | .p n _ => [n] | _ => []
  | .store _ z _ => match st.ev z with | .p n _ => [n] | _ => []
  | .slice _ x _ _ _ => (st.ev x).top
  | .lookup _ x _ _ => (st.ev x).top
  | .mapUpdate _ m _ _ => (st.ev m).top
  | .insert _ m _ _ => (st.ev m).top
  | .convert _ _ x => (st.ev x).top
  | .binOp _ _ x y _ => (st.ev x).top ++ (st.ev y).top
  | .call ⟨.builtin _, args, _⟩ => args.toList.flatMap fun x => (st.ev x).top
  | _ => []

theorem ev_congr {σ σ' : List (Nat × SV)} {z : Operand} (h : ∀ t, z = .tmp t → lget σ t = lget σ' t) : ev (lget σ) z = ev (lget σ') z := by
  cases z with
  | tmp t => simp [ev, h t rfl]
  | _ => rfl

theorem mem_tmpsOf {l : List Operand} {t : Tmp} (h : Operand.tmp t ∈ l) : t ∈ tmpsOf l := by
  simp only [tmpsOf, List.mem_filterMap]; exact ⟨.tmp t, h, rfl⟩

/-- The operations whose step hangs on their operands, and on the blocks of 'hreads' alone. -/
def local1 : Op → Bool
  | .move _ | .assign _ | .pick _ _ _ | .alloc _ | .box _ _ | .build _ _ | .load _ _ | .store _ _ _ | .nilCheck _ | .binOp _ _ _ _ _ | .unOp _ _ _ | .convert _ _ _ | .makeFunc _ _ _
  | .fieldAddr _ _ _ | .field _ _ _ | .indexAddr _ _ _ | .index _ _ _ | .extract _ _ | .buildSlice _ _ _ | .makeSlice _ _ _ | .slice _ _ _ _ _ | .makeMap _ _ | .lookup _ _ _ _ | .mapUpdate _ _ _ _ | .insert _ _ _ _ => true
  | .call ⟨.builtin _, _, _⟩ => true
  | _ => false

theorem map_ev_congr {σ σ' : List (Nat × SV)} {l : List Operand} (h : ∀ t, t ∈ tmpsOf l → lget σ t = lget σ' t) : l.map (ev (lget σ)) = l.map (ev (lget σ')) := by
  apply List.map_congr_left
  intro z hz
  exact ev_congr fun t e => h t (mem_tmpsOf (e ▸ hz))

theorem srcOf_congr {H H' : HL} {sz : Nat} {x : SV} (h : ∀ n ∈ x.top, hget H n = hget H' n) : srcOf H sz x = srcOf H' sz x := by
  unfold srcOf
  split
  · rfl
  · rfl
  · rename_i z n off len cap
    simp only [h n (by simp [SV.top])]
  · rfl
  · rfl

theorem eqP_congr {H H' : HL} {x y : SV} (h : ∀ n ∈ x.top ++ y.top, hget H n = hget H' n) : eqP H x y = eqP H' x y := by
  unfold eqP
  split
  · rfl
  · rfl
  · rfl
  · rfl
  · rfl
  · rename_i n o m o'
    simp only [h n (by simp [SV.top]), h m (by simp [SV.top])]
  · rfl

theorem eqAny_congr {T : Tab} {H H' : HL} {t : TypeId} {x y : SV} (h : ∀ n ∈ x.top ++ y.top, hget H n = hget H' n) : eqAny T H t x y = eqAny T H' t x y := by
  have := eqP_congr h
  simp only [eqAny, this]

theorem bndOf_congr {st st' : St} {z : Option Operand} {d : Int} (h : ∀ y, z = some y → st.ev y = st'.ev y) : bndOf st z d = bndOf st' z d := by
  cases z with
  | none => rfl
  | some y => simp only [bndOf, h y rfl]

theorem blkOf_congr {H H' : HL} {x : SV} (h : ∀ n ∈ x.top, hget H n = hget H' n) : blkOf H x = blkOf H' x := by
  unfold blkOf
  split
  · exact h _ (by simp [SV.top])
  · exact h _ (by simp [SV.top])
  · exact h _ (by simp [SV.top])
  · rfl

theorem stBuiltin_local {T : Tab} {st st' : St} {b : Builtin} {ts : Array TypeId} {args : Array Operand} (e : ∀ x ∈ args.toList, st.ev x = st'.ev x) (hH : ∀ x ∈ args.toList, ∀ n ∈ (st.ev x).top, hget st.H n = hget st'.H n)
    (hn : st.nx = st'.nx) : stBuiltin T st b ts args = stBuiltin T st' b ts args := by
  have hbl : ∀ x ∈ args.toList, blkOf st.H (st'.ev x) = blkOf st'.H (st'.ev x) := fun x hx => by rw [← e x hx]; exact blkOf_congr (hH x hx)
  have hsr : ∀ x ∈ args.toList, ∀ sz, srcOf st.H sz (st'.ev x) = srcOf st'.H sz (st'.ev x) := fun x hx sz => by rw [← e x hx]; exact srcOf_congr (hH x hx)
  cases b with
  | append =>
    simp only [stBuiltin, stAppend, stAppendZ, okRes, newRes, hn]
    generalize args.toList = l at *
    rcases l with _ | ⟨x, _ | ⟨y, _ | ⟨z, l⟩⟩⟩
    · rcases hq : ts.toList with _ | ⟨_, _ | ⟨_, _ | _⟩⟩ <;> rfl
    · rcases hq : ts.toList with _ | ⟨_, _ | ⟨_, _ | _⟩⟩ <;> rfl
    · rcases hq : ts.toList with _ | ⟨_, _ | ⟨_, _ | ⟨_, _⟩⟩⟩ <;> first | rfl | simp only [hsr y (by simp), hbl x (by simp), e x (by simp), e y (by simp)]
    · rcases hq : ts.toList with _ | ⟨_, _ | ⟨_, _ | _⟩⟩ <;> rfl
  | copy =>
    simp only [stBuiltin, stCopy, okRes, hn]
    generalize args.toList = l at *
    rcases l with _ | ⟨x, _ | ⟨y, _ | ⟨z, l⟩⟩⟩
    · rcases hq : ts.toList with _ | ⟨_, _ | ⟨_, _ | _⟩⟩ <;> rfl
    · rcases hq : ts.toList with _ | ⟨_, _ | ⟨_, _ | _⟩⟩ <;> rfl
    · rcases hq : ts.toList with _ | ⟨_, _ | ⟨_, _ | ⟨_, _⟩⟩⟩ <;> first | rfl | simp only [hsr y (by simp), hbl x (by simp), e x (by simp), e y (by simp)]
    · rcases hq : ts.toList with _ | ⟨_, _ | ⟨_, _ | _⟩⟩ <;> rfl
  | clear =>
    simp only [stBuiltin, stClear, okRes, hn]
    generalize args.toList = l at *
    rcases l with _ | ⟨x, _ | ⟨z, l⟩⟩
    · rcases hq : ts.toList with _ | ⟨_, _ | ⟨_, _ | _⟩⟩ <;> rfl
    · rcases hq : ts.toList with _ | ⟨_, _ | ⟨_, _ | ⟨_, _⟩⟩⟩ <;> first | rfl | simp only [hbl x (by simp), e x (by simp)]
    · rcases hq : ts.toList with _ | ⟨_, _ | ⟨_, _ | _⟩⟩ <;> rfl
  | len =>
    simp only [stBuiltin, stLen2, stLen, okRes, hn]
    generalize args.toList = l at *
    rcases l with _ | ⟨x, _ | ⟨z, l⟩⟩
    · rcases hq : ts.toList with _ | ⟨_, _ | ⟨_, _ | _⟩⟩ <;> rfl
    · rcases hq : ts.toList with _ | ⟨_, _ | ⟨_, _ | ⟨_, _⟩⟩⟩ <;> first | rfl | simp only [hbl x (by simp), e x (by simp)]
    · rcases hq : ts.toList with _ | ⟨_, _ | ⟨_, _ | _⟩⟩ <;> rfl
  | cap =>
    simp only [stBuiltin, stCap, okRes, hn]
    generalize args.toList = l at *
    rcases l with _ | ⟨x, _ | ⟨z, l⟩⟩
    · rcases hq : ts.toList with _ | ⟨_, _ | ⟨_, _ | _⟩⟩ <;> rfl
    · rcases hq : ts.toList with _ | ⟨_, _ | ⟨_, _ | ⟨_, _⟩⟩⟩ <;> first | rfl | simp only [e x (by simp)]
    · rcases hq : ts.toList with _ | ⟨_, _ | ⟨_, _ | _⟩⟩ <;> rfl
  | min =>
    simp only [stBuiltin, stMin, okRes, hn]
    generalize args.toList = l at *
    rcases l with _ | ⟨x, _ | ⟨y, _ | ⟨z, l⟩⟩⟩
    · rcases hq : ts.toList with _ | ⟨_, _ | ⟨_, _ | _⟩⟩ <;> rfl
    · rcases hq : ts.toList with _ | ⟨_, _ | ⟨_, _ | _⟩⟩ <;> rfl
    · rcases hq : ts.toList with _ | ⟨_, _ | ⟨_, _ | ⟨_, _⟩⟩⟩ <;> first | rfl | simp only [e y (by simp), e x (by simp)]
    · rcases hq : ts.toList with _ | ⟨_, _ | ⟨_, _ | _⟩⟩ <;> rfl
  | max =>
    simp only [stBuiltin, stMin, okRes, hn]
    generalize args.toList = l at *
    rcases l with _ | ⟨x, _ | ⟨y, _ | ⟨z, l⟩⟩⟩
    · rcases hq : ts.toList with _ | ⟨_, _ | ⟨_, _ | _⟩⟩ <;> rfl
    · rcases hq : ts.toList with _ | ⟨_, _ | ⟨_, _ | _⟩⟩ <;> rfl
    · rcases hq : ts.toList with _ | ⟨_, _ | ⟨_, _ | ⟨_, _⟩⟩⟩ <;> first | rfl | simp only [e y (by simp), e x (by simp)]
    · rcases hq : ts.toList with _ | ⟨_, _ | ⟨_, _ | _⟩⟩ <;> rfl
  | unsafeSliceData =>
    simp only [stBuiltin, stData, okRes, hn]
    generalize args.toList = l at *
    rcases l with _ | ⟨x, _ | ⟨z, l⟩⟩
    · rcases hq : ts.toList with _ | ⟨_, _ | ⟨_, _ | _⟩⟩ <;> rfl
    · rcases hq : ts.toList with _ | ⟨_, _ | ⟨_, _ | ⟨_, _⟩⟩⟩ <;> first | rfl | simp only [e x (by simp)]
    · rcases hq : ts.toList with _ | ⟨_, _ | ⟨_, _ | _⟩⟩ <;> rfl
  | unsafeString =>
    simp only [stBuiltin, stUStr, okRes, hn]
    generalize args.toList = l at *
    rcases l with _ | ⟨x, _ | ⟨y, _ | ⟨z, l⟩⟩⟩
    · rcases hq : ts.toList with _ | ⟨_, _ | ⟨_, _ | _⟩⟩ <;> rfl
    · rcases hq : ts.toList with _ | ⟨_, _ | ⟨_, _ | _⟩⟩ <;> rfl
    · rcases hq : ts.toList with _ | ⟨_, _ | ⟨_, _ | ⟨_, _⟩⟩⟩ <;> first | rfl | simp only [hbl x (by simp), e y (by simp), e x (by simp)]
    · rcases hq : ts.toList with _ | ⟨_, _ | ⟨_, _ | _⟩⟩ <;> rfl
  | _ => rfl

theorem opStep_local {T : Tab} {st st' : St} {op : Op} (hl : local1 op = true) (hσ : ∀ t ∈ tmpsOf op.operands.toList, lget st.σ t = lget st'.σ t) (hH : ∀ n ∈ hreads st op, hget st.H n = hget st'.H n)
    (hn : st.nx = st'.nx) : opStep T st op = opStep T st' op := by
  have e : ∀ z ∈ op.operands.toList, st.ev z = st'.ev z := fun z hz => ev_congr fun t h => hσ t (mem_tmpsOf (h ▸ hz))
  cases op with
  | move z => simp only [opStep, okRes, e z (by simp [Op.operands]), hn]
  | assign z => simp only [opStep, okRes, e z (by simp [Op.operands]), hn]
  | pick c a b => simp only [opStep, stPick, okRes, e c (by simp [Op.operands]), e a (by simp [Op.operands]), e b (by simp [Op.operands]), hn]
  | alloc t => simp only [opStep, stAlloc, newRes, hn]
  | box t z => simp only [opStep, stBox, newRes, e z (by simp [Op.operands]), hn]
  | build t ps =>
    have : (ps.toList.map fun p => (p.1, st.ev p.2)) = ps.toList.map fun p => (p.1, st'.ev p.2) := by
      apply List.map_congr_left
      intro p hp
      rw [e p.2 (by simp only [Op.operands]; exact List.mem_map.2 ⟨p, hp, rfl⟩)]
    simp only [opStep, stBuild, okRes, this, hn]
  | load t z =>
    have hz := e z (by simp [Op.operands])
    simp only [opStep, stLoad, okRes, hn]
    rw [← hz]
    cases hq : st.ev z with
    | p n off => have := hH n (by simp [hreads, hq]); simp only [this]
    | _ => rfl
  | store t z y =>
    have hz := e z (by simp [Op.operands])
    simp only [opStep, stStore, hn]
    rw [← hz, ← e y (by simp [Op.operands])]
    cases hi : T t with
    | none => cases hq : st.ev z <;> rfl
    | some i =>
      cases hq : st.ev z with
      | p n off => have := hH n (by simp [hreads, hq]); simp only [this]
      | _ => rfl
  | nilCheck z => simp only [opStep, stNil, okRes, e z (by simp [Op.operands]), hn]
  | binOp o t x y t' =>
    have hx := e x (by simp [Op.operands])
    have hy := e y (by simp [Op.operands])
    have he : eqAny T st.H t (st.ev x) (st.ev y) = eqAny T st'.H t (st'.ev x) (st'.ev y) := by rw [← hx, ← hy]; exact eqAny_congr hH
    have h1 : stBin T st o t x y = stBin T st' o t x y := by simp only [stBin, okRes, hx, hy, hn]
    have h2 : stEq T st o t x y = stEq T st' o t x y := by simp only [stEq, okRes, he, hn]
    simp only [opStep, stBin2, h1, h2]
  | unOp o t x => simp only [opStep, stUn, okRes, e x (by simp [Op.operands]), hn]
  | convert s t x =>
    have hx := e x (by simp [Op.operands])
    have h1 : stConv T st s t x = stConv T st' s t x := by simp only [stConv, okRes, hx, hn]
    have h2 : stConvS T st s t x = stConvS T st' s t x := by simp only [stConvS, okRes, hx, hn]
    have h3 : srcOf st.H 1 (st.ev x) = srcOf st'.H 1 (st.ev x) := srcOf_congr hH
    have h4 : stConvB T st s t x = stConvB T st' s t x := by
      simp only [stConvB, okRes, hn]
      rw [← hx]
      simp only [h3]
    have h6 : blkOf st.H (st.ev x) = blkOf st'.H (st.ev x) := blkOf_congr hH
    have h5 : stConvU T st s t x = stConvU T st' s t x := by
      simp only [stConvU, okRes, hn]
      rw [← hx, h6]
    simp only [opStep, stConv2, h1, h2, h4, h5]
  | buildSlice t n ps =>
    have : (ps.toList.map fun p => (p.1, st.ev p.2)) = ps.toList.map fun p => (p.1, st'.ev p.2) := by
      apply List.map_congr_left
      intro p hp
      rw [e p.2 (by simp only [Op.operands]; exact List.mem_map.2 ⟨p, hp, rfl⟩)]
    simp only [opStep, stBuildSlice, newRes, this, hn]
  | makeSlice t l c => simp only [opStep, stMake, newRes, e l (by simp [Op.operands]), e c (by simp [Op.operands]), hn]
  | slice t x lo hi mx =>
    have hx := e x (by simp [Op.operands])
    have b1 : ∀ d, bndOf st lo d = bndOf st' lo d := fun d => bndOf_congr fun y hy => e y (by subst hy; simp [Op.operands])
    have b2 : ∀ d, bndOf st hi d = bndOf st' hi d := fun d => bndOf_congr fun y hy => e y (by subst hy; simp [Op.operands])
    have b3 : ∀ d, bndOf st mx d = bndOf st' mx d := fun d => bndOf_congr fun y hy => e y (by subst hy; simp [Op.operands])
    have h6 : blkOf st.H (st.ev x) = blkOf st'.H (st.ev x) := blkOf_congr hH
    simp only [opStep, stSlice, okRes, b1, b2, b3, hn]
    rw [← hx, h6]
  | makeMap t r => simp only [opStep, stMakeMap, hn]
  | lookup t x k ok =>
    have hx := e x (by simp [Op.operands])
    have h6 : blkOf st.H (st.ev x) = blkOf st'.H (st.ev x) := blkOf_congr hH
    simp only [opStep, stLookup, okRes, e k (by simp [Op.operands]), hn]
    rw [← hx, h6]
  | mapUpdate t m k x =>
    have hm := e m (by simp [Op.operands])
    simp only [opStep, stMapUpdate, e k (by simp [Op.operands]), e x (by simp [Op.operands]), hn]
    have h6 : blkOf st.H (st.ev m) = blkOf st'.H (st.ev m) := blkOf_congr hH
    rw [← hm, h6]
  | insert t m k x =>
    have hm := e m (by simp [Op.operands])
    simp only [opStep, stMapUpdate, e k (by simp [Op.operands]), e x (by simp [Op.operands]), hn]
    have h6 : blkOf st.H (st.ev m) = blkOf st'.H (st.ev m) := blkOf_congr hH
    rw [← hm, h6]
  | makeFunc fn a b =>
    have h1 : a.toList.map st.ev = a.toList.map st'.ev := List.map_congr_left fun z hz => e z (by simp only [Op.operands, Array.toList_append]; exact List.mem_append.2 (.inl hz))
    have h2 : b.toList.map st.ev = b.toList.map st'.ev := List.map_congr_left fun z hz => e z (by simp only [Op.operands, Array.toList_append]; exact List.mem_append.2 (.inr hz))
    simp only [opStep, okRes, h1, h2, hn]
  | fieldAddr t z f => simp only [opStep, stField, okRes, e z (by simp [Op.operands]), hn]
  | field t z f => simp only [opStep, stFieldV, okRes, e z (by simp [Op.operands]), hn]
  | indexAddr t z i => simp only [opStep, stIndexAddr, okRes, e z (by simp [Op.operands]), e i (by simp [Op.operands]), hn]
  | index t z i => simp only [opStep, stIndex, okRes, e z (by simp [Op.operands]), e i (by simp [Op.operands]), hn]
  | extract x i => simp only [opStep, stExtract, okRes, e x (by simp [Op.operands]), hn]
  | call c =>
    obtain ⟨cal, args, ts⟩ := c
    cases cal with
    | builtin b =>
      have e' : ∀ x ∈ args.toList, st.ev x = st'.ev x := fun x hx => e x (by simp only [Op.operands, Call.operands, Array.toList_append]; exact List.mem_append.2 (.inr hx))
      have hH' : ∀ x ∈ args.toList, ∀ n ∈ (st.ev x).top, hget st.H n = hget st'.H n := fun x hx n hn => hH n (by simp only [hreads, List.mem_flatMap]; exact ⟨x, hx, hn⟩)
      exact stBuiltin_local e' hH' hn
    | _ => simp [local1] at hl
  | _ => simp [local1] at hl

/-! ### One step of a region, wherever it comes in the order -/
structure DStep where
  d : Option Tmp
  rt : List Tmp
  hr : List Nat
  x : SV
  U : HL

/-- In any state that agrees with st on what the operation reads, the operation at place i of the region comes to s. -/
def Good (W : Nat) (P : Program) (T : Tab) (ops : Array Oper) (i : Nat) (st : St) (s : DStep) : Prop :=
  ∀ (E : Env) (a : Act) (w : World) (σ : List (Nat × SV)) (H : HL) (K : Act → World → Prop) (Q : Exit → Act → World → Prop), (∀ t ∈ s.rt, lget st.σ t = lget σ t) → (∀ n ∈ s.hr, hget st.H n = hget H n) →
    Ctx P T ⟨σ, H, st.nx⟩ E a w → (∀ m, st.nx ≤ m → m < st.nx + W → E.ι m = none) →
    (∀ v w' E', Post E w (hget H) E' w' (hget (s.U ++ H)) → RelV w' E' s.x v → K (a.put s.d v) w') → wpOp P ops Q i K a w

def namesU (U : HL) : List Nat := U.map (·.1)

theorem hget_append (U H : HL) (n : Nat) : hget (U ++ H) n = if n ∈ namesU U then hget U n else hget H n := by
  induction U with
  | nil => simp [namesU]
  | cons p U ih =>
    obtain ⟨k, b⟩ := p
    simp only [List.cons_append, hget_nil, hget_cons, namesU, List.map_cons, List.mem_cons]
    by_cases e : k = n
    · simp [e]
    · simp only [e, if_false, ih, Ne.symm e, false_or]; rfl

theorem good_skip {W : Nat} {P : Program} {T : Tab} {ops : Array Oper} {i : Nat} {st : St} {o : Oper} (ho : ops[i]? = some o) {g : Tmp} {j : Nat} {want : Bool} (hg : o.guard = some (j, want)) (hj : (ops[j]?).bind (·.dst) = some g)
    {x : Value} (hx : lget st.σ g = some (.v x)) (hne : x ≠ .bool want) : Good W P T ops i st ⟨o.dst, [g], [], .v undef, []⟩ := by
  intro E a w σ H K Q hσ _ hc _ hK
  have hgx : lget σ g = some (.v x) := by rw [← hσ g (by simp)]; exact hx
  obtain ⟨h1, h2⟩ := hc.fr g _ hgx
  simp only [RelV] at h2
  have hget : a.tmps[g]? = some x := by
    rw [Array.getElem?_eq_getElem h1, ← h2]; simp [Array.getD, h1]
  have hw : Region.wanted o (yielded ops a.tmps) = false := by
    simp only [Region.wanted, hg, yielded, hj, Option.bind_some, hget]
    cases x <;> simp_all
  simp only [wpOp, ho, hw, Bool.false_eq_true, if_false]
  exact hK undef w E (by simpa using Post.refl hc.hp hc.en) (by simp [RelV])

/-- The guard lets the operation run. -/
def GuardOK (ops : Array Oper) (st : St) (o : Oper) (gt : List Tmp) : Prop :=
  (o.guard = none ∧ gt = []) ∨ ∃ j want g, o.guard = some (j, want) ∧ (ops[j]?).bind (·.dst) = some g ∧ gt = [g] ∧ lget st.σ g = some (.v (.bool want))

theorem wanted_of {P : Program} {T : Tab} {ops : Array Oper} {st : St} {o : Oper} {gt : List Tmp} (hg : GuardOK ops st o gt) {E : Env} {a : Act} {w : World} {σ : List (Nat × SV)} {H : HL} {nx : Nat}
    (hσ : ∀ t ∈ gt, lget st.σ t = lget σ t) (hc : Ctx P T ⟨σ, H, nx⟩ E a w) : Region.wanted o (yielded ops a.tmps) = true := by
  rcases hg with ⟨h, _⟩ | ⟨j, want, g, h1, h2, rfl, h3⟩
  · simp [Region.wanted, h]
  · have hgx : lget σ g = some (.v (.bool want)) := by rw [← hσ g (by simp)]; exact h3
    obtain ⟨q1, q2⟩ := hc.fr g _ hgx
    simp only [RelV] at q2
    have hget : a.tmps[g]? = some (.bool want) := by
      rw [Array.getElem?_eq_getElem q1, ← q2]; simp [Array.getD, q1]
    simp [Region.wanted, h1, yielded, h2, hget]

theorem good_op {W : Nat} {P : Program} {T : Tab} (hT : T.OK P) {ops : Array Oper} {i : Nat} {st : St} {o : Oper} (ho : ops[i]? = some o) {gt : List Tmp} (hg : GuardOK ops st o gt)
    (hl : local1 o.op = true) {r : Res} (hr : opStep T st o.op = some r) (hs : r.side = true) : Good W P T ops i st ⟨o.dst, gt ++ tmpsOf o.op.operands.toList, hreads st o.op, r.x, r.U⟩ := by
  intro E a w σ H K Q hσ hH hc _ hK
  have hw := wanted_of hg (fun t ht => hσ t (by simp [ht])) hc
  simp only [wpOp, ho, hw, if_true]
  left
  have hloc := opStep_local (T := T) (st := st) (st' := ⟨σ, H, st.nx⟩) hl (fun t ht => hσ t (by simp [ht])) hH rfl
  rw [hloc] at hr
  obtain ⟨v, w', E', hrun, hpost, hx⟩ := (opStep_ok hT hr).run E a w o hc rfl hs
  have := hK v w' E' hpost hx
  unfold Oper.wp
  rcases hrun with hrun | ⟨hrun, rfl⟩ <;> (rw [hrun]; exact this)

/-- A call that meets no named block, with or without a body. -/
def CallPX (P : Program) (f : FuncId) (xs : List SV) (r : SV) : Prop := (hasBody P f ∧ CallP P f xs r) ∨ ExtP P f xs r

theorem good_call {W : Nat} {P : Program} {T : Tab} {ops : Array Oper} {i : Nat} {st : St} {o : Oper} (ho : ops[i]? = some o) {gt : List Tmp} (hg : GuardOK ops st o gt)
    {z : Operand} {args : Array Operand} {ts : Array TypeId} (hop : o.op = .call ⟨.value z, args, ts⟩) {f : FuncId} {xs : List SV} (hf : calleeOf st z args.toList = some (f, xs))
    {r : SV} (hX : CallPX P f xs r) : Good W P T ops i st ⟨o.dst, gt ++ tmpsOf o.op.operands.toList, [], r, []⟩ := by
  intro E a w σ H K Q hσ _ hc _ hK
  have hw := wanted_of hg (fun t ht => hσ t (by simp [ht])) hc
  simp only [wpOp, ho, hw, if_true]
  left
  have hz : ∀ y ∈ o.op.operands.toList, st.ev y = (⟨σ, H, st.nx⟩ : St).ev y := fun y hy => ev_congr fun t e => hσ t (by simp only [List.mem_append]; exact .inr (mem_tmpsOf (e ▸ hy)))
  have hop' : o.op.operands.toList = z :: args.toList := by rw [hop]; simp [Op.operands, Call.operands]
  have hf' : calleeOf ⟨σ, H, st.nx⟩ z args.toList = some (f, xs) := by
    rw [← hf]
    unfold calleeOf
    rw [← hz z (by simp [hop'])]
    have : args.toList.map st.ev = args.toList.map (⟨σ, H, st.nx⟩ : St).ev := List.map_congr_left fun y hy => hz y (by simp [hop', hy])
    rw [this]
  rcases hX with ⟨hb, hr⟩ | hr
  rotate_left
  · obtain ⟨v, h1, h2⟩ := ext_run hc.fr hop hf' hr
    unfold Oper.wp
    rw [h1]
    exact hK v w E (by simpa using Post.refl hc.hp hc.en) h2
  unfold calleeOf at hf'
  split at hf'
  · rename_i f' first cap hz'
    simp only [Option.some.injEq, Prod.mk.injEq] at hf'
    obtain ⟨rfl, rfl⟩ := hf'
    have h1 := ev_ok hc.fr z
    rw [show Ai.ev (lget σ) z = _ from hz'] at h1
    simp only [RelV] at h1
    obtain ⟨fa, ca, h1, h2, h3⟩ := h1
    have hrun : (execOp a.eval o).run P w = .ok (.enter f' (fa ++ args.map a.eval ++ ca)) w := by
      obtain ⟨fn, hb1, hb2⟩ := hb
      simp only [Bool.and_eq_true, Bool.not_eq_true'] at hb2
      have hn : fn.body.isNone = false := by cases hq : fn.body <;> simp_all
      simp [execOp, hop, resolve, h1, Deferred.ofValue, invoke, callFunc, hb1, hb2.1, -beq_eq_false_iff_ne, -beq_iff_eq]
      intro hnone; rw [hnone] at hn; simp at hn
    unfold Oper.wp
    rw [hrun, Oper.upon_enter]
    have hargs : RelL w E (first ++ args.toList.map (⟨σ, H, st.nx⟩ : St).ev ++ cap) (fa ++ args.map a.eval ++ ca).toList := by
      have := (h2.append (evs_ok (st := ⟨σ, H, st.nx⟩) hc.fr args.toList)).append h3
      simpa using this
    refine (hr E w _ H hargs hc.hp hc.en).mono ?_
    rintro e w' ⟨v, E', rfl, hpost, hx⟩
    exact hK v w' E' (by simpa using hpost) hx
  · cases hf'

/-! ### A call that meets named blocks -/
/-- The part of a heap that is named in rd. -/
def Heap.part (H : Heap) (rd : List Nat) : Heap := fun n => if n ∈ rd then H n else none
/-- .. with what U says put over it. -/
def Heap.over (H : Heap) (U : HL) : Heap := fun n => if n ∈ namesU U then hget U n else H n
def live (H : HL) (rd : List Nat) (n : Nat) : Bool := rd.contains n && (hget H n).isSome

structure CallH (W : Nat) (P : Program) (H : HL) (nx : Nat) (f : FuncId) (xs : List SV) (r : SV) (rd : List Nat) (U : HL) : Prop where
  body : hasBody P f
  sat : Sat P f xs (Heap.part (hget H) rd) r (Heap.over (Heap.part (hget H) rd) U)
  args : namesInL (live H rd) xs = true
  cells : ∀ n ∈ rd, ∀ b, hget H n = some b → namesInL (live H rd) b.cells = true
  names : ∀ m ∈ namesU U, live H rd m = true ∨ (nx ≤ m ∧ m < nx + W)

theorem part_or (H : Heap) (rd : List Nat) : Heap.or (Heap.part H rd) (fun n => if n ∈ rd then none else H n) = H := by
  funext n
  simp only [Heap.or, Heap.part]
  by_cases h : n ∈ rd
  · simp only [h, if_true]; cases H n <;> rfl
  · simp [h]

theorem good_callH {W : Nat} {P : Program} {T : Tab} {ops : Array Oper} {i : Nat} {st : St} {o : Oper} (ho : ops[i]? = some o) {gt : List Tmp} (hg : GuardOK ops st o gt)
    {z : Operand} {args : Array Operand} {ts : Array TypeId} (hop : o.op = .call ⟨.value z, args, ts⟩) {f : FuncId} {xs : List SV} (hf : calleeOf st z args.toList = some (f, xs))
    {r : SV} {rd : List Nat} {U : HL} (hX : CallH W P st.H st.nx f xs r rd U) : Good W P T ops i st ⟨o.dst, gt ++ tmpsOf o.op.operands.toList, rd, r, U⟩ := by
  intro E a w σ H K Q hσ hH hc hfresh hK
  have hw := wanted_of hg (fun t ht => hσ t (by simp [ht])) hc
  simp only [wpOp, ho, hw, if_true]
  left
  have hz : ∀ y ∈ o.op.operands.toList, st.ev y = (⟨σ, H, st.nx⟩ : St).ev y := fun y hy => ev_congr fun t e => hσ t (by simp only [List.mem_append]; exact .inr (mem_tmpsOf (e ▸ hy)))
  have hop' : o.op.operands.toList = z :: args.toList := by rw [hop]; simp [Op.operands, Call.operands]
  have hf' : calleeOf ⟨σ, H, st.nx⟩ z args.toList = some (f, xs) := by
    rw [← hf]
    unfold calleeOf
    rw [← hz z (by simp [hop'])]
    have : args.toList.map st.ev = args.toList.map (⟨σ, H, st.nx⟩ : St).ev := List.map_congr_left fun y hy => hz y (by simp [hop', hy])
    rw [this]
  -- the part of this heap is that heap's part
  have hpart : Heap.part (hget st.H) rd = Heap.part (hget H) rd := by
    funext n
    simp only [Heap.part]
    by_cases h : n ∈ rd
    · simp only [h, if_true]; exact hH n h
    · simp [h]
  have hlive : ∀ n, live st.H rd n = true ↔ Heap.part (hget H) rd n ≠ none := by
    intro n
    rw [← hpart]
    simp only [live, Heap.part, Bool.and_eq_true, List.contains_iff_mem]
    by_cases h : n ∈ rd
    · simp only [h, true_and, if_true]; cases hget st.H n <;> simp
    · simp [h]
  unfold calleeOf at hf'
  split at hf'
  · rename_i f' first cap hz'
    simp only [Option.some.injEq, Prod.mk.injEq] at hf'
    obtain ⟨rfl, rfl⟩ := hf'
    have h1 := ev_ok hc.fr z
    rw [show Ai.ev (lget σ) z = _ from hz'] at h1
    simp only [RelV] at h1
    obtain ⟨fa, ca, h1, h2, h3⟩ := h1
    have hrun : (execOp a.eval o).run P w = .ok (.enter f' (fa ++ args.map a.eval ++ ca)) w := by
      obtain ⟨fn, hb1, hb2⟩ := hX.body
      simp only [Bool.and_eq_true, Bool.not_eq_true'] at hb2
      have hn : fn.body.isNone = false := by cases hq : fn.body <;> simp_all
      simp [execOp, hop, resolve, h1, Deferred.ofValue, invoke, callFunc, hb1, hb2.1, -beq_eq_false_iff_ne, -beq_iff_eq]
      intro hnone; rw [hnone] at hn; simp at hn
    unfold Oper.wp
    rw [hrun, Oper.upon_enter]
    have hargs : RelL w E (first ++ args.toList.map (⟨σ, H, st.nx⟩ : St).ev ++ cap) (fa ++ args.map a.eval ++ ca).toList := by
      have := (h2.append (evs_ok (st := ⟨σ, H, st.nx⟩) hc.fr args.toList)).append h3
      simpa using this
    have hsat := hX.sat
    rw [hpart] at hsat
    have hHp : HeapOK E w (Heap.part (hget H) rd) := by
      refine ⟨fun n b hn => ?_, fun n m k hn hm => hc.hp.inj n m k ?_ ?_⟩
      · simp only [Heap.part] at hn; split at hn
        · exact hc.hp.blk n b hn
        · cases hn
      · simp only [Heap.part] at hn; split at hn
        · exact hn
        · exact (hn rfl).elim
      · simp only [Heap.part] at hm; split at hm
        · exact hm
        · exact (hm rfl).elim
    have hnew : ∀ n, Heap.over (Heap.part (hget H) rd) U n ≠ none → Heap.part (hget H) rd n = none → n ∈ namesU U ∧ E.ι n = none := by
      intro n hn hn'
      simp only [Heap.over] at hn
      split at hn
      · rename_i hu
        refine ⟨hu, ?_⟩
        rcases hX.names n hu with h | h
        · exact absurd hn' ((hlive n).1 h)
        · exact hfresh n h.1 h.2
      · exact (hn hn').elim
    refine (hsat.wide (live st.H rd) hlive hX.args ?_ (fun n hn hn' => (hnew n hn hn').2) hargs hHp hc.en).mono ?_
    · intro n b hn
      have : n ∈ rd := by
        simp only [Heap.part] at hn; split at hn
        · assumption
        · cases hn
      refine hX.cells n this b ?_
      rw [← hpart] at hn
      simpa [Heap.part, this] using hn
    · rintro e w' ⟨v, E', rfl, hpost, hx⟩
      refine hK v w' E' ?_ hx
      have hfr := frame_rule (R := fun n => if n ∈ rd then none else hget H n) (by intro n hn; simp only [Heap.part] at hn; split at hn <;> simp_all) (by rw [part_or]; exact hc.hp) hc.en hpost
      rw [part_or] at hfr
      have : Heap.or (Heap.over (Heap.part (hget H) rd) U) (fun n => if n ∈ rd then none else hget H n) = hget (U ++ H) := by
        funext n
        rw [hget_append]
        simp only [Heap.or, Heap.over]
        by_cases hu : n ∈ namesU U
        · simp only [hu, if_true]
          cases hq : hget U n with
          | some b => rfl
          | none =>
            by_cases hr : n ∈ rd
            · simp [hr]
            · simp only [hr, if_false]
              rcases hX.names n hu with h | h
              · simp [live, hr] at h
              · have := hfresh n h.1 h.2
                cases hb : hget H n with
                | none => rfl
                | some b => obtain ⟨k, _, g1, _⟩ := hc.hp.blk n b hb; rw [this] at g1; cases g1
        · simp only [hu, if_false, Heap.part]
          by_cases hr : n ∈ rd
          · simp only [hr, if_true]; cases hget H n <;> rfl
          · simp [hr]
      rw [this] at hfr
      exact hfr
  · cases hf'

/-! ### The state when some operations have been done -/
def mσ (D : Nat → Bool) : Nat → List DStep → List (Nat × SV) → List (Nat × SV)
  | _, [], σ => σ
  | i, s :: rest, σ => mσ D (i + 1) rest (if D i then putσ σ s.d s.x else σ)
def mH (D : Nat → Bool) : Nat → List DStep → HL → HL
  | _, [], H => H
  | i, s :: rest, H => mH D (i + 1) rest (if D i then s.U ++ H else H)

theorem lget_put (σ : List (Nat × SV)) (d : Option Tmp) (x : SV) (t : Nat) : lget (putσ σ d x) t = if d = some t then some x else lget σ t := by
  cases d with
  | none => simp [putσ]
  | some u => simp only [putσ, lget_lset, Option.some.injEq]; by_cases h : t = u <;> simp [h, eq_comm]

/-- What a slot holds hangs only on whether its writers have been done. -/
theorem mσ_congr {D D' : Nat → Bool} {t : Nat} : ∀ (l : List DStep) (i : Nat) (σ σ' : List (Nat × SV)), lget σ t = lget σ' t → (∀ k s, l[k]? = some s → s.d = some t → D (i + k) = D' (i + k)) →
    lget (mσ D i l σ) t = lget (mσ D' i l σ') t
  | [], _, _, _, h, _ => h
  | s :: rest, i, σ, σ', h, hw => by
    simp only [mσ]
    refine mσ_congr rest (i + 1) _ _ ?_ ?_
    · by_cases hd : s.d = some t
      · have := hw 0 s rfl hd
        simp only [Nat.add_zero] at this
        rw [this]
        by_cases e : D' i = true <;> simp [e, lget_put, hd, h]
      · have aux : ∀ (b : Bool) (σ : List (Nat × SV)), lget (if b = true then putσ σ s.d s.x else σ) t = lget σ t := by
          intro b σ; cases b <;> simp [lget_put, hd]
        rw [aux, aux, h]
    · intro k s' hk hd
      have := hw (k + 1) s' (by simpa using hk) hd
      rw [show i + (k + 1) = i + 1 + k by omega] at this
      exact this

theorem mH_congr {D D' : Nat → Bool} {n : Nat} : ∀ (l : List DStep) (i : Nat) (H H' : HL), hget H n = hget H' n → (∀ k s, l[k]? = some s → n ∈ namesU s.U → D (i + k) = D' (i + k)) →
    hget (mH D i l H) n = hget (mH D' i l H') n
  | [], _, _, _, h, _ => h
  | s :: rest, i, H, H', h, hw => by
    simp only [mH]
    refine mH_congr rest (i + 1) _ _ ?_ ?_
    · by_cases hd : n ∈ namesU s.U
      · have := hw 0 s rfl hd
        simp only [Nat.add_zero] at this
        rw [this]
        by_cases e : D' i = true <;> simp [e, hget_append, hd, h]
      · have aux : ∀ (b : Bool) (H : HL), hget (if b = true then s.U ++ H else H) n = hget H n := by
          intro b H; cases b <;> simp [hget_append, hd]
        rw [aux, aux, h]
    · intro k s' hk hd
      have := hw (k + 1) s' (by simpa using hk) hd
      rw [show i + (k + 1) = i + 1 + k by omega] at this
      exact this

/-- One more has been done. -/
theorem mσ_set {D D' : Nat → Bool} {t j : Nat} {s : DStep} (hD : ∀ k, k ≠ j → D' k = D k) (hj : D' j = true) (hj0 : D j = false) : ∀ (l : List DStep) (i : Nat) (σ : List (Nat × SV)), i ≤ j → l[j - i]? = some s →
    (∀ k s', l[k]? = some s' → j < i + k → s'.d = some t → s.d = some t → D (i + k) = false) → lget (mσ D' i l σ) t = lget (putσ (mσ D i l σ) s.d s.x) t
  | [], _, _, _, h, _ => by simp at h
  | s' :: rest, i, σ, hi, h, hw => by
    by_cases e : i = j
    · subst e
      simp only [Nat.sub_self, List.getElem?_cons_zero, Option.some.injEq] at h
      subst h
      simp only [mσ, hj, hj0, if_true, Bool.false_eq_true, if_false, lget_put]
      by_cases hd : s'.d = some t
      · simp only [hd, if_true]
        have h1 : lget (mσ D' (i + 1) rest (putσ σ s'.d s'.x)) t = lget (mσ (fun _ => false) (i + 1) rest (putσ σ s'.d s'.x)) t := by
          refine mσ_congr rest (i + 1) _ _ rfl ?_
          intro k s'' hk hd'
          have := hw (k + 1) s'' (by simpa using hk) (by omega) hd' hd
          rw [hD _ (by omega)]
          rw [show i + 1 + k = i + (k + 1) by omega]; exact this
        rw [← hd, h1]
        have h2 : ∀ (l : List DStep) (i : Nat) (σ : List (Nat × SV)), mσ (fun _ => false) i l σ = σ := by
          intro l; induction l with
          | nil => intro i σ; rfl
          | cons a l ih => intro i σ; simp only [mσ, Bool.false_eq_true, if_false]; exact ih _ _
        rw [h2, lget_put]; simp [hd]
      · simp only [hd, if_false]
        refine mσ_congr rest (i + 1) _ _ (by simp [lget_put, hd]) ?_
        intro k s'' hk hd'
        exact hD _ (by omega)
    · simp only [mσ]
      have hlt : i < j := by omega
      have := mσ_set hD hj hj0 rest (i + 1) (if D i then putσ σ s'.d s'.x else σ) (by omega) (by rw [show j - i = (j - (i + 1)) + 1 by omega] at h; simpa using h) (t := t) ?_
      · rw [hD i e]; exact this
      · intro k s'' hk hjk hd hd'
        have := hw (k + 1) s'' (by simpa using hk) (by omega) hd hd'
        rw [show i + (k + 1) = i + 1 + k by omega] at this
        exact this

theorem mH_set {D D' : Nat → Bool} {n j : Nat} {s : DStep} (hD : ∀ k, k ≠ j → D' k = D k) (hj : D' j = true) (hj0 : D j = false) : ∀ (l : List DStep) (i : Nat) (H : HL), i ≤ j → l[j - i]? = some s →
    (∀ k s', l[k]? = some s' → j < i + k → n ∈ namesU s'.U → n ∈ namesU s.U → D (i + k) = false) → hget (mH D' i l H) n = hget (s.U ++ mH D i l H) n
  | [], _, _, _, h, _ => by simp at h
  | s' :: rest, i, H, hi, h, hw => by
    by_cases e : i = j
    · subst e
      simp only [Nat.sub_self, List.getElem?_cons_zero, Option.some.injEq] at h
      subst h
      simp only [mH, hj, hj0, if_true, Bool.false_eq_true, if_false, hget_append]
      by_cases hd : n ∈ namesU s'.U
      · simp only [hd, if_true]
        have h1 : hget (mH D' (i + 1) rest (s'.U ++ H)) n = hget (mH (fun _ => false) (i + 1) rest (s'.U ++ H)) n := by
          refine mH_congr rest (i + 1) _ _ rfl ?_
          intro k s'' hk hd'
          have := hw (k + 1) s'' (by simpa using hk) (by omega) hd' hd
          rw [hD _ (by omega)]
          rw [show i + 1 + k = i + (k + 1) by omega]; exact this
        rw [h1]
        have h2 : ∀ (l : List DStep) (i : Nat) (H : HL), mH (fun _ => false) i l H = H := by
          intro l; induction l with
          | nil => intro i H; rfl
          | cons a l ih => intro i H; simp only [mH, Bool.false_eq_true, if_false]; exact ih _ _
        rw [h2, hget_append]; simp [hd]
      · simp only [hd, if_false]
        refine mH_congr rest (i + 1) _ _ (by simp [hget_append, hd]) ?_
        intro k s'' hk hd'
        exact hD _ (by omega)
    · simp only [mH]
      have hlt : i < j := by omega
      have := mH_set hD hj hj0 rest (i + 1) (if D i then s'.U ++ H else H) (by omega) (by rw [show j - i = (j - (i + 1)) + 1 by omega] at h; simpa using h) (n := n) ?_
      · rw [hD i e]; exact this
      · intro k s'' hk hjk hd hd'
        have := hw (k + 1) s'' (by simpa using hk) (by omega) hd hd'
        rw [show i + (k + 1) = i + 1 + k by omega] at this
        exact this

/-! ### The order -/
structure Tr where
  d : Option Tmp
  rt : List Tmp
  hr : List Nat
  hw : List Nat

def DStep.tr (s : DStep) : Tr := ⟨s.d, s.rt, s.hr, namesU s.U⟩

def meets (a b : List Nat) : Bool := a.any fun x => b.contains x
def conf (a b : Tr) : Bool :=
  meets a.d.toList b.rt || meets b.d.toList a.rt || meets a.d.toList b.d.toList || meets a.hw b.hr || meets b.hw a.hr || meets a.hw b.hw

/-- Each once. -/
def dd : List Nat → List Nat
  | [] => []
  | x :: l => bif l.contains x then dd l else x :: dd l
theorem mem_dd {x : Nat} : ∀ {l : List Nat}, x ∈ dd l → x ∈ l
  | y :: l, h => by
    simp only [dd] at h
    cases hc : l.contains y <;> simp only [hc, cond_true, cond_false] at h
    · rcases List.mem_cons.1 h with rfl | h
      · simp
      · exact List.mem_cons_of_mem _ (mem_dd h)
    · exact List.mem_cons_of_mem _ (mem_dd h)

def closures : List (List Nat) → List (List Nat) → List (List Nat)
  | [], cls => cls
  | p :: rest, cls => closures rest (cls ++ [dd (p ++ p.flatMap fun q => cls.getD q [])])

/-- Whatever meets is ordered. -/
def ordered (cls : List (List Nat)) (tr : List Tr) : Bool :=
  tr.zipIdx.all fun (b, j) => tr.zipIdx.all fun (a, i) => !(decide (i < j)) || !conf a b || (cls.getD j []).contains i

def predsOf (o : Oper) : List Nat := (o.after.toList.filter fun e => Region.binds .any e).map (·.on)
def backward (ps : List (List Nat)) : Bool := ps.zipIdx.all fun (p, i) => p.all fun q => decide (q < i)

theorem meets_false {a b : List Nat} (h : meets a b = false) {x : Nat} (hx : x ∈ a) : x ∉ b := by
  intro hb
  have := List.any_eq_false.1 h x hx
  simp [hb] at this

theorem closures_ok {D : Nat → Bool} {ps : List (List Nat)} (hD : ∀ j, D j = true → ∀ q ∈ ps.getD j [], D q = true) : ∀ (rest cls done : List (List Nat)), ps = done ++ rest → cls.length = done.length →
    (∀ j, ∀ p ∈ cls.getD j [], (∀ q ∈ ps.getD j [], D q = true) → D p = true) → ∀ j, ∀ p ∈ (closures rest cls).getD j [], (∀ q ∈ ps.getD j [], D q = true) → D p = true
  | [], cls, _, _, _, h => h
  | a :: rest, cls, done, hps, hlen, h => by
    simp only [closures]
    refine closures_ok hD rest _ (done ++ [a]) (by simp [hps]) (by simp [hlen]) ?_
    intro j p hp hq
    by_cases e : j < cls.length
    · rw [List.getD_eq_getElem?_getD, List.getElem?_append_left e, ← List.getD_eq_getElem?_getD] at hp; exact h j p hp hq
    · by_cases e' : j = cls.length
      · subst e'
        have ha : ps.getD cls.length [] = a := by rw [hps, hlen]; simp
        rw [ha] at hq
        simp only [List.getD_eq_getElem?_getD, List.getElem?_append_right (Nat.le_refl _), Nat.sub_self, List.getElem?_cons_zero, Option.getD_some] at hp
        have hp := mem_dd hp
        simp at hp
        rcases hp with hp | ⟨q, hqa, hp⟩
        · exact hq p hp
        · exact h q p (by simpa using hp) (hD q (hq q hqa))
      · rw [List.getD_eq_getElem?_getD, List.getElem?_eq_none (by simp; omega)] at hp
        simp at hp

theorem ordered_spec {cls : List (List Nat)} {tr : List Tr} (h : ordered cls tr = true) {i j : Nat} {a b : Tr} (hi : tr[i]? = some a) (hj : tr[j]? = some b) (hlt : i < j) (hc : conf a b = true) : i ∈ cls.getD j [] := by
  unfold ordered at h
  have h1 := List.all_eq_true.1 h (b, j) (by rw [List.mem_zipIdx_iff_getElem?]; exact hj)
  have h2 := List.all_eq_true.1 h1 (a, i) (by rw [List.mem_zipIdx_iff_getElem?]; exact hi)
  simpa [hlt, hc] using h2

/-! ### A run in the order of the text -/
/-- The steps of a run from place i on, and the state behind them. -/
def Runs (W : Nat) (P : Program) (T : Tab) (ops : Array Oper) (base : Nat) : Nat → St → List DStep → St → Prop
  | _, st, [], stf => st = stf
  | i, st, s :: rest, stf => Good W P T ops i st s ∧ st.nx = base + i * W ∧ ((ops[i]?).map (·.dst) = some s.d) ∧ (∀ m ∈ namesU s.U, (base + i * W ≤ m ∧ m < base + i * W + W) ∨ m < base ∨ (m ∈ s.hr ∧ hget st.H m ≠ none)) ∧
      ∃ st', lget st'.σ = lget (putσ st.σ s.d s.x) ∧ hget st'.H = hget (s.U ++ st.H) ∧ Runs W P T ops base (i + 1) st' rest stf

theorem runs_at {W : Nat} {P : Program} {T : Tab} {ops : Array Oper} {base : Nat} : ∀ (steps : List DStep) (i : Nat) (st stf : St), Runs W P T ops base i st steps stf → ∀ (k : Nat) (s : DStep), steps[k]? = some s →
    ∃ stk, Good W P T ops (i + k) stk s ∧ stk.nx = base + (i + k) * W ∧ ((ops[i + k]?).map (·.dst) = some s.d) ∧ (∀ m ∈ namesU s.U, (base + (i + k) * W ≤ m ∧ m < base + (i + k) * W + W) ∨ m < base ∨ (m ∈ s.hr ∧ hget stk.H m ≠ none)) ∧
      lget stk.σ = lget (mσ (fun j => decide (j < i + k)) i steps st.σ) ∧ hget stk.H = hget (mH (fun j => decide (j < i + k)) i steps st.H)
  | [], _, _, _, _, k, s, hs => by simp at hs
  | s' :: rest, i, st, stf, h, k, s, hs => by
    simp only [Runs] at h
    obtain ⟨h1, h2, h3, h4, st', h5, h6, h7⟩ := h
    have hnone : ∀ (l : List DStep) (j : Nat) (σ : List (Nat × SV)) (m : Nat), m ≤ j → mσ (fun x => decide (x < m)) j l σ = σ := by
      intro l; induction l with
      | nil => intro j σ m _; rfl
      | cons a l ih => intro j σ m hm; simp only [mσ, show ¬ j < m by omega, decide_false, Bool.false_eq_true, if_false]; exact ih _ _ _ (by omega)
    have hnoneH : ∀ (l : List DStep) (j : Nat) (H : HL) (m : Nat), m ≤ j → mH (fun x => decide (x < m)) j l H = H := by
      intro l; induction l with
      | nil => intro j H m _; rfl
      | cons a l ih => intro j H m hm; simp only [mH, show ¬ j < m by omega, decide_false, Bool.false_eq_true, if_false]; exact ih _ _ _ (by omega)
    cases k with
    | zero =>
      simp only [List.getElem?_cons_zero, Option.some.injEq] at hs
      subst hs
      refine ⟨st, h1, h2, h3, h4, ?_, ?_⟩
      · rw [Nat.add_zero, hnone _ _ _ _ (Nat.le_refl _)]
      · rw [Nat.add_zero, hnoneH _ _ _ _ (Nat.le_refl _)]
    | succ k =>
      obtain ⟨stk, g1, g2, g3, g4, g5, g6⟩ := runs_at rest (i + 1) st' stf h7 k s (by simpa using hs)
      rw [show i + (k + 1) = i + 1 + k by omega]
      refine ⟨stk, g1, g2, g3, g4, ?_, ?_⟩
      · rw [g5]
        funext t
        simp only [mσ, show i < i + 1 + k by omega, decide_true, if_true]
        exact mσ_congr rest (i + 1) _ _ (by rw [h5]) (fun _ _ _ _ => rfl)
      · rw [g6]
        funext t
        simp only [mH, show i < i + 1 + k by omega, decide_true, if_true]
        exact mH_congr rest (i + 1) _ _ (by rw [h6]) (fun _ _ _ _ => rfl)

theorem runs_end {W : Nat} {P : Program} {T : Tab} {ops : Array Oper} {base : Nat} : ∀ (steps : List DStep) (i : Nat) (st stf : St), Runs W P T ops base i st steps stf →
    lget stf.σ = lget (mσ (fun _ => true) i steps st.σ) ∧ hget stf.H = hget (mH (fun _ => true) i steps st.H)
  | [], _, _, _, h => by simp only [Runs] at h; subst h; exact ⟨rfl, rfl⟩
  | s' :: rest, i, st, stf, h => by
    simp only [Runs] at h
    obtain ⟨h1, h2, h3, h4, st', h5, h6, h7⟩ := h
    obtain ⟨g1, g2⟩ := runs_end rest (i + 1) st' stf h7
    constructor
    · rw [g1]; funext t; simp only [mσ, if_true]; exact mσ_congr rest (i + 1) _ _ (by rw [h5]) (fun _ _ _ _ => rfl)
    · rw [g2]; funext t; simp only [mH, if_true]; exact mH_congr rest (i + 1) _ _ (by rw [h6]) (fun _ _ _ _ => rfl)

theorem le_drew (E : Env) (w : World) : Le E w E w.drew := ⟨fun _ _ h => h, fun _ h => ⟨h, rfl⟩, fun _ _ h => h⟩

theorem mod_drew {B : Base} {st : St} {a : Act} {w : World} (h : Mod B st a w) : Mod B st a w.drew := by
  obtain ⟨E, hc, hfr, hp, hdf⟩ := h
  have hle := le_drew E w
  refine ⟨E, ⟨hc.tab, hc.fr.le hle, ⟨?_, hc.hp.inj⟩, ⟨hc.en.I, hc.en.ι⟩, hc.nx⟩, hfr, ⟨hp.ι, hp.I, hp.out.trans (.drew (Foot B.E B.H) w) (fun _ _ h => h), hp.newI, hp.newι⟩, hdf⟩
  intro n b hb
  obtain ⟨k, cs, h1, h2, h3, h3', h4⟩ := hc.hp.blk n b hb
  exact ⟨k, cs, h1, h2, h3, h3', RelC.le hle _ _ _ rfl h4⟩

theorem cnt_lt {p p' : Nat → Bool} {i : Nat} : ∀ {n : Nat}, i < n → p i = true → p' i = false → (∀ k, k ≠ i → p' k = p k) → (List.range n).countP p' < (List.range n).countP p
  | 0, h, _, _, _ => by omega
  | n + 1, h, h1, h2, h3 => by
    rw [List.range_succ, List.countP_append, List.countP_append]
    by_cases e : i = n
    · subst e
      have : (List.range i).countP p' = (List.range i).countP p := by
        refine List.countP_congr ?_
        intro x hx
        have : x < i := by simpa using hx
        rw [h3 x (by omega)]
      rw [this]
      simp [h1, h2]
    · have := cnt_lt (n := n) (by omega) h1 h2 h3
      have h4 : p' n = p n := h3 n (Ne.symm e)
      simp only [List.countP_cons, List.countP_nil, h4]
      omega

/-- A statement whose order is open, by one run in the order of the text. -/
theorem drawn_ok {W : Nat} (hW : 0 < W) {B : Base} {id : Nat} {ops : Array Oper} {st stf : St} {steps : List DStep} {nt : Nat} (hruns : Runs W B.P B.T ops st.nx 0 st steps stf) (hlen : steps.length = ops.size) (hnxf : stf.nx = st.nx + ops.size * W)
    (hback : backward (ops.toList.map predsOf) = true) (hord : ordered (closures (ops.toList.map predsOf) []) (steps.map DStep.tr) = true)
    {a : Act} {w : World} (hm : Mod B st a w) (hsz : a.tmps.size = nt) (hdst : ∀ o ∈ ops, ∀ t, o.dst = some t → t < nt)
    {Q : Exit → Act → World → Prop} (hQ : ∀ a w, Mod B stf a w → a.tmps.size = nt → Q .normal a w) : (Code.region id ops true).wp B.P Q a w := by
  refine wp_region_any B.mo ?_
  let ps := ops.toList.map predsOf
  have hps : ∀ i o, ops[i]? = some o → ps.getD i [] = predsOf o := by
    intro i o ho
    simp only [ps, List.getD_eq_getElem?_getD, List.getElem?_map, Array.getElem?_toList, ho, Option.map_some, Option.getD_some]
  -- what holds when D has been done
  let MD : (Nat → Bool) → Act → World → Prop := fun D a w => ∃ E, FrOK E w (lget (mσ D 0 steps st.σ)) a.tmps ∧ HeapOK E w (hget (mH D 0 steps st.H)) ∧ EnvOK E w ∧
    (∀ m, (st.nx + ops.size * W ≤ m ∨ ∃ i, (st.nx + i * W ≤ m ∧ m < st.nx + i * W + W) ∧ D i = false) → E.ι m = none) ∧ PostW B.E B.w B.H E w (hget (mH D 0 steps st.H)) ∧ a.defers = [] ∧ a.tmps.size = nt
  have hT : B.T.OK B.P := by obtain ⟨E, hc, _⟩ := hm; exact hc.tab
  have key : ∀ (fuel : Nat) (listed : Array Bool) (a : Act) (w : World), listed.size = ops.size → (∀ j, listed.getD j false = true → ∀ q ∈ ps.getD j [], listed.getD q false = true) →
      (List.range ops.size).countP (fun i => !listed.getD i false) ≤ fuel → MD (fun i => listed.getD i false) a w → wpAny B.P .any ops Q fuel listed a w := by
    intro fuel
    have hall : ∀ (listed : Array Bool) (a : Act) (w : World), (∀ i, i < ops.size → listed.getD i false = true) → MD (fun i => listed.getD i false) a w → Q .normal a w := by
      intro listed a w hfull ⟨E, h1, h2, h3, h4, h5, h6, h7⟩
      obtain ⟨e1, e2⟩ := runs_end steps 0 st stf hruns
      have q1 : lget (mσ (fun i => listed.getD i false) 0 steps st.σ) = lget stf.σ := by
        rw [e1]; funext t
        refine mσ_congr steps 0 _ _ rfl ?_
        intro k s hk _
        have : k < steps.length := (List.getElem?_eq_some_iff.1 hk).1
        exact hfull (0 + k) (by omega)
      have q2 : hget (mH (fun i => listed.getD i false) 0 steps st.H) = hget stf.H := by
        rw [e2]; funext t
        refine mH_congr steps 0 _ _ rfl ?_
        intro k s hk _
        have : k < steps.length := (List.getElem?_eq_some_iff.1 hk).1
        exact hfull (0 + k) (by omega)
      rw [q1] at h1
      rw [q2] at h2 h5
      exact hQ a w ⟨E, ⟨hT, h1, h2, h3, h4 _ (.inl (by omega))⟩, fun n hn => h4 n (.inl (by omega)), h5, h6⟩ h7
    have hready : ∀ (listed : Array Bool), listed.size = ops.size → Region.ready .any ops listed = [] → ∀ i, i < ops.size → listed.getD i false = true := by
      intro listed hls hr i
      induction i using Nat.strongRecOn with
      | _ i ih =>
        intro hi
        cases hb : listed.getD i false with
        | true => rfl
        | false =>
          exfalso
          have : i ∈ Region.ready .any ops listed := by
            rw [mem_ready]
            refine ⟨by simpa [Array.getD, hls, hi] using hb, ops[i], Array.getElem?_eq_getElem hi, ?_⟩
            intro e he hbind
            have hq : e.on ∈ predsOf ops[i] := by
              simp only [predsOf, List.mem_map, List.mem_filter]
              exact ⟨e, ⟨by simpa using he, hbind⟩, rfl⟩
            have hlt : e.on < i := by
              have := List.all_eq_true.1 hback (predsOf ops[i], i) (by rw [List.mem_zipIdx_iff_getElem?]; simp [hi])
              simpa using List.all_eq_true.1 this e.on hq
            exact ih e.on hlt (by omega)
          rw [hr] at this
          simp at this
    induction fuel with
    | zero =>
      intro listed a w hls hcl hcnt hmd
      have hfull : ∀ i, i < ops.size → listed.getD i false = true := by
        intro i hi
        have h0 : (List.range ops.size).countP (fun i => !listed.getD i false) = 0 := by omega
        have := List.countP_eq_zero.1 h0 i (by simpa using hi)
        simpa using this
      refine ⟨?_, hall listed a w hfull hmd⟩
      cases hr : Region.ready .any ops listed with
      | nil => rfl
      | cons i l =>
        have : i ∈ Region.ready .any ops listed := by rw [hr]; simp
        rw [mem_ready] at this
        obtain ⟨h1, o, h2, _⟩ := this
        have hi : i < ops.size := (Array.getElem?_eq_some_iff.1 h2).1
        have := hfull i hi
        simp [Array.getD, hls, hi] at h1 this
        rw [h1] at this; cases this
    | succ fuel ih =>
      intro listed a w hls hcl hcnt hmd
      refine ⟨fun hr => hall listed a w (hready listed hls hr) hmd, ?_⟩
      intro i hi
      rw [mem_ready] at hi
      obtain ⟨hi1, o, ho, hpre⟩ := hi
      have hilt : i < ops.size := (Array.getElem?_eq_some_iff.1 ho).1
      have hDi : listed.getD i false = false := by simpa [Array.getD, hls, hilt] using hi1
      have hs : ∃ s, steps[i]? = some s := ⟨steps[i]'(by omega), List.getElem?_eq_getElem _⟩
      obtain ⟨s, hs⟩ := hs
      obtain ⟨stk, g1, g2, g3, g4, g5, g6⟩ := runs_at steps 0 st stf hruns i s hs
      simp only [Nat.zero_add] at g1 g2 g3 g4 g5 g6
      obtain ⟨E, m1, m2, m3, m4, m5, m6, m7⟩ := hmd
      have hpi : ∀ q ∈ ps.getD i [], listed.getD q false = true := by
        intro q hq
        rw [hps i o ho] at hq
        simp only [predsOf, List.mem_map, List.mem_filter] at hq
        obtain ⟨e, ⟨he, hb⟩, rfl⟩ := hq
        exact hpre e (by simpa using he) hb
      have htr : ∀ (k : Nat) (s' : DStep), steps[k]? = some s' → (steps.map DStep.tr)[k]? = some s'.tr := by
        intro k s' hk; simp [hk]
      -- what meets and comes before has been done; what meets and comes behind has not
      have hbefore : ∀ (k : Nat) (s' : DStep), steps[k]? = some s' → k < i → conf s'.tr s.tr = true → listed.getD k false = true := by
        intro k s' hk hki hc
        have := ordered_spec hord (htr k s' hk) (htr i s hs) hki hc
        exact closures_ok (D := fun j => listed.getD j false) (ps := ps) hcl ps [] [] (by simp) rfl (by simp) i k this hpi
      have hbehind : ∀ (k : Nat) (s' : DStep), steps[k]? = some s' → i < k → conf s.tr s'.tr = true → listed.getD k false = false := by
        intro k s' hk hik hc
        have := ordered_spec hord (htr i s hs) (htr k s' hk) hik hc
        cases hb : listed.getD k false with
        | false => rfl
        | true =>
          have := closures_ok (D := fun j => listed.getD j false) (ps := ps) hcl ps [] [] (by simp) rfl (by simp) k i this (hcl k hb)
          rw [hDi] at this; cases this
      have confL : ∀ (s' : DStep) (t : Tmp), s'.d = some t → t ∈ s.rt → conf s'.tr s.tr = true ∧ conf s.tr s'.tr = true := by
        intro s' t hd ht
        have : meets s'.d.toList s.rt = true := by unfold meets; rw [List.any_eq_true]; exact ⟨t, by simp [hd], by simpa using ht⟩
        constructor <;> simp [conf, DStep.tr, this]
      have confH : ∀ (s' : DStep) (n : Nat), n ∈ namesU s'.U → n ∈ s.hr → conf s'.tr s.tr = true ∧ conf s.tr s'.tr = true := by
        intro s' n hd ht
        have : meets (namesU s'.U) s.hr = true := by unfold meets; rw [List.any_eq_true]; exact ⟨n, hd, by simpa using ht⟩
        constructor <;> simp [conf, DStep.tr, this]
      have confW : ∀ (s' : DStep) (t : Tmp), s'.d = some t → s.d = some t → conf s.tr s'.tr = true := by
        intro s' t hd hd'
        have : meets s.d.toList s'.d.toList = true := by unfold meets; rw [List.any_eq_true]; exact ⟨t, by simp [hd'], by simp [hd]⟩
        simp [conf, DStep.tr, this]
      have confU : ∀ (s' : DStep) (n : Nat), n ∈ namesU s'.U → n ∈ namesU s.U → conf s.tr s'.tr = true := by
        intro s' n hd hd'
        have : meets (namesU s.U) (namesU s'.U) = true := by unfold meets; rw [List.any_eq_true]; exact ⟨n, hd', by simpa using hd⟩
        simp [conf, DStep.tr, this]
      have hagree : ∀ t ∈ s.rt, lget stk.σ t = lget (mσ (fun j => listed.getD j false) 0 steps st.σ) t := by
        intro t ht
        rw [g5]
        refine mσ_congr steps 0 _ _ rfl ?_
        intro k s' hk hd
        rw [Nat.zero_add]
        rcases Nat.lt_trichotomy k i with h | h | h
        · simp only [h, decide_true]; exact (hbefore k s' hk h (confL s' t hd ht).1).symm
        · subst h; simp only [Nat.lt_irrefl, decide_false]; exact hDi.symm
        · simp only [show ¬ k < i by omega, decide_false]; exact (hbehind k s' hk h (confL s' t hd ht).2).symm
      have hagreeH : ∀ n ∈ s.hr, hget stk.H n = hget (mH (fun j => listed.getD j false) 0 steps st.H) n := by
        intro t ht
        rw [g6]
        refine mH_congr steps 0 _ _ rfl ?_
        intro k s' hk hd
        rw [Nat.zero_add]
        rcases Nat.lt_trichotomy k i with h | h | h
        · simp only [h, decide_true]; exact (hbefore k s' hk h (confH s' t hd ht).1).symm
        · subst h; simp only [Nat.lt_irrefl, decide_false]; exact hDi.symm
        · simp only [show ¬ k < i by omega, decide_false]; exact (hbehind k s' hk h (confH s' t hd ht).2).symm
      refine g1 E a w _ _ _ Q hagree hagreeH ⟨hT, m1, m2, m3, by rw [g2]; exact m4 _ (.inr ⟨i, ⟨by omega, by omega⟩, hDi⟩)⟩ (fun m h1 h2 => m4 m (.inr ⟨i, ⟨by rw [g2] at h1; exact h1, by rw [g2] at h2; exact h2⟩, hDi⟩)) ?_
      intro v w' E' hpost hv
      have hset : ∀ k, k ≠ i → (listed.setIfInBounds i true).getD k false = listed.getD k false := fun k hk => getD_set_ne false (Ne.symm hk)
      have hseti : (listed.setIfInBounds i true).getD i false = true := by simp [Array.getD, hls, hilt]
      have hd : o.dst = s.d := by simpa [ho] using g3
      have q1 : lget (mσ (fun j => (listed.setIfInBounds i true).getD j false) 0 steps st.σ) = lget (putσ (mσ (fun j => listed.getD j false) 0 steps st.σ) s.d s.x) := by
        funext t
        refine mσ_set hset hseti hDi steps 0 st.σ (Nat.zero_le _) (by simpa using hs) ?_
        intro k s' hk hik hd1 hd2
        rw [Nat.zero_add]; exact hbehind k s' hk (by omega) (confW s' t hd1 hd2)
      have q2 : hget (mH (fun j => (listed.setIfInBounds i true).getD j false) 0 steps st.H) = hget (s.U ++ mH (fun j => listed.getD j false) 0 steps st.H) := by
        funext t
        refine mH_set hset hseti hDi steps 0 st.H (Nat.zero_le _) (by simpa using hs) ?_
        intro k s' hk hik hd1 hd2
        rw [Nat.zero_add]; exact hbehind k s' hk (by omega) (confU s' t hd1 hd2)
      refine ih (listed.setIfInBounds i true) _ w' (by simp [hls]) ?_ ?_ ⟨E', ?_, ?_, hpost.env, ?_, ?_, ?_, ?_⟩
      · intro j hj q hq
        by_cases e : q = i
        · subst e; exact hseti
        · rw [hset q e]
          by_cases e' : j = i
          · subst e'; exact hpi q hq
          · rw [hset j e'] at hj; exact hcl j hj q hq
      · have hcount : (List.range ops.size).countP (fun j => !(listed.setIfInBounds i true).getD j false) < (List.range ops.size).countP (fun j => !listed.getD j false) := by
          refine cnt_lt hilt (by simp [hDi]) (by simp only [hseti]; rfl) ?_
          intro k hk
          simp only [hset k hk]
        omega
      · rw [q1]
        have hle := hpost.le m2 m3
        exact fr_put (d := s.d) (m1.le hle) (fun t ht => by rw [m7]; exact hdst o (Array.mem_of_getElem? ho) t (by rw [hd]; exact ht)) hv
      · rw [q2]; exact hpost.heap
      · intro m hmm
        have step : ∀ x y : Nat, x < y → x * W + W ≤ y * W := by
          intro x y h
          have := Nat.mul_le_mul_right W (show x + 1 ≤ y by omega)
          rw [Nat.succ_mul] at this; exact this
        have hsize := step i ops.size hilt
        have hU : m ∉ namesU s.U := by
          intro hmem
          rcases g4 m hmem with h | h
          · rcases hmm with h' | ⟨k, h', hk⟩
            · omega
            · have : k = i := by
                rcases Nat.lt_trichotomy k i with h'' | h'' | h''
                · have := step k i h''; omega
                · exact h''
                · have := step i k h''; omega
              subst this; simp only [hseti] at hk; cases hk
          · rcases h with h | ⟨h1, h2⟩
            · rcases hmm with h' | ⟨k, h', hk⟩ <;> omega
            · have hE' : E.ι m = none := by
                rcases hmm with h' | ⟨k, h', hk⟩
                · exact m4 m (.inl h')
                · refine m4 m (.inr ⟨k, h', ?_⟩)
                  by_cases e : k = i
                  · subst e; simp only [hseti] at hk; cases hk
                  · simp only [hset k e] at hk; exact hk
              rw [hagreeH m h1] at h2
              cases hb : hget (mH (fun j => listed.getD j false) 0 steps st.H) m with
              | none => exact h2 hb
              | some b => obtain ⟨k, _, h4, _⟩ := m2.blk m b hb; rw [hE'] at h4; cases h4
        have hEm : E.ι m = none := by
          rcases hmm with h' | ⟨k, h', hk⟩
          · exact m4 m (.inl h')
          · refine m4 m (.inr ⟨k, h', ?_⟩)
            by_cases e : k = i
            · subst e; simp only [hseti] at hk; cases hk
            · simp only [hset k e] at hk; exact hk
        refine hpost.dom m hEm ?_
        rw [hget_append]
        simp only [hU, if_false]
        cases hb : hget (mH (fun j => listed.getD j false) 0 steps st.H) m with
        | none => rfl
        | some b => obtain ⟨k, _, h4, _⟩ := m2.blk m b hb; rw [hEm] at h4; cases h4
      · rw [q2]; exact m5.trans hpost
      · cases s.d <;> simpa [Act.put] using m6
      · rw [put_size]; exact m7
  refine key ops.size _ a _ (by simp) ?_ ?_ ?_
  · intro j hj; simp [Array.getD] at hj
  · exact Nat.le_trans (List.countP_le_length) (by simp)
  · obtain ⟨E, hc, hfr, hp, hdf⟩ := mod_drew hm
    have hD : ∀ i, (Array.replicate ops.size false).getD i false = false := by intro i; simp [Array.getD]
    have z1 : ∀ (F : Nat → Bool), (∀ i, F i = false) → ∀ (l : List DStep) (i : Nat) (σ : List (Nat × SV)), mσ F i l σ = σ := by
      intro F hF l; induction l with
      | nil => intro i σ; rfl
      | cons a l ih => intro i σ; simp only [mσ, hF, Bool.false_eq_true, if_false]; exact ih _ _
    have z2 : ∀ (F : Nat → Bool), (∀ i, F i = false) → ∀ (l : List DStep) (i : Nat) (H : HL), mH F i l H = H := by
      intro F hF l; induction l with
      | nil => intro i σ; rfl
      | cons a l ih => intro i σ; simp only [mH, hF, Bool.false_eq_true, if_false]; exact ih _ _
    refine ⟨E, by rw [z1 _ hD]; exact hc.fr, by rw [z2 _ hD]; exact hc.hp, hc.en, ?_, by rw [z2 _ hD]; exact hp, hdf, hsz⟩
    rintro m (h | ⟨i, ⟨h, _⟩, _⟩)
    · exact hfr m (by omega)
    · exact hfr _ (by omega)

structure LOp where
  d : Option Tmp
  op : Op
  g : Option (Tmp × Bool)

def liteG (ops : Array Oper) : Option (Nat × Bool) → Option (Option (Tmp × Bool))
  | none => some none
  | some (j, b) => match (ops[j]?).bind (·.dst) with
    | some d => some (some (d, b))
    | none => none

def okDst (nt : Nat) : Option Tmp → Bool
  | some t => decide (t < nt)
  | none => true

def liteOps (nt : Nat) (ops : Array Oper) : List Oper → Option (List LOp)
  | [] => some []
  | o :: rest => match liteG ops o.guard, liteOps nt ops rest with
    | some g, some l => if okDst nt o.dst then some (⟨o.dst, o.op, g⟩ :: l) else none
    | _, _ => none

/-! ### The run in the order of the text, over code without what it does not need -/
def ldop (W : Nat) (P : Program) (T : Tab) (o : LOp) (gt : List Tmp) (base i : Nat) (K : Tr → St → Prop) (st : St) : Prop :=
  match o.op with
  | .call ⟨.value z, args, _⟩ =>
    match calleeOf st z args.toList with
    | some (f, xs) => (∃ r, CallPX P f xs r ∧ K ⟨o.d, gt ++ tmpsOf o.op.operands.toList, [], []⟩ ⟨putσ st.σ o.d r, st.H, base + (i + 1) * W⟩) ∨
        ∃ r rd U, CallH W P st.H (base + i * W) f xs r rd U ∧
          K ⟨o.d, gt ++ tmpsOf o.op.operands.toList, rd, namesU U⟩ ⟨putσ st.σ o.d r, U ++ st.H, base + (i + 1) * W⟩
    | none => False
  | op => local1 op = true ∧ match opStep T ⟨st.σ, st.H, base + i * W⟩ op with
    | some r => r.side = true ∧ (namesU r.U).all (fun m => m == base + i * W || decide (m < base) || ((hreads st op).contains m && (hget st.H m).isSome)) = true ∧
        K ⟨o.d, gt ++ tmpsOf op.operands.toList, hreads st op, namesU r.U⟩ ⟨putσ st.σ o.d r.x, r.U ++ st.H, base + (i + 1) * W⟩
    | none => False

def ldrun (W : Nat) (P : Program) (T : Tab) (base : Nat) (cls : List (List Nat)) : Nat → List LOp → List Tr → (St → Prop) → St → Prop
  | i, [], tr, K, st => ordered cls tr.reverse = true ∧ K ⟨st.σ, st.H, base + i * W⟩
  | i, o :: rest, tr, K, st =>
    match o.g with
    | none => ldop W P T o [] base i (fun t st' => ldrun W P T base cls (i + 1) rest (t :: tr) K st') st
    | some (g, want) => match lget st.σ g with
      | some (.v (.bool b)) => (b = want → ldop W P T o [g] base i (fun t st' => ldrun W P T base cls (i + 1) rest (t :: tr) K st') ⟨(g, .v (.bool want)) :: st.σ, st.H, st.nx⟩) ∧
          (b = !want → ldrun W P T base cls (i + 1) rest (⟨o.d, [g], [], []⟩ :: tr) K ⟨putσ ((g, .v (.bool (!want))) :: st.σ) o.d (.v undef), st.H, st.nx⟩)
      | some (.v (.tuple _)) => ldrun W P T base cls (i + 1) rest (⟨o.d, [g], [], []⟩ :: tr) K ⟨putσ st.σ o.d (.v undef), st.H, st.nx⟩
      | _ => False

theorem ldop_mono {W : Nat} {P : Program} {T : Tab} {o : LOp} {gt : List Tmp} {base i : Nat} {K K' : Tr → St → Prop} {st : St} (h : ∀ t st, K t st → K' t st) (hh : ldop W P T o gt base i K st) : ldop W P T o gt base i K' st := by
  unfold ldop at hh ⊢
  split at hh
  · split at hh
    · rcases hh with ⟨r, h1, h2⟩ | ⟨r, rd, U, h1, h3⟩
      · exact .inl ⟨r, h1, h _ _ h2⟩
      · exact .inr ⟨r, rd, U, h1, h _ _ h3⟩
    · exact hh
  · refine ⟨hh.1, ?_⟩
    have hh := hh.2
    split at hh
    · exact ⟨hh.1, hh.2.1, h _ _ hh.2.2⟩
    · exact hh

theorem ldrun_mono {W : Nat} {P : Program} {T : Tab} {base : Nat} {cls : List (List Nat)} {K K' : St → Prop} (hK : ∀ st, K st → K' st) : ∀ (i : Nat) (l : List LOp) (tr : List Tr) (st : St), ldrun W P T base cls i l tr K st → ldrun W P T base cls i l tr K' st := by
  intro i l
  induction l generalizing i with
  | nil => intro tr st h; simp only [ldrun] at h ⊢; exact ⟨h.1, hK _ h.2⟩
  | cons o rest ih =>
    intro tr st h
    simp only [ldrun] at h ⊢
    split at h
    · exact ldop_mono (fun t st' => ih _ _ _) h
    · split at h
      · exact ⟨fun e => ldop_mono (fun t st' => ih _ _ _) (h.1 e), fun e => ih _ _ _ (h.2 e)⟩
      · exact ih _ _ _ h
      · exact h

theorem lit_lget {σ : List (Nat × SV)} {g : Nat} {x : SV} (h : lget σ g = some x) : lget ((g, x) :: σ) = lget σ := by
  funext t; simp only [lget_nil, lget_cons]; by_cases e : g = t
  · subst e; simp [h]
  · simp [e]

theorem lit_put {σ : List (Nat × SV)} {g : Nat} {x : SV} (h : lget σ g = some x) (d : Option Tmp) (y : SV) : lget (putσ ((g, x) :: σ) d y) = lget (putσ σ d y) := by
  funext t; rw [lget_put, lget_put, lit_lget h]

/-- Good does not ask for more of a state than what its slots and blocks hold. -/
theorem Good.congr {W : Nat} {P : Program} {T : Tab} {ops : Array Oper} {i : Nat} {st st' : St} {s : DStep} (h : Good W P T ops i st s) (hσ : lget st'.σ = lget st.σ) (hH : hget st'.H = hget st.H) (hn : st'.nx = st.nx) : Good W P T ops i st' s := by
  intro E a w σ H K Q h1 h2 h3 h3' h4
  refine h E a w σ H K Q (fun t ht => by rw [← hσ]; exact h1 t ht) (fun n hn' => by rw [← hH]; exact h2 n hn') (by rw [← hn]; exact h3) (by rw [← hn]; exact h3') h4

theorem runs_of_ldop {W : Nat} (hW : 0 < W) {P : Program} {T : Tab} (hT : T.OK P) {ops : Array Oper} {nt : Nat} {base i : Nat} {o : Oper} (ho : ops[i]? = some o) {g : Option (Tmp × Bool)} {gt : List Tmp} {K : Tr → St → Prop} {st : St} (hg : GuardOK ops st o gt)
    (h : ldop W P T ⟨o.dst, o.op, g⟩ gt base i K st) : ∃ s st', Good W P T ops i ⟨st.σ, st.H, base + i * W⟩ s ∧ s.d = o.dst ∧ (∀ m ∈ namesU s.U, (base + i * W ≤ m ∧ m < base + i * W + W) ∨ m < base ∨ (m ∈ s.hr ∧ hget st.H m ≠ none)) ∧
      lget st'.σ = lget (putσ st.σ s.d s.x) ∧ hget st'.H = hget (s.U ++ st.H) ∧ st'.nx = base + (i + 1) * W ∧ K s.tr st' := by
  unfold ldop at h
  split at h
  · rename_i z args ts hop
    split at h
    · rename_i f xs hf
      rcases h with ⟨r, hr, hk⟩ | ⟨r, rd, U, hr, hk⟩
      rotate_left
      · have hU : ∀ m ∈ namesU U, (base + i * W ≤ m ∧ m < base + i * W + W) ∨ m < base ∨ (m ∈ rd ∧ hget st.H m ≠ none) := by
          intro m hm
          rcases hr.names m hm with h | h
          · right; right
            simp only [live, Bool.and_eq_true, List.contains_iff_mem] at h
            exact ⟨h.1, by intro e; rw [e] at h; simp at h⟩
          · exact .inl h
        exact ⟨⟨o.dst, gt ++ tmpsOf o.op.operands.toList, rd, r, U⟩, _, good_callH (st := ⟨st.σ, st.H, base + i * W⟩) ho (by simpa [GuardOK] using hg) hop hf hr, rfl, hU, rfl, rfl, rfl, hk⟩
      exact ⟨⟨o.dst, gt ++ tmpsOf o.op.operands.toList, [], r, []⟩, _, good_call (st := ⟨st.σ, st.H, base + i * W⟩) ho (by simpa [GuardOK] using hg) hop hf hr, rfl, by simp [namesU], rfl, by simp, rfl, hk⟩
    · exact h.elim
  · obtain ⟨hl, h⟩ := h
    split at h
    · rename_i r hr
      obtain ⟨hs, hU, hk⟩ := h
      refine ⟨⟨o.dst, gt ++ tmpsOf o.op.operands.toList, hreads st o.op, r.x, r.U⟩, _, good_op (st := ⟨st.σ, st.H, base + i * W⟩) hT ho (by simpa [GuardOK] using hg) hl hr hs, rfl, ?_, rfl, rfl, rfl, hk⟩
      intro m hm
      have := List.all_eq_true.1 hU m hm
      simp only [Bool.or_eq_true, Bool.and_eq_true, beq_iff_eq, decide_eq_true_eq, List.contains_iff_mem] at this
      rcases this with (h1 | h1) | h1
      · left; omega
      · exact .inr (.inl h1)
      · exact .inr (.inr ⟨h1.1, by intro e; rw [e] at h1; simp at h1⟩)
    · exact h.elim

theorem runs_of_ldrun {W : Nat} (hW : 0 < W) {P : Program} {T : Tab} (hT : T.OK P) {ops : Array Oper} {nt : Nat} {base : Nat} {cls : List (List Nat)} {K : St → Prop} : ∀ (l : List Oper) (m : List LOp) (i : Nat) (tr : List Tr) (st : St), liteOps nt ops l = some m →
    ops.toList.drop i = l → ldrun W P T base cls i m tr K st →
    ∃ steps stf, Runs W P T ops base i ⟨st.σ, st.H, base + i * W⟩ steps stf ∧ steps.length = l.length ∧ ordered cls (tr.reverse ++ steps.map DStep.tr) = true ∧ stf.nx = base + (i + l.length) * W ∧ K stf
  | [], m, i, tr, st, h, hl, hr => by
    simp only [liteOps, Option.some.injEq] at h
    subst h
    simp only [ldrun] at hr
    exact ⟨[], ⟨st.σ, st.H, base + i * W⟩, rfl, rfl, by simpa using hr.1, rfl, hr.2⟩
  | o :: rest, m, i, tr, st, h, hl, hr => by
    have ho : ops[i]? = some o := by
      have := congrArg (fun l : List Oper => l[0]?) hl
      simp only [List.getElem?_drop, List.getElem?_cons_zero, Nat.add_zero] at this
      simpa using this
    have hrest : ops.toList.drop (i + 1) = rest := by
      rw [← List.drop_drop, hl]; rfl
    simp only [liteOps] at h
    split at h
    · rename_i g l hg hll
      split at h
      · cases h
        -- how a step goes on
        have cont : ∀ (s : DStep) (st' : St), (∃ st0 : St, lget st0.σ = lget st.σ ∧ st0.H = st.H ∧ Good W P T ops i ⟨st0.σ, st0.H, base + i * W⟩ s ∧ lget st'.σ = lget (putσ st0.σ s.d s.x) ∧ hget st'.H = hget (s.U ++ st0.H)) →
            s.d = o.dst → (∀ m ∈ namesU s.U, (base + i * W ≤ m ∧ m < base + i * W + W) ∨ m < base ∨ (m ∈ s.hr ∧ hget st.H m ≠ none)) → ldrun W P T base cls (i + 1) l (s.tr :: tr) K st' →
            ∃ steps stf, Runs W P T ops base i ⟨st.σ, st.H, base + i * W⟩ steps stf ∧ steps.length = (o :: rest).length ∧ ordered cls (tr.reverse ++ steps.map DStep.tr) = true ∧ stf.nx = base + (i + (o :: rest).length) * W ∧ K stf := by
          rintro s st' ⟨st0, e1, e2, hgood, e3, e4⟩ hd hU hrun
          obtain ⟨steps, stf, k1, k2, k3, k4, k5⟩ := runs_of_ldrun hW hT rest l (i + 1) (s.tr :: tr) st' hll hrest hrun
          refine ⟨s :: steps, stf, ⟨hgood.congr (st' := ⟨st.σ, st.H, base + i * W⟩) e1.symm (by rw [e2]) rfl, rfl, by simp [ho, hd], hU, ⟨st'.σ, st'.H, base + (i + 1) * W⟩, ?_, ?_, k1⟩, by simp [k2], by simpa using k3, by rw [k4, List.length_cons, show i + 1 + rest.length = i + (rest.length + 1) by omega], k5⟩
          · show lget st'.σ = _
            rw [e3]; funext t; rw [lget_put, lget_put, e1]
          · show hget st'.H = _
            rw [e4, e2]
        simp only [ldrun] at hr
        unfold liteG at hg
        split at hg
        · rename_i hgu
          cases hg
          dsimp only at hr
          obtain ⟨s, st', h1, h2, h3, h4, h5, h6, h7⟩ := runs_of_ldop (nt := nt) hW hT ho (.inl ⟨hgu, rfl⟩) hr
          exact cont s st' ⟨st, rfl, rfl, h1, h4, h5⟩ h2 h3 h7
        · rename_i j want hgu
          split at hg
          · rename_i d hdj
            cases hg
            dsimp only at hr
            split at hr
            · rename_i b hb
              by_cases e : b = want
              · subst e
                have hlit : lget ((d, SV.v (.bool b)) :: st.σ) = lget st.σ := lit_lget hb
                obtain ⟨s, st', h1, h2, h3, h4, h5, h6, h7⟩ := runs_of_ldop (nt := nt) hW hT ho (gt := [d]) (.inr ⟨j, b, d, hgu, hdj, rfl, by show lget ((d, SV.v (.bool b)) :: st.σ) d = _; rw [hlit]; exact hb⟩) (hr.1 rfl)
                exact cont s st' ⟨⟨(d, SV.v (.bool b)) :: st.σ, st.H, st.nx⟩, hlit, rfl, h1, h4, h5⟩ h2 h3 h7
              · have e' : b = !want := by cases b <;> cases want <;> simp_all
                have hgood := good_skip (W := W) (P := P) (T := T) (st := ⟨st.σ, st.H, base + i * W⟩) ho hgu hdj hb (by intro h; cases h; exact e rfl)
                refine cont _ _ ⟨st, rfl, rfl, hgood, ?_, by simp⟩ rfl (by simp [namesU]) (hr.2 e')
                subst e'
                exact lit_put hb _ _
            · rename_i vs hb
              have hgood := good_skip (W := W) (P := P) (T := T) (st := ⟨st.σ, st.H, base + i * W⟩) ho hgu hdj hb (by simp)
              exact cont _ _ ⟨st, rfl, rfl, hgood, rfl, by simp⟩ rfl (by simp [namesU]) hr
            · exact hr.elim
          · cases hg
      · cases h
    · cases h

theorem liteOps_dst {nt : Nat} {ops : Array Oper} : ∀ {l : List Oper} {m : List LOp}, liteOps nt ops l = some m → ∀ o ∈ l, ∀ t, o.dst = some t → t < nt
  | [], _, _, o, ho => by simp at ho
  | o' :: rest, m, h, o, ho => by
    simp only [liteOps] at h
    split at h
    · rename_i g l hg hl
      split at h
      · rename_i hd
        rcases List.mem_cons.1 ho with rfl | ho
        · intro t ht; rw [ht] at hd; simpa [okDst] using hd
        · exact liteOps_dst hl o ho
      · cases h
    · cases h

#print axioms good_call
#print axioms drawn_ok
#print axioms runs_of_ldrun
end Go.Ai
