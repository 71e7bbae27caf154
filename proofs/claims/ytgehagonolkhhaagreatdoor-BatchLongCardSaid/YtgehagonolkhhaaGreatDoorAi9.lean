/- From a symbolic run of a body to the function's contract; contracts at calls. -/
import Derived.Test.YtgehagonolkhhaaGreatDoorAi8w
namespace Go.Ai
open Go

/-! ### What nobody will write any more -/
def FrzP (R : SV → SV → Prop) : List SV → List SV → Prop
  | _, [] => True
  | [], _ :: _ => False
  | x :: xs, y :: ys => R x y ∧ FrzP R xs ys

def FrzL (R : SV → SV → Prop) (xs ys : List SV) : Prop := xs.length = ys.length ∧ FrzP R xs ys

/-- y says of a value what x says, where the blocks outside of K₀ have been given up for writing; K: the names that y may bear. -/
def Frz (H : HL) (K₀ : Nat → Bool) : Nat → (Nat → Bool) → SV → SV → Prop
  | 0, K, x, y => x = y ∧ x.namesIn K = true
  | k + 1, K, x, y => (x = y ∧ x.namesIn K = true) ∨
    match x, y with
    | _, .any => True
    | .s sz n off len cap, .xs sz' cap' l => K₀ n = false ∧ sz' = sz ∧ (cap' = none ∨ cap' = cap) ∧ l.length = len ∧ (∀ e ∈ l, e.length = sz) ∧
        ∃ b, hget H n = some b ∧ FrzP (Frz H K₀ k fun _ => false) (b.cells.drop off) l.flatten
    | .p n off, .pe l => K₀ n = false ∧ ∃ b, hget H n = some b ∧ FrzP (Frz H K₀ k fun _ => false) (b.cells.drop off) l
    | .agg a, .agg b => FrzL (Frz H K₀ k K) a b
    | .tup a, .tup b => FrzL (Frz H K₀ k K) a b
    | _, _ => False

/-- The environment with K's names, where just K₀'s blocks may be written. -/
def Env.frz (E : Env) (H : HL) (K₀ K : Nat → Bool) : Env :=
  ⟨fun n => if K n then E.ι n else none, fun k => E.I k ∨ ∃ n, K₀ n = false ∧ hget H n ≠ none ∧ E.ι n = some k⟩

theorem relE_of_flatten {w : World} {E : Env} {b sz : Nat} : ∀ {l : List (List SV)} {off : Nat}, (∀ e ∈ l, e.length = sz) → RelC w E l.flatten b off → RelE w E l b off sz
  | [], _, _, _ => by simp [RelE]
  | e :: l, off, h, hc => by
    simp only [List.flatten_cons] at hc
    have he := h e (by simp)
    simp only [RelE]
    refine ⟨he, ?_, relE_of_flatten (fun x hx => h x (by simp [hx])) ?_⟩
    · have := hc.take e.length; simpa using this
    · have := hc.drop e.length; rw [he] at this; simpa [← he] using this

section
variable {w : World} {E : Env} {H : HL} {K₀ : Nat → Bool}

theorem frz_base (K : Nat → Bool) : (E.frz H K₀ K).base = E.frz H K₀ fun _ => false := by simp [Env.base, Env.frz]

theorem frzP_cells {K : Nat → Bool} {k : Nat} (ih : ∀ x y v, RelV w E x v → Frz H K₀ k K x y → RelV w (E.frz H K₀ K) y v) :
    ∀ {xs ys : List SV} {b off : Nat}, RelC w E xs b off → FrzP (Frz H K₀ k K) xs ys → RelC w (E.frz H K₀ K) ys b off
  | _, [], _, _, _, _ => by simp [RelC]
  | [], _ :: _, _, _, _, h => by simp [FrzP] at h
  | x :: xs, y :: ys, b, off, hc, h => by
    simp only [FrzP] at h
    simp only [RelC] at hc ⊢
    obtain ⟨⟨v, h1, h2⟩, h3⟩ := hc
    exact ⟨⟨v, h1, ih x y v h2 h.1⟩, frzP_cells ih h3 h.2⟩

theorem frzL_vals {K : Nat → Bool} {k : Nat} (ih : ∀ x y v, RelV w E x v → Frz H K₀ k K x y → RelV w (E.frz H K₀ K) y v) :
    ∀ {xs ys : List SV} {vs : List Value}, RelL w E xs vs → FrzL (Frz H K₀ k K) xs ys → RelL w (E.frz H K₀ K) ys vs
  | [], [], vs, hv, _ => by simpa [RelL] using hv
  | [], _ :: _, _, _, h => by simp [FrzL] at h
  | _ :: _, [], _, _, h => by simp [FrzL] at h
  | x :: xs, y :: ys, vs, hv, h => by
    simp only [FrzL, FrzP, List.length_cons, Nat.add_right_cancel_iff] at h
    simp only [RelL] at hv ⊢
    obtain ⟨v, vs', rfl, h1, h2⟩ := hv
    exact ⟨v, vs', rfl, ih x y v h1 h.2.1, frzL_vals ih h2 ⟨h.1, h.2.2⟩⟩

theorem frz_same {K : Nat → Bool} {x : SV} {v : Value} (h : RelV w E x v) (hn : x.namesIn K = true) : RelV w (E.frz H K₀ K) x v := by
  have h1 := RelV.only x v hn h
  exact RelV.le (E := E.only K) (E' := E.frz H K₀ K) (Le.of_ι (fun n b hb => hb) (fun b hb => .inl hb)) _ _ h1

theorem frz_ok (hH : HeapOK E w (hget H)) : ∀ (k : Nat) (K : Nat → Bool) (x y : SV) (v : Value), RelV w E x v → Frz H K₀ k K x y → RelV w (E.frz H K₀ K) y v
  | 0, K, x, y, v, hv, h => by
    simp only [Frz] at h
    obtain ⟨rfl, h⟩ := h
    exact frz_same hv h
  | k + 1, K, x, y, v, hv, h => by
    simp only [Frz] at h
    rcases h with ⟨rfl, h⟩ | h
    · exact frz_same hv h
    · split at h
      · simp [RelV]
      · rename_i sz n off len cap sz' cap' l
        obtain ⟨hk, rfl, hcap, hlen, hsz, b, hb, hp⟩ := h
        simp only [RelV] at hv ⊢
        obtain ⟨bk, o, c, h1, rfl, h0, h2, h3, h4⟩ := hv
        obtain ⟨k', cs, e1, e2, e3, _, e4⟩ := hH.blk n b hb
        rw [h1] at e1; cases e1
        refine ⟨_, c, by rw [hlen], by omega, ?_, ?_⟩
        · intro j hj
          rcases hcap with hcap | hcap
          · rw [hcap] at hj; cases hj
          · exact h3 j (by rw [← hcap]; exact hj)
        · rcases h0 with h0 | rfl
          · left; cases l with
            | nil => rfl
            | cons a l => simp at hlen; omega
          · right
            refine ⟨bk, o, rfl, .inr ⟨n, hk, by simp [hb], h1⟩, h4, ?_⟩
            rw [frz_base]
            refine relE_of_flatten hsz ?_
            have := e4.drop o
            rw [Nat.zero_add] at this
            exact frzP_cells (frz_ok hH k _) this hp
      · rename_i n off l
        obtain ⟨hk, b, hb, hp⟩ := h
        simp only [RelV] at hv ⊢
        obtain ⟨bk, h1, rfl⟩ := hv
        obtain ⟨k', cs, e1, e2, e3, _, e4⟩ := hH.blk n b hb
        rw [h1] at e1; cases e1
        refine ⟨bk, off, rfl, .inr ⟨n, hk, by simp [hb], h1⟩, ?_⟩
        rw [frz_base]
        have := e4.drop off
        rw [Nat.zero_add] at this
        exact frzP_cells (frz_ok hH k _) this hp
      · simp only [RelV] at hv ⊢
        obtain ⟨c, rfl, h1⟩ := hv
        exact ⟨c, rfl, frzL_vals (frz_ok hH k K) h1 h⟩
      · simp only [RelV] at hv ⊢
        obtain ⟨c, rfl, h1⟩ := hv
        exact ⟨c, rfl, frzL_vals (frz_ok hH k K) h1 h⟩
      · exact h.elim
end

/-! ### The results of a body -/
def resOne (T : Tab) (st : St) : ResultVar → Option SV
  | .tmp t => some (st.ev (.tmp t))
  | .cell a t => match st.ev (.tmp a) with
    | .p n off => match hget st.H n with
      | some b => ldOf T t (b.cells.drop off)
      | none => none
    | _ => none

def resAll (T : Tab) (st : St) : List ResultVar → Option (List SV)
  | [] => some []
  | r :: rs => match resOne T st r, resAll T st rs with
    | some x, some l => some (x :: l)
    | _, _ => none

def resOf (T : Tab) (st : St) (rs : List ResultVar) : Option SV :=
  match resAll T st rs with
  | some [x] => some x
  | some l => some (.tup l)
  | none => none

def resSem (tmps : Array Value) : ResultVar → Sem Value
  | .tmp t => pure (tmps.getD t undef)
  | .cell a t => do loadVar t (← asAddr (tmps.getD a undef))

theorem run_resOne {P : Program} {T : Tab} {st : St} {E : Env} {a : Act} {w : World} (hc : Ctx P T st E a w) {r : ResultVar} {x : SV} (h : resOne T st r = some x) :
    ∃ v, (resSem a.tmps r).run P w = .ok v w ∧ RelV w E x v := by
  cases r with
  | tmp t =>
    simp only [resOne, Option.some.injEq] at h
    subst h
    exact ⟨a.eval (.tmp t), by simp [resSem, Act.eval], ev_ok hc.fr (.tmp t)⟩
  | cell b t =>
    simp only [resOne] at h
    split at h
    · rename_i n off hz
      split at h
      · rename_i bk hb
        have h1 := ev_ok hc.fr (.tmp b)
        rw [show Ai.ev (lget st.σ) (.tmp b) = _ from hz] at h1
        obtain ⟨u, h2, h3⟩ := op_load hc.tab hc.hp hb h h1
        simp only [RelV] at h1
        obtain ⟨bb, _, h1⟩ := h1
        refine ⟨u, ?_, h3⟩
        have e : a.tmps.getD b undef = .pointer (some ⟨bb, off, none⟩) := h1
        rw [h1] at h2
        simpa [resSem, e, asAddr, Instr.loadAt, Instr.sureAddr, -Array.getD_eq_getD_getElem?] using h2
      · cases h
    · cases h

theorem run_resAll {P : Program} {T : Tab} {st : St} {E : Env} {a : Act} {w : World} (hc : Ctx P T st E a w) : ∀ {rs : List ResultVar} {l : List SV}, resAll T st rs = some l →
    ∃ vs, (rs.mapM (resSem a.tmps)).run P w = .ok vs w ∧ RelL w E l vs
  | [], l, h => by simp only [resAll, Option.some.injEq] at h; subst h; exact ⟨[], by simp, by simp [RelL]⟩
  | r :: rs, l, h => by
    simp only [resAll] at h
    split at h
    · rename_i x l' h1 h2
      cases h
      obtain ⟨v, h3, h4⟩ := run_resOne hc h1
      obtain ⟨vs, h5, h6⟩ := run_resAll hc h2
      refine ⟨v :: vs, ?_, by simp only [RelL]; exact ⟨v, vs, rfl, h4, h6⟩⟩
      rw [List.mapM_cons, Sem.run_bind, h3]
      simp only [Result.andThen_ok, Sem.run_bind, h5, Sem.run_pure]
    · cases h

theorem run_resOf {P : Program} {T : Tab} {st : St} {E : Env} {a : Act} {w : World} (hc : Ctx P T st E a w) {fn : Func} {x : SV} (h : resOf T st fn.results.toList = some x) :
    ∃ v, (results fn a.tmps).run P w = .ok v w ∧ RelV w E x v := by
  unfold resOf at h
  cases hl : resAll T st fn.results.toList with
  | none => simp [hl] at h
  | some l =>
    obtain ⟨vs, h1, h2⟩ := run_resAll hc hl
    have hlen := h2.length
    have hrun : (results fn a.tmps).run P w = .ok (if h : vs.toArray.size = 1 then vs.toArray[0] else .tuple vs.toArray) w := by
      have : results fn a.tmps = (do let vs ← fn.results.mapM (resSem a.tmps); pure (if h : vs.size = 1 then vs[0] else .tuple vs)) := by
        unfold results
        congr 1
      rw [this, Array.mapM_eq_mapM_toList]
      simp only [Sem.run_bind, map_eq_pure_bind]
      rw [h1]
      simp
    rw [hl] at h
    match l, h2, hlen, h with
    | [], h2, hlen, h =>
      cases h
      simp only [RelL] at h2; subst h2
      exact ⟨_, hrun, by simp [RelV, RelL]⟩
    | [y], h2, hlen, h =>
      cases h
      simp only [RelL] at h2
      obtain ⟨v, vs', rfl, h3, rfl⟩ := h2
      exact ⟨_, hrun, by simpa using h3⟩
    | y :: z :: l, h2, hlen, h =>
      cases h
      refine ⟨_, hrun, ?_⟩
      have : ¬ vs.toArray.size = 1 := by simp at hlen ⊢; omega
      simp only [this, dite_false, RelV]
      exact ⟨_, rfl, by simpa using h2⟩

/-! ### The contract of a function, out of the run of its body -/
def argσ : List SV → Nat → List (Nat × SV)
  | [], _ => []
  | x :: l, i => (i, x) :: argσ l (i + 1)

theorem argσ_get : ∀ {l : List SV} {i t : Nat} {x : SV}, lget (argσ l i) t = some x → i ≤ t ∧ l[t - i]? = some x
  | [], _, _, _, h => by simp [argσ, lget_nil, lget_cons] at h
  | y :: l, i, t, x, h => by
    simp only [argσ, lget_nil, lget_cons] at h
    by_cases e : i = t
    · subst e; simp only [if_true, Option.some.injEq] at h; subst h; simp
    · simp only [e, if_false] at h
      have := argσ_get h
      refine ⟨by omega, ?_⟩
      rw [show t - i = (t - (i + 1)) + 1 by omega]
      simpa using this.2

/-- What a body must come to: the results, once what it gives up for writing is given up; and the heap that is left. -/
def Leaves (T : Tab) (rs : List ResultVar) (r : SV) (H' : HL) (st : St) : Prop :=
  ∃ x k, resOf T st rs = some x ∧ Frz st.H (fun n => (hget H' n).isSome) k (fun n => (hget H' n).isSome) x r ∧
    ∀ n b, hget H' n = some b → ∃ b₀, hget st.H n = some b₀ ∧ b₀.ty = b.ty ∧ b₀.mp = b.mp ∧ FrzP (Frz st.H (fun n => (hget H' n).isSome) k fun n => (hget H' n).isSome) b₀.cells b.cells

theorem leaves_post {B : Base} {st : St} {a : Act} {w : World} {fn : Func} {r : SV} {H' : HL} (hm : Mod B st a w) 
    (h : Leaves B.T fn.results.toList r H' st) : ∃ v E', (results fn a.tmps).run B.P w = .ok v w ∧ a.defers = [] ∧ Post B.E B.w B.H E' w (hget H') ∧ RelV w E' r v := by
  obtain ⟨E, hc, _, hp, hdf⟩ := hm
  obtain ⟨x, k, hx, hfx, hH'⟩ := h
  obtain ⟨v, hrun, hv⟩ := run_resOf hc hx
  have hv' := frz_ok hc.hp k _ x r v hv hfx
  -- the environment that the caller gets
  let K : Nat → Bool := fun n => (hget H' n).isSome
  let F := E.frz st.H K K
  let E' : Env := ⟨fun n => match B.E.ι n with | some k => some k | none => F.ι n, F.I⟩
  have hFE : ∀ n b, F.ι n = some b → E.ι n = some b := by
    intro n b hb; simp only [F, Env.frz] at hb; split at hb
    · exact hb
    · cases hb
  have hle : Le F w E' w := by
    refine .of_ι ?_ (fun _ h => h)
    intro n b hb
    simp only [E']
    cases hEn : B.E.ι n with
    | none => simpa [hEn] using hb
    | some k' =>
      have h1 := hp.ι n k' hEn
      have h2 := hFE n b hb
      rw [h1] at h2; simpa [hEn] using h2
  have hE'E : ∀ n b, E'.ι n = some b → E.ι n = some b := by
    intro n b hb
    simp only [E'] at hb
    cases hEn : B.E.ι n with
    | none => rw [hEn] at hb; exact hFE n b hb
    | some k' => rw [hEn] at hb; cases hb; exact hp.ι n _ hEn
  have hin : ∀ n, hget H' n ≠ none → hget st.H n ≠ none := by
    intro n hn
    cases e : hget H' n with
    | none => exact (hn e).elim
    | some b => obtain ⟨b₀, h1, _⟩ := hH' n b e; simp [h1]
  refine ⟨v, E', hrun, hdf, ⟨?_, ?_, hp.out, ⟨?_, ?_⟩, ⟨?_, ?_⟩, ?_, ?_, ?_⟩, RelV.le hle r v hv'⟩
  · intro n b hb; simp [E', hb]
  · intro n hn; exact .inl (hp.I n hn)
  · intro n b hn
    obtain ⟨b₀, h1, h2, h2', h3⟩ := hH' n b hn
    obtain ⟨k', cs, e1, e2, e3, e3', e4⟩ := hc.hp.blk n b₀ h1
    refine ⟨k', cs, ?_, ?_, e3, by simpa only [ObjIs, h2, h2'] using e3', ?_⟩
    · exact hle.ι n k' (by simp [F, Env.frz, K, hn, e1])
    · rintro (hI | ⟨m, hm, hm', hmk⟩)
      · exact e2 hI
      · have := hc.hp.inj n m k' (by simp [h1]) hm' e1 hmk
        subst this
        simp [K, hn] at hm
    · exact RelC.le hle _ _ _ rfl (frzP_cells (frz_ok hc.hp k _) e4 h3)
  · intro n m k' hn hm hnk hmk
    exact hc.hp.inj n m k' (hin n hn) (hin m hm) (hE'E n k' hnk) (hE'E m k' hmk)
  · rintro k' (hI | ⟨m, _, _, hmk⟩)
    · exact hc.en.I k' hI
    · exact hc.en.ι m k' hmk
  · intro n k' hk; exact hc.en.ι n k' (hE'E n k' hk)
  · rintro k' (hI | ⟨m, _, hm', hmk⟩)
    · exact hp.newI k' hI
    · exact .inr (hp.newι m k' hm' hmk)
  · intro n k' hn hk; exact hp.newι n k' (hin n hn) (hE'E n k' hk)
  · intro n hn hn'
    simp only [E', hn, F, Env.frz, K, hn', Option.isSome_none, Bool.false_eq_true, if_false]

theorem sat_of_swp {P : Program} {T : Tab} (hT : T.OK P) (hmo : P.follows .mixedOrders = true) {f : FuncId} {fn : Func} {c : Code} (hf : P.funcs[f]? = some fn) (hb : fn.body = some c) {args : List SV} {L L' : HL} {nx : Nat} {r : SV}
    (hnx : ∀ n, nx ≤ n → hget L n = none)
    (h : swp P T (args.length + (fn.ntmps - args.length)) c ⟨Leaves T fn.results.toList r L', fun _ _ => False, Leaves T fn.results.toList r L'⟩ ⟨argσ args 0, L, nx⟩) :
    Sat P f args (hget L) r (hget L') := by
  intro E w vals hdom hargs hH hE
  have hlen := hargs.length
  refine calls_of_wp hf hb (wp_mono (swp_ok (B := ⟨P, T, hmo, E, w, hget L⟩) c _ _ h _ w ?_ ?_) ?_)
  · refine ⟨E, ⟨hT, ?_, hH, hE, hdom nx (hnx nx (Nat.le_refl _))⟩, fun n hn => hdom n (hnx n hn), (Post.refl hH hE).weak, rfl⟩
    intro t x ht
    have ⟨_, h1⟩ := argσ_get ht
    simp only [Nat.sub_zero] at h1
    obtain ⟨v, h2, h3⟩ := hargs.get t x h1
    have hlt : t < vals.size := by
      have := (List.getElem?_eq_some_iff.1 h2).1; simpa using this
    refine ⟨by simp; omega, ?_⟩
    have : (vals ++ Array.replicate (fn.ntmps - vals.size) undef).getD t undef = v := by
      have hv : vals[t] = v := by
        have := (List.getElem?_eq_some_iff.1 h2).2; simpa using this
      rw [Array.getD_eq_getD_getElem?, Array.getElem?_append_left hlt, Array.getElem?_eq_getElem hlt]
      simpa using hv
    rw [this]; exact h3
  · have : vals.size = args.length := by simpa using hlen
    simp [this]
  · intro e a w' hq
    cases e with
    | normal =>
      obtain ⟨st, h1, h2, _⟩ := hq
      obtain ⟨v, E', h3, h4, h5, h6⟩ := leaves_post (fn := fn) h2 h1
      exact ⟨h4, v, h3, v, E', rfl, h5, h6⟩
    | ret =>
      obtain ⟨st, h1, h2, _⟩ := hq
      obtain ⟨v, E', h3, h4, h5, h6⟩ := leaves_post (fn := fn) h2 h1
      exact ⟨h4, v, h3, v, E', rfl, h5, h6⟩
    | exit id => obtain ⟨st, h1, _⟩ := hq; exact h1.elim
    | goto l => exact hq.elim
    | panic c => exact hq.elim
    | outgrown => exact hq.elim

/-- A contract that needs no named block, at a call. -/
theorem CallP.of_sat {P : Program} {f : FuncId} {args : List SV} {r : SV} (h : Sat P f args (hget []) r (hget [])) (hn : namesInL (fun _ => false) args = true) : CallP P f args r := by
  intro E w vals H hr hH hE
  have hemp : HeapOK E w (hget ([] : HL)) := ⟨fun n b hb => by simp [hget_nil, hget_cons] at hb, fun n m k hn => by simp [hget_nil, hget_cons] at hn⟩
  refine (h.wide (E := E) (w := w) (vals := vals) (fun _ => false) (by simp [hget_nil, hget_cons]) hn (by simp [hget_nil, hget_cons]) (by simp [hget_nil, hget_cons]) hr hemp hE).mono ?_
  rintro e w' ⟨v, E', he, hp, hv⟩
  refine ⟨v, E', he, ?_, hv⟩
  have hor : Heap.or (hget ([] : HL)) (hget H) = hget H := by funext n; simp [Heap.or, hget_nil, hget_cons]
  have := frame_rule (A := hget []) (A' := hget []) (R := hget H) (by simp [hget_nil, hget_cons]) (by rw [hor]; exact hH) hE hp
  rw [hor] at this
  exact this

attribute [irreducible] Leaves

#print axioms frz_ok
#print axioms run_resOf
#print axioms sat_of_swp
#print axioms CallP.of_sat
end Go.Ai
