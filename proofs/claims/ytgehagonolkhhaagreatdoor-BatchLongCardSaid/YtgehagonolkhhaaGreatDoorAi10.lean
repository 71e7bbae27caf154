/- The symbolic walk over code stripped of what it does not need; one lemma a step. -/
import Derived.Test.YtgehagonolkhhaaGreatDoorAi9
namespace Go.Ai
open Go

inductive LC where
  | skip
  | reg (ops : List LOp)
  | dreg (ops : List LOp) (cls : List (List Nat))
  | seq (a b : LC)
  | cond (t : Tmp) (a b : LC)
  | block (id : Nat) (c : LC)
  | loop (c : LC)
  | exit (id : Nat)
  | ret
  | bad

def lite (nt : Nat) : Code → LC
  | .skip | .label _ => .skip
  | .region _ ops false => match liteOps nt ops ops.toList with
    | some l => .reg l
    | none => .bad
  | .region _ ops true => match liteOps nt ops ops.toList with
    | some l => if backward (ops.toList.map predsOf) then .dreg l (closures (ops.toList.map predsOf) []) else .bad
    | none => .bad
  | .seq a b => .seq (lite nt a) (lite nt b)
  | .cond (.tmp t) a b => .cond t (lite nt a) (lite nt b)
  | .cond (.const (.bool true)) a _ => lite nt a
  | .cond (.const (.bool false)) _ b => lite nt b
  | .block id c => .block id (lite nt c)
  | .loop c => .loop (lite nt c)
  | .exit id => .exit id
  | .ret => .ret
  | .scope c => lite nt c
  | _ => .bad

def lrun (P : Program) (T : Tab) : List LOp → (St → Prop) → St → Prop
  | [], K, st => K st
  | o :: rest, K, st =>
    match o.g with
    | none => lop P T o.op o.d (lrun P T rest K) st
    | some (d, want) => match lget st.σ d with
      | some (.v (.bool b)) => (b = want → lop P T o.op o.d (lrun P T rest K) ⟨(d, .v (.bool want)) :: st.σ, st.H, st.nx⟩) ∧
          (b = !want → lrun P T rest K ⟨putσ ((d, .v (.bool (!want))) :: st.σ) o.d (.v undef), st.H, st.nx⟩)
      | some (.v (.tuple _)) => lrun P T rest K ⟨putσ st.σ o.d (.v undef), st.H, st.nx⟩
      | _ => False

def lwp (P : Program) (T : Tab) : LC → PC → St → Prop
  | .skip, Q, st => Q.n st
  | .reg ops, Q, st => lrun P T ops Q.n st
  | .dreg ops cls, Q, st => ∃ W, 0 < W ∧ ldrun W P T st.nx cls 0 ops [] Q.n st
  | .seq a b, Q, st => lwp P T a ⟨fun st' => ∃ s2, Wk st' s2 ∧ lwp P T b Q s2, Q.x, Q.r⟩ st
  | .cond t c d, Q, st => match lget st.σ t with
    | some (.v (.bool b)) => (b = true → lwp P T c Q ⟨(t, .v (.bool true)) :: st.σ, st.H, st.nx⟩) ∧ (b = false → lwp P T d Q ⟨(t, .v (.bool false)) :: st.σ, st.H, st.nx⟩)
    | _ => False
  | .block id c, Q, st => lwp P T c ⟨Q.n, fun i st' => if i = id then Q.n st' else Q.x i st', Q.r⟩ st
  | .loop c, Q, st => ∃ (α : Type) (S : α → St) (μ : α → Nat) (x : α), Wk st (S x) ∧
      ∀ x, lwp P T c ⟨fun st' => ∃ y, μ y < μ x ∧ Wk st' (S y), Q.x, Q.r⟩ (S x)
  | .exit id, Q, st => Q.x id st
  | .ret, Q, st => Q.r st
  | .bad, _, _ => False

theorem srun_mono {P : Program} {T : Tab} {nt : Nat} {ops : Array Oper} {K K' : St → Prop} (hK : ∀ st, K st → K' st) : ∀ (l : List Oper) (st : St), srun P T nt ops l K st → srun P T nt ops l K' st := by
  have hsop : ∀ (o : Oper) (A B : St → Prop) (st : St), (∀ st, A st → B st) → sop P T o A st → sop P T o B st := by
    intro o A B st hAB h
    unfold sop lop at h ⊢
    split at h
    · split at h
      · obtain ⟨r, H', nx', h1, h2⟩ := h; exact ⟨r, H', nx', h1, hAB _ h2⟩
      · exact h
    · split at h
      · exact ⟨h.1, hAB _ h.2⟩
      · exact h
  intro l
  induction l with
  | nil => exact fun st h => hK st h
  | cons o rest ih =>
    intro st h
    simp only [srun] at h ⊢
    refine ⟨h.1, ?_⟩
    have h := h.2
    split at h
    · exact hsop _ _ _ _ ih h
    · split at h
      · split at h
        · exact ⟨fun e => hsop _ _ _ _ ih (h.1 e), fun e => ih _ (h.2 e)⟩
        · exact ih _ h
        · exact h
      · exact h

theorem srun_of_lrun {P : Program} {T : Tab} {nt : Nat} {ops : Array Oper} {K : St → Prop} : ∀ (l : List Oper) (m : List LOp) (st : St), liteOps nt ops l = some m → lrun P T m K st → srun P T nt ops l K st
  | [], m, st, h, hr => by simp only [liteOps, Option.some.injEq] at h; subst h; simpa [srun, lrun] using hr
  | o :: rest, m, st, h, hr => by
    simp only [liteOps] at h
    split at h
    · rename_i g l hg hl
      split at h
      · rename_i hd
        cases h
        have hop : ∀ st, lop P T o.op o.dst (lrun P T l K) st → sop P T o (srun P T nt ops rest K) st := by
          intro st h
          unfold sop
          unfold lop at h ⊢
          split at h
          · split at h
            · obtain ⟨r, H', nx', h1, h2⟩ := h; exact ⟨r, H', nx', h1, srun_of_lrun rest l _ hl h2⟩
            · exact h
          · split at h
            · exact ⟨h.1, srun_of_lrun rest l _ hl h.2⟩
            · exact h
        simp only [srun]
        refine ⟨fun t ht => by rw [ht] at hd; simpa [okDst] using hd, ?_⟩
        simp only [lrun] at hr
        unfold liteG at hg
        split at hg
        · rename_i hgu
          cases hg
          simp only [hgu]
          exact hop _ hr
        · rename_i j b hgu
          split at hg
          · rename_i d hdj
            cases hg
            simp only [hgu, hdj]
            dsimp only at hr
            split at hr
            · rename_i b' hb'
              rw [hb']
              exact ⟨fun e => hop _ (hr.1 e), fun e => srun_of_lrun rest l _ hl (hr.2 e)⟩
            · rename_i b' hb'
              rw [hb']
              exact srun_of_lrun rest l _ hl hr
            · exact hr.elim
          · cases hg
      · cases h
    · cases h

theorem swp_mono {P : Program} {T : Tab} {nt : Nat} : ∀ (c : Code) (Q Q' : PC) (st : St), (∀ st, Q.n st → Q'.n st) → (∀ i st, Q.x i st → Q'.x i st) → (∀ st, Q.r st → Q'.r st) → swp P T nt c Q st → swp P T nt c Q' st
  | .skip, Q, Q', st, h1, _, _, h => h1 st (by simpa [swp] using h)
  | .label _, Q, Q', st, h1, _, _, h => h1 st (by simpa [swp] using h)
  | .region _ ops false, Q, Q', st, h1, _, _, h => by simp only [swp] at h ⊢; exact srun_mono h1 _ _ h
  | .region _ ops true, Q, Q', st, h1, _, _, h => by
    simp only [swp] at h ⊢
    split at h
    · obtain ⟨hb, W, hW, h⟩ := h; exact ⟨hb, W, hW, ldrun_mono h1 _ _ _ _ h⟩
    · exact h
  | .seq a b, Q, Q', st, h1, h2, h3, h => by
    simp only [swp] at h ⊢
    exact swp_mono a ⟨fun st' => ∃ s2, Wk st' s2 ∧ swp P T nt b Q s2, Q.x, Q.r⟩ ⟨fun st' => ∃ s2, Wk st' s2 ∧ swp P T nt b Q' s2, Q'.x, Q'.r⟩ st (fun st' ⟨s2, hw, h'⟩ => ⟨s2, hw, swp_mono b Q Q' s2 h1 h2 h3 h'⟩) h2 h3 h
  | .cond (.tmp t) c d, Q, Q', st, h1, h2, h3, h => by
    simp only [swp] at h ⊢
    split at h
    · exact ⟨fun e => swp_mono c _ _ _ h1 h2 h3 (h.1 e), fun e => swp_mono d _ _ _ h1 h2 h3 (h.2 e)⟩
    · exact h
  | .cond (.const v) c d, Q, Q', st, h1, h2, h3, h => by
    cases v <;> simp only [swp] at h ⊢ <;> first
      | exact h
      | exact ⟨fun e => swp_mono c _ _ _ h1 h2 h3 (h.1 e), fun e => swp_mono d _ _ _ h1 h2 h3 (h.2 e)⟩
  | .cond (.global _) c d, Q, Q', st, _, _, _, h => by simp [swp] at h
  | .cond (.func _) c d, Q, Q', st, _, _, _, h => by simp [swp] at h
  | .block id c, Q, Q', st, h1, h2, h3, h => by
    simp only [swp] at h ⊢
    refine swp_mono c ⟨Q.n, fun i st' => if i = id then Q.n st' else Q.x i st', Q.r⟩ ⟨Q'.n, fun i st' => if i = id then Q'.n st' else Q'.x i st', Q'.r⟩ st h1 (fun i st' h' => ?_) h3 h
    by_cases e : i = id
    · simp only [e, if_true] at h' ⊢; exact h1 _ h'
    · simp only [e, if_false] at h' ⊢; exact h2 _ _ h'
  | .loop c, Q, Q', st, h1, h2, h3, h => by
    simp only [swp] at h ⊢
    obtain ⟨α, S, μ, x, hx, hr⟩ := h
    exact ⟨α, S, μ, x, hx, fun x => swp_mono c ⟨fun st' => ∃ y, μ y < μ x ∧ Wk st' (S y), Q.x, Q.r⟩ ⟨fun st' => ∃ y, μ y < μ x ∧ Wk st' (S y), Q'.x, Q'.r⟩ _ (fun st' h' => h') h2 h3 (hr x)⟩
  | .exit id, Q, Q', st, _, h2, _, h => h2 _ _ (by simpa [swp] using h)
  | .ret, Q, Q', st, _, _, h3, h => h3 _ (by simpa [swp] using h)
  | .scope c, Q, Q', st, h1, h2, h3, h => by simp only [swp] at h ⊢; exact swp_mono c _ _ st h1 h2 h3 h
  | .rangeFunc _ _ _ _, Q, Q', st, _, _, _, h => by simp [swp] at h
  | .goto _, Q, Q', st, _, _, _, h => by simp [swp] at h
  | .refuse _, Q, Q', st, _, _, _, h => by simp [swp] at h

theorem lop_mono {P : Program} {T : Tab} {op : Op} {d : Option Tmp} {K K' : St → Prop} (hK : ∀ st, K st → K' st) {st : St} (h : lop P T op d K st) : lop P T op d K' st := by
  unfold lop at h ⊢
  split at h
  · split at h
    · obtain ⟨r, H', nx', h1, h2⟩ := h; exact ⟨r, H', nx', h1, hK _ h2⟩
    · exact h
  · split at h
    · exact ⟨h.1, hK _ h.2⟩
    · exact h

theorem lrun_mono {P : Program} {T : Tab} {K K' : St → Prop} (hK : ∀ st, K st → K' st) : ∀ (l : List LOp) (st : St), lrun P T l K st → lrun P T l K' st
  | [], st, h => by unfold lrun at h ⊢; exact hK _ h
  | o :: rest, st, h => by
    unfold lrun at h ⊢
    split at h
    · exact lop_mono (fun st' => lrun_mono hK rest st') h
    · split at h
      · exact ⟨fun e => lop_mono (fun st' => lrun_mono hK rest st') (h.1 e), fun e => lrun_mono hK rest _ (h.2 e)⟩
      · exact lrun_mono hK rest _ h
      · exact h

theorem lwp_mono {P : Program} {T : Tab} : ∀ (c : LC) (Q Q' : PC) (st : St), (∀ st, Q.n st → Q'.n st) → (∀ i st, Q.x i st → Q'.x i st) → (∀ st, Q.r st → Q'.r st) → lwp P T c Q st → lwp P T c Q' st
  | .skip, Q, Q', st, h1, _, _, h => h1 st (by simpa [lwp] using h)
  | .reg ops, Q, Q', st, h1, _, _, h => by simp only [lwp] at h ⊢; exact lrun_mono h1 _ _ h
  | .dreg ops cls, Q, Q', st, h1, _, _, h => by
    simp only [lwp] at h ⊢
    obtain ⟨W, hW, h⟩ := h; exact ⟨W, hW, ldrun_mono h1 _ _ _ _ h⟩
  | .seq a b, Q, Q', st, h1, h2, h3, h => by
    simp only [lwp] at h ⊢
    exact lwp_mono a ⟨fun st' => ∃ s2, Wk st' s2 ∧ lwp P T b Q s2, Q.x, Q.r⟩ ⟨fun st' => ∃ s2, Wk st' s2 ∧ lwp P T b Q' s2, Q'.x, Q'.r⟩ st (fun st' ⟨s2, hw, h'⟩ => ⟨s2, hw, lwp_mono b Q Q' s2 h1 h2 h3 h'⟩) h2 h3 h
  | .cond t c d, Q, Q', st, h1, h2, h3, h => by
    simp only [lwp] at h ⊢
    split at h
    · exact ⟨fun e => lwp_mono c _ _ _ h1 h2 h3 (h.1 e), fun e => lwp_mono d _ _ _ h1 h2 h3 (h.2 e)⟩
    · exact h
  | .block id c, Q, Q', st, h1, h2, h3, h => by
    simp only [lwp] at h ⊢
    refine lwp_mono c ⟨Q.n, fun i st' => if i = id then Q.n st' else Q.x i st', Q.r⟩ ⟨Q'.n, fun i st' => if i = id then Q'.n st' else Q'.x i st', Q'.r⟩ st h1 (fun i st' h' => ?_) h3 h
    by_cases e : i = id
    · simp only [e, if_true] at h' ⊢; exact h1 _ h'
    · simp only [e, if_false] at h' ⊢; exact h2 _ _ h'
  | .loop c, Q, Q', st, h1, h2, h3, h => by
    simp only [lwp] at h ⊢
    obtain ⟨α, S, μ, x, hx, hr⟩ := h
    exact ⟨α, S, μ, x, hx, fun x => lwp_mono c ⟨fun st' => ∃ y, μ y < μ x ∧ Wk st' (S y), Q.x, Q.r⟩ ⟨fun st' => ∃ y, μ y < μ x ∧ Wk st' (S y), Q'.x, Q'.r⟩ _ (fun st' h' => h') h2 h3 (hr x)⟩
  | .exit id, Q, Q', st, _, h2, _, h => h2 _ _ (by simpa [lwp] using h)
  | .ret, Q, Q', st, _, _, h3, h => h3 _ (by simpa [lwp] using h)
  | .bad, _, _, _, _, _, _, h => by simp [lwp] at h

theorem swp_of_lwp {P : Program} {T : Tab} {nt : Nat} : ∀ (c : Code) (Q : PC) (st : St), lwp P T (lite nt c) Q st → swp P T nt c Q st
  | .skip, Q, st, h => by simpa [swp, lite, lwp] using h
  | .label _, Q, st, h => by simpa [swp, lite, lwp] using h
  | .region _ ops false, Q, st, h => by
    simp only [lite] at h
    simp only [swp]
    split at h
    · rename_i l hl; simp only [lwp] at h; exact srun_of_lrun _ l st hl h
    · simp [lwp] at h
  | .region _ ops true, Q, st, h => by
    simp only [lite] at h
    simp only [swp]
    split at h
    · rename_i l hl
      simp only [hl]
      split at h
      · rename_i hb; simp only [lwp] at h; exact ⟨hb, h⟩
      · simp [lwp] at h
    · simp [lwp] at h
  | .seq a b, Q, st, h => by
    simp only [lite, lwp] at h
    simp only [swp]
    exact swp_mono a ⟨fun st' => ∃ s2, Wk st' s2 ∧ lwp P T (lite nt b) Q s2, Q.x, Q.r⟩ ⟨fun st' => ∃ s2, Wk st' s2 ∧ swp P T nt b Q s2, Q.x, Q.r⟩ st (fun st' ⟨s2, hw, h'⟩ => ⟨s2, hw, swp_of_lwp b Q s2 h'⟩) (fun _ _ h => h) (fun _ h => h) (swp_of_lwp a _ st h)
  | .cond (.tmp t) c d, Q, st, h => by
    simp only [lite, lwp] at h
    simp only [swp]
    split at h
    · rename_i b hb
      simp only [hb]
      exact ⟨fun e => swp_of_lwp c _ _ (h.1 e), fun e => swp_of_lwp d _ _ (h.2 e)⟩
    · exact h.elim
  | .cond (.const v) c d, Q, st, h => by
    cases v with
    | bool b =>
      cases b with
      | true => simp only [lite] at h; simp only [swp]; exact ⟨fun _ => swp_of_lwp c Q st h, fun e => by cases e⟩
      | false => simp only [lite] at h; simp only [swp]; exact ⟨fun e => (by cases e), fun _ => swp_of_lwp d Q st h⟩
    | _ => simp [lite, lwp] at h
  | .cond (.global _) c d, Q, st, h => by simp [lite, lwp] at h
  | .cond (.func _) c d, Q, st, h => by simp [lite, lwp] at h
  | .block id c, Q, st, h => by
    simp only [lite, lwp] at h
    simp only [swp]
    exact swp_of_lwp c _ st h
  | .loop c, Q, st, h => by
    simp only [lite, lwp] at h
    simp only [swp]
    obtain ⟨α, S, μ, x, hx, hr⟩ := h
    exact ⟨α, S, μ, x, hx, fun x => swp_of_lwp c _ _ (hr x)⟩
  | .exit id, Q, st, h => by simpa [swp, lite, lwp] using h
  | .ret, Q, st, h => by simpa [swp, lite, lwp] using h
  | .scope c, Q, st, h => by simp only [lite] at h; simp only [swp]; exact swp_of_lwp c Q st h
  | .rangeFunc _ _ _ _, Q, st, h => by simp [lite, lwp] at h
  | .goto _, Q, st, h => by simp [lite, lwp] at h
  | .refuse _, Q, st, h => by simp [lite, lwp] at h

/-! ### The steps -/
section
variable {P : Program} {T : Tab} {K : St → Prop} {Q : PC} {rest : List LOp} {σ : List (Nat × SV)} {H H' U : HL} {nx nx' : Nat} {x : SV} {side : Bool}

def isCall : Op → Bool
  | .call ⟨.value _, _, _⟩ => true
  | _ => false

theorem l_op {d : Tmp} {op : Op} (hc : isCall op = false) (h : opStep T ⟨σ, H, nx⟩ op = some ⟨x, U, nx', side⟩) (hs : side = true) (k : lrun P T rest K ⟨(d, x) :: σ, U ++ H, nx'⟩) :
    lrun P T (⟨some d, op, none⟩ :: rest) K ⟨σ, H, nx⟩ := by
  simp only [lrun]
  unfold lop
  split
  · simp [isCall] at hc
  · rw [h]; exact ⟨hs, k⟩

theorem l_do {op : Op} (hc : isCall op = false) (h : opStep T ⟨σ, H, nx⟩ op = some ⟨x, U, nx', side⟩) (hs : side = true) (k : lrun P T rest K ⟨σ, U ++ H, nx'⟩) :
    lrun P T (⟨none, op, none⟩ :: rest) K ⟨σ, H, nx⟩ := by
  simp only [lrun]
  unfold lop
  split
  · simp [isCall] at hc
  · rw [h]; exact ⟨hs, k⟩

theorem l_call {d : Tmp} {z : Operand} {args : Array Operand} {ts : Array TypeId} {f : FuncId} {xs : List SV} {r : SV} (hf : calleeOf ⟨σ, H, nx⟩ z args.toList = some (f, xs)) (hb : hasBody P f)
    (h : CallOK P H nx f xs r H' nx') (k : lrun P T rest K ⟨(d, r) :: σ, H', nx'⟩) : lrun P T (⟨some d, .call ⟨.value z, args, ts⟩, none⟩ :: rest) K ⟨σ, H, nx⟩ := by
  simp only [lrun, lop, hf]
  exact ⟨r, H', nx', .inl ⟨hb, h⟩, k⟩

theorem l_call0 {z : Operand} {args : Array Operand} {ts : Array TypeId} {f : FuncId} {xs : List SV} {r : SV} (hf : calleeOf ⟨σ, H, nx⟩ z args.toList = some (f, xs)) (hb : hasBody P f)
    (h : CallOK P H nx f xs r H' nx') (k : lrun P T rest K ⟨σ, H', nx'⟩) : lrun P T (⟨none, .call ⟨.value z, args, ts⟩, none⟩ :: rest) K ⟨σ, H, nx⟩ := by
  simp only [lrun, lop, hf]
  exact ⟨r, H', nx', .inl ⟨hb, h⟩, k⟩

/-- A guarded operation. -/
theorem l_guard {d : Option Tmp} {op : Op} {g : Tmp} {b c : Bool} (h : lget σ g = some (.v (.bool c))) (k1 : c = b → lrun P T (⟨d, op, none⟩ :: rest) K ⟨(g, .v (.bool b)) :: σ, H, nx⟩)
    (k2 : c = !b → lrun P T rest K ⟨putσ ((g, .v (.bool (!b))) :: σ) d (.v undef), H, nx⟩) : lrun P T (⟨d, op, some (g, b)⟩ :: rest) K ⟨σ, H, nx⟩ := by
  simp only [lrun, h]
  exact ⟨fun e => by have := k1 e; simpa only [lrun] using this, k2⟩
theorem l_take {d : Option Tmp} {op : Op} {g : Tmp} {b : Bool} (h : lget σ g = some (.v (.bool b))) (k : lrun P T (⟨d, op, none⟩ :: rest) K ⟨(g, .v (.bool b)) :: σ, H, nx⟩) :
    lrun P T (⟨d, op, some (g, b)⟩ :: rest) K ⟨σ, H, nx⟩ := l_guard h (fun _ => k) (fun e => by cases b <;> cases e)
theorem l_passT {d : Tmp} {op : Op} {g : Tmp} (h : lget σ g = some (.v (.bool true))) (k : lrun P T rest K ⟨(d, .v undef) :: (g, .v (.bool true)) :: σ, H, nx⟩) :
    lrun P T (⟨some d, op, some (g, false)⟩ :: rest) K ⟨σ, H, nx⟩ := l_guard h (fun e => by cases e) (fun _ => k)
theorem l_passF {d : Tmp} {op : Op} {g : Tmp} (h : lget σ g = some (.v (.bool false))) (k : lrun P T rest K ⟨(d, .v undef) :: (g, .v (.bool false)) :: σ, H, nx⟩) :
    lrun P T (⟨some d, op, some (g, true)⟩ :: rest) K ⟨σ, H, nx⟩ := l_guard h (fun e => by cases e) (fun _ => k)
theorem l_gT {d : Tmp} {op : Op} {g : Tmp} {c : Bool} (h : lget σ g = some (.v (.bool c))) (k1 : c = true → lrun P T (⟨some d, op, none⟩ :: rest) K ⟨(g, .v (.bool true)) :: σ, H, nx⟩)
    (k2 : c = false → lrun P T rest K ⟨(d, .v undef) :: (g, .v (.bool false)) :: σ, H, nx⟩) : lrun P T (⟨some d, op, some (g, true)⟩ :: rest) K ⟨σ, H, nx⟩ := l_guard h k1 (fun e => k2 e)
theorem l_gF {d : Tmp} {op : Op} {g : Tmp} {c : Bool} (h : lget σ g = some (.v (.bool c))) (k1 : c = false → lrun P T (⟨some d, op, none⟩ :: rest) K ⟨(g, .v (.bool false)) :: σ, H, nx⟩)
    (k2 : c = true → lrun P T rest K ⟨(d, .v undef) :: (g, .v (.bool true)) :: σ, H, nx⟩) : lrun P T (⟨some d, op, some (g, false)⟩ :: rest) K ⟨σ, H, nx⟩ := l_guard h k1 (fun e => k2 e)
theorem l_passU {d : Tmp} {op : Op} {g : Tmp} {b : Bool} {vs : Array Value} (h : lget σ g = some (.v (.tuple vs))) (k : lrun P T rest K ⟨(d, .v undef) :: σ, H, nx⟩) :
    lrun P T (⟨some d, op, some (g, b)⟩ :: rest) K ⟨σ, H, nx⟩ := by simp only [lrun, h]; exact k
theorem l_pass0 {op : Op} {g : Tmp} {b c : Bool} (h : lget σ g = some (.v (.bool c))) (hc : c = !b) (k : lrun P T rest K ⟨(g, .v (.bool c)) :: σ, H, nx⟩) :
    lrun P T (⟨none, op, some (g, b)⟩ :: rest) K ⟨σ, H, nx⟩ := by subst hc; exact l_guard h (fun e => by cases b <;> cases e) (fun _ => k)

/-! The same where the order is open. -/
section
variable {base i : Nat} {cls : List (List Nat)} {tr : List Tr}
theorem d_nil (ho : ordered cls tr.reverse = true) (k : K ⟨σ, H, base + i * 1048576⟩) : ldrun 1048576 P T base cls i [] tr K ⟨σ, H, nx⟩ := ⟨ho, k⟩
theorem d_op {d : Tmp} {op : Op} {ops : List Operand} {hr hw : List Nat} (hc : isCall op = false) (h1 : local1 op = true) (h : opStep T ⟨σ, H, base + i * 1048576⟩ op = some ⟨x, U, nx', side⟩) (hs : side = true) (hw' : namesU U = hw)
    (hU : hw.all (fun m => m == base + i * 1048576 || decide (m < base) || (hr.contains m && (hget H m).isSome)) = true) (hops : op.operands.toList = ops) (hrd : hreads ⟨σ, H, nx⟩ op = hr)
    (k : ldrun 1048576 P T base cls (i + 1) rest (⟨some d, tmpsOf ops, hr, hw⟩ :: tr) K ⟨(d, x) :: σ, U ++ H, base + (i + 1) * 1048576⟩) :
    ldrun 1048576 P T base cls i (⟨some d, op, none⟩ :: rest) tr K ⟨σ, H, nx⟩ := by
  subst hw'; subst hops; subst hrd
  simp only [ldrun]
  unfold ldop
  split
  · rename_i hh; cases hh; simp [isCall] at hc
  · rw [h]; exact ⟨h1, hs, hU, k⟩
theorem d_do {op : Op} {ops : List Operand} {hr hw : List Nat} (hc : isCall op = false) (h1 : local1 op = true) (h : opStep T ⟨σ, H, base + i * 1048576⟩ op = some ⟨x, U, nx', side⟩) (hs : side = true) (hw' : namesU U = hw)
    (hU : hw.all (fun m => m == base + i * 1048576 || decide (m < base) || (hr.contains m && (hget H m).isSome)) = true) (hops : op.operands.toList = ops) (hrd : hreads ⟨σ, H, nx⟩ op = hr)
    (k : ldrun 1048576 P T base cls (i + 1) rest (⟨none, tmpsOf ops, hr, hw⟩ :: tr) K ⟨σ, U ++ H, base + (i + 1) * 1048576⟩) :
    ldrun 1048576 P T base cls i (⟨none, op, none⟩ :: rest) tr K ⟨σ, H, nx⟩ := by
  subst hw'; subst hops; subst hrd
  simp only [ldrun]
  unfold ldop
  split
  · rename_i hh; cases hh; simp [isCall] at hc
  · rw [h]; exact ⟨h1, hs, hU, k⟩
theorem d_call {d : Tmp} {z : Operand} {args : Array Operand} {ts : Array TypeId} {f : FuncId} {xs : List SV} {r : SV} {ops : List Operand} (hf : calleeOf ⟨σ, H, nx⟩ z args.toList = some (f, xs)) (hb : hasBody P f)
    (h : CallP P f xs r) (hops : z :: args.toList = ops)
    (k : ldrun 1048576 P T base cls (i + 1) rest (⟨some d, tmpsOf ops, [], []⟩ :: tr) K ⟨(d, r) :: σ, H, base + (i + 1) * 1048576⟩) :
    ldrun 1048576 P T base cls i (⟨some d, .call ⟨.value z, args, ts⟩, none⟩ :: rest) tr K ⟨σ, H, nx⟩ := by
  subst hops
  simp only [ldrun, ldop, hf]
  refine .inl ⟨r, .inl ⟨hb, h⟩, ?_⟩
  have : (Op.call ⟨.value z, args, ts⟩).operands.toList = z :: args.toList := by simp [Op.operands, Call.operands]
  rw [this]
  exact k
theorem d_gT {d : Tmp} {op : Op} {g : Tmp} {c : Bool} (h : lget σ g = some (.v (.bool c))) (k1 : c = true → ldop 1048576 P T ⟨some d, op, some (g, true)⟩ [g] base i (fun t st' => ldrun 1048576 P T base cls (i + 1) rest (t :: tr) K st') ⟨(g, .v (.bool true)) :: σ, H, nx⟩)
    (k2 : c = false → ldrun 1048576 P T base cls (i + 1) rest (⟨some d, [g], [], []⟩ :: tr) K ⟨(d, .v undef) :: (g, .v (.bool false)) :: σ, H, nx⟩) : ldrun 1048576 P T base cls i (⟨some d, op, some (g, true)⟩ :: rest) tr K ⟨σ, H, nx⟩ := by
  simp only [ldrun, h]; exact ⟨k1, fun e => k2 e⟩
theorem d_gF {d : Tmp} {op : Op} {g : Tmp} {c : Bool} (h : lget σ g = some (.v (.bool c))) (k1 : c = false → ldop 1048576 P T ⟨some d, op, some (g, false)⟩ [g] base i (fun t st' => ldrun 1048576 P T base cls (i + 1) rest (t :: tr) K st') ⟨(g, .v (.bool false)) :: σ, H, nx⟩)
    (k2 : c = true → ldrun 1048576 P T base cls (i + 1) rest (⟨some d, [g], [], []⟩ :: tr) K ⟨(d, .v undef) :: (g, .v (.bool true)) :: σ, H, nx⟩) : ldrun 1048576 P T base cls i (⟨some d, op, some (g, false)⟩ :: rest) tr K ⟨σ, H, nx⟩ := by
  simp only [ldrun, h]; exact ⟨k1, fun e => k2 e⟩
theorem d_take {d : Option Tmp} {op : Op} {g : Tmp} {b : Bool} (h : lget σ g = some (.v (.bool b))) (k : ldop 1048576 P T ⟨d, op, some (g, b)⟩ [g] base i (fun t st' => ldrun 1048576 P T base cls (i + 1) rest (t :: tr) K st') ⟨(g, .v (.bool b)) :: σ, H, nx⟩) :
    ldrun 1048576 P T base cls i (⟨d, op, some (g, b)⟩ :: rest) tr K ⟨σ, H, nx⟩ := by
  simp only [ldrun, h]; exact ⟨fun _ => k, fun e => by cases b <;> cases e⟩
theorem d_passT {d : Tmp} {op : Op} {g : Tmp} (h : lget σ g = some (.v (.bool true))) (k : ldrun 1048576 P T base cls (i + 1) rest (⟨some d, [g], [], []⟩ :: tr) K ⟨(d, .v undef) :: (g, .v (.bool true)) :: σ, H, nx⟩) :
    ldrun 1048576 P T base cls i (⟨some d, op, some (g, false)⟩ :: rest) tr K ⟨σ, H, nx⟩ := d_gF h (fun e => by cases e) (fun _ => k)
theorem d_passF {d : Tmp} {op : Op} {g : Tmp} (h : lget σ g = some (.v (.bool false))) (k : ldrun 1048576 P T base cls (i + 1) rest (⟨some d, [g], [], []⟩ :: tr) K ⟨(d, .v undef) :: (g, .v (.bool false)) :: σ, H, nx⟩) :
    ldrun 1048576 P T base cls i (⟨some d, op, some (g, true)⟩ :: rest) tr K ⟨σ, H, nx⟩ := d_gT h (fun e => by cases e) (fun _ => k)
theorem d_passU {d : Tmp} {op : Op} {g : Tmp} {b : Bool} {vs : Array Value} (h : lget σ g = some (.v (.tuple vs))) (k : ldrun 1048576 P T base cls (i + 1) rest (⟨some d, [g], [], []⟩ :: tr) K ⟨(d, .v undef) :: σ, H, nx⟩) :
    ldrun 1048576 P T base cls i (⟨some d, op, some (g, b)⟩ :: rest) tr K ⟨σ, H, nx⟩ := by simp only [ldrun, h]; exact k
theorem p_op {d : Tmp} {op : Op} {gg : Option (Tmp × Bool)} {gt : List Tmp} {ops : List Operand} {hr hw : List Nat} {KK : Tr → St → Prop} (hc : isCall op = false) (h1 : local1 op = true) (h : opStep T ⟨σ, H, base + i * 1048576⟩ op = some ⟨x, U, nx', side⟩) (hs : side = true) (hw' : namesU U = hw)
    (hU : hw.all (fun m => m == base + i * 1048576 || decide (m < base) || (hr.contains m && (hget H m).isSome)) = true) (hops : op.operands.toList = ops) (hrd : hreads ⟨σ, H, nx⟩ op = hr)
    (k : KK ⟨some d, gt ++ tmpsOf ops, hr, hw⟩ ⟨(d, x) :: σ, U ++ H, base + (i + 1) * 1048576⟩) : ldop 1048576 P T ⟨some d, op, gg⟩ gt base i KK ⟨σ, H, nx⟩ := by
  subst hw'; subst hops; subst hrd
  unfold ldop
  split
  · rename_i hh; cases hh; simp [isCall] at hc
  · rw [h]; exact ⟨h1, hs, hU, k⟩
theorem p_call {d : Tmp} {z : Operand} {args : Array Operand} {ts : Array TypeId} {gg : Option (Tmp × Bool)} {gt : List Tmp} {f : FuncId} {xs : List SV} {r : SV} {ops : List Operand} {KK : Tr → St → Prop} (hf : calleeOf ⟨σ, H, nx⟩ z args.toList = some (f, xs)) (hb : hasBody P f)
    (h : CallP P f xs r) (hops : z :: args.toList = ops) (k : KK ⟨some d, gt ++ tmpsOf ops, [], []⟩ ⟨(d, r) :: σ, H, base + (i + 1) * 1048576⟩) : ldop 1048576 P T ⟨some d, .call ⟨.value z, args, ts⟩, gg⟩ gt base i KK ⟨σ, H, nx⟩ := by
  subst hops
  simp only [ldop, hf]
  refine .inl ⟨r, .inl ⟨hb, h⟩, ?_⟩
  have : (Op.call ⟨.value z, args, ts⟩).operands.toList = z :: args.toList := by simp [Op.operands, Call.operands]
  rw [this]
  exact k
end

variable {n r : St → Prop} {xt : Nat → St → Prop}
theorem c_dreg {ops : List LOp} {cls : List (List Nat)} (k : ldrun 1048576 P T nx cls 0 ops [] n ⟨σ, H, nx⟩) : lwp P T (.dreg ops cls) ⟨n, xt, r⟩ ⟨σ, H, nx⟩ := ⟨1048576, by decide, k⟩
theorem l_nil (k : K ⟨σ, H, nx⟩) : lrun P T [] K ⟨σ, H, nx⟩ := k
theorem c_reg {ops : List LOp} {st : St} (k : lrun P T ops n st) : lwp P T (.reg ops) ⟨n, xt, r⟩ st := k
theorem c_seqw {a b : LC} {st : St} (k : lwp P T a ⟨fun st' => ∃ s2, Wk st' s2 ∧ lwp P T b ⟨n, xt, r⟩ s2, xt, r⟩ st) : lwp P T (.seq a b) ⟨n, xt, r⟩ st := k
theorem c_seq {a b : LC} {st : St} (k : lwp P T a ⟨fun st' => lwp P T b ⟨n, xt, r⟩ st', xt, r⟩ st) : lwp P T (.seq a b) ⟨n, xt, r⟩ st :=
  lwp_mono a ⟨fun st' => lwp P T b ⟨n, xt, r⟩ st', xt, r⟩ ⟨fun st' => ∃ s2, Wk st' s2 ∧ lwp P T b ⟨n, xt, r⟩ s2, xt, r⟩ st (fun st' h => ⟨st', .refl st', h⟩) (fun _ _ h => h) (fun _ h => h) k
theorem c_skip {st : St} (k : n st) : lwp P T .skip ⟨n, xt, r⟩ st := k
theorem c_ret {st : St} (k : r st) : lwp P T .ret ⟨n, xt, r⟩ st := k
theorem c_exit {id : Nat} {st : St} (k : xt id st) : lwp P T (.exit id) ⟨n, xt, r⟩ st := k
theorem c_block {id : Nat} {c : LC} {st : St} (k : lwp P T c ⟨n, fun i st' => if i = id then n st' else xt i st', r⟩ st) : lwp P T (.block id c) ⟨n, xt, r⟩ st := k
theorem c_cond {t : Tmp} {a b : LC} {c : Bool} (h : lget σ t = some (.v (.bool c))) (k1 : c = true → lwp P T a ⟨n, xt, r⟩ ⟨(t, .v (.bool true)) :: σ, H, nx⟩) (k2 : c = false → lwp P T b ⟨n, xt, r⟩ ⟨(t, .v (.bool false)) :: σ, H, nx⟩) :
    lwp P T (.cond t a b) ⟨n, xt, r⟩ ⟨σ, H, nx⟩ := by
  simp only [lwp, h]; exact ⟨k1, k2⟩
theorem c_true {t : Tmp} {a b : LC} (h : lget σ t = some (.v (.bool true))) (k : lwp P T a ⟨n, xt, r⟩ ⟨(t, .v (.bool true)) :: σ, H, nx⟩) : lwp P T (.cond t a b) ⟨n, xt, r⟩ ⟨σ, H, nx⟩ :=
  c_cond h (fun _ => k) (fun e => by cases e)
theorem c_false {t : Tmp} {a b : LC} (h : lget σ t = some (.v (.bool false))) (k : lwp P T b ⟨n, xt, r⟩ ⟨(t, .v (.bool false)) :: σ, H, nx⟩) : lwp P T (.cond t a b) ⟨n, xt, r⟩ ⟨σ, H, nx⟩ :=
  c_cond h (fun e => by cases e) (fun _ => k)
theorem c_loop {c : LC} {st : St} {α : Type} (S : α → St) (μ : α → Nat) (x : α) (h0 : Wk st (S x))
    (hr : ∀ x, lwp P T c ⟨fun st' => ∃ y, μ y < μ x ∧ Wk st' (S y), xt, r⟩ (S x)) : lwp P T (.loop c) ⟨n, xt, r⟩ st := by
  simp only [lwp]; exact ⟨α, S, μ, x, h0, hr⟩
end

attribute [irreducible] lwp lrun

theorem sat_of {P : Program} {T : Tab} (hT : T.OK P) (hmo : P.follows .mixedOrders = true) {f : FuncId} {fn : Func} {c : Code} (hf : P.funcs[f]? = some fn) (hb : fn.body = some c) {args : List SV} {L L' : HL} {nx : Nat} {r : SV}
    (hnx : ∀ n, nx ≤ n → hget L n = none) {nt : Nat} (hnt : args.length + (fn.ntmps - args.length) = nt) {rs : List ResultVar} (hrs : fn.results.toList = rs)
    {lc : LC} (hlc : lite nt c = lc)
    (h : ∀ Q : St → Prop, (∀ st, Leaves T rs r L' st → Q st) → lwp P T lc ⟨Q, fun _ _ => False, Q⟩ ⟨argσ args 0, L, nx⟩) :
    Sat P f args (hget L) r (hget L') := by
  subst hnt
  subst hrs
  subst hlc
  exact sat_of_swp hT hmo hf hb hnx (swp_of_lwp c _ _ (h _ fun _ h => h))

/-- The results are plain values, and no named block is left. -/
theorem leaves_val {T : Tab} {rs : List ResultVar} {x r : SV} {st : St} (h : resOf T st rs = some x) (hx : x.namesIn (fun _ => false) = true) (e : x = r) : Leaves T rs r [] st := by
  subst e
  unfold Leaves
  exact ⟨x, 0, h, by simpa [Frz, hget_nil, hget_cons] using hx, fun n b hn => by simp [hget_nil, hget_cons] at hn⟩

#print axioms sat_of
end Go.Ai
