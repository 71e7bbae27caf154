/- The symbolic weakest precondition of code. -/
import Derived.Test.YtgehagonolkhhaaGreatDoorAi8d
import Derived.Scope
namespace Go.Ai
open Go

/-! ### The symbolic weakest precondition -/
def lop (P : Program) (T : Tab) (op : Op) (d : Option Tmp) (K : St → Prop) (st : St) : Prop :=
  match op with
  | .call ⟨.value z, args, _⟩ =>
    match calleeOf st z args.toList with
    | some (f, xs) => ∃ r H' nx', CallX P st.H st.nx f xs r H' nx' ∧ K ⟨putσ st.σ d r, H', nx'⟩
    | none => False
  | op => match opStep T st op with
    | some r => r.side = true ∧ K ⟨putσ st.σ d r.x, r.U ++ st.H, r.nx⟩
    | none => False

def sop (P : Program) (T : Tab) (o : Oper) (K : St → Prop) (st : St) : Prop := lop P T o.op o.dst K st

def srun (P : Program) (T : Tab) (nt : Nat) (ops : Array Oper) : List Oper → (St → Prop) → St → Prop
  | [], K, st => K st
  | o :: rest, K, st =>
    (∀ t, o.dst = some t → t < nt) ∧
    match o.guard with
    | none => sop P T o (srun P T nt ops rest K) st
    | some (j, want) => match (ops[j]?).bind (·.dst) with
      | some d => match lget st.σ d with
        | some (.v (.bool b)) => (b = want → sop P T o (srun P T nt ops rest K) (st.put (some d) (.v (.bool want)))) ∧
            (b = !want → srun P T nt ops rest K ((st.put (some d) (.v (.bool (!want)))).put o.dst (.v undef)))
        | some (.v (.tuple _)) => srun P T nt ops rest K (st.put o.dst (.v undef))
        | _ => False
      | none => False

theorem mod_sop {B : Base} {st : St} {a : Act} {w : World} (h : Mod B st a w) {o : Oper} {K : St → Prop} (hs : sop B.P B.T o K st) (hd : ∀ t, o.dst = some t → t < a.tmps.size)
    {next : Act → World → Prop} {Q : Exit → Act → World → Prop} (hK : ∀ st' a' w', K st' → Mod B st' a' w' → a'.tmps.size = a.tmps.size → next a' w') : o.wp B.P a w next Q := by
  unfold sop lop at hs
  split at hs
  · rename_i z args ts ho
    split at hs
    · rename_i f xs hf
      obtain ⟨r, H', nx', hr, hk⟩ := hs
      exact mod_call h ho hf hr hd fun a' w' hm hsz => hK _ _ _ hk hm hsz
    · exact hs.elim
  · split at hs
    · rename_i r hr
      have hT : B.T.OK B.P := by obtain ⟨E, hc, _⟩ := h; exact hc.tab
      exact mod_step h (opStep_ok hT hr) hs.1 hd fun a' w' hm hsz => hK _ _ _ hs.2 hm hsz
    · exact hs.elim

theorem lget_get {B : Base} {st : St} {a : Act} {w : World} (h : Mod B st a w) {d : Nat} {v : Value} (hg : lget st.σ d = some (.v v)) : a.tmps[d]? = some v := by
  obtain ⟨E, hc, _⟩ := h
  obtain ⟨h1, h2⟩ := hc.fr d _ hg
  simp only [RelV] at h2
  rw [Array.getElem?_eq_getElem h1, ← h2]
  simp [Array.getD, h1]

theorem mod_lit {B : Base} {st : St} {a : Act} {w : World} (h : Mod B st a w) {d : Nat} {v : Value} (hg : lget st.σ d = some (.v v)) : Mod B (st.put (some d) (.v v)) a w := by
  obtain ⟨E, hc, hfr, hp, hdf⟩ := h
  refine ⟨E, ⟨hc.tab, ?_, hc.hp, hc.en, hc.nx⟩, hfr, hp, hdf⟩
  intro t x ht
  simp only [St.put, putσ] at ht
  rw [lget_lset] at ht
  by_cases e : t = d
  · subst e; simp only [if_true, Option.some.injEq] at ht; subst ht; exact hc.fr t _ hg
  · simp only [e, if_false] at ht; exact hc.fr t x ht

theorem wpOps_of_srun {B : Base} {ops : Array Oper} {Q : Exit → Act → World → Prop} {K : St → Prop} (nt : Nat) :
    ∀ (n i : Nat), i + n = ops.size → ∀ (st : St) (a : Act) (w : World), a.tmps.size = nt → Mod B st a w → srun B.P B.T nt ops (ops.toList.drop i) K st →
      (∀ st a w, K st → Mod B st a w → a.tmps.size = nt → Q .normal a w) → wpOps B.P ops Q (List.range' i n) a w
  | 0, i, hi, st, a, w, hsz, hm, hs, hK => by
    have : ops.toList.drop i = [] := by apply List.drop_eq_nil_of_le; simp; omega
    rw [this] at hs
    simp only [srun] at hs
    simp only [List.range'_zero, wpOps]
    exact hK st a w hs hm hsz
  | n + 1, i, hi, st, a, w, hsz, hm, hs, hK => by
    have hlt : i < ops.size := by omega
    have hdrop : ops.toList.drop i = ops[i] :: ops.toList.drop (i + 1) := by
      rw [List.drop_eq_getElem_cons (by simpa using hlt)]; simp
    rw [hdrop] at hs
    simp only [List.range'_succ, wpOps, Array.getElem?_eq_getElem hlt]
    simp only [srun] at hs
    obtain ⟨hd, hs⟩ := hs
    have hd' : ∀ t, ops[i].dst = some t → t < a.tmps.size := by rw [hsz]; exact hd
    split at hs
    · rename_i hg
      have hw : Region.wanted ops[i] (yielded ops a.tmps) = true := by simp [Region.wanted, hg]
      simp only [hw, if_true]
      refine .inl (mod_sop hm hs hd' fun st' a' w' hk hm' hsz' => ?_)
      exact wpOps_of_srun nt n (i + 1) (by omega) st' a' w' (by omega) hm' hk hK
    · rename_i j want hg
      split at hs
      · rename_i d hdj
        split at hs
        · rename_i b hb
          have hget := lget_get hm hb
          have hy : yielded ops a.tmps j = some b := by simp [yielded, hdj, hget]
          by_cases e : b = want
          · have hw : Region.wanted ops[i] (yielded ops a.tmps) = true := by simp [Region.wanted, hg, hy, e]
            simp only [hw, if_true]
            refine .inl (mod_sop (by subst e; exact mod_lit hm hb) (hs.1 e) hd' fun st' a' w' hk hm' hsz' => ?_)
            exact wpOps_of_srun nt n (i + 1) (by omega) st' a' w' (by omega) hm' hk hK
          · have e' : b = !want := by cases b <;> cases want <;> simp_all
            have hw : Region.wanted ops[i] (yielded ops a.tmps) = false := by simp [Region.wanted, hg, hy, e]
            simp only [hw, Bool.false_eq_true, if_false]
            refine wpOps_of_srun nt n (i + 1) (by omega) _ _ _ (by rw [put_size]; exact hsz) (mod_put (by subst e'; exact mod_lit hm hb) _ hd' undef) (hs.2 e') hK
        · rename_i b hb
          have hget := lget_get hm hb
          have hy : yielded ops a.tmps j = none := by simp [yielded, hdj, hget]
          have hw : Region.wanted ops[i] (yielded ops a.tmps) = false := by simp [Region.wanted, hg, hy]
          simp only [hw, Bool.false_eq_true, if_false]
          exact wpOps_of_srun nt n (i + 1) (by omega) _ _ _ (by rw [put_size]; exact hsz) (mod_put hm _ hd' undef) hs hK
        · exact hs.elim
      · exact hs.elim

structure PC where
  n : St → Prop
  x : Nat → St → Prop
  r : St → Prop

def PC.post (B : Base) (nt : Nat) (Q : PC) : Exit → Act → World → Prop
  | .normal, a, w => ∃ st, Q.n st ∧ Mod B st a w ∧ a.tmps.size = nt
  | .exit id, a, w => ∃ st, Q.x id st ∧ Mod B st a w ∧ a.tmps.size = nt
  | .ret, a, w => ∃ st, Q.r st ∧ Mod B st a w ∧ a.tmps.size = nt
  | _, _, _ => False

/-- st says at least what st' says (of a machine that st fits st' is true, too). -/
def Wk (st st' : St) : Prop := ∀ (B : Base) (a : Act) (w : World), Mod B st a w → Mod B st' a w

theorem Wk.refl (st : St) : Wk st st := fun _ _ _ h => h

def swp (P : Program) (T : Tab) (nt : Nat) : Code → PC → St → Prop
  | .skip, Q, st => Q.n st
  | .label _, Q, st => Q.n st
  | .region _ ops false, Q, st => srun P T nt ops ops.toList Q.n st
  | .region _ ops true, Q, st => match liteOps nt ops ops.toList with
    | some l => backward (ops.toList.map predsOf) = true ∧ ∃ W, 0 < W ∧ ldrun W P T st.nx (closures (ops.toList.map predsOf) []) 0 l [] Q.n st
    | none => False
  | .seq a b, Q, st => swp P T nt a ⟨fun st' => ∃ s2, Wk st' s2 ∧ swp P T nt b Q s2, Q.x, Q.r⟩ st
  | .cond (.tmp t) c d, Q, st => match lget st.σ t with
    | some (.v (.bool b)) => (b = true → swp P T nt c Q (st.put (some t) (.v (.bool true)))) ∧ (b = false → swp P T nt d Q (st.put (some t) (.v (.bool false))))
    | _ => False
  | .cond (.const (.bool b)) c d, Q, st => (b = true → swp P T nt c Q st) ∧ (b = false → swp P T nt d Q st)
  | .block id c, Q, st => swp P T nt c ⟨Q.n, fun i st' => if i = id then Q.n st' else Q.x i st', Q.r⟩ st
  | .loop c, Q, st => ∃ (α : Type) (S : α → St) (μ : α → Nat) (x : α), Wk st (S x) ∧
      ∀ x, swp P T nt c ⟨fun st' => ∃ y, μ y < μ x ∧ Wk st' (S y), Q.x, Q.r⟩ (S x)
  | .exit id, Q, st => Q.x id st
  | .ret, Q, st => Q.r st
  | .scope c, Q, st => swp P T nt c Q st
  | _, _, _ => False

noncomputable def least (p : Nat → Prop) : Nat := @Classical.epsilon Nat ⟨0⟩ fun m => p m ∧ ∀ k, p k → m ≤ k
theorem least_spec {p : Nat → Prop} (h : ∃ m, p m) : p (least p) ∧ ∀ k, p k → least p ≤ k := by
  have : ∃ m, p m ∧ ∀ k, p k → m ≤ k := by
    obtain ⟨m, hm⟩ := h
    induction m using Nat.strongRecOn with
    | _ m ih =>
      by_cases hk : ∃ k, k < m ∧ p k
      · obtain ⟨k, h1, h2⟩ := hk; exact ih k h1 h2
      · exact ⟨m, hm, fun k hpk => Nat.le_of_not_lt fun hlt => hk ⟨k, hlt, hpk⟩⟩
  exact Classical.epsilon_spec this

theorem swp_ok {B : Base} {nt : Nat} : ∀ (c : Code) (Q : PC) (st : St), swp B.P B.T nt c Q st → ∀ (a : Act) (w : World), Mod B st a w → a.tmps.size = nt → c.wp B.P (Q.post B nt) a w
  | .skip, Q, st, h, a, w, hm, hsz => wp_skip ⟨st, by simpa [swp] using h, hm, hsz⟩
  | .label _, Q, st, h, a, w, hm, hsz => wp_label ⟨st, by simpa [swp] using h, hm, hsz⟩
  | .region id ops false, Q, st, h, a, w, hm, hsz => by
    simp only [swp] at h
    refine wp_region ?_
    rw [List.range_eq_range']
    exact wpOps_of_srun nt ops.size 0 (by omega) st a w hsz hm (by simpa using h) fun st a w hk hm hsz => ⟨st, hk, hm, hsz⟩
  | .region id ops true, Q, st, h, a, w, hm, hsz => by
    simp only [swp] at h
    split at h
    · rename_i l hl
      obtain ⟨hback, W, hW, hrun⟩ := h
      have hT : B.T.OK B.P := by obtain ⟨E, hc, _⟩ := hm; exact hc.tab
      obtain ⟨steps, stf, k1, k2, k3, k4, k5⟩ := runs_of_ldrun hW hT ops.toList l 0 [] st hl rfl hrun
      rw [Nat.zero_mul, Nat.add_zero] at k1
      exact drawn_ok hW k1 (by simpa using k2) (by simpa using k4) hback (by simpa using k3) hm hsz (fun o ho t ht => liteOps_dst hl o (by simpa using ho) t ht) fun a w hm hsz => ⟨stf, k5, hm, hsz⟩
    · exact h.elim
  | .seq x y, Q, st, h, a, w, hm, hsz => by
    simp only [swp] at h
    refine wp_seq (wp_mono (swp_ok x _ st h a w hm hsz) ?_)
    intro e a' w' hq
    cases e with
    | normal => obtain ⟨st', ⟨s2, h0, h1⟩, h2, h3⟩ := hq; exact swp_ok y Q s2 h1 a' w' (h0 _ _ _ h2) h3
    | exit id => exact hq
    | ret => exact hq
    | goto l => exact hq.elim
    | panic c => exact hq.elim
    | outgrown => exact hq.elim
  | .cond (.tmp t) c d, Q, st, h, a, w, hm, hsz => by
    simp only [swp] at h
    split at h
    · rename_i b hb
      have hget := lget_get hm hb
      have hev : a.eval (.tmp t) = .bool b := by simp [Act.eval, Array.getD_eq_getD_getElem?, hget]
      refine wp_cond_split hev (fun e => ?_) (fun e => ?_)
      · subst e; exact swp_ok c Q _ (h.1 rfl) a w (mod_lit hm hb) hsz
      · subst e; exact swp_ok d Q _ (h.2 rfl) a w (mod_lit hm hb) hsz
    · exact h.elim
  | .cond (.const v) c d, Q, st, h, a, w, hm, hsz => by
    cases v with
    | bool b =>
      simp only [swp] at h
      refine wp_cond_split (t := b) (by simp [Act.eval]) (fun e => ?_) (fun e => ?_)
      · exact swp_ok c Q _ (h.1 e) a w hm hsz
      · exact swp_ok d Q _ (h.2 e) a w hm hsz
    | _ => simp [swp] at h
  | .cond (.global _) c d, Q, st, h, a, w, hm, hsz => by simp [swp] at h
  | .cond (.func _) c d, Q, st, h, a, w, hm, hsz => by simp [swp] at h
  | .block id c, Q, st, h, a, w, hm, hsz => by
    simp only [swp] at h
    refine wp_block (wp_mono (swp_ok c _ st h a w hm hsz) ?_)
    intro e a' w' hq
    cases e with
    | normal => exact hq
    | exit i =>
      obtain ⟨st', h1, h2, h3⟩ := hq
      simp only [Exit.inBlock]
      by_cases e : i = id
      · simp only [e, if_true] at h1 ⊢; exact ⟨st', h1, h2, h3⟩
      · simp only [e, if_false] at h1 ⊢; exact ⟨st', h1, h2, h3⟩
    | ret => exact hq
    | goto l => exact hq.elim
    | panic c => exact hq.elim
    | outgrown => exact hq.elim
  | .loop c, Q, st, h, a, w, hm, hsz => by
    simp only [swp] at h
    obtain ⟨α, S, μ, x, hx, hround⟩ := h
    refine wp_loop (fun a w => ∃ x, Mod B (S x) a w ∧ a.tmps.size = nt) (fun a w => least fun m => ∃ x, μ x = m ∧ Mod B (S x) a w ∧ a.tmps.size = nt) ⟨x, hx B a w hm, hsz⟩ ?_
    rintro a w ⟨x, hmx, hszx⟩
    obtain ⟨⟨z, hz, hmz, hszz⟩, _⟩ := least_spec (p := fun m => ∃ x, μ x = m ∧ Mod B (S x) a w ∧ a.tmps.size = nt) ⟨μ x, x, rfl, hmx, hszx⟩
    refine wp_mono (swp_ok c _ _ (hround z) a w hmz hszz) ?_
    intro e a' w' hq
    cases e with
    | normal =>
      obtain ⟨st', ⟨y, hy, hwk⟩, h2, h3⟩ := hq
      refine ⟨⟨y, hwk B a' w' h2, h3⟩, ?_⟩
      obtain ⟨_, hle⟩ := least_spec (p := fun m => ∃ x, μ x = m ∧ Mod B (S x) a' w' ∧ a'.tmps.size = nt) ⟨μ y, y, rfl, hwk B a' w' h2, h3⟩
      have := hle (μ y) ⟨y, rfl, hwk B a' w' h2, h3⟩
      omega
    | exit id => exact hq
    | ret => exact hq
    | goto l => exact hq.elim
    | panic c => exact hq.elim
    | outgrown => exact hq.elim
  | .exit id, Q, st, h, a, w, hm, hsz => wp_exit ⟨st, by simpa [swp] using h, hm, hsz⟩
  | .ret, Q, st, h, a, w, hm, hsz => wp_ret ⟨st, by simpa [swp] using h, hm, hsz⟩
  | .scope c, Q, st, h, a, w, hm, hsz => by
    simp only [swp] at h
    refine wp_scope_straight (wp_mono (swp_ok c Q st h a w hm hsz) ?_)
    intro e a' w' hq
    cases e <;> first | exact hq | exact hq.elim
  | .rangeFunc _ _ _ _, Q, st, h, a, w, hm, hsz => by simp [swp] at h
  | .goto _, Q, st, h, a, w, hm, hsz => by simp [swp] at h
  | .refuse _, Q, st, h, a, w, hm, hsz => by simp [swp] at h

#print axioms swp_ok
end Go.Ai
