/- Rules of the walk: leaving blocks; equalities of numbers as they arise. -/
import Derived.Test.YtgehagonolkhhaaGreatDoorAi23
namespace Go.Ai
open Go

section
variable {P : Program} {T : Tab} {n r : St → Prop} {xt : Nat → St → Prop} {σ : List (Nat × SV)} {H : HL} {nx : Nat} {st : St}
theorem c_seqb {x y b : LC} {id : Nat} {st : St} (k : lwp P T (.seq x (.block id y)) ⟨fun st' => ∃ s2, Wk st' s2 ∧ lwp P T b ⟨n, xt, r⟩ s2, xt, r⟩ st) : lwp P T (.seq (.seq x (.block id y)) b) ⟨n, xt, r⟩ st := c_seqw k
theorem c_exitE {id : Nat} {st : St} (k : n st) : lwp P T (.exit id) ⟨n, fun i st' => if i = id then n st' else xt i st', r⟩ st := c_exit (by simpa using k)
theorem c_exitN {id j : Nat} {m : St → Prop} {st : St} (h : (id = j) = False) (k : lwp P T (.exit id) ⟨n, xt, r⟩ st) : lwp P T (.exit id) ⟨n, fun i st' => if i = j then m st' else xt i st', r⟩ st := by
  refine c_exit ?_
  simp only [h, if_false]
  exact lwp_mono (Q := ⟨n, xt, r⟩) (.exit id) ⟨n, xt, r⟩ st (fun _ h => h) (fun _ _ h => h) (fun _ h => h) k |> fun k => by
    have := k
    unfold lwp at this
    exact this
end

/-- The result is told by what it is, and one named block is left. -/
theorem leaves_one {T : Tab} {rs : List ResultVar} {x r : SV} {st : St} {n : Nat} {b : Blk} (h : resOf T st rs = some x) (e : x = r) (hx : x.namesIn (fun m => m == n) = true) (hb : hget st.H n = some b)
    (hc : namesInL (fun m => m == n) b.cells = true) : Leaves T rs r [(n, some b)] st := by
  subst e
  have hK : ∀ m, (m == n) = true → (hget [(n, some b)] m).isSome = true := by
    intro m hm
    have : m = n := by simpa using hm
    subst this
    simp [hget_cons]
  unfold Leaves
  refine ⟨x, 0, h, ?_, ?_⟩
  · simp only [Frz]
    exact ⟨trivial, namesIn_mono hK hx⟩
  · intro m c hm
    simp only [hget_cons, hget_nil] at hm
    split at hm
    · rename_i e
      subst e
      cases hm
      exact ⟨b, hb, rfl, rfl, frzP_refl (namesInL_mono hK hc)⟩
    · cases hm

theorem CallOK.of_sat1 {P : Program} {H : HL} {nx n : Nat} {f : FuncId} {xs : List SV} {r : SV} {b b' : Blk} (hb : hasBody P f) (h : Sat P f xs (hget [(n, some b)]) r (hget [(n, some b')])) (hH : hget H n = some b)
    (hargs : namesInL (fun m => m == n) xs = true) (hcells : namesInL (fun m => m == n) b.cells = true) : CallOK P H nx f xs r ((n, some b') :: H) nx := by
  have hlive : ∀ m, (m == n) = true → live H [n] m = true := by
    intro m hm
    have : m = n := by simpa using hm
    subst this
    simp [live, hH]
  have hp : Heap.part (hget H) [n] = hget [(n, some b)] := by
    funext m
    simp only [Heap.part, List.mem_singleton, hget_cons, hget_nil]
    by_cases e : m = n
    · subst e; simp [hH]
    · simp [e, Ne.symm e]
  have ho : Heap.over (Heap.part (hget H) [n]) [(n, some b')] = hget [(n, some b')] := by
    funext m
    rw [hp]
    simp only [Heap.over, namesU, List.map_cons, List.map_nil, List.mem_singleton, hget_cons, hget_nil]
    by_cases e : m = n
    · subst e; simp
    · simp [e, Ne.symm e]
  have hc : CallH 0 P H nx f xs r [n] [(n, some b')] := by
    refine ⟨hb, by rw [ho, hp]; exact h, namesInL_mono hlive hargs, ?_, ?_⟩
    · intro m hm c hc
      have : m = n := by simpa using hm
      subst this
      rw [hH] at hc; cases hc
      exact namesInL_mono hlive hcells
    · intro m hm
      left
      simp only [namesU, List.map_cons, List.map_nil, List.mem_singleton] at hm
      subst hm
      simp [live, hH]
  have := hc.ok
  simpa using this

/-! ### Less is said: the state is written out -/
def FrS (R : SV → SV → Prop) (σ : List (Nat × SV)) : List (Nat × SV) → Prop
  | [] => True
  | p :: l => (∃ x, lget σ p.1 = some x ∧ R x p.2) ∧ FrS R σ l

theorem FrS.get {R : SV → SV → Prop} {σ : List (Nat × SV)} : ∀ {l : List (Nat × SV)}, FrS R σ l → ∀ t y, lget l t = some y → ∃ x, lget σ t = some x ∧ R x y
  | [], _, t, y, h => by simp [lget_nil] at h
  | (k, z) :: l, h, t, y, hy => by
    simp only [FrS] at h
    simp only [lget_cons] at hy
    split at hy
    · rename_i e; subst e; cases hy; exact h.1
    · exact FrS.get h.2 t y hy

def FrH (R : SV → SV → Prop) (H : HL) : HL → Prop
  | [] => True
  | p :: l => (∀ b, p.2 = some b → ∃ b₀, hget H p.1 = some b₀ ∧ b₀.ty = b.ty ∧ b₀.mp = b.mp ∧ FrzP R b₀.cells b.cells) ∧ FrH R H l

theorem FrH.get {R : SV → SV → Prop} {H : HL} : ∀ {l : HL}, FrH R H l → ∀ n b, hget l n = some b → ∃ b₀, hget H n = some b₀ ∧ b₀.ty = b.ty ∧ b₀.mp = b.mp ∧ FrzP R b₀.cells b.cells
  | [], _, n, b, h => by simp [hget_nil] at h
  | (k, c) :: l, h, n, b, hb => by
    simp only [FrH] at h
    simp only [hget_cons] at hb
    split at hb
    · rename_i e; subst e; exact h.1 b hb
    · exact FrH.get h.2 n b hb

theorem Wk.of {st st' : St} (k : Nat) (hnx : st.nx ≤ st'.nx) (hσ : FrS (Frz st.H (Kept st'.H) k (Kept st'.H)) st.σ st'.σ) (hH : FrH (Frz st.H (Kept st'.H) k (Kept st'.H)) st.H st'.H) : Wk st st' :=
  Wk.frz k hnx hσ.get hH.get

theorem Frz.eq0 {H : HL} {K₀ K : Nat → Bool} {x y : SV} (h : x = y) (hn : y.namesIn K = true) : Frz H K₀ 0 K x y := by
  subst h; simp only [Frz]; exact ⟨trivial, hn⟩
theorem Frz.eqS {H : HL} {K₀ K : Nat → Bool} {k : Nat} {x y : SV} (h : x = y) (hn : y.namesIn K = true) : Frz H K₀ (k + 1) K x y := by
  subst h; unfold Frz; exact .inl ⟨rfl, hn⟩
theorem frzP_reflS {H : HL} {K₀ K : Nat → Bool} {k : Nat} : ∀ {l : List SV}, namesInL K l = true → FrzP (Frz H K₀ (k + 1) K) l l
  | [], _ => by simp [FrzP]
  | x :: l, h => by
    simp only [namesInL, Bool.and_eq_true] at h
    simp only [FrzP]
    exact ⟨.eqS rfl h.1, frzP_reflS (H := H) (K₀ := K₀) h.2⟩
theorem frzP_append {R : SV → SV → Prop} : ∀ {a b c d : List SV}, FrzP R a c → a.length = c.length → FrzP R b d → FrzP R (a ++ b) (c ++ d)
  | [], _, [], _, _, _, h => h
  | [], _, _ :: _, _, _, h, _ => by simp at h
  | _ :: _, _, [], _, _, h, _ => by simp at h
  | x :: a, b, y :: c, d, h, hl, h' => by
    simp only [FrzP] at h
    simp only [List.cons_append, FrzP]
    exact ⟨h.1, frzP_append h.2 (by simpa using hl) h'⟩
end Go.Ai
