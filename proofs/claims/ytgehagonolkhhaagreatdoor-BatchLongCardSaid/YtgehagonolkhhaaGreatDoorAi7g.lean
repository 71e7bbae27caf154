/- Steps: cap, copy, clear, min, max; strings and bytes; unsafe pointers. -/
import Derived.Test.YtgehagonolkhhaaGreatDoorAi7f
import Derived.Lib.ConvBytes
namespace Go.Ai
open Go

section
variable {P : Program} {T : Tab} {st : St}

/-! ### cap, min, max -/
def stCap (T : Tab) (st : St) (ts : Array TypeId) (args : Array Operand) : Option Res :=
  match args.toList, ts.toList with
  | [x], [t] => match T t with
    | some ⟨_, _, _, .slice _⟩ => match st.ev x with
      | .s _ _ _ _ (some c) => okRes st (.v (.int .i64 c)) True
      | .xs _ (some c) _ => okRes st (.v (.int .i64 c)) True
      | .v (.slice none 0 0) => okRes st (.v (.int .i64 0)) True
      | _ => none
    | _ => none
  | _, _ => none

theorem st_cap {c : Call} {r : Res} (hb : c.callee = .builtin .cap) (hr : stCap T st c.argTypes c.args = some r) : StepOK P T st (.call c) r := by
  have run_it : ∀ {w : World} {a : Act} {o : Oper} {v : Value}, o.op = .call c → (Builtin.cap_ c.argTypes o.type (c.args.map a.eval)).run P w = .ok v w → (execOp a.eval o).run P w = .ok (.value v) w := by
    intro w a o v he h
    simp [execOp, he, resolve, hb, invoke, builtin, h]
  unfold stCap at hr
  split at hr
  · rename_i x t hx ht
    have hx' : c.args = #[x] := by rw [← Array.toArray_toList (xs := c.args), hx]
    have ht' : c.argTypes = #[t] := by rw [← Array.toArray_toList (xs := c.argTypes), ht]
    split at hr
    · rename_i s1 s2 s3 e hi
      split at hr
      · rename_i z n off len cc hz
        refine .pure hr fun E a w q hc he hs => ⟨_, run_it (v := .int .i64 cc) he ?_, by simp [RelV]⟩
        have h1 := ev_ok hc.fr x
        rw [show Ai.ev (lget st.σ) x = _ from hz] at h1
        simp only [RelV] at h1
        obtain ⟨b, o, k, _, h1, _, _, hk, _⟩ := h1
        rw [hk cc rfl] at h1
        simp [Builtin.cap_, hx', ht', h1, run_underlying (under_slice (hc.tab t _ hi) rfl), goInt]
      · rename_i z cc l hz
        refine .pure hr fun E a w q hc he hs => ⟨_, run_it (v := .int .i64 cc) he ?_, by simp [RelV]⟩
        have h1 := ev_ok hc.fr x
        rw [show Ai.ev (lget st.σ) x = _ from hz] at h1
        simp only [RelV] at h1
        obtain ⟨b, k, h1, _, hk, _⟩ := h1
        rw [hk cc rfl] at h1
        simp [Builtin.cap_, hx', ht', h1, run_underlying (under_slice (hc.tab t _ hi) rfl), goInt]
      · rename_i hz
        refine .pure hr fun E a w q hc he hs => ⟨_, run_it (v := .int .i64 0) he ?_, by simp [RelV]⟩
        have h1 := ev_ok hc.fr x
        rw [show Ai.ev (lget st.σ) x = _ from hz] at h1
        simp only [RelV] at h1
        simp [Builtin.cap_, hx', ht', h1, run_underlying (under_slice (hc.tab t _ hi) rfl), goInt]
      · cases hr
    · cases hr
  · cases hr

/-- The smaller, or the greater, of two. -/
def stMin (st : St) (mx : Bool) (args : Array Operand) : Option Res :=
  match args.toList with
  | [x, y] => match st.ev x, st.ev y with
    | .v (.int k a), .v (.int _ b) => okRes st (.v (.int k (match mx with | true => (if b > a then b else a) | false => (if b < a then b else a)))) True
    | _, _ => none
  | _ => none

theorem st_min {c : Call} {r : Res} (hb : c.callee = .builtin .min) (hr : stMin st false c.args = some r) : StepOK P T st (.call c) r := by
  unfold stMin at hr
  split at hr
  · rename_i x y hx
    have hx' : c.args = #[x, y] := by rw [← Array.toArray_toList (xs := c.args), hx]
    split at hr
    · rename_i k a k' b h1 h2
      refine .pure hr fun E A w q hc he hs => ⟨.int k (if b < a then b else a), ?_, by simp only [RelV]⟩
      have g1 := ev_ok hc.fr x
      rw [show Ai.ev (lget st.σ) x = _ from h1] at g1
      have g2 := ev_ok hc.fr y
      rw [show Ai.ev (lget st.σ) y = _ from h2] at g2
      simp only [RelV] at g1 g2
      simp [execOp, he, resolve, hb, invoke, builtin, Builtin.min_, hx', g1, g2, Builtin.min2]
    · cases hr
  · cases hr

theorem st_max {c : Call} {r : Res} (hb : c.callee = .builtin .max) (hr : stMin st true c.args = some r) : StepOK P T st (.call c) r := by
  unfold stMin at hr
  split at hr
  · rename_i x y hx
    have hx' : c.args = #[x, y] := by rw [← Array.toArray_toList (xs := c.args), hx]
    split at hr
    · rename_i k a k' b h1 h2
      refine .pure hr fun E A w q hc he hs => ⟨.int k (if b > a then b else a), ?_, by simp only [RelV]⟩
      have g1 := ev_ok hc.fr x
      rw [show Ai.ev (lget st.σ) x = _ from h1] at g1
      have g2 := ev_ok hc.fr y
      rw [show Ai.ev (lget st.σ) y = _ from h2] at g2
      simp only [RelV] at g1 g2
      simp [execOp, he, resolve, hb, invoke, builtin, Builtin.max_, hx', g1, g2, Builtin.max2]
    · cases hr
  · cases hr

/-! ### copy, clear -/
theorem StepOK.put {op : Op} {n : Nat} {b b' : Blk} {x : SV} {side : Prop} [Decidable side] {r : Res} (hb : hget st.H n = some b) (hr : some (⟨x, [(n, some b')], st.nx, decide side⟩ : Res) = some r)
    (h : ∀ (E : Env) (a : Act) (w : World) (o : Oper), Ctx P T st E a w → o.op = op → side → ∃ v w', (execOp a.eval o).run P w = .ok (.value v) w' ∧ Post E w (hget st.H) E w' (Heap.set (hget st.H) n (some b')) ∧ RelV w' E x v) : StepOK P T st op r := by
  cases hr
  refine ⟨fun E a w o hc he hs => ?_, Nat.le_refl _, fun m hm => ?_, Nat.le_succ _⟩
  · obtain ⟨v, w', h1, h2, h3⟩ := h E a w o hc he (of_decide_eq_true hs)
    refine ⟨v, w', E, .inl h1, ?_, h3⟩
    rw [List.singleton_append, hset_eq]; exact h2
  · rw [List.singleton_append, hset_eq] at hm
    unfold Heap.set at hm
    by_cases e : m = n
    · subst e; exact .inl (by simp [hb])
    · simp only [e, if_false] at hm; exact .inl hm

theorem heap_set_self {H : Heap} {n : Nat} {b : Blk} (h : H n = some b) : Heap.set H n (some b) = H := by
  funext m
  unfold Heap.set
  by_cases e : m = n
  · subst e; simp [h]
  · simp [e]

theorem stOf_nil (l : List SV) (k : Nat) : stOf l k [] = l := by simp [stOf]

def stCopy (T : Tab) (st : St) (ts : Array TypeId) (args : Array Operand) : Option Res :=
  match ts.toList, args.toList with
  | t :: _, [x, y] => match T t with
    | some ⟨_, _, _, .slice e⟩ => match T e with
      | some ie => match srcOf st.H ie.size (st.ev y) with
        | some (l, k, p) => match st.ev x with
          | .s z n off len _ => match blkOf st.H (st.ev x) with
            | some ⟨bt, bc, none⟩ => some ⟨.v (.int .i64 (Nat.min k len)), [(n, some ⟨bt, stOf bc off (l.take (Nat.min k len * ie.size)), none⟩)], st.nx,
                decide (p = true ∧ allOne (l.take (Nat.min k len * ie.size)) = true ∧ z = ie.size ∧ off + len * ie.size ≤ bc.length)⟩
            | _ => none
          | .v (.slice none 0 0) => okRes st (.v (.int .i64 0)) (p = true)
          | _ => none
        | none => none
      | none => none
    | _ => none
  | _, _ => none

theorem st_copy {c : Call} {r : Res} (hT : T.OK P) (hb : c.callee = .builtin .copy) (hr : stCopy T st c.argTypes c.args = some r) : StepOK P T st (.call c) r := by
  have run_it : ∀ {w w' : World} {a : Act} {o : Oper} {v : Value}, o.op = .call c → (Builtin.copy_ c.argTypes o.type (c.args.map a.eval)).run P w = .ok v w' → (execOp a.eval o).run P w = .ok (.value v) w' := by
    intro w w' a o v he h
    simp [execOp, he, resolve, hb, invoke, builtin, h]
  unfold stCopy at hr
  split at hr
  · rename_i t tr x y ht hxy
    have hargs : c.args = #[x, y] := by rw [← Array.toArray_toList (xs := c.args), hxy]
    have hts : c.argTypes[0]? = some t := by rw [← Array.getElem?_toList, ht]; rfl
    split at hr
    · rename_i s1 s2 s3 e hit
      have hu := under_slice (hT t _ hit) rfl
      split at hr
      · rename_i ie hie
        split at hr
        · rename_i l k p hsrc
          split at hr
          · rename_i z n off len cap hx
            split at hr
            · rename_i bt bc hblk
              rw [hx] at hblk; simp only [blkOf] at hblk
              refine .put hblk hr fun E a w o hc he hs => ?_
              obtain ⟨hp, h1, rfl, h2⟩ := hs
              obtain ⟨vs, k1, k2, k3, k4⟩ := src_ok (P := P) hc.hp (ev_ok hc.fr y) hsrc hp
              have hx1 := ev_ok hc.fr x
              rw [show Ai.ev (lget st.σ) x = _ from hx] at hx1
              simp only [RelV] at hx1
              obtain ⟨b, o', c', e1, hx1, e2, e3, e4, e5⟩ := hx1
              have hmk : Nat.min k len ≤ k := Nat.min_le_left _ _
              have hml : Nat.min k len ≤ len := Nat.min_le_right _ _
              have k4' := k4 w (Nat.min k len) rfl hmk
              have k1' := k1.take (Nat.min k len * ie.size)
              have kl : l.length = k * ie.size := by rw [← k1.length]; exact k2
              have hle : Nat.min k len * ie.size ≤ len * ie.size := Nat.mul_le_mul_right _ hml
              have hle' : Nat.min k len * ie.size ≤ k * ie.size := Nat.mul_le_mul_right _ hmk
              rcases e2 with rfl | rfl
              · have hl0 : len = 0 := by omega
                subst hl0
                have hm0 : Nat.min k 0 = 0 := Nat.min_zero k
                rw [hm0] at k4' k1' hle ⊢
                simp only [Nat.zero_mul, List.take_zero] at k4' ⊢
                refine ⟨.int .i64 0, w, run_it he ?_, ?_, by simp [RelV]⟩
                · simp [Builtin.copy_, hts, hargs, hx1, run_underlying hu, k3, run_sizeOf_ti (hT e ie hie), k4', storeCells, goInt]
                · rw [stOf_nil, heap_set_self hblk]; exact .refl hc.hp hc.en
              · obtain ⟨w', w1, w2, w3⟩ := store_blk (P := P) (off := o') (l := stOf bc o' (l.take (Nat.min k len * ie.size))) hc.hp hc.en hblk e1 k1' h1 (by
                  obtain ⟨cs, ty, fz, r1, r2⟩ := e5
                  refine ⟨cs, ty, fz, r1, ?_⟩
                  rw [List.length_take, kl, Nat.min_eq_left hle']
                  have : len * ie.size ≤ c' * ie.size := Nat.mul_le_mul_right _ e3
                  omega) (by omega) (.inr rfl)
                refine ⟨.int .i64 (Nat.min k len), w', run_it he ?_, w2, by simp [RelV]⟩
                simp [Builtin.copy_, hts, hargs, hx1, run_underlying hu, k3, run_sizeOf_ti (hT e ie hie), k4', w1, goInt]
            · cases hr
          · rename_i hx
            refine .pure hr fun E a w o hc he hp => ?_
            obtain ⟨vs, k1, k2, k3, k4⟩ := src_ok (P := P) hc.hp (ev_ok hc.fr y) hsrc hp
            have hx1 := ev_ok hc.fr x
            rw [show Ai.ev (lget st.σ) x = _ from hx] at hx1
            simp only [RelV] at hx1
            have hm0 : Nat.min k 0 = 0 := Nat.min_zero k
            have k4' := k4 w 0 rfl (Nat.zero_le _)
            refine ⟨.int .i64 0, run_it he ?_, by simp [RelV]⟩
            simp [Builtin.copy_, hts, hargs, hx1, run_underlying hu, k3, run_sizeOf_ti (hT e ie hie), k4', goInt]
          · cases hr
        · cases hr
      · cases hr
    · cases hr
  · cases hr
end
#print axioms st_copy
end Go.Ai
