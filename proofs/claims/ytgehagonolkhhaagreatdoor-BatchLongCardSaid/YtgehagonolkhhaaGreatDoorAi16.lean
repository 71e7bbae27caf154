/- The executor: code. -/
import Derived.Test.YtgehagonolkhhaaGreatDoorAi15
namespace Go.Ai
open Go

def hput (l : HL) (n : Nat) (b : Option Blk) : HL :=
  match l with
  | [] => [(n, b)]
  | p :: l => bif Nat.beq p.1 n then (n, b) :: l else p :: hput l n b

theorem hget_hput : ∀ (l : HL) (n : Nat) (b : Option Blk) (u : Nat), hget (hput l n b) u = if n = u then b else hget l u
  | [], n, b, u => by simp [hput, hget_nil, hget_cons]
  | p :: l, n, b, u => by
    obtain ⟨k, y⟩ := p
    simp only [hput]
    cases h : Nat.beq k n with
    | true =>
      have : k = n := Nat.eq_of_beq_eq_true h
      subst this
      simp only [cond_true, hget_nil, hget_cons]
      by_cases e : k = u <;> simp [e]
    | false =>
      have : k ≠ n := Nat.ne_of_beq_eq_false h
      simp only [cond_false, hget_nil, hget_cons, hget_hput l n b u]
      by_cases e : k = u
      · subst e; simp [Ne.symm this]
      · simp [e]

/-- Is t's bit set? -/
def tb (m t : Nat) : Bool := Nat.beq (Nat.land 1 (Nat.shiftRight m t)) 1

theorem tb_eq (m t : Nat) : tb m t = m.testBit t := by
  unfold tb Nat.testBit
  show Nat.beq (1 &&& (m >>> t)) 1 = _
  have h : 1 &&& (m >>> t) = (m >>> t) % 2 := by rw [Nat.and_comm, Nat.and_one_is_mod]
  rw [h]
  rcases Nat.mod_two_eq_zero_or_one (m >>> t) with e | e <;> rw [e] <;> rfl

/-- Of each temporary that the mask has, the first entry. -/
def ddm : Nat → List (Nat × SV) → List (Nat × SV)
  | _, [] => []
  | m, p :: l => bif tb m p.1 then p :: ddm (Nat.xor m (Nat.shiftLeft 1 p.1)) l else ddm m l

theorem lget_ddm : ∀ (l : List (Nat × SV)) (m u : Nat) (x : SV), lget (ddm m l) u = some x → m.testBit u = true ∧ lget l u = some x
  | [], m, u, x, h => by simp [ddm, lget_nil, lget_cons] at h
  | (k, y) :: l, m, u, x, h => by
    simp only [ddm, tb_eq] at h
    cases hb : m.testBit k with
    | true =>
      simp only [hb, cond_true, lget_nil, lget_cons] at h
      by_cases e : k = u
      · subst e; simp only [if_true] at h; exact ⟨hb, by simp [lget_nil, lget_cons, h]⟩
      · simp only [e, if_false] at h
        obtain ⟨h1, h2⟩ := lget_ddm l _ u x h
        refine ⟨?_, by simp [lget_nil, lget_cons, e, h2]⟩
        have h1' : (m ^^^ (1 <<< k)).testBit u = true := h1
        rw [Nat.testBit_xor, Nat.one_shiftLeft, Nat.testBit_two_pow] at h1'
        simpa [e] using h1'
    | false =>
      simp only [hb, cond_false] at h
      obtain ⟨h1, h2⟩ := lget_ddm l m u x h
      have : k ≠ u := by intro e; subst e; rw [hb] at h1; cases h1
      exact ⟨h1, by simp [lget_nil, lget_cons, this, h2]⟩

/-- The state behind a region, written shorter: of the temporaries those that are read elsewhere. -/
def cmp (m : Nat) (st st1 : St) : St :=
  ⟨ddm m st1.σ, bif Nat.beq st1.H.length st.H.length then st1.H else
    (st1.H.take (st1.H.length - st.H.length)).foldr (fun p l => hput l p.1 p.2) (st1.H.drop (st1.H.length - st.H.length)), st1.nx⟩

theorem hget_foldr (m : HL) : ∀ (l : HL) (u : Nat), hget (l.foldr (fun p l => hput l p.1 p.2) m) u = hget (l ++ m) u
  | [], u => rfl
  | p :: l, u => by
    obtain ⟨k, x⟩ := p
    simp only [List.foldr_cons, hget_hput, hget_foldr m l u, List.cons_append, hget_nil, hget_cons]

theorem cmp_σ (m : Nat) (st st1 : St) (t : Nat) (x : SV) (h : lget (cmp m st st1).σ t = some x) : lget st1.σ t = some x := (lget_ddm _ _ _ _ h).2
theorem cmp_H (m : Nat) (st st1 : St) : hget (cmp m st st1).H = hget st1.H := by
  funext u; simp only [cmp]
  cases Nat.beq st1.H.length st.H.length with
  | true => rfl
  | false => simp only [cond_false, hget_foldr, List.take_append_drop]

theorem Mod.sub {B : Base} {st st' : St} {a : Act} {w : World} (h : Mod B st a w) (hσ : ∀ t x, lget st'.σ t = some x → lget st.σ t = some x) (hH : hget st'.H = hget st.H) (hn : st'.nx = st.nx) : Mod B st' a w := by
  obtain ⟨E, hc, hfr, hp, hdf⟩ := h
  exact ⟨E, ⟨hc.tab, fun t x ht => hc.fr t x (hσ t x ht), by rw [hH]; exact hc.hp, hc.en, by rw [hn]; exact hc.nx⟩, by rw [hn]; exact hfr, by rw [hH]; exact hp, hdf⟩

inductive Fl where
  | n | r | x (id : Nat)

def iter (g : St → Option (Fl × St)) : Nat → St → Option (Fl × St)
  | 0, _ => none
  | k + 1, st => match g st with
    | some (.n, st') => iter g k st'
    | some (.r, st') => some (.r, st')
    | some (.x i, st') => some (.x i, st')
    | none => none

def exC (T : Tab) (X : ExtF) (C : CallF) (W N m : Nat) : LC → St → Option (Fl × St)
  | .skip, st => some (.n, st)
  | .reg ops, st => match exL T X C W ops st with
    | some st' => some (.n, cmp m st st')
    | none => none
  | .dreg ops cls, st => match exD T X C W st.nx cls 0 ops [] st with
    | some st' => some (.n, cmp m st st')
    | none => none
  | .seq a b, st => match exC T X C W N m a st with
    | some (.n, st') => exC T X C W N m b st'
    | some (.r, st') => some (.r, st')
    | some (.x i, st') => some (.x i, st')
    | none => none
  | .cond t a b, st => match lget st.σ t with
    | some (.v (.bool true)) => exC T X C W N m a st
    | some (.v (.bool false)) => exC T X C W N m b st
    | _ => none
  | .block id c, st => match exC T X C W N m c st with
    | some (.x i, st') => bif i == id then some (.n, st') else some (.x i, st')
    | some (.n, st') => some (.n, st')
    | some (.r, st') => some (.r, st')
    | none => none
  | .loop c, st => iter (fun st => exC T X C W N m c st) N st
  | .exit id, st => some (.x id, st)
  | .ret, st => some (.r, st)
  | .bad, _ => none

def Fl.post (B : Base) (nt : Nat) (fl : Fl) (st : St) : Exit → Act → World → Prop
  | .normal, a, w => fl = .n ∧ Mod B st a w ∧ a.tmps.size = nt
  | .exit id, a, w => fl = .x id ∧ Mod B st a w ∧ a.tmps.size = nt
  | .ret, a, w => fl = .r ∧ Mod B st a w ∧ a.tmps.size = nt
  | _, _, _ => False

theorem exC_ok {B : Base} {X : ExtF} {C : CallF} {W : Nat} (hW : 0 < W) (hX : X.OK B.P) (hC : C.OK B.P W) {nt N m : Nat} : ∀ (c : Code) (fl : Fl) (st st' : St), exC B.T X C W N m (lite nt c) st = some (fl, st') →
    ∀ (a : Act) (w : World), Mod B st a w → a.tmps.size = nt → c.wp B.P (fl.post B nt st') a w
  | .skip, fl, st, st', h, a, w, hm, hsz => by
    simp only [lite, exC, Option.some.injEq, Prod.mk.injEq] at h
    obtain ⟨rfl, rfl⟩ := h
    exact wp_skip ⟨rfl, hm, hsz⟩
  | .label _, fl, st, st', h, a, w, hm, hsz => by
    simp only [lite, exC, Option.some.injEq, Prod.mk.injEq] at h
    obtain ⟨rfl, rfl⟩ := h
    exact wp_label ⟨rfl, hm, hsz⟩
  | .region id ops false, fl, st, st', h, a, w, hm, hsz => by
    simp only [lite] at h
    split at h
    · rename_i l hl
      simp only [exC] at h
      split at h
      · rename_i st1 h1
        simp only [Option.some.injEq, Prod.mk.injEq] at h
        obtain ⟨rfl, rfl⟩ := h
        refine wp_region ?_
        rw [List.range_eq_range']
        have hs := srun_of_lrun (ops := ops) ops.toList l st hl (exL_ok hX hC (K := fun s => s = st1) l st st1 h1 rfl)
        refine wpOps_of_srun nt ops.size 0 (by omega) st a w hsz hm (by simpa using hs) fun s a w hk hm hsz => ?_
        subst hk
        exact ⟨rfl, hm.sub (cmp_σ m _ _) (cmp_H m _ _) rfl, hsz⟩
      · cases h
    · simp [exC] at h
  | .region id ops true, fl, st, st', h, a, w, hm, hsz => by
    simp only [lite] at h
    split at h
    · rename_i l hl
      split at h
      · rename_i hback
        simp only [exC] at h
        split at h
        · rename_i st1 h1
          simp only [Option.some.injEq, Prod.mk.injEq] at h
          obtain ⟨rfl, rfl⟩ := h
          have hT : B.T.OK B.P := by obtain ⟨E, hc, _⟩ := hm; exact hc.tab
          obtain ⟨steps, stf, k1, k2, k3, k4, k5⟩ := runs_of_ldrun hW hT ops.toList l 0 [] st hl rfl (exD_ok hX hC (K := fun s => s = st1) l 0 [] st st1 h1 rfl)
          rw [Nat.zero_mul, Nat.add_zero] at k1
          subst k5
          exact drawn_ok hW k1 (by simpa using k2) (by simpa using k4) hback (by simpa using k3) hm hsz (fun o ho t ht => liteOps_dst hl o (by simpa using ho) t ht) fun a w hm hsz => ⟨rfl, hm.sub (cmp_σ m _ _) (cmp_H m _ _) rfl, hsz⟩
        · cases h
      · simp [exC] at h
    · simp [exC] at h
  | .seq x y, fl, st, st', h, a, w, hm, hsz => by
    simp only [lite, exC] at h
    split at h
    · rename_i st1 h1
      refine wp_seq (wp_mono (exC_ok hW hX hC x _ st st1 h1 a w hm hsz) ?_)
      intro e a' w' hq
      cases e with
      | normal => exact exC_ok hW hX hC y fl st1 st' h a' w' hq.2.1 hq.2.2
      | exit id => exact absurd hq.1 (by simp)
      | ret => exact absurd hq.1 (by simp)
      | goto l => exact hq.elim
      | panic c => exact hq.elim
      | outgrown => exact hq.elim
    · rename_i st1 h1
      cases h
      refine wp_seq (wp_mono (exC_ok hW hX hC x _ st _ h1 a w hm hsz) ?_)
      intro e a' w' hq
      cases e with
      | normal => exact absurd hq.1 (by simp)
      | exit id => exact hq
      | ret => exact hq
      | goto l => exact hq.elim
      | panic c => exact hq.elim
      | outgrown => exact hq.elim
    · rename_i i st1 h1
      cases h
      refine wp_seq (wp_mono (exC_ok hW hX hC x _ st _ h1 a w hm hsz) ?_)
      intro e a' w' hq
      cases e with
      | normal => exact absurd hq.1 (by simp)
      | exit id => exact hq
      | ret => exact hq
      | goto l => exact hq.elim
      | panic c => exact hq.elim
      | outgrown => exact hq.elim
    · cases h
  | .cond (.tmp t) c d, fl, st, st', h, a, w, hm, hsz => by
    simp only [lite, exC] at h
    split at h
    · rename_i hb
      have hget := lget_get hm hb
      have hev : a.eval (.tmp t) = .bool true := by simp [Act.eval, Array.getD_eq_getD_getElem?, hget]
      exact wp_cond_split hev (fun _ => exC_ok hW hX hC c fl st st' h a w hm hsz) (fun e => by cases e)
    · rename_i hb
      have hget := lget_get hm hb
      have hev : a.eval (.tmp t) = .bool false := by simp [Act.eval, Array.getD_eq_getD_getElem?, hget]
      exact wp_cond_split hev (fun e => by cases e) (fun _ => exC_ok hW hX hC d fl st st' h a w hm hsz)
    · cases h
  | .cond (.const v) c d, fl, st, st', h, a, w, hm, hsz => by
    cases v with
    | bool b =>
      cases b with
      | true => simp only [lite] at h; exact wp_cond_split (t := true) (by simp [Act.eval]) (fun _ => exC_ok hW hX hC c fl st st' h a w hm hsz) (fun e => by cases e)
      | false => simp only [lite] at h; exact wp_cond_split (t := false) (by simp [Act.eval]) (fun e => by cases e) (fun _ => exC_ok hW hX hC d fl st st' h a w hm hsz)
    | _ => simp [lite, exC] at h
  | .cond (.global _) c d, fl, st, st', h, a, w, hm, hsz => by simp [lite, exC] at h
  | .cond (.func _) c d, fl, st, st', h, a, w, hm, hsz => by simp [lite, exC] at h
  | .block id c, fl, st, st', h, a, w, hm, hsz => by
    simp only [lite, exC] at h
    split at h
    · rename_i i st1 h1
      refine wp_block (wp_mono (exC_ok hW hX hC c _ st _ h1 a w hm hsz) ?_)
      intro e a' w' hq
      cases e with
      | normal => exact absurd hq.1 (by simp)
      | exit j =>
        have hij : i = j := by have := hq.1; simpa using this
        subst hij
        simp only [Exit.inBlock]
        cases hi : i == id with
        | true =>
          have e : i = id := by simpa using hi
          simp only [hi, cond_true, Option.some.injEq, Prod.mk.injEq] at h
          obtain ⟨rfl, rfl⟩ := h
          simp only [e, if_true]
          exact ⟨rfl, hq.2⟩
        | false =>
          have e : i ≠ id := by simpa using hi
          simp only [hi, cond_false, Option.some.injEq, Prod.mk.injEq] at h
          obtain ⟨rfl, rfl⟩ := h
          simp only [e, if_false]
          exact hq
      | ret => exact absurd hq.1 (by simp)
      | goto l => exact hq.elim
      | panic c => exact hq.elim
      | outgrown => exact hq.elim
    · rename_i st1 h1
      cases h
      refine wp_block (wp_mono (exC_ok hW hX hC c _ st _ h1 a w hm hsz) ?_)
      intro e a' w' hq
      cases e with
      | normal => exact hq
      | exit j => exact absurd hq.1 (by simp)
      | ret => exact hq
      | goto l => exact hq.elim
      | panic c => exact hq.elim
      | outgrown => exact hq.elim
    · rename_i st1 h1
      cases h
      refine wp_block (wp_mono (exC_ok hW hX hC c _ st _ h1 a w hm hsz) ?_)
      intro e a' w' hq
      cases e with
      | normal => exact hq
      | exit j => exact absurd hq.1 (by simp)
      | ret => exact hq
      | goto l => exact hq.elim
      | panic c => exact hq.elim
      | outgrown => exact hq.elim
    · cases h
  | .loop c, fl, st, st', h, a, w, hm, hsz => by
    simp only [lite, exC] at h
    let g : St → Option (Fl × St) := fun st => exC B.T X C W N m (lite nt c) st
    let I : Nat → Act → World → Prop := fun k a w => ∃ s, iter g k s = some (fl, st') ∧ Mod B s a w ∧ a.tmps.size = nt
    refine wp_loop (fun a w => ∃ k, I k a w) (fun a w => least fun k => I k a w) ⟨N, st, h, hm, hsz⟩ ?_
    rintro a w ⟨k0, hk0⟩
    obtain ⟨hk, _⟩ := least_spec (p := fun k => I k a w) ⟨k0, hk0⟩
    generalize hlk : least (fun k => I k a w) = k at hk
    obtain ⟨s, hs, hms, hszs⟩ := hk
    cases k with
    | zero => simp [iter] at hs
    | succ k =>
      simp only [iter] at hs
      split at hs
      · rename_i s1 h1
        refine wp_mono (exC_ok hW hX hC c _ s s1 h1 a w hms hszs) ?_
        intro e a' w' hq
        cases e with
        | normal =>
          refine ⟨⟨k, s1, hs, hq.2⟩, ?_⟩
          obtain ⟨_, hle⟩ := least_spec (p := fun k => I k a' w') ⟨k, s1, hs, hq.2⟩
          have := hle k ⟨s1, hs, hq.2⟩
          exact Nat.lt_succ_of_le this
        | exit id => exact absurd hq.1 (by simp)
        | ret => exact absurd hq.1 (by simp)
        | goto l => exact hq.elim
        | panic c => exact hq.elim
        | outgrown => exact hq.elim
      · rename_i s1 h1
        cases hs
        refine wp_mono (exC_ok hW hX hC c _ s _ h1 a w hms hszs) ?_
        intro e a' w' hq
        cases e with
        | normal => exact absurd hq.1 (by simp)
        | exit id => exact hq
        | ret => exact hq
        | goto l => exact hq.elim
        | panic c => exact hq.elim
        | outgrown => exact hq.elim
      · rename_i i s1 h1
        cases hs
        refine wp_mono (exC_ok hW hX hC c _ s _ h1 a w hms hszs) ?_
        intro e a' w' hq
        cases e with
        | normal => exact absurd hq.1 (by simp)
        | exit id => exact hq
        | ret => exact hq
        | goto l => exact hq.elim
        | panic c => exact hq.elim
        | outgrown => exact hq.elim
      · cases hs
  | .exit id, fl, st, st', h, a, w, hm, hsz => by
    simp only [lite, exC, Option.some.injEq, Prod.mk.injEq] at h
    obtain ⟨rfl, rfl⟩ := h
    exact wp_exit ⟨rfl, hm, hsz⟩
  | .ret, fl, st, st', h, a, w, hm, hsz => by
    simp only [lite, exC, Option.some.injEq, Prod.mk.injEq] at h
    obtain ⟨rfl, rfl⟩ := h
    exact wp_ret ⟨rfl, hm, hsz⟩
  | .scope c, fl, st, st', h, a, w, hm, hsz => by
    simp only [lite] at h
    refine wp_scope_straight (wp_mono (exC_ok hW hX hC c fl st st' h a w hm hsz) ?_)
    intro e a' w' hq
    cases e <;> first | exact hq | exact hq.elim
  | .rangeFunc _ _ _ _, fl, st, st', h, a, w, hm, hsz => by simp [lite, exC] at h
  | .goto _, fl, st, st', h, a, w, hm, hsz => by simp [lite, exC] at h
  | .refuse _, fl, st, st', h, a, w, hm, hsz => by simp [lite, exC] at h
#print axioms exC_ok
end Go.Ai
