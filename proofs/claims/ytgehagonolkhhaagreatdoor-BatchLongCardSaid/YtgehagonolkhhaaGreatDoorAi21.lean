/- The fast executor: regions whose order is open. -/
import Derived.Test.YtgehagonolkhhaaGreatDoorAi20
namespace Go.Ai
open Go

/-! ### What the text alone says of what meets -/
structure TrT where
  d : Option Tmp
  rt : List Tmp

def gtOf : Option (Tmp × Bool) → List Tmp
  | some (g, _) => [g]
  | none => []

def trT (o : LOp) : TrT := ⟨o.d, gtOf o.g ++ tmpsOf o.op.operands.toList⟩

def optMem (d : Option Tmp) (l : List Tmp) : Bool :=
  match d with
  | some t => nmem t l
  | none => false

def confT (a b : TrT) : Bool :=
  optMem a.d b.rt || optMem b.d a.rt || optMem a.d b.d.toList

/-- Temporaries as bits. -/
def rm : List Tmp → Nat
  | [] => 0
  | t :: l => Nat.lor (bit t) (rm l)

def om : Option Tmp → Nat
  | some t => bit t
  | none => 0

theorem tb_bit (k t : Nat) : tb (bit k) t = decide (k = t) := by
  unfold bit
  rw [tb_eq]
  show (1 <<< k).testBit t = _
  rw [Nat.one_shiftLeft, Nat.testBit_two_pow]

theorem tb_lor (a b t : Nat) : tb (Nat.lor a b) t = (tb a t || tb b t) := by
  rw [tb_eq, tb_eq, tb_eq]
  exact Nat.testBit_or a b t

theorem tb_land (a b t : Nat) : tb (Nat.land a b) t = (tb a t && tb b t) := by
  rw [tb_eq, tb_eq, tb_eq]
  exact Nat.testBit_and a b t

theorem tb_zero (t : Nat) : tb 0 t = false := by rw [tb_eq]; exact Nat.zero_testBit t

theorem tb_rm {t : Nat} : ∀ {l : List Tmp}, tb (rm l) t = true ↔ t ∈ l
  | [] => by simp [rm, tb_zero]
  | x :: l => by
    simp only [rm, tb_lor, tb_bit, Bool.or_eq_true, decide_eq_true_eq, tb_rm (l := l), List.mem_cons]
    constructor
    · rintro (h | h)
      · exact .inl h.symm
      · exact .inr h
    · rintro (h | h)
      · exact .inl h.symm
      · exact .inr h

theorem tb_om {t : Nat} {d : Option Tmp} : tb (om d) t = true ↔ d = some t := by
  cases d with
  | none => simp [om, tb_zero]
  | some k => simp [om, tb_bit]

/-- What is written, what is read. -/
abbrev TrM := Nat × Nat
def trM (a : TrT) : TrM := (om a.d, rm a.rt)

def confM (a b : TrM) : Bool := !(Nat.beq (Nat.lor (Nat.land a.1 (Nat.lor b.2 b.1)) (Nat.land a.2 b.1)) 0)

theorem confM_of {a b : TrT} (h : confT a b = true) : confM (trM a) (trM b) = true := by
  have key : ∃ t, tb (Nat.lor (Nat.land (om a.d) (Nat.lor (rm b.rt) (om b.d))) (Nat.land (rm a.rt) (om b.d))) t = true := by
    unfold confT at h
    have hopt : ∀ (d : Option Tmp) (l : List Tmp), optMem d l = true → ∃ t, d = some t ∧ t ∈ l := by
      intro d l hd
      cases d with
      | none => cases hd
      | some t => exact ⟨t, rfl, by simpa [optMem, nmem_eq] using hd⟩
    simp only [Bool.or_eq_true] at h
    rcases h with (h | h) | h
    · obtain ⟨t, h1, h2⟩ := hopt _ _ h
      refine ⟨t, ?_⟩
      rw [tb_lor, tb_land, tb_lor, tb_om.2 h1, tb_rm.2 h2]; rfl
    · obtain ⟨t, h1, h2⟩ := hopt _ _ h
      refine ⟨t, ?_⟩
      rw [tb_lor, tb_land (rm a.rt), tb_om.2 h1, tb_rm.2 h2]; simp
    · obtain ⟨t, h1, h2⟩ := hopt _ _ h
      refine ⟨t, ?_⟩
      have h3 : b.d = some t := by cases e : b.d <;> simp [e] at h2 ⊢; exact h2.symm
      rw [tb_lor, tb_land, tb_lor, tb_om.2 h1, tb_om.2 h3]; simp
  obtain ⟨t, ht⟩ := key
  unfold confM trM
  cases e : Nat.beq (Nat.lor (Nat.land (om a.d) (Nat.lor (rm b.rt) (om b.d))) (Nat.land (rm a.rt) (om b.d))) 0 with
  | false => rfl
  | true => rw [Nat.eq_of_beq_eq_true e, tb_zero] at ht; cases ht

/-- The places ahead of each place, as bits. -/
def orM (ms : List Nat) : List Nat → Nat
  | [] => 0
  | q :: p => Nat.lor (Nat.lor (bit q) (ms.getD q 0)) (orM ms p)

def clsM : List (List Nat) → List Nat → List Nat
  | [], ms => ms
  | p :: rest, ms => clsM rest (ms ++ [orM ms p])

def MsOK (ms : List Nat) (cls : List (List Nat)) : Prop := ∀ j i, tb (ms.getD j 0) i = true → i ∈ cls.getD j []

theorem tb_orM {ms : List Nat} {i : Nat} : ∀ {p : List Nat}, tb (orM ms p) i = true → ∃ q ∈ p, i = q ∨ tb (ms.getD q 0) i = true
  | [], h => by simp [orM, tb_zero] at h
  | q :: p, h => by
    simp only [orM, tb_lor, Bool.or_eq_true, tb_bit, decide_eq_true_eq] at h
    rcases h with (h | h) | h
    · exact ⟨q, by simp, .inl h.symm⟩
    · exact ⟨q, by simp, .inr h⟩
    · obtain ⟨q', h1, h2⟩ := tb_orM h
      exact ⟨q', by simp [h1], h2⟩

theorem mem_dd_of {x : Nat} : ∀ {l : List Nat}, x ∈ l → x ∈ dd l
  | y :: l, h => by
    simp only [dd]
    cases hc : l.contains y with
    | true =>
      rcases List.mem_cons.1 h with rfl | h
      · exact mem_dd_of (by simpa using hc)
      · exact mem_dd_of h
    | false =>
      rcases List.mem_cons.1 h with rfl | h
      · simp
      · exact List.mem_cons_of_mem _ (mem_dd_of h)

theorem clsM_ok : ∀ (rest : List (List Nat)) (ms : List Nat) (cls : List (List Nat)), ms.length = cls.length → MsOK ms cls → MsOK (clsM rest ms) (closures rest cls)
  | [], _, _, _, h => h
  | p :: rest, ms, cls, hlen, h => by
    simp only [clsM, closures]
    refine clsM_ok rest _ _ (by simp [hlen]) ?_
    intro j i hj
    by_cases e : j < ms.length
    · rw [List.getD_eq_getElem?_getD, List.getElem?_append_left e, ← List.getD_eq_getElem?_getD] at hj
      rw [List.getD_eq_getElem?_getD, List.getElem?_append_left (by omega), ← List.getD_eq_getElem?_getD]
      exact h j i hj
    · by_cases e' : j = ms.length
      · subst e'
        simp only [List.getD_eq_getElem?_getD, List.getElem?_append_right (Nat.le_refl _), Nat.sub_self, List.getElem?_cons_zero, Option.getD_some] at hj
        rw [hlen]
        simp only [List.getD_eq_getElem?_getD, List.getElem?_append_right (Nat.le_refl _), Nat.sub_self, List.getElem?_cons_zero, Option.getD_some]
        obtain ⟨q, h1, h2⟩ := tb_orM hj
        refine mem_dd_of ?_
        rw [List.mem_append]
        rcases h2 with rfl | h2
        · exact .inl h1
        · right
          rw [List.mem_flatMap]
          exact ⟨q, h1, by simpa using h q i h2⟩
      · rw [List.getD_eq_getElem?_getD, List.getElem?_eq_none (by simp; omega)] at hj
        simp [tb_zero] at hj

/-- Of each two places that meet the first one is ahead of the second one, whatever the order. -/
def statT1 (b : TrM) (mj : Nat) : Nat → List TrM → Bool
  | _, [] => true
  | i, a :: l => (bif confM a b then tb mj i else true) && statT1 b mj (i + 1) l

def statT (ms : List Nat) (all : List TrM) : Nat → List TrM → Bool
  | _, [] => true
  | j, b :: l => statT1 b (ms.getD j 0) 0 (all.take j) && statT ms all (j + 1) l

def locals : List LOp → Bool
  | [] => true
  | ⟨_, .call ⟨.value _, _, _⟩, _⟩ :: l => locals l
  | ⟨_, op, _⟩ :: l => local1 op && locals l

theorem statT1_ok {b : TrM} {mj : Nat} : ∀ {l : List TrM} {i k : Nat} {a : TrM}, statT1 b mj i l = true → l[k]? = some a → confM a b = true → tb mj (i + k) = true
  | [], i, k, a, _, h, _ => by simp at h
  | a' :: l, i, k, a, hs, h, hc => by
    simp only [statT1, Bool.and_eq_true] at hs
    cases k with
    | zero =>
      simp only [List.getElem?_cons_zero, Option.some.injEq] at h
      subst h
      rw [hc] at hs
      exact hs.1
    | succ k =>
      have := statT1_ok hs.2 (by simpa using h) hc
      rwa [show i + 1 + k = i + (k + 1) by omega] at this

theorem statT_ok {ms : List Nat} {all : List TrM} : ∀ {l : List TrM} {j k i : Nat} {a b : TrM}, statT ms all j l = true → l[k]? = some b → all[i]? = some a → i < j + k → confM a b = true → tb (ms.getD (j + k) 0) i = true
  | [], j, k, i, a, b, _, h, _, _, _ => by simp at h
  | b' :: l, j, k, i, a, b, hs, hb, ha, hij, hc => by
    simp only [statT, Bool.and_eq_true] at hs
    cases k with
    | zero =>
      simp only [List.getElem?_cons_zero, Option.some.injEq] at hb
      subst hb
      have := statT1_ok hs.1 (k := i) (a := a) (by rw [List.getElem?_take]; simp [show i < j by omega, ha]) hc
      simpa using this
    | succ k =>
      have := statT_ok hs.2 (k := k) (by simpa using hb) ha (by omega) hc
      rwa [show j + 1 + k = j + (k + 1) by omega] at this

/-! ### What a run meets in memory -/
abbrev HAcc := List (Nat × List Nat × List Nat)

def meetsF (a b : List Nat) : Bool :=
  match a with
  | [] => false
  | x :: l => nmem x b || meetsF l b

theorem meetsF_eq : ∀ (a b : List Nat), meetsF a b = meets a b
  | [], b => rfl
  | x :: l, b => by
    simp only [meetsF, nmem_eq, meetsF_eq l b, meets, List.any_cons]

def okH1 (ms : List Nat) (e : Nat × List Nat × List Nat) : HAcc → Bool
  | [] => true
  | (i, hr, hw) :: l => (bif Nat.blt i e.1 then (bif meetsF hw e.2.1 || meetsF e.2.2 hr || meetsF hw e.2.2 then tb (ms.getD e.1 0) i else true) else true) && okH1 ms e l

def okH (ms : List Nat) (acc : HAcc) : HAcc → Bool
  | [] => true
  | e :: l => okH1 ms e acc && okH ms acc l

theorem okH1_ok {ms : List Nat} {e : Nat × List Nat × List Nat} : ∀ {acc : HAcc} {i : Nat} {hr hw : List Nat}, okH1 ms e acc = true → (i, hr, hw) ∈ acc → i < e.1 →
    (meets hw e.2.1 || meets e.2.2 hr || meets hw e.2.2) = true → tb (ms.getD e.1 0) i = true
  | [], _, _, _, _, h, _, _ => by simp at h
  | (i', hr', hw') :: l, i, hr, hw, hs, hm, hlt, hc => by
    simp only [okH1, Bool.and_eq_true] at hs
    rcases List.mem_cons.1 hm with h | h
    · cases h
      have h1 := hs.1
      have h2 : Nat.blt i' e.1 = true := by simpa [Nat.blt_eq] using hlt
      rw [h2, cond_true, meetsF_eq, meetsF_eq, meetsF_eq, hc, cond_true] at h1
      exact h1
    · exact okH1_ok hs.2 h hlt hc

theorem okH_ok {ms : List Nat} {acc : HAcc} : ∀ {l : HAcc} {e : Nat × List Nat × List Nat}, okH ms acc l = true → e ∈ l → okH1 ms e acc = true
  | [], _, _, h => by simp at h
  | e' :: l, e, hs, hm => by
    simp only [okH, Bool.and_eq_true] at hs
    rcases List.mem_cons.1 hm with rfl | h
    · exact hs.1
    · exact okH_ok hs.2 h

def pushA (i : Nat) (hr hw : List Nat) (acc : HAcc) : HAcc :=
  match hr, hw with
  | [], [] => acc
  | hr, hw => (i, hr, hw) :: acc

theorem mem_pushA {i : Nat} {hr hw : List Nat} {acc : HAcc} : ((hr = [] ∧ hw = []) ∨ (i, hr, hw) ∈ pushA i hr hw acc) ∧ ∀ e ∈ acc, e ∈ pushA i hr hw acc := by
  unfold pushA
  split
  · exact ⟨.inl ⟨rfl, rfl⟩, fun _ h => h⟩
  · exact ⟨.inr (by simp), fun _ h => List.mem_cons_of_mem _ h⟩

section
variable (T : Tab) (X : ExtF) (C : CallF) (W : Nat) (base : Nat)

def fdCall (d : Option Tmp) (z : Operand) (args : List Operand) (n i : Nat) (acc : HAcc) (st : St) : Option (HAcc × St) :=
  match calleeOf st z args with
  | some (f, xs) => match X f xs with
    | some r => some (acc, ⟨putσ st.σ d r, st.H, n + W⟩)
    | none => match C W f xs st.H n with
      | some (r, rd, U) => some (pushA i rd (namesU U) acc, ⟨putσ st.σ d r, U ++ st.H, n + W⟩)
      | none => none
  | none => none

def nmOK (hr : List Nat) (H : HL) (n base : Nat) : List Nat → Bool
  | [] => true
  | m :: l => (Nat.beq m n || Nat.blt m base || (nmem m hr && (hget H m).isSome)) && nmOK hr H n base l

def fdOp (d : Option Tmp) (f : St → Option Res) (h : St → List Nat) (n i : Nat) (acc : HAcc) (st : St) : Option (HAcc × St) :=
  match f ⟨st.σ, st.H, n⟩ with
  | some r => match h st with
    | hr => bif r.side && nmOK hr st.H n base (namesU r.U) then
      some (pushA i hr (namesU r.U) acc, ⟨putσ st.σ d r.x, r.U ++ st.H, n + W⟩) else none
  | none => none

/-- n: where the names of this place begin. -/
def fdStp : Stp → Nat → Nat → HAcc → St → Option (HAcc × St)
  | .op d f h, n, j, acc, st => fdOp W base d f h n j acc st
  | .call d z args, n, j, acc, st => fdCall X C W d z args n j acc st
  | .gop g want d f h, n, j, acc, st => match lget st.σ g with
    | some (.v (.bool b)) => bif b == want then fdOp W base d f h n j acc ⟨(g, .v (.bool want)) :: st.σ, st.H, st.nx⟩
      else some (acc, ⟨putσ ((g, .v (.bool (!want))) :: st.σ) d (.v undef), st.H, st.nx⟩)
    | some (.v (.tuple _)) => some (acc, ⟨putσ st.σ d (.v undef), st.H, st.nx⟩)
    | _ => none
  | .gcall g want d z args, n, j, acc, st => match lget st.σ g with
    | some (.v (.bool b)) => bif b == want then fdCall X C W d z args n j acc ⟨(g, .v (.bool want)) :: st.σ, st.H, st.nx⟩
      else some (acc, ⟨putσ ((g, .v (.bool (!want))) :: st.σ) d (.v undef), st.H, st.nx⟩)
    | some (.v (.tuple _)) => some (acc, ⟨putσ st.σ d (.v undef), st.H, st.nx⟩)
    | _ => none

noncomputable def fD (ms : List Nat) (l : List Stp) : Nat → Nat → HAcc → St → Option St :=
  List.rec (motive := fun _ => Nat → Nat → HAcc → St → Option St) (fun n _ acc st => bif okH ms acc acc then some ⟨st.σ, st.H, n⟩ else none)
    (fun s _ ih n i acc st => match fdStp X C W base s n i acc st with
      | some (acc', st') => ih (n + W) (i + 1) acc' st'
      | none => none) l
end

theorem optMem_eq (d : Option Tmp) (l : List Tmp) : optMem d l = meets d.toList l := by
  cases d with
  | none => rfl
  | some t => simp [optMem, nmem_eq, meets]

theorem confT_mono {a b : TrT} {a' b' : Tr} (ha : a'.d = a.d) (hb : b'.d = b.d) (ha' : ∀ t ∈ a'.rt, t ∈ a.rt) (hb' : ∀ t ∈ b'.rt, t ∈ b.rt)
    (h : (meets a'.d.toList b'.rt || meets b'.d.toList a'.rt || meets a'.d.toList b'.d.toList) = true) : confT a b = true := by
  have mono : ∀ (x y y' : List Nat), (∀ t ∈ y', t ∈ y) → meets x y' = true → meets x y = true := by
    intro x y y' hy hm
    unfold meets at hm ⊢
    rw [List.any_eq_true] at hm ⊢
    obtain ⟨t, h1, h2⟩ := hm
    exact ⟨t, h1, by simpa using hy t (by simpa using h2)⟩
  unfold confT
  rw [optMem_eq, optMem_eq, optMem_eq]
  simp only [Bool.or_eq_true] at h ⊢
  rw [ha, hb] at h
  rcases h with (h | h) | h
  · exact .inl (.inl (mono _ _ _ hb' h))
  · exact .inl (.inr (mono _ _ _ ha' h))
  · exact .inr h

/-- What exD has written down, beside what fD has. -/
structure TrOK (ops : List LOp) (i : Nat) (tr : List Tr) (acc : HAcc) : Prop where
  len : tr.length = i
  txt : ∀ k t, tr.reverse[k]? = some t → ∃ o, ops[k]? = some o ∧ t.d = o.d ∧ (∀ x ∈ t.rt, x ∈ (trT o).rt) ∧ ((t.hr = [] ∧ t.hw = []) ∨ (k, t.hr, t.hw) ∈ acc)

theorem TrOK.ordered {ops : List LOp} {i : Nat} {tr : List Tr} {acc : HAcc} {cls : List (List Nat)} {ms : List Nat} (hms : MsOK ms cls) (h : TrOK ops i tr acc) (hs : statT ms (ops.map fun o => trM (trT o)) 0 (ops.map fun o => trM (trT o)) = true) (ho : okH ms acc acc = true) : ordered cls tr.reverse = true := by
  unfold Ai.ordered
  rw [List.all_eq_true]
  rintro ⟨b, j⟩ hb
  rw [List.all_eq_true]
  rintro ⟨a, i'⟩ ha
  rw [List.mem_zipIdx_iff_getElem?] at ha hb
  by_cases hlt : i' < j
  · cases hc : conf a b with
    | false => simp [hc]
    | true =>
      have hmem : i' ∈ cls.getD j [] := by
        obtain ⟨oa, a1, a2, a3, a4⟩ := h.txt i' a ha
        obtain ⟨ob, b1, b2, b3, b4⟩ := h.txt j b hb
        have hc' : (meets a.d.toList b.rt || meets b.d.toList a.rt || meets a.d.toList b.d.toList) = true ∨ (meets a.hw b.hr || meets b.hw a.hr || meets a.hw b.hw) = true := by
          unfold conf at hc
          simp only [Bool.or_eq_true] at hc ⊢
          rcases hc with ((((h | h) | h) | h) | h) | h
          · exact .inl (.inl (.inl h))
          · exact .inl (.inl (.inr h))
          · exact .inl (.inr h)
          · exact .inr (.inl (.inl h))
          · exact .inr (.inl (.inr h))
          · exact .inr (.inr h)
        rcases hc' with hc' | hc'
        · have := statT_ok hs (k := j) (i := i') (a := trM (trT oa)) (b := trM (trT ob)) (by simp [b1]) (by simp [a1]) (by omega) (confM_of (confT_mono (a' := a) (b' := b) a2 b2 a3 b3 hc'))
          exact hms j i' (by simpa using this)
        · rcases a4 with ⟨e1, e2⟩ | a4
          · rw [e1, e2] at hc'
            have e0 : meets b.hw [] = false := by simp [meets]
            simp [meets, e0] at hc'
          · rcases b4 with ⟨e1, e2⟩ | b4
            · rw [e1, e2] at hc'
              have e0 : meets a.hw [] = false := by simp [meets]
              simp [meets, e0] at hc'
            · exact hms j i' (okH1_ok (okH_ok ho b4) a4 hlt hc')
      simp only [hlt, decide_true, Bool.not_true, Bool.false_or, Bool.or_eq_true]
      right
      simpa using hmem
  · simp [hlt]

theorem TrOK.push {ops : List LOp} {i : Nat} {tr : List Tr} {acc acc' : HAcc} (h : TrOK ops i tr acc) {o : LOp} (ho : ops[i]? = some o) {t : Tr} (hd : t.d = o.d) (hrt : ∀ x ∈ t.rt, x ∈ (trT o).rt)
    (hh : (t.hr = [] ∧ t.hw = []) ∨ (i, t.hr, t.hw) ∈ acc') (hacc : ∀ e ∈ acc, e ∈ acc') : TrOK ops (i + 1) (t :: tr) acc' := by
  refine ⟨by simp [h.len], ?_⟩
  intro k t' hk
  rw [List.reverse_cons] at hk
  by_cases e : k < tr.reverse.length
  · rw [List.getElem?_append_left e] at hk
    obtain ⟨o', h1, h2, h3, h4⟩ := h.txt k t' hk
    exact ⟨o', h1, h2, h3, h4.imp id (hacc _)⟩
  · have hlen : tr.reverse.length = i := by simp [h.len]
    rw [List.getElem?_append_right (by omega)] at hk
    have : k = i := by
      have : k - tr.reverse.length < 1 := by
        have := (List.getElem?_eq_some_iff.1 hk).1
        simpa using this
      omega
    subst this
    rw [hlen, Nat.sub_self] at hk
    simp only [List.getElem?_cons_zero, Option.some.injEq] at hk
    subst hk
    exact ⟨o, ho, hd, hrt, hh⟩

theorem nmOK_ok {hr : List Nat} {H : HL} {n base : Nat} : ∀ {l : List Nat}, nmOK hr H n base l = true → l.all (fun m => m == n || decide (m < base) || (hr.contains m && (hget H m).isSome)) = true
  | [], _ => rfl
  | m :: l, h => by
    simp only [nmOK, Bool.and_eq_true] at h
    rw [List.all_cons, Bool.and_eq_true]
    refine ⟨?_, nmOK_ok h.2⟩
    have h1 := h.1
    simp only [Bool.or_eq_true, Bool.and_eq_true, Nat.blt_eq, nmem_eq] at h1 ⊢
    rcases h1 with (h1 | h1) | h1
    · exact .inl (.inl (by simpa using Nat.eq_of_beq_eq_true h1))
    · exact .inl (.inr (by simpa using h1))
    · exact .inr h1

section
variable {T : Tab} {X : ExtF} {C C' : CallF} {W base : Nat}

theorem fdOp_ok {ops : List LOp} {cls : List (List Nat)} {d : Option Tmp} {op : Op} {g : Option (Tmp × Bool)} {gt : List Tmp} {i : Nat} {acc acc' : HAcc} {tr : List Tr} {st st' : St} (hop : ∀ z args ts, op ≠ .call ⟨.value z, args, ts⟩) (hl : local1 op = true)
    (ho : ops[i]? = some ⟨d, op, g⟩) (hgt : gt = gtOf g) (htr : TrOK ops i tr acc)
    (h : fdOp W base d (fun st => opStep T st op) (fun st => hreads st op) (base + i * W) i acc st = some (acc', st')) :
    ∃ t, exDO T X C' W d op gt base i st = some (t, st') ∧ TrOK ops (i + 1) (t :: tr) acc' := by
  unfold fdOp at h
  split at h
  · rename_i r hr
    dsimp only at h
    cases hb : r.side && nmOK (hreads st op) st.H (base + i * W) base (namesU r.U) with
    | false => rw [hb] at h; cases h
    | true =>
      rw [hb] at h
      simp only [cond_true, Option.some.injEq, Prod.mk.injEq] at h
      obtain ⟨rfl, rfl⟩ := h
      rw [Bool.and_eq_true] at hb
      have hn := nmOK_ok hb.2
      have hw : base + i * W + W = base + (i + 1) * W := by rw [Nat.succ_mul]; omega
      refine ⟨⟨d, gt ++ tmpsOf op.operands.toList, hreads st op, namesU r.U⟩, ?_, htr.push ho rfl ?_ mem_pushA.1 mem_pushA.2⟩
      · unfold exDO
        split
        · exact (hop _ _ _ rfl).elim
        · have hr' : opStep T ⟨st.σ, st.H, base + i * W⟩ op = some r := hr
          rw [hl, cond_true, hr']
          simp only [hb.1, hn, Bool.and_self, cond_true, hw]
      · subst hgt
        intro x hx
        simpa [trT] using hx
  · cases h

theorem fdCall_ok (hC : C.le C') {ops : List LOp} {d : Option Tmp} {z : Operand} {args : Array Operand} {ts : Array TypeId} {g : Option (Tmp × Bool)} {gt : List Tmp} {i : Nat} {acc acc' : HAcc} {tr : List Tr} {st st' : St}
    (ho : ops[i]? = some ⟨d, .call ⟨.value z, args, ts⟩, g⟩) (hgt : gt = gtOf g) (htr : TrOK ops i tr acc)
    (h : fdCall X C W d z args.toList (base + i * W) i acc st = some (acc', st')) :
    ∃ t, exDO T X C' W d (.call ⟨.value z, args, ts⟩) gt base i st = some (t, st') ∧ TrOK ops (i + 1) (t :: tr) acc' := by
  unfold fdCall at h
  have hw : base + i * W + W = base + (i + 1) * W := by rw [Nat.succ_mul]; omega
  have hrt : ∀ x ∈ gt ++ tmpsOf (Op.call ⟨.value z, args, ts⟩).operands.toList, x ∈ (trT ⟨d, .call ⟨.value z, args, ts⟩, g⟩).rt := by
    subst hgt
    intro x hx
    simpa [trT] using hx
  split at h
  · rename_i f xs hf
    split at h
    · rename_i r hr
      simp only [Option.some.injEq, Prod.mk.injEq] at h
      obtain ⟨rfl, rfl⟩ := h
      refine ⟨⟨d, gt ++ tmpsOf (Op.call ⟨.value z, args, ts⟩).operands.toList, [], []⟩, ?_, htr.push ho rfl hrt (.inl ⟨rfl, rfl⟩) (fun _ h => h)⟩
      unfold exDO
      simp only [hf, hr, hw]
    · rename_i hr
      split at h
      · rename_i r rd U hc
        simp only [Option.some.injEq, Prod.mk.injEq] at h
        obtain ⟨rfl, rfl⟩ := h
        refine ⟨⟨d, gt ++ tmpsOf (Op.call ⟨.value z, args, ts⟩).operands.toList, rd, namesU U⟩, ?_, htr.push ho rfl hrt mem_pushA.1 mem_pushA.2⟩
        unfold exDO
        simp only [hf, hr, hC _ _ _ _ _ _ hc, hw]
      · cases h
  · cases h

theorem locals_at : ∀ {l : List LOp} {i : Nat} {o : LOp}, locals l = true → l[i]? = some o → (∀ z args ts, o.op ≠ .call ⟨.value z, args, ts⟩) → local1 o.op = true
  | [], _, _, _, h, _ => by simp at h
  | o' :: l, i, o, hl, h, hop => by
    cases i with
    | zero =>
      simp only [List.getElem?_cons_zero, Option.some.injEq] at h
      subst h
      unfold locals at hl
      split at hl
      · rename_i heq; cases heq
      · rename_i z args ts g l' heq; cases heq; exact (hop _ _ _ rfl).elim
      · rename_i heq; cases heq; rw [Bool.and_eq_true] at hl; exact hl.1
    | succ i =>
      refine locals_at (l := l) (i := i) ?_ (by simpa using h) hop
      unfold locals at hl
      split at hl
      · rename_i heq; cases heq
      · rename_i heq; cases heq; exact hl
      · rename_i heq; cases heq; rw [Bool.and_eq_true] at hl; exact hl.2

theorem fD_le (hC : C.le C') {ops : List LOp} {cls : List (List Nat)} {ms : List Nat} (hms : MsOK ms cls) (hs : statT ms (ops.map fun o => trM (trT o)) 0 (ops.map fun o => trM (trT o)) = true) (hloc : locals ops = true) : ∀ (l : List LOp) (i : Nat) (acc : HAcc) (tr : List Tr) (st st' : St), ops.drop i = l → TrOK ops i tr acc →
    fD X C W base ms (l.map (stpD T)) (base + i * W) i acc st = some st' → exD T X C' W base cls i l tr st = some st'
  | [], i, acc, tr, st, st', _, htr, h => by
    have h' : (bif okH ms acc acc then some (⟨st.σ, st.H, base + i * W⟩ : St) else none) = some st' := h
    simp only [exD]
    cases ho : okH ms acc acc with
    | false => rw [ho] at h'; cases h'
    | true => rw [ho] at h'; rw [htr.ordered hms hs ho]; exact h'
  | o :: rest, i, acc, tr, st, st', hdrop, htr, h => by
    have hw : base + i * W + W = base + (i + 1) * W := by rw [Nat.succ_mul]; omega
    have h' : (match fdStp X C W base (stpD T o) (base + i * W) i acc st with | some (acc1, st1) => fD X C W base ms (rest.map (stpD T)) (base + i * W + W) (i + 1) acc1 st1 | none => none) = some st' := h
    clear h
    have ho : ops[i]? = some o := by
      have := congrArg (fun l : List LOp => l[0]?) hdrop
      simpa only [List.getElem?_drop, List.getElem?_cons_zero, Nat.add_zero] using this
    have hrest : ops.drop (i + 1) = rest := by rw [← List.drop_drop, hdrop]; rfl
    split at h'
    · rename_i acc1 st1 h1
      rw [hw] at h'
      obtain ⟨d, op, g⟩ := o
      simp only [exD]
      have skipT : ∀ (g : Tmp) (w : Bool), ops[i]? = some ⟨d, op, some (g, w)⟩ → TrOK ops (i + 1) (⟨d, [g], [], []⟩ :: tr) acc := fun g w hg =>
        htr.push hg rfl (by intro x hx; simp only [List.mem_singleton] at hx; subst hx; simp [trT, gtOf]) (.inl ⟨rfl, rfl⟩) (fun _ h => h)
      by_cases hop : ∃ z args ts, op = .call ⟨.value z, args, ts⟩
      · obtain ⟨z, args, ts, rfl⟩ := hop
        cases g with
        | none =>
          have h1' : fdCall X C W d z args.toList (base + i * W) i acc st = some (acc1, st1) := h1
          obtain ⟨t, g1, g2⟩ := fdCall_ok (T := T) (gt := []) hC ho rfl htr h1'
          simp only [g1]
          exact fD_le hC hms hs hloc rest (i + 1) acc1 _ st1 st' hrest g2 h'
        | some gw =>
          obtain ⟨g, w⟩ := gw
          have h1' : fdStp X C W base (.gcall g w d z args.toList) (base + i * W) i acc st = some (acc1, st1) := h1
          simp only [fdStp] at h1'
          split at h1'
          · rename_i b hb
            simp only [hb]
            cases hbw : b == w with
            | true =>
              rw [hbw] at h1'
              simp only [cond_true] at h1' ⊢
              obtain ⟨t, g1, g2⟩ := fdCall_ok (T := T) (gt := [g]) hC ho rfl htr h1'
              simp only [g1]
              exact fD_le hC hms hs hloc rest (i + 1) acc1 _ st1 st' hrest g2 h'
            | false =>
              rw [hbw] at h1'
              simp only [cond_false, Option.some.injEq, Prod.mk.injEq] at h1' ⊢
              obtain ⟨rfl, rfl⟩ := h1'
              exact fD_le hC hms hs hloc rest (i + 1) acc _ _ st' hrest (skipT g w ho) h'
          · rename_i vs hb
            simp only [hb]
            simp only [Option.some.injEq, Prod.mk.injEq] at h1'
            obtain ⟨rfl, rfl⟩ := h1'
            exact fD_le hC hms hs hloc rest (i + 1) acc _ _ st' hrest (skipT g w ho) h'
          · cases h1'
      · have hop' : ∀ z args ts, op ≠ .call ⟨.value z, args, ts⟩ := fun z args ts h => hop ⟨z, args, ts, h⟩
        have hl : local1 op = true := locals_at hloc ho hop'
        cases g with
        | none =>
          rw [stpD_op hop'] at h1
          simp only [fdStp] at h1
          obtain ⟨t, g1, g2⟩ := fdOp_ok (X := X) (C' := C') (cls := cls) (gt := []) hop' hl ho rfl htr h1
          simp only [g1]
          exact fD_le hC hms hs hloc rest (i + 1) acc1 _ st1 st' hrest g2 h'
        | some gw =>
          obtain ⟨g, w⟩ := gw
          rw [stpD_gop hop'] at h1
          simp only [fdStp] at h1
          split at h1
          · rename_i b hb
            simp only [hb]
            cases hbw : b == w with
            | true =>
              rw [hbw] at h1
              simp only [cond_true] at h1 ⊢
              obtain ⟨t, g1, g2⟩ := fdOp_ok (X := X) (C' := C') (cls := cls) (gt := [g]) hop' hl ho rfl htr h1
              simp only [g1]
              exact fD_le hC hms hs hloc rest (i + 1) acc1 _ st1 st' hrest g2 h'
            | false =>
              rw [hbw] at h1
              simp only [cond_false, Option.some.injEq, Prod.mk.injEq] at h1 ⊢
              obtain ⟨rfl, rfl⟩ := h1
              exact fD_le hC hms hs hloc rest (i + 1) acc _ _ st' hrest (skipT g w ho) h'
          · rename_i vs hb
            simp only [hb]
            simp only [Option.some.injEq, Prod.mk.injEq] at h1
            obtain ⟨rfl, rfl⟩ := h1
            exact fD_le hC hms hs hloc rest (i + 1) acc _ _ st' hrest (skipT g w ho) h'
          · cases h1
    · cases h'
end
#print axioms fD_le
end Go.Ai
