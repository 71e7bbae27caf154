/- The executor: regions. -/
import Derived.Test.YtgehagonolkhhaaGreatDoorAi13
namespace Go.Ai
open Go

/-- How a call is carried out: the blocks it may meet, its result, what it leaves. -/
abbrev CallF := Nat → FuncId → List SV → HL → Nat → Option (SV × List Nat × HL)

/-- Functions without a body. -/
abbrev ExtF := FuncId → List SV → Option SV
def ExtF.OK (P : Program) (X : ExtF) : Prop := ∀ f xs r, X f xs = some r → ExtP P f xs r
def CallF.OK (P : Program) (W : Nat) (C : CallF) : Prop := ∀ f xs H nx r rd U, C W f xs H nx = some (r, rd, U) → CallH W P H nx f xs r rd U

section
variable (T : Tab) (X : ExtF) (C : CallF) (W : Nat)

def exO (d : Option Tmp) (op : Op) (st : St) : Option St :=
  match op with
  | .call ⟨.value z, args, _⟩ => match calleeOf st z args.toList with
    | some (f, xs) => match X f xs with
      | some r => some ⟨putσ st.σ d r, st.H, st.nx⟩
      | none => match C W f xs st.H st.nx with
        | some (r, _, U) => some ⟨putσ st.σ d r, U ++ st.H, st.nx + W⟩
        | none => none
    | none => none
  | op => match opStep T st op with
    | some r => bif r.side then some ⟨putσ st.σ d r.x, r.U ++ st.H, r.nx⟩ else none
    | none => none

def exL : List LOp → St → Option St
  | [], st => some st
  | o :: rest, st => match o.g with
    | none => match exO T X C W o.d o.op st with
      | some st' => exL rest st'
      | none => none
    | some (g, want) => match lget st.σ g with
      | some (.v (.bool b)) => bif b == want then match exO T X C W o.d o.op ⟨(g, .v (.bool want)) :: st.σ, st.H, st.nx⟩ with
          | some st' => exL rest st'
          | none => none
        else exL rest ⟨putσ ((g, .v (.bool (!want))) :: st.σ) o.d (.v undef), st.H, st.nx⟩
      | some (.v (.tuple _)) => exL rest ⟨putσ st.σ o.d (.v undef), st.H, st.nx⟩
      | _ => none
end

/-- A call over the blocks it meets, at a call where the order is fixed. -/
theorem CallH.ok {P : Program} {W : Nat} {H : HL} {nx : Nat} {f : FuncId} {xs : List SV} {r : SV} {rd : List Nat} {U : HL} (h : CallH W P H nx f xs r rd U) : CallOK P H nx f xs r (U ++ H) (nx + W) := by
  have hlive : ∀ n, live H rd n = true ↔ Heap.part (hget H) rd n ≠ none := by
    intro n
    simp only [live, Heap.part, Bool.and_eq_true, List.contains_iff_mem]
    by_cases h : n ∈ rd
    · simp only [h, true_and, if_true]; cases hget H n <;> simp
    · simp [h]
  have hU : ∀ n, hget (U ++ H) n ≠ none → hget H n ≠ none ∨ (nx ≤ n ∧ n < nx + W) := by
    intro n hn
    rw [hget_append] at hn
    by_cases hu : n ∈ namesU U
    · rcases h.names n hu with h1 | h1
      · left
        simp only [live, Bool.and_eq_true] at h1
        intro e; rw [e] at h1; simp at h1
      · exact .inr h1
    · simp only [hu, if_false] at hn; exact .inl hn
  refine ⟨?_, Nat.le_add_right _ _, hU⟩
  intro E w vals hargs hHp hE hfr
  have hHp' : HeapOK E w (Heap.part (hget H) rd) := by
    refine ⟨fun n b hn => ?_, fun n m k hn hm => hHp.inj n m k ?_ ?_⟩
    · simp only [Heap.part] at hn; split at hn
      · exact hHp.blk n b hn
      · cases hn
    · simp only [Heap.part] at hn; split at hn
      · exact hn
      · exact (hn rfl).elim
    · simp only [Heap.part] at hm; split at hm
      · exact hm
      · exact (hm rfl).elim
  have hnew : ∀ n, Heap.over (Heap.part (hget H) rd) U n ≠ none → Heap.part (hget H) rd n = none → E.ι n = none := by
    intro n hn hn'
    simp only [Heap.over] at hn
    split at hn
    · rename_i hu
      rcases h.names n hu with h1 | h1
      · exact absurd hn' ((hlive n).1 h1)
      · exact hfr n h1.1
    · exact (hn hn').elim
  refine (h.sat.wide (live H rd) hlive h.args ?_ hnew hargs hHp' hE).mono ?_
  · intro n b hn
    have : n ∈ rd := by
      simp only [Heap.part] at hn; split at hn
      · assumption
      · cases hn
    exact h.cells n this b (by simpa [Heap.part, this] using hn)
  · rintro e w' ⟨v, E', rfl, hpost, hx⟩
    refine ⟨v, E', rfl, ?_, hx⟩
    have hfr' := frame_rule (R := fun n => if n ∈ rd then none else hget H n) (by intro n hn; simp only [Heap.part] at hn; split at hn <;> simp_all) (by rw [part_or]; exact hHp) hE hpost
    rw [part_or] at hfr'
    have : Heap.or (Heap.over (Heap.part (hget H) rd) U) (fun n => if n ∈ rd then none else hget H n) = hget (U ++ H) := by
      funext n
      rw [hget_append]
      simp only [Heap.or, Heap.over]
      by_cases hu : n ∈ namesU U
      · simp only [hu, if_true]
        cases hq : hget U n with
        | some b => rfl
        | none =>
          by_cases hr : n ∈ rd
          · simp [hr]
          · simp only [hr, if_false]
            rcases h.names n hu with h1 | h1
            · simp [live, hr] at h1
            · have := hfr n h1.1
              cases hb : hget H n with
              | none => rfl
              | some b => obtain ⟨k, _, g1, _⟩ := hHp.blk n b hb; rw [this] at g1; cases g1
      · simp only [hu, if_false, Heap.part]
        by_cases hr : n ∈ rd
        · simp only [hr, if_true]; cases hget H n <;> rfl
        · simp [hr]
    rw [this] at hfr'
    exact hfr'

theorem exO_ok {P : Program} {T : Tab} {X : ExtF} {C : CallF} {W : Nat} (hX : X.OK P) (hC : C.OK P W) {d : Option Tmp} {op : Op} {st st' : St} (h : exO T X C W d op st = some st') {K : St → Prop} (hK : K st') : lop P T op d K st := by
  unfold exO at h
  unfold lop
  split at h
  · split at h
    · rename_i f xs hf
      simp only [hf]
      split at h
      · rename_i r hr
        cases h
        exact ⟨r, st.H, st.nx, .inr ⟨hX _ _ _ hr, rfl, rfl⟩, hK⟩
      · split at h
        · rename_i r rd U hr
          cases h
          have := hC _ _ _ _ _ _ _ hr
          exact ⟨r, U ++ st.H, st.nx + W, .inl ⟨this.body, this.ok⟩, hK⟩
        · cases h
    · cases h
  · split at h
    · rename_i r hr
      cases hs : r.side with
      | true =>
        simp only [hs, cond_true, Option.some.injEq] at h
        subst h
        split
        · rename_i z args ts hne; exact (hne z args ts rfl).elim
        · rw [hr]; exact ⟨hs, hK⟩
      | false => simp [hs] at h
    · cases h

theorem exL_ok {P : Program} {T : Tab} {X : ExtF} {C : CallF} {W : Nat} (hX : X.OK P) (hC : C.OK P W) {K : St → Prop} : ∀ (l : List LOp) (st st' : St), exL T X C W l st = some st' → K st' → lrun P T l K st
  | [], st, st', h, hK => by
    simp only [exL, Option.some.injEq] at h
    subst h
    unfold lrun; exact hK
  | o :: rest, st, st', h, hK => by
    simp only [exL] at h
    unfold lrun
    split at h
    · rename_i hg
      simp only [hg]
      split at h
      · rename_i st1 h1; exact exO_ok hX hC h1 (exL_ok hX hC rest st1 st' h hK)
      · cases h
    · rename_i g want hg
      simp only [hg]
      split at h
      · rename_i b hb
        simp only [hb]
        cases hbw : b == want with
        | true =>
          simp only [hbw, cond_true] at h
          have e : b = want := by simpa using hbw
          subst e
          split at h
          · rename_i st1 h1
            exact ⟨fun _ => exO_ok hX hC h1 (exL_ok hX hC rest st1 st' h hK), fun e => by cases b <;> cases e⟩
          · cases h
        | false =>
          simp only [hbw, cond_false] at h
          have e : b ≠ want := by simpa using hbw
          exact ⟨fun e' => (e e').elim, fun _ => exL_ok hX hC rest _ st' h hK⟩
      · rename_i vs hb
        simp only [hb]
        exact exL_ok hX hC rest _ st' h hK
      · cases h
#print axioms exL_ok
end Go.Ai
