/- The executor: regions whose order is open. -/
import Derived.Test.YtgehagonolkhhaaGreatDoorAi14
namespace Go.Ai
open Go

section
variable (T : Tab) (X : ExtF) (C : CallF) (W : Nat)

def exDO (d : Option Tmp) (op : Op) (gt : List Tmp) (base i : Nat) (st : St) : Option (Tr × St) :=
  match op with
  | .call ⟨.value z, args, ts⟩ => match calleeOf st z args.toList with
    | some (f, xs) => match X f xs with
      | some r => some (⟨d, gt ++ tmpsOf (Op.call ⟨.value z, args, ts⟩).operands.toList, [], []⟩, ⟨putσ st.σ d r, st.H, base + (i + 1) * W⟩)
      | none => match C W f xs st.H (base + i * W) with
        | some (r, rd, U) => some (⟨d, gt ++ tmpsOf (Op.call ⟨.value z, args, ts⟩).operands.toList, rd, namesU U⟩, ⟨putσ st.σ d r, U ++ st.H, base + (i + 1) * W⟩)
        | none => none
    | none => none
  | op => bif local1 op then match opStep T ⟨st.σ, st.H, base + i * W⟩ op with
      | some r => bif r.side && (namesU r.U).all (fun m => m == base + i * W || decide (m < base) || ((hreads st op).contains m && (hget st.H m).isSome)) then
          some (⟨d, gt ++ tmpsOf op.operands.toList, hreads st op, namesU r.U⟩, ⟨putσ st.σ d r.x, r.U ++ st.H, base + (i + 1) * W⟩) else none
      | none => none
    else none

def exD (base : Nat) (cls : List (List Nat)) : Nat → List LOp → List Tr → St → Option St
  | i, [], tr, st => bif ordered cls tr.reverse then some ⟨st.σ, st.H, base + i * W⟩ else none
  | i, o :: rest, tr, st => match o.g with
    | none => match exDO T X C W o.d o.op [] base i st with
      | some (t, st') => exD base cls (i + 1) rest (t :: tr) st'
      | none => none
    | some (g, want) => match lget st.σ g with
      | some (.v (.bool b)) => bif b == want then match exDO T X C W o.d o.op [g] base i ⟨(g, .v (.bool want)) :: st.σ, st.H, st.nx⟩ with
          | some (t, st') => exD base cls (i + 1) rest (t :: tr) st'
          | none => none
        else exD base cls (i + 1) rest (⟨o.d, [g], [], []⟩ :: tr) ⟨putσ ((g, .v (.bool (!want))) :: st.σ) o.d (.v undef), st.H, st.nx⟩
      | some (.v (.tuple _)) => exD base cls (i + 1) rest (⟨o.d, [g], [], []⟩ :: tr) ⟨putσ st.σ o.d (.v undef), st.H, st.nx⟩
      | _ => none
end

theorem exDO_ok {P : Program} {T : Tab} {X : ExtF} {C : CallF} {W : Nat} (hX : X.OK P) (hC : C.OK P W) {o : LOp} {gt : List Tmp} {base i : Nat} {st st' : St} {t : Tr} (h : exDO T X C W o.d o.op gt base i st = some (t, st')) {K : Tr → St → Prop} (hK : K t st') :
    ldop W P T o gt base i K st := by
  obtain ⟨d, op, g⟩ := o
  unfold exDO at h
  unfold ldop
  dsimp only at h ⊢
  split at h
  · split at h
    · rename_i f xs hf
      simp only [hf]
      split at h
      · rename_i r hr
        cases h
        exact .inl ⟨r, .inr (hX _ _ _ hr), hK⟩
      · split at h
        · rename_i r rd U hr
          simp only [Option.some.injEq, Prod.mk.injEq] at h
          obtain ⟨rfl, rfl⟩ := h
          exact .inr ⟨r, rd, U, hC _ _ _ _ _ _ _ hr, hK⟩
        · cases h
    · cases h
  · cases hl : local1 op with
    | true =>
      simp only [hl, cond_true] at h
      split at h
      · rename_i r hr
        cases hs : (r.side && (namesU r.U).all (fun m => m == base + i * W || decide (m < base) || ((hreads st op).contains m && (hget st.H m).isSome))) with
        | true =>
          rw [hs] at h
          simp only [cond_true, Option.some.injEq, Prod.mk.injEq] at h
          obtain ⟨rfl, rfl⟩ := h
          rw [Bool.and_eq_true] at hs
          split
          · rename_i z args ts hne; exact (hne z args ts rfl).elim
          · rw [hr]; exact ⟨hl, hs.1, hs.2, hK⟩
        | false => rw [hs] at h; cases h
      · cases h
    | false => simp [hl] at h

theorem exD_ok {P : Program} {T : Tab} {X : ExtF} {C : CallF} {W : Nat} (hX : X.OK P) (hC : C.OK P W) {base : Nat} {cls : List (List Nat)} {K : St → Prop} : ∀ (l : List LOp) (i : Nat) (tr : List Tr) (st st' : St), exD T X C W base cls i l tr st = some st' → K st' →
    ldrun W P T base cls i l tr K st
  | [], i, tr, st, st', h, hK => by
    simp only [exD] at h
    cases ho : ordered cls tr.reverse with
    | true =>
      simp only [ho, cond_true, Option.some.injEq] at h
      subst h
      exact ⟨ho, hK⟩
    | false => simp [ho] at h
  | o :: rest, i, tr, st, st', h, hK => by
    simp only [exD] at h
    unfold ldrun
    split at h
    · rename_i hg
      simp only [hg]
      split at h
      · rename_i t st1 h1; exact exDO_ok hX hC h1 (exD_ok hX hC rest (i + 1) _ st1 st' h hK)
      · cases h
    · rename_i g want hg
      simp only [hg]
      split at h
      · rename_i b hb
        simp only [hb]
        cases hbw : b == want with
        | true =>
          simp only [hbw, cond_true] at h
          have e : b = want := by simpa using hbw
          subst e
          split at h
          · rename_i t st1 h1
            exact ⟨fun _ => exDO_ok hX hC h1 (exD_ok hX hC rest (i + 1) _ st1 st' h hK), fun e => by cases b <;> cases e⟩
          · cases h
        | false =>
          simp only [hbw, cond_false] at h
          have e : b ≠ want := by simpa using hbw
          exact ⟨fun e' => (e e').elim, fun _ => exD_ok hX hC rest (i + 1) _ _ st' h hK⟩
      · rename_i vs hb
        simp only [hb]
        exact exD_ok hX hC rest (i + 1) _ _ st' h hK
      · cases h
#print axioms exD_ok
end Go.Ai
