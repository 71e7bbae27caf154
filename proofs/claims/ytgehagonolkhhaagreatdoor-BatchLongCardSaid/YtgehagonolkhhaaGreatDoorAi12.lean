/- A concrete executor: which blocks are reachable. -/
import Derived.Test.YtgehagonolkhhaaGreatDoorAi11
namespace Go.Ai
open Go

mutual
/-- The names that a value bears, put ahead of l. -/
def SV.nms : SV → List Nat → List Nat
  | .p n _, l => n :: l
  | .s _ n _ _ _, l => n :: l
  | .m n, l => n :: l
  | .agg xs, l => nmsL xs l
  | .tup xs, l => nmsL xs l
  | .clo _ a b, l => nmsL a (nmsL b l)
  | .any, l => l
  | .v _, l => l
  | .xs _ _ _, l => l
  | .pe _, l => l
def nmsL : List SV → List Nat → List Nat
  | [], l => l
  | x :: xs, l => x.nms (nmsL xs l)
end

mutual
theorem SV.nms_ok (D : Nat → Bool) : ∀ (x : SV) (l : List Nat), (∀ m ∈ x.nms l, D m = true) ↔ x.namesIn D = true ∧ ∀ m ∈ l, D m = true
  | .p n _, l => by simp [SV.nms, SV.namesIn]
  | .s _ n _ _ _, l => by simp [SV.nms, SV.namesIn]
  | .m n, l => by simp [SV.nms, SV.namesIn]
  | .agg xs, l => by simp only [SV.nms, SV.namesIn]; exact nmsL_ok D xs l
  | .tup xs, l => by simp only [SV.nms, SV.namesIn]; exact nmsL_ok D xs l
  | .clo _ a b, l => by
    simp only [SV.nms, SV.namesIn, Bool.and_eq_true]
    rw [nmsL_ok D a, nmsL_ok D b, and_assoc]
  | .any, l => by simp [SV.nms, SV.namesIn]
  | .v _, l => by simp [SV.nms, SV.namesIn]
  | .xs _ _ _, l => by simp [SV.nms, SV.namesIn]
  | .pe _, l => by simp [SV.nms, SV.namesIn]
theorem nmsL_ok (D : Nat → Bool) : ∀ (xs : List SV) (l : List Nat), (∀ m ∈ nmsL xs l, D m = true) ↔ namesInL D xs = true ∧ ∀ m ∈ l, D m = true
  | [], l => by simp [nmsL, namesInL]
  | x :: xs, l => by
    simp only [nmsL, namesInL, Bool.and_eq_true]
    rw [SV.nms_ok D x, nmsL_ok D xs, and_assoc]
end

def nmem (n : Nat) : List Nat → Bool
  | [] => false
  | m :: l => bif Nat.beq m n then true else nmem n l

theorem nmem_eq (n : Nat) : ∀ l : List Nat, nmem n l = l.contains n
  | [] => rfl
  | m :: l => by
    simp only [nmem, nmem_eq n l, List.contains_cons]
    cases h : Nat.beq m n with
    | true =>
      have := Nat.eq_of_beq_eq_true h
      subst this; simp
    | false =>
      have := Nat.ne_of_beq_eq_false h
      have h' : (n == m) = false := by simpa using Ne.symm this
      rw [h']; rfl

/-- What is reachable from todo, if it is all there. -/
def reach (H : HL) : Nat → List Nat → List Nat → Option (List Nat)
  | 0, _, _ => none
  | _ + 1, [], seen => some seen
  | k + 1, n :: todo, seen => bif nmem n seen then reach H k todo seen else match hget H n with
    | some b => reach H k (nmsL b.cells todo) (n :: seen)
    | none => none

theorem reach_ok {H : HL} : ∀ (k : Nat) (todo seen rd : List Nat), reach H k todo seen = some rd →
    (∀ n ∈ seen, ∃ b, hget H n = some b ∧ namesInL (fun m => seen.contains m || todo.contains m) b.cells = true) →
    (∀ n ∈ rd, ∃ b, hget H n = some b ∧ namesInL (fun m => rd.contains m) b.cells = true) ∧ (∀ n ∈ todo, n ∈ rd) ∧ (∀ n ∈ seen, n ∈ rd)
  | 0, _, _, _, h, _ => by simp [reach] at h
  | k + 1, [], seen, rd, h, hs => by
    simp only [reach, Option.some.injEq] at h
    subst h
    refine ⟨fun n hn => ?_, by simp, fun _ h => h⟩
    obtain ⟨b, h1, h2⟩ := hs n hn
    exact ⟨b, h1, by simpa using h2⟩
  | k + 1, n :: todo, seen, rd, h, hs => by
    simp only [reach, nmem_eq] at h
    have mono : ∀ (D D' : Nat → Bool) (l : List SV), (∀ m, D m = true → D' m = true) → namesInL D l = true → namesInL D' l = true := by
      intro D D' l hD hl
      have := (nmsL_ok D l []).2 ⟨hl, by simp⟩
      exact ((nmsL_ok D' l []).1 fun m hm => hD m (this m hm)).1
    cases hc : seen.contains n with
    | true =>
      simp only [hc, cond_true] at h
      obtain ⟨g1, g2, g3⟩ := reach_ok k todo seen rd h (fun m hm => by
        obtain ⟨b, h1, h2⟩ := hs m hm
        refine ⟨b, h1, mono _ _ _ (fun q hq => ?_) h2⟩
        simp only [List.contains_cons, Bool.or_eq_true, beq_iff_eq, List.contains_iff_mem] at hq ⊢
        rcases hq with hq | rfl | hq
        · exact .inl hq
        · left; simpa using hc
        · exact .inr hq)
      refine ⟨g1, fun m hm => ?_, g3⟩
      rcases List.mem_cons.1 hm with rfl | hm
      · exact g3 m (by simpa using hc)
      · exact g2 m hm
    | false =>
      simp only [hc, cond_false] at h
      split at h
      · rename_i b hb
        have hcell : ∀ (l : List Nat), namesInL (fun m => l.contains m || (nmsL b.cells todo).contains m) b.cells = true := by
          intro l
          refine ((nmsL_ok _ b.cells todo).1 fun m hm => ?_).1
          simp [hm]
        obtain ⟨g1, g2, g3⟩ := reach_ok k (nmsL b.cells todo) (n :: seen) rd h (fun m hm => by
          rcases List.mem_cons.1 hm with rfl | hm
          · exact ⟨b, hb, hcell _⟩
          · obtain ⟨b', h1, h2⟩ := hs m hm
            refine ⟨b', h1, mono _ _ _ (fun q hq => ?_) h2⟩
            simp only [List.contains_cons, Bool.or_eq_true, beq_iff_eq, List.contains_iff_mem] at hq ⊢
            rcases hq with hq | rfl | hq
            · exact .inl (.inr hq)
            · exact .inl (.inl rfl)
            · right
              have := (nmsL_ok (fun m => (nmsL b.cells todo).contains m) b.cells todo).1 (fun m hm => by simpa using hm)
              simpa using this.2 q hq)
        refine ⟨g1, fun m hm => ?_, fun m hm => g3 m (List.mem_cons_of_mem _ hm)⟩
        rcases List.mem_cons.1 hm with rfl | hm
        · exact g3 m (by simp)
        · refine g2 m ?_
          have := (nmsL_ok (fun m => (nmsL b.cells todo).contains m) b.cells todo).1 (fun m hm => by simpa using hm)
          simpa using this.2 m hm
      · cases h
#print axioms reach_ok
end Go.Ai
