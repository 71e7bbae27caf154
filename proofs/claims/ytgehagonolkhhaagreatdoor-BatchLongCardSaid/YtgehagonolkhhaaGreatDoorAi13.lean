/- The executor: what is kept at a function's end. -/
import Derived.Test.YtgehagonolkhhaaGreatDoorAi12
namespace Go.Ai
open Go

/-- Names that are not in K are forgotten. -/
def scrub (K : Nat → Bool) : Nat → SV → SV
  | 0, x => x
  | k + 1, x => bif x.namesIn K then x else match k, x with
    | k' + 1, .agg l => .agg (l.map (scrub K (k' + 1)))
    | k' + 1, .tup l => .tup (l.map (scrub K (k' + 1)))
    | _, _ => .any

theorem frzP_map {R : SV → SV → Prop} {g : SV → SV} (h : ∀ x, R x (g x)) : ∀ l : List SV, FrzP R l (l.map g)
  | [] => by simp [FrzP]
  | x :: l => by simp only [List.map_cons, FrzP]; exact ⟨h x, frzP_map h l⟩

theorem scrub_frz {H : HL} {K₀ K : Nat → Bool} : ∀ (k : Nat) (x : SV), Frz H K₀ (k + 1) K x (scrub K (k + 1) x)
  | 0, x => by
    unfold scrub
    cases hn : x.namesIn K with
    | true => simp only [cond_true, Frz]; exact .inl ⟨trivial, hn⟩
    | false => simp only [cond_false, Frz]; exact .inr trivial
  | k + 1, x => by
    unfold scrub
    cases hn : x.namesIn K with
    | true => simp only [cond_true]; unfold Frz; exact .inl ⟨rfl, hn⟩
    | false =>
      simp only [cond_false]
      unfold Frz
      right
      cases x with
      | agg l => exact ⟨by simp, frzP_map (scrub_frz k) l⟩
      | tup l => exact ⟨by simp, frzP_map (scrub_frz k) l⟩
      | _ => trivial
#print axioms scrub_frz
end Go.Ai
