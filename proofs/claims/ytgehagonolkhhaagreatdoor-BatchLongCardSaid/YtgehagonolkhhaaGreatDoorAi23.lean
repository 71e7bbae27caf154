/- A state may be told with less: blocks that nobody will write any more are given up. -/
import Derived.Test.YtgehagonolkhhaaGreatDoorAi22
namespace Go.Ai
open Go

def Kept (H : HL) (n : Nat) : Bool := (hget H n).isSome

theorem Wk.frz {st st' : St} (k : Nat) (hnx : st.nx ≤ st'.nx)
    (hσ : ∀ t y, lget st'.σ t = some y → ∃ x, lget st.σ t = some x ∧ Frz st.H (Kept st'.H) k (Kept st'.H) x y)
    (hH : ∀ n b, hget st'.H n = some b → ∃ b₀, hget st.H n = some b₀ ∧ b₀.ty = b.ty ∧ b₀.mp = b.mp ∧ FrzP (Frz st.H (Kept st'.H) k (Kept st'.H)) b₀.cells b.cells) : Wk st st' := by
  intro B a w hm
  obtain ⟨E, hc, hfr, hp, hdf⟩ := hm
  let K : Nat → Bool := Kept st'.H
  let F := E.frz st.H K K
  let E' : Env := ⟨fun n => match B.E.ι n with | some k => some k | none => F.ι n, F.I⟩
  have hFE : ∀ n b, F.ι n = some b → E.ι n = some b := by
    intro n b hb; simp only [F, Env.frz] at hb; split at hb
    · exact hb
    · cases hb
  have hle : Le F w E' w := by
    refine .of_ι ?_ (fun _ h => h)
    intro n b hb
    simp only [E']
    cases hEn : B.E.ι n with
    | none => simpa [hEn] using hb
    | some k' =>
      have h1 := hp.ι n k' hEn
      have h2 := hFE n b hb
      rw [h1] at h2; simpa [hEn] using h2
  have hE'E : ∀ n b, E'.ι n = some b → E.ι n = some b := by
    intro n b hb
    simp only [E'] at hb
    cases hEn : B.E.ι n with
    | none => rw [hEn] at hb; exact hFE n b hb
    | some k' => rw [hEn] at hb; cases hb; exact hp.ι n _ hEn
  have hin : ∀ n, hget st'.H n ≠ none → hget st.H n ≠ none := by
    intro n hn
    cases e : hget st'.H n with
    | none => exact (hn e).elim
    | some b => obtain ⟨b₀, h1, _⟩ := hH n b e; simp [h1]
  have hK : ∀ n, K n = true ↔ hget st'.H n ≠ none := by
    intro n; simp only [K, Kept]; cases hget st'.H n <;> simp
  have hnone : ∀ n, st'.nx ≤ n → E'.ι n = none := by
    intro n hn
    cases e : E'.ι n with
    | none => rfl
    | some b => have := hE'E n b e; rw [hfr n (Nat.le_trans hnx hn)] at this; cases this
  refine ⟨E', ⟨hc.tab, ?_, ⟨?_, ?_⟩, ⟨?_, ?_⟩, hnone _ (Nat.le_refl _)⟩, hnone, ⟨?_, ?_, hp.out, ?_, ?_⟩, hdf⟩
  · intro t y hy
    obtain ⟨x, h1, h2⟩ := hσ t y hy
    obtain ⟨h3, h4⟩ := hc.fr t x h1
    exact ⟨h3, RelV.le hle y _ (frz_ok hc.hp k _ x y _ h4 h2)⟩
  · intro n b hn
    obtain ⟨b₀, h1, h2, h2', h3⟩ := hH n b hn
    obtain ⟨k', cs, e1, e2, e3, e3', e4⟩ := hc.hp.blk n b₀ h1
    have hn' : hget st'.H n ≠ none := by simp [hn]
    refine ⟨k', cs, ?_, ?_, e3, by simpa only [ObjIs, h2, h2'] using e3', ?_⟩
    · exact hle.ι n k' (by simp only [F, Env.frz, (hK n).2 hn', if_true]; exact e1)
    · rintro (hI | ⟨m, hm, hm', hmk⟩)
      · exact e2 hI
      · have := hc.hp.inj n m k' (by simp [h1]) hm' e1 hmk
        subst this
        rw [(hK n).2 hn'] at hm; cases hm
    · exact RelC.le hle _ _ _ rfl (frzP_cells (frz_ok hc.hp k _) e4 h3)
  · intro n m k' hn hm hnk hmk
    exact hc.hp.inj n m k' (hin n hn) (hin m hm) (hE'E n k' hnk) (hE'E m k' hmk)
  · rintro k' (hI | ⟨m, _, _, hmk⟩)
    · exact hc.en.I k' hI
    · exact hc.en.ι m k' hmk
  · intro n k' hk; exact hc.en.ι n k' (hE'E n k' hk)
  · intro n b hb; simp [E', hb]
  · intro n hn; exact .inl (hp.I n hn)
  · rintro k' (hI | ⟨m, _, hm', hmk⟩)
    · exact hp.newI k' hI
    · exact .inr (hp.newι m k' hm' hmk)
  · intro n k' hn hk; exact hp.newι n k' (hin n hn) (hE'E n k' hk)

#print axioms Wk.frz
end Go.Ai
