/- Steps on slices: cut, cap, copy, clear; min and max. -/
import Derived.Test.YtgehagonolkhhaaGreatDoorAi7c
import Derived.Laws.Slices
namespace Go.Ai
open Go

theorem relE_drop {w : World} {E : Env} {sz b : Nat} : ∀ {l : List (List SV)} {off : Nat} (n : Nat), RelE w E l b off sz → RelE w E (l.drop n) b (off + n * sz) sz
  | _, _, 0, h => by simpa using h
  | [], _, n + 1, _ => by simp [RelE]
  | e :: l, off, n + 1, h => by
    simp only [RelE] at h
    have := relE_drop n h.2.2
    rw [show off + (n + 1) * sz = off + sz + n * sz by rw [Nat.add_mul]; omega]
    simpa using this

theorem relE_take {w : World} {E : Env} {sz b : Nat} : ∀ {l : List (List SV)} {off : Nat} (n : Nat), RelE w E l b off sz → RelE w E (l.take n) b off sz
  | _, _, 0, _ => by simp [RelE]
  | [], _, n + 1, _ => by simp [RelE]
  | e :: l, off, n + 1, h => by
    simp only [RelE] at h
    simp only [List.take_succ_cons, RelE]
    exact ⟨h.1, h.2.1, relE_take n h.2.2⟩

theorem relC_size {w : World} {E : Env} {l : List SV} {k : Nat} {cs : Array Value} {t : TypeId} {fz : Nat × Nat} (h : RelC w E l k 0) (hk : w.heap[k]? = some (.cells cs t fz)) : l.length ≤ cs.size := by
  obtain ⟨ws, q1, q2⟩ := RelC_iff.1 h
  have qlen := q1.length
  rcases Nat.eq_zero_or_pos l.length with hz | hp
  · omega
  · have := q2 (ws.length - 1) (ws[ws.length - 1]'(by omega)) (List.getElem?_eq_getElem (by omega))
    simp only [World.cell?, hk] at this
    have := (Array.getElem?_eq_some_iff.1 (by simpa using this)).1
    omega

section
variable {P : Program} {T : Tab} {st : St}

def bndOf (st : St) (z : Option Operand) (d : Int) : Option Int :=
  match z with
  | none => some d
  | some z => match st.ev z with
    | .v (.int _ i) => some i
    | _ => none

theorem bndOf_ok {E : Env} {a : Act} {w : World} (hc : FrOK E w (lget st.σ) a.tmps) {z : Option Operand} {d i : Int} (h : bndOf st z d = some i) :
    (z = none ∧ i = d) ∨ ∃ y k, z = some y ∧ a.eval y = .int k i := by
  unfold bndOf at h
  split at h
  · cases h; exact .inl ⟨rfl, rfl⟩
  · rename_i y
    split at h
    · rename_i k j hz
      cases h
      have h1 := ev_ok hc y
      rw [show Ai.ev (lget st.σ) y = _ from hz] at h1
      simp only [RelV] at h1
      exact .inr ⟨y, k, rfl, h1⟩
    · cases h

/-- The bounds are right. -/
theorem run_bounds {E : Env} {a : Act} {w : World} (hc : FrOK E w (lget st.σ) a.tmps) {isS : Bool} {len cap : Nat} {lo hi mx : Option Operand} {l h m : Int}
    (hl : bndOf st lo 0 = some l) (hh : bndOf st hi len = some h) (hm : bndOf st mx cap = some m) (hx : mx = none ∨ hi ≠ none) (h0 : 0 ≤ l) (h1 : l ≤ h) (h2 : h ≤ m) (h3 : m ≤ cap) :
    (Instr.sliceBounds isS len cap (lo.map a.eval) (hi.map a.eval) (mx.map a.eval)).run P w = .ok (l.toNat, h.toNat, m.toNat) w := by
  have em : (m.toNat : Int) = m := Int.toNat_of_nonneg (by omega)
  have eh : (h.toNat : Int) = h := Int.toNat_of_nonneg (by omega)
  rcases bndOf_ok hc hm with ⟨rfl, rfl⟩ | ⟨ym, km, rfl, em'⟩
  · rcases bndOf_ok hc hh with ⟨rfl, rfl⟩ | ⟨yh, kh, rfl, eh'⟩
    · rcases bndOf_ok hc hl with ⟨rfl, rfl⟩ | ⟨yl, kl, rfl, el'⟩
      · simp [Instr.sliceBounds]
      · simp [Instr.sliceBounds, el', Instr.sliceBound, asIntOf, h0, h1]
    · rcases bndOf_ok hc hl with ⟨rfl, rfl⟩ | ⟨yl, kl, rfl, el'⟩
      · simp [Instr.sliceBounds, eh', Instr.sliceBound, asIntOf, h1, h2]
      · simp [Instr.sliceBounds, eh', el', Instr.sliceBound, asIntOf, h0, h1, h2, eh, (by omega : 0 ≤ h)]
  · rcases bndOf_ok hc hh with ⟨rfl, rfl⟩ | ⟨yh, kh, rfl, eh'⟩
    · simp at hx
    · rcases bndOf_ok hc hl with ⟨rfl, rfl⟩ | ⟨yl, kl, rfl, el'⟩
      · simp [Instr.sliceBounds, em', eh', Instr.sliceBound, asIntOf, h1, h2, h3, em, (by omega : 0 ≤ m)]
      · simp [Instr.sliceBounds, em', eh', el', Instr.sliceBound, asIntOf, h0, h1, h2, h3, eh, em, (by omega : 0 ≤ m), (by omega : 0 ≤ h)]

/-- A slice cut out of a slice, an array or a string. -/
def stSlice (T : Tab) (st : St) (t : TypeId) (x : Operand) (lo hi mx : Option Operand) : Option Res :=
  match T t, bndOf st lo 0 with
  | some ⟨_, _, _, .slice e⟩, some l => match T e with
    | some ie => match st.ev x with
      | .s z n off len cap => match bndOf st hi len, bndOf st mx (cap.getD len) with
        | some h, some m => okRes st (.s z n (off + l.toNat * z) (h - l).toNat (match mx, cap with
            | none, none => none
            | _, _ => some (m - l).toNat)) (z = ie.size ∧ 0 ≤ l ∧ l ≤ h ∧ h ≤ m ∧ m ≤ (cap.getD len : Nat) ∧ (mx = none ∨ hi ≠ none))
        | _, _ => none
      | .xs z cap xs => match mx, bndOf st hi xs.length with
        | none, some h => okRes st (.xs z (cap.map (· - l.toNat)) ((xs.drop l.toNat).take (h - l).toNat)) (z = ie.size ∧ 0 ≤ l ∧ l ≤ h ∧ h ≤ (xs.length : Nat))
        | _, _ => none
      | .v (.slice none 0 0) => match mx, bndOf st hi 0 with
        | none, some h => okRes st (.v (.slice none 0 0)) (l = 0 ∧ h = 0)
        | _, _ => none
      | _ => none
    | none => none
  | some ⟨_, _, _, .string⟩, some l => match st.ev x, mx with
    | .v (.string s), none => match bndOf st hi s.size with
      | some h => okRes st (.v (.string (s.extract l.toNat h.toNat))) (0 ≤ l ∧ l ≤ h ∧ h ≤ (s.size : Nat))
      | none => none
    | _, _ => none
  | some ⟨_, _, _, .array N e⟩, some l => match T e with
    | some ie => match st.ev x with
      | .p n off => match bndOf st hi N, bndOf st mx N, blkOf st.H (st.ev x) with
        | some h, some m, some ⟨_, bc, none⟩ => okRes st (.s ie.size n (off + l.toNat * ie.size) (h - l).toNat (some (m - l).toNat))
            (0 ≤ l ∧ l ≤ h ∧ h ≤ m ∧ m ≤ (N : Nat) ∧ (mx = none ∨ hi ≠ none) ∧ off + N * ie.size ≤ bc.length)
        | _, _, _ => none
      | _ => none
    | none => none
  | _, _ => none

theorem mul_sub_le {a b c : Nat} (h : a ≤ b) : a * c + (b - a) * c = b * c := by
  rw [← Nat.add_mul]; congr 1; omega

theorem st_slice {t : TypeId} {x : Operand} {lo hi mx : Option Operand} {r : Res} (hr : stSlice T st t x lo hi mx = some r) : StepOK P T st (.slice t x lo hi mx) r := by
  unfold stSlice at hr
  split at hr
  · rename_i s1 s2 s3 e l hit hl
    split at hr
    · rename_i ie hie
      split at hr
      · rename_i z n off len cap hx
        split at hr
        · rename_i h m hh hm
          refine .pure hr fun E a w o hc he hs => ?_
          obtain ⟨rfl, g0, g1, g2, g3, gx⟩ := hs
          have hx1 := ev_ok hc.fr x
          rw [show Ai.ev (lget st.σ) x = _ from hx] at hx1
          simp only [RelV] at hx1
          obtain ⟨b, o', c, e1, hx1, e2, e3, e4, e5⟩ := hx1
          have hcap : cap.getD len ≤ c := by
            cases cap with
            | none => simpa using e3
            | some k => have := e4 k rfl; simp [this]
          -- the capacity that counts
          obtain ⟨m', hm', hmm, hmc⟩ : ∃ m' : Int, bndOf st mx c = some m' ∧ m ≤ m' ∧ m' ≤ c ∧ ((mx = none ∧ cap = none) ∨ m' = m) := by
            cases mx with
            | none =>
              simp only [bndOf, Option.some.injEq] at hm
              refine ⟨c, rfl, by omega, Int.le_refl _, ?_⟩
              cases cap with
              | none => exact .inl ⟨rfl, rfl⟩
              | some k => right; have := e4 k rfl; simp at hm; omega
            | some y => exact ⟨m, by simpa [bndOf] using hm, Int.le_refl _, by omega, .inr rfl⟩
          obtain ⟨hmc, hmr⟩ := hmc
          have hb := run_bounds (P := P) (isS := true) (cap := c) hc.fr hl hh hm' gx g0 g1 (by omega) hmc
          have hu := under_slice (hc.tab t _ hit) rfl
          refine ⟨.slice (if m'.toNat = l.toNat then some ⟨b, o', none⟩ else some ⟨b, o' + l.toNat * ie.size, none⟩) (h.toNat - l.toNat) (m'.toNat - l.toNat), ?_, ?_⟩
          · simp only [execOp, he, Instr.sliceAt, Sem.run_bind, run_underlying hu, Result.andThen_ok, Instr.slice, hx1, hb, run_sizeOf_ti (hc.tab e ie hie), Sem.run_pure, Option.map_some, Addr.add_mid]
          · simp only [RelV]
            have e5' : HasRoom w b (off + l.toNat * ie.size + (m'.toNat - l.toNat) * ie.size) := by
              obtain ⟨cs, ty, fz, r1, r2⟩ := e5
              refine ⟨cs, ty, fz, r1, ?_⟩
              have := mul_sub_le (a := l.toNat) (b := m'.toNat) (c := ie.size) (by omega)
              have : m'.toNat * ie.size ≤ c * ie.size := Nat.mul_le_mul_right _ (by omega)
              omega
            have hlen : h.toNat - l.toNat = (h - l).toNat := by omega
            have hcapR : ∀ k, (match mx, cap with | none, none => none | _, _ => some (m - l).toNat) = some k → m'.toNat - l.toNat = k := by
              intro k hk
              rcases hmr with ⟨rfl, rfl⟩ | rfl
              · simp at hk
              · split at hk
                · cases hk
                · simp only [Option.some.injEq] at hk; omega
            by_cases hml : m'.toNat = l.toNat
            · simp only [hml, if_true]
              refine ⟨b, o', _, e1, by rw [hlen], .inl (by omega), by omega, fun k hk => by have := hcapR k hk; omega, ?_⟩
              rw [hml] at e5'; exact e5'
            · simp only [hml, if_false]
              refine ⟨b, _, _, e1, by rw [hlen], .inr ?_, by omega, hcapR, e5'⟩
              rcases e2 with e2 | rfl
              · omega
              · rfl
        · cases hr
      · rename_i z cap xs hx
        split at hr
        · rename_i h hh
          refine .pure hr fun E a w o hc he hs => ?_
          obtain ⟨rfl, g0, g1, g2⟩ := hs
          have hx1 := ev_ok hc.fr x
          rw [show Ai.ev (lget st.σ) x = _ from hx] at hx1
          simp only [RelV] at hx1
          obtain ⟨b, c, hx1, e3, e4, e5⟩ := hx1
          have hb := run_bounds (P := P) (isS := true) (cap := c) (mx := none) (m := c) hc.fr hl hh rfl (.inl rfl) g0 g1 (by omega) (Int.le_refl _)
          have hu := under_slice (hc.tab t _ hit) rfl
          have hlen : h.toNat - l.toNat = ((xs.drop l.toNat).take (h - l).toNat).length := by simp; omega
          refine ⟨.slice (if c = l.toNat then b else b.map (·.add (l.toNat * ie.size))) (h.toNat - l.toNat) (c - l.toNat), ?_, ?_⟩
          · simp only [Option.map_none, Int.toNat_natCast] at hb
            simp only [execOp, he, Instr.sliceAt, Sem.run_bind, run_underlying hu, Result.andThen_ok, Instr.slice, hx1, Option.map_none, hb, run_sizeOf_ti (hc.tab e ie hie), Sem.run_pure]
          · simp only [RelV]
            refine ⟨_, c - l.toNat, by rw [hlen], by omega, fun k hk => ?_, ?_⟩
            · cases cap with
              | none => cases hk
              | some q => have := e4 q rfl; simp at hk; omega
            · by_cases hz : (xs.drop l.toNat).take (h - l).toNat = []
              · exact .inl hz
              · have hcl : ¬ c = l.toNat := by
                  intro e'
                  apply hz
                  have : (h - l).toNat = 0 := by omega
                  rw [this]; simp
                rcases e5 with rfl | ⟨b', off, rfl, hI, hro, e5⟩
                · simp at hz
                · right
                  simp only [hcl, if_false, Option.map_some, Addr.add_mid]
                  refine ⟨b', off + l.toNat * ie.size, rfl, hI, ?_, ?_⟩
                  · obtain ⟨cs, ty, fz, r1, r2⟩ := hro
                    refine ⟨cs, ty, fz, r1, ?_⟩
                    have := mul_sub_le (a := l.toNat) (b := c) (c := ie.size) (by omega)
                    omega
                  · exact relE_take _ (relE_drop _ e5)
        · cases hr
      · rename_i hx
        split at hr
        · rename_i h hh
          refine .pure hr fun E a w o hc he hs => ?_
          obtain ⟨rfl, rfl⟩ := hs
          have hx1 := ev_ok hc.fr x
          rw [show Ai.ev (lget st.σ) x = _ from hx] at hx1
          simp only [RelV] at hx1
          have hb := run_bounds (P := P) (isS := true) (len := 0) (cap := 0) (mx := none) (m := 0) hc.fr hl hh rfl (.inl rfl) (by omega) (by omega) (by omega) (by omega)
          have hu := under_slice (hc.tab t _ hit) rfl
          refine ⟨.slice none 0 0, ?_, by simp [RelV]⟩
          simp only [Option.map_none, Int.toNat_zero] at hb
          simp only [execOp, he, Instr.sliceAt, Sem.run_bind, run_underlying hu, Result.andThen_ok, Instr.slice, hx1, Option.map_none, hb, run_sizeOf_ti (hc.tab e ie hie), Sem.run_pure]
          rfl
        · cases hr
      · cases hr
    · cases hr
  · rename_i s1 s2 s3 l hit hl
    split at hr
    · rename_i s hx
      split at hr
      · rename_i h hh
        refine .pure hr fun E a w o hc he hs => ?_
        obtain ⟨g0, g1, g2⟩ := hs
        have hx1 := ev_ok hc.fr x
        rw [show Ai.ev (lget st.σ) x = _ from hx] at hx1
        simp only [RelV] at hx1
        have hb := run_bounds (P := P) (isS := false) (len := s.size) (cap := s.size) (mx := none) (m := s.size) hc.fr hl hh rfl (.inl rfl) g0 g1 g2 (Int.le_refl _)
        have hu := under_string (hc.tab t _ hit) rfl
        refine ⟨.string (s.extract l.toNat h.toNat), ?_, by simp [RelV]⟩
        simp only [Option.map_none] at hb
        simp [execOp, he, Instr.sliceAt, run_underlying hu, Instr.slice, hx1, hb]
      · cases hr
    · cases hr
  · rename_i s1 s2 s3 N e l hit hl
    split at hr
    · rename_i ie hie
      split at hr
      · rename_i n off hx
        split at hr
        · rename_i h m bt bc hh hm hblk
          rw [hx] at hblk; simp only [blkOf] at hblk
          refine .pure hr fun E a w o hc he hs => ?_
          obtain ⟨g0, g1, g2, g3, gx, g4⟩ := hs
          have hx1 := ev_ok hc.fr x
          rw [show Ai.ev (lget st.σ) x = _ from hx] at hx1
          simp only [RelV] at hx1
          obtain ⟨b, e1, hx1⟩ := hx1
          obtain ⟨k', cs, f1, f2, f3⟩ := blk_cells hc.hp hblk rfl
          rw [e1] at f1; cases f1
          have hb := run_bounds (P := P) (isS := false) (len := N) (cap := N) hc.fr hl hh hm gx g0 g1 g2 g3
          have hu := under_array (hc.tab t _ hit) rfl
          have hroom : HasRoom w b (off + l.toNat * ie.size + (m.toNat - l.toNat) * ie.size) := by
            refine ⟨cs, bt, (0, 0), f2, ?_⟩
            have := relC_size f3 f2
            have := mul_sub_le (a := l.toNat) (b := m.toNat) (c := ie.size) (by omega)
            have : m.toNat * ie.size ≤ N * ie.size := Nat.mul_le_mul_right _ (by omega)
            simp only at *
            omega
          refine ⟨.slice (some (if m.toNat = l.toNat then ⟨b, off, none⟩ else ⟨b, off + l.toNat * ie.size, none⟩)) (h.toNat - l.toNat) (m.toNat - l.toNat), ?_, ?_⟩
          · simp only [execOp, he, Instr.sliceAt, Sem.run_bind, run_underlying hu, Result.andThen_ok, hx1, Instr.sureAddr, hb, run_sizeOf_ti (hc.tab e ie hie), Sem.run_pure, Addr.add_mid]
          · simp only [RelV]
            have hlen : h.toNat - l.toNat = (h - l).toNat := by omega
            by_cases hml : m.toNat = l.toNat
            · simp only [hml, if_true]
              refine ⟨b, off, _, e1, by rw [hlen], .inl (by omega), by omega, fun k hk => by simp at hk; omega, ?_⟩
              rw [hml] at hroom; exact hroom
            · simp only [hml, if_false]
              exact ⟨b, _, _, e1, by rw [hlen], .inr rfl, by omega, fun k hk => by simp at hk; omega, hroom⟩
        · cases hr
      · cases hr
    · cases hr
  · cases hr
end
#print axioms st_slice
end Go.Ai
