/- The executor: functions without a body. -/
import Derived.Test.YtgehagonolkhhaaGreatDoorAi18
import Derived.Laws.Externs
namespace Go.Ai
open Go

def sub64Entry : Array Value → Sem Value := fun args => do
  let (x, y, b) ← Extern.MathBitsCarry.three "Sub64" args
  pure (Extern.MathBitsCarry.pair ((x + Extern.MathBitsCarry.m64 - y - b) % Extern.MathBitsCarry.m64) (if x < y + b then 1 else 0))

inductive EK where
  | add64 | sub64 | same

def EK.entry : EK → Array Value → Sem Value
  | .add64 => add64Entry
  | .sub64 => sub64Entry
  | .same => Extern.AbiNoEscape.same

def u64v (n : Nat) : SV := .v (.int .u64 (Int.ofNat n))

def EK.model : EK → List SV → Option SV
  | .add64, [.v (.int _ x), .v (.int _ y), .v (.int _ (.ofNat c))] => bif Nat.ble c 1 then
      match x.toNat + y.toNat + c with
      | s => some (.tup [u64v (s % 18446744073709551616), u64v (s / 18446744073709551616)])
    else none
  | .sub64, [.v (.int _ x), .v (.int _ y), .v (.int _ (.ofNat c))] => bif Nat.ble c 1 then
      some (.tup [u64v ((x.toNat + 18446744073709551616 - y.toNat - c) % 18446744073709551616), u64v (bif Nat.blt x.toNat (y.toNat + c) then 1 else 0)])
    else none
  | .same, [x] => some x
  | _, _ => none

theorem EK.model_ok {P : Program} : ∀ {k : EK} {xs : List SV} {r : SV}, k.model xs = some r → ∀ (E : Env) (w : World) (vals : Array Value), RelL w E xs vals.toList → ∃ v, (k.entry vals).run P w = .ok v w ∧ RelV w E r v := by
  intro k xs r h E w vals hr
  unfold EK.model at h
  split at h
  · rename_i kx x ky y kc c
    cases hc : Nat.ble c 1 with
    | false => rw [hc] at h; cases h
    | true =>
      rw [hc] at h
      simp only [cond_true, Option.some.injEq] at h
      subst h
      simp only [Nat.ble_eq] at hc
      simp only [RelL, RelV] at hr
      obtain ⟨_, _, hv, rfl, _, _, rfl, rfl, _, _, rfl, rfl, rfl⟩ := hr
      have hv' : vals = #[.int kx x, .int ky y, .int kc (.ofNat c)] := by rw [← Array.toArray_toList (xs := vals), hv]
      subst hv'
      refine ⟨Extern.MathBitsCarry.pair ((x.toNat + y.toNat + c) % 18446744073709551616) ((x.toNat + y.toNat + c) / 18446744073709551616), ?_, ?_⟩
      · have : c = 0 ∨ c = 1 := by omega
        rcases this with rfl | rfl <;> rfl
      · simp only [RelV, RelL, u64v, Extern.MathBitsCarry.pair]
        exact ⟨_, rfl, _, _, rfl, rfl, _, _, rfl, rfl, rfl⟩
  · rename_i kx x ky y kc c
    cases hc : Nat.ble c 1 with
    | false => rw [hc] at h; cases h
    | true =>
      rw [hc] at h
      simp only [cond_true, Option.some.injEq] at h
      subst h
      simp only [Nat.ble_eq] at hc
      simp only [RelL, RelV] at hr
      obtain ⟨_, _, hv, rfl, _, _, rfl, rfl, _, _, rfl, rfl, rfl⟩ := hr
      have hv' : vals = #[.int kx x, .int ky y, .int kc (.ofNat c)] := by rw [← Array.toArray_toList (xs := vals), hv]
      subst hv'
      refine ⟨Extern.MathBitsCarry.pair ((x.toNat + 18446744073709551616 - y.toNat - c) % 18446744073709551616) (if x.toNat < y.toNat + c then 1 else 0), ?_, ?_⟩
      · have : c = 0 ∨ c = 1 := by omega
        rcases this with rfl | rfl <;> rfl
      · simp only [RelV, RelL, u64v, Extern.MathBitsCarry.pair]
        refine ⟨_, rfl, _, _, rfl, rfl, _, _, ?_, rfl, rfl⟩
        by_cases hlt : x.toNat < y.toNat + c
        · have : Nat.blt x.toNat (y.toNat + c) = true := by simpa [Nat.blt_eq] using hlt
          rw [this]; simp [hlt]
        · have : Nat.blt x.toNat (y.toNat + c) = false := by
            rw [Bool.eq_false_iff]; intro h; exact hlt (by simpa [Nat.blt_eq] using h)
          rw [this]; simp [hlt]
  · rename_i x
    cases h
    simp only [RelL] at hr
    obtain ⟨v, _, hv, hx, rfl⟩ := hr
    have hv' : vals = #[v] := by rw [← Array.toArray_toList (xs := vals), hv]
    subst hv'
    exact ⟨v, rfl, hx⟩
  · cases h

def CallsExt (P : Program) (f : FuncId) (k : EK) : Prop := ∀ (args : Array Value) (w : World), (callFunc f args).run P w = ((k.entry args).run P w).andThen fun v w' => .ok (.value v) w'

def ekOf : List (Nat × EK) → Nat → Option EK
  | [], _ => none
  | (g, k) :: l, f => bif Nat.beq g f then some k else ekOf l f

def extX (l : List (Nat × EK)) : ExtF := fun f xs => match ekOf l f with
  | some k => k.model xs
  | none => none

theorem ekOf_mem : ∀ {l : List (Nat × EK)} {f : Nat} {k : EK}, ekOf l f = some k → (f, k) ∈ l
  | [], f, k, h => by simp [ekOf] at h
  | (g, j) :: l, f, k, h => by
    simp only [ekOf] at h
    cases hb : Nat.beq g f with
    | true =>
      rw [hb] at h
      have := Nat.eq_of_beq_eq_true hb
      subst this
      cases h; simp
    | false => rw [hb] at h; exact List.mem_cons_of_mem _ (ekOf_mem h)

theorem extX_ok {P : Program} {l : List (Nat × EK)} (hl : ∀ p ∈ l, CallsExt P p.1 p.2) : (extX l).OK P := by
  intro f xs r h
  unfold extX at h
  split at h
  · rename_i k hk
    intro E w vals hr
    obtain ⟨v, h1, h2⟩ := EK.model_ok h E w vals hr
    exact ⟨v, by rw [hl _ (ekOf_mem hk), h1]; rfl, h2⟩
  · cases h

/-- A run from no arguments that answers true and leaves nothing. -/
def runsTrue (P : Program) (T : Tab) (X : ExtF) (F : FunX) (N d : Nat) (f : FuncId) : Bool :=
  match exF T X F N d (2 ^ (20 * d)) f [] [] 0 with
  | some (.v (.bool true), _, []) => true
  | _ => false

theorem sat_of_runs {P : Program} {T : Tab} {X : ExtF} {F : FunX} {N d : Nat} {f : FuncId} (hT : T.OK P) (hmo : P.follows .mixedOrders = true)
    (hX : X.OK P) (hF : F.OK P) (h : runsTrue P T X F N d f = true) : CallP P f [] (.v (.bool true)) := by
  unfold runsTrue at h
  split at h
  · rename_i rd hr
    have := (exF_ok hT hmo hX hF d _ _ _ _ _ _ _ _ hr).sat
    have hnil : ∀ rd', Heap.part (hget []) rd' = hget [] := by
      intro rd'; funext n; simp [Heap.part, hget_nil, hget_cons]
    have hov : ∀ H : Heap, Heap.over H [] = H := by
      intro H; funext n; simp [Heap.over, namesU]
    rw [hov, hnil] at this
    exact .of_sat this (by simp [namesInL])
  · cases h
#print axioms sat_of_runs
end Go.Ai
