/- The executor over a program's own functions. -/
import Derived.Test.YtgehagonolkhhaaGreatDoorAi17
namespace Go.Ai
open Go

/-! ### Which temporaries a function reads in other regions than the one that writes them (nothing leans on it but the executor's size) -/
def bit (t : Nat) : Nat := Nat.shiftLeft 1 t
def mO (d m : Nat) : Operand → Nat
  | .tmp t => bif tb d t then m else Nat.lor m (bit t)
  | _ => m
def mOo (d m : Nat) : Option Operand → Nat
  | some o => mO d m o
  | none => m
def mOs (d : Nat) : List Operand → Nat → Nat
  | [], m => m
  | o :: l, m => mOs d l (mO d m o)
def mPs (d : Nat) : List (Nat × Operand) → Nat → Nat
  | [], m => m
  | o :: l, m => mPs d l (mO d m o.2)
def mOp (d m : Nat) : Op → Nat
  | .move x => mO d m x
  | .assign x => mO d m x
  | .pick c a b => mO d (mO d (mO d m c) a) b
  | .box _ v => mO d m v
  | .build _ ps => mPs d ps.toList m
  | .buildSlice _ _ ps => mPs d ps.toList m
  | .insert _ a b c => mO d (mO d (mO d m a) b) c
  | .load _ a => mO d m a
  | .store _ a b => mO d (mO d m a) b
  | .nilCheck x => mO d m x
  | .binOp _ _ x y _ => mO d (mO d m x) y
  | .unOp _ _ x => mO d m x
  | .convert _ _ x => mO d m x
  | .sliceToArrayPointer _ x => mO d m x
  | .makeInterface _ x => mO d m x
  | .makeFunc _ a b => mOs d b.toList (mOs d a.toList m)
  | .makeMap _ r => mOo d m r
  | .makeSlice _ a b => mO d (mO d m a) b
  | .slice _ x a b c => mOo d (mOo d (mOo d (mO d m x) a) b) c
  | .fieldAddr _ x _ => mO d m x
  | .field _ x _ => mO d m x
  | .indexAddr _ x y => mO d (mO d m x) y
  | .index _ x y => mO d (mO d m x) y
  | .lookup _ x y _ => mO d (mO d m x) y
  | .mapUpdate _ a b c => mO d (mO d (mO d m a) b) c
  | .mapEntry _ a b => mO d (mO d m a) b
  | .entryStore _ a b c => mO d (mO d (mO d m a) b) c
  | .range _ x => mO d m x
  | .next x _ => mO d m x
  | .entry x => mO d m x
  | .typeAssert x _ _ _ => mO d m x
  | .extract x _ => mO d m x
  | .call ⟨.value z, args, _⟩ => mOs d args.toList (mO d m z)
  | .call ⟨_, args, _⟩ => mOs d args.toList m
  | .panic x => mO d m x
  | _ => m
def mG (d m : Nat) : Option (Tmp × Bool) → Nat
  | some (t, _) => mO d m (.tmp t)
  | none => m
def mD (d : Nat) : Option Tmp → Nat
  | some t => Nat.lor d (bit t)
  | none => d
def mReg : List LOp → Nat → Nat → Nat
  | [], _, m => m
  | o :: l, d, m => mReg l (mD d o.d) (mG d (mOp d m o.op) o.g)
def mK (nt : Nat) : Code → Nat → Nat
  | .region _ ops _, m => match liteOps nt ops ops.toList with
    | some l => mReg l 0 m
    | none => m
  | .seq a b, m => mK nt b (mK nt a m)
  | .cond (.tmp t) a b, m => mK nt b (mK nt a (Nat.lor m (bit t)))
  | .cond _ a b, m => mK nt b (mK nt a m)
  | .block _ c, m => mK nt c m
  | .loop c, m => mK nt c m
  | .scope c, m => mK nt c m
  | _, m => m
def mRs : List ResultVar → Nat → Nat
  | [], m => m
  | .tmp t :: l, m => mRs l (Nat.lor m (bit t))
  | .cell t _ :: l, m => mRs l (Nat.lor m (bit t))

/-- A function as the executor takes it; the mask is given. -/
def fnX (P : Program) (f : FuncId) (mask : Nat) : Option FnX :=
  match P.funcs[f]? with
  | some fn => match fn.body with
    | some c => some ⟨fn.ntmps, mask, lite fn.ntmps c, fn.results.toList⟩
    | none => none
  | none => none

/-- The mask that serves. -/
def maskOf (P : Program) (f : FuncId) : Nat :=
  match P.funcs[f]? with
  | some fn => match fn.body with
    | some c => mK fn.ntmps c (mRs fn.results.toList 0)
    | none => 0
  | none => 0

def maskIn : List (Nat × Nat) → Nat → Option Nat
  | [], _ => none
  | p :: l, f => bif Nat.beq p.1 f then some p.2 else maskIn l f

def funX (P : Program) (l : List (Nat × Nat)) : FunX := fun f xs =>
  match maskIn l f with
  | some m => match fnX P f m with
    | some x => bif Nat.ble xs.length x.nt then some x else none
    | none => none
  | none => none

theorem funX_ok {P : Program} (l : List (Nat × Nat)) (hn : (P.funcs.toList.all fun fn => !(fn.name == "runtime.NumGoroutine")) = true) : (funX P l).OK P := by
  intro f xs x h
  unfold funX at h
  split at h
  · split at h
    · rename_i y hy
      cases hle : Nat.ble xs.length y.nt with
      | false => rw [hle] at h; cases h
      | true =>
        rw [hle] at h
        simp only [cond_true, Option.some.injEq] at h
        subst h
        unfold fnX at hy
        split at hy
        · rename_i fn hfn
          split at hy
          · rename_i c hc
            cases hy
            simp only [Nat.ble_eq] at hle
            have hm : fn ∈ P.funcs.toList := by
              have := Array.mem_of_getElem? hfn
              simpa using this
            have := List.all_eq_true.1 hn fn hm
            refine ⟨⟨fn, hfn, by rw [this, hc]; rfl⟩, fn, c, hfn, hc, by show fn.ntmps = _; omega, rfl, rfl⟩
          · cases hy
        · cases hy
    · cases h
  · cases h
#print axioms funX_ok
end Go.Ai
