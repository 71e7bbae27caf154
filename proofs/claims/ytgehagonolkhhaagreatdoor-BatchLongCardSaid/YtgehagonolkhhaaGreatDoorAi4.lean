/- One step of a symbolic run: what each operation gives, and that it does. -/
import Derived.Test.YtgehagonolkhhaaGreatDoorAi3
namespace Go.Ai
open Go

/-! ### Lists with keys -/
def lget {α : Type} : List (Nat × α) → Nat → Option α
  | [], _ => none
  | p :: l, t => bif Nat.beq p.1 t then some p.2 else lget l t
theorem cond_beq {α : Type} (k t : Nat) (a b : α) : (bif Nat.beq k t then a else b) = if k = t then a else b := by
  by_cases h : k = t
  · subst h; rw [Nat.beq_refl]; simp
  · have : Nat.beq k t = false := by
      cases e : Nat.beq k t with
      | false => rfl
      | true => exact (h (Nat.eq_of_beq_eq_true e)).elim
    rw [this]; simp [h]
theorem lget_nil {α : Type} (t : Nat) : lget ([] : List (Nat × α)) t = none := rfl
theorem lget_cons {α : Type} (k : Nat) (y : α) (l : List (Nat × α)) (t : Nat) : lget ((k, y) :: l) t = if k = t then some y else lget l t := cond_beq k t (some y) (lget l t)
def lset {α : Type} (l : List (Nat × α)) (t : Nat) (x : α) : List (Nat × α) := (t, x) :: l

theorem lget_lset {α : Type} (l : List (Nat × α)) (t : Nat) (x : α) (u : Nat) : lget (lset l t x) u = if u = t then some x else lget l u := by
  simp only [lset, lget_nil, lget_cons]; by_cases h : t = u <;> simp [h, eq_comm]

/-- A heap written out: the newest entry counts; a block may be gone. -/
abbrev HL := List (Nat × Option Blk)
def hget : HL → Nat → Option Blk
  | [], _ => none
  | p :: l, n => bif Nat.beq p.1 n then p.2 else hget l n
theorem hget_nil (n : Nat) : hget [] n = none := rfl
theorem hget_cons (k : Nat) (b : Option Blk) (l : HL) (n : Nat) : hget ((k, b) :: l) n = if k = n then b else hget l n := cond_beq k n b (hget l n)

theorem hset_eq (L : HL) (n : Nat) (b : Option Blk) : hget ((n, b) :: L) = Heap.set (hget L) n b := by
  funext m; simp only [hget_nil, hget_cons, Heap.set]; by_cases h : n = m <;> simp [h, eq_comm]

structure St where
  σ : List (Nat × SV)
  H : HL
  nx : Nat

abbrev St.ev (st : St) (z : Operand) : SV := Ai.ev (lget st.σ) z

structure Res where
  x : SV
  U : HL
  nx : Nat
  side : Bool

/-! ### Scalars -/
def cmpI (op : BinOp) (a b : Int) : Option Bool :=
  match op with
  | .eql => some (a == b)
  | .neq => some (a != b)
  | .lss => some (decide (a < b))
  | .leq => some (decide (a ≤ b))
  | .gtr => some (decide (a > b))
  | .geq => some (decide (a ≥ b))
  | _ => none

def arI (op : BinOp) (k : IntKind) (a b : Int) : Option (Value × Bool) :=
  match op with
  | .add => some (.int k (k.wrap (a + b)), true)
  | .sub => some (.int k (k.wrap (a - b)), true)
  | .mul => some (.int k (k.wrap (a * b)), true)
  | .quo => some (.int k (k.wrap (a.tdiv b)), decide (b ≠ 0))
  | .rem => some (.int k (a.tmod b), decide (b ≠ 0))
  | .and => some (.int k (k.wrap (BitVec.ofInt k.bits a &&& BitVec.ofInt k.bits b).toNat), true)
  | .or => some (.int k (k.wrap (BitVec.ofInt k.bits a ||| BitVec.ofInt k.bits b).toNat), true)
  | .xor => some (.int k (k.wrap (BitVec.ofInt k.bits a ^^^ BitVec.ofInt k.bits b).toNat), true)
  | .andNot => some (.int k (k.wrap (BitVec.ofInt k.bits a &&& ~~~ BitVec.ofInt k.bits b).toNat), true)
  | op => (cmpI op a b).map fun c => (.bool c, true)

def cmpS (op : BinOp) (x y : ByteArray) : Option Bool :=
  let eq := x.data.toList == y.data.toList
  let lt := Op.bytesLess x.data.toList y.data.toList
  match op with
  | .eql => some eq
  | .neq => some !eq
  | .lss => some lt
  | .leq => some (lt || eq)
  | .gtr => some !(lt || eq)
  | .geq => some !lt
  | _ => none

def shI (op : BinOp) (k : IntKind) (a b : Int) : Option (Value × Bool) :=
  match op with
  | .shl => some (.int k (k.wrap (a * 2 ^ min b.toNat k.bits)), decide (0 ≤ b))
  | .shr => some (.int k (a.fdiv (2 ^ min b.toNat k.bits)), decide (0 ≤ b))
  | _ => none

def isShift : BinOp → Bool
  | .shl | .shr => true
  | _ => false

/-- A binary operation on scalars: its value, under a condition. -/
def scal (T : Tab) (op : BinOp) (t : TypeId) (x y : Value) : Option (Value × Bool) :=
  match x, y with
  | .int k a, .int k' b => if isShift op then shI op k a b else if k = k' then arI op k a b else none
  | .string a, .string b => if op = .add then some (.string (a ++ b), decide (a.size + b.size ≤ 4611686018427387904)) else (cmpS op a b).map fun c => (.bool c, true)
  | .bool a, .bool b => match (T t).map (·.d), op with
    | some TD.bool, .eql => some (.bool (a == b), true)
    | some TD.bool, .neq => some (.bool (!(a == b)), true)
    | _, _ => none
  | _, _ => none

section
variable {P : Program}

theorem run_shift {op : BinOp} {k k' : IntKind} {a b : Int} {v : Value} {s : Bool} (h : shI op k a b = some (v, s)) (hs : s = true) (w : World) (t : TypeId) : (binOp op t (.int k a) (.int k' b)).run P w = .ok v w := by
  cases op <;> simp only [shI, Option.some.injEq, Prod.mk.injEq] at h <;> first
    | (obtain ⟨rfl, rfl⟩ := h; simp [binOp, Op.shift, Int.not_lt.2 (of_decide_eq_true hs)])
    | cases h

theorem run_arI {op : BinOp} {k : IntKind} {a b : Int} {v : Value} {s : Bool} (h : arI op k a b = some (v, s)) (hs : s = true) (w : World) (t : TypeId) (ho : isShift op = false) : (binOp op t (.int k a) (.int k b)).run P w = .ok v w := by
  cases op <;> simp only [arI, cmpI, Option.map_some, Option.map_none, Option.some.injEq, Prod.mk.injEq, isShift] at h ho <;> first
    | (obtain ⟨rfl, rfl⟩ := h; simp_all [binOp, Op.intArith, Op.intDiv, Op.intBits, Op.intCmp])
    | cases h
    | cases ho

theorem run_scal {T : Tab} (hT : T.OK P) {op : BinOp} {t : TypeId} {x y : Value} {v : Value} {s : Bool} (h : scal T op t x y = some (v, s)) (hs : s = true) (w : World) : (binOp op t x y).run P w = .ok v w := by
  unfold scal at h
  split at h
  · rename_i k a k' b
    split at h
    · exact run_shift h hs w t
    · rename_i hsh
      split at h
      · rename_i hk; subst hk; exact run_arI h hs w t (by simpa using hsh)
      · cases h
  · rename_i a b
    split at h
    · rename_i ho
      subst ho
      simp only [Option.some.injEq, Prod.mk.injEq] at h
      obtain ⟨rfl, rfl⟩ := h
      have hs := of_decide_eq_true hs
      have hm : IntKind.i64.max = 9223372036854775807 := by decide
      have hs' : ¬ ((a.size + b.size : Nat) : Int) > IntKind.i64.max := by rw [hm]; omega
      simp only [binOp, Op.stringOp, hs', if_false]
      rfl
    · cases op <;> simp only [cmpS, Option.map_some, Option.map_none, Option.some.injEq, Prod.mk.injEq] at h <;> first
        | (obtain ⟨rfl, rfl⟩ := h; simp [binOp, Op.stringOp, ByteArray.toList_eq])
        | cases h
  · rename_i a b
    split at h
    · rename_i h1
      simp only [Option.some.injEq, Prod.mk.injEq] at h
      obtain ⟨rfl, rfl⟩ := h
      cases hT' : T t with
      | none => simp [hT'] at h1
      | some i =>
        have hd : i.d = .bool := by simpa [hT'] using h1
        simp [binOp, run_equal_bool w t a b (under_bool (hT t i hT') hd)]
    · rename_i h1
      simp only [Option.some.injEq, Prod.mk.injEq] at h
      obtain ⟨rfl, rfl⟩ := h
      cases hT' : T t with
      | none => simp [hT'] at h1
      | some i =>
        have hd : i.d = .bool := by simpa [hT'] using h1
        simp [binOp, run_equal_bool w t a b (under_bool (hT t i hT') hd)]
    · cases h
  · cases h

/-- A scalar is no aggregate, and no nil. -/
theorem run_guard {op : BinOp} {t : TypeId} {x y : Operand} {a b : Value} (w : World) (h1 : a.oneCell' = true) (h2 : a ≠ .nilIface) :
    (eqGuard op t x y a b).run P w = .ok () w := by
  unfold eqGuard
  cases a <;> first
    | (exact (h2 rfl).elim)
    | (simp [Value.oneCell'] at h1; done)
    | (split <;> (cases b <;> simp))

theorem scal_guard {T : Tab} {op : BinOp} {t : TypeId} {x y : Value} {r : Value × Bool} (h : scal T op t x y = some r) : x.oneCell' = true ∧ x ≠ .nilIface := by
  unfold scal at h
  split at h <;> first
    | exact ⟨rfl, by simp⟩
    | cases h
end

def unI (op : UnOp) (x : Value) : Option Value :=
  match op, x with
  | .neg, .int k n => some (.int k (k.wrap (0 - n)))
  | .xor, .int k n => some (.int k (k.wrap (BitVec.ofInt k.bits (if k.signed then -1 else k.max) ^^^ BitVec.ofInt k.bits n).toNat))
  | .not, .bool b => some (.bool !b)
  | _, _ => none

theorem run_unI {P : Program} {op : UnOp} {x v : Value} (h : unI op x = some v) (w : World) : (Op.unary op x).run P w = .ok v w := by
  unfold unI at h
  split at h <;> first
    | (cases h; simp [Op.unary, Op.intArith, Op.intBits]; done)
    | cases h


#print axioms run_unI
end Go.Ai
