/- The executor in a form that the kernel runs fast: operations are looked at once, not at each run. -/
import Derived.Test.YtgehagonolkhhaaGreatDoorAi19
namespace Go.Ai
open Go

/-! ### Operations -/
def mkB {α : Type} (T : Tab) (k : (St → Option Res) → α) (ts : Array TypeId) (args : Array Operand) : Builtin → α
  | .len => k fun st => stLen2 T st ts args
  | .cap => k fun st => stCap T st ts args
  | .append => k fun st => match stAppend T st ts args with
    | some r => some r
    | none => stAppendZ T st ts args
  | .copy => k fun st => stCopy T st ts args
  | b => k fun st => stBuiltin T st b ts args

theorem mkB_eq {α : Type} (T : Tab) (k : (St → Option Res) → α) (ts : Array TypeId) (args : Array Operand) (b : Builtin) : mkB T k ts args b = k fun st => stBuiltin T st b ts args := by
  cases b <;> rfl

def mkF {α : Type} (T : Tab) (k : (St → Option Res) → α) : Op → α
  | .move z => k fun st => okRes st (st.ev z) True
  | .assign z => k fun st => okRes st (st.ev z) True
  | .pick c a b => k fun st => stPick st c a b
  | .alloc t => k fun st => stAlloc T st t
  | .box t z => k fun st => stBox st t z
  | .build t parts => k fun st => stBuild T st t parts
  | .load t z => k fun st => stLoad T st t z
  | .store t z y => k fun st => stStore T st t z y
  | .nilCheck z => k fun st => stNil st z
  | .binOp op t x y _ => k fun st => stBin2 T st op t x y
  | .unOp op _ x => k fun st => stUn st op x
  | .convert s t x => k fun st => stConv2 T st s t x
  | .makeFunc fn first cap => k fun st => okRes st (.clo fn (first.toList.map st.ev) (cap.toList.map st.ev)) True
  | .fieldAddr t z f => k fun st => stField T st t z f
  | .field t z f => k fun st => stFieldV T st t z f
  | .indexAddr t z i => k fun st => stIndexAddr T st t z i
  | .index t z i => k fun st => stIndex T st t z i
  | .extract x i => k fun st => stExtract st x i
  | .buildSlice t n parts => k fun st => stBuildSlice T st t n parts
  | .makeSlice t l c => k fun st => stMake T st t l c
  | .slice t x lo hi mx => k fun st => stSlice T st t x lo hi mx
  | .makeMap t r => k fun st => stMakeMap T st t r
  | .lookup t x i ok => k fun st => stLookup T st t x i ok
  | .mapUpdate t m i x => k fun st => stMapUpdate T st t m i x
  | .insert t m i x => k fun st => stMapUpdate T st t m i x
  | .call ⟨.builtin b, args, ts⟩ => mkB T k ts args b
  | _ => k fun _ => none

theorem mkF_eq {α : Type} (T : Tab) (k : (St → Option Res) → α) (op : Op) : mkF T k op = k fun st => opStep T st op := by
  cases op <;> try rfl
  rename_i c
  obtain ⟨callee, args, ts⟩ := c
  cases callee <;> try rfl
  exact mkB_eq T k ts args _

def mkH {α : Type} (k : (St → List Nat) → α) : Op → α
  | .load _ z => k fun st => match st.ev z with | .p n _ => [n] | _ => []
  | .store _ z _ => k fun st => match st.ev z with | .p n _ => [n] | _ => []
  | .slice _ x _ _ _ => k fun st => (st.ev x).top
  | .lookup _ x _ _ => k fun st => (st.ev x).top
  | .mapUpdate _ m _ _ => k fun st => (st.ev m).top
  | .insert _ m _ _ => k fun st => (st.ev m).top
  | .convert _ _ x => k fun st => (st.ev x).top
  | .binOp _ _ x y _ => k fun st => (st.ev x).top ++ (st.ev y).top
  | .call ⟨.builtin _, args, _⟩ => k fun st => args.toList.flatMap fun x => (st.ev x).top
  | _ => k fun _ => []

theorem mkH_eq {α : Type} (k : (St → List Nat) → α) (op : Op) : mkH k op = k fun st => hreads st op := by
  cases op <;> try rfl
  rename_i c
  obtain ⟨callee, args, ts⟩ := c
  cases callee <;> rfl

inductive Stp where
  | op (d : Option Tmp) (f : St → Option Res) (h : St → List Nat)
  | call (d : Option Tmp) (z : Operand) (args : List Operand)
  | gop (g : Tmp) (want : Bool) (d : Option Tmp) (f : St → Option Res) (h : St → List Nat)
  | gcall (g : Tmp) (want : Bool) (d : Option Tmp) (z : Operand) (args : List Operand)

/-- A step, for regions whose order is fixed (what is read does not count there). -/
def stpL (T : Tab) : LOp → Stp
  | ⟨d, .call ⟨.value z, args, _⟩, none⟩ => .call d z args.toList
  | ⟨d, .call ⟨.value z, args, _⟩, some (g, w)⟩ => .gcall g w d z args.toList
  | ⟨d, op, none⟩ => mkF T (fun f => .op d f fun _ => []) op
  | ⟨d, op, some (g, w)⟩ => mkF T (fun f => .gop g w d f fun _ => []) op

/-- A step, for regions whose order is open. -/
def stpD (T : Tab) : LOp → Stp
  | ⟨d, .call ⟨.value z, args, _⟩, none⟩ => .call d z args.toList
  | ⟨d, .call ⟨.value z, args, _⟩, some (g, w)⟩ => .gcall g w d z args.toList
  | ⟨d, op, none⟩ => mkF T (fun f => mkH (fun h => .op d f h) op) op
  | ⟨d, op, some (g, w)⟩ => mkF T (fun f => mkH (fun h => .gop g w d f h) op) op

section
variable (T : Tab) (X : ExtF) (C : CallF) (W : Nat)

def fCall (d : Option Tmp) (z : Operand) (args : List Operand) (st : St) : Option St :=
  match calleeOf st z args with
  | some (f, xs) => match X f xs with
    | some r => some ⟨putσ st.σ d r, st.H, st.nx⟩
    | none => match C W f xs st.H st.nx with
      | some (r, _, U) => some ⟨putσ st.σ d r, U ++ st.H, st.nx + W⟩
      | none => none
  | none => none

def fOp (d : Option Tmp) (f : St → Option Res) (st : St) : Option St :=
  match f st with
  | some r => bif r.side then some ⟨putσ st.σ d r.x, r.U ++ st.H, r.nx⟩ else none
  | none => none

def fStp : Stp → St → Option St
  | .op d f _, st => fOp d f st
  | .call d z args, st => fCall X C W d z args st
  | .gop g want d f _, st => match lget st.σ g with
    | some (.v (.bool b)) => bif b == want then fOp d f ⟨(g, .v (.bool want)) :: st.σ, st.H, st.nx⟩
      else some ⟨putσ ((g, .v (.bool (!want))) :: st.σ) d (.v undef), st.H, st.nx⟩
    | some (.v (.tuple _)) => some ⟨putσ st.σ d (.v undef), st.H, st.nx⟩
    | _ => none
  | .gcall g want d z args, st => match lget st.σ g with
    | some (.v (.bool b)) => bif b == want then fCall X C W d z args ⟨(g, .v (.bool want)) :: st.σ, st.H, st.nx⟩
      else some ⟨putσ ((g, .v (.bool (!want))) :: st.σ) d (.v undef), st.H, st.nx⟩
    | some (.v (.tuple _)) => some ⟨putσ st.σ d (.v undef), st.H, st.nx⟩
    | _ => none

noncomputable def fL (l : List Stp) : St → Option St :=
  List.rec (motive := fun _ => St → Option St) (fun st => some st) (fun s _ ih st => match fStp X C W s st with
    | some st' => ih st'
    | none => none) l
end

/-- One way of calling is at least as good as another one. -/
def CallF.le (C C' : CallF) : Prop := ∀ W f xs H nx r, C W f xs H nx = some r → C' W f xs H nx = some r

theorem fCall_le {T : Tab} {X : ExtF} {C C' : CallF} {W : Nat} (hC : C.le C') {d : Option Tmp} {z : Operand} {args : Array Operand} {ts : Array TypeId} {st st' : St} (h : fCall X C W d z args.toList st = some st') :
    exO T X C' W d (.call ⟨.value z, args, ts⟩) st = some st' := by
  unfold fCall at h
  unfold exO
  split at h
  · rename_i f xs hf
    simp only [hf]
    split at h
    · rename_i r hr; simp only [hr]; exact h
    · rename_i hr
      simp only [hr]
      split at h
      · rename_i r rd U hc
        rw [hC _ _ _ _ _ _ hc]; exact h
      · cases h
  · cases h

theorem fOp_eq {T : Tab} {X : ExtF} {C : CallF} {W : Nat} {d : Option Tmp} {op : Op} {st : St} (hop : ∀ z args ts, op ≠ .call ⟨.value z, args, ts⟩) : fOp d (fun st => opStep T st op) st = exO T X C W d op st := by
  cases op <;> try rfl
  rename_i c
  obtain ⟨callee, args, ts⟩ := c
  cases callee with
  | value z => exact (hop _ _ _ rfl).elim
  | builtin b => rfl
  | invoke r m => rfl

theorem stpL_op {T : Tab} {d : Option Tmp} {op : Op} (hop : ∀ z args ts, op ≠ .call ⟨.value z, args, ts⟩) : stpL T ⟨d, op, none⟩ = .op d (fun st => opStep T st op) fun _ => [] := by
  cases op <;> try rfl
  rename_i c
  obtain ⟨callee, args, ts⟩ := c
  cases callee with
  | value z => exact (hop _ _ _ rfl).elim
  | builtin b => exact mkB_eq T (fun f => Stp.op d f fun _ => []) ts args b
  | invoke r m => rfl

theorem stpL_gop {T : Tab} {d : Option Tmp} {op : Op} {g : Tmp} {w : Bool} (hop : ∀ z args ts, op ≠ .call ⟨.value z, args, ts⟩) : stpL T ⟨d, op, some (g, w)⟩ = .gop g w d (fun st => opStep T st op) fun _ => [] := by
  cases op <;> try rfl
  rename_i c
  obtain ⟨callee, args, ts⟩ := c
  cases callee with
  | value z => exact (hop _ _ _ rfl).elim
  | builtin b => exact mkB_eq T (fun f => Stp.gop g w d f fun _ => []) ts args b
  | invoke r m => rfl

theorem stpD_op {T : Tab} {d : Option Tmp} {op : Op} (hop : ∀ z args ts, op ≠ .call ⟨.value z, args, ts⟩) : stpD T ⟨d, op, none⟩ = .op d (fun st => opStep T st op) (fun st => hreads st op) := by
  cases op <;> try rfl
  rename_i c
  obtain ⟨callee, args, ts⟩ := c
  cases callee with
  | value z => exact (hop _ _ _ rfl).elim
  | builtin b => exact mkB_eq T (fun f => Stp.op d f _) ts args b
  | invoke r m => rfl

theorem stpD_gop {T : Tab} {d : Option Tmp} {op : Op} {g : Tmp} {w : Bool} (hop : ∀ z args ts, op ≠ .call ⟨.value z, args, ts⟩) : stpD T ⟨d, op, some (g, w)⟩ = .gop g w d (fun st => opStep T st op) (fun st => hreads st op) := by
  cases op <;> try rfl
  rename_i c
  obtain ⟨callee, args, ts⟩ := c
  cases callee with
  | value z => exact (hop _ _ _ rfl).elim
  | builtin b => exact mkB_eq T (fun f => Stp.gop g w d f _) ts args b
  | invoke r m => rfl

theorem stpL_cases (T : Tab) (o : LOp) : (∃ z args ts, o.op = .call ⟨.value z, args, ts⟩ ∧ ((o.g = none ∧ stpL T o = .call o.d z args.toList) ∨ ∃ g w, o.g = some (g, w) ∧ stpL T o = .gcall g w o.d z args.toList)) ∨
    ((∀ z args ts, o.op ≠ .call ⟨.value z, args, ts⟩) ∧ ((o.g = none ∧ stpL T o = .op o.d (fun st => opStep T st o.op) fun _ => []) ∨ ∃ g w, o.g = some (g, w) ∧ stpL T o = .gop g w o.d (fun st => opStep T st o.op) fun _ => [])) := by
  obtain ⟨d, op, g⟩ := o
  by_cases hop : ∃ z args ts, op = .call ⟨.value z, args, ts⟩
  · obtain ⟨z, args, ts, rfl⟩ := hop
    left
    refine ⟨z, args, ts, rfl, ?_⟩
    cases g with
    | none => exact .inl ⟨rfl, rfl⟩
    | some g => exact .inr ⟨g.1, g.2, rfl, rfl⟩
  · right
    have hop' : ∀ z args ts, op ≠ .call ⟨.value z, args, ts⟩ := fun z args ts h => hop ⟨z, args, ts, h⟩
    refine ⟨hop', ?_⟩
    cases g with
    | none => exact .inl ⟨rfl, stpL_op hop'⟩
    | some g => exact .inr ⟨g.1, g.2, rfl, stpL_gop hop'⟩

theorem fL_le {T : Tab} {X : ExtF} {C C' : CallF} {W : Nat} (hC : C.le C') : ∀ (l : List LOp) (st st' : St), fL X C W (l.map (stpL T)) st = some st' → exL T X C' W l st = some st'
  | [], st, st', h => h
  | o :: rest, st, st', h => by
    have h' : (match fStp X C W (stpL T o) st with | some st1 => fL X C W (rest.map (stpL T)) st1 | none => none) = some st' := h
    clear h
    simp only [exL]
    split at h'
    · rename_i st1 h1
      have ih := fL_le hC rest st1 st' h'
      rcases stpL_cases T o with ⟨z, args, ts, hop, ⟨hg, hs⟩ | ⟨g, w, hg, hs⟩⟩ | ⟨hop, ⟨hg, hs⟩ | ⟨g, w, hg, hs⟩⟩
      · rw [hs] at h1
        simp only [hg, hop]
        rw [fCall_le hC (ts := ts) h1]; exact ih
      · rw [hs] at h1
        simp only [hg, hop]
        simp only [fStp] at h1
        split at h1
        · rename_i b hb
          simp only [hb]
          cases hbw : b == w with
          | true =>
            rw [hbw] at h1
            simp only [cond_true] at h1 ⊢
            rw [fCall_le hC (ts := ts) h1]; exact ih
          | false =>
            rw [hbw] at h1
            simp only [cond_false] at h1 ⊢
            cases h1; exact ih
        · rename_i vs hb
          simp only [hb]
          cases h1; exact ih
        · cases h1
      · rw [hs] at h1
        simp only [hg]
        simp only [fStp] at h1
        rw [fOp_eq (X := X) (C := C') (W := W) hop] at h1
        rw [h1]; exact ih
      · rw [hs] at h1
        simp only [hg]
        simp only [fStp] at h1
        split at h1
        · rename_i b hb
          simp only [hb]
          cases hbw : b == w with
          | true =>
            rw [hbw] at h1
            simp only [cond_true] at h1 ⊢
            rw [fOp_eq (X := X) (C := C') (W := W) hop] at h1
            rw [h1]; exact ih
          | false =>
            rw [hbw] at h1
            simp only [cond_false] at h1 ⊢
            cases h1; exact ih
        · rename_i vs hb
          simp only [hb]
          cases h1; exact ih
        · cases h1
    · cases h'
#print axioms fL_le
end Go.Ai
