/- Steps: what is equal; pointers that are unsafe; min, max, cap, copy, clear. -/
import Derived.Test.YtgehagonolkhhaaGreatDoorAi7e
import Derived.Laws.StructEq
import Derived.LaidEql
import Derived.Lib.Builder
import Derived.Lib.UnsafeStr
import Derived.Laws.BytesString
namespace Go.Ai
open Go

section
variable {P : Program} {T : Tab} {st : St}

/-! ### Equality -/
def eqFs (eq : TypeId → SV → SV → Option Bool) (T : Tab) (l m : List SV) : List (Nat × Nat × TypeId) → Option Bool
  | [] => some true
  | r :: fs => match partOf T r.2.2 l r.1, partOf T r.2.2 m r.1 with
    | some p, some q => match eq r.2.2 p q, eqFs eq T l m fs with
      | some a, some b => some (a && b)
      | _, _ => none
    | _, _ => none

def eqS (T : Tab) : Nat → TypeId → SV → SV → Option Bool
  | 0, _, _, _ => none
  | n + 1, t, x, y => match T t with
    | some ⟨_, _, _, d⟩ => match d, x, y with
      | .int _, .v (.int k a), .v (.int k' b) => if k = k' then some (a == b) else none
      | .bool, .v (.bool a), .v (.bool b) => some (a == b)
      | .string, .v (.string a), .v (.string b) => some (a.data.toList == b.data.toList)
      | .struct fs true, .agg l, .agg m => eqFs (eqS T n) T l m fs
      | _, _, _ => none
    | none => none

theorem eqFs_ok (hT : T.OK P) {w : World} {E : Env} {eq : TypeId → SV → SV → Option Bool} {d : Nat} (ih : ∀ (t : TypeId) (x y : SV) (b : Bool) (u v : Value), eq t x y = some b → RelV w E x u → RelV w E y v → (Op.equalIn d t u v).run P w = .ok b w)
    {l m : List SV} {xs ys : Array Value} (hl : RelL w E l xs.toList) (hm : RelL w E m ys.toList) : ∀ {fs : List Field} {rs : List (Nat × Nat × TypeId)} {b : Bool}, fieldsOf P fs = some rs → fs.all (fun f => f.name != "_") = true →
      eqFs eq T l m rs = some b → (Op.eqFields d xs ys fs).run P w = .ok b w
  | [], rs, b, h, _, he => by
    simp only [fieldsOf, Option.some.injEq] at h
    subst h
    simp only [eqFs, Option.some.injEq] at he
    subst he
    simp [Op.eqFields]
  | f :: fs, rs, b, h, hn, he => by
    simp only [fieldsOf] at h
    split at h
    · rename_i i rs' h1 h2
      cases h
      simp only [List.all_cons, Bool.and_eq_true, bne_iff_ne] at hn
      simp only [eqFs] at he
      split at he
      · rename_i p q hp hq
        split at he
        · rename_i a c ha hc
          cases he
          obtain ⟨u, r1, r2⟩ := run_part hT hp hl
          obtain ⟨v, s1, s2⟩ := run_part hT hq hm
          have e1 := ih _ p q a u v ha r2 s2
          have e2 := eqFs_ok hT ih hl hm h2 hn.2 hc
          simp only [Op.eqFields, hn.1, ne_eq, not_false_eq_true, if_true, Sem.run_bind, r1, s1, e1, Result.andThen_ok]
          cases a
          · simp
          · simp [e2]
        · cases he
      · cases he
    · cases h

theorem eqS_ok (hT : T.OK P) {w : World} {E : Env} : ∀ (n d : Nat) (t : TypeId) (x y : SV) (b : Bool) (u v : Value), n ≤ d → eqS T n t x y = some b → RelV w E x u → RelV w E y v → (Op.equalIn d t u v).run P w = .ok b w
  | 0, d, t, x, y, b, u, v, _, h, _, _ => by simp [eqS] at h
  | n + 1, 0, t, x, y, b, u, v, hd, _, _, _ => by omega
  | n + 1, d + 1, t, x, y, b, u, v, hd, h, hx, hy => by
    simp only [eqS] at h
    split at h
    · rename_i s1 s2 s3 td hi
      split at h
      · split at h
        · rename_i k hk
          subst hk
          cases h
          simp only [RelV] at hx hy
          subst hx; subst hy
          exact run_equalIn_int w d t _ _ _ _ (under_int (hT t _ hi) rfl)
        · cases h
      · cases h
        simp only [RelV] at hx hy
        subst hx; subst hy
        exact run_equalIn_bool' w d t _ _ (under_bool (hT t _ hi) rfl)
      · cases h
        simp only [RelV] at hx hy
        subst hx; subst hy
        rw [run_equalIn_string w d t _ _ (under_string (hT t _ hi) rfl), ByteArray.toList_eq, ByteArray.toList_eq]
      · rename_i fs l m
        simp only [RelV] at hx hy
        obtain ⟨xs, rfl, hx⟩ := hx
        obtain ⟨ys, rfl, hy⟩ := hy
        obtain ⟨flds, k1, k2, k3⟩ := under_struct (hT t _ hi) rfl
        simp only [Bool.and_eq_true, Bool.not_eq_true'] at k3
        have hf : P.fieldsOf t = flds := by simp [Program.fieldsOf, k1]
        rw [run_equalIn_struct w d t xs ys (by rw [hf]; exact k1) k3.1.2, hf]
        exact eqFs_ok hT (fun t x y b u v h hx hy => eqS_ok hT n d t x y b u v (by omega) h hx hy) hx hy k2 k3.1.1 h
      · cases h
    · cases h

/-- Pointers. -/
def eqP (H : HL) : SV → SV → Option Bool
  | .v (.pointer none), .v (.pointer none) => some true
  | .v (.pointer none), .p _ _ => some false
  | .p _ _, .v (.pointer none) => some false
  | .v (.pointer none), .pe _ => some false
  | .pe _, .v (.pointer none) => some false
  | .p n o, .p m o' => if n = m then some (o == o') else match hget H n, hget H m with
    | some ⟨_, _, none⟩, some ⟨_, _, none⟩ => some false
    | _, _ => none
  | _, _ => none

def eqN : SV → SV → Option Bool
  | .v (.slice none 0 0), .v (.slice none 0 0) => some true
  | .s _ _ _ _ _, .v (.slice none 0 0) => some false
  | .xs _ _ (_ :: _), .v (.slice none 0 0) => some false
  | _, _ => none

def eqF : SV → SV → Option Bool
  | .v .nilFunc, .v .nilFunc => some true
  | .clo _ _ _, .v .nilFunc => some false
  | _, _ => none

def eqM : SV → SV → Option Bool
  | .v (.map none), .v (.map none) => some true
  | .m _, .v (.map none) => some false
  | _, _ => none

def eqAny (T : Tab) (H : HL) (t : TypeId) (x y : SV) : Option Bool :=
  match T t with
  | some ⟨_, _, _, d⟩ => match d with
    | .struct _ _ => eqS T 8 t x y
    | .ptr e => match T e with
      | some ie => if ie.size = 0 then none else eqP H x y
      | none => none
    | .slice _ => eqN x y
    | .func => eqF x y
    | .map _ _ => eqM x y
    | _ => none
  | none => none

theorem eqP_ok {w : World} {E : Env} {H : HL} (hH : HeapOK E w (hget H)) {t e : TypeId} {j : TypeInfo} (ht : P.underlying t = some (.pointer e)) (hj : P.info? e = some j) (hz : j.size ≠ 0) {x y : SV} {b : Bool} {u v : Value} (h : eqP H x y = some b)
    (hx : RelV w E x u) (hy : RelV w E y v) (d : Nat) : (Op.equalIn (d + 1) t u v).run P w = .ok b w := by
  unfold eqP at h
  split at h
  · cases h; simp only [RelV] at hx hy; subst hx; subst hy; simp [Op.equalIn, run_underlying ht]
  · cases h; simp only [RelV] at hx hy; subst hx; obtain ⟨_, _, rfl⟩ := hy; simp [Op.equalIn, run_underlying ht]
  · cases h; simp only [RelV] at hx hy; subst hy; obtain ⟨_, _, rfl⟩ := hx; simp [Op.equalIn, run_underlying ht]
  · cases h; simp only [RelV] at hx hy; subst hx; obtain ⟨_, _, rfl, _⟩ := hy; simp [Op.equalIn, run_underlying ht]
  · cases h; simp only [RelV] at hx hy; subst hy; obtain ⟨_, _, rfl, _⟩ := hx; simp [Op.equalIn, run_underlying ht]
  · rename_i n o m o'
    simp only [RelV] at hx hy
    obtain ⟨k, h1, rfl⟩ := hx
    obtain ⟨k', h2, rfl⟩ := hy
    split at h
    · rename_i e'
      subst e'
      rw [h1] at h2; cases h2
      cases h
      simp [Op.equalIn, run_underlying ht, sizeOf, typeInfo, hj, hz, sameAddr]
      rw [Bool.eq_iff_iff, beq_iff_eq, beq_iff_eq]; simp
    · rename_i hne
      split at h
      · rename_i q1 q2 q3 q4 g1 g2
        cases h
        obtain ⟨a1, c1, f1, f2, _⟩ := blk_cells hH g1 rfl
        obtain ⟨a2, c2, f3, f4, _⟩ := blk_cells hH g2 rfl
        rw [h1] at f1; cases f1
        rw [h2] at f3; cases f3
        have hkk : k ≠ k' := fun e' => hne (hH.inj n m k (by simp [g1]) (by simp [g2]) h1 (by rw [e']; exact h2))
        have := run_sameAddr_other (P := P) w (a := ⟨k, o, none⟩) (b := ⟨k', o', none⟩) (by intro e'; apply hkk; simpa using congrArg Addr.block e') f2 f4
        simp [Op.equalIn, run_underlying ht, sizeOf, typeInfo, hj, hz, this]
      · cases h
  · cases h

theorem eqN_ok {w : World} {E : Env} {t e : TypeId} (ht : P.underlying t = some (.slice e)) {x y : SV} {b : Bool} {u v : Value} (h : eqN x y = some b) (hx : RelV w E x u) (hy : RelV w E y v) (d : Nat) : (Op.equalIn (d + 1) t u v).run P w = .ok b w := by
  unfold eqN at h
  split at h
  · cases h; simp only [RelV] at hx hy; subst hx; subst hy; simp [Op.equalIn, run_underlying ht]
  · cases h; simp only [RelV] at hx hy; subst hy; obtain ⟨_, _, _, _, rfl, _⟩ := hx; simp [Op.equalIn, run_underlying ht]
  · cases h; simp only [RelV] at hx hy; subst hy; obtain ⟨a, c, rfl, _, _, h3⟩ := hx
    rcases h3 with h3 | ⟨b, off, rfl, _⟩
    · cases h3
    · simp [Op.equalIn, run_underlying ht]
  · cases h

theorem eqF_ok {w : World} {E : Env} {t : TypeId} {p q : Array TypeId} {r : Bool} (ht : P.underlying t = some (.func p q r)) {x y : SV} {b : Bool} {u v : Value} (h : eqF x y = some b) (hx : RelV w E x u) (hy : RelV w E y v) (d : Nat) : (Op.equalIn (d + 1) t u v).run P w = .ok b w := by
  unfold eqF at h
  split at h
  · cases h; simp only [RelV] at hx hy; subst hx; subst hy; simp [Op.equalIn, run_underlying ht]
  · cases h; simp only [RelV] at hx hy; subst hy; obtain ⟨_, _, rfl, _⟩ := hx; simp [Op.equalIn, run_underlying ht]
  · cases h

theorem eqM_ok {w : World} {E : Env} {t k e : TypeId} (ht : P.underlying t = some (.map k e)) {x y : SV} {b : Bool} {u v : Value} (h : eqM x y = some b) (hx : RelV w E x u) (hy : RelV w E y v) (d : Nat) : (Op.equalIn (d + 1) t u v).run P w = .ok b w := by
  unfold eqM at h
  split at h
  · cases h; simp only [RelV] at hx hy; subst hx; subst hy; simp [Op.equalIn, run_underlying ht]
  · cases h; simp only [RelV] at hx hy; subst hy; obtain ⟨_, _, rfl⟩ := hx; simp [Op.equalIn, run_underlying ht]
  · cases h

/-- Neither a scalar that is compared otherwise, nor nil of an interface. -/
def plainEq : Value → Bool
  | .agg _ | .pointer _ | .slice _ _ _ | .func _ _ _ | .nilFunc | .map _ => true
  | _ => false

theorem eqAny_ok {w : World} {E : Env} {H : HL} (hT : T.OK P) (hH : HeapOK E w (hget H)) {t : TypeId} {x y : SV} {b : Bool} {u v : Value} (h : eqAny T H t x y = some b) (hx : RelV w E x u) (hy : RelV w E y v) (X Y : Operand) :
    (Op.equalIn 10000 t u v).run P w = .ok b w ∧ (∀ op, (eqGuard op t X Y u v).run P w = .ok () w) ∧ plainEq u = true := by
  unfold eqAny at h
  split at h
  · rename_i s1 s2 s3 d hi
    split at h
    · rename_i fs q
      refine ⟨eqS_ok hT 8 10000 t x y b u v (by omega) h hx hy, ?_⟩
      obtain ⟨flds, k1, k2, k3⟩ := under_struct (hT t _ hi) rfl
      simp only [eqS, hi] at h
      split at h
      all_goals first
        | (rename_i e1; cases e1; done)
        | (rename_i e1 _; cases e1; done)
        | (rename_i e1 _ _; cases e1; done)
        | (cases h; done)
        | skip
      rename_i fs' l m e1
      cases e1
      simp only [RelV] at hx hy
      obtain ⟨xs, rfl, hx⟩ := hx
      obtain ⟨ys, rfl, hy⟩ := hy
      simp only [Bool.and_eq_true, Bool.not_eq_true'] at k3
      exact ⟨fun op => run_eqGuard_agg w op t X Y xs ys k3.2, rfl⟩
    · rename_i e
      split at h
      · rename_i ie hie
        split at h
        · cases h
        · rename_i hz
          obtain ⟨j, _, _, j1, _, _, j4, _⟩ := ti_info (hT e ie hie)
          refine ⟨eqP_ok hH (under_ptr (hT t _ hi) rfl) j1 (by rw [j4]; exact hz) h hx hy 9999, ?_⟩
          have hu : ∃ p, u = .pointer p := by
            unfold eqP at h
            split at h <;> first
              | (cases h; done)
              | (simp only [RelV] at hx
                 first
                   | exact ⟨_, hx⟩
                   | (obtain ⟨_, _, rfl⟩ := hx; exact ⟨_, rfl⟩)
                   | (obtain ⟨_, _, rfl, _⟩ := hx; exact ⟨_, rfl⟩))
          obtain ⟨p, rfl⟩ := hu
          exact ⟨fun op => by unfold eqGuard; split <;> simp, rfl⟩
      · cases h
    · refine ⟨eqN_ok (under_slice (hT t _ hi) rfl) h hx hy 9999, ?_⟩
      have hu : ∃ p l c, u = .slice p l c := by
        unfold eqN at h
        split at h <;> first
          | (cases h; done)
          | (simp only [RelV] at hx
             first
               | exact ⟨_, _, _, hx⟩
               | (obtain ⟨_, _, _, _, rfl, _⟩ := hx; exact ⟨_, _, _, rfl⟩)
               | (obtain ⟨_, _, rfl, _⟩ := hx; exact ⟨_, _, _, rfl⟩))
      obtain ⟨p, l, c, rfl⟩ := hu
      exact ⟨fun op => by unfold eqGuard; split <;> simp, rfl⟩
    · obtain ⟨p, q, r, hf⟩ := under_func (hT t _ hi) rfl
      refine ⟨eqF_ok hf h hx hy 9999, ?_⟩
      unfold eqF at h
      split at h
      · simp only [RelV] at hx; subst hx; exact ⟨fun op => by unfold eqGuard; split <;> simp, rfl⟩
      · simp only [RelV] at hx; obtain ⟨_, _, rfl, _⟩ := hx; exact ⟨fun op => by unfold eqGuard; split <;> simp, rfl⟩
      · cases h
    · refine ⟨eqM_ok (under_map (hT t _ hi) rfl) h hx hy 9999, ?_⟩
      unfold eqM at h
      split at h
      · simp only [RelV] at hx; subst hx; exact ⟨fun op => by unfold eqGuard; split <;> simp, rfl⟩
      · simp only [RelV] at hx; obtain ⟨_, _, rfl⟩ := hx; exact ⟨fun op => by unfold eqGuard; split <;> simp, rfl⟩
      · cases h
    · cases h
  · cases h

def stEq (T : Tab) (st : St) (op : BinOp) (t : TypeId) (x y : Operand) : Option Res :=
  match op with
  | .eql => match eqAny T st.H t (st.ev x) (st.ev y) with
    | some b => okRes st (.v (.bool b)) True
    | none => none
  | .neq => match eqAny T st.H t (st.ev x) (st.ev y) with
    | some b => okRes st (.v (.bool !b)) True
    | none => none
  | _ => none

theorem run_binEq {t : TypeId} {u v : Value} {b : Bool} {w : World} (h : (Op.equalIn 10000 t u v).run P w = .ok b w) (hu : plainEq u = true) :
    (binOp .eql t u v).run P w = .ok (.bool b) w ∧ (binOp .neq t u v).run P w = .ok (.bool !b) w := by
  constructor <;> cases u <;> first
    | (simp [plainEq] at hu; done)
    | (simp only [binOp]; simp [Op.equal, Op.maxDepth, h])

theorem st_eq {op : BinOp} {t t' : TypeId} {x y : Operand} {r : Res} (hr : stEq T st op t x y = some r) : StepOK P T st (.binOp op t x y t') r := by
  unfold stEq at hr
  split at hr
  · split at hr
    · rename_i b hb
      refine .pure hr fun E A w o hc e hside => ⟨.bool b, ?_, by simp only [RelV]⟩
      obtain ⟨h1, h2, h3⟩ := eqAny_ok hc.tab hc.hp hb (ev_ok hc.fr x) (ev_ok hc.fr y) x y
      simp [execOp, e, h2, (run_binEq h1 h3).1]
    · cases hr
  · split at hr
    · rename_i b hb
      refine .pure hr fun E A w o hc e hside => ⟨.bool !b, ?_, by simp only [RelV]⟩
      obtain ⟨h1, h2, h3⟩ := eqAny_ok hc.tab hc.hp hb (ev_ok hc.fr x) (ev_ok hc.fr y) x y
      simp [execOp, e, h2, (run_binEq h1 h3).2]
    · cases hr
  · cases hr
end
#print axioms st_eq
end Go.Ai
