/- The fast executor: code, calls, and calls that are known. -/
import Derived.Test.YtgehagonolkhhaaGreatDoorAi21
namespace Go.Ai
open Go

inductive FC where
  | skip
  | reg (l : List Stp)
  | dreg (l : List Stp) (ms : List Nat)
  | seq (a b : FC)
  | cond (t : Tmp) (a b : FC)
  | block (id : Nat) (c : FC)
  | loop (c : FC)
  | exit (id : Nat)
  | ret
  | bad

def ltAll (i : Nat) : List Nat → Bool
  | [] => true
  | q :: p => Nat.blt q i && ltAll i p

def backF : List (List Nat) → Nat → Bool
  | [], _ => true
  | p :: l, i => ltAll i p && backF l (i + 1)

theorem ltAll_ok {i : Nat} : ∀ {p : List Nat}, ltAll i p = true → ∀ q ∈ p, q < i
  | [], _, q, h => by simp at h
  | x :: p, h, q, hq => by
    simp only [ltAll, Bool.and_eq_true, Nat.blt_eq] at h
    rcases List.mem_cons.1 hq with rfl | hq
    · exact h.1
    · exact ltAll_ok h.2 q hq

theorem backF_at : ∀ {l : List (List Nat)} {i k : Nat} {p : List Nat}, backF l i = true → l[k]? = some p → ∀ q ∈ p, q < i + k
  | [], _, _, _, _, h => by simp at h
  | p' :: l, i, k, p, hb, h => by
    simp only [backF, Bool.and_eq_true] at hb
    cases k with
    | zero =>
      simp only [List.getElem?_cons_zero, Option.some.injEq] at h
      subst h
      exact ltAll_ok hb.1
    | succ k =>
      intro q hq
      have := backF_at hb.2 (k := k) (p := p) (by simpa using h) q hq
      omega

theorem backF_ok {ps : List (List Nat)} (h : backF ps 0 = true) : backward ps = true := by
  unfold backward
  rw [List.all_eq_true]
  rintro ⟨p, i⟩ hp
  rw [List.mem_zipIdx_iff_getElem?] at hp
  rw [List.all_eq_true]
  intro q hq
  have := backF_at h (k := i) (p := p) hp q hq
  simpa using this

def fcD (T : Tab) (l : List LOp) (ps : List (List Nat)) (ms : List Nat) (tm : List TrM) : FC :=
  bif backF ps 0 && (statT ms tm 0 tm && locals l) then .dreg (l.map (stpD T)) ms else .bad

def fcOf (T : Tab) (nt : Nat) : Code → FC
  | .skip => .skip
  | .label _ => .skip
  | .region _ ops d => match liteOps nt ops ops.toList with
    | some l => bif d then (match ops.toList.map predsOf with | ps => fcD T l ps (clsM ps []) (l.map fun o => trM (trT o)))
      else .reg (l.map (stpL T))
    | none => .bad
  | .seq a b => .seq (fcOf T nt a) (fcOf T nt b)
  | .cond (.tmp t) a b => .cond t (fcOf T nt a) (fcOf T nt b)
  | .cond (.const (.bool true)) a _ => fcOf T nt a
  | .cond (.const (.bool false)) _ b => fcOf T nt b
  | .block id c => .block id (fcOf T nt c)
  | .loop c => .loop (fcOf T nt c)
  | .exit id => .exit id
  | .ret => .ret
  | .scope c => fcOf T nt c
  | _ => .bad

/-- The same without looking whether it may be. -/
def fcU (T : Tab) (nt : Nat) : Code → FC
  | .skip => .skip
  | .label _ => .skip
  | .region _ ops d => match liteOps nt ops ops.toList with
    | some l => bif d then .dreg (l.map (stpD T)) (clsM (ops.toList.map predsOf) []) else .reg (l.map (stpL T))
    | none => .bad
  | .seq a b => .seq (fcU T nt a) (fcU T nt b)
  | .cond (.tmp t) a b => .cond t (fcU T nt a) (fcU T nt b)
  | .cond (.const (.bool true)) a _ => fcU T nt a
  | .cond (.const (.bool false)) _ b => fcU T nt b
  | .block id c => .block id (fcU T nt c)
  | .loop c => .loop (fcU T nt c)
  | .exit id => .exit id
  | .ret => .ret
  | .scope c => fcU T nt c
  | _ => .bad

def dregOK (l : List LOp) (ps : List (List Nat)) (ms : List Nat) (tm : List TrM) : Bool := backF ps 0 && (statT ms tm 0 tm && locals l)

/-- May it be? -/
def codeOK (nt : Nat) : Code → Bool
  | .region _ ops d => bif d then (match liteOps nt ops ops.toList with
    | some l => (match ops.toList.map predsOf with | ps => dregOK l ps (clsM ps []) (l.map fun o => trM (trT o)))
    | none => true) else true
  | .seq a b => codeOK nt a && codeOK nt b
  | .cond _ a b => codeOK nt a && codeOK nt b
  | .block _ c => codeOK nt c
  | .loop c => codeOK nt c
  | .scope c => codeOK nt c
  | _ => true

theorem fcU_eq {T : Tab} {nt : Nat} : ∀ {c : Code}, codeOK nt c = true → fcU T nt c = fcOf T nt c
  | .skip, _ => rfl
  | .label _, _ => rfl
  | .region _ ops d, h => by
    simp only [codeOK] at h
    simp only [fcU, fcOf]
    cases hl : liteOps nt ops ops.toList with
    | none => rfl
    | some l =>
      cases d with
      | false => rfl
      | true =>
        simp only [hl, cond_true] at h ⊢
        unfold dregOK at h
        unfold fcD
        rw [h]; rfl
  | .seq a b, h => by
    simp only [codeOK, Bool.and_eq_true] at h
    simp only [fcU, fcOf, fcU_eq h.1, fcU_eq h.2]
  | .cond (.tmp t) a b, h => by
    simp only [codeOK, Bool.and_eq_true] at h
    simp only [fcU, fcOf, fcU_eq h.1, fcU_eq h.2]
  | .cond (.const v) a b, h => by
    simp only [codeOK, Bool.and_eq_true] at h
    cases v with
    | bool q => cases q <;> simp only [fcU, fcOf, fcU_eq h.1, fcU_eq h.2]
    | _ => rfl
  | .cond (.global _) a b, _ => rfl
  | .cond (.func _) a b, _ => rfl
  | .block id c, h => by
    simp only [codeOK] at h
    simp only [fcU, fcOf, fcU_eq h]
  | .loop c, h => by
    simp only [codeOK] at h
    simp only [fcU, fcOf, fcU_eq h]
  | .exit id, _ => rfl
  | .ret, _ => rfl
  | .scope c, h => by
    simp only [codeOK] at h
    simp only [fcU, fcOf, fcU_eq h]
  | .rangeFunc _ _ _ _, _ => rfl
  | .goto _, _ => rfl
  | .refuse _, _ => rfl

def fnOK (P : Program) (f : FuncId) : Bool :=
  match P.funcs[f]? with
  | some fn => match fn.body with
    | some c => codeOK fn.ntmps c
    | none => true
  | none => true

section
variable (X : ExtF) (C : CallF) (W N m : Nat)

noncomputable def fC (c : FC) : St → Option (Fl × St) :=
  FC.rec (motive := fun _ => St → Option (Fl × St))
    (fun st => some (.n, st))
    (fun l st => match fL X C W l st with
      | some st' => some (.n, cmp m st st')
      | none => none)
    (fun l ms st => match fD X C W st.nx ms l st.nx 0 [] st with
      | some st' => some (.n, cmp m st st')
      | none => none)
    (fun _ _ fa fb st => match fa st with
      | some (.n, st') => fb st'
      | some (.r, st') => some (.r, st')
      | some (.x i, st') => some (.x i, st')
      | none => none)
    (fun t _ _ fa fb st => match lget st.σ t with
      | some (.v (.bool true)) => fa st
      | some (.v (.bool false)) => fb st
      | _ => none)
    (fun id _ f st => match f st with
      | some (.x i, st') => bif Nat.beq i id then some (.n, st') else some (.x i, st')
      | some (.n, st') => some (.n, st')
      | some (.r, st') => some (.r, st')
      | none => none)
    (fun _ f st => iter f N st)
    (fun id st => some (.x id, st))
    (fun st => some (.r, st))
    (fun _ => none)
    c
end

theorem iter_le {f g : St → Option (Fl × St)} (h : ∀ st r, f st = some r → g st = some r) : ∀ (k : Nat) (st : St) (r : Fl × St), iter f k st = some r → iter g k st = some r
  | 0, _, _, hr => by simp [iter] at hr
  | k + 1, st, r, hr => by
    simp only [iter] at hr ⊢
    split at hr
    · rename_i st' h1; rw [h _ _ h1]; exact iter_le h k st' r hr
    · rename_i st' h1; rw [h _ _ h1]; exact hr
    · rename_i i st' h1; rw [h _ _ h1]; exact hr
    · cases hr

theorem fC_le {T : Tab} {X : ExtF} {C C' : CallF} {W N m nt : Nat} (hC : C.le C') : ∀ (c : Code) (st : St) (r : Fl × St), fC X C W N m (fcOf T nt c) st = some r → exC T X C' W N m (lite nt c) st = some r
  | .skip, st, r, h => h
  | .label _, st, r, h => h
  | .region id ops d, st, r, h => by
    simp only [fcOf] at h
    split at h
    · rename_i l hl
      cases d with
      | false =>
        have h' : (match fL X C W (l.map (stpL T)) st with | some st' => some (Fl.n, cmp m st st') | none => none) = some r := h
        simp only [lite, hl, exC]
        split at h'
        · rename_i st' h1; rw [fL_le hC _ _ _ h1]; exact h'
        · cases h'
      | true =>
        simp only [cond_true, fcD] at h
        cases hb : backF (ops.toList.map predsOf) 0 && (statT (clsM (ops.toList.map predsOf) []) (l.map fun o => trM (trT o)) 0 (l.map fun o => trM (trT o)) && locals l) with
        | false => rw [hb] at h; cases h
        | true =>
          rw [hb] at h
          rw [Bool.and_eq_true, Bool.and_eq_true] at hb
          have h' : (match fD X C W st.nx (clsM (ops.toList.map predsOf) []) (l.map (stpD T)) st.nx 0 [] st with | some st' => some (Fl.n, cmp m st st') | none => none) = some r := h
          simp only [lite, hl, backF_ok hb.1, if_true, exC]
          have hms : MsOK (clsM (ops.toList.map predsOf) []) (closures (ops.toList.map predsOf) []) := clsM_ok _ _ _ rfl (by intro j i hj; simp [tb_zero] at hj)
          split at h'
          · rename_i st' h1
            rw [fD_le (T := T) hC hms hb.2.1 hb.2.2 l 0 [] [] st st' rfl ⟨rfl, fun k t hk => by simp at hk⟩ (by rw [Nat.zero_mul, Nat.add_zero]; exact h1)]
            exact h'
          · cases h'
    · cases h
  | .seq a b, st, r, h => by
    have h' : (match fC X C W N m (fcOf T nt a) st with
      | some (.n, st') => fC X C W N m (fcOf T nt b) st'
      | some (.r, st') => some (.r, st')
      | some (.x i, st') => some (.x i, st')
      | none => none) = some r := h
    simp only [lite, exC]
    split at h'
    · rename_i st' h1; rw [fC_le hC a st _ h1]; exact fC_le hC b st' r h'
    · rename_i st' h1; rw [fC_le hC a st _ h1]; exact h'
    · rename_i i st' h1; rw [fC_le hC a st _ h1]; exact h'
    · cases h'
  | .cond (.tmp t) a b, st, r, h => by
    have h' : (match lget st.σ t with
      | some (.v (.bool true)) => fC X C W N m (fcOf T nt a) st
      | some (.v (.bool false)) => fC X C W N m (fcOf T nt b) st
      | _ => none) = some r := h
    simp only [lite, exC]
    split at h'
    · rename_i h1; simp only [h1]; exact fC_le hC a st r h'
    · rename_i h1; simp only [h1]; exact fC_le hC b st r h'
    · cases h'
  | .cond (.const v) a b, st, r, h => by
    cases v with
    | bool q =>
      cases q with
      | true => exact fC_le hC a st r h
      | false => exact fC_le hC b st r h
    | _ => cases h
  | .cond (.global _) a b, st, r, h => by cases h
  | .cond (.func _) a b, st, r, h => by cases h
  | .block id c, st, r, h => by
    have h' : (match fC X C W N m (fcOf T nt c) st with
      | some (.x i, st') => bif Nat.beq i id then some (.n, st') else some (.x i, st')
      | some (.n, st') => some (.n, st')
      | some (.r, st') => some (.r, st')
      | none => none) = some r := h
    have hbeq : ∀ i : Nat, (i == id) = Nat.beq i id := fun i => by
      cases e : Nat.beq i id with
      | true => have := Nat.eq_of_beq_eq_true e; subst this; simp
      | false => have := Nat.ne_of_beq_eq_false e; simpa using this
    simp only [lite, exC]
    split at h'
    · rename_i i st' h1; rw [fC_le hC c st _ h1]; simp only [hbeq]; exact h'
    · rename_i st' h1; rw [fC_le hC c st _ h1]; exact h'
    · rename_i st' h1; rw [fC_le hC c st _ h1]; exact h'
    · cases h'
  | .loop c, st, r, h => by
    have h' : iter (fC X C W N m (fcOf T nt c)) N st = some r := h
    simp only [lite, exC]
    exact iter_le (fun st r => fC_le hC c st r) N st r h'
  | .exit id, st, r, h => h
  | .ret, st, r, h => h
  | .scope c, st, r, h => fC_le hC c st r h
  | .rangeFunc _ _ _ _, st, r, h => by cases h
  | .goto _, st, r, h => by cases h
  | .refuse _, st, r, h => by cases h

/-! ### Calls that are known -/
structure MemoE where
  f : FuncId
  xs : List SV
  W : Nat
  nx : Nat
  A : HL
  r : SV
  rd : List Nat
  U : HL

def MemoE.OK (P : Program) (e : MemoE) : Prop := CallH e.W P e.A e.nx e.f e.xs e.r e.rd e.U

def sameOn (H A : HL) : List Nat → Bool
  | [] => true
  | n :: l => blkSm (hget H n) (hget A n) && sameOn H A l

def findM (W : Nat) (f : FuncId) (xs : List SV) (H : HL) (nx : Nat) : List MemoE → Option (SV × List Nat × HL)
  | [] => none
  | e :: M => bif Nat.beq e.f f && ((match e.U with | [] => true | _ => Nat.beq e.nx nx && Nat.beq e.W W) && (smL xs e.xs && sameOn H e.A e.rd)) then some (e.r, e.rd, e.U) else findM W f xs H nx M

def memo (M : List MemoE) (C : CallF) : CallF := fun W f xs H nx => match findM W f xs H nx M with
  | some r => some r
  | none => C W f xs H nx

theorem sameOn_ok {H A : HL} : ∀ {l : List Nat}, sameOn H A l = true → ∀ n ∈ l, hget H n = hget A n
  | [], _, n, h => by simp at h
  | m :: l, hs, n, h => by
    simp only [sameOn, Bool.and_eq_true] at hs
    rcases List.mem_cons.1 h with rfl | h
    · exact blkSm_ok hs.1
    · exact sameOn_ok hs.2 n h

theorem CallH.sameOn {P : Program} {W nx : Nat} {H A : HL} {f : FuncId} {xs : List SV} {r : SV} {rd : List Nat} {U : HL} (h : CallH W P A nx f xs r rd U) (hs : ∀ n ∈ rd, hget H n = hget A n) : CallH W P H nx f xs r rd U := by
  have hpart : Heap.part (hget H) rd = Heap.part (hget A) rd := by
    funext n; simp only [Heap.part]
    by_cases hn : n ∈ rd
    · simp [hn, hs n hn]
    · simp [hn]
  have hlive : live H rd = live A rd := by
    funext n; simp only [live]
    by_cases hn : n ∈ rd
    · rw [hs n hn]
    · have : rd.contains n = false := by simpa using hn
      rw [this]; rfl
  exact ⟨h.body, by rw [hpart]; exact h.sat, by rw [hlive]; exact h.args, fun n hn b hb => by rw [hlive]; exact h.cells n hn b (by rw [← hs n hn]; exact hb), fun m hm => by rw [hlive]; exact h.names m hm⟩

/-- What leaves nothing new does so whatever the names. -/
theorem CallH.any {P : Program} {W nx W' nx' : Nat} {H : HL} {f : FuncId} {xs : List SV} {r : SV} {rd : List Nat} (h : CallH W P H nx f xs r rd []) : CallH W' P H nx' f xs r rd [] :=
  ⟨h.body, h.sat, h.args, h.cells, fun m hm => by simp [namesU] at hm⟩

theorem findM_ok {P : Program} {W : Nat} {f : FuncId} {xs : List SV} {H : HL} {nx : Nat} : ∀ {M : List MemoE}, (∀ e ∈ M, e.OK P) → ∀ {r : SV} {rd : List Nat} {U : HL}, findM W f xs H nx M = some (r, rd, U) → CallH W P H nx f xs r rd U
  | [], _, r, rd, U, h => by simp [findM] at h
  | e :: M, hM, r, rd, U, h => by
    simp only [findM] at h
    cases hb : Nat.beq e.f f && ((match e.U with | [] => true | _ => Nat.beq e.nx nx && Nat.beq e.W W) && (smL xs e.xs && Ai.sameOn H e.A e.rd)) with
    | false => rw [hb] at h; exact findM_ok (fun e' he' => hM e' (List.mem_cons_of_mem _ he')) h
    | true =>
      rw [hb] at h
      simp only [cond_true, Option.some.injEq, Prod.mk.injEq] at h
      obtain ⟨rfl, rfl, rfl⟩ := h
      rw [Bool.and_eq_true, Bool.and_eq_true, Bool.and_eq_true, Nat.beq_eq] at hb
      obtain ⟨h2, h1, h4, h5⟩ := hb
      have := smL_ok _ _ h4
      subst h2; subst this
      have he := CallH.sameOn (hM e (by simp)) (sameOn_ok h5)
      split at h1
      · rename_i hU
        rw [hU] at he ⊢
        exact he.any
      · simp only [Bool.and_eq_true, Nat.beq_eq] at h1
        obtain ⟨h1, h3⟩ := h1
        subst h1; subst h3
        exact he

theorem memo_ok {P : Program} {W : Nat} {M : List MemoE} {C : CallF} (hM : ∀ e ∈ M, e.OK P) (hC : C.OK P W) : (memo M C).OK P W := by
  intro f xs H nx r rd U h
  unfold memo at h
  split at h
  · rename_i r' hr
    cases h
    exact findM_ok hM hr
  · exact hC _ _ _ _ _ _ _ h

/-! ### Functions -/
structure FnF where
  nt : Nat
  mask : Nat
  code : FC
  rs : List ResultVar

abbrev FunF := FuncId → Option FnF
def fnF (P : Program) (T : Tab) (tbl : List (Nat × Nat)) : FunF := fun f => match maskIn tbl f with
  | some m => match P.funcs[f]? with
    | some fn => match fn.body with
      | some c => some ⟨fn.ntmps, m, fcU T fn.ntmps c, fn.results.toList⟩
      | none => none
    | none => none
  | none => none

noncomputable def fF (T : Tab) (X : ExtF) (F : FunF) (M : List MemoE) (N : Nat) : Nat → CallF
  | 0 => fun _ _ _ _ _ => none
  | d + 1 => fun W f xs H nx => match F f with
    | none => none
    | some fx => match reach H N (nmsL xs []) [] with
      | none => none
      | some rd => bif rd.all (fun n => Nat.blt n nx) && (Nat.blt 0 (W >>> 20) && Nat.ble xs.length fx.nt) then
          match fC X (memo M (fF T X F M N d)) (W >>> 20) N fx.mask fx.code ⟨argσ xs 0, keepL H rd, nx⟩ with
          | none => none
          | some (fl, st) => bif fl.over then match resOf T st fx.rs with
              | none => none
              | some x => match finish N st x rd with
                | none => none
                | some (y, keep, fin) => match diffL (keepL H rd) fin (goneR fin keep rd) with
                  | U => bif (namesU U).all (fun m => nmem m rd || (Nat.ble nx m && Nat.blt m (nx + W))) then some (y, rd, U) else none
            else none
        else none

theorem fF_ok {P : Program} {T : Tab} {X : ExtF} {M : List MemoE} {N : Nat} {tbl : List (Nat × Nat)} (hT : T.OK P) (hmo : P.follows .mixedOrders = true) (hX : X.OK P) (hF : (funX P tbl).OK P) (hk : ∀ f m, maskIn tbl f = some m → fnOK P f = true) (hM : ∀ e ∈ M, e.OK P) : ∀ (d W : Nat), CallF.OK P W (fF T X (fnF P T tbl) M N d)
  | 0, _ => fun _ _ _ _ _ _ _ h => by simp [fF] at h
  | d + 1, W => fun f xs H nx r rd U h => by
    refine exFC_ok (N := N) (C := memo M (fF T X (fnF P T tbl) M N d)) hT hmo hX hF (fun W1 => memo_ok hM (fF_ok hT hmo hX hF hk hM d W1)) W f xs H nx r rd U ?_
    have h' : (match fnF P T tbl f with
      | none => none
      | some fx => match reach H N (nmsL xs []) [] with
        | none => none
        | some rd => bif rd.all (fun n => Nat.blt n nx) && (Nat.blt 0 (W >>> 20) && Nat.ble xs.length fx.nt) then
            match fC X (memo M (fF T X (fnF P T tbl) M N d)) (W >>> 20) N fx.mask fx.code ⟨argσ xs 0, keepL H rd, nx⟩ with
            | none => none
            | some (fl, st) => bif fl.over then match resOf T st fx.rs with
                | none => none
                | some x => match finish N st x rd with
                  | none => none
                  | some (y, keep, fin) => match diffL (keepL H rd) fin (goneR fin keep rd) with
                    | U => bif (namesU U).all (fun m => nmem m rd || (Nat.ble nx m && Nat.blt m (nx + W))) then some (y, rd, U) else none
              else none
          else none) = some (r, rd, U) := h
    clear h
    unfold exFC
    unfold fnF at h'
    split at h'
    · cases h'
    · rename_i fx hfx
      split at hfx
      · rename_i mk hmk
        split at hfx
        · rename_i fn hfn
          split at hfx
          · rename_i c hc0
            cases hfx
            have hok : codeOK fn.ntmps c = true := by
              have := hk f mk hmk
              unfold fnOK at this
              simpa only [hfn, hc0] using this
            split at h'
            · cases h'
            · rename_i rd' hrd
              cases hc : rd'.all (fun n => Nat.blt n nx) && (Nat.blt 0 (W >>> 20) && Nat.ble xs.length fn.ntmps) with
              | false => rw [hc] at h'; cases h'
              | true =>
                rw [hc] at h'
                simp only [cond_true] at h'
                rw [Bool.and_eq_true, Bool.and_eq_true] at hc
                have hfun : funX P tbl f xs = some ⟨fn.ntmps, mk, lite fn.ntmps c, fn.results.toList⟩ := by
                  unfold funX fnX
                  simp only [hmk, hfn, hc0, hc.2.2, cond_true]
                simp only [hfun, hrd, hc.1, hc.2.1, Bool.and_self, cond_true]
                rw [fcU_eq hok] at h'
                split at h'
                · cases h'
                · rename_i fl st hex
                  rw [fC_le (T := T) (C' := memo M (fF T X (fnF P T tbl) M N d)) (fun _ _ _ _ _ _ h => h) c _ _ hex]
                  exact h'
          · cases hfx
        · cases hfx
      · cases hfx

/-- What a run came to, told by what is surely the same. -/
def natsSm : List Nat → List Nat → Bool
  | [], [] => true
  | a :: l, b :: m => Nat.beq a b && natsSm l m
  | _, _ => false
theorem natsSm_ok : ∀ {a b : List Nat}, natsSm a b = true → a = b
  | [], [], _ => rfl
  | a :: l, b :: m, h => by
    simp only [natsSm, Bool.and_eq_true, Nat.beq_eq] at h
    rw [h.1, natsSm_ok h.2]
  | [], _ :: _, h => by simp [natsSm] at h
  | _ :: _, [], h => by simp [natsSm] at h
def hlSm : HL → HL → Bool
  | [], [] => true
  | (n, none) :: l, (m, none) :: k => Nat.beq n m && hlSm l k
  | (n, some b) :: l, (m, some c) :: k => Nat.beq n m && (blkSm (some b) (some c) && hlSm l k)
  | _, _ => false
theorem hlSm_ok : ∀ {a b : HL}, hlSm a b = true → a = b
  | [], [], _ => rfl
  | (n, none) :: l, (m, none) :: k, h => by
    simp only [hlSm, Bool.and_eq_true, Nat.beq_eq] at h
    rw [h.1, hlSm_ok h.2]
  | (n, some b) :: l, (m, some c) :: k, h => by
    simp only [hlSm, Bool.and_eq_true, Nat.beq_eq] at h
    rw [h.1, blkSm_ok h.2.1, hlSm_ok h.2.2]
  | [], _ :: _, h => by simp [hlSm] at h
  | (_, none) :: _, [], h => by simp [hlSm] at h
  | (_, some _) :: _, [], h => by simp [hlSm] at h
  | (_, none) :: _, (_, some _) :: _, h => by simp [hlSm] at h
  | (_, some _) :: _, (_, none) :: _, h => by simp [hlSm] at h

noncomputable def MemoE.chk (T : Tab) (X : ExtF) (F : FunF) (M : List MemoE) (N d : Nat) (e : MemoE) : Bool :=
  match fF T X F M N d e.W e.f e.xs e.A e.nx with
  | some (r, rd, U) => r.sm e.r && (natsSm rd e.rd && hlSm U e.U)
  | none => false

theorem MemoE.ok_of_chk {P : Program} {T : Tab} {X : ExtF} {M : List MemoE} {N d : Nat} {e : MemoE} {tbl : List (Nat × Nat)} (hT : T.OK P) (hmo : P.follows .mixedOrders = true) (hX : X.OK P) (hF : (funX P tbl).OK P) (hk : ∀ f m, maskIn tbl f = some m → fnOK P f = true) (hM : ∀ e ∈ M, e.OK P)
    (h : e.chk T X (fnF P T tbl) M N d = true) : e.OK P := by
  unfold MemoE.chk at h
  split at h
  · rename_i r rd U hr
    simp only [Bool.and_eq_true] at h
    have h1 := SV.sm_ok _ _ h.1
    have h2 := natsSm_ok h.2.1
    have h3 := hlSm_ok h.2.2
    subst h1; subst h2; subst h3
    exact fF_ok hT hmo hX hF hk hM d _ _ _ _ _ _ _ _ hr
  · cases h

/-- A run from no arguments that answers true and leaves nothing. -/
noncomputable def fTrue (T : Tab) (X : ExtF) (F : FunF) (M : List MemoE) (N d : Nat) (f : FuncId) : Bool :=
  match fF T X F M N d (2 ^ (20 * d)) f [] [] 0 with
  | some (.v (.bool true), _, []) => true
  | _ => false

theorem callP_of_fTrue {P : Program} {T : Tab} {X : ExtF} {M : List MemoE} {N d : Nat} {f : FuncId} {tbl : List (Nat × Nat)} (hT : T.OK P) (hmo : P.follows .mixedOrders = true) (hX : X.OK P) (hF : (funX P tbl).OK P) (hk : ∀ f m, maskIn tbl f = some m → fnOK P f = true) (hM : ∀ e ∈ M, e.OK P)
    (h : fTrue T X (fnF P T tbl) M N d f = true) : CallP P f [] (.v (.bool true)) := by
  unfold fTrue at h
  split at h
  · rename_i rd hr
    have := (fF_ok hT hmo hX hF hk hM d _ _ _ _ _ _ _ _ hr).sat
    have hnil : ∀ rd', Heap.part (hget []) rd' = hget [] := by
      intro rd'; funext n; simp [Heap.part, hget_nil]
    have hov : ∀ H : Heap, Heap.over H [] = H := by
      intro H; funext n; simp [Heap.over, namesU]
    rw [hov, hnil] at this
    exact .of_sat this (by simp [namesInL])
  · cases h
theorem maskIn_mem : ∀ {l : List (Nat × Nat)} {f m : Nat}, maskIn l f = some m → (f, m) ∈ l
  | [], f, m, h => by simp [maskIn] at h
  | p :: l, f, m, h => by
    simp only [maskIn] at h
    cases hb : Nat.beq p.1 f with
    | true =>
      rw [hb] at h
      have := Nat.eq_of_beq_eq_true hb
      subst this
      cases h; simp
    | false => rw [hb] at h; exact List.mem_cons_of_mem _ (maskIn_mem h)

theorem fnOK_of_all {P : Program} {tbl : List (Nat × Nat)} (h : (tbl.all fun p => fnOK P p.1) = true) : ∀ f m, maskIn tbl f = some m → fnOK P f = true :=
  fun _ _ hm => List.all_eq_true.1 h _ (maskIn_mem hm)

#print axioms callP_of_fTrue
end Go.Ai
