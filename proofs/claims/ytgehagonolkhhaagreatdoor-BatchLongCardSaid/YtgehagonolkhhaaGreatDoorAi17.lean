/- The executor: calls. -/
import Derived.Test.YtgehagonolkhhaaGreatDoorAi16
namespace Go.Ai
open Go

/-! ### What is surely the same -/
def kindN : IntKind → Nat
  | .i8 => 0 | .i16 => 1 | .i32 => 2 | .i64 => 3 | .u8 => 4 | .u16 => 5 | .u32 => 6 | .u64 => 7

theorem kindN_inj : ∀ {a b : IntKind}, kindN a = kindN b → a = b := by intro a b; cases a <;> cases b <;> simp [kindN]

def intSm : Int → Int → Bool
  | .ofNat a, .ofNat b => Nat.beq a b
  | .negSucc a, .negSucc b => Nat.beq a b
  | _, _ => false

theorem intSm_ok : ∀ {a b : Int}, intSm a b = true → a = b
  | .ofNat a, .ofNat b, h => by simp only [intSm, Nat.beq_eq] at h; rw [h]
  | .negSucc a, .negSucc b, h => by simp only [intSm, Nat.beq_eq] at h; rw [h]
  | .ofNat _, .negSucc _, h => by simp [intSm] at h
  | .negSucc _, .ofNat _, h => by simp [intSm] at h

def bytesSm : List UInt8 → List UInt8 → Bool
  | [], [] => true
  | x :: l, y :: m => Nat.beq x.toNat y.toNat && bytesSm l m
  | _, _ => false

theorem bytesSm_ok : ∀ {a b : List UInt8}, bytesSm a b = true → a = b
  | [], [], _ => rfl
  | x :: l, y :: m, h => by
    simp only [bytesSm, Bool.and_eq_true, Nat.beq_eq] at h
    rw [UInt8.toNat_inj.1 h.1, bytesSm_ok h.2]
  | [], _ :: _, h => by simp [bytesSm] at h
  | _ :: _, [], h => by simp [bytesSm] at h

def valSm : Value → Value → Bool
  | .bool a, .bool b => a == b
  | .int k a, .int j b => Nat.beq (kindN k) (kindN j) && intSm a b
  | .string a, .string b => bytesSm a.data.toList b.data.toList
  | .pointer none, .pointer none => true
  | .slice none a b, .slice none c d => Nat.beq a c && Nat.beq b d
  | .map none, .map none => true
  | .nilFunc, .nilFunc => true
  | .nilIface, .nilIface => true
  | _, _ => false

theorem valSm_ok {x y : Value} (h : valSm x y = true) : x = y := by
  unfold valSm at h
  split at h
  · simp only [beq_iff_eq] at h; rw [h]
  · simp only [Bool.and_eq_true, Nat.beq_eq] at h; rw [kindN_inj h.1, intSm_ok h.2]
  · rename_i a b
    have := bytesSm_ok h
    rcases a with ⟨⟨a⟩⟩; rcases b with ⟨⟨b⟩⟩
    simp only at this
    rw [this]
  · rfl
  · simp only [Bool.and_eq_true, Nat.beq_eq] at h; rw [h.1, h.2]
  · rfl
  · rfl
  · rfl
  · cases h

def capSm : Option Nat → Option Nat → Bool
  | none, none => true
  | some a, some b => Nat.beq a b
  | _, _ => false

theorem capSm_ok : ∀ {a b : Option Nat}, capSm a b = true → a = b
  | none, none, _ => rfl
  | some a, some b, h => by simp only [capSm, Nat.beq_eq] at h; rw [h]
  | none, some _, h => by simp [capSm] at h
  | some _, none, h => by simp [capSm] at h

mutual
def SV.sm : SV → SV → Bool
  | .any, .any => true
  | .v x, .v y => valSm x y
  | .p n o, .p m q => Nat.beq n m && Nat.beq o q
  | .s z n o l c, .s z' n' o' l' c' => Nat.beq z z' && Nat.beq n n' && Nat.beq o o' && Nat.beq l l' && capSm c c'
  | .m n, .m m => Nat.beq n m
  | .clo (.func f) a b, .clo (.func g) c d => Nat.beq f g && smL a c && smL b d
  | .agg a, .agg b => smL a b
  | .tup a, .tup b => smL a b
  | _, _ => false
def smL : List SV → List SV → Bool
  | [], [] => true
  | x :: l, y :: m => x.sm y && smL l m
  | _, _ => false
end

mutual
theorem SV.sm_ok : ∀ (x y : SV), x.sm y = true → x = y
  | x, y, h => by
    unfold SV.sm at h
    split at h
    · rfl
    · rw [valSm_ok h]
    · simp only [Bool.and_eq_true, Nat.beq_eq] at h; rw [h.1, h.2]
    · simp only [Bool.and_eq_true, Nat.beq_eq] at h
      obtain ⟨⟨⟨⟨h1, h2⟩, h3⟩, h4⟩, h5⟩ := h
      rw [h1, h2, h3, h4, capSm_ok h5]
    · simp only [Nat.beq_eq] at h; rw [h]
    · simp only [Bool.and_eq_true, Nat.beq_eq] at h; rw [h.1.1, smL_ok _ _ h.1.2, smL_ok _ _ h.2]
    · rw [smL_ok _ _ h]
    · rw [smL_ok _ _ h]
    · cases h
theorem smL_ok : ∀ (x y : List SV), smL x y = true → x = y
  | [], [], _ => rfl
  | x :: l, y :: m, h => by
    simp only [smL, Bool.and_eq_true] at h
    rw [SV.sm_ok x y h.1, smL_ok l m h.2]
  | [], _ :: _, h => by simp [smL] at h
  | _ :: _, [], h => by simp [smL] at h
end

def mpSm : List (Value × Value) → List (Value × Value) → Bool
  | [], [] => true
  | (a, b) :: l, (c, d) :: m => valSm a c && valSm b d && mpSm l m
  | _, _ => false

theorem mpSm_ok : ∀ {a b : List (Value × Value)}, mpSm a b = true → a = b
  | [], [], _ => rfl
  | (a, b) :: l, (c, d) :: m, h => by
    simp only [mpSm, Bool.and_eq_true] at h
    rw [valSm_ok h.1.1, valSm_ok h.1.2, mpSm_ok h.2]
  | [], _ :: _, h => by simp [mpSm] at h
  | _ :: _, [], h => by simp [mpSm] at h

def blkSm : Option Blk → Option Blk → Bool
  | some ⟨t, c, none⟩, some ⟨u, d, none⟩ => Nat.beq t u && smL c d
  | some ⟨t, c, some l⟩, some ⟨u, d, some m⟩ => Nat.beq t u && smL c d && mpSm l m
  | _, _ => false

theorem blkSm_ok : ∀ {a b : Option Blk}, blkSm a b = true → a = b := by
  intro a b h
  unfold blkSm at h
  split at h
  · simp only [Bool.and_eq_true, Nat.beq_eq] at h; rw [h.1, smL_ok _ _ h.2]
  · simp only [Bool.and_eq_true, Nat.beq_eq] at h; rw [h.1.1, smL_ok _ _ h.1.2, mpSm_ok h.2]
  · cases h

/-! ### What is kept, and what of it is new -/
def keepL (H : HL) : List Nat → HL
  | [] => []
  | n :: l => (n, hget H n) :: keepL H l

theorem hget_keepL (H : HL) : ∀ (l : List Nat) (n : Nat), hget (keepL H l) n = if n ∈ l then hget H n else none
  | [], n => by simp [keepL, hget_nil, hget_cons]
  | m :: l, n => by
    simp only [keepL, hget_nil, hget_cons, hget_keepL H l n, List.mem_cons]
    by_cases e : m = n
    · subst e; simp
    · simp [e, Ne.symm e]

def diffL (A H : HL) : List Nat → HL
  | [] => []
  | n :: l => match hget H n with
    | b => bif blkSm (hget A n) b then diffL A H l else (n, b) :: diffL A H l

theorem diffL_names (A H : HL) : ∀ (l : List Nat) (n : Nat), n ∈ namesU (diffL A H l) → n ∈ l
  | [], n, h => by simp [diffL, namesU] at h
  | m :: l, n, h => by
    simp only [diffL] at h
    cases hs : blkSm (hget A m) (hget H m) with
    | true => simp only [hs, cond_true] at h; exact List.mem_cons_of_mem _ (diffL_names A H l n h)
    | false =>
      simp only [hs, cond_false, namesU, List.map_cons, List.mem_cons] at h
      rcases h with h | h
      · simp [h]
      · exact List.mem_cons_of_mem _ (diffL_names A H l n h)

theorem diffL_in (A H : HL) : ∀ (l : List Nat) (n : Nat), n ∈ namesU (diffL A H l) → hget (diffL A H l) n = hget H n
  | [], n, h => by simp [diffL, namesU] at h
  | m :: l, n, h => by
    simp only [diffL] at h ⊢
    cases hs : blkSm (hget A m) (hget H m) with
    | true => simp only [hs, cond_true] at h ⊢; exact diffL_in A H l n h
    | false =>
      simp only [hs, cond_false, namesU, List.map_cons, List.mem_cons] at h ⊢
      simp only [hget_nil, hget_cons]
      by_cases e : m = n
      · subst e; simp
      · simp only [e, if_false]
        exact diffL_in A H l n (h.resolve_left (Ne.symm e))

theorem diffL_out (A H : HL) : ∀ (l : List Nat) (n : Nat), n ∈ l → n ∉ namesU (diffL A H l) → hget A n = hget H n
  | [], n, h, _ => by simp at h
  | m :: l, n, h, h' => by
    simp only [diffL] at h'
    cases hs : blkSm (hget A m) (hget H m) with
    | true =>
      simp only [hs, cond_true] at h'
      rcases List.mem_cons.1 h with rfl | h
      · exact blkSm_ok hs
      · exact diffL_out A H l n h h'
    | false =>
      simp only [hs, cond_false, namesU, List.map_cons, List.mem_cons, not_or] at h'
      exact diffL_out A H l n ((List.mem_cons.1 h).resolve_left h'.1) h'.2

/-! ### A call -/
/-- The functions that have bodies, in the form in which the executor takes them. -/
structure FnX where
  nt : Nat
  mask : Nat
  code : LC
  rs : List ResultVar

abbrev FunX := FuncId → List SV → Option FnX
def FunX.OK (P : Program) (F : FunX) : Prop := ∀ f (xs : List SV) x, F f xs = some x → hasBody P f ∧ ∃ fn c, P.funcs[f]? = some fn ∧ fn.body = some c ∧ x.nt = xs.length + (fn.ntmps - xs.length) ∧ x.code = lite x.nt c ∧ x.rs = fn.results.toList

def Fl.over : Fl → Bool
  | .n => true
  | .r => true
  | .x _ => false

/-- What is reachable from todo; what is not there is passed over. -/
def reachS (H : HL) : Nat → List Nat → List Nat → Option (List Nat)
  | 0, _, _ => none
  | _ + 1, [], seen => some seen
  | k + 1, n :: todo, seen => bif nmem n seen then reachS H k todo seen else match hget H n with
    | some b => reachS H k (nmsL b.cells todo) (n :: seen)
    | none => reachS H k todo seen

def scrubH (K : Nat → Bool) (H : HL) : List Nat → HL
  | [] => []
  | n :: l => match hget H n with
    | some b => (n, some { b with cells := b.cells.map (scrub K 2) }) :: scrubH K H l
    | none => scrubH K H l

/-- What a function leaves: its result, the blocks that are kept, and what lies in them. -/
def finish (N : Nat) (st : St) (x : SV) (rd : List Nat) : Option (SV × List Nat × HL) :=
  match reach st.H N (x.nms (rd.filter fun n => (hget st.H n).isSome)) [] with
  | some keep => some (x, keep, st.H)
  | none => match reachS st.H N (x.nms (rd.filter fun n => (hget st.H n).isSome)) [] with
    | some keep => bif keep.all (fun n => (hget st.H n).isSome) then some (scrub (fun m => nmem m keep) 2 x, keep, scrubH (fun m => nmem m keep) st.H keep) else none
    | none => none

def goneR (H : HL) (keep : List Nat) : List Nat → List Nat
  | [] => keep
  | n :: l => bif nmem n keep then goneR H keep l else n :: goneR H keep l

def exFC (T : Tab) (X : ExtF) (F : FunX) (N : Nat) (C : CallF) : CallF := fun W f xs H nx => match F f xs with
    | none => none
    | some fx => match reach H N (nmsL xs []) [] with
      | none => none
      | some rd => bif rd.all (fun n => Nat.blt n nx) && Nat.blt 0 (W >>> 20) then
          match exC T X C (W >>> 20) N fx.mask fx.code ⟨argσ xs 0, keepL H rd, nx⟩ with
          | none => none
          | some (fl, st) => bif fl.over then match resOf T st fx.rs with
              | none => none
              | some x => match finish N st x rd with
                | none => none
                | some (y, keep, fin) => match diffL (keepL H rd) fin (goneR fin keep rd) with
                  | U => bif (namesU U).all (fun m => nmem m rd || (Nat.ble nx m && Nat.blt m (nx + W))) then some (y, rd, U) else none
            else none
        else none

def exF (T : Tab) (X : ExtF) (F : FunX) (N : Nat) : Nat → CallF
  | 0 => fun _ _ _ _ _ => none
  | d + 1 => exFC T X F N (exF T X F N d)

theorem mem_goneR {H : HL} {keep : List Nat} : ∀ {rd : List Nat} {n : Nat}, n ∈ goneR H keep rd ↔ n ∈ keep ∨ n ∈ rd
  | [], n => by simp [goneR]
  | m :: rd, n => by
    simp only [goneR, nmem_eq]
    cases hm : keep.contains m with
    | true =>
      simp only [cond_true, mem_goneR (rd := rd), List.mem_cons]
      have : m ∈ keep := by simpa using hm
      constructor
      · rintro (h | h)
        · exact .inl h
        · exact .inr (.inr h)
      · rintro (h | rfl | h)
        · exact .inl h
        · exact .inl this
        · exact .inr h
    | false =>
      simp only [cond_false, List.mem_cons, mem_goneR (rd := rd)]
      constructor
      · rintro (h | h | h)
        · exact .inr (.inl h)
        · exact .inl h
        · exact .inr (.inr h)
      · rintro (h | h | h)
        · exact .inr (.inl h)
        · exact .inl h
        · exact .inr (.inr h)

theorem frzP_refl {H : HL} {K₀ K : Nat → Bool} : ∀ {l : List SV}, namesInL K l = true → FrzP (Frz H K₀ 0 K) l l
  | [], _ => by simp [FrzP]
  | x :: l, h => by
    simp only [namesInL, Bool.and_eq_true] at h
    simp only [FrzP, Frz]
    exact ⟨⟨trivial, h.1⟩, frzP_refl (H := H) (K₀ := K₀) h.2⟩

theorem namesInL_mono {D D' : Nat → Bool} {l : List SV} (hD : ∀ m, D m = true → D' m = true) (h : namesInL D l = true) : namesInL D' l = true := by
  have := (nmsL_ok D l []).2 ⟨h, by simp⟩
  exact ((nmsL_ok D' l []).1 fun m hm => hD m (this m hm)).1

theorem namesIn_mono {D D' : Nat → Bool} {x : SV} (hD : ∀ m, D m = true → D' m = true) (h : x.namesIn D = true) : x.namesIn D' = true := by
  have := (SV.nms_ok D x []).2 ⟨h, by simp⟩
  exact ((SV.nms_ok D' x []).1 fun m hm => hD m (this m hm)).1

theorem scrubH_get (K : Nat → Bool) (H : HL) : ∀ (l : List Nat) (n : Nat), hget (scrubH K H l) n = if n ∈ l then (hget H n).map (fun b => { b with cells := b.cells.map (scrub K 2) }) else none
  | [], n => by simp [scrubH, hget_nil, hget_cons]
  | m :: l, n => by
    have ih := scrubH_get K H l n
    simp only [scrubH]
    cases hm : hget H m with
    | some b =>
      simp only [hget_nil, hget_cons]
      by_cases e : m = n
      · subst e; simp [hm]
      · simp [e, Ne.symm e, ih]
    | none =>
      simp only [ih]
      by_cases e : m = n
      · subst e; simp [hm]
      · simp [Ne.symm e]

theorem finish_ok {T : Tab} {rs : List ResultVar} {N : Nat} {st : St} {x y : SV} {rd keep : List Nat} {fin : HL} (hx : resOf T st rs = some x) (h : finish N st x rd = some (y, keep, fin)) :
    Leaves T rs y (keepL fin keep) st ∧ ∀ n ∈ rd, n ∉ keep → hget fin n = none := by
  unfold finish at h
  split at h
  · rename_i keep' hkeep
    cases h
    obtain ⟨k1, k2, _⟩ := reach_ok N _ _ _ hkeep (by simp)
    have hkn := (SV.nms_ok (fun m => keep.contains m) x (rd.filter fun n => (hget st.H n).isSome)).1 (fun m hm => by simpa using k2 m hm)
    have hsome : ∀ n, n ∈ keep → (hget (keepL st.H keep) n).isSome = true := by
      intro n hn
      obtain ⟨b, hb, _⟩ := k1 n hn
      rw [hget_keepL, if_pos hn, hb]; rfl
    refine ⟨?_, fun n hn hk => ?_⟩
    · unfold Leaves
      refine ⟨x, 0, hx, ?_, ?_⟩
      · simp only [Frz]
        exact ⟨trivial, namesIn_mono (fun m hm => hsome m (by simpa using hm)) hkn.1⟩
      · intro n b hn
        rw [hget_keepL] at hn
        split at hn
        · rename_i hk
          obtain ⟨b', hb', hc'⟩ := k1 n hk
          rw [hn] at hb'; cases hb'
          exact ⟨b, hn, rfl, rfl, frzP_refl (namesInL_mono (fun m hm => hsome m (by simpa using hm)) hc')⟩
        · cases hn
    · cases e : hget st.H n with
      | none => rfl
      | some b => exact (hk (by simpa using hkn.2 n (by simp [hn, e]))).elim
  · split at h
    · rename_i keep' hkeep
      cases hall : keep'.all (fun n => (hget st.H n).isSome) with
      | false => rw [hall] at h; cases h
      | true =>
        rw [hall] at h
        simp only [cond_true, Option.some.injEq, Prod.mk.injEq] at h
        obtain ⟨rfl, rfl, rfl⟩ := h
        have hK : (fun n => (hget (keepL (scrubH (fun m => nmem m keep') st.H keep') keep') n).isSome) = fun m => nmem m keep' := by
          funext n
          rw [hget_keepL, scrubH_get, nmem_eq]
          by_cases hn : n ∈ keep'
          · have := List.all_eq_true.1 hall n hn
            simp [hn, this]
          · simp [hn]
        refine ⟨?_, fun n hn hk => ?_⟩
        · unfold Leaves
          rw [hK]
          refine ⟨x, 2, hx, scrub_frz 1 x, fun n b hn => ?_⟩
          rw [hget_keepL, scrubH_get] at hn
          split at hn
          · rename_i hk
            cases e : hget st.H n with
            | none => rw [e] at hn; cases hn
            | some b₀ =>
              rw [e] at hn
              simp only [Option.map_some, Option.some.injEq] at hn
              subst hn
              exact ⟨b₀, rfl, rfl, rfl, frzP_map (scrub_frz 1) _⟩
          · cases hn
        · rw [scrubH_get, if_neg hk]
    · cases h

theorem exFC_ok {P : Program} {T : Tab} {X : ExtF} {F : FunX} {N : Nat} {C : CallF} (hT : T.OK P) (hmo : P.follows .mixedOrders = true) (hX : X.OK P) (hF : F.OK P) (hC : ∀ W, C.OK P W) (W : Nat) : (exFC T X F N C).OK P W :=
  fun f xs H nx r rd U h => by
    unfold exFC at h
    split at h
    · cases h
    · rename_i fx hfx
      split at h
      · cases h
      · rename_i rd' hrd
        cases hc : rd'.all (fun n => Nat.blt n nx) && Nat.blt 0 (W >>> 20) with
        | false => simp [hc] at h
        | true =>
          simp only [hc, cond_true] at h
          simp only [Bool.and_eq_true, List.all_eq_true, Nat.blt_eq] at hc
          obtain ⟨hlt, hW⟩ := hc
          split at h
          · cases h
          · rename_i fl st hex
            cases hov : fl.over with
            | false => simp [hov] at h
            | true =>
              simp only [hov, cond_true] at h
              split at h
              · cases h
              · rename_i x hx
                split at h
                · cases h
                · rename_i y keep fin hfin
                  generalize hkeep' : goneR fin keep rd' = keep' at h
                  cases hall : (namesU (diffL (keepL H rd') fin keep')).all (fun m => nmem m rd' || (Nat.ble nx m && Nat.blt m (nx + W))) with
                  | false => rw [hall] at h; cases h
                  | true =>
                    simp only [hall, cond_true, Option.some.injEq, Prod.mk.injEq] at h
                    obtain ⟨rfl, rfl, rfl⟩ := h
                    obtain ⟨hbody, fn, c, hf, hb, hnt, hcode, hrs⟩ := hF f xs fx hfx
                    obtain ⟨r1, r2, _⟩ := reach_ok N _ _ _ hrd (by simp)
                    obtain ⟨hlv, hgone⟩ := finish_ok hx hfin
                    rw [hrs] at hlv
                    have hmk : ∀ m, m ∈ keep' ↔ m ∈ keep ∨ m ∈ rd' := fun m => by rw [← hkeep']; exact mem_goneR
                    have hrdk : ∀ m ∈ rd', m ∈ keep' := fun m hm => (hmk m).2 (.inr hm)
                    have hA : hget (keepL H rd') = Heap.part (hget H) rd' := by
                      funext n; rw [hget_keepL]; rfl
                    have hL' : Heap.over (Heap.part (hget H) rd') (diffL (keepL H rd') fin keep') = hget (keepL fin keep) := by
                      have : hget (keepL fin keep) = hget (keepL fin keep') := by
                        funext n
                        rw [hget_keepL, hget_keepL]
                        by_cases h1 : n ∈ keep
                        · rw [if_pos h1, if_pos ((hmk n).2 (.inl h1))]
                        · rw [if_neg h1]
                          by_cases h2 : n ∈ keep'
                          · rw [if_pos h2]; exact (hgone n (((hmk n).1 h2).resolve_left h1) h1).symm
                          · rw [if_neg h2]
                      rw [this]
                      funext n
                      simp only [Heap.over]
                      rw [hget_keepL fin keep' n]
                      split
                      · rename_i hn
                        rw [diffL_in _ _ _ _ hn, if_pos (diffL_names _ _ _ _ hn)]
                      · rename_i hn
                        rw [← hA]
                        by_cases hk : n ∈ keep'
                        · rw [if_pos hk, diffL_out _ _ _ _ hk hn]
                        · rw [if_neg hk, hget_keepL, if_neg (fun h => hk (hrdk n h))]
                    refine ⟨hbody, ?_, ?_, ?_, ?_⟩
                    · rw [hL', ← hA]
                      intro E w vals hdom hargs hH hE
                      have hlen := hargs.length
                      rw [hcode] at hex
                      have hnx : ∀ n, nx ≤ n → hget (keepL H rd') n = none := by
                        intro n hn
                        rw [hget_keepL, if_neg]
                        intro h'
                        have := hlt n h'
                        omega
                      refine calls_of_wp hf hb (wp_mono (exC_ok (B := ⟨P, T, hmo, E, w, hget (keepL H rd')⟩) (nt := fx.nt) hW hX (hC (W >>> 20)) c fl _ st hex _ w ?_ ?_) ?_)
                      · refine ⟨E, ⟨hT, ?_, hH, hE, hdom nx (hnx nx (Nat.le_refl _))⟩, fun n hn => hdom n (hnx n hn), (Post.refl hH hE).weak, rfl⟩
                        intro t y ht
                        have ⟨_, h1⟩ := argσ_get ht
                        simp only [Nat.sub_zero] at h1
                        obtain ⟨v, h2, h3⟩ := hargs.get t y h1
                        have hlt : t < vals.size := by
                          have := (List.getElem?_eq_some_iff.1 h2).1; simpa using this
                        refine ⟨by simp; omega, ?_⟩
                        have : (vals ++ Array.replicate (fn.ntmps - vals.size) undef).getD t undef = v := by
                          have hv : vals[t] = v := by
                            have := (List.getElem?_eq_some_iff.1 h2).2; simpa using this
                          rw [Array.getD_eq_getD_getElem?, Array.getElem?_append_left hlt, Array.getElem?_eq_getElem hlt]
                          simpa using hv
                        rw [this]; exact h3
                      · have : vals.size = xs.length := by simpa using hlen
                        simp [this, hnt]
                      · intro e a w' hq
                        cases e with
                        | normal =>
                          obtain ⟨v, E', h3, h4, h5, h6⟩ := leaves_post (fn := fn) hq.2.1 hlv
                          exact ⟨h4, v, h3, v, E', rfl, h5, h6⟩
                        | ret =>
                          obtain ⟨v, E', h3, h4, h5, h6⟩ := leaves_post (fn := fn) hq.2.1 hlv
                          exact ⟨h4, v, h3, v, E', rfl, h5, h6⟩
                        | exit id =>
                          have := hq.1
                          subst this
                          simp [Fl.over] at hov
                        | goto l => exact hq.elim
                        | panic c => exact hq.elim
                        | outgrown => exact hq.elim
                    · refine ((nmsL_ok _ xs []).1 fun m hm => ?_).1
                      have hm' := r2 m hm
                      obtain ⟨b, hb, _⟩ := r1 m hm'
                      simp only [live, Bool.and_eq_true]
                      exact ⟨by simpa using hm', by rw [hb]; rfl⟩
                    · intro n hn b hb
                      obtain ⟨b', hb', hc'⟩ := r1 n hn
                      rw [hb] at hb'; cases hb'
                      refine namesInL_mono (fun m hm => ?_) hc'
                      have hm' : m ∈ rd' := by simpa using hm
                      obtain ⟨b'', hb'', _⟩ := r1 m hm'
                      simp only [live, Bool.and_eq_true]
                      exact ⟨hm, by rw [hb'']; rfl⟩
                    · intro m hm
                      have := List.all_eq_true.1 hall m hm
                      simp only [nmem_eq, Bool.or_eq_true, Bool.and_eq_true, Nat.ble_eq, Nat.blt_eq] at this
                      rcases this with h1 | h1
                      · left
                        obtain ⟨b, hb, _⟩ := r1 m (by simpa using h1)
                        simp only [live, Bool.and_eq_true]
                        exact ⟨h1, by rw [hb]; rfl⟩
                      · exact .inr h1
theorem exF_ok {P : Program} {T : Tab} {X : ExtF} {F : FunX} {N : Nat} (hT : T.OK P) (hmo : P.follows .mixedOrders = true) (hX : X.OK P) (hF : F.OK P) : ∀ (d W : Nat), CallF.OK P W (exF T X F N d)
  | 0, _ => fun _ _ _ _ _ _ _ h => by simp [exF] at h
  | d + 1, W => exFC_ok hT hmo hX hF (exF_ok hT hmo hX hF d) W
#print axioms exF_ok
end Go.Ai
