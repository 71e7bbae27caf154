/- Steps: clear; strings and bytes; unsafe pointers; maps. -/
import Derived.Test.YtgehagonolkhhaaGreatDoorAi7g
import Derived.Laws.IdiomStrings
namespace Go.Ai
open Go

section
variable {P : Program} {T : Tab} {st : St}

/-! ### Strings and bytes -/
def bytesOf : List SV → Option (List Int)
  | [] => some []
  | .v (.int .u8 n) :: l => (bytesOf l).map (n :: ·)
  | _ => none

theorem bytesOf_eq : ∀ {l : List SV} {ns : List Int}, bytesOf l = some ns → l = ns.map fun n => .v (.int .u8 n)
  | [], ns, h => by simp only [bytesOf, Option.some.injEq] at h; subst h; rfl
  | x :: l, ns, h => by
    unfold bytesOf at h
    split at h
    · rename_i e; cases e
    · rename_i n l' e
      cases e
      cases hb : bytesOf l with
      | none => simp [hb] at h
      | some ms =>
        simp only [hb, Option.map_some, Option.some.injEq] at h
        subst h
        simp [bytesOf_eq hb]
    · cases h

def bytesS (ns : List Int) : ByteArray := ⟨(ns.map fun n => UInt8.ofNat n.toNat).toArray⟩

theorem foldl_push : ∀ (ns : List Int) (r : ByteArray), ns.foldl (fun r n => r.push (UInt8.ofNat n.toNat)) r = ⟨r.data ++ (ns.map fun n => UInt8.ofNat n.toNat).toArray⟩
  | [], r => by simp
  | n :: ns, r => by
    simp only [List.foldl_cons, List.map_cons]
    rw [foldl_push ns]
    simp [ByteArray.push]

theorem relL_vals_eq {w : World} {E : Env} : ∀ {vs us : List Value}, RelL w E (vs.map SV.v) us → us = vs
  | [], us, h => by simpa [RelL] using h
  | v :: vs, us, h => by
    simp only [List.map_cons, RelL, RelV] at h
    obtain ⟨_, us', rfl, rfl, h⟩ := h
    rw [relL_vals_eq h]

def stConvB (T : Tab) (st : St) (s t : TypeId) (x : Operand) : Option Res :=
  match T s, T t with
  | some ⟨_, _, _, .slice e⟩, some ⟨_, _, _, .string⟩ => match T e with
    | some ⟨_, _, _, .int .u8⟩ => match st.ev x with
      | .v (.string _) => none
      | _ => match srcOf st.H 1 (st.ev x) with
        | some (l, _, p) => match bytesOf l with
          | some ns => okRes st (.v (.string (bytesS ns))) (p = true)
          | none => none
        | none => none
    | _ => none
  | _, _ => none

theorem st_convB {s t : TypeId} {x : Operand} {r : Res} (hr : stConvB T st s t x = some r) : StepOK P T st (.convert s t x) r := by
  unfold stConvB at hr
  split at hr
  · rename_i s1 s2 s3 e s4 s5 s6 his hit
    split at hr
    · rename_i s7 s8 s9 hie
      split at hr
      · cases hr
      · rename_i hns
        split at hr
        · rename_i l k p hsrc
          split at hr
          · rename_i ns hb
            refine .pure hr fun E a w o hc he hp => ?_
            have hx := ev_ok hc.fr x
            obtain ⟨vs, k1, k2, k3, k4⟩ := src_ok (P := P) hc.hp hx hsrc hp
            have hl := bytesOf_eq hb
            have hvs : vs = ns.map (Value.int .u8) := by
              have : l = (ns.map (Value.int .u8)).map SV.v := by rw [hl, List.map_map]; rfl
              rw [this] at k1
              exact relL_vals_eq k1
            have hus := under_slice (hc.tab s _ his) rfl
            have hut := under_string (hc.tab t _ hit) rfl
            have hue := under_int (hc.tab e _ hie) rfl
            refine ⟨.string (bytesS ns), ?_, by simp only [RelV]⟩
            have key : ∀ (b : Option Addr) (n c : Nat), a.eval x = .slice b n c → (execOp a.eval o).run P w = .ok (.value (.string (bytesS ns))) w := by
              intro b n c hv
              have hkn : k = n := by
                have := k3 w
                rw [hv] at this
                simpa [Builtin.lenOf] using this.symm
              subst hkn
              simp only [execOp, he, Sem.run_bind, hv, run_convert_bytes_string w s t e b k c hus hue hut]
              have k4' := k4 w k rfl (Nat.le_refl _)
              rw [hv, ← k2, List.take_length, hvs] at k4'
              cases b with
              | none =>
                have : ns = [] := by
                  rw [run_firstCells_none] at k4'
                  cases ns with
                  | nil => rfl
                  | cons _ _ => simp at k4'
                subst this
                simp [Conv.bytesToString, bytesS]
                rfl
              | some b =>
                simp only [Builtin.firstCells, Nat.mul_one] at k4'
                rw [run_bytesToString w b k c ns k4', foldl_push]
                simp [bytesS]
            unfold srcOf at hsrc
            split at hsrc
            · rename_i hy; rw [show Ai.ev (lget st.σ) x = _ from hy] at hx; simp only [RelV] at hx; exact key _ _ _ hx
            · rename_i hy; exact (hns _ hy).elim
            · rename_i hy; rw [show Ai.ev (lget st.σ) x = _ from hy] at hx; simp only [RelV] at hx; obtain ⟨_, _, _, _, hx, _⟩ := hx; exact key _ _ _ hx
            · rename_i hy; rw [show Ai.ev (lget st.σ) x = _ from hy] at hx; simp only [RelV] at hx; obtain ⟨_, _, hx, _⟩ := hx; exact key _ _ _ hx
            · cases hsrc
          · cases hr
        · cases hr
    · cases hr
  · cases hr

/-- A string's bytes, as a slice that nobody writes. -/
def stConvS (T : Tab) (st : St) (s t : TypeId) (x : Operand) : Option Res :=
  match T s, T t with
  | some ⟨_, _, _, .string⟩, some ⟨_, _, _, .slice e⟩ => match T e with
    | some ⟨_, _, _, .int .u8⟩ => match st.ev x with
      | .v (.string b) => okRes st (.xs 1 none (b.data.toList.map fun c => [.v (.int .u8 c.toNat)])) True
      | _ => none
    | _ => none
  | _, _ => none

theorem relE_singles {w : World} {E : Env} {b : Nat} : ∀ (l : List UInt8) (off : Nat), (∀ j (h : j < l.length), w.cell? ⟨b, off + j, none⟩ = some (.int .u8 (l[j].toNat : Int))) → RelE w E (l.map fun c => [.v (.int .u8 c.toNat)]) b off 1
  | [], _, _ => by simp [RelE]
  | c :: l, off, h => by
    simp only [List.map_cons, RelE, RelC, RelV]
    refine ⟨rfl, ⟨⟨_, h 0 (by simp), rfl⟩, trivial⟩, relE_singles l (off + 1) fun j hj => ?_⟩
    have := h (j + 1) (by simpa using hj)
    rw [show off + 1 + j = off + (j + 1) by omega]
    simpa using this

theorem st_convS {s t : TypeId} {x : Operand} {r : Res} (hr : stConvS T st s t x = some r) : StepOK P T st (.convert s t x) r := by
  unfold stConvS at hr
  split at hr
  · rename_i s1 s2 s3 s4 s5 s6 e his hit
    split at hr
    · rename_i s7 s8 s9 hie
      split at hr
      · rename_i b hx
        cases hr
        refine ⟨fun E a w o hc he _ => ?_, Nat.le_refl _, fun n hn => .inl hn, Nat.le_succ _⟩
        have h1 := ev_ok hc.fr x
        rw [show Ai.ev (lget st.σ) x = _ from hx] at h1
        simp only [RelV] at h1
        have hrun := Lib.run_convert_string_bytes (P := P) w s t e b (under_string (hc.tab s _ his) rfl) (under_slice (hc.tab t _ hit) rfl) (under_int (hc.tab e _ hie) rfl)
        have hsz := Lib.bytesWorld_size w e b
        have hold := Lib.bytesWorld_at_old w e b
        have hnew := Lib.bytesWorld_at_new w e b
        have hroom : ∀ k j, HasRoom w k j → HasRoom (Lib.bytesWorld w e b) k j := by
          rintro k j ⟨cs, ty, fz, r1, r2⟩
          exact ⟨cs, ty, fz, by rw [hold k (Array.getElem?_eq_some_iff.1 r1).1]; exact r1, r2⟩
        have hle : Le E w ⟨E.ι, fun k => E.I k ∨ k = w.heap.size⟩ (Lib.bytesWorld w e b) :=
          ⟨fun _ _ h => h, fun k hk => ⟨.inl hk, hold k (hc.en.I k hk)⟩, hroom⟩
        refine ⟨.slice (some ⟨w.heap.size, 0, none⟩) b.size (grownCap w b.size 0 e), Lib.bytesWorld w e b, ⟨E.ι, fun k => E.I k ∨ k = w.heap.size⟩, .inl ?_, ?_, ?_⟩
        · simp only [execOp, he, Sem.run_bind, h1, hrun, Result.andThen_ok, Sem.run_pure]
        · simp only [List.nil_append]
          refine ⟨fun _ _ h => h, fun _ h => .inl h, ⟨rfl, rfl, rfl, by omega, fun k hk _ => hold k hk, hroom⟩, ⟨?_, hc.hp.inj⟩, ⟨?_, ?_⟩, ?_, fun n k hn hk => .inr ⟨n, hn, hk⟩, fun _ h _ => h⟩
          · intro n c hn
            obtain ⟨k, q, g1, g2, g3, g3', g4⟩ := hc.hp.blk n c hn
            have hlt := hc.en.ι n k g1
            refine ⟨k, q, g1, ?_, by rw [hold k hlt]; exact g3, g3', RelC.le hle _ _ _ (hold k hlt) g4⟩
            rintro (h | rfl)
            · exact g2 h
            · omega
          · rintro k (h | rfl)
            · have := hc.en.I k h; omega
            · omega
          · intro n k hk; have := hc.en.ι n k hk; omega
          · rintro k (h | rfl)
            · exact .inl h
            · exact .inr (.inl (Nat.le_refl _))
        · simp only [RelV]
          have hbl : (b.data.toList.map fun c => [SV.v (.int .u8 c.toNat)]).length = b.size := by simp
          refine ⟨_, _, by rw [hbl], by rw [hbl]; exact grownCap_ge _ _ _ _, (fun _ h => by cases h), .inr ⟨w.heap.size, 0, rfl, .inr rfl, ?_, ?_⟩⟩
          · refine ⟨_, _, _, hnew, ?_⟩
            have := grownCap_ge w b.size 0 e
            simp [Lib.bytesCells]
            have hd : b.data.size = b.size := rfl
            omega
          · refine relE_singles _ 0 fun j hj => ?_
            have hj' : j < b.size := by simpa using hj
            rw [Nat.zero_add, Lib.bytesWorld_cell w e b j hj']
            simp only [List.getD, List.getElem?_eq_getElem hj]
            rfl
      · cases hr
    · cases hr
  · cases hr

/-! ### Unsafe pointers -/
theorem liesAt_self {u : TypeId} (hc : P.cellsOf u ≠ 0) {count : Nat} (hn : 1 ≤ count) : liesAt P P.depth u count 0 u 1 = true := by
  have hd : P.depth = (2 * (P.types.size + Made.depth) + 1) + 1 := rfl
  rw [hd]
  simp only [liesAt, Bool.or_eq_true]
  left
  rw [hd]
  simp [rowAt, hc, hn, sameLayout]

/-- A pointer to all of a block, as an unsafe one, and back. -/
def stConvU (T : Tab) (st : St) (s t : TypeId) (x : Operand) : Option Res :=
  match T s, T t with
  | some ⟨_, _, _, .ptr u⟩, some ⟨_, _, _, .uptr⟩ => match T u, st.ev x with
    | some iu, .p n o => match blkOf st.H (st.ev x) with
      | some ⟨_, bc, none⟩ => okRes st (.p n o) (iu.size ≠ 0 ∧ o < bc.length)
      | _ => none
    | _, .v (.pointer none) => okRes st (.v (.pointer none)) True
    | _, _ => none
  | some ⟨_, _, _, .uptr⟩, some ⟨_, _, _, .ptr u⟩ => match T u, st.ev x with
    | some iu, .p n 0 => match blkOf st.H (st.ev x) with
      | some ⟨bt, bc, none⟩ => okRes st (.p n 0) (bt = u ∧ iu.size ≠ 0 ∧ iu.size ≤ bc.length)
      | _ => none
    | _, .v (.pointer none) => okRes st (.v (.pointer none)) True
    | _, _ => none
  | _, _ => none

theorem st_convU {s t : TypeId} {x : Operand} {r : Res} (hr : stConvU T st s t x = some r) : StepOK P T st (.convert s t x) r := by
  unfold stConvU at hr
  split at hr
  · rename_i s1 s2 s3 u s4 s5 s6 his hit
    split at hr
    · rename_i iu n o hiu hx
      split at hr
      · rename_i bt bc hblk
        rw [hx] at hblk; simp only [blkOf] at hblk
        refine .pure hr fun E a w q hc he hs => ?_
        have h1 := ev_ok hc.fr x
        rw [show Ai.ev (lget st.σ) x = _ from hx] at h1
        have h1' := h1
        simp only [RelV] at h1
        obtain ⟨b, e1, h1⟩ := h1
        obtain ⟨k', cs, f1, f2, f3⟩ := blk_cells hc.hp hblk rfl
        rw [e1] at f1; cases f1
        obtain ⟨j, _, _, j1, _, _, j4, _⟩ := ti_info (hc.tab u iu hiu)
        have hsz := relC_size f3 f2
        have := Lib.run_to_unsafe (P := P) w (cells := cs.size) (e := bt) ⟨b, o, none⟩ (under_ptr (hc.tab s _ his) rfl) (under_uptr (hc.tab t _ hit) rfl) j1 (by rw [j4]; exact hs.1) (by simp [World.shape?, f2]) (by simp only at *; omega)
        exact ⟨.pointer (some ⟨b, o, none⟩), by simp only [execOp, he, Sem.run_bind, h1, this, Result.andThen_ok, Sem.run_pure], by simp only [RelV]; exact ⟨b, e1, rfl⟩⟩
      · cases hr
    · rename_i hx
      refine .pure hr fun E a w q hc he hs => ?_
      have h1 := ev_ok hc.fr x
      rw [show Ai.ev (lget st.σ) x = _ from hx] at h1
      simp only [RelV] at h1
      exact ⟨.pointer none, by simp [execOp, he, h1, convert, run_underlying (under_ptr (hc.tab s _ his) rfl), run_underlying (under_uptr (hc.tab t _ hit) rfl), Conv.unsafePointer], by simp [RelV]⟩
    · cases hr
  · rename_i s1 s2 s3 s4 s5 s6 u his hit
    split at hr
    · rename_i iu n hiu hx
      split at hr
      · rename_i bt bc hblk
        rw [hx] at hblk; simp only [blkOf] at hblk
        refine .pure hr fun E a w q hc he hs => ?_
        obtain ⟨rfl, hs1, hs2⟩ := hs
        have h1 := ev_ok hc.fr x
        rw [show Ai.ev (lget st.σ) x = _ from hx] at h1
        simp only [RelV] at h1
        obtain ⟨b, e1, h1⟩ := h1
        obtain ⟨k', cs, f1, f2, f3⟩ := blk_cells hc.hp hblk rfl
        rw [e1] at f1; cases f1
        obtain ⟨j, _, _, j1, _, _, j4, _⟩ := ti_info (hc.tab bt iu hiu)
        have hsz := relC_size f3 f2
        have hcells : P.cellsOf bt = iu.size := by simp [Program.cellsOf, j1, j4]
        have hlies : liesAt P P.depth bt (cs.size / P.cellsOf bt) 0 bt 1 = true := by
          refine liesAt_self (by rw [hcells]; exact hs1) ?_
          rw [hcells]
          exact (Nat.le_div_iff_mul_le (Nat.pos_of_ne_zero hs1)).2 (by simp only at *; omega)
        have := Lib.run_from_unsafe (P := P) w (cells := cs.size) (e := bt) ⟨b, 0, none⟩ (under_uptr (hc.tab s _ his) rfl) (under_ptr (hc.tab t _ hit) rfl) j1 (by simp [World.shape?, f2]) hlies
        exact ⟨.pointer (some ⟨b, 0, none⟩), by simp only [execOp, he, Sem.run_bind, h1, this, Result.andThen_ok, Sem.run_pure], by simp only [RelV]; exact ⟨b, e1, rfl⟩⟩
      · cases hr
    · rename_i hx
      refine .pure hr fun E a w q hc he hs => ?_
      have h1 := ev_ok hc.fr x
      rw [show Ai.ev (lget st.σ) x = _ from hx] at h1
      simp only [RelV] at h1
      exact ⟨.pointer none, by simp [execOp, he, h1, convert, run_underlying (under_ptr (hc.tab t _ hit) rfl), run_underlying (under_uptr (hc.tab s _ his) rfl), Conv.unsafePointer], by simp [RelV]⟩
    · cases hr
  · cases hr

/-- unsafe.SliceData. -/
def stData (st : St) (args : Array Operand) : Option Res :=
  match args.toList with
  | [x] => match st.ev x with
    | .v (.slice none 0 0) => okRes st (.v (.pointer none)) True
    | .s _ n off len _ => okRes st (.p n off) (0 < len)
    | _ => none
  | _ => none

theorem st_data {c : Call} {r : Res} (hb : c.callee = .builtin .unsafeSliceData) (hr : stData st c.args = some r) : StepOK P T st (.call c) r := by
  unfold stData at hr
  split at hr
  · rename_i x hx
    have hx' : c.args = #[x] := by rw [← Array.toArray_toList (xs := c.args), hx]
    split at hr
    · rename_i hz
      refine .pure hr fun E a w q hc he hs => ⟨.pointer none, ?_, by simp [RelV]⟩
      have h1 := ev_ok hc.fr x
      rw [show Ai.ev (lget st.σ) x = _ from hz] at h1
      simp only [RelV] at h1
      have := Lib.run_unsafeSliceData_nil (P := P) w c.argTypes q.type
      simp [execOp, he, resolve, hb, invoke, builtin, hx', h1, this]
    · rename_i z n off len cap hz
      refine .pure hr fun E a w q hc he hs => ?_
      have h1 := ev_ok hc.fr x
      rw [show Ai.ev (lget st.σ) x = _ from hz] at h1
      simp only [RelV] at h1
      obtain ⟨b, o, k, e1, h1, e2, e3, _⟩ := h1
      have hk : k ≠ 0 := by omega
      rcases e2 with e2 | rfl
      · exact (hk e2).elim
      · exact ⟨.pointer (some ⟨b, o, none⟩), by simp [execOp, he, resolve, hb, invoke, builtin, hx', h1, Lib.run_unsafeSliceData_row (P := P) w c.argTypes q.type ⟨b, o, none⟩ len k hk], by simp only [RelV]; exact ⟨b, e1, rfl⟩⟩
    · cases hr
  · cases hr

def u8s (l : List SV) : Option (List UInt8) :=
  match bytesOf l with
  | some ns => if ns.all (fun n => decide (0 ≤ n) && decide (n < 256)) then some (ns.map fun n => UInt8.ofNat n.toNat) else none
  | none => none

theorem u8s_eq {l : List SV} {bs : List UInt8} (h : u8s l = some bs) : l = bs.map fun b => .v (.int .u8 b.toNat) := by
  unfold u8s at h
  split at h
  · rename_i ns hb
    split at h
    · rename_i hall
      cases h
      rw [bytesOf_eq hb, List.map_map]
      refine List.map_congr_left fun n hn => ?_
      have := List.all_eq_true.1 hall n hn
      simp only [Bool.and_eq_true, decide_eq_true_eq] at this
      have h256 : n.toNat < 256 := by omega
      have : ((UInt8.ofNat n.toNat).toNat : Int) = n := by
        rw [UInt8.toNat_ofNat_of_lt' (by simpa using h256)]
        omega
      simp only [Function.comp_apply, this]
    · cases h
  · cases h

/-- unsafe.String: the bytes are read, and nobody writes them any more. -/
def stUStr (T : Tab) (st : St) (ts : Array TypeId) (args : Array Operand) : Option Res :=
  match ts.toList, args.toList with
  | [pt, _], [x, y] => match T pt, st.ev x, st.ev y with
    | some ⟨_, _, _, .ptr e⟩, .p n 0, .v (.int .i64 k) => match T e, blkOf st.H (st.ev x) with
      | some ie, some ⟨bt, bc, none⟩ => match u8s (bc.take k.toNat) with
        | some (b :: bs) => some ⟨.v (.string ⟨(b :: bs).toArray⟩), [(n, none)], st.nx, decide (bt = e ∧ ie.size = 1 ∧ k = ((b :: bs).length : Nat) ∧ k ≤ 9223372036854775807)⟩
        | _ => none
      | _, _ => none
    | some _, .v (.pointer none), .v (.int .i64 0) => okRes st (.v (.string .empty)) True
    | _, _, _ => none
  | _, _ => none

theorem st_uStr {c : Call} {r : Res} (hT : T.OK P) (hb : c.callee = .builtin .unsafeString) (hr : stUStr T st c.argTypes c.args = some r) : StepOK P T st (.call c) r := by
  have run_it : ∀ {w w' : World} {a : Act} {o : Oper} {v : Value}, o.op = .call c → (Builtin.unsafeString_ c.argTypes o.type (c.args.map a.eval)).run P w = .ok v w' → (execOp a.eval o).run P w = .ok (.value v) w' := by
    intro w w' a o v he h
    simp [execOp, he, resolve, hb, invoke, builtin, h]
  unfold stUStr at hr
  split at hr
  · rename_i pt it x y hts hxy
    have hargs : c.args = #[x, y] := by rw [← Array.toArray_toList (xs := c.args), hxy]
    have hts' : c.argTypes = #[pt, it] := by rw [← Array.toArray_toList (xs := c.argTypes), hts]
    split at hr
    · rename_i s1 s2 s3 e n k hit hx hy
      split at hr
      · rename_i ie bt bc hie hblk
        rw [hx] at hblk; simp only [blkOf] at hblk
        split at hr
        · rename_i b bs hbs
          cases hr
          refine ⟨fun E a w o hc he hs => ?_, Nat.le_refl _, fun m hm => ?_, Nat.le_succ _⟩
          · obtain ⟨rfl, hsz, hk, hk63⟩ := of_decide_eq_true hs
            have h1 := ev_ok hc.fr x
            rw [show Ai.ev (lget st.σ) x = _ from hx] at h1
            have h2 := ev_ok hc.fr y
            rw [show Ai.ev (lget st.σ) y = _ from hy] at h2
            simp only [RelV] at h1 h2
            obtain ⟨g, e1, h1⟩ := h1
            obtain ⟨g', cs, f1, f2, f3⟩ := blk_cells hc.hp hblk rfl
            rw [e1] at f1; cases f1
            have hlies := relC_size f3 f2
            obtain ⟨j, _, _, j1, _, _, j4, _⟩ := ti_info (hc.tab bt ie hie)
            have hl := u8s_eq hbs
            have htl : (bc.take k.toNat).length = (b :: bs).length := by rw [hl]; simp
            have hcell : ∀ j x, (b :: bs)[j]? = some x → w.cell? ((⟨g, 0, none⟩ : Addr).add j) = some (.int .u8 x.toNat) := by
              intro j x hj
              have hc' := f3.take k.toNat
              simp only at hc'
              rw [hl] at hc'
              obtain ⟨ws, q1, q2⟩ := RelC_iff.1 hc'
              have q1' : RelL w E (((b :: bs).map fun b : UInt8 => Value.int .u8 b.toNat).map SV.v) ws := by rw [List.map_map]; exact q1
              have := relL_vals_eq q1'
              subst this
              rw [Addr.add_mid]
              have := q2 j (.int .u8 x.toNat) (by rw [List.getElem?_map, hj]; rfl)
              exact this
            have hrun := Lib.run_unsafeString_row (P := P) w pt it o.type bt (under_ptr (hc.tab pt _ hit) rfl) (by simp [Program.cellsOf, j1, j4, hsz]) g cs.size (by simp [World.shape?, f2]) (b :: bs) (by simp) (by
              rw [List.length_take] at htl
              simp only at *
              omega) (by omega) hcell
            refine ⟨_, _, E, .inl (run_it he (by rw [hargs, hts']; simp only [List.map_toArray, List.map_cons, List.map_nil, h1, h2, hk]; exact hrun)), ?_, by simp only [RelV]⟩
            -- what has been left
            rw [List.singleton_append, hset_eq]
            have hz : (b :: bs).length ≠ 0 := by simp
            obtain ⟨F, hfz, hF⟩ : ∃ F : Obj → Obj, w.freeze ⟨g, 0, none⟩ (b :: bs).length = { w with heap := w.heap.modify g F } ∧ ∃ fz, F (.cells cs bt (0, 0)) = .cells cs bt fz := by
              unfold World.freeze
              rw [if_neg hz]
              exact ⟨_, rfl, _, rfl⟩
            have hother : ∀ q, q ≠ g → (w.freeze ⟨g, 0, none⟩ (b :: bs).length).heap[q]? = w.heap[q]? := by
              intro q hq
              rw [hfz]
              simp only [Array.getElem?_modify]
              rw [if_neg (fun e => hq e.symm)]
            have hthere : ∃ fz, (w.freeze ⟨g, 0, none⟩ (b :: bs).length).heap[g]? = some (.cells cs bt fz) := by
              rw [hfz]
              obtain ⟨fz, hF⟩ := hF
              refine ⟨fz, ?_⟩
              simp only [Array.getElem?_modify, if_true, f2, Option.map_some, Option.map_eq_map]
              rw [hF]
            have hsize : (w.freeze ⟨g, 0, none⟩ (b :: bs).length).heap.size = w.heap.size := by rw [hfz]; simp
            have hroom : ∀ k j, HasRoom w k j → HasRoom (w.freeze ⟨g, 0, none⟩ (b :: bs).length) k j := by
              rintro q j ⟨c', ty, fz, r1, r2⟩
              by_cases e : q = g
              · subst e
                rw [f2] at r1; cases r1
                obtain ⟨fz', hf⟩ := hthere
                exact ⟨_, _, fz', hf, r2⟩
              · exact ⟨c', ty, fz, by rw [hother q e]; exact r1, r2⟩
            have hnI : ¬ E.I g := by
              obtain ⟨k, _, h1, h2, _⟩ := hc.hp.blk n _ hblk
              rw [e1] at h1; cases h1; exact h2
            have hle : Le E w E (w.freeze ⟨g, 0, none⟩ (b :: bs).length) := ⟨fun _ _ h => h, fun q hq => ⟨hq, hother q (fun e => hnI (e ▸ hq))⟩, hroom⟩
            have hne : ∀ m, (Heap.set (hget st.H) n none) m ≠ none → m ≠ n ∧ hget st.H m ≠ none := by
              intro m hm
              by_cases e : m = n
              · simp [Heap.set, e] at hm
              · simp only [Heap.set, e, if_false] at hm; exact ⟨e, hm⟩
            refine ⟨fun _ _ h => h, fun _ h => h, ⟨(congrArg World.os hfz).trans rfl, (congrArg World.tape hfz).trans rfl, (congrArg World.output hfz).trans rfl, by omega, ?_, hroom⟩, ⟨?_, ?_⟩, ⟨?_, ?_⟩, fun _ h => .inl h, fun m k hm hk => .inr ⟨m, (hne m hm).2, hk⟩, fun _ h _ => h⟩
            · intro q _ hq
              exact hother q (fun e => hq ⟨n, by simp [hblk], by rw [e]; exact e1⟩)
            · intro m c' hm
              have hm' := hne m (by simp [hm])
              simp only [Heap.set, hm'.1, if_false] at hm
              obtain ⟨q, o', r1, r2, r3, r3', r4⟩ := hc.hp.blk m c' hm
              have hqg : q ≠ g := by intro e; subst e; exact hm'.1 (hc.hp.inj m n q hm'.2 (by simp [hblk]) r1 e1)
              exact ⟨q, o', r1, r2, by rw [hother q hqg]; exact r3, r3', RelC.le hle _ _ _ (hother q hqg) r4⟩
            · intro m m' q hm hm' hq hq'
              exact hc.hp.inj m m' q (hne m hm).2 (hne m' hm').2 hq hq'
            · intro q hq; rw [hsize]; exact hc.en.I q hq
            · intro m q hq; rw [hsize]; exact hc.en.ι m q hq
          · rw [List.singleton_append, hset_eq] at hm
            unfold Heap.set at hm
            by_cases e : m = n
            · simp [e] at hm
            · simp only [e, if_false] at hm; exact .inl hm
        · cases hr
      · cases hr
    · rename_i hit hx hy
      refine .pure hr fun E a w o hc he hs => ?_
      have h1 := ev_ok hc.fr x
      rw [show Ai.ev (lget st.σ) x = _ from hx] at h1
      have h2 := ev_ok hc.fr y
      rw [show Ai.ev (lget st.σ) y = _ from hy] at h2
      simp only [RelV] at h1 h2
      refine ⟨.string .empty, run_it he ?_, by simp only [RelV]⟩
      rw [hargs, hts']
      simp only [List.map_toArray, List.map_cons, List.map_nil, h1, h2]
      exact Lib.run_unsafeString_none w pt it o.type none
    · cases hr
  · cases hr
end
#print axioms st_convB
#print axioms st_convS
#print axioms st_uStr
end Go.Ai
