/- The types of this seat's program, as a table, and that it is right: one closed fact a type. -/
import Derived.Test.YtgehagonolkhhaaGreatDoorProg
import Derived.Test.YtgehagonolkhhaaGreatDoorAi11
import Derived.KernelRfl
namespace Go.Ai
open Go Go.Proofs
set_option maxRecDepth 100000
def tget : List (Nat × TI) → Tab
  | [], _ => none
  | (k, i) :: l, t => if k = t then some i else tget l t
theorem tget_ok {P : Program} : ∀ {l : List (Nat × TI)}, (∀ p ∈ l, tiOf P p.1 = some p.2) → (tget l).OK P
  | [], _, t, i, h => by simp [tget] at h
  | (k, j) :: l, hl, t, i, h => by
    simp only [tget] at h
    by_cases e : k = t
    · subst e; simp only [if_true, Option.some.injEq] at h; subst h; exact hl (k, j) (by simp)
    · simp only [e, if_false] at h; exact tget_ok (fun p hp => hl p (by simp [hp])) t i h

@[go_sem] def i1 : TI := ⟨1, 8, [.nilFunc], .func⟩
theorem ti1 : tiOf Tryz.prog 1 = some i1 := by kernel_rfl
@[go_sem] def i2 : TI := ⟨1, 8, [.int .i64 0], .int .i64⟩
theorem ti2 : tiOf Tryz.prog 2 = some i2 := by kernel_rfl
@[go_sem] def i3 : TI := ⟨1, 8, [.int .i64 0], .int .i64⟩
theorem ti3 : tiOf Tryz.prog 3 = some i3 := by kernel_rfl
@[go_sem] def i4 : TI := ⟨1, 1, [.bool false], .bool⟩
theorem ti4 : tiOf Tryz.prog 4 = some i4 := by kernel_rfl
@[go_sem] def i5 : TI := ⟨1, 1, [.int .u8 0], .int .u8⟩
theorem ti5 : tiOf Tryz.prog 5 = some i5 := by kernel_rfl
@[go_sem] def i9 : TI := ⟨1, 16, [.string ⟨#[]⟩], .string⟩
theorem ti9 : tiOf Tryz.prog 9 = some i9 := by kernel_rfl
@[go_sem] def i12 : TI := ⟨1, 8, [.int .u64 0], .int .u64⟩
theorem ti12 : tiOf Tryz.prog 12 = some i12 := by kernel_rfl
@[go_sem] def i15 : TI := ⟨1, 8, [.pointer none], .ptr 317⟩
theorem ti15 : tiOf Tryz.prog 15 = some i15 := by kernel_rfl
@[go_sem] def i16 : TI := ⟨1, 8, [.pointer none], .ptr 320⟩
theorem ti16 : tiOf Tryz.prog 16 = some i16 := by kernel_rfl
@[go_sem] def i20 : TI := ⟨1, 16, [.nilIface], .iface⟩
theorem ti20 : tiOf Tryz.prog 20 = some i20 := by kernel_rfl
@[go_sem] def i21 : TI := ⟨1, 4, [.int .i32 0], .int .i32⟩
theorem ti21 : tiOf Tryz.prog 21 = some i21 := by kernel_rfl
@[go_sem] def i22 : TI := ⟨1, 2, [.int .u16 0], .int .u16⟩
theorem ti22 : tiOf Tryz.prog 22 = some i22 := by kernel_rfl
@[go_sem] def i23 : TI := ⟨1, 8, [.nilFunc], .func⟩
theorem ti23 : tiOf Tryz.prog 23 = some i23 := by kernel_rfl
@[go_sem] def i24 : TI := ⟨1, 24, [.slice none 0 0], .slice 32⟩
theorem ti24 : tiOf Tryz.prog 24 = some i24 := by kernel_rfl
@[go_sem] def i25 : TI := ⟨2, 32, [.string ⟨#[]⟩, .string ⟨#[]⟩], .struct [(0, 1, 9), (1, 1, 9)] true⟩
theorem ti25 : tiOf Tryz.prog 25 = some i25 := by kernel_rfl
@[go_sem] def i26 : TI := ⟨2, 32, [.string ⟨#[]⟩, .string ⟨#[]⟩], .struct [(0, 1, 9), (1, 1, 9)] true⟩
theorem ti26 : tiOf Tryz.prog 26 = some i26 := by kernel_rfl
@[go_sem] def i27 : TI := ⟨1, 24, [.slice none 0 0], .slice 26⟩
theorem ti27 : tiOf Tryz.prog 27 = some i27 := by kernel_rfl
@[go_sem] def i28 : TI := ⟨1, 8, [.int .u64 0], .int .u64⟩
theorem ti28 : tiOf Tryz.prog 28 = some i28 := by kernel_rfl
@[go_sem] def i29 : TI := ⟨4, 32, [.int .i64 0, .int .u64 0, .int .i64 0, .bool false], .struct [(0, 1, 2), (1, 1, 28), (2, 1, 2), (3, 1, 4)] true⟩
theorem ti29 : tiOf Tryz.prog 29 = some i29 := by kernel_rfl
@[go_sem] def i30 : TI := ⟨4, 32, [.int .i64 0, .int .u64 0, .int .i64 0, .bool false], .struct [(0, 1, 2), (1, 1, 28), (2, 1, 2), (3, 1, 4)] true⟩
theorem ti30 : tiOf Tryz.prog 30 = some i30 := by kernel_rfl
@[go_sem] def i31 : TI := ⟨5, 56, [.slice none 0 0, .int .i64 0, .int .u64 0, .int .i64 0, .bool false], .struct [(0, 1, 27), (1, 4, 30)] true⟩
theorem ti31 : tiOf Tryz.prog 31 = some i31 := by kernel_rfl
@[go_sem] def i32 : TI := ⟨5, 56, [.slice none 0 0, .int .i64 0, .int .u64 0, .int .i64 0, .bool false], .struct [(0, 1, 27), (1, 4, 30)] true⟩
theorem ti32 : tiOf Tryz.prog 32 = some i32 := by kernel_rfl
@[go_sem] def i33 : TI := ⟨1, 8, [.int .i64 0], .int .i64⟩
theorem ti33 : tiOf Tryz.prog 33 = some i33 := by kernel_rfl
@[go_sem] def i35 : TI := ⟨1, 8, [.nilFunc], .func⟩
theorem ti35 : tiOf Tryz.prog 35 = some i35 := by kernel_rfl
@[go_sem] def i36 : TI := ⟨1, 8, [.nilFunc], .func⟩
theorem ti36 : tiOf Tryz.prog 36 = some i36 := by kernel_rfl
@[go_sem] def i37 : TI := ⟨3, 24, [.int .i64 0, .int .i64 0, .int .i64 0], .array 3 2⟩
theorem ti37 : tiOf Tryz.prog 37 = some i37 := by kernel_rfl
@[go_sem] def i38 : TI := ⟨3, 24, [.int .i64 0, .int .i64 0, .int .i64 0], .array 3 3⟩
theorem ti38 : tiOf Tryz.prog 38 = some i38 := by kernel_rfl
@[go_sem] def i39 : TI := ⟨9, 72, [.int .i64 0, .int .i64 0, .int .i64 0, .int .i64 0, .int .i64 0, .int .i64 0, .int .i64 0, .int .i64 0, .int .i64 0], .struct [(0, 1, 3), (1, 3, 37), (4, 3, 38), (7, 1, 3), (8, 1, 3)] true⟩
theorem ti39 : tiOf Tryz.prog 39 = some i39 := by kernel_rfl
@[go_sem] def i40 : TI := ⟨9, 72, [.int .i64 0, .int .i64 0, .int .i64 0, .int .i64 0, .int .i64 0, .int .i64 0, .int .i64 0, .int .i64 0, .int .i64 0], .struct [(0, 1, 3), (1, 3, 37), (4, 3, 38), (7, 1, 3), (8, 1, 3)] true⟩
theorem ti40 : tiOf Tryz.prog 40 = some i40 := by kernel_rfl
@[go_sem] def i41 : TI := ⟨1, 24, [.slice none 0 0], .slice 90⟩
theorem ti41 : tiOf Tryz.prog 41 = some i41 := by kernel_rfl
@[go_sem] def i42 : TI := ⟨12, 112, [.int .i64 0, .int .i64 0, .int .i64 0, .int .i64 0, .int .i64 0, .int .i64 0, .int .i64 0, .int .i64 0, .int .i64 0, .int .i64 0, .int .i64 0, .slice none 0 0], .struct [(0, 9, 40), (9, 1, 2), (10, 1, 2), (11, 1, 41)] true⟩
theorem ti42 : tiOf Tryz.prog 42 = some i42 := by kernel_rfl
@[go_sem] def i43 : TI := ⟨12, 112, [.int .i64 0, .int .i64 0, .int .i64 0, .int .i64 0, .int .i64 0, .int .i64 0, .int .i64 0, .int .i64 0, .int .i64 0, .int .i64 0, .int .i64 0, .slice none 0 0], .struct [(0, 9, 40), (9, 1, 2), (10, 1, 2), (11, 1, 41)] true⟩
theorem ti43 : tiOf Tryz.prog 43 = some i43 := by kernel_rfl
@[go_sem] def i44 : TI := ⟨1, 8, [.nilFunc], .func⟩
theorem ti44 : tiOf Tryz.prog 44 = some i44 := by kernel_rfl
@[go_sem] def i45 : TI := ⟨1, 8, [.nilFunc], .func⟩
theorem ti45 : tiOf Tryz.prog 45 = some i45 := by kernel_rfl
@[go_sem] def i46 : TI := ⟨1, 24, [.slice none 0 0], .slice 33⟩
theorem ti46 : tiOf Tryz.prog 46 = some i46 := by kernel_rfl
@[go_sem] def i48 : TI := ⟨1, 8, [.nilFunc], .func⟩
theorem ti48 : tiOf Tryz.prog 48 = some i48 := by kernel_rfl
@[go_sem] def i49 : TI := ⟨1, 8, [.nilFunc], .func⟩
theorem ti49 : tiOf Tryz.prog 49 = some i49 := by kernel_rfl
@[go_sem] def i50 : TI := ⟨1, 8, [.nilFunc], .func⟩
theorem ti50 : tiOf Tryz.prog 50 = some i50 := by kernel_rfl
@[go_sem] def i51 : TI := ⟨1, 8, [.nilFunc], .func⟩
theorem ti51 : tiOf Tryz.prog 51 = some i51 := by kernel_rfl
@[go_sem] def i52 : TI := ⟨1, 24, [.slice none 0 0], .slice 61⟩
theorem ti52 : tiOf Tryz.prog 52 = some i52 := by kernel_rfl
@[go_sem] def i53 : TI := ⟨1, 8, [.nilFunc], .func⟩
theorem ti53 : tiOf Tryz.prog 53 = some i53 := by kernel_rfl
@[go_sem] def i54 : TI := ⟨4, 48, [.slice none 0 0, .int .i64 0, .int .i64 0, .int .i64 0], .struct [(0, 1, 27), (1, 1, 3), (2, 1, 2), (3, 1, 2)] true⟩
theorem ti54 : tiOf Tryz.prog 54 = some i54 := by kernel_rfl
@[go_sem] def i55 : TI := ⟨4, 48, [.slice none 0 0, .int .i64 0, .int .i64 0, .int .i64 0], .struct [(0, 1, 27), (1, 1, 3), (2, 1, 2), (3, 1, 2)] true⟩
theorem ti55 : tiOf Tryz.prog 55 = some i55 := by kernel_rfl
@[go_sem] def i56 : TI := ⟨2, 16, [.int .u64 0, .int .u64 0], .struct [(0, 1, 28), (1, 1, 28)] true⟩
theorem ti56 : tiOf Tryz.prog 56 = some i56 := by kernel_rfl
@[go_sem] def i57 : TI := ⟨2, 16, [.int .u64 0, .int .u64 0], .struct [(0, 1, 28), (1, 1, 28)] true⟩
theorem ti57 : tiOf Tryz.prog 57 = some i57 := by kernel_rfl
@[go_sem] def i58 : TI := ⟨4, 32, [.int .u64 0, .int .u64 0, .int .u64 0, .int .u64 0], .struct [(0, 2, 57), (2, 2, 57)] true⟩
theorem ti58 : tiOf Tryz.prog 58 = some i58 := by kernel_rfl
@[go_sem] def i59 : TI := ⟨4, 32, [.int .u64 0, .int .u64 0, .int .u64 0, .int .u64 0], .struct [(0, 2, 57), (2, 2, 57)] true⟩
theorem ti59 : tiOf Tryz.prog 59 = some i59 := by kernel_rfl
@[go_sem] def i60 : TI := ⟨8, 80, [.slice none 0 0, .int .i64 0, .int .i64 0, .int .i64 0, .int .u64 0, .int .u64 0, .int .u64 0, .int .u64 0], .struct [(0, 4, 55), (4, 4, 59)] true⟩
theorem ti60 : tiOf Tryz.prog 60 = some i60 := by kernel_rfl
@[go_sem] def i61 : TI := ⟨8, 80, [.slice none 0 0, .int .i64 0, .int .i64 0, .int .i64 0, .int .u64 0, .int .u64 0, .int .u64 0, .int .u64 0], .struct [(0, 4, 55), (4, 4, 59)] true⟩
theorem ti61 : tiOf Tryz.prog 61 = some i61 := by kernel_rfl
@[go_sem] def i63 : TI := ⟨1, 8, [.nilFunc], .func⟩
theorem ti63 : tiOf Tryz.prog 63 = some i63 := by kernel_rfl
@[go_sem] def i64 : TI := ⟨1, 24, [.slice none 0 0], .slice 3⟩
theorem ti64 : tiOf Tryz.prog 64 = some i64 := by kernel_rfl
@[go_sem] def i66 : TI := ⟨1, 8, [.nilFunc], .func⟩
theorem ti66 : tiOf Tryz.prog 66 = some i66 := by kernel_rfl
@[go_sem] def i68 : TI := ⟨1, 8, [.nilFunc], .func⟩
theorem ti68 : tiOf Tryz.prog 68 = some i68 := by kernel_rfl
@[go_sem] def i69 : TI := ⟨1, 8, [.nilFunc], .func⟩
theorem ti69 : tiOf Tryz.prog 69 = some i69 := by kernel_rfl
@[go_sem] def i70 : TI := ⟨1, 8, [.nilFunc], .func⟩
theorem ti70 : tiOf Tryz.prog 70 = some i70 := by kernel_rfl
@[go_sem] def i71 : TI := ⟨1, 8, [.nilFunc], .func⟩
theorem ti71 : tiOf Tryz.prog 71 = some i71 := by kernel_rfl
@[go_sem] def i72 : TI := ⟨1, 8, [.nilFunc], .func⟩
theorem ti72 : tiOf Tryz.prog 72 = some i72 := by kernel_rfl
@[go_sem] def i73 : TI := ⟨1, 8, [.nilFunc], .func⟩
theorem ti73 : tiOf Tryz.prog 73 = some i73 := by kernel_rfl
@[go_sem] def i75 : TI := ⟨1, 8, [.nilFunc], .func⟩
theorem ti75 : tiOf Tryz.prog 75 = some i75 := by kernel_rfl
@[go_sem] def i76 : TI := ⟨1, 8, [.nilFunc], .func⟩
theorem ti76 : tiOf Tryz.prog 76 = some i76 := by kernel_rfl
@[go_sem] def i77 : TI := ⟨1, 24, [.slice none 0 0], .slice 24⟩
theorem ti77 : tiOf Tryz.prog 77 = some i77 := by kernel_rfl
@[go_sem] def i78 : TI := ⟨1, 8, [.nilFunc], .func⟩
theorem ti78 : tiOf Tryz.prog 78 = some i78 := by kernel_rfl
@[go_sem] def i79 : TI := ⟨1, 8, [.nilFunc], .func⟩
theorem ti79 : tiOf Tryz.prog 79 = some i79 := by kernel_rfl
@[go_sem] def i80 : TI := ⟨1, 24, [.slice none 0 0], .slice 30⟩
theorem ti80 : tiOf Tryz.prog 80 = some i80 := by kernel_rfl
@[go_sem] def i81 : TI := ⟨3, 40, [.int .i64 0, .int .i64 0, .slice none 0 0], .struct [(0, 1, 2), (1, 1, 2), (2, 1, 80)] true⟩
theorem ti81 : tiOf Tryz.prog 81 = some i81 := by kernel_rfl
@[go_sem] def i82 : TI := ⟨3, 40, [.int .i64 0, .int .i64 0, .slice none 0 0], .struct [(0, 1, 2), (1, 1, 2), (2, 1, 80)] true⟩
theorem ti82 : tiOf Tryz.prog 82 = some i82 := by kernel_rfl
@[go_sem] def i83 : TI := ⟨1, 24, [.slice none 0 0], .slice 88⟩
theorem ti83 : tiOf Tryz.prog 83 = some i83 := by kernel_rfl
@[go_sem] def i84 : TI := ⟨3, 72, [.slice none 0 0, .slice none 0 0, .slice none 0 0], .array 3 83⟩
theorem ti84 : tiOf Tryz.prog 84 = some i84 := by kernel_rfl
@[go_sem] def i85 : TI := ⟨14, 112, [.int .i64 0, .int .i64 0, .int .u64 0, .int .i64 0, .bool false, .int .i64 0, .int .u64 0, .int .i64 0, .bool false, .int .u64 0, .int .u64 0, .int .i64 0, .int .i64 0, .int .i64 0], .struct [(0, 1, 2), (1, 4, 30), (5, 4, 30), (9, 2, 57), (11, 1, 2), (12, 1, 2), (13, 1, 2)] true⟩
theorem ti85 : tiOf Tryz.prog 85 = some i85 := by kernel_rfl
@[go_sem] def i86 : TI := ⟨14, 112, [.int .i64 0, .int .i64 0, .int .u64 0, .int .i64 0, .bool false, .int .i64 0, .int .u64 0, .int .i64 0, .bool false, .int .u64 0, .int .u64 0, .int .i64 0, .int .i64 0, .int .i64 0], .struct [(0, 1, 2), (1, 4, 30), (5, 4, 30), (9, 2, 57), (11, 1, 2), (12, 1, 2), (13, 1, 2)] true⟩
theorem ti86 : tiOf Tryz.prog 86 = some i86 := by kernel_rfl
@[go_sem] def i87 : TI := ⟨15, 120, [.int .i64 0, .int .i64 0, .int .i64 0, .int .u64 0, .int .i64 0, .bool false, .int .i64 0, .int .u64 0, .int .i64 0, .bool false, .int .u64 0, .int .u64 0, .int .i64 0, .int .i64 0, .int .i64 0], .struct [(0, 1, 2), (1, 14, 86)] true⟩
theorem ti87 : tiOf Tryz.prog 87 = some i87 := by kernel_rfl
@[go_sem] def i88 : TI := ⟨15, 120, [.int .i64 0, .int .i64 0, .int .i64 0, .int .u64 0, .int .i64 0, .bool false, .int .i64 0, .int .u64 0, .int .i64 0, .bool false, .int .u64 0, .int .u64 0, .int .i64 0, .int .i64 0, .int .i64 0], .struct [(0, 1, 2), (1, 14, 86)] true⟩
theorem ti88 : tiOf Tryz.prog 88 = some i88 := by kernel_rfl
@[go_sem] def i89 : TI := ⟨23, 264, [.slice none 0 0, .int .i64 0, .int .i64 0, .int .i64 0, .slice none 0 0, .slice none 0 0, .slice none 0 0, .slice none 0 0, .int .i64 0, .int .i64 0, .int .i64 0, .int .u64 0, .int .i64 0, .bool false, .int .i64 0, .int .u64 0, .int .i64 0, .bool false, .int .u64 0, .int .u64 0, .int .i64 0, .int .i64 0, .int .i64 0], .struct [(0, 1, 27), (1, 1, 2), (2, 3, 82), (5, 3, 84), (8, 15, 88)] true⟩
theorem ti89 : tiOf Tryz.prog 89 = some i89 := by kernel_rfl
@[go_sem] def i90 : TI := ⟨23, 264, [.slice none 0 0, .int .i64 0, .int .i64 0, .int .i64 0, .slice none 0 0, .slice none 0 0, .slice none 0 0, .slice none 0 0, .int .i64 0, .int .i64 0, .int .i64 0, .int .u64 0, .int .i64 0, .bool false, .int .i64 0, .int .u64 0, .int .i64 0, .bool false, .int .u64 0, .int .u64 0, .int .i64 0, .int .i64 0, .int .i64 0], .struct [(0, 1, 27), (1, 1, 2), (2, 3, 82), (5, 3, 84), (8, 15, 88)] true⟩
theorem ti90 : tiOf Tryz.prog 90 = some i90 := by kernel_rfl
@[go_sem] def i91 : TI := ⟨1, 8, [.map none], .map 9 2⟩
theorem ti91 : tiOf Tryz.prog 91 = some i91 := by kernel_rfl
@[go_sem] def i92 : TI := ⟨1, 8, [.nilFunc], .func⟩
theorem ti92 : tiOf Tryz.prog 92 = some i92 := by kernel_rfl
@[go_sem] def i93 : TI := ⟨1, 8, [.nilFunc], .func⟩
theorem ti93 : tiOf Tryz.prog 93 = some i93 := by kernel_rfl
@[go_sem] def i94 : TI := ⟨1, 8, [.nilFunc], .func⟩
theorem ti94 : tiOf Tryz.prog 94 = some i94 := by kernel_rfl
@[go_sem] def i95 : TI := ⟨1, 8, [.nilFunc], .func⟩
theorem ti95 : tiOf Tryz.prog 95 = some i95 := by kernel_rfl
@[go_sem] def i96 : TI := ⟨1, 8, [.nilFunc], .func⟩
theorem ti96 : tiOf Tryz.prog 96 = some i96 := by kernel_rfl
@[go_sem] def i98 : TI := ⟨1, 8, [.nilFunc], .func⟩
theorem ti98 : tiOf Tryz.prog 98 = some i98 := by kernel_rfl
@[go_sem] def i99 : TI := ⟨1, 8, [.nilFunc], .func⟩
theorem ti99 : tiOf Tryz.prog 99 = some i99 := by kernel_rfl
@[go_sem] def i100 : TI := ⟨1, 8, [.nilFunc], .func⟩
theorem ti100 : tiOf Tryz.prog 100 = some i100 := by kernel_rfl
@[go_sem] def i101 : TI := ⟨20, 160, [.int .i64 0, .int .i64 0, .int .i64 0, .int .u64 0, .int .i64 0, .bool false, .int .i64 0, .int .u64 0, .int .i64 0, .bool false, .int .u64 0, .int .u64 0, .int .i64 0, .int .i64 0, .int .i64 0, .int .u64 0, .int .u64 0, .int .u64 0, .int .u64 0, .int .i64 0], .struct [(0, 1, 3), (1, 14, 86), (15, 4, 59), (19, 1, 33)] true⟩
theorem ti101 : tiOf Tryz.prog 101 = some i101 := by kernel_rfl
@[go_sem] def i102 : TI := ⟨20, 160, [.int .i64 0, .int .i64 0, .int .i64 0, .int .u64 0, .int .i64 0, .bool false, .int .i64 0, .int .u64 0, .int .i64 0, .bool false, .int .u64 0, .int .u64 0, .int .i64 0, .int .i64 0, .int .i64 0, .int .u64 0, .int .u64 0, .int .u64 0, .int .u64 0, .int .i64 0], .struct [(0, 1, 3), (1, 14, 86), (15, 4, 59), (19, 1, 33)] true⟩
theorem ti102 : tiOf Tryz.prog 102 = some i102 := by kernel_rfl
@[go_sem] def i104 : TI := ⟨1, 8, [.nilFunc], .func⟩
theorem ti104 : tiOf Tryz.prog 104 = some i104 := by kernel_rfl
@[go_sem] def i105 : TI := ⟨1, 8, [.nilFunc], .func⟩
theorem ti105 : tiOf Tryz.prog 105 = some i105 := by kernel_rfl
@[go_sem] def i106 : TI := ⟨1, 24, [.slice none 0 0], .slice 61⟩
theorem ti106 : tiOf Tryz.prog 106 = some i106 := by kernel_rfl
@[go_sem] def i107 : TI := ⟨1, 8, [.nilFunc], .func⟩
theorem ti107 : tiOf Tryz.prog 107 = some i107 := by kernel_rfl
@[go_sem] def i108 : TI := ⟨1, 8, [.nilFunc], .func⟩
theorem ti108 : tiOf Tryz.prog 108 = some i108 := by kernel_rfl
@[go_sem] def i109 : TI := ⟨1, 8, [.nilFunc], .func⟩
theorem ti109 : tiOf Tryz.prog 109 = some i109 := by kernel_rfl
@[go_sem] def i110 : TI := ⟨1, 8, [.nilFunc], .func⟩
theorem ti110 : tiOf Tryz.prog 110 = some i110 := by kernel_rfl
@[go_sem] def i111 : TI := ⟨1, 8, [.nilFunc], .func⟩
theorem ti111 : tiOf Tryz.prog 111 = some i111 := by kernel_rfl
@[go_sem] def i112 : TI := ⟨12, 112, [.int .i64 0, .int .i64 0, .int .i64 0, .int .i64 0, .int .i64 0, .int .i64 0, .int .i64 0, .int .i64 0, .int .i64 0, .int .i64 0, .int .i64 0, .slice none 0 0], .struct [(0, 12, 43)] true⟩
theorem ti112 : tiOf Tryz.prog 112 = some i112 := by kernel_rfl
@[go_sem] def i113 : TI := ⟨12, 112, [.int .i64 0, .int .i64 0, .int .i64 0, .int .i64 0, .int .i64 0, .int .i64 0, .int .i64 0, .int .i64 0, .int .i64 0, .int .i64 0, .int .i64 0, .slice none 0 0], .struct [(0, 12, 43)] true⟩
theorem ti113 : tiOf Tryz.prog 113 = some i113 := by kernel_rfl
@[go_sem] def i115 : TI := ⟨1, 8, [.nilFunc], .func⟩
theorem ti115 : tiOf Tryz.prog 115 = some i115 := by kernel_rfl
@[go_sem] def i116 : TI := ⟨1, 8, [.nilFunc], .func⟩
theorem ti116 : tiOf Tryz.prog 116 = some i116 := by kernel_rfl
@[go_sem] def i117 : TI := ⟨1, 8, [.nilFunc], .func⟩
theorem ti117 : tiOf Tryz.prog 117 = some i117 := by kernel_rfl
@[go_sem] def i118 : TI := ⟨1, 8, [.map none], .map 9 3⟩
theorem ti118 : tiOf Tryz.prog 118 = some i118 := by kernel_rfl
@[go_sem] def i119 : TI := ⟨1, 8, [.nilFunc], .func⟩
theorem ti119 : tiOf Tryz.prog 119 = some i119 := by kernel_rfl
@[go_sem] def i121 : TI := ⟨1, 8, [.nilFunc], .func⟩
theorem ti121 : tiOf Tryz.prog 121 = some i121 := by kernel_rfl
@[go_sem] def i122 : TI := ⟨1, 8, [.nilFunc], .func⟩
theorem ti122 : tiOf Tryz.prog 122 = some i122 := by kernel_rfl
@[go_sem] def i123 : TI := ⟨1, 8, [.nilFunc], .func⟩
theorem ti123 : tiOf Tryz.prog 123 = some i123 := by kernel_rfl
@[go_sem] def i124 : TI := ⟨1, 8, [.nilFunc], .func⟩
theorem ti124 : tiOf Tryz.prog 124 = some i124 := by kernel_rfl
@[go_sem] def i125 : TI := ⟨1, 8, [.nilFunc], .func⟩
theorem ti125 : tiOf Tryz.prog 125 = some i125 := by kernel_rfl
@[go_sem] def i126 : TI := ⟨1, 8, [.nilFunc], .func⟩
theorem ti126 : tiOf Tryz.prog 126 = some i126 := by kernel_rfl
@[go_sem] def i127 : TI := ⟨1, 8, [.nilFunc], .func⟩
theorem ti127 : tiOf Tryz.prog 127 = some i127 := by kernel_rfl
@[go_sem] def i128 : TI := ⟨1, 8, [.nilFunc], .func⟩
theorem ti128 : tiOf Tryz.prog 128 = some i128 := by kernel_rfl
@[go_sem] def i129 : TI := ⟨1, 8, [.nilFunc], .func⟩
theorem ti129 : tiOf Tryz.prog 129 = some i129 := by kernel_rfl
@[go_sem] def i130 : TI := ⟨1, 8, [.nilFunc], .func⟩
theorem ti130 : tiOf Tryz.prog 130 = some i130 := by kernel_rfl
@[go_sem] def i132 : TI := ⟨1, 8, [.nilFunc], .func⟩
theorem ti132 : tiOf Tryz.prog 132 = some i132 := by kernel_rfl
@[go_sem] def i134 : TI := ⟨1, 8, [.nilFunc], .func⟩
theorem ti134 : tiOf Tryz.prog 134 = some i134 := by kernel_rfl
@[go_sem] def i136 : TI := ⟨1, 8, [.nilFunc], .func⟩
theorem ti136 : tiOf Tryz.prog 136 = some i136 := by kernel_rfl
@[go_sem] def i137 : TI := ⟨1, 8, [.nilFunc], .func⟩
theorem ti137 : tiOf Tryz.prog 137 = some i137 := by kernel_rfl
@[go_sem] def i138 : TI := ⟨1, 8, [.nilFunc], .func⟩
theorem ti138 : tiOf Tryz.prog 138 = some i138 := by kernel_rfl
@[go_sem] def i139 : TI := ⟨1, 8, [.nilFunc], .func⟩
theorem ti139 : tiOf Tryz.prog 139 = some i139 := by kernel_rfl
@[go_sem] def i140 : TI := ⟨1, 8, [.nilFunc], .func⟩
theorem ti140 : tiOf Tryz.prog 140 = some i140 := by kernel_rfl
@[go_sem] def i141 : TI := ⟨1, 8, [.nilFunc], .func⟩
theorem ti141 : tiOf Tryz.prog 141 = some i141 := by kernel_rfl
@[go_sem] def i142 : TI := ⟨1, 8, [.nilFunc], .func⟩
theorem ti142 : tiOf Tryz.prog 142 = some i142 := by kernel_rfl
@[go_sem] def i143 : TI := ⟨1, 8, [.nilFunc], .func⟩
theorem ti143 : tiOf Tryz.prog 143 = some i143 := by kernel_rfl
@[go_sem] def i144 : TI := ⟨1, 8, [.nilFunc], .func⟩
theorem ti144 : tiOf Tryz.prog 144 = some i144 := by kernel_rfl
@[go_sem] def i145 : TI := ⟨1, 8, [.nilFunc], .func⟩
theorem ti145 : tiOf Tryz.prog 145 = some i145 := by kernel_rfl
@[go_sem] def i146 : TI := ⟨1, 8, [.nilFunc], .func⟩
theorem ti146 : tiOf Tryz.prog 146 = some i146 := by kernel_rfl
@[go_sem] def i147 : TI := ⟨1, 8, [.nilFunc], .func⟩
theorem ti147 : tiOf Tryz.prog 147 = some i147 := by kernel_rfl
@[go_sem] def i149 : TI := ⟨1, 8, [.nilFunc], .func⟩
theorem ti149 : tiOf Tryz.prog 149 = some i149 := by kernel_rfl
@[go_sem] def i151 : TI := ⟨1, 8, [.nilFunc], .func⟩
theorem ti151 : tiOf Tryz.prog 151 = some i151 := by kernel_rfl
@[go_sem] def i153 : TI := ⟨1, 8, [.nilFunc], .func⟩
theorem ti153 : tiOf Tryz.prog 153 = some i153 := by kernel_rfl
@[go_sem] def i154 : TI := ⟨1, 8, [.nilFunc], .func⟩
theorem ti154 : tiOf Tryz.prog 154 = some i154 := by kernel_rfl
@[go_sem] def i155 : TI := ⟨1, 8, [.nilFunc], .func⟩
theorem ti155 : tiOf Tryz.prog 155 = some i155 := by kernel_rfl
@[go_sem] def i156 : TI := ⟨1, 8, [.nilFunc], .func⟩
theorem ti156 : tiOf Tryz.prog 156 = some i156 := by kernel_rfl
@[go_sem] def i157 : TI := ⟨1, 8, [.nilFunc], .func⟩
theorem ti157 : tiOf Tryz.prog 157 = some i157 := by kernel_rfl
@[go_sem] def i158 : TI := ⟨1, 8, [.nilFunc], .func⟩
theorem ti158 : tiOf Tryz.prog 158 = some i158 := by kernel_rfl
@[go_sem] def i159 : TI := ⟨1, 8, [.nilFunc], .func⟩
theorem ti159 : tiOf Tryz.prog 159 = some i159 := by kernel_rfl
@[go_sem] def i160 : TI := ⟨1, 8, [.nilFunc], .func⟩
theorem ti160 : tiOf Tryz.prog 160 = some i160 := by kernel_rfl
@[go_sem] def i161 : TI := ⟨1, 8, [.nilFunc], .func⟩
theorem ti161 : tiOf Tryz.prog 161 = some i161 := by kernel_rfl
@[go_sem] def i163 : TI := ⟨1, 8, [.nilFunc], .func⟩
theorem ti163 : tiOf Tryz.prog 163 = some i163 := by kernel_rfl
@[go_sem] def i164 : TI := ⟨1, 8, [.nilFunc], .func⟩
theorem ti164 : tiOf Tryz.prog 164 = some i164 := by kernel_rfl
@[go_sem] def i165 : TI := ⟨32, 256, [.int .i64 0, .int .i64 0, .int .i64 0, .int .i64 0, .int .i64 0, .int .i64 0, .int .i64 0, .int .i64 0, .int .i64 0, .int .i64 0, .int .i64 0, .int .i64 0, .int .i64 0, .int .i64 0, .int .i64 0, .int .i64 0, .int .i64 0, .int .i64 0, .int .i64 0, .int .i64 0, .int .i64 0, .int .i64 0, .int .i64 0, .int .i64 0, .int .i64 0, .int .i64 0, .int .i64 0, .int .i64 0, .int .i64 0, .int .i64 0, .int .i64 0, .int .i64 0], .array 32 3⟩
theorem ti165 : tiOf Tryz.prog 165 = some i165 := by kernel_rfl
@[go_sem] def i166 : TI := ⟨1, 8, [.nilFunc], .func⟩
theorem ti166 : tiOf Tryz.prog 166 = some i166 := by kernel_rfl
@[go_sem] def i167 : TI := ⟨1, 8, [.nilFunc], .func⟩
theorem ti167 : tiOf Tryz.prog 167 = some i167 := by kernel_rfl
@[go_sem] def i168 : TI := ⟨1, 24, [.slice none 0 0], .slice 43⟩
theorem ti168 : tiOf Tryz.prog 168 = some i168 := by kernel_rfl
@[go_sem] def i169 : TI := ⟨1, 8, [.nilFunc], .func⟩
theorem ti169 : tiOf Tryz.prog 169 = some i169 := by kernel_rfl
@[go_sem] def i170 : TI := ⟨1, 8, [.pointer none], .ptr 173⟩
theorem ti170 : tiOf Tryz.prog 170 = some i170 := by kernel_rfl
@[go_sem] def i171 : TI := ⟨1, 24, [.slice none 0 0], .slice 5⟩
theorem ti171 : tiOf Tryz.prog 171 = some i171 := by kernel_rfl
@[go_sem] def i172 : TI := ⟨2, 32, [.pointer none, .slice none 0 0], .struct [(0, 1, 170), (1, 1, 171)] true⟩
theorem ti172 : tiOf Tryz.prog 172 = some i172 := by kernel_rfl
@[go_sem] def i173 : TI := ⟨2, 32, [.pointer none, .slice none 0 0], .struct [(0, 1, 170), (1, 1, 171)] true⟩
theorem ti173 : tiOf Tryz.prog 173 = some i173 := by kernel_rfl
@[go_sem] def i174 : TI := ⟨2, 32, [.string ⟨#[]⟩, .string ⟨#[]⟩], .array 2 9⟩
theorem ti174 : tiOf Tryz.prog 174 = some i174 := by kernel_rfl
@[go_sem] def i175 : TI := ⟨1, 16, [.nilIface], .iface⟩
theorem ti175 : tiOf Tryz.prog 175 = some i175 := by kernel_rfl
@[go_sem] def i176 : TI := ⟨1, 16, [.nilIface], .iface⟩
theorem ti176 : tiOf Tryz.prog 176 = some i176 := by kernel_rfl
@[go_sem] def i178 : TI := ⟨1, 8, [.nilFunc], .func⟩
theorem ti178 : tiOf Tryz.prog 178 = some i178 := by kernel_rfl
@[go_sem] def i179 : TI := ⟨1, 8, [.nilFunc], .func⟩
theorem ti179 : tiOf Tryz.prog 179 = some i179 := by kernel_rfl
@[go_sem] def i180 : TI := ⟨1, 8, [.nilFunc], .func⟩
theorem ti180 : tiOf Tryz.prog 180 = some i180 := by kernel_rfl
@[go_sem] def i181 : TI := ⟨1, 8, [.nilFunc], .func⟩
theorem ti181 : tiOf Tryz.prog 181 = some i181 := by kernel_rfl
@[go_sem] def i182 : TI := ⟨1, 8, [.nilFunc], .func⟩
theorem ti182 : tiOf Tryz.prog 182 = some i182 := by kernel_rfl
@[go_sem] def i183 : TI := ⟨1, 8, [.nilFunc], .func⟩
theorem ti183 : tiOf Tryz.prog 183 = some i183 := by kernel_rfl
@[go_sem] def i184 : TI := ⟨1, 8, [.nilFunc], .func⟩
theorem ti184 : tiOf Tryz.prog 184 = some i184 := by kernel_rfl
@[go_sem] def i185 : TI := ⟨1, 8, [.nilFunc], .func⟩
theorem ti185 : tiOf Tryz.prog 185 = some i185 := by kernel_rfl
@[go_sem] def i186 : TI := ⟨1, 8, [.nilFunc], .func⟩
theorem ti186 : tiOf Tryz.prog 186 = some i186 := by kernel_rfl
@[go_sem] def i188 : TI := ⟨1, 8, [.nilFunc], .func⟩
theorem ti188 : tiOf Tryz.prog 188 = some i188 := by kernel_rfl
@[go_sem] def i189 : TI := ⟨1, 8, [.nilFunc], .func⟩
theorem ti189 : tiOf Tryz.prog 189 = some i189 := by kernel_rfl
@[go_sem] def i190 : TI := ⟨1, 8, [.pointer none], .ptr 196⟩
theorem ti190 : tiOf Tryz.prog 190 = some i190 := by kernel_rfl
@[go_sem] def i192 : TI := ⟨1, 8, [.nilFunc], .func⟩
theorem ti192 : tiOf Tryz.prog 192 = some i192 := by kernel_rfl
@[go_sem] def i193 : TI := ⟨1, 8, [.nilFunc], .func⟩
theorem ti193 : tiOf Tryz.prog 193 = some i193 := by kernel_rfl
@[go_sem] def i194 : TI := ⟨1, 8, [.nilFunc], .func⟩
theorem ti194 : tiOf Tryz.prog 194 = some i194 := by kernel_rfl
@[go_sem] def i195 : TI := ⟨32, 336, [.int .i64 0, .int .i64 0, .int .i64 0, .int .i64 0, .int .i64 0, .int .i64 0, .int .i64 0, .int .i64 0, .int .i64 0, .slice none 0 0, .int .i64 0, .int .i64 0, .int .i64 0, .slice none 0 0, .slice none 0 0, .slice none 0 0, .slice none 0 0, .int .i64 0, .int .i64 0, .int .i64 0, .int .u64 0, .int .i64 0, .bool false, .int .i64 0, .int .u64 0, .int .i64 0, .bool false, .int .u64 0, .int .u64 0, .int .i64 0, .int .i64 0, .int .i64 0], .struct [(0, 9, 40), (9, 23, 90)] true⟩
theorem ti195 : tiOf Tryz.prog 195 = some i195 := by kernel_rfl
@[go_sem] def i196 : TI := ⟨32, 336, [.int .i64 0, .int .i64 0, .int .i64 0, .int .i64 0, .int .i64 0, .int .i64 0, .int .i64 0, .int .i64 0, .int .i64 0, .slice none 0 0, .int .i64 0, .int .i64 0, .int .i64 0, .slice none 0 0, .slice none 0 0, .slice none 0 0, .slice none 0 0, .int .i64 0, .int .i64 0, .int .i64 0, .int .u64 0, .int .i64 0, .bool false, .int .i64 0, .int .u64 0, .int .i64 0, .bool false, .int .u64 0, .int .u64 0, .int .i64 0, .int .i64 0, .int .i64 0], .struct [(0, 9, 40), (9, 23, 90)] true⟩
theorem ti196 : tiOf Tryz.prog 196 = some i196 := by kernel_rfl
@[go_sem] def i197 : TI := ⟨1, 8, [.nilFunc], .func⟩
theorem ti197 : tiOf Tryz.prog 197 = some i197 := by kernel_rfl
@[go_sem] def i198 : TI := ⟨1, 8, [.nilFunc], .func⟩
theorem ti198 : tiOf Tryz.prog 198 = some i198 := by kernel_rfl
@[go_sem] def i200 : TI := ⟨1, 8, [.nilFunc], .func⟩
theorem ti200 : tiOf Tryz.prog 200 = some i200 := by kernel_rfl
@[go_sem] def i202 : TI := ⟨1, 8, [.nilFunc], .func⟩
theorem ti202 : tiOf Tryz.prog 202 = some i202 := by kernel_rfl
@[go_sem] def i203 : TI := ⟨1, 8, [.nilFunc], .func⟩
theorem ti203 : tiOf Tryz.prog 203 = some i203 := by kernel_rfl
@[go_sem] def i204 : TI := ⟨1, 8, [.nilFunc], .func⟩
theorem ti204 : tiOf Tryz.prog 204 = some i204 := by kernel_rfl
@[go_sem] def i205 : TI := ⟨1, 8, [.nilFunc], .func⟩
theorem ti205 : tiOf Tryz.prog 205 = some i205 := by kernel_rfl
@[go_sem] def i206 : TI := ⟨1, 8, [.nilFunc], .func⟩
theorem ti206 : tiOf Tryz.prog 206 = some i206 := by kernel_rfl
@[go_sem] def i207 : TI := ⟨1, 8, [.nilFunc], .func⟩
theorem ti207 : tiOf Tryz.prog 207 = some i207 := by kernel_rfl
@[go_sem] def i208 : TI := ⟨1, 8, [.nilFunc], .func⟩
theorem ti208 : tiOf Tryz.prog 208 = some i208 := by kernel_rfl
@[go_sem] def i209 : TI := ⟨1, 8, [.nilFunc], .func⟩
theorem ti209 : tiOf Tryz.prog 209 = some i209 := by kernel_rfl
@[go_sem] def i210 : TI := ⟨1, 8, [.nilFunc], .func⟩
theorem ti210 : tiOf Tryz.prog 210 = some i210 := by kernel_rfl
@[go_sem] def i211 : TI := ⟨1, 8, [.nilFunc], .func⟩
theorem ti211 : tiOf Tryz.prog 211 = some i211 := by kernel_rfl
@[go_sem] def i212 : TI := ⟨1, 8, [.nilFunc], .func⟩
theorem ti212 : tiOf Tryz.prog 212 = some i212 := by kernel_rfl
@[go_sem] def i213 : TI := ⟨1, 8, [.nilFunc], .func⟩
theorem ti213 : tiOf Tryz.prog 213 = some i213 := by kernel_rfl
@[go_sem] def i215 : TI := ⟨1, 8, [.nilFunc], .func⟩
theorem ti215 : tiOf Tryz.prog 215 = some i215 := by kernel_rfl
@[go_sem] def i216 : TI := ⟨1, 8, [.nilFunc], .func⟩
theorem ti216 : tiOf Tryz.prog 216 = some i216 := by kernel_rfl
@[go_sem] def i217 : TI := ⟨1, 8, [.nilFunc], .func⟩
theorem ti217 : tiOf Tryz.prog 217 = some i217 := by kernel_rfl
@[go_sem] def i219 : TI := ⟨1, 8, [.nilFunc], .func⟩
theorem ti219 : tiOf Tryz.prog 219 = some i219 := by kernel_rfl
@[go_sem] def i220 : TI := ⟨1, 8, [.nilFunc], .func⟩
theorem ti220 : tiOf Tryz.prog 220 = some i220 := by kernel_rfl
@[go_sem] def i221 : TI := ⟨1, 8, [.nilFunc], .func⟩
theorem ti221 : tiOf Tryz.prog 221 = some i221 := by kernel_rfl
@[go_sem] def i222 : TI := ⟨1, 8, [.nilFunc], .func⟩
theorem ti222 : tiOf Tryz.prog 222 = some i222 := by kernel_rfl
@[go_sem] def i223 : TI := ⟨16, 128, [.int .i64 0, .int .i64 0, .int .i64 0, .int .i64 0, .int .i64 0, .int .i64 0, .int .i64 0, .int .i64 0, .int .i64 0, .int .i64 0, .int .i64 0, .int .i64 0, .int .i64 0, .int .i64 0, .int .i64 0, .int .i64 0], .array 16 3⟩
theorem ti223 : tiOf Tryz.prog 223 = some i223 := by kernel_rfl
@[go_sem] def i224 : TI := ⟨1, 8, [.nilFunc], .func⟩
theorem ti224 : tiOf Tryz.prog 224 = some i224 := by kernel_rfl
@[go_sem] def i225 : TI := ⟨1, 8, [.pointer none], .ptr 5⟩
theorem ti225 : tiOf Tryz.prog 225 = some i225 := by kernel_rfl
@[go_sem] def i226 : TI := ⟨1, 8, [.nilFunc], .func⟩
theorem ti226 : tiOf Tryz.prog 226 = some i226 := by kernel_rfl
@[go_sem] def i227 : TI := ⟨1, 8, [.nilFunc], .func⟩
theorem ti227 : tiOf Tryz.prog 227 = some i227 := by kernel_rfl
@[go_sem] def i228 : TI := ⟨1, 8, [.nilFunc], .func⟩
theorem ti228 : tiOf Tryz.prog 228 = some i228 := by kernel_rfl
@[go_sem] def i229 : TI := ⟨1, 8, [.nilFunc], .func⟩
theorem ti229 : tiOf Tryz.prog 229 = some i229 := by kernel_rfl
@[go_sem] def i230 : TI := ⟨1, 8, [.nilFunc], .func⟩
theorem ti230 : tiOf Tryz.prog 230 = some i230 := by kernel_rfl
@[go_sem] def i231 : TI := ⟨1, 8, [.nilFunc], .func⟩
theorem ti231 : tiOf Tryz.prog 231 = some i231 := by kernel_rfl
@[go_sem] def i233 : TI := ⟨1, 8, [.nilFunc], .func⟩
theorem ti233 : tiOf Tryz.prog 233 = some i233 := by kernel_rfl
@[go_sem] def i234 : TI := ⟨1, 8, [.nilFunc], .func⟩
theorem ti234 : tiOf Tryz.prog 234 = some i234 := by kernel_rfl
@[go_sem] def i235 : TI := ⟨1, 8, [.nilFunc], .func⟩
theorem ti235 : tiOf Tryz.prog 235 = some i235 := by kernel_rfl
@[go_sem] def i236 : TI := ⟨1, 8, [.nilFunc], .func⟩
theorem ti236 : tiOf Tryz.prog 236 = some i236 := by kernel_rfl
@[go_sem] def i237 : TI := ⟨1, 8, [.nilFunc], .func⟩
theorem ti237 : tiOf Tryz.prog 237 = some i237 := by kernel_rfl
@[go_sem] def i238 : TI := ⟨1, 8, [.nilFunc], .func⟩
theorem ti238 : tiOf Tryz.prog 238 = some i238 := by kernel_rfl
@[go_sem] def i239 : TI := ⟨1, 8, [.nilFunc], .func⟩
theorem ti239 : tiOf Tryz.prog 239 = some i239 := by kernel_rfl
@[go_sem] def i241 : TI := ⟨1, 8, [.nilFunc], .func⟩
theorem ti241 : tiOf Tryz.prog 241 = some i241 := by kernel_rfl
@[go_sem] def i242 : TI := ⟨1, 8, [.nilFunc], .func⟩
theorem ti242 : tiOf Tryz.prog 242 = some i242 := by kernel_rfl
@[go_sem] def i243 : TI := ⟨1, 8, [.nilFunc], .func⟩
theorem ti243 : tiOf Tryz.prog 243 = some i243 := by kernel_rfl
@[go_sem] def i244 : TI := ⟨1, 8, [.nilFunc], .func⟩
theorem ti244 : tiOf Tryz.prog 244 = some i244 := by kernel_rfl
@[go_sem] def i246 : TI := ⟨1, 8, [.nilFunc], .func⟩
theorem ti246 : tiOf Tryz.prog 246 = some i246 := by kernel_rfl
@[go_sem] def i247 : TI := ⟨1, 8, [.nilFunc], .func⟩
theorem ti247 : tiOf Tryz.prog 247 = some i247 := by kernel_rfl
@[go_sem] def i248 : TI := ⟨1, 8, [.nilFunc], .func⟩
theorem ti248 : tiOf Tryz.prog 248 = some i248 := by kernel_rfl
@[go_sem] def i249 : TI := ⟨1, 24, [.slice none 0 0], .slice 86⟩
theorem ti249 : tiOf Tryz.prog 249 = some i249 := by kernel_rfl
@[go_sem] def i250 : TI := ⟨1, 8, [.nilFunc], .func⟩
theorem ti250 : tiOf Tryz.prog 250 = some i250 := by kernel_rfl
@[go_sem] def i251 : TI := ⟨1, 8, [.nilFunc], .func⟩
theorem ti251 : tiOf Tryz.prog 251 = some i251 := by kernel_rfl
@[go_sem] def i252 : TI := ⟨1, 8, [.nilFunc], .func⟩
theorem ti252 : tiOf Tryz.prog 252 = some i252 := by kernel_rfl
@[go_sem] def i253 : TI := ⟨1, 8, [.nilFunc], .func⟩
theorem ti253 : tiOf Tryz.prog 253 = some i253 := by kernel_rfl
@[go_sem] def i254 : TI := ⟨1, 8, [.nilFunc], .func⟩
theorem ti254 : tiOf Tryz.prog 254 = some i254 := by kernel_rfl
@[go_sem] def i255 : TI := ⟨1, 8, [.pointer none], .uptr⟩
theorem ti255 : tiOf Tryz.prog 255 = some i255 := by kernel_rfl
@[go_sem] def i256 : TI := ⟨1, 8, [.nilFunc], .func⟩
theorem ti256 : tiOf Tryz.prog 256 = some i256 := by kernel_rfl
@[go_sem] def i257 : TI := ⟨1, 8, [.nilFunc], .func⟩
theorem ti257 : tiOf Tryz.prog 257 = some i257 := by kernel_rfl
@[go_sem] def i258 : TI := ⟨1, 8, [.nilFunc], .func⟩
theorem ti258 : tiOf Tryz.prog 258 = some i258 := by kernel_rfl
@[go_sem] def i259 : TI := ⟨1, 8, [.pointer none], .ptr 269⟩
theorem ti259 : tiOf Tryz.prog 259 = some i259 := by kernel_rfl
@[go_sem] def i261 : TI := ⟨1, 8, [.nilFunc], .func⟩
theorem ti261 : tiOf Tryz.prog 261 = some i261 := by kernel_rfl
@[go_sem] def i262 : TI := ⟨1, 8, [.nilFunc], .func⟩
theorem ti262 : tiOf Tryz.prog 262 = some i262 := by kernel_rfl
@[go_sem] def i263 : TI := ⟨1, 8, [.nilFunc], .func⟩
theorem ti263 : tiOf Tryz.prog 263 = some i263 := by kernel_rfl
@[go_sem] def i264 : TI := ⟨1, 8, [.nilFunc], .func⟩
theorem ti264 : tiOf Tryz.prog 264 = some i264 := by kernel_rfl
@[go_sem] def i265 : TI := ⟨1, 8, [.nilFunc], .func⟩
theorem ti265 : tiOf Tryz.prog 265 = some i265 := by kernel_rfl
@[go_sem] def i266 : TI := ⟨1, 8, [.nilFunc], .func⟩
theorem ti266 : tiOf Tryz.prog 266 = some i266 := by kernel_rfl
@[go_sem] def i267 : TI := ⟨1, 8, [.nilFunc], .func⟩
theorem ti267 : tiOf Tryz.prog 267 = some i267 := by kernel_rfl
@[go_sem] def i268 : TI := ⟨12, 144, [.int .i64 0, .int .i64 0, .int .i64 0, .int .i64 0, .int .i64 0, .int .i64 0, .int .i64 0, .int .i64 0, .int .i64 0, .slice none 0 0, .slice none 0 0, .slice none 0 0], .struct [(0, 9, 40), (9, 3, 84)] true⟩
theorem ti268 : tiOf Tryz.prog 268 = some i268 := by kernel_rfl
@[go_sem] def i269 : TI := ⟨12, 144, [.int .i64 0, .int .i64 0, .int .i64 0, .int .i64 0, .int .i64 0, .int .i64 0, .int .i64 0, .int .i64 0, .int .i64 0, .slice none 0 0, .slice none 0 0, .slice none 0 0], .struct [(0, 9, 40), (9, 3, 84)] true⟩
theorem ti269 : tiOf Tryz.prog 269 = some i269 := by kernel_rfl
@[go_sem] def i270 : TI := ⟨1, 8, [.nilFunc], .func⟩
theorem ti270 : tiOf Tryz.prog 270 = some i270 := by kernel_rfl
@[go_sem] def i271 : TI := ⟨1, 8, [.pointer none], .ptr 297⟩
theorem ti271 : tiOf Tryz.prog 271 = some i271 := by kernel_rfl
@[go_sem] def i273 : TI := ⟨1, 8, [.nilFunc], .func⟩
theorem ti273 : tiOf Tryz.prog 273 = some i273 := by kernel_rfl
@[go_sem] def i275 : TI := ⟨1, 8, [.nilFunc], .func⟩
theorem ti275 : tiOf Tryz.prog 275 = some i275 := by kernel_rfl
@[go_sem] def i276 : TI := ⟨1, 8, [.nilFunc], .func⟩
theorem ti276 : tiOf Tryz.prog 276 = some i276 := by kernel_rfl
@[go_sem] def i277 : TI := ⟨1, 8, [.nilFunc], .func⟩
theorem ti277 : tiOf Tryz.prog 277 = some i277 := by kernel_rfl
@[go_sem] def i278 : TI := ⟨1, 8, [.nilFunc], .func⟩
theorem ti278 : tiOf Tryz.prog 278 = some i278 := by kernel_rfl
@[go_sem] def i279 : TI := ⟨1, 8, [.nilFunc], .func⟩
theorem ti279 : tiOf Tryz.prog 279 = some i279 := by kernel_rfl
@[go_sem] def i281 : TI := ⟨1, 8, [.int .u64 0], .int .u64⟩
theorem ti281 : tiOf Tryz.prog 281 = some i281 := by kernel_rfl
@[go_sem] def i282 : TI := ⟨1, 8, [.nilFunc], .func⟩
theorem ti282 : tiOf Tryz.prog 282 = some i282 := by kernel_rfl
@[go_sem] def i283 : TI := ⟨1, 8, [.nilFunc], .func⟩
theorem ti283 : tiOf Tryz.prog 283 = some i283 := by kernel_rfl
@[go_sem] def i284 : TI := ⟨1, 8, [.nilFunc], .func⟩
theorem ti284 : tiOf Tryz.prog 284 = some i284 := by kernel_rfl
@[go_sem] def i285 : TI := ⟨1, 24, [.slice none 0 0], .slice 57⟩
theorem ti285 : tiOf Tryz.prog 285 = some i285 := by kernel_rfl
@[go_sem] def i286 : TI := ⟨24, 24, [.int .u8 0, .int .u8 0, .int .u8 0, .int .u8 0, .int .u8 0, .int .u8 0, .int .u8 0, .int .u8 0, .int .u8 0, .int .u8 0, .int .u8 0, .int .u8 0, .int .u8 0, .int .u8 0, .int .u8 0, .int .u8 0, .int .u8 0, .int .u8 0, .int .u8 0, .int .u8 0, .int .u8 0, .int .u8 0, .int .u8 0, .int .u8 0], .array 24 5⟩
theorem ti286 : tiOf Tryz.prog 286 = some i286 := by kernel_rfl
@[go_sem] def i287 : TI := ⟨1, 8, [.nilFunc], .func⟩
theorem ti287 : tiOf Tryz.prog 287 = some i287 := by kernel_rfl
@[go_sem] def i289 : TI := ⟨1, 8, [.nilFunc], .func⟩
theorem ti289 : tiOf Tryz.prog 289 = some i289 := by kernel_rfl
@[go_sem] def i290 : TI := ⟨1, 8, [.nilFunc], .func⟩
theorem ti290 : tiOf Tryz.prog 290 = some i290 := by kernel_rfl
@[go_sem] def i291 : TI := ⟨1, 8, [.nilFunc], .func⟩
theorem ti291 : tiOf Tryz.prog 291 = some i291 := by kernel_rfl
@[go_sem] def i292 : TI := ⟨2, 16, [.int .i64 0, .int .i64 0], .array 2 2⟩
theorem ti292 : tiOf Tryz.prog 292 = some i292 := by kernel_rfl
@[go_sem] def i293 : TI := ⟨1, 8, [.nilFunc], .func⟩
theorem ti293 : tiOf Tryz.prog 293 = some i293 := by kernel_rfl
@[go_sem] def i294 : TI := ⟨1, 8, [.nilFunc], .func⟩
theorem ti294 : tiOf Tryz.prog 294 = some i294 := by kernel_rfl
@[go_sem] def i295 : TI := ⟨1, 8, [.nilFunc], .func⟩
theorem ti295 : tiOf Tryz.prog 295 = some i295 := by kernel_rfl
@[go_sem] def i296 : TI := ⟨4, 48, [.int .i64 0, .slice none 0 0, .int .i64 0, .int .u64 0], .struct [(0, 1, 3), (1, 1, 80), (2, 1, 3), (3, 1, 28)] true⟩
theorem ti296 : tiOf Tryz.prog 296 = some i296 := by kernel_rfl
@[go_sem] def i297 : TI := ⟨4, 48, [.int .i64 0, .slice none 0 0, .int .i64 0, .int .u64 0], .struct [(0, 1, 3), (1, 1, 80), (2, 1, 3), (3, 1, 28)] true⟩
theorem ti297 : tiOf Tryz.prog 297 = some i297 := by kernel_rfl
@[go_sem] def i298 : TI := ⟨1, 8, [.nilFunc], .func⟩
theorem ti298 : tiOf Tryz.prog 298 = some i298 := by kernel_rfl
@[go_sem] def i299 : TI := ⟨1, 8, [.nilFunc], .func⟩
theorem ti299 : tiOf Tryz.prog 299 = some i299 := by kernel_rfl
@[go_sem] def i300 : TI := ⟨1, 8, [.nilFunc], .func⟩
theorem ti300 : tiOf Tryz.prog 300 = some i300 := by kernel_rfl
@[go_sem] def i301 : TI := ⟨20, 160, [.int .u64 0, .int .u64 0, .int .u64 0, .int .u64 0, .int .u64 0, .int .u64 0, .int .u64 0, .int .u64 0, .int .u64 0, .int .u64 0, .int .u64 0, .int .u64 0, .int .u64 0, .int .u64 0, .int .u64 0, .int .u64 0, .int .u64 0, .int .u64 0, .int .u64 0, .int .u64 0], .array 20 28⟩
theorem ti301 : tiOf Tryz.prog 301 = some i301 := by kernel_rfl
@[go_sem] def i302 : TI := ⟨1, 4, [.int .u32 0], .int .u32⟩
theorem ti302 : tiOf Tryz.prog 302 = some i302 := by kernel_rfl
@[go_sem] def i304 : TI := ⟨1, 8, [.nilFunc], .func⟩
theorem ti304 : tiOf Tryz.prog 304 = some i304 := by kernel_rfl
@[go_sem] def i305 : TI := ⟨1, 8, [.nilFunc], .func⟩
theorem ti305 : tiOf Tryz.prog 305 = some i305 := by kernel_rfl
@[go_sem] def i306 : TI := ⟨1, 8, [.nilFunc], .func⟩
theorem ti306 : tiOf Tryz.prog 306 = some i306 := by kernel_rfl
@[go_sem] def i307 : TI := ⟨1, 8, [.nilFunc], .func⟩
theorem ti307 : tiOf Tryz.prog 307 = some i307 := by kernel_rfl
@[go_sem] def i308 : TI := ⟨1, 8, [.nilFunc], .func⟩
theorem ti308 : tiOf Tryz.prog 308 = some i308 := by kernel_rfl
@[go_sem] def i309 : TI := ⟨1, 8, [.nilFunc], .func⟩
theorem ti309 : tiOf Tryz.prog 309 = some i309 := by kernel_rfl
@[go_sem] def i310 : TI := ⟨1, 8, [.nilFunc], .func⟩
theorem ti310 : tiOf Tryz.prog 310 = some i310 := by kernel_rfl
@[go_sem] def i311 : TI := ⟨1, 8, [.nilFunc], .func⟩
theorem ti311 : tiOf Tryz.prog 311 = some i311 := by kernel_rfl
@[go_sem] def i312 : TI := ⟨1, 8, [.nilFunc], .func⟩
theorem ti312 : tiOf Tryz.prog 312 = some i312 := by kernel_rfl
@[go_sem] def i313 : TI := ⟨32, 32, [.int .u8 0, .int .u8 0, .int .u8 0, .int .u8 0, .int .u8 0, .int .u8 0, .int .u8 0, .int .u8 0, .int .u8 0, .int .u8 0, .int .u8 0, .int .u8 0, .int .u8 0, .int .u8 0, .int .u8 0, .int .u8 0, .int .u8 0, .int .u8 0, .int .u8 0, .int .u8 0, .int .u8 0, .int .u8 0, .int .u8 0, .int .u8 0, .int .u8 0, .int .u8 0, .int .u8 0, .int .u8 0, .int .u8 0, .int .u8 0, .int .u8 0, .int .u8 0], .array 32 5⟩
theorem ti313 : tiOf Tryz.prog 313 = some i313 := by kernel_rfl
@[go_sem] def i314 : TI := ⟨1, 8, [.nilFunc], .func⟩
theorem ti314 : tiOf Tryz.prog 314 = some i314 := by kernel_rfl
@[go_sem] def i315 : TI := ⟨1, 8, [.nilFunc], .func⟩
theorem ti315 : tiOf Tryz.prog 315 = some i315 := by kernel_rfl
@[go_sem] def i318 : TI := ⟨0, 0, [], .array 0 16⟩
theorem ti318 : tiOf Tryz.prog 318 = some i318 := by kernel_rfl
@[go_sem] def i321 : TI := ⟨1, 8, [.nilFunc], .func⟩
theorem ti321 : tiOf Tryz.prog 321 = some i321 := by kernel_rfl
@[go_sem] def i324 : TI := ⟨1, 8, [.nilFunc], .func⟩
theorem ti324 : tiOf Tryz.prog 324 = some i324 := by kernel_rfl

def tabL : List (Nat × TI) := [(1, i1), (2, i2), (3, i3), (4, i4), (5, i5), (9, i9), (12, i12), (15, i15), (16, i16), (20, i20), (21, i21), (22, i22), (23, i23), (24, i24), (25, i25), (26, i26), (27, i27), (28, i28), (29, i29), (30, i30), (31, i31), (32, i32), (33, i33), (35, i35), (36, i36), (37, i37), (38, i38), (39, i39), (40, i40), (41, i41), (42, i42), (43, i43), (44, i44), (45, i45), (46, i46), (48, i48), (49, i49), (50, i50), (51, i51), (52, i52), (53, i53), (54, i54), (55, i55), (56, i56), (57, i57), (58, i58), (59, i59), (60, i60), (61, i61), (63, i63), (64, i64), (66, i66), (68, i68), (69, i69), (70, i70), (71, i71), (72, i72), (73, i73), (75, i75), (76, i76), (77, i77), (78, i78), (79, i79), (80, i80), (81, i81), (82, i82), (83, i83), (84, i84), (85, i85), (86, i86), (87, i87), (88, i88), (89, i89), (90, i90), (91, i91), (92, i92), (93, i93), (94, i94), (95, i95), (96, i96), (98, i98), (99, i99), (100, i100), (101, i101), (102, i102), (104, i104), (105, i105), (106, i106), (107, i107), (108, i108), (109, i109), (110, i110), (111, i111), (112, i112), (113, i113), (115, i115), (116, i116), (117, i117), (118, i118), (119, i119), (121, i121), (122, i122), (123, i123), (124, i124), (125, i125), (126, i126), (127, i127), (128, i128), (129, i129), (130, i130), (132, i132), (134, i134), (136, i136), (137, i137), (138, i138), (139, i139), (140, i140), (141, i141), (142, i142), (143, i143), (144, i144), (145, i145), (146, i146), (147, i147), (149, i149), (151, i151), (153, i153), (154, i154), (155, i155), (156, i156), (157, i157), (158, i158), (159, i159), (160, i160), (161, i161), (163, i163), (164, i164), (165, i165), (166, i166), (167, i167), (168, i168), (169, i169), (170, i170), (171, i171), (172, i172), (173, i173), (174, i174), (175, i175), (176, i176), (178, i178), (179, i179), (180, i180), (181, i181), (182, i182), (183, i183), (184, i184), (185, i185), (186, i186), (188, i188), (189, i189), (190, i190), (192, i192), (193, i193), (194, i194), (195, i195), (196, i196), (197, i197), (198, i198), (200, i200), (202, i202), (203, i203), (204, i204), (205, i205), (206, i206), (207, i207), (208, i208), (209, i209), (210, i210), (211, i211), (212, i212), (213, i213), (215, i215), (216, i216), (217, i217), (219, i219), (220, i220), (221, i221), (222, i222), (223, i223), (224, i224), (225, i225), (226, i226), (227, i227), (228, i228), (229, i229), (230, i230), (231, i231), (233, i233), (234, i234), (235, i235), (236, i236), (237, i237), (238, i238), (239, i239), (241, i241), (242, i242), (243, i243), (244, i244), (246, i246), (247, i247), (248, i248), (249, i249), (250, i250), (251, i251), (252, i252), (253, i253), (254, i254), (255, i255), (256, i256), (257, i257), (258, i258), (259, i259), (261, i261), (262, i262), (263, i263), (264, i264), (265, i265), (266, i266), (267, i267), (268, i268), (269, i269), (270, i270), (271, i271), (273, i273), (275, i275), (276, i276), (277, i277), (278, i278), (279, i279), (281, i281), (282, i282), (283, i283), (284, i284), (285, i285), (286, i286), (287, i287), (289, i289), (290, i290), (291, i291), (292, i292), (293, i293), (294, i294), (295, i295), (296, i296), (297, i297), (298, i298), (299, i299), (300, i300), (301, i301), (302, i302), (304, i304), (305, i305), (306, i306), (307, i307), (308, i308), (309, i309), (310, i310), (311, i311), (312, i312), (313, i313), (314, i314), (315, i315), (318, i318), (321, i321), (324, i324)]
def tab : Tab := tget tabL
@[go_sem] theorem tab1 : tab 1 = some i1 := rfl
@[go_sem] theorem tab2 : tab 2 = some i2 := rfl
@[go_sem] theorem tab3 : tab 3 = some i3 := rfl
@[go_sem] theorem tab4 : tab 4 = some i4 := rfl
@[go_sem] theorem tab5 : tab 5 = some i5 := rfl
@[go_sem] theorem tab9 : tab 9 = some i9 := rfl
@[go_sem] theorem tab12 : tab 12 = some i12 := rfl
@[go_sem] theorem tab15 : tab 15 = some i15 := rfl
@[go_sem] theorem tab16 : tab 16 = some i16 := rfl
@[go_sem] theorem tab20 : tab 20 = some i20 := rfl
@[go_sem] theorem tab21 : tab 21 = some i21 := rfl
@[go_sem] theorem tab22 : tab 22 = some i22 := rfl
@[go_sem] theorem tab23 : tab 23 = some i23 := rfl
@[go_sem] theorem tab24 : tab 24 = some i24 := rfl
@[go_sem] theorem tab25 : tab 25 = some i25 := rfl
@[go_sem] theorem tab26 : tab 26 = some i26 := rfl
@[go_sem] theorem tab27 : tab 27 = some i27 := rfl
@[go_sem] theorem tab28 : tab 28 = some i28 := rfl
@[go_sem] theorem tab29 : tab 29 = some i29 := rfl
@[go_sem] theorem tab30 : tab 30 = some i30 := rfl
@[go_sem] theorem tab31 : tab 31 = some i31 := rfl
@[go_sem] theorem tab32 : tab 32 = some i32 := rfl
@[go_sem] theorem tab33 : tab 33 = some i33 := rfl
@[go_sem] theorem tab35 : tab 35 = some i35 := rfl
@[go_sem] theorem tab36 : tab 36 = some i36 := rfl
@[go_sem] theorem tab37 : tab 37 = some i37 := rfl
@[go_sem] theorem tab38 : tab 38 = some i38 := rfl
@[go_sem] theorem tab39 : tab 39 = some i39 := rfl
@[go_sem] theorem tab40 : tab 40 = some i40 := rfl
@[go_sem] theorem tab41 : tab 41 = some i41 := rfl
@[go_sem] theorem tab42 : tab 42 = some i42 := rfl
@[go_sem] theorem tab43 : tab 43 = some i43 := rfl
@[go_sem] theorem tab44 : tab 44 = some i44 := rfl
@[go_sem] theorem tab45 : tab 45 = some i45 := rfl
@[go_sem] theorem tab46 : tab 46 = some i46 := rfl
@[go_sem] theorem tab48 : tab 48 = some i48 := rfl
@[go_sem] theorem tab49 : tab 49 = some i49 := rfl
@[go_sem] theorem tab50 : tab 50 = some i50 := rfl
@[go_sem] theorem tab51 : tab 51 = some i51 := rfl
@[go_sem] theorem tab52 : tab 52 = some i52 := rfl
@[go_sem] theorem tab53 : tab 53 = some i53 := rfl
@[go_sem] theorem tab54 : tab 54 = some i54 := rfl
@[go_sem] theorem tab55 : tab 55 = some i55 := rfl
@[go_sem] theorem tab56 : tab 56 = some i56 := rfl
@[go_sem] theorem tab57 : tab 57 = some i57 := rfl
@[go_sem] theorem tab58 : tab 58 = some i58 := rfl
@[go_sem] theorem tab59 : tab 59 = some i59 := rfl
@[go_sem] theorem tab60 : tab 60 = some i60 := rfl
@[go_sem] theorem tab61 : tab 61 = some i61 := rfl
@[go_sem] theorem tab63 : tab 63 = some i63 := rfl
@[go_sem] theorem tab64 : tab 64 = some i64 := rfl
@[go_sem] theorem tab66 : tab 66 = some i66 := rfl
@[go_sem] theorem tab68 : tab 68 = some i68 := rfl
@[go_sem] theorem tab69 : tab 69 = some i69 := rfl
@[go_sem] theorem tab70 : tab 70 = some i70 := rfl
@[go_sem] theorem tab71 : tab 71 = some i71 := rfl
@[go_sem] theorem tab72 : tab 72 = some i72 := rfl
@[go_sem] theorem tab73 : tab 73 = some i73 := rfl
@[go_sem] theorem tab75 : tab 75 = some i75 := rfl
@[go_sem] theorem tab76 : tab 76 = some i76 := rfl
@[go_sem] theorem tab77 : tab 77 = some i77 := rfl
@[go_sem] theorem tab78 : tab 78 = some i78 := rfl
@[go_sem] theorem tab79 : tab 79 = some i79 := rfl
@[go_sem] theorem tab80 : tab 80 = some i80 := rfl
@[go_sem] theorem tab81 : tab 81 = some i81 := rfl
@[go_sem] theorem tab82 : tab 82 = some i82 := rfl
@[go_sem] theorem tab83 : tab 83 = some i83 := rfl
@[go_sem] theorem tab84 : tab 84 = some i84 := rfl
@[go_sem] theorem tab85 : tab 85 = some i85 := rfl
@[go_sem] theorem tab86 : tab 86 = some i86 := rfl
@[go_sem] theorem tab87 : tab 87 = some i87 := rfl
@[go_sem] theorem tab88 : tab 88 = some i88 := rfl
@[go_sem] theorem tab89 : tab 89 = some i89 := rfl
@[go_sem] theorem tab90 : tab 90 = some i90 := rfl
@[go_sem] theorem tab91 : tab 91 = some i91 := rfl
@[go_sem] theorem tab92 : tab 92 = some i92 := rfl
@[go_sem] theorem tab93 : tab 93 = some i93 := rfl
@[go_sem] theorem tab94 : tab 94 = some i94 := rfl
@[go_sem] theorem tab95 : tab 95 = some i95 := rfl
@[go_sem] theorem tab96 : tab 96 = some i96 := rfl
@[go_sem] theorem tab98 : tab 98 = some i98 := rfl
@[go_sem] theorem tab99 : tab 99 = some i99 := rfl
@[go_sem] theorem tab100 : tab 100 = some i100 := rfl
@[go_sem] theorem tab101 : tab 101 = some i101 := rfl
@[go_sem] theorem tab102 : tab 102 = some i102 := rfl
@[go_sem] theorem tab104 : tab 104 = some i104 := rfl
@[go_sem] theorem tab105 : tab 105 = some i105 := rfl
@[go_sem] theorem tab106 : tab 106 = some i106 := rfl
@[go_sem] theorem tab107 : tab 107 = some i107 := rfl
@[go_sem] theorem tab108 : tab 108 = some i108 := rfl
@[go_sem] theorem tab109 : tab 109 = some i109 := rfl
@[go_sem] theorem tab110 : tab 110 = some i110 := rfl
@[go_sem] theorem tab111 : tab 111 = some i111 := rfl
@[go_sem] theorem tab112 : tab 112 = some i112 := rfl
@[go_sem] theorem tab113 : tab 113 = some i113 := rfl
@[go_sem] theorem tab115 : tab 115 = some i115 := rfl
@[go_sem] theorem tab116 : tab 116 = some i116 := rfl
@[go_sem] theorem tab117 : tab 117 = some i117 := rfl
@[go_sem] theorem tab118 : tab 118 = some i118 := rfl
@[go_sem] theorem tab119 : tab 119 = some i119 := rfl
@[go_sem] theorem tab121 : tab 121 = some i121 := rfl
@[go_sem] theorem tab122 : tab 122 = some i122 := rfl
@[go_sem] theorem tab123 : tab 123 = some i123 := rfl
@[go_sem] theorem tab124 : tab 124 = some i124 := rfl
@[go_sem] theorem tab125 : tab 125 = some i125 := rfl
@[go_sem] theorem tab126 : tab 126 = some i126 := rfl
@[go_sem] theorem tab127 : tab 127 = some i127 := rfl
@[go_sem] theorem tab128 : tab 128 = some i128 := rfl
@[go_sem] theorem tab129 : tab 129 = some i129 := rfl
@[go_sem] theorem tab130 : tab 130 = some i130 := rfl
@[go_sem] theorem tab132 : tab 132 = some i132 := rfl
@[go_sem] theorem tab134 : tab 134 = some i134 := rfl
@[go_sem] theorem tab136 : tab 136 = some i136 := rfl
@[go_sem] theorem tab137 : tab 137 = some i137 := rfl
@[go_sem] theorem tab138 : tab 138 = some i138 := rfl
@[go_sem] theorem tab139 : tab 139 = some i139 := rfl
@[go_sem] theorem tab140 : tab 140 = some i140 := rfl
@[go_sem] theorem tab141 : tab 141 = some i141 := rfl
@[go_sem] theorem tab142 : tab 142 = some i142 := rfl
@[go_sem] theorem tab143 : tab 143 = some i143 := rfl
@[go_sem] theorem tab144 : tab 144 = some i144 := rfl
@[go_sem] theorem tab145 : tab 145 = some i145 := rfl
@[go_sem] theorem tab146 : tab 146 = some i146 := rfl
@[go_sem] theorem tab147 : tab 147 = some i147 := rfl
@[go_sem] theorem tab149 : tab 149 = some i149 := rfl
@[go_sem] theorem tab151 : tab 151 = some i151 := rfl
@[go_sem] theorem tab153 : tab 153 = some i153 := rfl
@[go_sem] theorem tab154 : tab 154 = some i154 := rfl
@[go_sem] theorem tab155 : tab 155 = some i155 := rfl
@[go_sem] theorem tab156 : tab 156 = some i156 := rfl
@[go_sem] theorem tab157 : tab 157 = some i157 := rfl
@[go_sem] theorem tab158 : tab 158 = some i158 := rfl
@[go_sem] theorem tab159 : tab 159 = some i159 := rfl
@[go_sem] theorem tab160 : tab 160 = some i160 := rfl
@[go_sem] theorem tab161 : tab 161 = some i161 := rfl
@[go_sem] theorem tab163 : tab 163 = some i163 := rfl
@[go_sem] theorem tab164 : tab 164 = some i164 := rfl
@[go_sem] theorem tab165 : tab 165 = some i165 := rfl
@[go_sem] theorem tab166 : tab 166 = some i166 := rfl
@[go_sem] theorem tab167 : tab 167 = some i167 := rfl
@[go_sem] theorem tab168 : tab 168 = some i168 := rfl
@[go_sem] theorem tab169 : tab 169 = some i169 := rfl
@[go_sem] theorem tab170 : tab 170 = some i170 := rfl
@[go_sem] theorem tab171 : tab 171 = some i171 := rfl
@[go_sem] theorem tab172 : tab 172 = some i172 := rfl
@[go_sem] theorem tab173 : tab 173 = some i173 := rfl
@[go_sem] theorem tab174 : tab 174 = some i174 := rfl
@[go_sem] theorem tab175 : tab 175 = some i175 := rfl
@[go_sem] theorem tab176 : tab 176 = some i176 := rfl
@[go_sem] theorem tab178 : tab 178 = some i178 := rfl
@[go_sem] theorem tab179 : tab 179 = some i179 := rfl
@[go_sem] theorem tab180 : tab 180 = some i180 := rfl
@[go_sem] theorem tab181 : tab 181 = some i181 := rfl
@[go_sem] theorem tab182 : tab 182 = some i182 := rfl
@[go_sem] theorem tab183 : tab 183 = some i183 := rfl
@[go_sem] theorem tab184 : tab 184 = some i184 := rfl
@[go_sem] theorem tab185 : tab 185 = some i185 := rfl
@[go_sem] theorem tab186 : tab 186 = some i186 := rfl
@[go_sem] theorem tab188 : tab 188 = some i188 := rfl
@[go_sem] theorem tab189 : tab 189 = some i189 := rfl
@[go_sem] theorem tab190 : tab 190 = some i190 := rfl
@[go_sem] theorem tab192 : tab 192 = some i192 := rfl
@[go_sem] theorem tab193 : tab 193 = some i193 := rfl
@[go_sem] theorem tab194 : tab 194 = some i194 := rfl
@[go_sem] theorem tab195 : tab 195 = some i195 := rfl
@[go_sem] theorem tab196 : tab 196 = some i196 := rfl
@[go_sem] theorem tab197 : tab 197 = some i197 := rfl
@[go_sem] theorem tab198 : tab 198 = some i198 := rfl
@[go_sem] theorem tab200 : tab 200 = some i200 := rfl
@[go_sem] theorem tab202 : tab 202 = some i202 := rfl
@[go_sem] theorem tab203 : tab 203 = some i203 := rfl
@[go_sem] theorem tab204 : tab 204 = some i204 := rfl
@[go_sem] theorem tab205 : tab 205 = some i205 := rfl
@[go_sem] theorem tab206 : tab 206 = some i206 := rfl
@[go_sem] theorem tab207 : tab 207 = some i207 := rfl
@[go_sem] theorem tab208 : tab 208 = some i208 := rfl
@[go_sem] theorem tab209 : tab 209 = some i209 := rfl
@[go_sem] theorem tab210 : tab 210 = some i210 := rfl
@[go_sem] theorem tab211 : tab 211 = some i211 := rfl
@[go_sem] theorem tab212 : tab 212 = some i212 := rfl
@[go_sem] theorem tab213 : tab 213 = some i213 := rfl
@[go_sem] theorem tab215 : tab 215 = some i215 := rfl
@[go_sem] theorem tab216 : tab 216 = some i216 := rfl
@[go_sem] theorem tab217 : tab 217 = some i217 := rfl
@[go_sem] theorem tab219 : tab 219 = some i219 := rfl
@[go_sem] theorem tab220 : tab 220 = some i220 := rfl
@[go_sem] theorem tab221 : tab 221 = some i221 := rfl
@[go_sem] theorem tab222 : tab 222 = some i222 := rfl
@[go_sem] theorem tab223 : tab 223 = some i223 := rfl
@[go_sem] theorem tab224 : tab 224 = some i224 := rfl
@[go_sem] theorem tab225 : tab 225 = some i225 := rfl
@[go_sem] theorem tab226 : tab 226 = some i226 := rfl
@[go_sem] theorem tab227 : tab 227 = some i227 := rfl
@[go_sem] theorem tab228 : tab 228 = some i228 := rfl
@[go_sem] theorem tab229 : tab 229 = some i229 := rfl
@[go_sem] theorem tab230 : tab 230 = some i230 := rfl
@[go_sem] theorem tab231 : tab 231 = some i231 := rfl
@[go_sem] theorem tab233 : tab 233 = some i233 := rfl
@[go_sem] theorem tab234 : tab 234 = some i234 := rfl
@[go_sem] theorem tab235 : tab 235 = some i235 := rfl
@[go_sem] theorem tab236 : tab 236 = some i236 := rfl
@[go_sem] theorem tab237 : tab 237 = some i237 := rfl
@[go_sem] theorem tab238 : tab 238 = some i238 := rfl
@[go_sem] theorem tab239 : tab 239 = some i239 := rfl
@[go_sem] theorem tab241 : tab 241 = some i241 := rfl
@[go_sem] theorem tab242 : tab 242 = some i242 := rfl
@[go_sem] theorem tab243 : tab 243 = some i243 := rfl
@[go_sem] theorem tab244 : tab 244 = some i244 := rfl
@[go_sem] theorem tab246 : tab 246 = some i246 := rfl
@[go_sem] theorem tab247 : tab 247 = some i247 := rfl
@[go_sem] theorem tab248 : tab 248 = some i248 := rfl
@[go_sem] theorem tab249 : tab 249 = some i249 := rfl
@[go_sem] theorem tab250 : tab 250 = some i250 := rfl
@[go_sem] theorem tab251 : tab 251 = some i251 := rfl
@[go_sem] theorem tab252 : tab 252 = some i252 := rfl
@[go_sem] theorem tab253 : tab 253 = some i253 := rfl
@[go_sem] theorem tab254 : tab 254 = some i254 := rfl
@[go_sem] theorem tab255 : tab 255 = some i255 := rfl
@[go_sem] theorem tab256 : tab 256 = some i256 := rfl
@[go_sem] theorem tab257 : tab 257 = some i257 := rfl
@[go_sem] theorem tab258 : tab 258 = some i258 := rfl
@[go_sem] theorem tab259 : tab 259 = some i259 := rfl
@[go_sem] theorem tab261 : tab 261 = some i261 := rfl
@[go_sem] theorem tab262 : tab 262 = some i262 := rfl
@[go_sem] theorem tab263 : tab 263 = some i263 := rfl
@[go_sem] theorem tab264 : tab 264 = some i264 := rfl
@[go_sem] theorem tab265 : tab 265 = some i265 := rfl
@[go_sem] theorem tab266 : tab 266 = some i266 := rfl
@[go_sem] theorem tab267 : tab 267 = some i267 := rfl
@[go_sem] theorem tab268 : tab 268 = some i268 := rfl
@[go_sem] theorem tab269 : tab 269 = some i269 := rfl
@[go_sem] theorem tab270 : tab 270 = some i270 := rfl
@[go_sem] theorem tab271 : tab 271 = some i271 := rfl
@[go_sem] theorem tab273 : tab 273 = some i273 := rfl
@[go_sem] theorem tab275 : tab 275 = some i275 := rfl
@[go_sem] theorem tab276 : tab 276 = some i276 := rfl
@[go_sem] theorem tab277 : tab 277 = some i277 := rfl
@[go_sem] theorem tab278 : tab 278 = some i278 := rfl
@[go_sem] theorem tab279 : tab 279 = some i279 := rfl
@[go_sem] theorem tab281 : tab 281 = some i281 := rfl
@[go_sem] theorem tab282 : tab 282 = some i282 := rfl
@[go_sem] theorem tab283 : tab 283 = some i283 := rfl
@[go_sem] theorem tab284 : tab 284 = some i284 := rfl
@[go_sem] theorem tab285 : tab 285 = some i285 := rfl
@[go_sem] theorem tab286 : tab 286 = some i286 := rfl
@[go_sem] theorem tab287 : tab 287 = some i287 := rfl
@[go_sem] theorem tab289 : tab 289 = some i289 := rfl
@[go_sem] theorem tab290 : tab 290 = some i290 := rfl
@[go_sem] theorem tab291 : tab 291 = some i291 := rfl
@[go_sem] theorem tab292 : tab 292 = some i292 := rfl
@[go_sem] theorem tab293 : tab 293 = some i293 := rfl
@[go_sem] theorem tab294 : tab 294 = some i294 := rfl
@[go_sem] theorem tab295 : tab 295 = some i295 := rfl
@[go_sem] theorem tab296 : tab 296 = some i296 := rfl
@[go_sem] theorem tab297 : tab 297 = some i297 := rfl
@[go_sem] theorem tab298 : tab 298 = some i298 := rfl
@[go_sem] theorem tab299 : tab 299 = some i299 := rfl
@[go_sem] theorem tab300 : tab 300 = some i300 := rfl
@[go_sem] theorem tab301 : tab 301 = some i301 := rfl
@[go_sem] theorem tab302 : tab 302 = some i302 := rfl
@[go_sem] theorem tab304 : tab 304 = some i304 := rfl
@[go_sem] theorem tab305 : tab 305 = some i305 := rfl
@[go_sem] theorem tab306 : tab 306 = some i306 := rfl
@[go_sem] theorem tab307 : tab 307 = some i307 := rfl
@[go_sem] theorem tab308 : tab 308 = some i308 := rfl
@[go_sem] theorem tab309 : tab 309 = some i309 := rfl
@[go_sem] theorem tab310 : tab 310 = some i310 := rfl
@[go_sem] theorem tab311 : tab 311 = some i311 := rfl
@[go_sem] theorem tab312 : tab 312 = some i312 := rfl
@[go_sem] theorem tab313 : tab 313 = some i313 := rfl
@[go_sem] theorem tab314 : tab 314 = some i314 := rfl
@[go_sem] theorem tab315 : tab 315 = some i315 := rfl
@[go_sem] theorem tab318 : tab 318 = some i318 := rfl
@[go_sem] theorem tab321 : tab 321 = some i321 := rfl
@[go_sem] theorem tab324 : tab 324 = some i324 := rfl

theorem tabOK : tab.OK Tryz.prog := tget_ok (List.forall_mem_cons.2 ⟨ti1, List.forall_mem_cons.2 ⟨ti2, List.forall_mem_cons.2 ⟨ti3, List.forall_mem_cons.2 ⟨ti4, List.forall_mem_cons.2 ⟨ti5, List.forall_mem_cons.2 ⟨ti9, List.forall_mem_cons.2 ⟨ti12, List.forall_mem_cons.2 ⟨ti15, List.forall_mem_cons.2 ⟨ti16, List.forall_mem_cons.2 ⟨ti20, List.forall_mem_cons.2 ⟨ti21, List.forall_mem_cons.2 ⟨ti22, List.forall_mem_cons.2 ⟨ti23, List.forall_mem_cons.2 ⟨ti24, List.forall_mem_cons.2 ⟨ti25, List.forall_mem_cons.2 ⟨ti26, List.forall_mem_cons.2 ⟨ti27, List.forall_mem_cons.2 ⟨ti28, List.forall_mem_cons.2 ⟨ti29, List.forall_mem_cons.2 ⟨ti30, List.forall_mem_cons.2 ⟨ti31, List.forall_mem_cons.2 ⟨ti32, List.forall_mem_cons.2 ⟨ti33, List.forall_mem_cons.2 ⟨ti35, List.forall_mem_cons.2 ⟨ti36, List.forall_mem_cons.2 ⟨ti37, List.forall_mem_cons.2 ⟨ti38, List.forall_mem_cons.2 ⟨ti39, List.forall_mem_cons.2 ⟨ti40, List.forall_mem_cons.2 ⟨ti41, List.forall_mem_cons.2 ⟨ti42, List.forall_mem_cons.2 ⟨ti43, List.forall_mem_cons.2 ⟨ti44, List.forall_mem_cons.2 ⟨ti45, List.forall_mem_cons.2 ⟨ti46, List.forall_mem_cons.2 ⟨ti48, List.forall_mem_cons.2 ⟨ti49, List.forall_mem_cons.2 ⟨ti50, List.forall_mem_cons.2 ⟨ti51, List.forall_mem_cons.2 ⟨ti52, List.forall_mem_cons.2 ⟨ti53, List.forall_mem_cons.2 ⟨ti54, List.forall_mem_cons.2 ⟨ti55, List.forall_mem_cons.2 ⟨ti56, List.forall_mem_cons.2 ⟨ti57, List.forall_mem_cons.2 ⟨ti58, List.forall_mem_cons.2 ⟨ti59, List.forall_mem_cons.2 ⟨ti60, List.forall_mem_cons.2 ⟨ti61, List.forall_mem_cons.2 ⟨ti63, List.forall_mem_cons.2 ⟨ti64, List.forall_mem_cons.2 ⟨ti66, List.forall_mem_cons.2 ⟨ti68, List.forall_mem_cons.2 ⟨ti69, List.forall_mem_cons.2 ⟨ti70, List.forall_mem_cons.2 ⟨ti71, List.forall_mem_cons.2 ⟨ti72, List.forall_mem_cons.2 ⟨ti73, List.forall_mem_cons.2 ⟨ti75, List.forall_mem_cons.2 ⟨ti76, List.forall_mem_cons.2 ⟨ti77, List.forall_mem_cons.2 ⟨ti78, List.forall_mem_cons.2 ⟨ti79, List.forall_mem_cons.2 ⟨ti80, List.forall_mem_cons.2 ⟨ti81, List.forall_mem_cons.2 ⟨ti82, List.forall_mem_cons.2 ⟨ti83, List.forall_mem_cons.2 ⟨ti84, List.forall_mem_cons.2 ⟨ti85, List.forall_mem_cons.2 ⟨ti86, List.forall_mem_cons.2 ⟨ti87, List.forall_mem_cons.2 ⟨ti88, List.forall_mem_cons.2 ⟨ti89, List.forall_mem_cons.2 ⟨ti90, List.forall_mem_cons.2 ⟨ti91, List.forall_mem_cons.2 ⟨ti92, List.forall_mem_cons.2 ⟨ti93, List.forall_mem_cons.2 ⟨ti94, List.forall_mem_cons.2 ⟨ti95, List.forall_mem_cons.2 ⟨ti96, List.forall_mem_cons.2 ⟨ti98, List.forall_mem_cons.2 ⟨ti99, List.forall_mem_cons.2 ⟨ti100, List.forall_mem_cons.2 ⟨ti101, List.forall_mem_cons.2 ⟨ti102, List.forall_mem_cons.2 ⟨ti104, List.forall_mem_cons.2 ⟨ti105, List.forall_mem_cons.2 ⟨ti106, List.forall_mem_cons.2 ⟨ti107, List.forall_mem_cons.2 ⟨ti108, List.forall_mem_cons.2 ⟨ti109, List.forall_mem_cons.2 ⟨ti110, List.forall_mem_cons.2 ⟨ti111, List.forall_mem_cons.2 ⟨ti112, List.forall_mem_cons.2 ⟨ti113, List.forall_mem_cons.2 ⟨ti115, List.forall_mem_cons.2 ⟨ti116, List.forall_mem_cons.2 ⟨ti117, List.forall_mem_cons.2 ⟨ti118, List.forall_mem_cons.2 ⟨ti119, List.forall_mem_cons.2 ⟨ti121, List.forall_mem_cons.2 ⟨ti122, List.forall_mem_cons.2 ⟨ti123, List.forall_mem_cons.2 ⟨ti124, List.forall_mem_cons.2 ⟨ti125, List.forall_mem_cons.2 ⟨ti126, List.forall_mem_cons.2 ⟨ti127, List.forall_mem_cons.2 ⟨ti128, List.forall_mem_cons.2 ⟨ti129, List.forall_mem_cons.2 ⟨ti130, List.forall_mem_cons.2 ⟨ti132, List.forall_mem_cons.2 ⟨ti134, List.forall_mem_cons.2 ⟨ti136, List.forall_mem_cons.2 ⟨ti137, List.forall_mem_cons.2 ⟨ti138, List.forall_mem_cons.2 ⟨ti139, List.forall_mem_cons.2 ⟨ti140, List.forall_mem_cons.2 ⟨ti141, List.forall_mem_cons.2 ⟨ti142, List.forall_mem_cons.2 ⟨ti143, List.forall_mem_cons.2 ⟨ti144, List.forall_mem_cons.2 ⟨ti145, List.forall_mem_cons.2 ⟨ti146, List.forall_mem_cons.2 ⟨ti147, List.forall_mem_cons.2 ⟨ti149, List.forall_mem_cons.2 ⟨ti151, List.forall_mem_cons.2 ⟨ti153, List.forall_mem_cons.2 ⟨ti154, List.forall_mem_cons.2 ⟨ti155, List.forall_mem_cons.2 ⟨ti156, List.forall_mem_cons.2 ⟨ti157, List.forall_mem_cons.2 ⟨ti158, List.forall_mem_cons.2 ⟨ti159, List.forall_mem_cons.2 ⟨ti160, List.forall_mem_cons.2 ⟨ti161, List.forall_mem_cons.2 ⟨ti163, List.forall_mem_cons.2 ⟨ti164, List.forall_mem_cons.2 ⟨ti165, List.forall_mem_cons.2 ⟨ti166, List.forall_mem_cons.2 ⟨ti167, List.forall_mem_cons.2 ⟨ti168, List.forall_mem_cons.2 ⟨ti169, List.forall_mem_cons.2 ⟨ti170, List.forall_mem_cons.2 ⟨ti171, List.forall_mem_cons.2 ⟨ti172, List.forall_mem_cons.2 ⟨ti173, List.forall_mem_cons.2 ⟨ti174, List.forall_mem_cons.2 ⟨ti175, List.forall_mem_cons.2 ⟨ti176, List.forall_mem_cons.2 ⟨ti178, List.forall_mem_cons.2 ⟨ti179, List.forall_mem_cons.2 ⟨ti180, List.forall_mem_cons.2 ⟨ti181, List.forall_mem_cons.2 ⟨ti182, List.forall_mem_cons.2 ⟨ti183, List.forall_mem_cons.2 ⟨ti184, List.forall_mem_cons.2 ⟨ti185, List.forall_mem_cons.2 ⟨ti186, List.forall_mem_cons.2 ⟨ti188, List.forall_mem_cons.2 ⟨ti189, List.forall_mem_cons.2 ⟨ti190, List.forall_mem_cons.2 ⟨ti192, List.forall_mem_cons.2 ⟨ti193, List.forall_mem_cons.2 ⟨ti194, List.forall_mem_cons.2 ⟨ti195, List.forall_mem_cons.2 ⟨ti196, List.forall_mem_cons.2 ⟨ti197, List.forall_mem_cons.2 ⟨ti198, List.forall_mem_cons.2 ⟨ti200, List.forall_mem_cons.2 ⟨ti202, List.forall_mem_cons.2 ⟨ti203, List.forall_mem_cons.2 ⟨ti204, List.forall_mem_cons.2 ⟨ti205, List.forall_mem_cons.2 ⟨ti206, List.forall_mem_cons.2 ⟨ti207, List.forall_mem_cons.2 ⟨ti208, List.forall_mem_cons.2 ⟨ti209, List.forall_mem_cons.2 ⟨ti210, List.forall_mem_cons.2 ⟨ti211, List.forall_mem_cons.2 ⟨ti212, List.forall_mem_cons.2 ⟨ti213, List.forall_mem_cons.2 ⟨ti215, List.forall_mem_cons.2 ⟨ti216, List.forall_mem_cons.2 ⟨ti217, List.forall_mem_cons.2 ⟨ti219, List.forall_mem_cons.2 ⟨ti220, List.forall_mem_cons.2 ⟨ti221, List.forall_mem_cons.2 ⟨ti222, List.forall_mem_cons.2 ⟨ti223, List.forall_mem_cons.2 ⟨ti224, List.forall_mem_cons.2 ⟨ti225, List.forall_mem_cons.2 ⟨ti226, List.forall_mem_cons.2 ⟨ti227, List.forall_mem_cons.2 ⟨ti228, List.forall_mem_cons.2 ⟨ti229, List.forall_mem_cons.2 ⟨ti230, List.forall_mem_cons.2 ⟨ti231, List.forall_mem_cons.2 ⟨ti233, List.forall_mem_cons.2 ⟨ti234, List.forall_mem_cons.2 ⟨ti235, List.forall_mem_cons.2 ⟨ti236, List.forall_mem_cons.2 ⟨ti237, List.forall_mem_cons.2 ⟨ti238, List.forall_mem_cons.2 ⟨ti239, List.forall_mem_cons.2 ⟨ti241, List.forall_mem_cons.2 ⟨ti242, List.forall_mem_cons.2 ⟨ti243, List.forall_mem_cons.2 ⟨ti244, List.forall_mem_cons.2 ⟨ti246, List.forall_mem_cons.2 ⟨ti247, List.forall_mem_cons.2 ⟨ti248, List.forall_mem_cons.2 ⟨ti249, List.forall_mem_cons.2 ⟨ti250, List.forall_mem_cons.2 ⟨ti251, List.forall_mem_cons.2 ⟨ti252, List.forall_mem_cons.2 ⟨ti253, List.forall_mem_cons.2 ⟨ti254, List.forall_mem_cons.2 ⟨ti255, List.forall_mem_cons.2 ⟨ti256, List.forall_mem_cons.2 ⟨ti257, List.forall_mem_cons.2 ⟨ti258, List.forall_mem_cons.2 ⟨ti259, List.forall_mem_cons.2 ⟨ti261, List.forall_mem_cons.2 ⟨ti262, List.forall_mem_cons.2 ⟨ti263, List.forall_mem_cons.2 ⟨ti264, List.forall_mem_cons.2 ⟨ti265, List.forall_mem_cons.2 ⟨ti266, List.forall_mem_cons.2 ⟨ti267, List.forall_mem_cons.2 ⟨ti268, List.forall_mem_cons.2 ⟨ti269, List.forall_mem_cons.2 ⟨ti270, List.forall_mem_cons.2 ⟨ti271, List.forall_mem_cons.2 ⟨ti273, List.forall_mem_cons.2 ⟨ti275, List.forall_mem_cons.2 ⟨ti276, List.forall_mem_cons.2 ⟨ti277, List.forall_mem_cons.2 ⟨ti278, List.forall_mem_cons.2 ⟨ti279, List.forall_mem_cons.2 ⟨ti281, List.forall_mem_cons.2 ⟨ti282, List.forall_mem_cons.2 ⟨ti283, List.forall_mem_cons.2 ⟨ti284, List.forall_mem_cons.2 ⟨ti285, List.forall_mem_cons.2 ⟨ti286, List.forall_mem_cons.2 ⟨ti287, List.forall_mem_cons.2 ⟨ti289, List.forall_mem_cons.2 ⟨ti290, List.forall_mem_cons.2 ⟨ti291, List.forall_mem_cons.2 ⟨ti292, List.forall_mem_cons.2 ⟨ti293, List.forall_mem_cons.2 ⟨ti294, List.forall_mem_cons.2 ⟨ti295, List.forall_mem_cons.2 ⟨ti296, List.forall_mem_cons.2 ⟨ti297, List.forall_mem_cons.2 ⟨ti298, List.forall_mem_cons.2 ⟨ti299, List.forall_mem_cons.2 ⟨ti300, List.forall_mem_cons.2 ⟨ti301, List.forall_mem_cons.2 ⟨ti302, List.forall_mem_cons.2 ⟨ti304, List.forall_mem_cons.2 ⟨ti305, List.forall_mem_cons.2 ⟨ti306, List.forall_mem_cons.2 ⟨ti307, List.forall_mem_cons.2 ⟨ti308, List.forall_mem_cons.2 ⟨ti309, List.forall_mem_cons.2 ⟨ti310, List.forall_mem_cons.2 ⟨ti311, List.forall_mem_cons.2 ⟨ti312, List.forall_mem_cons.2 ⟨ti313, List.forall_mem_cons.2 ⟨ti314, List.forall_mem_cons.2 ⟨ti315, List.forall_mem_cons.2 ⟨ti318, List.forall_mem_cons.2 ⟨ti321, List.forall_mem_cons.2 ⟨ti324, by simp⟩⟩⟩⟩⟩⟩⟩⟩⟩⟩⟩⟩⟩⟩⟩⟩⟩⟩⟩⟩⟩⟩⟩⟩⟩⟩⟩⟩⟩⟩⟩⟩⟩⟩⟩⟩⟩⟩⟩⟩⟩⟩⟩⟩⟩⟩⟩⟩⟩⟩⟩⟩⟩⟩⟩⟩⟩⟩⟩⟩⟩⟩⟩⟩⟩⟩⟩⟩⟩⟩⟩⟩⟩⟩⟩⟩⟩⟩⟩⟩⟩⟩⟩⟩⟩⟩⟩⟩⟩⟩⟩⟩⟩⟩⟩⟩⟩⟩⟩⟩⟩⟩⟩⟩⟩⟩⟩⟩⟩⟩⟩⟩⟩⟩⟩⟩⟩⟩⟩⟩⟩⟩⟩⟩⟩⟩⟩⟩⟩⟩⟩⟩⟩⟩⟩⟩⟩⟩⟩⟩⟩⟩⟩⟩⟩⟩⟩⟩⟩⟩⟩⟩⟩⟩⟩⟩⟩⟩⟩⟩⟩⟩⟩⟩⟩⟩⟩⟩⟩⟩⟩⟩⟩⟩⟩⟩⟩⟩⟩⟩⟩⟩⟩⟩⟩⟩⟩⟩⟩⟩⟩⟩⟩⟩⟩⟩⟩⟩⟩⟩⟩⟩⟩⟩⟩⟩⟩⟩⟩⟩⟩⟩⟩⟩⟩⟩⟩⟩⟩⟩⟩⟩⟩⟩⟩⟩⟩⟩⟩⟩⟩⟩⟩⟩⟩⟩⟩⟩⟩⟩⟩⟩⟩⟩⟩⟩⟩⟩⟩⟩⟩⟩⟩⟩⟩⟩⟩⟩⟩⟩⟩⟩⟩⟩⟩⟩⟩⟩⟩⟩⟩⟩⟩⟩⟩)

#print axioms tabOK
end Go.Ai
