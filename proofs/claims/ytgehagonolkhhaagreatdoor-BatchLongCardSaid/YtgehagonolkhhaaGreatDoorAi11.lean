/- The rules by which a symbolic step is reckoned out. -/
import Derived.Test.YtgehagonolkhhaaGreatDoorAi10
namespace Go.Ai
open Go

attribute [go_sem] opStep stBox newRes okRes stAlloc stBuild placesOf fillS stLoad ldOf stStore stOf stNil stBin scal arI cmpI isShift shI cmpS stUn unI stConv stField fieldOf stFieldV partOf stExtract stLen stPick stIndexAddr stIndex
  lget_nil lget_cons hget_nil hget_cons namesU tmpsOf hreads SV.cells SV.flat allOne SV.one Value.oneCell' TD.agg calleeOf
attribute [go_sem] List.drop_succ_cons List.drop_zero List.take_succ_cons List.take_zero List.nil_append List.cons_append List.append_nil List.length_cons List.length_nil List.getElem?_cons_succ List.getElem?_cons_zero List.map_cons List.map_nil
  Option.map_some Option.getD_some
theorem ev_tmp (σ : List (Nat × SV)) (t : Tmp) : ev (lget σ) (.tmp t) = (lget σ t).getD .any := rfl
theorem ev_const (σ : List (Nat × SV)) (v : Value) : ev (lget σ) (.const v) = .v v := rfl
theorem ev_func (σ : List (Nat × SV)) (f : FuncId) : ev (lget σ) (.func f) = .clo (.func f) [] [] := rfl
theorem ev_global (σ : List (Nat × SV)) (g : Nat) : ev (lget σ) (.global g) = .v (.pointer (some ⟨g, 0, none⟩)) := rfl
attribute [go_sem] resOf resAll resOne SV.namesIn namesInL
attribute [go_sem] ev_tmp ev_const ev_func ev_global
end Go.Ai
