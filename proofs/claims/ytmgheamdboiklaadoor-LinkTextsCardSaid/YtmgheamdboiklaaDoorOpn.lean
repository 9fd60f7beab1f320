/- THE ARGUMENTS OPENED: texts. -/
import Derived.Test.YtmgheamdboiklaaDoorPath
import Derived.Deep.Slices
import Derived.ChangeShapes
set_option linter.unusedVariables false
namespace Go.Proofs.YtmgheamdboiklaaDoor
open Go.RowKit Go.ChangeShapes Go.WideShapes
section
variable {H : Type} {enc : TypeId × Value → H} {w : World} {base : Nat} {spare : Nat → Bool} {held : Bool}
set_option maxRecDepth 100000 in
theorem open_str {v : Value} {d : DataW H} {p : List MemPlace} {r : Reach} {b0 : Nat} (hval : Value.okWide Tryd.prog w r b0 9 v) (h : DataW.Trod enc Tryd.prog w base spare held 9 v d p) :
    ∃ s : ByteArray, v = .string s ∧ s.size ≤ 9223372036854775807 := by
  obtain ⟨s, rfl⟩ := okWide_string (U.out (P := Tryd.prog) (t := 9)) hval
  obtain ⟨n, h⟩ := h
  obtain ⟨s', q, _, hs⟩ := DataW.trod_string (U.out (P := Tryd.prog) (t := 9)) h
  have q' : s = s' := by
    have : ([Value.string s] : List Value) = [Value.string s'] := q
    simpa using this
  subst q'
  exact ⟨s, rfl, by unfold maxLen at hs; omega⟩
end
end Go.Proofs.YtmgheamdboiklaaDoor
