/- THE ARGUMENTS OPENED: options, texts. -/
import Derived.Test.YtjcbnohnilffoaaOpen
set_option linter.unusedVariables false
namespace Go.Proofs.Ytjcbnohnilffoaa
open Go.RowKit Go.ChangeShapes Go.WideShapes
section
variable {H : Type} {enc : TypeId × Value → H} {w : World} {base : Nat} {spare : Nat → Bool} {held : Bool}
theorem take1 {cs : List Value} {v : Value} (h : cs.take 1 = [v]) : cs[0]? = some v := by
  cases cs with
  | nil => simp at h
  | cons x r => simp at h; simp [h]
set_option maxRecDepth 100000 in
theorem open_opts {v : Value} {d : DataW H} {p : List MemPlace} {r : Reach} {b0 : Nat} (hval : Value.okWide Try.prog w r b0 25 v) (h : DataW.Trod enc Try.prog w base spare held 25 v d p) :
    ∃ (ocs : List Value) (del most : Int), v = .agg ocs.toArray ∧ ocs.length = 21 ∧ ocs[0]? = some (.int .i64 del) ∧ ocs[1]? = some (.int .i64 most) := by
  obtain ⟨cs, rfl, hsz⟩ := okWide_struct (U.out (P := Try.prog) (t := 25)) hval
  obtain ⟨n, h⟩ := h
  have h' : DataW.trod enc Try.prog w base spare held n 25 cs.toList = some (d, p) := h
  obtain ⟨xs, m, _, _, hl, hxs, hf⟩ := DataW.trod_struct (U.out (P := Try.prog) (t := 25)) h'
  have g : ∀ i, i < 21 → ∃ y, xs[i]? = some y := fun i hi => ⟨_, List.getElem?_eq_getElem (by rw [hxs]; exact hi)⟩
  obtain ⟨y0, e0⟩ := g 0 (by omega)
  obtain ⟨y1, e1⟩ := g 1 (by omega)
  have f0 : DataW.trod enc Try.prog w base spare held m 3 ((cs.toList.drop 0).take (Try.prog.cellsOf 3)) = some y0 := (hf 0 _ rfl).trans e0
  rw [cI] at f0
  have f1 : DataW.trod enc Try.prog w base spare held m 3 ((cs.toList.drop 1).take (Try.prog.cellsOf 3)) = some y1 := (hf 1 _ rfl).trans e1
  rw [cI] at f1
  obtain ⟨s0, q0, _⟩ := DataW.trod_int (U.out (P := Try.prog) (t := 3)) f0
  obtain ⟨s1, q1, _⟩ := DataW.trod_int (U.out (P := Try.prog) (t := 3)) f1
  have t0 := take1 q0
  have t1 := take1 q1
  rw [List.getElem?_drop] at t0 t1
  refine ⟨cs.toList, s0, s1, rfl, ?_, t0, t1⟩
  rw [hl]
  kernel_rfl
set_option maxRecDepth 100000 in
theorem open_str {v : Value} {d : DataW H} {p : List MemPlace} {r : Reach} {b0 : Nat} (hval : Value.okWide Try.prog w r b0 9 v) (h : DataW.Trod enc Try.prog w base spare held 9 v d p) :
    ∃ s : ByteArray, v = .string s ∧ s.size ≤ 9223372036854775807 := by
  obtain ⟨s, rfl⟩ := okWide_string (U.out (P := Try.prog) (t := 9)) hval
  obtain ⟨n, h⟩ := h
  obtain ⟨s', q, _, hs⟩ := DataW.trod_string (U.out (P := Try.prog) (t := 9)) h
  have q' : s = s' := by
    have : ([Value.string s] : List Value) = [Value.string s'] := q
    simpa using this
  subst q'
  exact ⟨s, rfl, by unfold maxLen at hs; omega⟩
end
end Go.Proofs.Ytjcbnohnilffoaa
