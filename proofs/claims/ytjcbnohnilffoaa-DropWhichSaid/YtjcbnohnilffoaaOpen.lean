/- THE ARGUMENTS OPENED: lists of entries and of rules. -/
import Derived.Test.YtjcbnohnilffoaaLaw
import Derived.Test.YtjcbnohnilffoaaOrd
import Derived.Deep.Slices
import Derived.ChangeShapes
set_option linter.unusedVariables false
namespace Go.Proofs.Ytjcbnohnilffoaa
open Go.RowKit Go.ChangeShapes Go.WideShapes

theorem gather {α : Type} {p : Nat → α → Prop} : ∀ n, (∀ i, i < n → ∃ a, p i a) → ∃ l : List α, l.length = n ∧ ∀ i a, l[i]? = some a → p i a
  | 0, _ => ⟨[], rfl, fun i a h => by simp at h⟩
  | n + 1, h => by
    obtain ⟨l, hl, hp⟩ := gather n (fun i hi => h i (by omega))
    obtain ⟨a, ha⟩ := h n (by omega)
    refine ⟨l ++ [a], by simp [hl], fun i b hb => ?_⟩
    by_cases hi : i < n
    · rw [List.getElem?_append_left (by omega)] at hb
      exact hp i b hb
    · rw [List.getElem?_append_right (by omega), hl] at hb
      have hi' : i - n = 0 := by
        rcases Nat.eq_zero_or_pos (i - n) with q | q
        · exact q
        · rw [List.getElem?_eq_none (by simp; omega)] at hb; cases hb
      rw [hi'] at hb
      simp at hb
      subst hb
      obtain rfl : i = n := by omega
      exact ha

section
variable {H : Type} {enc : TypeId × Value → H} {P : Program} {w : World} {base : Nat} {spare : Nat → Bool} {held : Bool}
theorem open_list {α : Type} {en : α → List Value} {good : α → Prop} {t e sz : Nat} {v : Value} {d : DataW H} {p : List MemPlace} {r : Reach} {b0 : Nat} (ht : P.underlying t = some (.slice e)) (hC : P.cellsOf e = sz) (hsz : 0 < sz) (hlen : ∀ a, (en a).length = sz)
    (hen : ∀ n cs x, DataW.trod enc P w base spare held n e cs = some x → ∃ a, cs = en a ∧ good a)
    (hval : Value.okWide P w r b0 t v) (h : DataW.Trod enc P w base spare held t v d p) : ∃ l : List α, Sl en sz w w.heap.size v l ∧ (∀ a ∈ l, good a) ∧ l.length ≤ maxLen := by
  obtain ⟨A, len, cap, rfl⟩ := okWide_slice ht hval
  obtain ⟨fuel, hf⟩ := h
  rcases Go.Deep.open_slice ht hf with ⟨hcs, _⟩ | ⟨a, len', cap', m, n, D, Pl, hcs, hb, hl, hm, hmm, hx, hi⟩
  · simp [Value.cells] at hcs
    obtain ⟨rfl, rfl, rfl⟩ := hcs
    exact ⟨[], Sl.nil _ _, (fun a ha => by cases ha), Nat.zero_le _⟩
  · simp [Value.cells] at hcs
    obtain ⟨rfl, rfl, rfl⟩ := hcs
    have hlm : len ≤ m := by rw [hmm]; split <;> omega
    obtain ⟨l, hll, hp⟩ := gather (p := fun i x => Cel w (a.add (i * sz)) (en x) ∧ good x) len (fun i hil => by
      obtain ⟨cs', hc, htr⟩ := hi i (by omega)
      rw [hC] at hc
      obtain ⟨_, hcl, hat⟩ := World.cells?_some hc
      obtain ⟨x, rfl, hg⟩ := hen _ _ _ htr
      refine ⟨x, Cel.mk fun j u hj => ?_, hg⟩
      rw [hat j (by have := (List.getElem?_eq_some_iff.1 hj).1; omega)]
      exact hj)
    subst hll
    refine ⟨l, ⟨some a, cap, rfl, hl, fun hpos => ⟨a, rfl, ?_, fun i x hx => (hp i x hx).1⟩⟩, fun x hx => ?_, by omega⟩
    · have h0 := (hp 0 l[0] (List.getElem?_eq_getElem hpos)).1
      have := h0.lt (by rw [hlen]; exact hsz)
      rwa [addr_add_block] at this
    · obtain ⟨i, hi'⟩ := List.mem_iff_getElem?.1 hx
      exact (hp i x hi').2
end

section
variable {H : Type} {enc : TypeId × Value → H} {w : World} {base : Nat} {spare : Nat → Bool} {held : Bool}
theorem cS : Try.prog.cellsOf 9 = 1 := by kernel_rfl
theorem cI : Try.prog.cellsOf 3 = 1 := by kernel_rfl
theorem cB : Try.prog.cellsOf 4 = 1 := by kernel_rfl
theorem cM : Try.prog.cellsOf 35 = 5 := by kernel_rfl
theorem cE : Try.prog.cellsOf 37 = 11 := by kernel_rfl
theorem cR : Try.prog.cellsOf 48 = 4 := by kernel_rfl
def goodE (e : En) : Prop := True
def goodR (r : Rl) : Prop := r.pat.size ≤ maxLen
set_option maxRecDepth 100000 in
theorem open_entry (n : Nat) (cs : List Value) (x : DataW H × List MemPlace) (h : DataW.trod enc Try.prog w base spare held n 37 cs = some x) : ∃ a, cs = enE a ∧ goodE a := by
  obtain ⟨xs, m, _, _, hl, hxs, hf⟩ := DataW.trod_struct (U.out (P := Try.prog) (t := 37)) h
  rw [cE] at hl
  match cs, hl with
  | [c0, c1, c2, c3, c4, c5, c6, c7, c8, c9, c10], _ =>
    have g : ∀ i, i < 7 → ∃ y, xs[i]? = some y := fun i hi => ⟨_, List.getElem?_eq_getElem (by rw [hxs]; exact hi)⟩
    obtain ⟨y0, e0⟩ := g 0 (by omega)
    obtain ⟨y1, e1⟩ := g 1 (by omega)
    obtain ⟨y2, e2⟩ := g 2 (by omega)
    obtain ⟨y3, e3⟩ := g 3 (by omega)
    obtain ⟨y4, e4⟩ := g 4 (by omega)
    obtain ⟨y5, e5⟩ := g 5 (by omega)
    obtain ⟨y6, e6⟩ := g 6 (by omega)
    have f0 : DataW.trod enc Try.prog w base spare held m 9 (([c0, c1, c2, c3, c4, c5, c6, c7, c8, c9, c10].drop 0).take (Try.prog.cellsOf 9)) = some y0 := (hf 0 _ rfl).trans e0
    rw [cS] at f0
    have f1 : DataW.trod enc Try.prog w base spare held m 3 (([c0, c1, c2, c3, c4, c5, c6, c7, c8, c9, c10].drop 1).take (Try.prog.cellsOf 3)) = some y1 := (hf 1 _ rfl).trans e1
    rw [cI] at f1
    have f2 : DataW.trod enc Try.prog w base spare held m 3 (([c0, c1, c2, c3, c4, c5, c6, c7, c8, c9, c10].drop 2).take (Try.prog.cellsOf 3)) = some y2 := (hf 2 _ rfl).trans e2
    rw [cI] at f2
    have f3 : DataW.trod enc Try.prog w base spare held m 35 (([c0, c1, c2, c3, c4, c5, c6, c7, c8, c9, c10].drop 3).take (Try.prog.cellsOf 35)) = some y3 := (hf 3 _ rfl).trans e3
    rw [cM] at f3
    have f4 : DataW.trod enc Try.prog w base spare held m 9 (([c0, c1, c2, c3, c4, c5, c6, c7, c8, c9, c10].drop 8).take (Try.prog.cellsOf 9)) = some y4 := (hf 4 _ rfl).trans e4
    rw [cS] at f4
    have f5 : DataW.trod enc Try.prog w base spare held m 9 (([c0, c1, c2, c3, c4, c5, c6, c7, c8, c9, c10].drop 9).take (Try.prog.cellsOf 9)) = some y5 := (hf 5 _ rfl).trans e5
    rw [cS] at f5
    have f6 : DataW.trod enc Try.prog w base spare held m 3 (([c0, c1, c2, c3, c4, c5, c6, c7, c8, c9, c10].drop 10).take (Try.prog.cellsOf 3)) = some y6 := (hf 6 _ rfl).trans e6
    rw [cI] at f6
    obtain ⟨s0, q0, _⟩ := DataW.trod_string (U.out (P := Try.prog) (t := 9)) f0
    obtain ⟨s1, q1, _⟩ := DataW.trod_int (U.out (P := Try.prog) (t := 3)) f1
    obtain ⟨s2, q2, _⟩ := DataW.trod_int (U.out (P := Try.prog) (t := 3)) f2
    obtain ⟨s4, q4, _⟩ := DataW.trod_string (U.out (P := Try.prog) (t := 9)) f4
    obtain ⟨s5, q5, _⟩ := DataW.trod_string (U.out (P := Try.prog) (t := 9)) f5
    obtain ⟨s6, q6, _⟩ := DataW.trod_int (U.out (P := Try.prog) (t := 3)) f6
    obtain ⟨zs, m2, _, _, hl2, hzs, hg⟩ := DataW.trod_struct (U.out (P := Try.prog) (t := 35)) f3
    have g2 : ∀ i, i < 5 → ∃ y, zs[i]? = some y := fun i hi => ⟨_, List.getElem?_eq_getElem (by rw [hzs]; exact hi)⟩
    obtain ⟨z0, k0⟩ := g2 0 (by omega)
    obtain ⟨z1, k1⟩ := g2 1 (by omega)
    obtain ⟨z2, k2⟩ := g2 2 (by omega)
    obtain ⟨z3, k3⟩ := g2 3 (by omega)
    obtain ⟨z4, k4⟩ := g2 4 (by omega)
    have h0 : DataW.trod enc Try.prog w base spare held m2 3 (((([c0, c1, c2, c3, c4, c5, c6, c7, c8, c9, c10].drop 3).take 5).drop 0).take (Try.prog.cellsOf 3)) = some z0 := (hg 0 _ rfl).trans k0
    rw [cI] at h0
    have h1 : DataW.trod enc Try.prog w base spare held m2 3 (((([c0, c1, c2, c3, c4, c5, c6, c7, c8, c9, c10].drop 3).take 5).drop 1).take (Try.prog.cellsOf 3)) = some z1 := (hg 1 _ rfl).trans k1
    rw [cI] at h1
    have h2 : DataW.trod enc Try.prog w base spare held m2 3 (((([c0, c1, c2, c3, c4, c5, c6, c7, c8, c9, c10].drop 3).take 5).drop 2).take (Try.prog.cellsOf 3)) = some z2 := (hg 2 _ rfl).trans k2
    rw [cI] at h2
    have h3 : DataW.trod enc Try.prog w base spare held m2 3 (((([c0, c1, c2, c3, c4, c5, c6, c7, c8, c9, c10].drop 3).take 5).drop 3).take (Try.prog.cellsOf 3)) = some z3 := (hg 3 _ rfl).trans k3
    rw [cI] at h3
    have h4 : DataW.trod enc Try.prog w base spare held m2 3 (((([c0, c1, c2, c3, c4, c5, c6, c7, c8, c9, c10].drop 3).take 5).drop 4).take (Try.prog.cellsOf 3)) = some z4 := (hg 4 _ rfl).trans k4
    rw [cI] at h4
    obtain ⟨r0, p0, _⟩ := DataW.trod_int (U.out (P := Try.prog) (t := 3)) h0
    obtain ⟨r1, p1, _⟩ := DataW.trod_int (U.out (P := Try.prog) (t := 3)) h1
    obtain ⟨r2, p2, _⟩ := DataW.trod_int (U.out (P := Try.prog) (t := 3)) h2
    obtain ⟨r3, p3, _⟩ := DataW.trod_int (U.out (P := Try.prog) (t := 3)) h3
    obtain ⟨r4, p4, _⟩ := DataW.trod_int (U.out (P := Try.prog) (t := 3)) h4
    refine ⟨⟨s0, s1, s2, ⟨r0, r1, r2, r3, r4⟩, s4, s5, s6⟩, ?_, trivial⟩
    simp at q0 q1 q2 q4 q5 q6 p0 p1 p2 p3 p4
    simp [enE, enMt, *]
set_option maxRecDepth 100000 in
theorem open_rule (n : Nat) (cs : List Value) (x : DataW H × List MemPlace) (h : DataW.trod enc Try.prog w base spare held n 48 cs = some x) : ∃ a, cs = enR a ∧ goodR a := by
  obtain ⟨xs, m, _, _, hl, hxs, hf⟩ := DataW.trod_struct (U.out (P := Try.prog) (t := 48)) h
  rw [cR] at hl
  match cs, hl with
  | [c0, c1, c2, c3], _ =>
    have g : ∀ i, i < 4 → ∃ y, xs[i]? = some y := fun i hi => ⟨_, List.getElem?_eq_getElem (by rw [hxs]; exact hi)⟩
    obtain ⟨y0, e0⟩ := g 0 (by omega)
    obtain ⟨y1, e1⟩ := g 1 (by omega)
    obtain ⟨y2, e2⟩ := g 2 (by omega)
    obtain ⟨y3, e3⟩ := g 3 (by omega)
    have f0 : DataW.trod enc Try.prog w base spare held m 3 (([c0, c1, c2, c3].drop 0).take (Try.prog.cellsOf 3)) = some y0 := (hf 0 _ rfl).trans e0
    rw [cI] at f0
    have f1 : DataW.trod enc Try.prog w base spare held m 9 (([c0, c1, c2, c3].drop 1).take (Try.prog.cellsOf 9)) = some y1 := (hf 1 _ rfl).trans e1
    rw [cS] at f1
    have f2 : DataW.trod enc Try.prog w base spare held m 4 (([c0, c1, c2, c3].drop 2).take (Try.prog.cellsOf 4)) = some y2 := (hf 2 _ rfl).trans e2
    rw [cB] at f2
    have f3 : DataW.trod enc Try.prog w base spare held m 4 (([c0, c1, c2, c3].drop 3).take (Try.prog.cellsOf 4)) = some y3 := (hf 3 _ rfl).trans e3
    rw [cB] at f3
    obtain ⟨s0, q0, _⟩ := DataW.trod_int (U.out (P := Try.prog) (t := 3)) f0
    obtain ⟨s1, q1, _, hs1⟩ := DataW.trod_string (U.out (P := Try.prog) (t := 9)) f1
    obtain ⟨s2, q2, _⟩ := DataW.trod_bool (U.out (P := Try.prog) (t := 4)) f2
    obtain ⟨s3, q3, _⟩ := DataW.trod_bool (U.out (P := Try.prog) (t := 4)) f3
    refine ⟨⟨s0, s1, s2, s3⟩, ?_, hs1⟩
    simp at q0 q1 q2 q3
    simp [enR, *]
set_option maxRecDepth 100000 in
theorem open_ens {v : Value} {d : DataW H} {p : List MemPlace} {r : Reach} {b0 : Nat} (hval : Value.okWide Try.prog w r b0 22 v) (h : DataW.Trod enc Try.prog w base spare held 22 v d p) : ∃ l, Ens w w.heap.size v l ∧ l.length ≤ 9223372036854775807 := by
  obtain ⟨l, h1, _, h3⟩ := open_list (U.out (P := Try.prog) (t := 22)) cE (by omega) (fun _ => rfl) open_entry hval h
  exact ⟨l, h1, by unfold maxLen at h3; omega⟩
set_option maxRecDepth 100000 in
theorem open_rls {v : Value} {d : DataW H} {p : List MemPlace} {r : Reach} {b0 : Nat} (hval : Value.okWide Try.prog w r b0 23 v) (h : DataW.Trod enc Try.prog w base spare held 23 v d p) : ∃ l, Rls w w.heap.size v l ∧ RlsIn l := by
  obtain ⟨l, h1, h2, h3⟩ := open_list (U.out (P := Try.prog) (t := 23)) cR (by omega) (fun _ => rfl) open_rule hval h
  exact ⟨l, h1, ⟨fun r hr => by have := h2 r hr; unfold goodR maxLen at this; omega⟩⟩
end
end Go.Proofs.Ytjcbnohnilffoaa
