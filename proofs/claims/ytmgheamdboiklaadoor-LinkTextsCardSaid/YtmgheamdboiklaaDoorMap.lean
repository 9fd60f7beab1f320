/- MAPS WITH STRING KEYS. General: no program in it. -/
import Derived.Test.YtmgheamdboiklaaDoorMix
import Derived.Test.YtmgheamdboiklaaDoorMem
import Derived.MapKept
set_option linter.unusedVariables false
set_option linter.unusedSimpArgs false
namespace Go.Proofs.YtmgheamdboiklaaDoor
open Go.RowKit

def fnd : List MapEntry → ByteArray → Option Value
  | [], _ => none
  | e :: r, s => match e.key with
    | .string t => if t = s then some e.val else fnd r s
    | _ => fnd r s
theorem fnd_hit {e : MapEntry} {r : List MapEntry} {s : ByteArray} (h : e.key = .string s) : fnd (e :: r) s = some e.val := by simp [fnd, h]
theorem fnd_miss {e : MapEntry} {r : List MapEntry} {s : ByteArray} (h : e.key ≠ .string s) : fnd (e :: r) s = fnd r s := by
  simp only [fnd]
  split
  · rename_i t ht
    rw [if_neg]
    intro q
    subst q
    exact h ht
  · rfl
def StrKeys (es : List MapEntry) : Prop := ∀ e ∈ es, ∃ s, e.key = .string s
/-- block b is a map of at most n entries that reads as m -/
structure Mp (w : World) (b : Nat) (m : ByteArray → Option Value) (n : Nat) : Prop where
  out : ∃ es clock, w.heap[b]? = some (.map es clock) ∧ StrKeys es.toList ∧ (∀ s, fnd es.toList s = m s) ∧ es.size ≤ n
section
variable {w w' : World} {b n : Nat} {m : ByteArray → Option Value}
theorem Mp.lt (h : Mp w b m n) : b < w.heap.size := by
  obtain ⟨es, c, hb, _⟩ := h.out
  exact (Array.getElem?_eq_some_iff.1 hb).1
theorem Mp.keep (h : Mp w b m n) (hk : w'.heap[b]? = w.heap[b]?) : Mp w' b m n := by
  obtain ⟨es, c, hb, r⟩ := h.out
  exact ⟨es, c, hk.trans hb, r⟩
theorem Mp.grown (h : Mp w b m n) {row : Option Nat} (hg : w.grownBy w' row) (hne : some b ≠ row) : Mp w' b m n := h.keep (hg.block b h.lt hne)
theorem Mp.below {B : Nat} (h : Mp w b m n) (hb : Below B w w') (hB : b < B) : Mp w' b m n := h.keep (hb.block b hB)
theorem Mp.drew (h : Mp w b m n) : Mp w.drew b m n := h.keep rfl
theorem Mp.fun_ {m' : ByteArray → Option Value} (h : Mp w b m n) (e : ∀ s, m s = m' s) : Mp w b m' n := by
  obtain ⟨es, c, hb, hk, hf, hs⟩ := h.out
  exact ⟨es, c, hb, hk, fun s => (hf s).trans (e s), hs⟩
theorem New.mp (h : New w w' b (.map #[] 0)) : Mp w' b (fun _ => none) 0 := ⟨#[], 0, h.at_, by simp [StrKeys], fun s => rfl, Nat.le_refl _⟩
end
theorem sameNow_str (a b : ByteArray) : Instr.sameNow .string (.string a) (.string b) = some (decide (a = b)) := by
  obtain ⟨r, h1, h2⟩ := MapKept.sameNow_of_keys (d := .string) (a := .string a) (b := .string b) trivial trivial
  rw [h1]
  congr 1
  by_cases h : a = b
  · subst h; simp [h2.2 rfl]
  · have : r ≠ true := fun e => h (by have := h2.1 e; injection this)
    simp [h, this]
theorem findNow_str (s : ByteArray) : ∀ (es : List MapEntry) (i : Nat), StrKeys es → ∃ r, Instr.findNow .string (.string s) es i = some r ∧ fnd es s = r.map (·.2) ∧
    (∀ j v, r = some (j, v) → i ≤ j ∧ ∃ e, es[j - i]? = some e ∧ e.key = .string s ∧ ∀ k e', k < j - i → es[k]? = some e' → e'.key ≠ .string s) := by
  intro es
  induction es with
  | nil => intro i h; exact ⟨none, rfl, rfl, fun j v e => by cases e⟩
  | cons e es ih =>
    intro i h
    obtain ⟨t, ht⟩ := h e (by simp)
    by_cases hst : s = t
    · subst hst
      refine ⟨some (i, e.val), ?_, ?_, ?_⟩
      · simp only [Instr.findNow, ht, sameNow_str, decide_true]
      · rw [fnd_hit ht]; rfl
      · rintro j v hjv
        injection hjv with hjv
        injection hjv with h1 h2
        subst h1
        refine ⟨Nat.le_refl _, e, by simp, ht, fun k e' hk => by omega⟩
    · obtain ⟨r, h1, h2, h3⟩ := ih (i + 1) (fun e' he' => h e' (by simp [he']))
      refine ⟨r, ?_, ?_, ?_⟩
      · simp only [Instr.findNow, ht, sameNow_str, decide_eq_false hst]
        exact h1
      · have : e.key ≠ .string s := by rw [ht]; intro e; injection e with e; exact hst e.symm
        rw [fnd_miss this, h2]
      · intro j v hjv
        obtain ⟨h4, e', h5, h6, h7⟩ := h3 j v hjv
        refine ⟨by omega, e', ?_, h6, ?_⟩
        · rw [show j - i = (j - (i + 1)) + 1 by omega]; simpa using h5
        · intro k e'' hk hk2
          cases k with
          | zero => simp at hk2; subst hk2; rw [ht]; intro e; injection e with e; exact hst e.symm
          | succ k => simp at hk2; exact h7 k e'' (by omega) hk2
section
variable {P : Program} {w : World}
theorem run_checkKey' {k : TypeId} (hk : P.underlying k = some .string) (em : Bool) (s : ByteArray) : (Instr.checkKey em 10000 k (.string s)).run P w = .ok () w := MapKept.run_checkKey (d := .string) (k := .string s) hk trivial em 9999
theorem run_findKey {k : TypeId} (hk : P.underlying k = some .string) (s : ByteArray) {es : List MapEntry} {r : Option (Nat × Value)} (h : Instr.findNow .string (.string s) es 0 = some r) : (Instr.findKey k (.string s) es).run P w = .ok r w := by
  simp [Instr.findKey, run_underlying hk, h]
theorem p_lookup {ρ : Operand → Value} {ty : TypeId} {t k e : TypeId} {x y : Operand} {b n sz by_ : Nat} {z : Value} {m : ByteArray → Option Value} {s : ByteArray} [ht : U P t (.map k e)] [hk : U P k .string] [hi : Inf P e sz by_ z] (hx : ρ x = .map (some b)) (hy : ρ y = .string s) (h : Mp w b m n) :
    Op1 P ρ (.lookup t x y false) ty w ((m s).getD z) := by
  obtain ⟨es, c, hb, hs, hf, hn⟩ := h.out
  obtain ⟨r, h1, h2, _⟩ := findNow_str s es.toList 0 hs
  have hg : (getObj b).run P w = .ok (.map es c) w := by simp [getObj, Sem.run, hb]
  have e1 := run_checkKey' (P := P) (w := w) hk.out es.isEmpty s
  have e2 := run_findKey (P := P) (w := w) hk.out s h1
  have e3 := hi.zero_ w
  unfold Op1; intros
  rw [hf s] at h2
  rw [h2]
  cases r with
  | none => simp [execOp, hx, hy, Instr.lookup, run_underlying ht.out, hg, e1, e2, e3]
  | some q => simp [execOp, hx, hy, Instr.lookup, run_underlying ht.out, hg, e1, e2]
theorem p_lookupV {ρ : Operand → Value} {ty : TypeId} {t k e : TypeId} {x y : Operand} {b n sz by_ : Nat} {z v : Value} {m : ByteArray → Option Value} {s : ByteArray} [ht : U P t (.map k e)] [hk : U P k .string] [hi : Inf P e sz by_ z] (hx : ρ x = .map (some b)) (hy : ρ y = .string s) (h : Mp w b m n) (hv : (m s).getD z = v) :
    Op1 P ρ (.lookup t x y false) ty w v := hv ▸ p_lookup hx hy h
theorem p_lookup2 {ρ : Operand → Value} {ty : TypeId} {t k e : TypeId} {x y : Operand} {b n sz by_ : Nat} {z : Value} {m : ByteArray → Option Value} {s : ByteArray} [ht : U P t (.map k e)] [hk : U P k .string] [hi : Inf P e sz by_ z] (hx : ρ x = .map (some b)) (hy : ρ y = .string s) (h : Mp w b m n) :
    Op1 P ρ (.lookup t x y true) ty w (.tuple #[(m s).getD z, .bool (m s).isSome]) := by
  obtain ⟨es, c, hb, hs, hf, hn⟩ := h.out
  obtain ⟨r, h1, h2, _⟩ := findNow_str s es.toList 0 hs
  have hg : (getObj b).run P w = .ok (.map es c) w := by simp [getObj, Sem.run, hb]
  have e1 := run_checkKey' (P := P) (w := w) hk.out es.isEmpty s
  have e2 := run_findKey (P := P) (w := w) hk.out s h1
  have e3 := hi.zero_ w
  unfold Op1; intros
  rw [hf s] at h2
  rw [h2]
  cases r with
  | none => simp [execOp, hx, hy, Instr.lookup, run_underlying ht.out, hg, e1, e2, e3]
  | some q => simp [execOp, hx, hy, Instr.lookup, run_underlying ht.out, hg, e1, e2]
end
theorem fnd_push (es : List MapEntry) (s : ByteArray) (v : Value) (c : Nat) (h : fnd es s = none) (s' : ByteArray) : fnd (es ++ [⟨.string s, v, c⟩]) s' = if s' = s then some v else fnd es s' := by
  induction es with
  | nil =>
    rw [List.nil_append]
    by_cases e : s' = s
    · subst e; rw [fnd_hit rfl, if_pos rfl]
    · rw [fnd_miss (fun q => e (by injection q with q; exact q.symm)), if_neg e]
  | cons x es ih =>
    by_cases hx : x.key = .string s
    · rw [fnd_hit hx] at h; cases h
    · rw [fnd_miss hx] at h
      rw [List.cons_append]
      by_cases hx' : x.key = .string s'
      · rw [fnd_hit hx', fnd_hit hx', if_neg]
        intro e; subst e; exact hx hx'
      · rw [fnd_miss hx', fnd_miss hx', ih h]
theorem fnd_set (s : ByteArray) (v : Value) : ∀ (es : List MapEntry) (j : Nat) (e : MapEntry), es[j]? = some e → e.key = .string s → (∀ k e', k < j → es[k]? = some e' → e'.key ≠ .string s) → ∀ s', fnd (es.modify j fun e => { e with key := .string s, val := v }) s' = if s' = s then some v else fnd es s' := by
  intro es
  induction es with
  | nil => intro j e h; simp at h
  | cons x es ih =>
    intro j e h he hk s'
    cases j with
    | zero =>
      simp at h
      subst h
      rw [List.modify_zero_cons]
      by_cases q : s' = s
      · subst q; rw [fnd_hit rfl, if_pos rfl]
      · have h1 : x.key ≠ .string s' := by rw [he]; intro e; injection e with e; exact q e.symm
        rw [fnd_miss (by intro e; injection e with e; exact q e.symm), if_neg q, fnd_miss h1]
    | succ j =>
      simp at h
      have h0 := hk 0 x (by omega) (by simp)
      rw [List.modify_succ_cons]
      have ih' := ih j e h he (fun k e' hk1 hk2 => hk (k + 1) e' (by omega) (by simpa using hk2)) s'
      by_cases q : x.key = .string s'
      · rw [fnd_hit q, fnd_hit q, if_neg]
        intro e; subst e; exact h0 q
      · rw [fnd_miss q, fnd_miss q, ih']
section
variable {P : Program} {ops : Array Oper} {Q : Exit → Act → World → Prop} {n : Nat} {l : List (Nat × Value)} {ds : List Deferred} {rest : List Oper} {w : World}
variable {ty : TypeId} {pos : String} {aft : Array Edge}
theorem run_setObj {b c0 : Nat} {es0 : Array MapEntry} (o : Obj) (h : w.heap[b]? = some (.map es0 c0)) : (setObj b o).run P w = .ok () { w with heap := w.heap.setIfInBounds b o } := by simp [setObj, Sem.run, h]
theorem put_setObj (w : World) (b : Nat) (o : Obj) : Put w { w with heap := w.heap.setIfInBounds b o } b := by
  refine ⟨⟨rfl, rfl, rfl, by simp, fun k _ hk => ?_⟩, by simp⟩
  simp only [Array.getElem?_setIfInBounds]
  rw [if_neg (fun e => hk (by rw [e]))]
theorem run_mapUpdate {t k e : TypeId} {b cnt : Nat} {m : ByteArray → Option Value} {s : ByteArray} (v : Value) (ht : P.underlying t = some (.map k e)) (hk : P.underlying k = some .string) (h : Mp w b m cnt) :
    ∃ w', (Instr.mapUpdate t (.map (some b)) (.string s) v).run P w = .ok () w' ∧ Put w w' b ∧ Mp w' b (fun s' => if s' = s then some v else m s') (cnt + 1) := by
  have hlt := h.lt
  obtain ⟨es, c, hb, hs, hf, hn⟩ := h.out
  obtain ⟨r, h1, h2, h3⟩ := findNow_str s es.toList 0 hs
  have hg : (getObj b).run P w = .ok (.map es c) w := by simp [getObj, Sem.run, hb]
  have e1 := run_checkKey' (P := P) (w := w) hk false s
  have e2 := run_findKey (P := P) (w := w) hk s h1
  cases r with
  | none =>
    refine ⟨{ w with heap := w.heap.setIfInBounds b (.map (es.push ⟨.string s, v, c⟩) (c + 1)) }, ?_, put_setObj w b _, es.push ⟨.string s, v, c⟩, c + 1, by simp [hlt], ?_, ?_, by simp; omega⟩
    · simp [Instr.mapUpdate, run_underlying ht, hg, e1, e2, run_setObj _ hb]
    · intro x hx
      simp at hx
      rcases hx with hx | hx
      · exact hs x (by simpa using hx)
      · subst hx; exact ⟨s, rfl⟩
    · intro s'
      rw [Array.toList_push, fnd_push _ _ _ _ (by rw [h2]; rfl), hf]
  | some q =>
    obtain ⟨j, v0⟩ := q
    obtain ⟨_, x, h5, h6, h7⟩ := h3 j v0 rfl
    simp only [Nat.sub_zero] at h5 h7
    have hj : es[j]? = some x := by simpa using h5
    have hkey : (((es[j]?).map (·.key)).getD (.string s)) = .string s := by rw [hj]; simp [h6]
    have hsame : (Instr.keyThatStays (.string s) (.string s)).run P w = .ok (.string s) w := MapKept.run_keyThatStays (d := .string) trivial
    refine ⟨{ w with heap := w.heap.setIfInBounds b (.map (es.modify j fun e => { e with key := .string s, val := v }) c) }, ?_, put_setObj w b _, es.modify j fun e => { e with key := .string s, val := v }, c, by simp [hlt], ?_, ?_, by simp; omega⟩
    · simp [Instr.mapUpdate, run_underlying ht, hg, e1, e2, hkey, hsame, run_setObj _ hb]
    · intro y hy
      rw [Array.toList_modify] at hy
      obtain ⟨i, hi⟩ := List.mem_iff_getElem?.1 hy
      rw [List.getElem?_modify] at hi
      split at hi
      · obtain ⟨z, hz, e⟩ := Option.map_eq_some_iff.1 hi
        subst e; exact ⟨s, rfl⟩
      · obtain ⟨z, hz, e⟩ := Option.map_eq_some_iff.1 hi
        subst e; exact hs z (List.mem_iff_getElem?.2 ⟨i, hz⟩)
    · intro s'
      rw [Array.toList_modify, fnd_set s v es.toList j x h5 h6 h7, hf]
theorem w_mapUpdate {t k e : TypeId} {a y x : Operand} {b cnt : Nat} {m : ByteArray → Option Value} {s : ByteArray} {v : Value} [ht : U P t (.map k e)] [hk : U P k .string] (ha : ev n l a = .map (some b)) (hy : ev n l y = .string s) (hx : ev n l x = v) (h : Mp w b m cnt)
    (k : ∀ w', Put w w' b → Mp w' b (fun s' => if s' = s then some v else m s') (cnt + 1) → W P ops Q n l ds rest w') :
    W P ops Q n l ds (⟨none, .mapUpdate t a y x, ty, pos, aft, none⟩ :: rest) w := by
  obtain ⟨w', h1, h2, h3⟩ := run_mapUpdate (P := P) (s := s) v ht.out hk.out h
  refine w_op0 (w' := w') ?_ (k w' h2 h3)
  unfold Op0; intros
  simp [execOp, ha, hy, hx, h1]
theorem w_insert {t k e : TypeId} {a y x : Operand} {b cnt : Nat} {m : ByteArray → Option Value} {s : ByteArray} {v : Value} [ht : U P t (.map k e)] [hk : U P k .string] (ha : ev n l a = .map (some b)) (hy : ev n l y = .string s) (hx : ev n l x = v) (h : Mp w b m cnt)
    (k : ∀ w', Put w w' b → Mp w' b (fun s' => if s' = s then some v else m s') (cnt + 1) → W P ops Q n l ds rest w') :
    W P ops Q n l ds (⟨none, .insert t a y x, ty, pos, aft, none⟩ :: rest) w := by
  obtain ⟨w', h1, h2, h3⟩ := run_mapUpdate (P := P) (s := s) v ht.out hk.out h
  refine w_op0 (w' := w') ?_ (k w' h2 h3)
  unfold Op0; intros
  simp [execOp, ha, hy, hx, h1]
end
end Go.Proofs.YtmgheamdboiklaaDoor
