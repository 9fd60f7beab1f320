/- PLAIN LISTS AND BYTES: parts of a text. No program in it. -/
import Derived.Test.YtmgheamdboiklaaDoorOps
import Derived.Laws.RangeAny
import Derived.Lib.Bytealg
namespace Go.Proofs.YtmgheamdboiklaaDoor

/-! ### bytes -/
def mkB (l : List UInt8) : ByteArray := ⟨l.toArray⟩
def lsB (s : ByteArray) : List UInt8 := s.data.toList
theorem mk_ls (s : ByteArray) : mkB (lsB s) = s := by cases s; simp [mkB, lsB]
theorem ls_mk (l : List UInt8) : lsB (mkB l) = l := by simp [mkB, lsB]
theorem mk_inj {a b : List UInt8} (h : mkB a = mkB b) : a = b := by rw [← ls_mk a, ← ls_mk b, h]
theorem ls_inj {a b : ByteArray} (h : lsB a = lsB b) : a = b := by rw [← mk_ls a, ← mk_ls b, h]
theorem ls_len (s : ByteArray) : (lsB s).length = s.size := by cases s; rfl
theorem mk_size (l : List UInt8) : (mkB l).size = l.length := by rw [← ls_len, ls_mk]
theorem ls_extract (s : ByteArray) (a b : Nat) : lsB (s.extract a b) = ((lsB s).drop a).take (b - a) := by
  show (s.extract a b).data.toList = _
  have h1 : (s.extract a b).data = s.data.extract a b := by simp
  rw [h1]
  simp [lsB, Array.toList_extract, List.extract_eq_take_drop]
theorem ls_append (a b : ByteArray) : lsB (a ++ b) = lsB a ++ lsB b := by simp [lsB]
theorem bAt_get (s : ByteArray) (i : Nat) : bAt s i = (lsB s).getD i 0 := rfl
theorem extract_eq (s : ByteArray) (a b : Nat) : s.extract a b = mkB (((lsB s).drop a).take (b - a)) := by rw [← ls_extract, mk_ls]

/-! ### a text cut at a byte -/
def cutAt (c : UInt8) : List UInt8 → List (List UInt8)
  | [] => [[]]
  | b :: r => if b = c then [] :: cutAt c r else
    match cutAt c r with
    | [] => [[b]]
    | x :: xs => (b :: x) :: xs
theorem cutAt_ne (c : UInt8) (l : List UInt8) : cutAt c l ≠ [] := by
  cases l with
  | nil => simp [cutAt]
  | cons b r =>
    simp only [cutAt]
    split
    · simp
    · split <;> simp
theorem cutAt_none (c : UInt8) : ∀ l : List UInt8, c ∉ l → cutAt c l = [l]
  | [], _ => rfl
  | b :: r, h => by
    have h1 : b ≠ c := fun e => h (by simp [e])
    have h2 : c ∉ r := fun e => h (by simp [e])
    simp [cutAt, h1, cutAt_none c r h2]
theorem cutAt_hit (c : UInt8) : ∀ (a r : List UInt8), c ∉ a → cutAt c (a ++ c :: r) = a :: cutAt c r
  | [], r, _ => by simp [cutAt]
  | b :: a, r, h => by
    have h1 : b ≠ c := fun e => h (by simp [e])
    have h2 : c ∉ a := fun e => h (by simp [e])
    simp [cutAt, h1, cutAt_hit c a r h2]
theorem cutAt_mem (c : UInt8) : ∀ (l x : List UInt8), x ∈ cutAt c l → c ∉ x
  | [], x, h => by simp [cutAt] at h; simp [h]
  | b :: r, x, h => by
    simp only [cutAt] at h
    split at h
    · simp only [List.mem_cons] at h
      rcases h with h | h
      · simp [h]
      · exact cutAt_mem c r x h
    · rename_i hb
      split at h
      · rename_i e; exact absurd e (cutAt_ne c r)
      · rename_i y ys e
        have ih := cutAt_mem c r
        rw [e] at ih
        simp only [List.mem_cons] at h
        rcases h with h | h
        · subst h
          have := ih y (by simp)
          simp only [List.mem_cons, not_or]
          exact ⟨fun e => hb e.symm, this⟩
        · exact ih x (by simp [h])
/-- the parts joined again -/
def glueL (c : UInt8) : List (List UInt8) → List UInt8
  | [] => []
  | [x] => x
  | x :: y :: r => x ++ c :: glueL c (y :: r)
theorem glue_cut (c : UInt8) : ∀ l : List UInt8, glueL c (cutAt c l) = l
  | [] => rfl
  | b :: r => by
    have ih := glue_cut c r
    simp only [cutAt]
    split
    · rename_i hb
      cases e : cutAt c r with
      | nil => exact absurd e (cutAt_ne c r)
      | cons x xs => rw [e] at ih; simp [glueL, ih, hb]
    · cases e : cutAt c r with
      | nil => exact absurd e (cutAt_ne c r)
      | cons x xs =>
        rw [e] at ih
        cases xs with
        | nil => simp [glueL] at ih ⊢; exact ih
        | cons y ys => simp [glueL] at ih ⊢; exact ih

/-- the parts of a text (13) -/
def partsL (l : List UInt8) : List (List UInt8) := if l = [] then [] else cutAt 47 l
def split (s : ByteArray) : List ByteArray := (partsL (lsB s)).map mkB
theorem split_nil : split (mkB []) = [] := by simp [split, partsL, ls_mk]

theorem cutAt_len (c : UInt8) : ∀ l : List UInt8, (cutAt c l).length ≤ l.length + 1
  | [] => by simp [cutAt]
  | b :: r => by
    have ih := cutAt_len c r
    simp only [cutAt]
    split
    · simp; omega
    · split
      · simp
      · rename_i x xs e
        rw [e] at ih
        simp at ih ⊢
        omega
theorem split_len (s : ByteArray) {m : Nat} (h : s.size + 1 ≤ m) : (split s).length ≤ m := by
  have hl := ls_len s
  have := cutAt_len 47 (lsB s)
  simp only [split, partsL, List.length_map]
  split
  · simp
  · omega

/-- what a walk along a text knows at a place: 'out' has what stands ahead of 'from', and from there on no cut has come -/
structure Cutting (c : UInt8) (l : List UInt8) (out : List (List UInt8)) (start pos : Nat) : Prop where
  le : start ≤ pos
  len : pos ≤ l.length
  all : cutAt c l = out ++ cutAt c (l.drop start)
  free : ∀ j, start ≤ j → j < pos → l[j]? ≠ some c
  few : out.length ≤ start
theorem Cutting.start (c : UInt8) (l : List UInt8) : Cutting c l [] 0 0 := ⟨Nat.le_refl _, Nat.zero_le _, by simp, fun j h1 h2 => by omega, by simp⟩
theorem Cutting.free_take {c : UInt8} {l : List UInt8} {out : List (List UInt8)} {start pos : Nat} (h : Cutting c l out start pos) : c ∉ (l.drop start).take (pos - start) := fun hm => by
  obtain ⟨j, hj⟩ := List.mem_iff_getElem?.1 hm
  rw [List.getElem?_take] at hj
  split at hj
  · rename_i hlt
    rw [List.getElem?_drop] at hj
    exact h.free (start + j) (by omega) (by omega) hj
  · cases hj
theorem Cutting.hit {c : UInt8} {l : List UInt8} {out : List (List UInt8)} {start pos : Nat} (h : Cutting c l out start pos) (hc : l[pos]? = some c) : Cutting c l (out ++ [(l.drop start).take (pos - start)]) (pos + 1) (pos + 1) := by
  have hlt : pos < l.length := (List.getElem?_eq_some_iff.1 hc).1
  refine ⟨Nat.le_refl _, hlt, ?_, fun j h1 h2 => by omega, by have := h.few; have := h.le; simp; omega⟩
  rw [h.all, List.append_assoc]
  congr 1
  have e : l.drop start = (l.drop start).take (pos - start) ++ c :: l.drop (pos + 1) := by
    have h1 := (List.take_append_drop (pos - start) (l.drop start)).symm
    rw [List.drop_drop, show start + (pos - start) = pos from by have := h.le; omega] at h1
    have h2 : l.drop pos = c :: l.drop (pos + 1) := by
      rw [List.drop_eq_getElem_cons hlt]
      congr 1
      have := List.getElem?_eq_getElem hlt
      rw [hc] at this
      exact (Option.some.inj this).symm
    rw [h2] at h1
    exact h1
  rw [e, cutAt_hit c _ _ h.free_take]
  simp only [List.singleton_append]
  congr 1
  rw [← e]
theorem Cutting.miss {c : UInt8} {l : List UInt8} {out : List (List UInt8)} {start pos pos' : Nat} (h : Cutting c l out start pos) (hp : pos ≤ pos') (hl : pos' ≤ l.length) (hf : ∀ j, pos ≤ j → j < pos' → l[j]? ≠ some c) : Cutting c l out start pos' :=
  ⟨Nat.le_trans h.le hp, hl, h.all, fun j h1 h2 => by
    rcases Nat.lt_or_ge j pos with hj | hj
    · exact h.free j h1 hj
    · exact hf j hj h2, h.few⟩
theorem Cutting.done {c : UInt8} {l : List UInt8} {out : List (List UInt8)} {start pos : Nat} (h : Cutting c l out start pos) (hp : l.length ≤ pos) : cutAt c l = out ++ [l.drop start] := by
  rw [h.all, cutAt_none]
  intro hm
  have h2 := h.free_take
  rw [List.take_of_length_le (by simp; omega)] at h2
  exact h2 hm
theorem Cutting.start_le {c : UInt8} {l : List UInt8} {out : List (List UInt8)} {start pos : Nat} (h : Cutting c l out start pos) : start ≤ l.length := Nat.le_trans h.le h.len

/-! ### runes -/
theorem decode_slash {s : ByteArray} {pos : Nat} (h : pos < s.size) : 1 ≤ (Utf8.decode s pos).2 ∧ pos + (Utf8.decode s pos).2 ≤ s.size ∧ ((Utf8.decode s pos).1 = 47 ↔ (lsB s)[pos]? = some 47) ∧
    ((Utf8.decode s pos).1 = 47 → (Utf8.decode s pos).2 = 1) ∧ ∀ j, pos < j → j < pos + (Utf8.decode s pos).2 → (lsB s)[j]? ≠ some 47 := by
  have hb : (lsB s)[pos]? = some (s[pos]'h) := by
    rw [List.getElem?_eq_getElem (by rw [ls_len]; exact h)]; rfl
  have cont : ∀ k, (decide (pos + k < s.size) && (s.get! (pos + k)).toNat / 64 == 2) = true → pos + k < s.size ∧ (lsB s)[pos + k]? ≠ some 47 := by
    intro k hk
    simp only [Bool.and_eq_true, decide_eq_true_eq, beq_iff_eq] at hk
    refine ⟨hk.1, fun e => ?_⟩
    have e2 : (lsB s)[pos + k]? = some (s[pos + k]'hk.1) := by
      rw [List.getElem?_eq_getElem (by rw [ls_len]; exact hk.1)]; rfl
    rw [e2] at e
    have e3 : s.get! (pos + k) = s[pos + k]'hk.1 := get_at s (pos + k) hk.1
    have h3 := hk.2
    rw [e3, Option.some.inj e] at h3
    simp at h3
  by_cases ha : (s[pos]'h).toNat < 128
  · rw [decode_ascii s pos h ha]
    refine ⟨Nat.le_refl _, h, ?_, fun _ => rfl, fun j h1 h2 => by omega⟩
    rw [hb]
    constructor
    · intro e
      congr 1
      exact UInt8.toNat_inj.1 e
    · intro e
      rw [Option.some.inj e]
      rfl
  · have hh := decode_high s pos h (by omega)
    have hne : (Utf8.decode s pos).1 ≠ 47 := by omega
    have hne2 : (lsB s)[pos]? ≠ some 47 := by
      rw [hb]
      intro e
      rw [Option.some.inj e] at ha
      exact ha (by decide)
    refine ⟨hh.2, ?_, ⟨fun e => absurd e hne, fun e => absurd e hne2⟩, fun e => absurd e hne, ?_⟩
    · unfold Utf8.decode
      simp only [Nat.add_zero]
      split
      · simp; omega
      · split
        · rename_i hc
          rw [Bool.and_eq_true] at hc
          have := (cont 1 hc.2).1
          split <;> simp <;> omega
        · split
          · rename_i hc
            simp only [Bool.and_eq_true] at hc
            have := (cont 2 (by simpa using hc.2)).1
            split <;> simp <;> omega
          · split
            · rename_i hc
              simp only [Bool.and_eq_true] at hc
              have := (cont 3 (by simpa using hc.2)).1
              split <;> simp <;> omega
            · simp; omega
    · intro j h1 h2
      unfold Utf8.decode at h2
      simp only [Nat.add_zero] at h2
      split at h2
      · simp at h2; omega
      · split at h2
        · rename_i hc
          rw [Bool.and_eq_true] at hc
          have c1 := (cont 1 hc.2).2
          split at h2
          · simp at h2
            obtain rfl : j = pos + 1 := by omega
            exact c1
          · simp at h2; omega
        · split at h2
          · rename_i hc
            simp only [Bool.and_eq_true] at hc
            have c1 := (cont 1 (by simpa using hc.1.2)).2
            have c2 := (cont 2 (by simpa using hc.2)).2
            split at h2
            · simp at h2
              by_cases hj : j = pos + 1
              · subst hj; exact c1
              · obtain rfl : j = pos + 2 := by omega
                exact c2
            · simp at h2; omega
          · split at h2
            · rename_i hc
              simp only [Bool.and_eq_true] at hc
              have c1 := (cont 1 (by simpa using hc.1.1.2)).2
              have c2 := (cont 2 (by simpa using hc.1.2)).2
              have c3 := (cont 3 (by simpa using hc.2)).2
              split at h2
              · simp at h2
                by_cases hj : j = pos + 1
                · subst hj; exact c1
                · by_cases hj2 : j = pos + 2
                  · subst hj2; exact c2
                  · obtain rfl : j = pos + 3 := by omega
                    exact c3
              · simp at h2; omega
            · simp at h2; omega
/-! ### what stands ahead of, and behind, the last cut -/
def parentL (l : List UInt8) : List UInt8 := ((l.reverse.dropWhile (· ≠ 47)).drop 1).reverse
def baseL (l : List UInt8) : List UInt8 := (l.reverse.takeWhile (· ≠ 47)).reverse
def parent (s : ByteArray) : ByteArray := mkB (parentL (lsB s))
def base (s : ByteArray) : ByteArray := mkB (baseL (lsB s))
theorem parentL_none {l : List UInt8} (h : (47 : UInt8) ∉ l) : parentL l = [] ∧ baseL l = l := by
  have h1 : ∀ x ∈ l.reverse, (decide (x ≠ 47)) = true := fun x hx => by
    simp only [decide_eq_true_eq]
    exact fun e => h (by subst e; simpa using hx)
  have h2 : l.reverse.dropWhile (· ≠ 47) = [] := by
    have := List.dropWhile_append_of_pos (l₂ := []) h1
    simpa using this
  have h3 : l.reverse.takeWhile (· ≠ 47) = l.reverse := by
    have := List.takeWhile_append_of_pos (l₂ := []) h1
    simpa using this
  simp only [parentL, baseL, h2, h3]
  simp
theorem parentL_some {a b : List UInt8} (h : (47 : UInt8) ∉ b) : parentL (a ++ 47 :: b) = a ∧ baseL (a ++ 47 :: b) = b := by
  have h1 : ∀ x ∈ b.reverse, (decide (x ≠ 47)) = true := fun x hx => by
    simp only [decide_eq_true_eq]
    exact fun e => h (by subst e; simpa using hx)
  have e : (a ++ 47 :: b).reverse = b.reverse ++ 47 :: a.reverse := by simp
  have h2 : (b.reverse ++ 47 :: a.reverse).dropWhile (· ≠ 47) = 47 :: a.reverse := by
    rw [List.dropWhile_append_of_pos h1]
    simp
  have h3 : (b.reverse ++ 47 :: a.reverse).takeWhile (· ≠ 47) = b.reverse := by
    rw [List.takeWhile_append_of_pos h1]
    simp
  simp only [parentL, baseL, e, h2, h3]
  simp
theorem last_cut {l : List UInt8} {i : Nat} (hi : l[i]? = some 47) (h : ∀ j, i < j → l[j]? ≠ some 47) : l = l.take i ++ 47 :: l.drop (i + 1) ∧ (47 : UInt8) ∉ l.drop (i + 1) := by
  have hlt : i < l.length := (List.getElem?_eq_some_iff.1 hi).1
  constructor
  · have h1 := (List.take_append_drop i l).symm
    rw [List.drop_eq_getElem_cons hlt] at h1
    have h2 := List.getElem?_eq_getElem hlt
    rw [hi] at h2
    rw [← Option.some.inj h2] at h1
    exact h1
  · intro hm
    obtain ⟨j, hj⟩ := List.mem_iff_getElem?.1 hm
    rw [List.getElem?_drop] at hj
    exact h _ (by omega) hj

/-! ### the order of texts and of paths -/
def sLt (a b : ByteArray) : Bool := Op.bytesLess (lsB a) (lsB b)
def cmpS (a b : ByteArray) : Int := if sLt a b then -1 else if sLt a b || decide (a = b) then 0 else 1
def cmpP : List ByteArray → List ByteArray → Int
  | [], [] => 0
  | [], _ :: _ => -1
  | _ :: _, [] => 1
  | a :: x, b :: y => if cmpS a b ≠ 0 then cmpS a b else cmpP x y
def less (a b : ByteArray) : Bool := decide (cmpP (split a) (split b) < 0)
def under (p top : ByteArray) : Bool := decide ((split top).length ≤ (split p).length) && decide ((split p).take (split top).length = split top)
/-- what cmpP comes to behind like beginnings -/
theorem cmpP_drop : ∀ (k : Nat) (x y : List ByteArray), k ≤ x.length → k ≤ y.length → (∀ i, i < k → cmpS (x.getD i (mkB [])) (y.getD i (mkB [])) = 0) → cmpP x y = cmpP (x.drop k) (y.drop k)
  | 0, x, y, _, _, _ => by simp
  | k + 1, x, y, hx, hy, h => by
    match x, y with
    | [], _ => simp at hx
    | _ :: _, [] => simp at hy
    | a :: x, b :: y =>
      have h0 := h 0 (by omega)
      simp at h0
      simp only [List.length_cons] at hx hy
      have ih := cmpP_drop k x y (by omega) (by omega) (fun i hi => by have := h (i + 1) (by omega); simpa using this)
      simp [cmpP, h0, ih]

/-! ### which texts are paths (13) -/
def partOk (s : ByteArray) : Bool := !decide (s = { data := #[] }) && decide ((s.size : Int) ≤ 48) && !decide (s = { data := #[46] }) && !decide (s = { data := #[46, 46] }) && decide (Lib.indexByte (lsB s) 0 < 0)
def right (p : ByteArray) : Bool := (split p).all partOk && (decide (((split p).length : Int) ≤ 12) && decide ((p.size : Int) ≤ 200))
theorem indexByte_neg (l : List UInt8) (c : UInt8) : Lib.indexByte l c < 0 ↔ c ∉ l := by
  induction l with
  | nil => simp [Lib.indexByte]
  | cons b l ih =>
    have hge := Lib.indexByte_ge l c
    simp only [Lib.indexByte, List.mem_cons, not_or]
    by_cases hb : b = c
    · subst hb; simp
    · have hb' : (b == c) = false := by simpa using hb
      simp only [hb']
      by_cases h1 : Lib.indexByte l c = -1
      · have h2 : c ∉ l := ih.1 (by omega)
        have h3 : ¬ c = b := fun e => hb (Eq.symm e)
        simp [h1, h2, h3]
      · have h2 : c ∈ l := Classical.not_not.1 fun h => h1 (by have := ih.2 h; omega)
        have h3 : (Lib.indexByte l c == -1) = false := by simpa using h1
        simp only [h3]
        simp [h2]
        omega
end Go.Proofs.YtmgheamdboiklaaDoor
