/- PLAIN: patterns: how they are taken apart, what they match. No program in it. -/
import Derived.Test.YtmgheamdboiklaaDoorPl
namespace Go.Proofs.YtmgheamdboiklaaDoor

/-! ### signs -/
inductive G where
  | lit (c : UInt8)
  | one
  | some_
  | all
  | cls (neg : Bool) (set : UInt8 → Bool)
def G.star : G → Bool
  | .some_ => true
  | .all => true
  | _ => false
def G.takes : G → UInt8 → Bool
  | .lit c, b => decide (b = c)
  | .all, _ => true
  | .cls neg set, b => !decide (b = 47) && !(set b == neg)
  | _, b => !decide (b = 47)

/-- a byte of a class at a place, and the place behind it -/
def member (l : List UInt8) (at_ : Nat) : Option (UInt8 × Nat) :=
  let a := if l[at_]? = some 92 then at_ + 1 else at_
  (l[a]?).map fun c => (c, a + 1)
theorem member_lt {l : List UInt8} {a b : Nat} {c : UInt8} (h : member l a = some (c, b)) : a < b ∧ b ≤ l.length := by
  unfold member at h
  by_cases h92 : l[a]? = some 92
  · simp only [h92, if_true] at h
    obtain ⟨d, hd, e⟩ := Option.map_eq_some_iff.1 h
    have := (List.getElem?_eq_some_iff.1 hd).1
    cases e
    omega
  · simp only [h92, if_false] at h
    obtain ⟨d, hd, e⟩ := Option.map_eq_some_iff.1 h
    have := (List.getElem?_eq_some_iff.1 hd).1
    cases e
    omega
def rng (set : UInt8 → Bool) (lo hi : UInt8) : UInt8 → Bool := fun c => set c || (decide (lo.toNat ≤ c.toNat) && decide (c.toNat ≤ hi.toNat))
/-- the end of what stands at a place of a class, if it is a range -/
def rangeEnd (l : List UInt8) (lo : UInt8) (nx : Nat) : Option (UInt8 × Nat) :=
  if nx + 1 < l.length ∧ l[nx]? = some 45 ∧ l[nx + 1]? ≠ some 93 then member l (nx + 1) else some (lo, nx)
def cls (l : List UInt8) : Nat → Nat → (UInt8 → Bool) → Option ((UInt8 → Bool) × Nat)
  | 0, a, set => some (set, a)
  | k + 1, a, set =>
    if a < l.length ∧ l[a]? ≠ some 93 then
      match member l a with
      | none => none
      | some (lo, nx) =>
        match rangeEnd l lo nx with
        | none => none
        | some (hi, nx2) => if hi.toNat < lo.toNat then none else cls l k nx2 (rng set lo hi)
    else some (set, a)
def clsNeg (l : List UInt8) (a : Nat) : Bool := decide (l[a]? = some 33)
def clsAt (l : List UInt8) (a : Nat) : Nat := if l[a]? = some 33 then a + 1 else a
/-- a class whose members begin at a place, and the place behind it -/
def classF (l : List UInt8) (a : Nat) : Option (Bool × (UInt8 → Bool) × Nat) :=
  match cls l (l.length + 1) (clsAt l a) (fun _ => false) with
  | none => none
  | some (set, e) => if e < l.length ∧ clsAt l a < e then some (clsNeg l a, set, e + 1) else none
/-- the last of the stars that stand in a row from i on -/
def stars (l : List UInt8) : Nat → Nat → Nat
  | 0, i => i
  | k + 1, i => if l[i + 1]? = some 42 then stars l k (i + 1) else i
def gsF (l : List UInt8) : Nat → Nat → Option (List G)
  | 0, _ => some []
  | k + 1, i =>
    match l[i]? with
    | none => some []
    | some c =>
      if c = 42 then (gsF l k (stars l l.length i + 1)).map ((if i < stars l l.length i then G.all else G.some_) :: ·)
      else if c = 63 then (gsF l k (i + 1)).map (G.one :: ·)
      else if c = 91 then
        match classF l (i + 1) with
        | none => none
        | some (neg, set, nx) => (gsF l k nx).map (G.cls neg set :: ·)
      else if c = 92 then
        match l[i + 1]? with
        | none => none
        | some d => (gsF l k (i + 2)).map (G.lit d :: ·)
      else (gsF l k (i + 1)).map (G.lit c :: ·)
def globs (l : List UInt8) : Option (List G) := gsF l (l.length + 1) 0
theorem stars_ge (l : List UInt8) : ∀ (k i : Nat), i ≤ stars l k i
  | 0, i => Nat.le_refl _
  | k + 1, i => by
    unfold stars
    split
    · have := stars_ge l k (i + 1); omega
    · exact Nat.le_refl _
theorem stars_lt (l : List UInt8) : ∀ (k i : Nat), i < l.length → stars l k i < l.length
  | 0, i, h => h
  | k + 1, i, h => by
    unfold stars
    split
    · rename_i h2
      exact stars_lt l k (i + 1) (List.getElem?_eq_some_iff.1 h2).1
    · exact h
theorem stars_more (l : List UInt8) : ∀ (k k' i : Nat), l.length ≤ i + k + 1 → l.length ≤ i + k' + 1 → stars l k i = stars l k' i
  | 0, 0, i, _, _ => rfl
  | 0, k' + 1, i, h, _ => by
    unfold stars
    rw [if_neg]
    rw [List.getElem?_eq_none (by omega)]
    simp
  | k + 1, 0, i, _, h => by
    unfold stars
    rw [if_neg]
    rw [List.getElem?_eq_none (by omega)]
    simp
  | k + 1, k' + 1, i, h, h' => by
    unfold stars
    split
    · exact stars_more l k k' (i + 1) (by omega) (by omega)
    · rfl
theorem stars_step {l : List UInt8} {i : Nat} (h : l[i + 1]? = some 42) : stars l l.length i = stars l l.length (i + 1) := by
  have hl : i + 1 < l.length := (List.getElem?_eq_some_iff.1 h).1
  have e : stars l l.length i = stars l (l.length - 1) (i + 1) := by
    obtain ⟨m, hm⟩ : ∃ m, l.length = m + 1 := ⟨l.length - 1, by omega⟩
    rw [hm]
    show (if l[i + 1]? = some 42 then stars l m (i + 1) else i) = _
    rw [if_pos h]
    rfl
  rw [e]
  exact stars_more l _ _ _ (by omega) (by omega)
theorem stars_stop {l : List UInt8} {i : Nat} (h : l[i + 1]? ≠ some 42) : stars l l.length i = i := by
  cases hl : l.length with
  | zero => rfl
  | succ m => unfold stars; rw [if_neg h]
theorem rangeEnd_lt {l : List UInt8} {lo hi : UInt8} {a nx nx2 : Nat} (h : member l a = some (lo, nx)) (h2 : rangeEnd l lo nx = some (hi, nx2)) : a < nx2 ∧ nx2 ≤ l.length := by
  have := member_lt h
  unfold rangeEnd at h2
  split at h2
  · have := member_lt h2
    omega
  · cases h2; omega
theorem cls_more (l : List UInt8) : ∀ (k k' a : Nat) (set : UInt8 → Bool), l.length < a + k → l.length < a + k' → cls l k a set = cls l k' a set
  | 0, 0, a, set, _, _ => rfl
  | 0, k' + 1, a, set, h, _ => by
    unfold cls
    rw [if_neg (by omega)]
  | k + 1, 0, a, set, _, h => by
    unfold cls
    rw [if_neg (by omega)]
  | k + 1, k' + 1, a, set, h, h' => by
    unfold cls
    split
    · cases hm : member l a with
      | none => rfl
      | some x =>
        obtain ⟨lo, nx⟩ := x
        simp only
        cases hr : rangeEnd l lo nx with
        | none => rfl
        | some y =>
          obtain ⟨hi, nx2⟩ := y
          simp only
          have := rangeEnd_lt hm hr
          split
          · rfl
          · exact cls_more l k k' nx2 _ (by omega) (by omega)
    · rfl
theorem cls_lt (l : List UInt8) : ∀ (k a : Nat) (set : UInt8 → Bool) (r : (UInt8 → Bool) × Nat), cls l k a set = some r → a ≤ r.2
  | 0, a, set, r, h => by cases h; exact Nat.le_refl _
  | k + 1, a, set, r, h => by
    unfold cls at h
    split at h
    · cases hm : member l a with
      | none => rw [hm] at h; cases h
      | some x =>
        obtain ⟨lo, nx⟩ := x
        rw [hm] at h
        simp only at h
        cases hr : rangeEnd l lo nx with
        | none => rw [hr] at h; cases h
        | some y =>
          obtain ⟨hi, nx2⟩ := y
          rw [hr] at h
          simp only at h
          have := rangeEnd_lt hm hr
          split at h
          · cases h
          · have := cls_lt l k nx2 _ r h
            omega
    · cases h; exact Nat.le_refl _
theorem classF_lt {l : List UInt8} {a nx : Nat} {neg : Bool} {set : UInt8 → Bool} (h : classF l a = some (neg, set, nx)) : a < nx ∧ nx ≤ l.length := by
  unfold classF at h
  cases hc : cls l (l.length + 1) (clsAt l a) (fun _ => false) with
  | none => rw [hc] at h; cases h
  | some r =>
    obtain ⟨st, e⟩ := r
    rw [hc] at h
    simp only at h
    split at h
    · rename_i hh
      simp only [Option.some.injEq, Prod.mk.injEq] at h
      obtain ⟨_, _, rfl⟩ := h
      unfold clsAt at hh
      split at hh <;> omega
    · cases h

theorem classF_stop {l : List UInt8} {a K q : Nat} {set : UInt8 → Bool} (hinv : cls l (l.length + 1) (clsAt l a) (fun _ => false) = cls l K q set) (hK : l.length < q + K) (hq : q ≤ l.length) (hstop : ¬ (q < l.length ∧ l[q]? ≠ some 93)) :
    classF l a = if q < l.length ∧ clsAt l a < q then some (clsNeg l a, set, q + 1) else none := by
  obtain ⟨k, rfl⟩ : ∃ k, K = k + 1 := ⟨K - 1, by omega⟩
  have e : cls l (k + 1) q set = some (set, q) := by unfold cls; rw [if_neg hstop]
  rw [e] at hinv
  simp only [classF, hinv]
theorem classF_bad {l : List UInt8} {a K q : Nat} {set : UInt8 → Bool} (hinv : cls l (l.length + 1) (clsAt l a) (fun _ => false) = cls l K q set) (h : cls l K q set = none) : classF l a = none := by
  rw [h] at hinv
  simp only [classF, hinv]
theorem cls_go {l : List UInt8} {K q : Nat} {set : UInt8 → Bool} (hK : l.length < q + K) (hq : q < l.length) (h93 : l[q]? ≠ some 93) :
    ∃ k, K = k + 1 ∧ cls l K q set = match member l q with
      | none => none
      | some (lo, nx) => match rangeEnd l lo nx with
        | none => none
        | some (hi, nx2) => if hi.toNat < lo.toNat then none else cls l k nx2 (rng set lo hi) := by
  obtain ⟨k, rfl⟩ : ∃ k, K = k + 1 := ⟨K - 1, by omega⟩
  refine ⟨k, rfl, ?_⟩
  conv => lhs; unfold cls
  rw [if_pos ⟨hq, h93⟩]

section
variable {l : List UInt8} {k i : Nat}
theorem gs_end (h : l[i]? = none) : gsF l (k + 1) i = some [] := by simp [gsF, h]
theorem gs_star (h : l[i]? = some 42) : gsF l (k + 1) i = (gsF l k (stars l l.length i + 1)).map ((if i < stars l l.length i then G.all else G.some_) :: ·) := by simp [gsF, h]
theorem gs_one (h : l[i]? = some 63) : gsF l (k + 1) i = (gsF l k (i + 1)).map (G.one :: ·) := by simp [gsF, h]
theorem gs_cls_none (h : l[i]? = some 91) (hc : classF l (i + 1) = none) : gsF l (k + 1) i = none := by simp [gsF, h, hc]
theorem gs_cls {neg : Bool} {set : UInt8 → Bool} {nx : Nat} (h : l[i]? = some 91) (hc : classF l (i + 1) = some (neg, set, nx)) : gsF l (k + 1) i = (gsF l k nx).map (G.cls neg set :: ·) := by simp [gsF, h, hc]
theorem gs_esc_none (h : l[i]? = some 92) (hc : l[i + 1]? = none) : gsF l (k + 1) i = none := by simp [gsF, h, hc]
theorem gs_esc {d : UInt8} (h : l[i]? = some 92) (hc : l[i + 1]? = some d) : gsF l (k + 1) i = (gsF l k (i + 2)).map (G.lit d :: ·) := by simp [gsF, h, hc]
theorem gs_lit {c : UInt8} (h : l[i]? = some c) (h1 : c ≠ 42) (h2 : c ≠ 63) (h3 : c ≠ 91) (h4 : c ≠ 92) : gsF l (k + 1) i = (gsF l k (i + 1)).map (G.lit c :: ·) := by simp [gsF, h, h1, h2, h3, h4]
/-- one sign more has been read -/
theorem gs_next {l : List UInt8} {N k i j : Nat} {gs : List G} {g : G} (hinv : gsF l N 0 = (gsF l (k + 1) i).map (gs ++ ·)) (h : gsF l (k + 1) i = (gsF l k j).map (g :: ·)) : gsF l N 0 = (gsF l k j).map ((gs ++ [g]) ++ ·) := by
  rw [hinv, h]
  cases gsF l k j <;> simp
end

/-! ### what is matched -/
/-- row k: which beginnings of the text are matched by the first k signs -/
def rowStar (g : G) (s : List UInt8) (row : Nat → Bool) : Nat → Bool
  | 0 => row 0
  | i + 1 => row (i + 1) || (rowStar g s row i && g.takes (s.getD i 0))
def rowOne (g : G) (s : List UInt8) (row : Nat → Bool) : Nat → Bool
  | 0 => false
  | i + 1 => row i && g.takes (s.getD i 0)
def rowOf (g : G) (s : List UInt8) (row : Nat → Bool) : Nat → Bool := if g.star then rowStar g s row else rowOne g s row
def pm (gs : List G) (s : List UInt8) : Nat → Nat → Bool
  | 0 => fun i => decide (i = 0)
  | k + 1 => match gs[k]? with
    | none => fun _ => false
    | some g => rowOf g s (pm gs s k)
def patOk (p : ByteArray) : Bool := decide (p.size ≤ 100) && (globs (lsB p)).isSome
def glob (p s : ByteArray) : Bool :=
  if p.size ≤ 100 then
    match globs (lsB p) with
    | none => false
    | some gs => pm gs (lsB s) gs.length s.size
  else false

/-- the state of the walk along the text: behind i bytes -/
def starAt (gs : List G) (k : Nat) : Bool := match gs[k]? with | some g => g.star | none => false
def takesAt (gs : List G) (k : Nat) (b : UInt8) : Bool := match gs[k]? with | some g => g.takes b | none => false
def qm (gs : List G) (s : List UInt8) (i k : Nat) : Bool := if starAt gs k then pm gs s (k + 1) i else pm gs s k i
theorem pm_succ {gs : List G} {s : List UInt8} {k : Nat} {g : G} (h : gs[k]? = some g) : pm gs s (k + 1) = rowOf g s (pm gs s k) := by
  show (match gs[k]? with | none => fun _ => false | some g => rowOf g s (pm gs s k)) = _
  rw [h]
/-- at the head of the text -/
theorem qm_zero (gs : List G) (s : List UInt8) (k : Nat) (hk : k ≤ gs.length) : qm gs s 0 k = if k = 0 then true else starAt gs (k - 1) && qm gs s 0 (k - 1) := by
  have p0 : ∀ k, k < gs.length → pm gs s (k + 1) 0 = (starAt gs k && pm gs s k 0) := by
    intro k hk
    have hg := List.getElem?_eq_getElem hk
    rw [pm_succ hg, rowOf, starAt, hg]
    simp only
    cases gs[k].star <;> rfl
  have e : qm gs s 0 k = pm gs s k 0 := by
    unfold qm
    cases hs : starAt gs k with
    | false => rfl
    | true =>
      have hk' : k < gs.length := by
        rcases Nat.lt_or_ge k gs.length with h | h
        · exact h
        · unfold starAt at hs; rw [List.getElem?_eq_none h] at hs; cases hs
      simp only [if_true]
      rw [p0 k hk', hs]; rfl
  rw [e]
  cases k with
  | zero => rfl
  | succ k =>
    rw [p0 k (by omega)]
    simp only [Nat.add_one_ne_zero, if_false, Nat.add_sub_cancel]
    unfold qm
    cases hs : starAt gs k with
    | false => rfl
    | true =>
      simp only [if_true, Bool.true_and]
      rw [p0 k (by omega), hs]; rfl
/-- one byte more -/
theorem qm_succ (gs : List G) (s : List UInt8) (i k : Nat) (hk : k ≤ gs.length) :
    qm gs s (i + 1) k = ((starAt gs k && qm gs s i k && takesAt gs k (s.getD i 0)) || (if k = 0 then false else (!starAt gs (k - 1) && qm gs s i (k - 1) && takesAt gs (k - 1) (s.getD i 0)) || (starAt gs (k - 1) && qm gs s (i + 1) (k - 1)))) := by
  have base : pm gs s k (i + 1) = (if k = 0 then false else (!starAt gs (k - 1) && qm gs s i (k - 1) && takesAt gs (k - 1) (s.getD i 0)) || (starAt gs (k - 1) && qm gs s (i + 1) (k - 1))) := by
    cases k with
    | zero => rfl
    | succ k =>
      have hk' : k < gs.length := by omega
      have hg := List.getElem?_eq_getElem hk'
      simp only [Nat.add_one_ne_zero, if_false, Nat.add_sub_cancel]
      cases hs : starAt gs k with
      | true =>
        simp only [Bool.not_true, Bool.false_and, Bool.false_or, Bool.true_and]
        unfold qm
        rw [hs]; rfl
      | false =>
        simp only [Bool.not_false, Bool.true_and, Bool.false_and, Bool.or_false]
        unfold qm
        rw [hs]
        simp only [Bool.false_eq_true, if_false]
        have hs' : gs[k].star = false := by unfold starAt at hs; rw [hg] at hs; exact hs
        rw [pm_succ hg, rowOf, hs', takesAt, hg]
        rfl
  rw [← base]
  unfold qm
  cases hs : starAt gs k with
  | false => simp
  | true =>
    have hk' : k < gs.length := by
      rcases Nat.lt_or_ge k gs.length with h | h
      · exact h
      · unfold starAt at hs; rw [List.getElem?_eq_none h] at hs; cases hs
    have hg := List.getElem?_eq_getElem hk'
    have hs' : gs[k].star = true := by unfold starAt at hs; rw [hg] at hs; exact hs
    simp only [if_true, Bool.true_and]
    rw [pm_succ hg, rowOf, hs', takesAt, hg]
    simp only [if_true]
    show (pm gs s k (i + 1) || (rowStar gs[k] s (pm gs s k) i && gs[k].takes (s.getD i 0))) = _
    rw [Bool.or_comm]
theorem qm_end (gs : List G) (s : List UInt8) (i : Nat) : qm gs s i gs.length = pm gs s gs.length i := by
  have : starAt gs gs.length = false := by unfold starAt; rw [List.getElem?_eq_none (Nat.le_refl _)]
  simp [qm, this]
end Go.Proofs.YtmgheamdboiklaaDoor
