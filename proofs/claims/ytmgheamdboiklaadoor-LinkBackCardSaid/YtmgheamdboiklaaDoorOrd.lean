/- PLAIN: the order of paths; how many go. No program in it. -/
import Derived.Test.YtmgheamdboiklaaDoorDp
namespace Go.Proofs.YtmgheamdboiklaaDoor

theorem bL_irrefl : ∀ x : List UInt8, Op.bytesLess x x = false
  | [] => rfl
  | a :: x => by simp [Op.bytesLess, bL_irrefl x]
theorem bL_trans : ∀ x y z : List UInt8, Op.bytesLess x y = true → Op.bytesLess y z = true → Op.bytesLess x z = true
  | x, [], z, h, _ => by cases x <;> simp [Op.bytesLess] at h
  | x, b :: y, [], _, h => by simp [Op.bytesLess] at h
  | [], b :: y, c :: z, _, _ => rfl
  | a :: x, b :: y, c :: z, h1, h2 => by
    simp only [Op.bytesLess, Bool.or_eq_true, decide_eq_true_eq, Bool.and_eq_true, beq_iff_eq, UInt8.lt_iff_toNat_lt] at *
    rcases h1 with h1 | ⟨rfl, h1⟩
    · rcases h2 with h2 | ⟨rfl, h2⟩
      · left; omega
      · left; omega
    · rcases h2 with h2 | ⟨rfl, h2⟩
      · left; omega
      · right; exact ⟨rfl, bL_trans x y z h1 h2⟩
theorem bL_total : ∀ x y : List UInt8, Op.bytesLess x y = false → Op.bytesLess y x = false → x = y
  | [], [], _, _ => rfl
  | [], b :: y, h, _ => by simp [Op.bytesLess] at h
  | a :: x, [], _, h => by simp [Op.bytesLess] at h
  | a :: x, b :: y, h1, h2 => by
    simp only [Op.bytesLess, Bool.or_eq_false_iff, decide_eq_false_iff_not, Bool.and_eq_false_iff, UInt8.lt_iff_toNat_lt] at *
    have hab : a = b := UInt8.toNat_inj.1 (by omega)
    subst hab
    rw [bL_total x y (by simpa using h1.2) (by simpa using h2.2)]
theorem sLt_irrefl (a : ByteArray) : sLt a a = false := bL_irrefl _
theorem sLt_trans {a b c : ByteArray} (h : sLt a b = true) (k : sLt b c = true) : sLt a c = true := bL_trans _ _ _ h k
theorem sLt_total {a b : ByteArray} (h : sLt a b = false) (k : sLt b a = false) : a = b := ls_inj (bL_total _ _ h k)
theorem sLt_asymm {a b : ByteArray} (h : sLt a b = true) : sLt b a = false := by
  cases k : sLt b a with
  | false => rfl
  | true => have := sLt_trans h k; rw [sLt_irrefl] at this; cases this
/-- the order of rows of texts, as a proposition -/
inductive LtP : List ByteArray → List ByteArray → Prop
  | nil {b y} : LtP [] (b :: y)
  | head {a b x y} : sLt a b = true → LtP (a :: x) (b :: y)
  | tail {a x y} : LtP x y → LtP (a :: x) (a :: y)
theorem cmpS_neg {a b : ByteArray} : cmpS a b < 0 ↔ sLt a b = true := by
  unfold cmpS
  split
  · simp [*]
  · rename_i h
    split <;> simp [h]
theorem cmpS_zero {a b : ByteArray} : cmpS a b = 0 ↔ a = b := by
  unfold cmpS
  split
  · rename_i h
    constructor
    · intro e; omega
    · intro e; subst e; rw [sLt_irrefl] at h; cases h
  · rename_i h
    split
    · rename_i h2; simp [h] at h2; simp [h2]
    · rename_i h2; simp [h] at h2; simp [h2]
theorem ltP_iff : ∀ x y : List ByteArray, cmpP x y < 0 ↔ LtP x y
  | [], [] => by simp only [cmpP]; constructor; (intro h; omega); (intro h; cases h)
  | [], b :: y => by simp only [cmpP]; constructor; (intro _; exact .nil); (intro _; omega)
  | a :: x, [] => by simp only [cmpP]; constructor; (intro h; omega); (intro h; cases h)
  | a :: x, b :: y => by
    simp only [cmpP]
    by_cases h : cmpS a b = 0
    · rw [if_neg (by simp [h]), ltP_iff x y]
      obtain rfl := cmpS_zero.1 h
      constructor
      · exact .tail
      · intro h2
        cases h2 with
        | head h3 => rw [sLt_irrefl] at h3; cases h3
        | tail h3 => exact h3
    · rw [if_pos h, cmpS_neg]
      constructor
      · exact .head
      · intro h2
        cases h2 with
        | head h3 => exact h3
        | tail h3 => exact absurd (cmpS_zero.2 rfl) h
theorem LtP.irrefl : ∀ {x : List ByteArray}, ¬ LtP x x
  | _, .head h => by rw [sLt_irrefl] at h; cases h
  | _, .tail h => h.irrefl
theorem LtP.trans : ∀ {x y z : List ByteArray}, LtP x y → LtP y z → LtP x z
  | _, _, _, .nil, .head _ => .nil
  | _, _, _, .nil, .tail _ => .nil
  | _, _, _, .head h, .head k => .head (sLt_trans h k)
  | _, _, _, .head h, .tail _ => .head h
  | _, _, _, .tail _, .head k => .head k
  | _, _, _, .tail h, .tail k => .tail (h.trans k)
theorem LtP.total : ∀ (x y : List ByteArray), LtP x y ∨ x = y ∨ LtP y x
  | [], [] => .inr (.inl rfl)
  | [], _ :: _ => .inl .nil
  | _ :: _, [] => .inr (.inr .nil)
  | a :: x, b :: y => by
    cases h1 : sLt a b with
    | true => exact .inl (.head h1)
    | false =>
      cases h2 : sLt b a with
      | true => exact .inr (.inr (.head h2))
      | false =>
        obtain rfl := sLt_total h1 h2
        rcases LtP.total x y with h | h | h
        · exact .inl (.tail h)
        · exact .inr (.inl (by rw [h]))
        · exact .inr (.inr (.tail h))
theorem split_inj {a b : ByteArray} (h : split a = split b) : a = b := by
  unfold split at h
  have h2 : partsL (lsB a) = partsL (lsB b) := by
    have := congrArg (List.map lsB) h
    simp only [List.map_map] at this
    have e : lsB ∘ mkB = id := by funext x; exact ls_mk x
    simpa [e] using this
  apply ls_inj
  have key : ∀ l : List UInt8, glueL 47 (partsL l) = l := by
    intro l
    unfold partsL
    split
    · rename_i e; subst e; rfl
    · exact glue_cut 47 l
  rw [← key (lsB a), ← key (lsB b), h2]
def PLt (a b : ByteArray) : Prop := LtP (split a) (split b)
theorem less_iff {a b : ByteArray} : less a b = true ↔ PLt a b := by unfold less PLt; simp [ltP_iff]
theorem PLt.trans {a b c : ByteArray} (h : PLt a b) (k : PLt b c) : PLt a c := LtP.trans h k
theorem PLt.irrefl {a : ByteArray} : ¬ PLt a a := LtP.irrefl
theorem PLt.total (a b : ByteArray) : PLt a b ∨ a = b ∨ PLt b a := by
  rcases LtP.total (split a) (split b) with h | h | h
  · exact .inl h
  · exact .inr (.inl (split_inj h))
  · exact .inr (.inr h)

/-- the paths of a list that may be rise -/
theorem fchk_rise : ∀ (l : List En) (prev : Option En) (dirs : ByteArray → Bool) (last : Int), fchk prev dirs last l = 0 → l.Pairwise (fun a b => PLt a.path b.path) ∧ ∀ p, prev = some p → ∀ e ∈ l, PLt p.path e.path := by
  intro l
  induction l with
  | nil => intro prev dirs last _; exact ⟨.nil, fun p _ e he => by cases he⟩
  | cons x r ih =>
    intro prev dirs last h
    unfold fchk at h
    by_cases h0 : aloneErr x ≠ 0
    · rw [if_pos h0] at h; exact absurd h h0
    rw [if_neg h0] at h
    by_cases h1 : prev.any (fun p => decide (x.path = p.path)) = true
    · rw [if_pos h1] at h; exact absurd h (by decide)
    rw [if_neg h1] at h
    by_cases h2 : prev.any (fun p => less x.path p.path) = true
    · rw [if_pos h2] at h; exact absurd h (by decide)
    rw [if_neg h2] at h
    by_cases h3 : dirs (parent x.path) = false
    · rw [if_pos h3] at h; exact absurd h (by decide)
    rw [if_neg h3] at h
    by_cases h4 : last + 1 < x.group
    · rw [if_pos h4] at h; exact absurd h (by decide)
    rw [if_neg h4] at h
    obtain ⟨i1, i2⟩ := ih _ _ _ h
    refine ⟨List.pairwise_cons.2 ⟨i2 x rfl, i1⟩, fun p hp e he => ?_⟩
    subst hp
    have hpx : PLt p.path x.path := by
      simp at h1 h2
      rcases PLt.total p.path x.path with h | h | h
      · exact h
      · exact absurd h.symm h1
      · exact absurd (less_iff.2 h) (by simp [h2])
    rcases List.mem_cons.1 he with he | he
    · subst he; exact hpx
    · exact hpx.trans (i2 x rfl e he)
theorem fl_rise {l : List En} (h : flErr l = 0) : l.Pairwise (fun a b => PLt a.path b.path) := (fchk_rise l _ _ _ h).1
theorem fl_dist {l : List En} (h : flErr l = 0) {i j : Nat} (hi : i < l.length) (hj : j < l.length) (e : l[i].path = l[j].path) : i = j := by
  have hp := List.pairwise_iff_getElem.1 (fl_rise h)
  rcases Nat.lt_trichotomy i j with hlt | rfl | hlt
  · have := hp i j hi hj hlt; rw [e] at this; exact absurd this PLt.irrefl
  · rfl
  · have := hp j i hj hi hlt; rw [e] at this; exact absurd this PLt.irrefl

/-! ### how many go -/
theorem kidsFrom_nodup (p : ByteArray) : ∀ (l : List En) (k : Nat), (kidsFrom p l k).Nodup
  | [], k => by simp [kidsFrom]
  | x :: l, k => by
    have ih := kidsFrom_nodup p l (k + 1)
    simp only [kidsFrom]
    split
    · refine List.nodup_cons.2 ⟨fun h => ?_, ih⟩
      have := (kidsFrom_mem p l (k + 1) k h).1
      omega
    · exact ih
def kidsAt (dst : List En) (i : Nat) : List Nat := match dst[i]? with | some e => kidsOf dst e.path | none => []
theorem kidsAt_lt {dst : List En} {i k : Nat} (h : k ∈ kidsAt dst i) : k < dst.length ∧ ∃ e f, dst[i]? = some e ∧ dst[k]? = some f ∧ parent f.path = e.path := by
  unfold kidsAt at h
  split at h
  · rename_i e he
    obtain ⟨_, f, hf, hp⟩ := kidsFrom_mem _ _ _ _ h
    rw [Nat.sub_zero] at hf
    exact ⟨(List.getElem?_eq_some_iff.1 hf).1, e, f, he, hf, hp⟩
  · cases h
theorem level_nodup {dst : List En} (hd : ∀ {i j : Nat} (hi : i < dst.length) (hj : j < dst.length), dst[i].path = dst[j].path → i = j) : ∀ (s : List Nat), s.Nodup → (s.flatMap (kidsAt dst)).Nodup
  | [], _ => by simp
  | i :: s, h => by
    obtain ⟨h1, h2⟩ := List.nodup_cons.1 h
    rw [List.flatMap_cons]
    refine List.nodup_append.2 ⟨?_, level_nodup hd s h2, ?_⟩
    · unfold kidsAt
      split
      · exact kidsFrom_nodup _ _ _
      · simp
    · intro a ha b hb e
      subst e
      obtain ⟨j, hj, hb'⟩ := List.mem_flatMap.1 hb
      obtain ⟨_, e1, f1, q1, q2, q3⟩ := kidsAt_lt ha
      obtain ⟨_, e2, f2, r1, r2, r3⟩ := kidsAt_lt hb'
      rw [q2] at r2
      injection r2 with r2
      subst r2
      obtain ⟨hi', rfl⟩ := List.getElem?_eq_some_iff.1 q1
      obtain ⟨hj', rfl⟩ := List.getElem?_eq_some_iff.1 r1
      have := hd hi' hj' (by rw [← q3, ← r3])
      subst this
      exact h1 hj
theorem nodup_len : ∀ {n : Nat} {s : List Nat}, s.Nodup → (∀ i ∈ s, i < n) → s.length ≤ n
  | 0, s, _, hlt => by
    cases s with
    | nil => simp
    | cons a s => exact absurd (hlt a (by simp)) (by omega)
  | n + 1, s, h, hlt => by
    by_cases hn : n ∈ s
    · have h1 := nodup_len (n := n) (s := s.erase n) (h.erase n) (fun i hi => by
        have := (List.Nodup.mem_erase_iff h).1 hi
        have := hlt i this.2
        omega)
      rw [List.length_erase_of_mem hn] at h1
      omega
    · have := nodup_len (n := n) (s := s) h (fun i hi => by
        have := hlt i hi
        have : i ≠ n := fun e => hn (e ▸ hi)
        omega)
      omega
theorem post_len {dst : List En} (why : List Int) (hd : ∀ {i j : Nat} (hi : i < dst.length) (hj : j < dst.length), dst[i].path = dst[j].path → i = j) : ∀ (f : Nat) (s : List Nat), s.Nodup → (∀ i ∈ s, i < dst.length) → (s.flatMap (postF dst why f)).length ≤ f * dst.length
  | 0, s, _, _ => by
    have : s.flatMap (postF dst why 0) = [] := by
      rw [List.flatMap_eq_nil_iff]
      intro i _
      rfl
    simp [this]
  | f + 1, s, h1, h2 => by
    have ih := post_len why hd f (s.flatMap (kidsAt dst)) (level_nodup hd s h1) (fun k hk => by
      obtain ⟨i, _, hi⟩ := List.mem_flatMap.1 hk
      exact (kidsAt_lt hi).1)
    have hs := nodup_len h1 h2
    have key : ∀ s : List Nat, (s.flatMap (postF dst why (f + 1))).length ≤ ((s.flatMap (kidsAt dst)).flatMap (postF dst why f)).length + s.length := by
      intro s
      induction s with
      | nil => simp
      | cons i s ih2 =>
        rw [List.flatMap_cons, List.flatMap_cons, List.flatMap_append, List.length_append, List.length_append, List.length_cons]
        have : (postF dst why (f + 1) i).length ≤ ((kidsAt dst i).flatMap (postF dst why f)).length + 1 := by
          unfold postF kidsAt
          split
          · rename_i he; simp [he]
          · rename_i e he
            simp only [he, List.length_append]
            split <;> simp
        omega
    have := key s
    rw [Nat.succ_mul]
    omega
theorem dropAll_len {src dst : List En} (rs : List Rl) (h : listsBad src dst = false) (hl : dst.length ≤ 60) : (dropAll src dst rs).length ≤ 1000000 := by
  have hok : flErr dst = 0 := by
    unfold listsBad at h
    simp at h
    exact h.2
  have := post_len (whyL src dst rs) (fun hi hj e => fl_dist hok hi hj e) 201 (kidsOf dst noB) (kidsFrom_nodup _ _ _) (fun k hk => by
    obtain ⟨_, f, hf, _⟩ := kidsFrom_mem _ _ _ _ hk
    rw [Nat.sub_zero] at hf
    exact (List.getElem?_eq_some_iff.1 hf).1)
  unfold dropAll postAll
  omega
end Go.Proofs.YtmgheamdboiklaaDoor
