/- PLAIN: what goes is each path that is kept for no reason, once, what is below ahead of what is above. No program in it. -/
import Derived.Test.YtmgheamdboiklaaDoorOrd
namespace Go.Proofs.YtmgheamdboiklaaDoor

/-! ### above and below -/
def Abv (q p : ByteArray) : Prop := split q <+: split p
theorem under_iff {p q : ByteArray} : under p q = true ↔ Abv q p := by
  unfold under Abv
  simp only [Bool.and_eq_true, decide_eq_true_eq]
  constructor
  · rintro ⟨h1, h2⟩
    exact ⟨(split p).drop (split q).length, by have := List.take_append_drop (split q).length (split p); rw [h2] at this; exact this⟩
  · rintro ⟨t, ht⟩
    rw [← ht]
    simp
theorem Abv.refl (p : ByteArray) : Abv p p := List.prefix_refl _
theorem Abv.trans {a b c : ByteArray} (h : Abv a b) (k : Abv b c) : Abv a c := List.IsPrefix.trans h k
theorem cutAt_last (c : UInt8) : ∀ (a b : List UInt8), c ∉ b → cutAt c (a ++ c :: b) = cutAt c a ++ [b]
  | [], b, hb => by
    have := cutAt_hit c [] b (by simp)
    simp only [List.nil_append] at this ⊢
    rw [this, cutAt_none c b hb]
    rfl
  | x :: a, b, hb => by
    have ih := cutAt_last c a b hb
    by_cases hx : x = c
    · subst hx
      have h1 := cutAt_hit x [] (a ++ x :: b) (by simp)
      have h2 := cutAt_hit x [] a (by simp)
      simp only [List.nil_append] at h1 h2
      rw [List.cons_append, h1, h2, ih]
      rfl
    · simp only [List.cons_append, cutAt, if_neg hx, ih]
      cases hc : cutAt c a with
      | nil => exact absurd hc (cutAt_ne c a)
      | cons y r => simp
theorem last_split {l : List UInt8} (h : (47 : UInt8) ∈ l) : ∃ a b, l = a ++ 47 :: b ∧ (47 : UInt8) ∉ b := by
  induction l with
  | nil => cases h
  | cons x l ih =>
    by_cases h2 : (47 : UInt8) ∈ l
    · obtain ⟨a, b, e, hb⟩ := ih h2
      exact ⟨x :: a, b, by rw [e]; rfl, hb⟩
    · rcases List.mem_cons.1 h with h | h
      · exact ⟨[], l, by rw [← h]; rfl, h2⟩
      · exact absurd h h2
theorem right_part {p x : ByteArray} (h : right p = true) (hx : x ∈ split p) : x ≠ noB := by
  unfold right at h
  simp only [Bool.and_eq_true] at h
  have := List.all_eq_true.1 h.1 x hx
  unfold partOk at this
  simp at this
  exact this.1.1.1.1
theorem split_parent {p : ByteArray} (h : right p = true) : split (parent p) = (split p).dropLast := by
  by_cases hm : (47 : UInt8) ∈ lsB p
  · obtain ⟨a, b, e, hb⟩ := last_split hm
    have ha : a ≠ [] := by
      intro ha
      subst ha
      have : mkB [] ∈ split p := by
        unfold split partsL
        rw [e, if_neg (by simp), cutAt_last 47 [] b hb]
        simp [cutAt]
      exact right_part h this rfl
    unfold split parent
    rw [ls_mk, e, (parentL_some hb).1]
    unfold partsL
    rw [if_neg ha, if_neg (by simp), cutAt_last 47 a b hb]
    simp
  · unfold split parent
    rw [ls_mk, (parentL_none hm).1]
    have : partsL (lsB p) = [lsB p] ∨ partsL (lsB p) = [] := by
      unfold partsL
      split
      · exact .inr rfl
      · exact .inl (cutAt_none 47 _ hm)
    rcases this with e | e <;> rw [e] <;> simp [partsL]
theorem split_ne {p : ByteArray} (h : p ≠ noB) : split p ≠ [] := by
  intro e
  exact h (split_inj (e.trans split_nil.symm))
theorem parent_abv {p : ByteArray} (h : right p = true) : Abv (parent p) p := by
  unfold Abv
  rw [split_parent h]
  exact List.dropLast_prefix _
theorem parent_len {p : ByteArray} (h : right p = true) (hne : p ≠ noB) : (split (parent p)).length + 1 = (split p).length := by
  rw [split_parent h, List.length_dropLast]
  have := List.length_pos_iff.2 (split_ne hne)
  omega

/-! ### the tree of a list that may be -/
structure Good (dst : List En) : Prop where
  own : ∀ e ∈ dst, right e.path = true ∧ e.path ≠ noB
  dist : ∀ {i j : Nat} (hi : i < dst.length) (hj : j < dst.length), dst[i].path = dst[j].path → i = j
  up : ∀ e ∈ dst, parent e.path = noB ∨ ∃ e' ∈ dst, e'.path = parent e.path
theorem fchk_up : ∀ (l : List En) (prev : Option En) (dirs : ByteArray → Bool) (last : Int), fchk prev dirs last l = 0 → ∀ e ∈ l, dirs (parent e.path) = true ∨ ∃ e' ∈ l, e'.path = parent e.path ∧ e'.kind = 2 := by
  intro l
  induction l with
  | nil => intro prev dirs last _ e he; cases he
  | cons x r ih =>
    intro prev dirs last h e he
    unfold fchk at h
    by_cases h0 : aloneErr x ≠ 0
    · rw [if_pos h0] at h; exact absurd h h0
    rw [if_neg h0] at h
    by_cases h1 : prev.any (fun p => decide (x.path = p.path)) = true
    · rw [if_pos h1] at h; exact absurd h (by decide)
    rw [if_neg h1] at h
    by_cases h2 : prev.any (fun p => less x.path p.path) = true
    · rw [if_pos h2] at h; exact absurd h (by decide)
    rw [if_neg h2] at h
    by_cases h3 : dirs (parent x.path) = false
    · rw [if_pos h3] at h; exact absurd h (by decide)
    rw [if_neg h3] at h
    by_cases h4 : last + 1 < x.group
    · rw [if_pos h4] at h; exact absurd h (by decide)
    rw [if_neg h4] at h
    rcases List.mem_cons.1 he with he | he
    · subst he; left; simpa using h3
    · rcases ih _ _ _ h e he with h5 | ⟨e', h5, h6⟩
      · simp only [Bool.or_eq_true, Bool.and_eq_true, decide_eq_true_eq] at h5
        rcases h5 with h5 | ⟨h5, h6⟩
        · exact .inl h5
        · exact .inr ⟨x, by simp, h6.symm, h5⟩
      · exact .inr ⟨e', by simp [h5], h6⟩
theorem fl_good {l : List En} (h : flErr l = 0) : Good l := by
  refine ⟨fun e he => alone_path (fl_all h e he), fun hi hj e => fl_dist h hi hj e, fun e he => ?_⟩
  rcases fchk_up l _ _ _ h e he with h1 | ⟨e', h1, h2, _⟩
  · left; simpa using h1
  · exact .inr ⟨e', h1, h2⟩

/-- all that stands in a tree, what is below first -/
def idxF (dst : List En) : Nat → Nat → List Nat
  | 0, _ => []
  | f + 1, i => (kidsAt dst i).flatMap (idxF dst f) ++ (if i < dst.length then [i] else [])
def goesAt (dst : List En) (why : List Int) (i : Nat) : List ByteArray := match dst[i]? with
  | some e => if why[i]? = some 0 then [e.path] else []
  | none => []
theorem postF_idx (dst : List En) (why : List Int) : ∀ (f i : Nat), postF dst why f i = (idxF dst f i).flatMap (goesAt dst why)
  | 0, i => rfl
  | f + 1, i => by
    unfold postF idxF
    cases he : dst[i]? with
    | none =>
      have : ¬ i < dst.length := by intro q; rw [List.getElem?_eq_getElem q] at he; cases he
      simp [this, kidsAt, he]
    | some e =>
      have hi := (List.getElem?_eq_some_iff.1 he).1
      simp only [if_pos hi, List.flatMap_append, kidsAt, he]
      congr 1
      · rw [List.flatMap_assoc]
        congr 1
        funext k
        exact postF_idx dst why f k
      · simp [goesAt, he]
def idxAll (dst : List En) : List Nat := (kidsOf dst noB).flatMap (idxF dst 201)
theorem postAll_idx (dst : List En) (why : List Int) : postAll dst why = (idxAll dst).flatMap (goesAt dst why) := by
  unfold postAll idxAll
  rw [List.flatMap_assoc]
  congr 1
  funext k
  exact postF_idx dst why 201 k
def pth (dst : List En) (i : Nat) : ByteArray := match dst[i]? with | some e => e.path | none => noB
theorem pth_at {dst : List En} {i : Nat} (h : i < dst.length) : pth dst i = dst[i].path := by simp [pth, h]
def NotUp (dst : List En) (x y : Nat) : Prop := ¬ Abv (pth dst x) (pth dst y)
theorem kid_facts {dst : List En} (g : Good dst) {p : ByteArray} {k : Nat} (h : k ∈ kidsOf dst p) : k < dst.length ∧ parent (pth dst k) = p ∧ right (pth dst k) = true ∧ pth dst k ≠ noB := by
  obtain ⟨_, e, he, hp⟩ := kidsFrom_mem _ _ _ _ h
  rw [Nat.sub_zero] at he
  obtain ⟨hk, rfl⟩ := List.getElem?_eq_some_iff.1 he
  rw [pth_at hk]
  exact ⟨hk, hp, g.own _ (List.getElem_mem hk)⟩
theorem kidsAt_eq {dst : List En} {i : Nat} (h : i < dst.length) : kidsAt dst i = kidsOf dst (pth dst i) := by simp [kidsAt, pth, h]
theorem kidsAt_no {dst : List En} {i : Nat} (h : ¬ i < dst.length) : kidsAt dst i = [] := by simp [kidsAt, List.getElem?_eq_none (Nat.le_of_not_lt h)]
theorem idx_under {dst : List En} (g : Good dst) : ∀ (f i x : Nat), x ∈ idxF dst f i → x < dst.length ∧ i < dst.length ∧ Abv (pth dst i) (pth dst x)
  | 0, i, x, h => by cases h
  | f + 1, i, x, h => by
    unfold idxF at h
    rcases List.mem_append.1 h with h | h
    · obtain ⟨k, hk, hx⟩ := List.mem_flatMap.1 h
      have hi : i < dst.length := by
        rcases Nat.lt_or_ge i dst.length with q | q
        · exact q
        · rw [kidsAt_no (by omega)] at hk; cases hk
      rw [kidsAt_eq hi] at hk
      obtain ⟨hk1, hk2, hk3, hk4⟩ := kid_facts g hk
      obtain ⟨h1, _, h2⟩ := idx_under g f k x hx
      refine ⟨h1, hi, Abv.trans ?_ h2⟩
      rw [← hk2]
      exact parent_abv hk3
    · split at h
      · rename_i hi
        simp at h
        subst h
        exact ⟨hi, hi, Abv.refl _⟩
      · cases h
/-- siblings do not stand above a common path -/
theorem sib_apart {dst : List En} (g : Good dst) {p y : ByteArray} {k k' : Nat} (hk : k ∈ kidsOf dst p) (hk' : k' ∈ kidsOf dst p) (h1 : Abv (pth dst k) y) (h2 : Abv (pth dst k') y) : k = k' := by
  obtain ⟨a1, a2, a3, a4⟩ := kid_facts g hk
  obtain ⟨b1, b2, b3, b4⟩ := kid_facts g hk'
  have l1 := parent_len a3 a4
  have l2 := parent_len b3 b4
  rw [a2] at l1
  rw [b2] at l2
  have : split (pth dst k) = split (pth dst k') := by
    unfold Abv at h1 h2
    rw [List.prefix_iff_eq_take] at h1 h2
    rw [h1, h2, ← l1, ← l2]
  have e := split_inj this
  rw [pth_at a1, pth_at b1] at e
  exact g.dist a1 b1 e
theorem kids_pair {dst : List En} (p : ByteArray) : (kidsOf dst p).Pairwise (· ≠ ·) := kidsFrom_nodup p dst 0
theorem level_pair {dst : List En} (g : Good dst) (f : Nat) (hf : ∀ k, (idxF dst f k).Pairwise (NotUp dst)) (p : ByteArray) : ((kidsOf dst p).flatMap (idxF dst f)).Pairwise (NotUp dst) := by
  have key : ∀ s : List Nat, (∀ k ∈ s, k ∈ kidsOf dst p) → s.Pairwise (· ≠ ·) → (s.flatMap (idxF dst f)).Pairwise (NotUp dst) := by
    intro s
    induction s with
    | nil => intro _ _; simp
    | cons k s ih =>
      intro hs hp
      obtain ⟨hp1, hp2⟩ := List.pairwise_cons.1 hp
      rw [List.flatMap_cons]
      refine List.pairwise_append.2 ⟨hf k, ih (fun j hj => hs j (by simp [hj])) hp2, fun x hx y hy hxy => ?_⟩
      obtain ⟨k', hk', hy'⟩ := List.mem_flatMap.1 hy
      have u1 := (idx_under g f k x hx).2.2
      have u2 := (idx_under g f k' y hy').2.2
      exact hp1 k' hk' (sib_apart g (hs k (by simp)) (hs k' (by simp [hk'])) (u1.trans hxy) u2)
  exact key _ (fun k hk => hk) (kids_pair p)
theorem idx_pair {dst : List En} (g : Good dst) : ∀ (f i : Nat), (idxF dst f i).Pairwise (NotUp dst)
  | 0, i => by simp [idxF]
  | f + 1, i => by
    unfold idxF
    by_cases hi : i < dst.length
    · rw [if_pos hi, kidsAt_eq hi]
      refine List.pairwise_append.2 ⟨level_pair g f (idx_pair g f) _, by simp, fun x hx y hy hxy => ?_⟩
      simp at hy
      subst hy
      obtain ⟨k, hk, hx'⟩ := List.mem_flatMap.1 hx
      obtain ⟨h1, h2, h3⟩ := idx_under g f k x hx'
      obtain ⟨_, k2, k3, k4⟩ := kid_facts g hk
      have l1 := parent_len k3 k4
      rw [k2] at l1
      have l2 := (h3.trans hxy).length_le
      omega
    · rw [if_neg hi, kidsAt_no hi]
      simp
theorem idxAll_pair {dst : List En} (g : Good dst) : (idxAll dst).Pairwise (NotUp dst) := level_pair g 201 (idx_pair g 201) noB
theorem idxAll_lt {dst : List En} (g : Good dst) {i : Nat} (h : i ∈ idxAll dst) : i < dst.length := by
  obtain ⟨k, _, hx⟩ := List.mem_flatMap.1 h
  exact (idx_under g 201 k i hx).1
theorem idxAll_nodup {dst : List En} (g : Good dst) : (idxAll dst).Nodup := (idxAll_pair g).imp fun h e => by subst e; exact h (Abv.refl _)
theorem kid_of {dst : List En} {j : Nat} (hj : j < dst.length) : j ∈ kidsOf dst (parent (pth dst j)) := by
  have key : ∀ (l : List En) (k j : Nat) (e : En), l[j]? = some e → k + j ∈ kidsFrom (parent e.path) l k := by
    intro l
    induction l with
    | nil => intro k j e h; simp at h
    | cons x l ih =>
      intro k j e h
      cases j with
      | zero => simp at h; subst h; simp [kidsFrom]
      | succ j =>
        simp at h
        have := ih (k + 1) j e h
        rw [show k + (j + 1) = k + 1 + j by omega]
        unfold kidsFrom
        split
        · simp [this]
        · exact this
  have := key dst 0 j _ (List.getElem?_eq_getElem hj)
  rw [Nat.zero_add] at this
  rw [pth_at hj]
  exact this
theorem idx_grow {dst : List En} (g : Good dst) {i j : Nat} (hi : i < dst.length) (hj : j ∈ kidsOf dst (pth dst i)) : ∀ (f r : Nat), i ∈ idxF dst f r → 200 < (pth dst r).size + f → j ∈ idxF dst f r
  | 0, r, h, _ => by cases h
  | f + 1, r, h, hf => by
    have hr := (idx_under g _ _ _ h).2.1
    unfold idxF at h ⊢
    rw [kidsAt_eq hr] at h ⊢
    apply List.mem_append_left
    rcases List.mem_append.1 h with h | h
    · obtain ⟨k, hk, hx⟩ := List.mem_flatMap.1 h
      obtain ⟨k1, k2, k3, k4⟩ := kid_facts g hk
      have := parent_lt k4
      rw [k2] at this
      exact List.mem_flatMap.2 ⟨k, hk, idx_grow g hi hj f k hx (by omega)⟩
    · rw [if_pos hr] at h
      simp at h
      subst h
      refine List.mem_flatMap.2 ⟨j, hj, ?_⟩
      obtain ⟨k1, k2, k3, k4⟩ := kid_facts g hj
      have h1 := parent_lt k4
      have h2 := right_size k3
      rw [k2] at h1
      obtain ⟨f', rfl⟩ : ∃ f', f = f' + 1 := ⟨f - 1, by omega⟩
      unfold idxF
      rw [if_pos k1]
      simp
theorem idxAll_all {dst : List En} (g : Good dst) : ∀ (m j : Nat) (hj : j < dst.length), (pth dst j).size ≤ m → j ∈ idxAll dst := by
  intro m
  induction m with
  | zero =>
    intro j hj hm
    have := (g.own _ (List.getElem_mem hj)).2
    rw [pth_at hj] at hm
    have h0 : (lsB dst[j].path).length = 0 := by rw [ls_len]; omega
    exact absurd (ls_inj (by rw [List.eq_nil_of_length_eq_zero h0]; rfl)) this
  | succ m ih =>
    intro j hj hm
    obtain ⟨o1, o2⟩ := g.own _ (List.getElem_mem hj)
    have hk := kid_of hj
    have hlt := parent_lt o2
    rw [pth_at hj] at hm hk
    rcases g.up _ (List.getElem_mem hj) with h | ⟨e', he', hp⟩
    · rw [h] at hk
      refine List.mem_flatMap.2 ⟨j, hk, ?_⟩
      unfold idxF
      rw [if_pos hj]
      simp
    · obtain ⟨i, hi'⟩ := List.mem_iff_getElem?.1 he'
      obtain ⟨hi, rfl⟩ := List.getElem?_eq_some_iff.1 hi'
      have hpi : pth dst i = parent dst[j].path := by rw [pth_at hi]; exact hp
      obtain ⟨r, hr, hx⟩ := List.mem_flatMap.1 (ih i hi (by rw [hpi]; omega))
      refine List.mem_flatMap.2 ⟨r, hr, idx_grow g hi (by rw [hpi]; exact hk) 201 r hx (by omega)⟩
end Go.Proofs.YtmgheamdboiklaaDoor
