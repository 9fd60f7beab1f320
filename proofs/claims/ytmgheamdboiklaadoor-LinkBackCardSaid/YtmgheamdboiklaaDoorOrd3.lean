/- PLAIN: the law of what goes. No program in it. -/
import Derived.Test.YtmgheamdboiklaaDoorOrd2
namespace Go.Proofs.YtmgheamdboiklaaDoor

theorem findF_at (dst : List En) (hd : ∀ {i j : Nat} (hi : i < dst.length) (hj : j < dst.length), dst[i].path = dst[j].path → i = j) {i : Nat} (hi : i < dst.length) : findF dst[i].path dst 0 = some i := by
  cases h : findF dst[i].path dst 0 with
  | some k =>
    obtain ⟨_, e, he, hp⟩ := findF_ge _ _ _ _ h
    rw [Nat.sub_zero] at he
    obtain ⟨hk, rfl⟩ := List.getElem?_eq_some_iff.1 he
    rw [hd hk hi hp]
  | none =>
    exfalso
    have key : ∀ (l : List En) (k : Nat) (p : ByteArray), findF p l k = none → ∀ e ∈ l, e.path ≠ p := by
      intro l
      induction l with
      | nil => intro k p _ e he; cases he
      | cons x l ih =>
        intro k p h e he
        unfold findF at h
        split at h
        · cases h
        · rename_i hx
          rcases List.mem_cons.1 he with he | he
          · subst he; exact hx
          · exact ih _ _ h e he
    exact key dst 0 _ h _ (List.getElem_mem hi) rfl
theorem srcM_none {src : List En} {p : ByteArray} (h : ∀ e ∈ src, e.path ≠ p) : srcM src p = none := by
  have key : ∀ (l : List En) (m : ByteArray → Option En), m p = none → (∀ e ∈ l, e.path ≠ p) → (l.foldl (fun m e s => if s = e.path then some e else m s) m) p = none := by
    intro l
    induction l with
    | nil => intro m hm _; exact hm
    | cons x l ih =>
      intro m hm hl
      rw [List.foldl_cons]
      refine ih _ ?_ (fun e he => hl e (by simp [he]))
      have := hl x (by simp)
      show (if p = x.path then some x else m p) = none
      rw [if_neg (fun q => this q.symm)]
      exact hm
  exact key src _ rfl h
theorem srcM_some {src : List En} {k : Nat} (hd : ∀ {i j : Nat} (hi : i < src.length) (hj : j < src.length), src[i].path = src[j].path → i = j) (hk : k < src.length) : srcM src src[k].path = some src[k] := by
  have key : ∀ n, n ≤ src.length → k < n → srcM (src.take n) src[k].path = some src[k] := by
    intro n
    induction n with
    | zero => intro _ h; omega
    | succ n ih =>
      intro hn hkn
      rw [List.take_succ_eq_append_getElem (show n < src.length by omega), srcM_snoc]
      by_cases e : k = n
      · subst e; rw [if_pos rfl]
      · rw [if_neg (fun q => e (hd hk (by omega) q)), ih (by omega) (by omega)]
  have := key src.length (Nat.le_refl _) hk
  rwa [List.take_length] at this
theorem there_of {src : List En} (hd : ∀ {i j : Nat} (hi : i < src.length) (hj : j < src.length), src[i].path = src[j].path → i = j) {e : En} {k : Nat} (hf : findF e.path src 0 = some k) (hk : k < src.length) : there src e = (isDir src[k] == isDir e) := by
  obtain ⟨_, x, hx, hp⟩ := findF_ge _ _ _ _ hf
  rw [Nat.sub_zero] at hx
  obtain ⟨_, rfl⟩ := List.getElem?_eq_some_iff.1 hx
  unfold there
  rw [← hp, srcM_some hd hk]
theorem whyR_zero {src : List En} {rs : List Rl} {kidn : ByteArray → Nat} : ∀ {l : List En} {i : Nat} {e : En}, l[i]? = some e → (whyR src rs kidn l)[i]? = some 0 → why0 src rs e = 0
  | [], i, e, h, _ => by simp at h
  | x :: l, 0, e, h, hw => by
    simp at h
    subst h
    simp only [whyR, List.getElem?_cons_zero, Option.some.injEq] at hw
    split at hw
    · exact absurd hw (by decide)
    · exact hw
  | x :: l, i + 1, e, h, hw => by
    simp only [whyR, List.getElem?_cons_succ] at h hw
    exact whyR_zero h hw
theorem why0_parts {src : List En} {rs : List Rl} {e : En} (h : why0 src rs e = 0) : there src e = false ∧ rlHid rs e.path (isDir e) = false ∧ rlSafe rs e.path (isDir e) = false := by
  unfold why0 whyB at h
  split at h
  · exact absurd h (by decide)
  · rename_i h1
    split at h
    · exact absurd h (by decide)
    · rename_i h2
      split at h
      · exact absurd h (by decide)
      · rename_i h3
        exact ⟨by simpa using h1, by simpa using h2, by simpa using h3⟩

/-- what goes, by its numbers -/
def goneIx (dst : List En) (why : List Int) : List Nat := (idxAll dst).filter fun i => decide (why[i]? = some 0)
theorem gone_map {dst : List En} (g : Good dst) (why : List Int) : postAll dst why = (goneIx dst why).map (pth dst) := by
  rw [postAll_idx, goneIx]
  have key : ∀ l : List Nat, (∀ i ∈ l, i < dst.length) → l.flatMap (goesAt dst why) = (l.filter fun i => decide (why[i]? = some 0)).map (pth dst) := by
    intro l
    induction l with
    | nil => intro _; rfl
    | cons i l ih =>
      intro hl
      have hi := hl i (by simp)
      rw [List.flatMap_cons, ih (fun j hj => hl j (by simp [hj])), List.filter_cons]
      unfold goesAt
      rw [List.getElem?_eq_getElem hi]
      by_cases h : why[i]? = some 0
      · simp [h, pth_at hi]
      · simp [h]
  exact key _ (fun i hi => idxAll_lt g hi)
theorem goneIx_at {dst : List En} (g : Good dst) {why : List Int} {i : Nat} (h : i ∈ goneIx dst why) : i < dst.length ∧ why[i]? = some 0 := by
  unfold goneIx at h
  have := List.mem_filter.1 h
  exact ⟨idxAll_lt g this.1, by simpa using this.2⟩
theorem goneIx_pair {dst : List En} (g : Good dst) (why : List Int) : (goneIx dst why).Pairwise (NotUp dst) := (idxAll_pair g).filter _
theorem gone_len {dst : List En} (g : Good dst) {why : List Int} (hw : why.length = dst.length) : (postAll dst why).length = why.countP (fun w => decide (w = 0)) := by
  rw [gone_map g, List.length_map, goneIx, ← List.countP_eq_length_filter]
  have hp : (idxAll dst).Perm (List.range dst.length) := by
    refine (List.perm_ext_iff_of_nodup (idxAll_nodup g) List.nodup_range).2 fun i => ?_
    rw [List.mem_range]
    exact ⟨fun h => idxAll_lt g h, fun h => idxAll_all g _ i h (Nat.le_refl _)⟩
  rw [hp.countP_eq]
  have e : why = (List.range dst.length).map (fun i => (why[i]?).getD 1) := by
    apply List.ext_getElem?
    intro i
    by_cases h : i < dst.length
    · have hi : i < why.length := by omega
      rw [List.getElem?_map, List.getElem?_range h, List.getElem?_eq_getElem hi]
      simp only [Option.map_some]
      rw [List.getElem?_eq_getElem hi]; rfl
    · rw [List.getElem?_eq_none (by omega), List.getElem?_eq_none (by simp; omega)]
  conv => rhs; rw [e, List.countP_map]
  apply List.countP_congr
  intro i hi
  have hi' := List.mem_range.1 hi
  have hi2 : i < why.length := by omega
  rw [List.getElem?_eq_getElem hi2]
  simp [List.getElem?_eq_getElem hi2]
/-- all that the law asks of a path that goes -/
structure GoneAt (src dst : List En) (rs : List Rl) (p : ByteArray) (at_ : Nat) : Prop where
  lt : at_ < dst.length
  path : (dst[at_]'lt).path = p
  find : findF p dst 0 = some at_
  kept : dropKept src dst rs p = (0, true)
  src : ∀ k (hk : k < src.length), findF p src 0 = some k → (decide ((src[k]'hk).kind = 2) == decide ((dst[at_]'lt).kind = 2)) = false
  hid : rlHid rs p (decide ((dst[at_]'lt).kind = 2)) = false
  safe : rlSafe rs p (decide ((dst[at_]'lt).kind = 2)) = false
theorem bad_split {src dst : List En} (h : listsBad src dst = false) : flErr src = 0 ∧ flErr dst = 0 := by
  unfold listsBad at h
  simpa using h
theorem gone_at {src dst : List En} {rs : List Rl} (hb : listsBad src dst = false) {i : Nat} (hi : i < (dropAll src dst rs).length) : ∃ at_, GoneAt src dst rs (dropAll src dst rs)[i] at_ := by
  obtain ⟨hs, hd⟩ := bad_split hb
  have g := fl_good hd
  have gs := fl_good hs
  have e : dropAll src dst rs = (goneIx dst (whyL src dst rs)).map (pth dst) := gone_map g _
  have hi2 : i < (goneIx dst (whyL src dst rs)).length := by rw [e, List.length_map] at hi; exact hi
  have ep : (dropAll src dst rs)[i] = pth dst (goneIx dst (whyL src dst rs))[i] := by simp only [e, List.getElem_map]
  obtain ⟨h1, h2⟩ := goneIx_at g (List.getElem_mem hi2)
  generalize (goneIx dst (whyL src dst rs))[i] = a at *
  rw [ep, pth_at h1]
  have hw0 := whyR_zero (List.getElem?_eq_getElem h1) h2
  obtain ⟨p1, p2, p3⟩ := why0_parts hw0
  have hf := findF_at dst g.dist h1
  refine ⟨a, h1, rfl, hf, ?_, fun k hk hfk => ?_, p2, p3⟩
  · rw [dropKept, if_neg (by simp [hb]), hf]
    simp only
    rw [List.getD, h2]; rfl
  · have := there_of gs.dist hfk hk
    rw [p1] at this
    exact this.symm
theorem gone_order {src dst : List En} {rs : List Rl} (hb : listsBad src dst = false) {i j : Nat} (hij : j < i) (hi : i < (dropAll src dst rs).length) : under (dropAll src dst rs)[i] (dropAll src dst rs)[j] = false := by
  obtain ⟨hs, hd⟩ := bad_split hb
  have g := fl_good hd
  have e : dropAll src dst rs = (goneIx dst (whyL src dst rs)).map (pth dst) := gone_map g _
  have hi2 : i < (goneIx dst (whyL src dst rs)).length := by rw [e, List.length_map] at hi; exact hi
  have h1 : (dropAll src dst rs)[i] = pth dst (goneIx dst (whyL src dst rs))[i] := by simp only [e, List.getElem_map]
  have h2 : (dropAll src dst rs)[j] = pth dst (goneIx dst (whyL src dst rs))[j] := by simp only [e, List.getElem_map]
  have hp := List.pairwise_iff_getElem.1 (goneIx_pair g (whyL src dst rs)) j i (by omega) hi2 hij
  rw [h1, h2]
  cases hu : under (pth dst (goneIx dst (whyL src dst rs))[i]) (pth dst (goneIx dst (whyL src dst rs))[j]) with
  | false => rfl
  | true => exact absurd (under_iff.1 hu) hp
theorem kept_at {src dst : List En} {rs : List Rl} (hb : listsBad src dst = false) {i : Nat} (hi : i < dst.length) (hw : i < (whyL src dst rs).length) : dropKept src dst rs dst[i].path = ((whyL src dst rs)[i], true) := by
  obtain ⟨hs, hd⟩ := bad_split hb
  have g := fl_good hd
  rw [dropKept, if_neg (by simp [hb]), findF_at dst g.dist hi]
  simp only
  rw [List.getD, List.getElem?_eq_getElem hw]; rfl
theorem gone_count {src dst : List En} {rs : List Rl} (hb : listsBad src dst = false) : (dropAll src dst rs).length = (whyL src dst rs).countP (fun w => decide (w = 0)) :=
  gone_len (fl_good (bad_split hb).2) (by rw [whyL, whyR_len])
end Go.Proofs.YtmgheamdboiklaaDoor
