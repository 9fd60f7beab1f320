/- PLAIN: paths as parts: joined, ahead parts, above. No program in it. -/
import Derived.Test.YtmgheamdboiklaaDoorRo
set_option linter.unusedVariables false
set_option linter.unusedSimpArgs false
namespace Go.Proofs.YtmgheamdboiklaaDoor

theorem part_noslash {p x : ByteArray} (hx : x ∈ split p) : (47 : UInt8) ∉ lsB x := by
  unfold split at hx
  obtain ⟨y, hy, rfl⟩ := List.mem_map.1 hx
  rw [ls_mk]
  unfold partsL at hy
  split at hy
  · cases hy
  · exact cutAt_mem _ _ _ hy
theorem cut_glue : ∀ (l : List (List UInt8)), l ≠ [] → (∀ x ∈ l, (47 : UInt8) ∉ x) → cutAt 47 (glueL 47 l) = l
  | [x], _, h => by simp only [glueL]; exact cutAt_none _ _ (h x (by simp))
  | x :: y :: l, _, h => by
    have ih := cut_glue (y :: l) (by simp) (fun z hz => h z (by simp [hz]))
    simp only [glueL]
    rw [cutAt_hit _ _ _ (h x (by simp)), ih]
def joinP (l : List ByteArray) : ByteArray := mkB (glueL 47 (l.map lsB))
theorem joinP_split (p : ByteArray) : joinP (split p) = p := by
  unfold joinP split
  rw [List.map_map]
  have : lsB ∘ mkB = id := by funext x; exact ls_mk x
  rw [this, List.map_id]
  unfold partsL
  split
  · rename_i h
    show mkB [] = p
    rw [← h, mk_ls]
  · rw [glue_cut, mk_ls]
theorem split_joinP {l : List ByteArray} (h : ∀ x ∈ l, (47 : UInt8) ∉ lsB x ∧ x ≠ noB) : split (joinP l) = l := by
  cases l with
  | nil => exact split_nil
  | cons a r =>
    have hne : (a :: r).map lsB ≠ [] := by simp
    have hc := cut_glue ((a :: r).map lsB) hne (fun x hx => by
      obtain ⟨y, hy, rfl⟩ := List.mem_map.1 hx
      exact (h y hy).1)
    have hg : glueL 47 ((a :: r).map lsB) ≠ [] := by
      intro e
      rw [e] at hc
      have : cutAt 47 ([] : List UInt8) = [[]] := rfl
      rw [this] at hc
      have h1 := congrArg List.length hc
      simp at h1
      subst h1
      simp at hc
      exact (h a (by simp)).2 (ls_inj (by rw [hc]; rfl))
    unfold joinP split
    rw [ls_mk, partsL, if_neg hg, hc, List.map_map]
    have : mkB ∘ lsB = id := by funext x; exact mk_ls x
    rw [this, List.map_id]
theorem right_parts {p x : ByteArray} (h : right p = true) (hx : x ∈ split p) : (47 : UInt8) ∉ lsB x ∧ x ≠ noB := ⟨part_noslash hx, right_part h hx⟩
theorem right_len {p : ByteArray} (h : right p = true) : (split p).length ≤ 12 := by
  unfold right at h
  simp only [Bool.and_eq_true, decide_eq_true_eq] at h
  omega
/-- the first k parts -/
def preP (p : ByteArray) (k : Nat) : ByteArray := joinP ((split p).take k)
theorem split_preP {p : ByteArray} (h : right p = true) (k : Nat) : split (preP p k) = (split p).take k := split_joinP fun x hx => right_parts h (List.mem_of_mem_take hx)
theorem preP_zero (p : ByteArray) : preP p 0 = noB := rfl
theorem preP_all {p : ByteArray} {k : Nat} (h : (split p).length ≤ k) : preP p k = p := by rw [preP, List.take_of_length_le h, joinP_split]
theorem glue_take_le : ∀ (l : List (List UInt8)) (k : Nat), (glueL 47 (l.take k)).length ≤ (glueL 47 l).length
  | [], k => by simp
  | [x], 0 => by simp [glueL]
  | [x], k + 1 => by simp
  | x :: y :: l, 0 => by simp [glueL]
  | x :: y :: l, 1 => by simp [glueL]
  | x :: y :: l, k + 2 => by
    have := glue_take_le (y :: l) (k + 1)
    simp only [List.take_succ_cons, glueL, List.length_append, List.length_cons] at this ⊢
    omega
theorem right_preP {p : ByteArray} (h : right p = true) (k : Nat) : right (preP p k) = true := by
  have hs := split_preP h k
  unfold right at h ⊢
  simp only [Bool.and_eq_true, decide_eq_true_eq, List.all_eq_true] at h ⊢
  rw [hs]
  refine ⟨fun x hx => h.1 x (List.mem_of_mem_take hx), ?_, ?_⟩
  · have : ((split p).take k).length ≤ (split p).length := by rw [List.length_take]; omega
    omega
  · have h1 : (preP p k).size ≤ p.size := by
      conv => rhs; rw [← joinP_split p]
      unfold preP joinP
      rw [mk_size, mk_size, List.map_take]
      exact glue_take_le _ _
    omega
theorem base_last {p : ByteArray} (hne : p ≠ noB) : ∀ h, base p = (split p).getLast h := by
  intro h
  by_cases hm : (47 : UInt8) ∈ lsB p
  · obtain ⟨a, b, e, hb⟩ := last_split hm
    have hpar := parentL_some hb (a := a)
    have hnil : a ++ 47 :: b ≠ [] := by simp
    have hs : split p = (cutAt 47 a).map mkB ++ [mkB b] := by
      unfold split partsL
      rw [e, if_neg hnil, cutAt_last 47 a b hb]
      simp
    have hl : (split p).getLast h = mkB b := by simp [hs]
    rw [hl, base, e, hpar.2]
  · have hpar := parentL_none hm
    have hnil : lsB p ≠ [] := fun e => hne (ls_inj (by rw [e]; rfl))
    have hs : split p = [p] := by
      unfold split partsL
      rw [if_neg hnil, cutAt_none 47 _ hm]
      simp [mk_ls]
    have hl : (split p).getLast h = p := by simp [hs]
    rw [hl, base, hpar.2, mk_ls]
theorem split_snoc {p : ByteArray} (h : right p = true) (hne : p ≠ noB) : split p = split (parent p) ++ [base p] := by
  rw [split_parent h, base_last hne (split_ne hne), List.dropLast_concat_getLast]
theorem pb_inj {p q : ByteArray} (hp : right p = true) (hq : right q = true) (h1 : p ≠ noB) (h2 : q ≠ noB) (e1 : parent p = parent q) (e2 : base p = base q) : p = q :=
  split_inj (by rw [split_snoc hp h1, split_snoc hq h2, e1, e2])
theorem preP_succ {p : ByteArray} (h : right p = true) {k : Nat} (hk : k < (split p).length) : parent (preP p (k + 1)) = preP p k ∧ base (preP p (k + 1)) = (split p)[k] ∧ preP p (k + 1) ≠ noB := by
  have hs := split_preP h (k + 1)
  have hne : preP p (k + 1) ≠ noB := fun e => by
    rw [e] at hs
    have h1 := congrArg List.length hs
    rw [show split noB = [] from split_nil, List.length_take, List.length_nil] at h1
    omega
  refine ⟨split_inj ?_, ?_, hne⟩
  · rw [split_parent (right_preP h _), hs, split_preP h, List.take_succ_eq_append_getElem hk, List.dropLast_concat]
  · rw [base_last hne (split_ne hne)]
    simp only [hs, List.take_succ_eq_append_getElem hk, List.getLast_concat]
theorem right_parent {p : ByteArray} (h : right p = true) : right (parent p) = true := by
  by_cases hne : p = noB
  · subst hne; rfl
  · have hl : (split p).length ≠ 0 := fun e => split_ne hne (List.eq_nil_of_length_eq_zero e)
    have : parent p = preP p ((split p).length - 1) := split_inj (by rw [split_parent h, split_preP h, List.dropLast_eq_take])
    rw [this]; exact right_preP h _
/-- a directory's path, as it stands ahead of what is in it -/
def pfx (q : ByteArray) : ByteArray := if q = noB then noB else q ++ mkB [47]
theorem pfx_base {c : ByteArray} (h : right c = true) (hne : c ≠ noB) : c = pfx (parent c) ++ base c := by
  by_cases hm : (47 : UInt8) ∈ lsB c
  · obtain ⟨a, b, e, hb⟩ := last_split hm
    have hpar := parentL_some hb (a := a)
    have hpc : parent c = mkB a := by rw [parent, e, hpar.1]
    have hpb : base c = mkB b := by rw [base, e, hpar.2]
    have hane : mkB a ≠ noB := by
      intro q
      have h1 := parent_len h hne
      have : a = [] := by have := congrArg lsB q; rw [ls_mk] at this; exact this
      subst this
      -- then the first part is empty
      have hs : split c = [mkB [], mkB b] := by
        unfold split partsL
        rw [if_neg (by rw [e]; simp), e, cutAt_last 47 [] b hb]
        rfl
      exact right_part h (x := mkB []) (by rw [hs]; simp) rfl
    rw [hpc, hpb, pfx, if_neg hane]
    apply ls_inj
    rw [ls_append, ls_append, ls_mk, ls_mk, ls_mk, e]
    simp
  · have hpar := parentL_none hm
    have hpc : parent c = noB := by rw [parent, hpar.1]; rfl
    have hpb : base c = c := by rw [base, hpar.2, mk_ls]
    rw [hpc, hpb, pfx, if_pos rfl]
    apply ls_inj
    rw [ls_append]; simp [lsB]
theorem base_part {c : ByteArray} (h : right c = true) (hne : c ≠ noB) : partOk (base c) = true := by
  have hs := split_snoc h hne
  unfold right at h
  simp only [Bool.and_eq_true, List.all_eq_true] at h
  exact h.1 _ (by rw [hs]; simp)
end Go.Proofs.YtmgheamdboiklaaDoor
