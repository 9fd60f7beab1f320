/- PLAIN: the directories seen so far, by a search through the list. No program in it. -/
import Derived.Test.YtjcbnohnilffoaaOrd3
set_option linter.unusedVariables false
set_option linter.unusedSimpArgs false
namespace Go.Proofs.Ytjcbnohnilffoaa

def dirsOf (pre : List En) (s : ByteArray) : Bool := decide (s = noB) || pre.any (fun e => decide (e.kind = 2) && decide (s = e.path))
def upOk (pre : List En) (s : ByteArray) : Bool := decide (s = noB) || (match findF s pre 0 with | some k => (match pre[k]? with | some e => decide (e.kind = 2) | none => false) | none => false)
theorem dirsOf_snoc (pre : List En) (x : En) (s : ByteArray) : dirsOf (pre ++ [x]) s = (dirsOf pre s || (decide (x.kind = 2) && decide (s = x.path))) := by
  unfold dirsOf
  rw [List.any_append, List.any_cons, List.any_nil, Bool.or_false, Bool.or_assoc]
theorem upOk_eq {pre : List En} (hd : ∀ {i j : Nat} (hi : i < pre.length) (hj : j < pre.length), pre[i].path = pre[j].path → i = j) (s : ByteArray) : upOk pre s = dirsOf pre s := by
  unfold upOk dirsOf
  congr 1
  cases hf : findF s pre 0 with
  | none =>
    simp only
    symm
    rw [List.any_eq_false]
    intro e he
    have : ∀ (l : List En) (k : Nat), findF s l k = none → ∀ e ∈ l, e.path ≠ s := by
      intro l
      induction l with
      | nil => intro k _ e he; cases he
      | cons x l ih =>
        intro k h e he
        unfold findF at h
        split at h
        · cases h
        · rename_i hx
          rcases List.mem_cons.1 he with he | he
          · subst he; exact hx
          · exact ih _ h e he
    have h := this pre 0 hf e he
    simp
    exact fun _ q => h q.symm
  | some k =>
    obtain ⟨_, e, he, hp⟩ := findF_ge _ _ _ _ hf
    rw [Nat.sub_zero] at he
    obtain ⟨hk, hke⟩ := List.getElem?_eq_some_iff.1 he
    simp only [he]
    by_cases h2 : e.kind = 2
    · rw [decide_eq_true h2]
      symm
      rw [List.any_eq_true]
      exact ⟨e, List.mem_iff_getElem?.2 ⟨k, he⟩, by simp [h2, hp]⟩
    · rw [decide_eq_false h2]
      symm
      rw [List.any_eq_false]
      intro f hfm
      obtain ⟨j, hj⟩ := List.mem_iff_getElem?.1 hfm
      obtain ⟨hj', hje⟩ := List.getElem?_eq_some_iff.1 hj
      by_cases e2 : s = f.path
      · have : k = j := hd hk hj' (by rw [hke, hje, hp, e2])
        subst this
        rw [hke] at hje
        subst hje
        simp [h2]
      · simp [e2]
end Go.Proofs.Ytjcbnohnilffoaa
