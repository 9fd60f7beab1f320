/- THE TREE IN MEMORY: a name more, a name less, a name moved. -/
import Derived.Test.YtmgheamdboiklaaDoorPt
set_option linter.unusedVariables false
set_option linter.unusedSimpArgs false
namespace Go.Proofs.YtmgheamdboiklaaDoor
open Go.RowKit

section
variable {F : Ft}
theorem kidAt_iff (hF : Wf F) {q x : ByteArray} {t : Tg} : kidAt F.L q x = some t ↔ ∃ c, F.at_ c = some t ∧ c ≠ noB ∧ parent c = q ∧ base c = x := by
  constructor
  · intro h
    obtain ⟨c, h1, h2, h3, h4⟩ := kidAt_some h
    exact ⟨c, hF.at_of h1, h2, h3, h4⟩
  · rintro ⟨c, h1, h2, rfl, rfl⟩
    rw [hF.kid (hF.rt _ (atL_mem h1)) h2, h1]
theorem kidN_mem (hF : Wf F) {q x : ByteArray} : x ∈ kidN F.L q ↔ (kidAt F.L q x).isSome = true := by
  rw [Option.isSome_iff_exists]
  constructor
  · intro h
    obtain ⟨e, he, rfl⟩ := List.mem_map.1 h
    obtain ⟨h1, h2⟩ := List.mem_filter.1 he
    simp only [isKid, Bool.and_eq_true, Bool.not_eq_true', decide_eq_false_iff_not, decide_eq_true_eq] at h2
    exact ⟨e.2, (kidAt_iff hF).2 ⟨e.1, hF.at_of h1, h2.1, h2.2, rfl⟩⟩
  · rintro ⟨t, ht⟩
    obtain ⟨c, h1, h2, h3, rfl⟩ := (kidAt_iff hF).1 ht
    exact List.mem_map.2 ⟨(c, t), List.mem_filter.2 ⟨atL_mem h1, by simp [isKid, h2, h3]⟩, rfl⟩
theorem kidN_nodup (hF : Wf F) (q : ByteArray) : (kidN F.L q).Nodup := by
  unfold kidN kidsL
  have key : ∀ L : List Ent, (∀ e ∈ L, right e.1 = true) → (L.map (·.1)).Nodup → ((L.filter (isKid q)).map fun e => base e.1).Nodup := by
    intro L
    induction L with
    | nil => intro _ _; simp
    | cons e L ih =>
      intro hr hn
      rw [List.map_cons, List.nodup_cons] at hn
      have ih' := ih (fun x hx => hr x (by simp [hx])) hn.2
      rw [List.filter_cons]
      split
      · rename_i hk
        rw [List.map_cons, List.nodup_cons]
        refine ⟨fun hm => ?_, ih'⟩
        obtain ⟨e', he', hb⟩ := List.mem_map.1 hm
        obtain ⟨h1, h2⟩ := List.mem_filter.1 he'
        simp only [isKid, Bool.and_eq_true, Bool.not_eq_true', decide_eq_false_iff_not, decide_eq_true_eq] at h2 hk
        have := pb_inj (hr e' (by simp [h1])) (hr e (by simp)) h2.1 hk.1 (h2.2.trans hk.2.symm) hb
        exact hn.1 (this ▸ List.mem_map.2 ⟨e', h1, rfl⟩)
      · exact ih'
  exact key F.L hF.rt hF.nd
theorem nodup_perm {α : Type} {l m : List α} (h1 : l.Nodup) (h2 : m.Nodup) (h : ∀ x, x ∈ l ↔ x ∈ m) : l.Perm m := (List.perm_ext_iff_of_nodup h1 h2).2 h
theorem Mk.to_kid {w : World} {b : Nat} {m : ByteArray → Option Value} {ks : List ByteArray} (h : Mk w b m ks) (hF : Wf F) {bk : Int → Nat} {q : ByteArray} (hm : ∀ x, m x = kidM F.L bk q x) : Mk w b (kidM F.L bk q) (kidN F.L q) := by
  have h' := h.fun_ hm
  have hks : ks.Nodup := by obtain ⟨_, _, _, _, _, _, h5, _⟩ := h.out; exact h5
  refine h'.perm (nodup_perm hks (kidN_nodup hF q) fun x => ?_)
  rw [← h'.mem x, kidN_mem hF, kidM, Option.isSome_map]
theorem kid_none (hF : Wf F) {p : ByteArray} (hr : right p = true) (hne : p ≠ noB) (hat : F.at_ p = none) : kidAt F.L (parent p) (base p) = none := by rw [hF.kid hr hne, hat]
theorem opt_ext {α : Type} {a b : Option α} (h : ∀ x, a = some x ↔ b = some x) : a = b := by
  cases a with
  | none =>
    cases b with
    | none => rfl
    | some y => have := (h y).2 rfl; cases this
  | some x => exact ((h x).1 rfl).symm
theorem at_add (hF : Wf F) {p c : ByteArray} {t : Tg} (hat : F.at_ p = none) : (F.add p t).at_ c = if c = p then some { t with ino := F.next } else F.at_ c := atL_snoc _ _ _ _ (atL_none.1 hat)
theorem cnt_zero {L : List Ent} {k : Int} (h : ∀ e ∈ L, e.2.ino ≠ k) : cnt L k = 0 := by
  unfold cnt
  rw [List.countP_eq_zero]
  intro e he
  simpa using h e he
theorem cnt_snoc (L : List Ent) (e : Ent) (k : Int) : cnt (L ++ [e]) k = cnt L k + if e.2.ino = k then 1 else 0 := by
  unfold cnt
  rw [List.countP_append, List.countP_cons, List.countP_nil, Nat.zero_add]
  simp only [decide_eq_true_eq]
end
section
variable {w w' : World} {S S' : Nat → Prop} {bt : Nat} {F : Ft} {bk km : Int → Nat}
/-- a new thing -/
theorem PT.add (h : PT w S bt F bk km) (hF : Wf F) {p : ByteArray} {t : Tg} (hr : right p = true) (hne : p ≠ noB) (hat : F.at_ p = none) {d : Tg} (hd : F.at_ (parent p) = some d) (hdk : d.kind = 2)
    (hF' : Wf (F.add p t)) {nb mb : Nat} {dv : Value}
    (hT : Blk w' bt 65 [.pointer (some ⟨bk 1, 0, none⟩), .int .i64 (F.next + 1)])
    (hN : Blk w' nb 68 (ndC { t with ino := F.next } 1 dv (if t.kind = 2 then .map (some mb) else .map none))) (hD : DatV w' S' dv t.data)
    (hM : Mk w' (km d.ino) (fun x => if x = base p then some (.pointer (some ⟨nb, 0, none⟩)) else kidM F.L bk (parent p) x) (base p :: kidN F.L (parent p)))
    (hK : t.kind = 2 → Mk w' mb (fun _ => none) [] ∧ S' mb ∧ ¬ S mb)
    (hkeep : ∀ i, S i → i ≠ bt → i ≠ km d.ino → w'.heap[i]? = w.heap[i]?)
    (hS : ∀ i, S i → S' i) (hnb : S' nb ∧ ¬ S nb) (hlt : ∀ i, S' i → i < w'.heap.size) :
    PT w' S' bt (F.add p t) (fun i => if i = F.next then nb else bk i) (fun i => if i = F.next then mb else km i) := by
  obtain ⟨ta1, ta2, ta3⟩ := type_apart
  have hdm : (parent p, d) ∈ F.L := atL_mem hd
  have hmd := h.kids _ hdm hdk
  have hmem : ∀ e, e ∈ (F.add p t).L ↔ e ∈ F.L ∨ e = (p, { t with ino := F.next }) := fun e => by simp [Ft.add]
  have hold : ∀ e ∈ F.L, e.2.ino ≠ F.next := fun e he => by have := (hF.ino e he).2; omega
  have hcnt : ∀ k, k ≠ F.next → cnt (F.add p t).L k = cnt F.L k := fun k hk => by
    rw [Ft.add, cnt_snoc, if_neg (fun e => hk e.symm), Nat.add_zero]
  have hcn : cnt (F.add p t).L F.next = 1 := by rw [Ft.add, cnt_snoc, cnt_zero hold, if_pos rfl]
  have hroot : (1 : Int) ≠ F.next := by
    obtain ⟨r, h1, _, h3⟩ := hF.at_root
    have := hold _ (atL_mem h1)
    rw [← h3]; exact this
  have hkm : ∀ q x, kidM (F.add p t).L (fun i => if i = F.next then nb else bk i) q x = if q = parent p ∧ x = base p then some (.pointer (some ⟨nb, 0, none⟩)) else kidM F.L bk q x := by
    intro q x
    unfold kidM
    have hk : kidAt (F.add p t).L q x = if q = parent p ∧ x = base p then some { t with ino := F.next } else kidAt F.L q x := by
      apply opt_ext
      intro u
      rw [kidAt_iff hF']
      constructor
      · rintro ⟨c, h1, h2, h3, h4⟩
        rw [at_add hF hat] at h1
        split at h1
        · rename_i e
          subst e h3 h4
          rw [if_pos ⟨rfl, rfl⟩]; exact h1
        · rename_i e
          rw [if_neg]
          · exact (kidAt_iff hF).2 ⟨c, h1, h2, h3, h4⟩
          · rintro ⟨q1, q2⟩
            exact e (pb_inj (hF.rt _ (atL_mem h1)) hr h2 hne (h3.trans q1) (h4.trans q2))
      · intro h1
        split at h1
        · rename_i e
          exact ⟨p, by rw [at_add hF hat, if_pos rfl]; exact h1, hne, e.1.symm, e.2.symm⟩
        · rename_i e
          obtain ⟨c, h1, h2, h3, h4⟩ := (kidAt_iff hF).1 h1
          refine ⟨c, ?_, h2, h3, h4⟩
          rw [at_add hF hat, if_neg]
          · exact h1
          · rintro rfl; rw [h1] at hat; cases hat
    rw [hk]
    split
    · simp
    · cases hka : kidAt F.L q x with
      | none => rfl
      | some u =>
        obtain ⟨c, h1, _⟩ := kidAt_some hka
        have := hold _ h1
        simp [this]
  refine ⟨?_, ?_, ?_, hS _ h.sT, ?_, ?_, hlt, ?_, ?_⟩
  · simp only [if_neg hroot]; exact hT
  · intro e he
    rcases (hmem e).1 he with he | rfl
    · have hne' := hold e he
      obtain ⟨dv1, hb1, hd1⟩ := h.node e he
      have hb0 : bt ≠ bk e.2.ino := fun q => ta1 ((q ▸ h.tree).ty hb1)
      have hb2 : bk e.2.ino ≠ km d.ino := hb1.nomap hmd
      refine ⟨dv1, ?_, ?_⟩
      · simp only [if_neg hne', hcnt _ hne']
        have : kvO (fun i => if i = F.next then mb else km i) e.2 = kvO km e.2 := by unfold kvO; simp [hne']
        rw [this]
        exact hb1.keep (hkeep _ (h.sN e he) (fun q => hb0 q.symm) hb2)
      · refine ⟨own_keep hd1.1 fun g hg => hkeep g (hd1.2 g hg) (hd1.ne (h.tree.nodat ta3) g hg) (hd1.ne hmd.nodat g hg), fun g hg => hS g (hd1.2 g hg)⟩
    · refine ⟨dv, ?_, hD⟩
      simp only [if_pos, hcn]
      have : kvO (fun i => if i = F.next then mb else km i) { t with ino := F.next } = (if t.kind = 2 then .map (some mb) else .map none) := by unfold kvO; simp
      rw [this]
      exact hN
  · intro e he h2
    rcases (hmem e).1 he with he | rfl
    · have hne' := hold e he
      simp only [if_neg hne']
      have hm := h.kids e he h2
      by_cases q : e.2.ino = d.ino
      · have hee := (hF.one e he _ hdm q)
        have hq : e.1 = parent p := by
          rcases hee.2 with q | q
          · exact q
          · rw [q] at h2; exact absurd h2 (by decide)
        rw [q]
        refine hM.to_kid hF' fun x => ?_
        rw [hkm, hq]
        by_cases hx : x = base p <;> simp [hx]
      · have hk' := hm.keep (w' := w') (hkeep _ (h.sK e he h2) (fun e' => (h.tree.nomap hm) e'.symm) (fun e' => q (h.injK e he _ hdm h2 hdk e')))
        refine hk'.to_kid hF' fun x => ?_
        rw [hkm, if_neg]
        rintro ⟨q1, _⟩
        have : F.at_ e.1 = some e.2 := hF.at_of he
        rw [q1, hd] at this
        injection this with this
        exact q (by rw [this])
    · simp only [if_pos]
      refine (hK h2).1.to_kid hF' fun x => ?_
      rw [hkm, if_neg]
      · unfold kidM
        cases hka : kidAt F.L p x with
        | none => rfl
        | some u =>
          obtain ⟨c, h1, h3, h4, _⟩ := kidAt_some hka
          obtain ⟨dd, h5, _⟩ := hF.up _ h1 h3
          have h6 : F.at_ p = some dd := by
            have h5' : (parent c, dd) ∈ F.L := h5
            rw [h4] at h5'
            exact hF.at_of h5'
          rw [hat] at h6; cases h6
      · rintro ⟨q1, _⟩
        have := parent_len hr hne
        have h2 : (split p).length = (split (parent p)).length := congrArg (fun x => (split x).length) q1
        omega
  · intro e he
    rcases (hmem e).1 he with he | rfl
    · simp only [if_neg (hold e he)]; exact hS _ (h.sN e he)
    · simp only [if_pos]; exact hnb.1
  · intro e he h2
    rcases (hmem e).1 he with he | rfl
    · simp only [if_neg (hold e he)]; exact hS _ (h.sK e he h2)
    · simp only [if_pos]; exact (hK h2).2.1
  · intro e he e' he' q
    rcases (hmem e).1 he with he | rfl
    · rcases (hmem e').1 he' with he' | rfl
      · simp only [if_neg (hold e he), if_neg (hold e' he')] at q
        exact h.injB e he e' he' q
      · simp only [if_neg (hold e he), if_pos] at q
        exact absurd (q ▸ h.sN e he) hnb.2
    · rcases (hmem e').1 he' with he' | rfl
      · simp only [if_neg (hold e' he'), if_pos] at q
        exact absurd (q ▸ h.sN e' he') hnb.2
      · rfl
  · intro e he e' he' k1 k2 q
    rcases (hmem e).1 he with he | rfl
    · rcases (hmem e').1 he' with he' | rfl
      · simp only [if_neg (hold e he), if_neg (hold e' he')] at q
        exact h.injK e he e' he' k1 k2 q
      · simp only [if_neg (hold e he), if_pos] at q
        exact absurd (q ▸ h.sK e he k1) (hK k2).2.2
    · rcases (hmem e').1 he' with he' | rfl
      · simp only [if_neg (hold e' he'), if_pos] at q
        exact absurd (q ▸ h.sK e' he' k2) (hK k1).2.2
      · rfl
end
end Go.Proofs.YtmgheamdboiklaaDoor
