/- PLAIN: the calls keep a tree standing. No program in it. -/
import Derived.Test.YtmgheamdboiklaaDoorTr
set_option linter.unusedVariables false
set_option linter.unusedSimpArgs false
namespace Go.Proofs.YtmgheamdboiklaaDoor

section
variable {F : Ft}
theorem may_zero {p : ByteArray} {m : Mt} (h : mayE p m = 0) : right p = true ∧ metaErr m = 0 := by
  unfold mayE at h
  split at h
  · exact absurd h (by decide)
  · rename_i h1
    split at h
    · rename_i h2; exact ⟨by simpa using h1, h2⟩
    · exact absurd h (by decide)
theorem Wf.mkdir (h : Wf F) (p : ByteArray) (m : Mt) : Wf (F.mkdir p m).2 := by
  unfold Ft.mkdir
  split
  · exact h
  · split
    · exact h
    · rename_i h1 h2
      have hf : F.freshE p = 0 := by omega
      obtain ⟨a1, a2, _, _, a5⟩ := fresh_ok hf
      have hne := fresh_ne h hf
      obtain ⟨d, d1, d2⟩ := a5 hne
      exact h.add a1 hne a2 d1 d2 (.inr (.inl rfl)) ⟨by simp, fun _ => rfl⟩ ⟨(by decide : (noB : ByteArray).size ≤ 200), by simp⟩
theorem Wf.symlink (h : Wf F) (p t : ByteArray) (m : Mt) : Wf (F.symlink p t m).2 := by
  unfold Ft.symlink
  split
  · exact h
  · split
    · exact h
    · split
      · exact h
      · split
        · exact h
        · rename_i h1 h2 h3 h4
          have hf : F.freshE p = 0 := by omega
          obtain ⟨a1, a2, _, _, a5⟩ := fresh_ok hf
          have hne := fresh_ne h hf
          obtain ⟨d, d1, d2⟩ := a5 hne
          exact h.add a1 hne a2 d1 d2 (.inr (.inr rfl)) ⟨by simp, fun _ => rfl⟩ ⟨by show t.size ≤ 200; omega, by simp [h2]⟩
theorem Wf.setd (h : Wf F) {p : ByteArray} {n : Tg} (hat : F.at_ p = some n) (hk : n.kind = 1) {b : Tg → List UInt8} {m : Tg → Mt} (hb : ∀ e ∈ F.L, e.2.ino = n.ino → (b e.2).length ≤ 65536) : Wf (F.upd n.ino fun t => { t with data := b t, mt := m t }) :=
  h.upd _ _ (fun _ => rfl) (fun _ => rfl) (fun _ => rfl) fun e he q => ⟨hb e he q, fun hk' => by
    have := (h.one e he _ (atL_mem hat) q).1
    exact absurd (by rw [this]; exact hk) hk'⟩
theorem Wf.write (h : Wf F) (p : ByteArray) (b : List UInt8) (m : Mt) : Wf (F.write p b m).2 := by
  unfold Ft.write
  split
  · exact h
  · split
    · exact h
    · split
      · exact h
      · rename_i h1 h2 h3
        have hl : (F.look p).2 = 0 := by omega
        obtain ⟨a1, a2, a3⟩ := look_ok hl
        split
        · rename_i hn
          have hat : F.at_ p = none := by rw [← a2]; exact hn
          have hne : p ≠ noB := fun e => by
            obtain ⟨t, ht, _⟩ := h.at_root
            rw [e, ht] at hat; cases hat
          obtain ⟨d, d1, d2⟩ := a3 hne
          exact h.add a1 hne hat d1 d2 (.inl rfl) ⟨by show b.length ≤ 65536; omega, fun q => absurd rfl q⟩ ⟨(by decide : (noB : ByteArray).size ≤ 200), by simp⟩
        · rename_i n hn
          split
          · exact h
          · rename_i hf
            have hat : F.at_ p = some n := by rw [← a2]; exact hn
            have hf' : fileE n = 0 := by omega
            exact h.setd (b := fun _ => b) (m := fun _ => m) hat (file_kind h (atL_mem hat) hf') (fun _ _ _ => by show b.length ≤ 65536; omega)
theorem Wf.append (h : Wf F) (p : ByteArray) (b : List UInt8) : Wf (F.append p b).2 := by
  unfold Ft.append
  split
  · exact h
  · rename_i h1
    obtain ⟨t, t1, t2, t3, t4⟩ := there_ok (by omega : F.thereE p = 0)
    rw [t1]
    simp only
    split
    · exact h
    · split
      · exact h
      · rename_i hf hb
        have hf' : fileE t = 0 := by omega
        refine h.setd (b := fun t => t.data ++ b) (m := fun t => t.mt) t2 (file_kind h (atL_mem t2) hf') (fun e he q => ?_)
        have := (h.one e he _ (atL_mem t2) q).1
        have this : e.2 = t := this
        rw [this, List.length_append]; omega
theorem Wf.link (h : Wf F) (old p : ByteArray) : Wf (F.link old p).2 := by
  unfold Ft.link
  split
  · exact h
  · split
    · exact h
    · rename_i h0 h1
      obtain ⟨t, t1, t2, t3, t4⟩ := there_ok (by omega : F.thereE old = 0)
      rw [t1]
      simp only
      split
      · exact h
      · split
        · exact h
        · rename_i hf hb
          obtain ⟨a1, a2, _, _, a5⟩ := fresh_ok (by omega : F.freshE p = 0)
          have hne := fresh_ne h (by omega : F.freshE p = 0)
          obtain ⟨d, d1, d2⟩ := a5 hne
          have hf' : fileE t = 0 := by omega
          exact h.name t2 (file_kind h (atL_mem t2) hf') a1 hne a2 d1 d2
theorem Wf.set (h : Wf F) (p : ByteArray) (m : Mt) : Wf (F.set p m).2 := by
  unfold Ft.set
  split
  · exact h
  · split
    · exact h
    · rename_i h0 h1
      obtain ⟨t, t1, t2, t3, t4⟩ := there_ok (by omega : F.thereE p = 0)
      rw [t1]
      exact h.upd t.ino (fun t => { t with mt := m }) (fun _ => rfl) (fun _ => rfl) (fun _ => rfl) fun e he q => h.dat e he
theorem no_kids {p : ByteArray} (h : (kidsL F.L p).length = 0) : ∀ e ∈ F.L, e.1 ≠ noB → parent e.1 ≠ p := fun e he hne hp => by
  have : e ∈ kidsL F.L p := List.mem_filter.2 ⟨he, by simp [isKid, hne, hp]⟩
  rw [List.eq_nil_of_length_eq_zero h] at this
  cases this
theorem Wf.remove (h : Wf F) (p : ByteArray) : Wf (F.remove p).2 := by
  unfold Ft.remove
  split
  · exact h
  · split
    · exact h
    · split
      · exact h
      · split
        · exact h
        · rename_i h1 h2 h3 h4
          exact h.del h2 (no_kids (by omega))
end
end Go.Proofs.YtmgheamdboiklaaDoor
