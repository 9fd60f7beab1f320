/- PLAIN: links followed; targets that are safe, made harmless, and back. No program in it. -/
import Derived.Test.YtmgheamdboiklaaDoorTr
set_option linter.unusedVariables false
set_option linter.unusedSimpArgs false
namespace Go.Proofs.YtmgheamdboiklaaDoor

abbrev dotB : ByteArray := { data := #[46] }
abbrev ddotB : ByteArray := { data := #[46, 46] }
abbrev harmB : ByteArray := { data := #[47, 46, 114, 101, 109, 111, 114, 97, 47] }
/-- right below a place -/
def belowP (at_ x : ByteArray) : ByteArray := if at_ = noB then x else at_ ++ { data := #[47] } ++ x
def slashed (t : ByteArray) : Bool := decide ((lsB t).head? = some 47)
structure Wk where
  at_ : ByteArray
  row : List ByteArray
  hops : Int
/-- one part off the row -/
def stepP (F : Ft) (k : Wk) : Int × Wk :=
  match k.row with
  | [] => (0, k)
  | x :: r =>
    if (F.stat k.at_).2 ≠ 0 ∨ (F.stat k.at_).1.kind ≠ 2 then (12, { k with row := r })
    else if x = noB ∨ x = dotB then (0, { k with row := r })
    else if x = ddotB then (if k.at_ = noB then (16, { k with row := r }) else (0, { k with at_ := parent k.at_, row := r }))
    else if (F.stat (belowP k.at_ x)).2 ≠ 0 then (10, { k with row := r })
    else if (F.stat (belowP k.at_ x)).1.kind ≠ 3 then (0, { k with at_ := belowP k.at_ x, row := r })
    else if k.hops = 16 then (15, { k with row := r })
    else (0, ⟨if slashed (F.stat (belowP k.at_ x)).1.target = true then noB else k.at_, split (F.stat (belowP k.at_ x)).1.target ++ r, k.hops + 1⟩)
def resF (F : Ft) : Nat → Wk → ByteArray × Int
  | 0, k => (k.at_, 0)
  | n + 1, k => if k.row = [] then (k.at_, 0) else if (stepP F k).1 ≠ 0 then (noB, (stepP F k).1) else resF F n (stepP F k).2
def wkM (k : Wk) : Nat := (16 - k.hops).toNat * 202 + k.row.length
def resolve (F : Ft) (p : ByteArray) : ByteArray × Int := if right p = false then (noB, 9) else resF F 6000 ⟨noB, split p, 0⟩
/-- what a walk holds: at the top, or at a thing; hops within bounds -/
structure WkOk (F : Ft) (k : Wk) : Prop where
  at_ : right k.at_ = true
  row : ∀ x ∈ k.row, x.size ≤ 1000
  len : (k.row.length : Int) ≤ 1000 + k.hops * 201
  h0 : 0 ≤ k.hops
  h1 : k.hops ≤ 16
theorem splitp_size {t x : ByteArray} (hx : x ∈ split t) : x.size ≤ t.size := by
  have key : ∀ (l : List (List UInt8)) (y : List UInt8), y ∈ l → y.length ≤ (glueL 47 l).length := by
    intro l
    induction l with
    | nil => intro y hy; cases hy
    | cons a l ih =>
      intro y hy
      cases l with
      | nil =>
        have : y = a := by simpa using hy
        subst this; exact Nat.le_refl _
      | cons b l =>
        rcases List.mem_cons.1 hy with rfl | hy
        · simp [glueL]
        · have := ih y hy
          simp only [glueL, List.length_append, List.length_cons]
          omega
  unfold split at hx
  obtain ⟨y, hy, rfl⟩ := List.mem_map.1 hx
  rw [mk_size, ← ls_len t]
  unfold partsL at hy
  split at hy
  · cases hy
  · have := key _ _ hy
    rwa [glue_cut] at this
theorem stat_ok_some {F : Ft} {p : ByteArray} (h : (F.stat p).2 = 0) : ∃ t, F.at_ p = some t ∧ F.stat p = (tellT F.L p t, 0) ∧ right p = true := by
  unfold Ft.stat at h ⊢
  split at h
  · rename_i h1; exact absurd h h1
  · rename_i h1
    obtain ⟨t, t1, t2, t3, t4⟩ := there_ok (by omega : F.thereE p = 0)
    rw [if_neg h1, t1]
    exact ⟨t, t2, rfl, t4⟩
theorem stat_at {F : Ft} (hF : Wf F) {p : ByteArray} {t : Tg} (h : F.at_ p = some t) : F.stat p = (tellT F.L p t, 0) := by
  have hr : right p = true := hF.rt _ (atL_mem h)
  have hl : F.look p = (some t, 0) := by
    by_cases hne : p = noB
    · subst hne
      unfold Ft.look
      rw [if_neg (by simp [hr]), if_pos rfl, h]
    · obtain ⟨d, d1, d2⟩ := hF.at_up h hne
      rw [look_at hr hne d1 d2, h]
  have ht : F.thereE p = 0 := by unfold Ft.thereE; rw [hl]; rfl
  unfold Ft.stat
  rw [if_neg (by simp [ht]), hl]
theorem WkOk.step {F : Ft} (hF : Wf F) {k : Wk} (h : WkOk F k) (he : (stepP F k).1 = 0) (hr : k.row ≠ []) : WkOk F (stepP F k).2 ∧ wkM (stepP F k).2 < wkM k := by
  have hlen := h.len
  have h0 := h.h0
  have h1 := h.h1
  cases hrow : k.row with
  | nil => exact absurd hrow hr
  | cons x r =>
    have hx : ∀ y ∈ r, y.size ≤ 1000 := fun y hy => h.row y (by rw [hrow]; simp [hy])
    have hrl : r.length + 1 = k.row.length := by rw [hrow]; rfl
    have base : ∀ a : ByteArray, right a = true → WkOk F ⟨a, r, k.hops⟩ ∧ wkM ⟨a, r, k.hops⟩ < wkM k := fun a ha => ⟨⟨ha, hx, by show (r.length : Int) ≤ 1000 + k.hops * 201; omega, h0, h1⟩, by unfold wkM; show (16 - k.hops).toNat * 202 + r.length < (16 - k.hops).toNat * 202 + k.row.length; omega⟩
    unfold stepP at he ⊢
    rw [hrow] at he ⊢
    simp only at he ⊢
    split at he
    · exact absurd (show (12 : Int) = 0 from he) (by decide)
    · rename_i g1
      rw [if_neg g1]
      split at he
      · rename_i g2; rw [if_pos g2]; exact base _ h.at_
      · rename_i g2
        rw [if_neg g2]
        split at he
        · rename_i g3
          rw [if_pos g3]
          split at he
          · exact absurd (show (16 : Int) = 0 from he) (by decide)
          · rename_i g4; rw [if_neg g4]; exact base _ (right_parent h.at_)
        · rename_i g3
          rw [if_neg g3]
          split at he
          · exact absurd (show (10 : Int) = 0 from he) (by decide)
          · rename_i g4
            rw [if_neg g4]
            obtain ⟨t, t1, t2, t3⟩ := stat_ok_some (by omega : (F.stat (belowP k.at_ x)).2 = 0)
            split at he
            · rename_i g5; rw [if_pos g5]; exact base _ t3
            · rename_i g5
              rw [if_neg g5]
              split at he
              · exact absurd (show (15 : Int) = 0 from he) (by decide)
              · rename_i g6
                rw [if_neg g6]
                have htg : (F.stat (belowP k.at_ x)).1.target = t.target := by rw [t2]; rfl
                have hts := (hF.tgt _ (atL_mem t1)).1
                have hts : t.target.size ≤ 200 := hts
                have hsl := split_len t.target (m := 201) (by omega)
                rw [htg]
                refine ⟨⟨?_, ?_, ?_, ?_, ?_⟩, ?_⟩
                · show right (if slashed t.target = true then noB else k.at_) = true
                  split
                  · rfl
                  · exact h.at_
                · intro y hy
                  rcases List.mem_append.1 hy with hy | hy
                  · have := splitp_size hy; omega
                  · exact hx y hy
                · show ((split t.target ++ r).length : Int) ≤ 1000 + (k.hops + 1) * 201
                  rw [List.length_append]; omega
                · show 0 ≤ k.hops + 1; omega
                · show k.hops + 1 ≤ 16; omega
                · unfold wkM
                  show (16 - (k.hops + 1)).toNat * 202 + (split t.target ++ r).length < (16 - k.hops).toNat * 202 + k.row.length
                  rw [List.length_append]
                  have : (16 - k.hops).toNat = (16 - (k.hops + 1)).toNat + 1 := by omega
                  rw [this, Nat.succ_mul]
                  omega
end Go.Proofs.YtmgheamdboiklaaDoor
