/- THE WALKS of the statements LinkTexts, LinkBack (remoralaw18), and of the chapter's examples. -/
import Derived.Test.YtmgheamdboiklaaDoorLw3
set_option linter.unusedVariables false
set_option linter.unusedSimpArgs false
namespace Go.Proofs.YtmgheamdboiklaaDoor
open Go.RowKit

def exMt : Mt := ⟨420, 0, 0, 0, 0⟩
abbrev exd : ByteArray := { data := #[100] }
abbrev exde : ByteArray := { data := #[100, 47, 101] }
abbrev exl : ByteArray := { data := #[108] }
abbrev exx : ByteArray := { data := #[120] }
abbrev exa : ByteArray := { data := #[97] }
abbrev exup : ByteArray := { data := #[46, 46] }
def exF1 : Ft := (ftNew.mkdir exd exMt).2
def exF2 : Ft := (exF1.write exde [] exMt).2
def exF3 : Ft := (exF2.symlink exl exde exMt).2
def exF4 : Ft := (exF3.symlink exx exx exMt).2
def exF5 : Ft := (exF4.symlink exa exup exMt).2
theorem exW : Wf exF1 ∧ Wf exF2 ∧ Wf exF3 ∧ Wf exF4 ∧ Wf exF5 := by
  have h1 : Wf exF1 := Wf.new.mkdir _ _
  have h2 : Wf exF2 := h1.write _ _ _
  have h3 : Wf exF3 := h2.symlink _ _ _
  have h4 : Wf exF4 := h3.symlink _ _ _
  exact ⟨h1, h2, h3, h4, h4.symlink _ _ _⟩
theorem exE : (ftNew.mkdir exd exMt).1 = 0 ∧ (exF1.write exde [] exMt).1 = 0 ∧ (exF2.symlink exl exde exMt).1 = 0 ∧ (exF3.symlink exx exx exMt).1 = 0 ∧ (exF4.symlink exa exup exMt).1 = 0 := ⟨by kernel_rfl, by kernel_rfl, by kernel_rfl, by kernel_rfl, by kernel_rfl⟩
theorem exN : exF1.next = 3 ∧ exF2.next = 4 ∧ exF3.next = 5 ∧ exF4.next = 6 := ⟨by kernel_rfl, by kernel_rfl, by kernel_rfl, by kernel_rfl⟩
theorem exR1 : resolve exF5 exl = (exde, 0) := by kernel_rfl
theorem exR2 : (resolve exF5 exx).2 = 15 := by kernel_rfl
theorem exR3 : (resolve exF5 exa).2 = 16 := by kernel_rfl
theorem exS1 : safeB { data := #[97, 47, 98] } { data := #[46, 46, 47, 99] } = true := by kernel_rfl
theorem exS2 : safeB exa { data := #[46, 46, 47, 99] } = false := by kernel_rfl
theorem exS3 : safeB exa { data := #[99, 47, 46, 46] } = false := by kernel_rfl
theorem TOp.pt {w w' : World} {S : Nat → Prop} {bt : Nat} {F' : Ft} (h : TOp w w' S bt F') : ∃ S' bk' km', PT w' S' bt F' bk' km' ∧ Fr w w' S ∧ ∀ i, S' i → S i ∨ w.heap.size ≤ i := h
set_option maxRecDepth 100000 in
theorem awake18_ok (w : World) : Ret Tryd.prog 6 [] w fun v w' => v = .bool true ∧ Below w.heap.size w w' := by
  obtain ⟨wf1, wf2, wf3, wf4, wf5⟩ := exW
  obtain ⟨er1, er2, er3, er4, er5⟩ := exE
  obtain ⟨nx1, nx2, nx3, nx4⟩ := exN
  refine calls_in Tryd.func6 rfl Tryd.ntmps6 rfl ?_
  repeat (first | (apply w_op; (apply p_asB; apply Eq.refl); apply Eq.refl) | (apply w_nil) | (apply c_seq) | (apply e_then) | (apply c_region))
  refine w_call cl19 (new_tree_ok _) rfl ?_
  rintro v w1 ⟨bt, S, bk, km, rfl, hP, hbel, hS⟩
  have z1 := hbel.size
  repeat (first | (apply w_op; (first | (apply p_mvP; apply Eq.refl) | (apply p_asP; apply Eq.refl) | (apply p_peqnil; apply Eq.refl; apply Eq.refl)); apply Eq.refl) | (apply w_nil) | (apply c_seq) | (apply e_then) | (apply c_region) | (apply c_cond_f; apply Eq.refl) | (apply c_skip))
  refine w_op (p_build (by kernel_rfl : Tryd.prog.built 36 [(0, .int .i64 420)] = some (enMt exMt).toArray)) rfl ?_
  refine w_alloc rfl (fun b2 w2 hn2 => ?_)
  obtain ⟨cs2, hb2, hl2⟩ := hn2.zblk Tryd.prog
  have e2 := hn2.hb
  have s2 := hn2.size
  have hlt1 := hP.lt
  replace hP := hP.keep (fun i hi => (hn2.grown none).block i (hP.lt i hi) (by simp)) (hn2.grown none).size
  replace hbel := hn2.below hbel z1
  refine w_storeW rfl rfl rfl rfl hb2 hl2 (fun w3 hp3 hb3' => ?_)
  have hb3 : ¬ S b2 := fun q => by have := hlt1 b2 q; omega
  have hbel3 := hp3.below hbel (by omega) (by omega)
  have hP3 := (hP.fr (Fr.put (S := fun i => i = b2) hp3 rfl) (fun i hi q => hb3 (q ▸ hi))).drew
  have hc3 : Cel w3.drew ⟨b2, 0, none⟩ (enMt exMt) := hb3'.obj0.drew
  have hz3 : b2 < w3.drew.heap.size := hb3'.lt
  have hlo3 := hS
  replace hbel3 := hbel3.drew
  clear hn2 hP hbel hb2
  repeat (first | (apply w_nil) | (apply c_seq) | (apply e_then))
  refine c_scr (fun y => Cel y ⟨b2, 0, none⟩ (enMt exMt)) (.pull 0 (.pull 1 (.pull 3 (.pull 4 (.pull 6 (.pull 7 (.pull 9 (.pull 10 (.only 2 (.only 5 (.only 8 (.only 11 (.only 12 (.only 13 (.only 14 (.only 15 .done)))))))))))))))) mixed (by kernel_rfl) hc3 ?_
  repeat (apply x_pull; apply Eq.refl; intro _ hC; (first | (apply p_mvP; apply Eq.refl) | (apply p_loadS; apply Eq.refl; (first | assumption | (apply Cel.bel; assumption; assumption; apply Nat.zero_lt_succ)); apply Eq.refl)); apply Eq.refl)
  refine x_only rfl (w_call cl20 (mkdir_ok hP3 Wf.new exd exMt (by decide) (by decide)) rfl ?_)
  rintro v4 w4 ⟨rfl, ht⟩
  obtain ⟨S4, bk4, km4, hP4, hf, hS4⟩ := ht.pt
  have hP4 : PT w4 S4 bt exF1 bk4 km4 := hP4
  have hb4 : ¬ S4 b2 := fun q => by rcases hS4 _ q with q | q; exact hb3 q; have := hz3; omega
  have hz4 : b2 < w4.heap.size := Nat.lt_of_lt_of_le hz3 hf.size
  have hc4 := hf.cel hc3 (Nat.zero_lt_succ _) hb3
  have hlo4 : ∀ i, S4 i → w.heap.size ≤ i := fun i hi => by rcases hS4 i hi with q | q; exact hlo3 i q; have := hbel3.size; omega
  have hbel4 : Below w.heap.size w w4 := hbel3.trans (hf.below hbel3.size hlo3)
  clear hf ht
  rw [er1]
  refine w_nil (e_x hc4 ?_)
  refine x_only rfl (w_call cl21 (write_ok hP4 wf1 exde _ [] exMt 0 (Sl.nil _ _) (Nat.zero_le _) (fun _ _ => Nat.zero_le _) (by decide) (by rw [nx1]; decide)) rfl ?_)
  rintro v4 w5 ⟨rfl, ht⟩
  obtain ⟨S5, bk5, km5, hP5, hf, hS5⟩ := ht.pt
  have hP5 : PT w5 S5 bt exF2 bk5 km5 := hP5
  have hb5 : ¬ S5 b2 := fun q => by rcases hS5 _ q with q | q; exact hb4 q; have := hz4; omega
  have hz5 : b2 < w5.heap.size := Nat.lt_of_lt_of_le hz4 hf.size
  have hc5 := hf.cel hc4 (Nat.zero_lt_succ _) hb4
  have hlo5 : ∀ i, S5 i → w.heap.size ≤ i := fun i hi => by rcases hS5 i hi with q | q; exact hlo4 i q; have := hbel4.size; omega
  have hbel5 : Below w.heap.size w w5 := hbel4.trans (hf.below hbel4.size hlo4)
  clear hf ht
  rw [er2]
  refine w_nil (e_x hc5 ?_)
  refine x_only rfl (w_call cl22 (symlink_ok hP5 wf2 exl exde exMt (by decide) (by decide) (by rw [nx2]; decide)) rfl ?_)
  rintro v4 w6 ⟨rfl, ht⟩
  obtain ⟨S6, bk6, km6, hP6, hf, hS6⟩ := ht.pt
  have hP6 : PT w6 S6 bt exF3 bk6 km6 := hP6
  have hb6 : ¬ S6 b2 := fun q => by rcases hS6 _ q with q | q; exact hb5 q; have := hz5; omega
  have hz6 : b2 < w6.heap.size := Nat.lt_of_lt_of_le hz5 hf.size
  have hc6 := hf.cel hc5 (Nat.zero_lt_succ _) hb5
  have hlo6 : ∀ i, S6 i → w.heap.size ≤ i := fun i hi => by rcases hS6 i hi with q | q; exact hlo5 i q; have := hbel5.size; omega
  have hbel6 : Below w.heap.size w w6 := hbel5.trans (hf.below hbel5.size hlo5)
  clear hf ht
  rw [er3]
  refine w_nil (e_x hc6 ?_)
  refine x_only rfl (w_call cl22 (symlink_ok hP6 wf3 exx exx exMt (by decide) (by decide) (by rw [nx3]; decide)) rfl ?_)
  rintro v4 w7 ⟨rfl, ht⟩
  obtain ⟨S7, bk7, km7, hP7, hf, hS7⟩ := ht.pt
  have hP7 : PT w7 S7 bt exF4 bk7 km7 := hP7
  have hb7 : ¬ S7 b2 := fun q => by rcases hS7 _ q with q | q; exact hb6 q; have := hz6; omega
  have hz7 : b2 < w7.heap.size := Nat.lt_of_lt_of_le hz6 hf.size
  have hc7 := hf.cel hc6 (Nat.zero_lt_succ _) hb6
  have hlo7 : ∀ i, S7 i → w.heap.size ≤ i := fun i hi => by rcases hS7 i hi with q | q; exact hlo6 i q; have := hbel6.size; omega
  have hbel7 : Below w.heap.size w w7 := hbel6.trans (hf.below hbel6.size hlo6)
  clear hf ht
  rw [er4]
  refine w_nil (e_x hc7 ?_)
  refine x_only rfl (w_op (p_asI rfl) rfl (w_nil (e_x hc7 ?_)))
  refine x_only rfl (w_op (p_asI rfl) rfl (w_nil (e_x hc7 ?_)))
  refine x_only rfl (w_op (p_asI rfl) rfl (w_nil (e_x hc7 ?_)))
  refine x_only rfl (w_op (p_asI rfl) rfl (w_nil (e_x0 ?_)))
  repeat (first | (apply w_op; (first | (apply p_mvP; apply Eq.refl) | (apply p_loadS; apply Eq.refl; (first | assumption | (apply Cel.bel; assumption; assumption; apply Nat.zero_lt_succ)); apply Eq.refl)); apply Eq.refl) | (apply c_seq) | (apply e_then) | (apply c_region))
  refine w_call cl22 (symlink_ok hP7 wf4 exa exup exMt (by decide) (by decide) (by rw [nx4]; decide)) rfl ?_
  rintro v4 w8 ⟨rfl, ht⟩
  obtain ⟨S8, bk8, km8, hP8, hf, hS8⟩ := ht.pt
  have hP8 : PT w8 S8 bt exF5 bk8 km8 := hP8
  have hbel8 : Below w.heap.size w w8 := hbel7.trans (hf.below hbel7.size hlo7)
  rw [er5]
  clear hf ht
  repeat (first | (apply w_op; (first | (apply p_mvP; apply Eq.refl) | (apply p_asI; apply Eq.refl)); apply Eq.refl) | (apply w_nil) | (apply c_seq) | (apply e_then) | (apply c_region))
  refine w_callB cl16 (resolve_ok hP8 wf5 exl (by decide)) rfl (fun w9 hb9 => ?_)
  have hP9 := hP8.below hb9
  have hbel9 := hbel8.trans (hb9.mono hbel8.size)
  rw [exR1]
  repeat (first | (apply w_op; (first | (apply p_mvP; apply Eq.refl) | (apply p_mvT; apply Eq.refl) | (apply p_asI; apply Eq.refl) | (apply p_asS; apply Eq.refl) | (apply p_extract; apply Eq.refl; apply Eq.refl)); apply Eq.refl) | (apply w_nil) | (apply c_seq) | (apply e_then) | (apply c_region))
  refine w_callB cl16 (resolve_ok hP9 wf5 exx (by decide)) rfl (fun w10 hb10 => ?_)
  have hP10 := hP9.below hb10
  have hbel10 := hbel9.trans (hb10.mono hbel9.size)
  rw [exR2]
  repeat (first | (apply w_op; (first | (apply p_mvP; apply Eq.refl) | (apply p_mvT; apply Eq.refl) | (apply p_asI; apply Eq.refl) | (apply p_asS; apply Eq.refl) | (apply p_extract; apply Eq.refl; apply Eq.refl)); apply Eq.refl) | (apply w_nil) | (apply c_seq) | (apply e_then) | (apply c_region))
  refine w_callB cl16 (resolve_ok hP10 wf5 exa (by decide)) rfl (fun w11 hb11 => ?_)
  have hbel11 := hbel10.trans (hb11.mono hbel10.size)
  have z11 := hbel11.size
  rw [exR3]
  repeat (first | (apply w_op; (first | (apply p_mvI; apply Eq.refl) | (apply p_mvS; apply Eq.refl) | (apply p_mvB; apply Eq.refl) | (apply p_mvT; apply Eq.refl) | (apply p_asI; apply Eq.refl) | (apply p_asS; apply Eq.refl) | (apply p_extract; apply Eq.refl; apply Eq.refl) | (apply p_eql; apply Eq.refl; apply Eq.refl) | (apply p_neq; apply Eq.refl; apply Eq.refl) | (apply p_seql; apply Eq.refl; apply Eq.refl) | (apply p_pick_t; apply Eq.refl; apply Eq.refl) | (apply p_pick_f; apply Eq.refl; apply Eq.refl)); apply Eq.refl) | (apply w_nil) | (apply c_seq) | (apply e_then) | (apply c_region) | (apply w_on; apply Eq.refl) | (apply c_cond_f; apply Eq.refl) | (apply c_skip))
  refine w_callB cl9 (safe_ok _ _ _ (by decide) (by decide)) rfl (fun w12 hb12 => ?_)
  have hbel12 := hbel11.trans (hb12.mono z11)
  have z12 := hbel12.size
  rw [exS1]
  repeat (first | (apply w_op; (first | (apply p_mvB; apply Eq.refl) | (apply p_pick_t; apply Eq.refl; apply Eq.refl)); apply Eq.refl) | (apply w_on; apply Eq.refl))
  refine w_callB cl9 (safe_ok _ _ _ (by decide) (by decide)) rfl (fun w13 hb13 => ?_)
  have hbel13 := hbel12.trans (hb13.mono z12)
  have z13 := hbel13.size
  rw [exS2]
  repeat (first | (apply w_op; (first | (apply p_mvB; apply Eq.refl) | (apply p_not; apply Eq.refl) | (apply p_pick_t; apply Eq.refl; apply Eq.refl)); apply Eq.refl) | (apply w_on; apply Eq.refl))
  refine w_callB cl9 (safe_ok _ _ _ (by decide) (by decide)) rfl (fun w14 hb14 => ?_)
  have hbel14 := hbel13.trans (hb14.mono z13)
  rw [exS3]
  repeat (first | (apply w_op; (first | (apply p_asB; apply Eq.refl) | (apply p_not; apply Eq.refl) | (apply p_pick_t; apply Eq.refl; apply Eq.refl)); apply Eq.refl) | (apply w_nil) | (apply e_then) | (apply w_on; apply Eq.refl) | (apply c_ret))
  exact r_ret1 Tryd.results6 rfl ⟨rfl, hbel14⟩

end Go.Proofs.YtmgheamdboiklaaDoor
