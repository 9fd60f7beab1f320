/- THE WALKS of the statements LinkTexts, LinkBack (remoralaw18). -/
import Derived.Test.YtmgheamdboiklaaDoorLw4
set_option linter.unusedVariables false
set_option linter.unusedSimpArgs false
namespace Go.Proofs.YtmgheamdboiklaaDoor
open Go.RowKit

theorem linkTexts_ok (p t : ByteArray) (w : World) : Ret Tryd.prog 3 [.string p, .string t] w fun v w' => v = .bool true ∧ Below w.heap.size w w' := by
  refine calls_in Tryd.func3 rfl Tryd.ntmps3 rfl ?_
  repeat (first | (apply w_op; (first | (apply p_mvS; apply Eq.refl) | (apply p_mvB; apply Eq.refl) | (apply p_asB; apply Eq.refl) | (apply p_gtr; apply Eq.refl; apply Eq.refl) | (apply p_len_str; apply Eq.refl) | (apply p_pick_t; apply Eq.refl; apply Eq.refl) | (apply p_pick_f; apply Eq.refl; apply Eq.refl)); apply Eq.refl) | (apply w_nil) | (apply c_seq) | (apply e_then) | (apply c_region) | (apply w_on; apply Eq.refl) | (apply w_off; apply Eq.refl; apply Eq.refl) | (apply w_ord; apply Eq.refl; apply Eq.refl; (repeat (first | apply Seg.pick | apply Seg.op | apply Seg.op0)); apply Eq.refl; intro _) | (apply e_sc; (repeat (first | exact Over.base | exact Over.refl | refine Over.put rfl ?_ | refine Over.cnP rfl ?_ | refine Over.zpP rfl ?_)); apply Eq.refl) | (intro _))
  first | refine c_ifd rfl (fun g => ?_) (fun g => ?_) | refine c_ifnd rfl (fun g => ?_) (fun g => ?_) | refine c_ifn rfl (fun g => ?_) (fun g => ?_) | refine c_cond rfl (fun g => ?_) (fun g => ?_)
  · repeat (first | (apply c_seq) | (apply c_region))
    refine w_callB cl6 (awake18_ok _) rfl (fun w1 hb1 => ?_)
    repeat (first | (apply w_op; (apply p_asB; apply Eq.refl); apply Eq.refl) | (apply w_nil) | (apply e_then) | (apply c_ret) | (apply e_then_ret))
    exact r_ret1 Tryd.results3 rfl ⟨rfl, hb1⟩
  · simp only [Bool.or_eq_false_iff, decide_eq_false_iff_not] at g
    have hp : p.size ≤ 1000 := by omega
    have ht : t.size ≤ 1000 := by omega
    repeat (first | (apply w_op; (apply p_mvS; apply Eq.refl); apply Eq.refl) | (apply c_seq) | (apply e_then) | (apply c_region) | (apply c_skip))
    refine w_callS cl7 (plain_ok t _) rfl ?_
    repeat (first | (apply w_op; (first | (apply p_mvS; apply Eq.refl) | (apply p_mvT; apply Eq.refl) | (apply p_asS; apply Eq.refl) | (apply p_asB; apply Eq.refl) | (apply p_extract; apply Eq.refl; apply Eq.refl)); apply Eq.refl) | (apply w_nil) | (apply c_seq) | (apply e_then) | (apply c_region))
    refine w_callS cl8 (rplain_ok t _) rfl ?_
    repeat (first | (apply w_op; (first | (apply p_mvS; apply Eq.refl) | (apply p_mvT; apply Eq.refl) | (apply p_asS; apply Eq.refl) | (apply p_asB; apply Eq.refl) | (apply p_extract; apply Eq.refl; apply Eq.refl)); apply Eq.refl) | (apply w_nil) | (apply c_seq) | (apply e_then) | (apply c_region))
    refine w_callB cl9 (safe_ok p t _ (by omega) (by omega)) rfl (fun w1 hb1 => ?_)
    have z1 := hb1.size
    repeat (apply w_op; (apply p_mvS; apply Eq.refl); apply Eq.refl)
    refine w_callB cl10 (rsafe_ok p t _ (by omega) (by omega)) rfl (fun w2 hb2 => ?_)
    have hbel2 := hb1.trans (hb2.mono z1)
    have z2 := hbel2.size
    repeat (apply w_op; (first | (apply p_mvB; apply Eq.refl) | (apply p_beql; apply Eq.refl; apply Eq.refl)); apply Eq.refl)
    rw [beq_self_eq_true]
    repeat (first | (apply w_op; (apply p_mvS; apply Eq.refl); apply Eq.refl) | (apply w_on; apply Eq.refl))
    refine w_callS cl11 (munge_ok t _ (by omega)) rfl ?_
    repeat (first | (apply w_op; (apply p_mvS; apply Eq.refl); apply Eq.refl) | (apply w_on; apply Eq.refl))
    refine w_callS cl12 (rmunge_ok t _ (by omega)) rfl ?_
    repeat (first | (apply w_op; (first | (apply p_mvS; apply Eq.refl) | (apply p_mvB; apply Eq.refl) | (apply p_seql; apply Eq.refl; apply Eq.refl) | (apply p_pick_t; apply Eq.refl; apply Eq.refl) | (apply p_pick_f; apply Eq.refl; apply Eq.refl) | (apply p_beql; apply Eq.refl; apply Eq.refl)); apply Eq.refl) | (apply w_nil) | (apply w_on; apply Eq.refl) | (apply w_off; apply Eq.refl; apply Eq.refl) | (apply w_andd; apply Eq.refl; apply Eq.refl; (repeat (first | apply Seg.pick | apply Seg.op | apply Seg.op0)); apply Eq.refl; intro _) | (apply w_andA; apply Eq.refl; apply Eq.refl; (repeat (first | apply Seg.pick | apply Seg.op | apply Seg.op0)); apply Eq.refl; intro _) | (apply e_sc; (repeat (first | exact Over.base | exact Over.refl | refine Over.put rfl ?_ | refine Over.cnP rfl ?_ | refine Over.zpP rfl ?_)); apply Eq.refl) | (intro _))
    rw [show decide (mungeB t = mungeB t) = true from decide_eq_true rfl]
    skip
    rw [show decide ((plainB t).1 = (plainB t).1) = true from decide_eq_true rfl]
    skip
    rw [beq_self_eq_true]
    repeat (apply w_on; apply Eq.refl)
    refine w_callB cl6 (awake18_ok _) rfl (fun w3 hb3 => ?_)
    repeat (first | (apply w_op; (first | (apply p_asB; apply Eq.refl) | (apply p_pick_t; apply Eq.refl; apply Eq.refl)); apply Eq.refl) | (apply w_nil) | (apply e_then) | (apply c_ret))
    exact r_ret1 Tryd.results3 rfl ⟨rfl, hbel2.trans (hb3.mono z2)⟩

theorem munge_safe (p t : ByteArray) : safeB p (mungeB t) = false := by
  have hb : safeBad p (mungeB t) = true := by
    unfold safeBad
    have : slashed (mungeB t) = true := by
      unfold slashed
      rw [show lsB (mungeB t) = lsB harmB ++ lsB t from ls_append harmB t]
      rfl
    rw [this, Bool.or_true]
  rw [safeB, if_pos hb]
theorem plain_munge (t : ByteArray) : plainB (mungeB t) = (t, true) := by
  have hz : (mungeB t).size = 9 + t.size := by show (harmB ++ t).size = _; rw [ByteArray.size_append]; rfl
  have e1 : (mungeB t).extract 0 9 = harmB := ByteArray.extract_append_eq_left (by rfl)
  have e2 : (mungeB t).extract 9 (mungeB t).size = t := by
    rw [hz]
    exact ByteArray.extract_append_eq_right (by rfl) (by show 9 + t.size = 9 + t.size; rfl)
  have hp : hasP (mungeB t) harmB = true := by
    show (decide ((9 : Int) ≤ ((mungeB t).size : Int)) && decide ((mungeB t).extract 0 9 = harmB)) = true
    rw [e1, hz]
    simp
    omega
  rw [plainB, if_pos hp, e2]
theorem munge_plain {t : ByteArray} (h : (plainB t).2 = true) : mungeB (plainB t).1 = t := by
  unfold plainB at h ⊢
  split at h
  · rename_i hp
    rw [if_pos hp]
    have hh : (decide ((9 : Int) ≤ (t.size : Int)) && decide (t.extract 0 9 = harmB)) = true := hp
    simp only [Bool.and_eq_true, decide_eq_true_eq] at hh
    show harmB ++ t.extract 9 t.size = t
    rw [← hh.2, ByteArray.extract_append_extract]
    have hm : min 0 9 = 0 := rfl
    have : max 9 t.size = t.size := by omega
    rw [hm, this, ByteArray.extract_zero_size]
  · cases h

theorem linkBack_ok (p t : ByteArray) (w : World) : Ret Tryd.prog 4 [.string p, .string t] w fun v w' => v = .bool true ∧ Below w.heap.size w w' := by
  have hms := munge_safe p t
  have hpm := plain_munge t
  have hmp := @munge_plain t
  have hz : (mungeB t).size = 9 + t.size := by show (harmB ++ t).size = _; rw [ByteArray.size_append]; rfl
  refine calls_in Tryd.func4 rfl Tryd.ntmps4 rfl ?_
  repeat (first | (apply w_op; (first | (apply p_mvS; apply Eq.refl) | (apply p_mvB; apply Eq.refl) | (apply p_asB; apply Eq.refl) | (apply p_gtr; apply Eq.refl; apply Eq.refl) | (apply p_len_str; apply Eq.refl) | (apply p_pick_t; apply Eq.refl; apply Eq.refl) | (apply p_pick_f; apply Eq.refl; apply Eq.refl)); apply Eq.refl) | (apply w_nil) | (apply c_seq) | (apply e_then) | (apply c_region) | (apply w_on; apply Eq.refl) | (apply w_off; apply Eq.refl; apply Eq.refl) | (apply w_ord; apply Eq.refl; apply Eq.refl; (repeat (first | apply Seg.pick | apply Seg.op | apply Seg.op0)); apply Eq.refl; intro _) | (apply e_sc; (repeat (first | exact Over.base | exact Over.refl | refine Over.put rfl ?_ | refine Over.cnP rfl ?_ | refine Over.zpP rfl ?_)); apply Eq.refl) | (intro _))
  first | refine c_ifd rfl (fun g => ?_) (fun g => ?_) | refine c_ifnd rfl (fun g => ?_) (fun g => ?_) | refine c_ifn rfl (fun g => ?_) (fun g => ?_) | refine c_cond rfl (fun g => ?_) (fun g => ?_)
  · repeat (first | (apply c_seq) | (apply c_region))
    refine w_callB cl6 (awake18_ok _) rfl (fun w1 hb1 => ?_)
    repeat (first | (apply w_op; (apply p_asB; apply Eq.refl); apply Eq.refl) | (apply w_nil) | (apply e_then) | (apply c_ret) | (apply e_then_ret))
    exact r_ret1 Tryd.results4 rfl ⟨rfl, hb1⟩
  · simp only [Bool.or_eq_false_iff, decide_eq_false_iff_not] at g
    have hp : p.size ≤ 1000 := by omega
    have ht : t.size ≤ 1000 := by omega
    have hsz : (plainB t).1.size ≤ 1000 := by
      unfold plainB
      split
      · show (t.extract 9 t.size).size ≤ 1000
        rw [ByteArray.size_extract]; omega
      · show (0 : Nat) ≤ _; omega
    repeat (first | (apply w_op; (apply p_mvS; apply Eq.refl); apply Eq.refl) | (apply c_seq) | (apply e_then) | (apply c_region) | (apply c_skip))
    refine w_callS cl11 (munge_ok t _ (by omega)) rfl ?_
    repeat (first | (apply w_op; (first | (apply p_mvS; apply Eq.refl) | (apply p_asS; apply Eq.refl)); apply Eq.refl) | (apply w_nil) | (apply c_seq) | (apply e_then) | (apply c_region))
    refine w_callS cl7 (plain_ok (mungeB t) _) rfl ?_
    rw [hpm]
    repeat (first | (apply w_op; (first | (apply p_mvS; apply Eq.refl) | (apply p_mvT; apply Eq.refl) | (apply p_asS; apply Eq.refl) | (apply p_asB; apply Eq.refl) | (apply p_extract; apply Eq.refl; apply Eq.refl)); apply Eq.refl) | (apply w_nil) | (apply c_seq) | (apply e_then) | (apply c_region))
    refine w_callS cl7 (plain_ok t _) rfl ?_
    repeat (first | (apply w_op; (first | (apply p_mvS; apply Eq.refl) | (apply p_mvT; apply Eq.refl) | (apply p_asS; apply Eq.refl) | (apply p_asB; apply Eq.refl) | (apply p_extract; apply Eq.refl; apply Eq.refl)); apply Eq.refl) | (apply w_nil) | (apply c_seq) | (apply e_then) | (apply c_region))
    refine w_callB cl9 (safe_ok p (mungeB t) _ (by omega) (by omega)) rfl (fun w1 hb1 => ?_)
    have z1 := hb1.size
    rw [hms]
    repeat (first | (apply w_op; (first | (apply p_mvS; apply Eq.refl) | (apply p_mvB; apply Eq.refl) | (apply p_seql; apply Eq.refl; apply Eq.refl) | (apply p_not; apply Eq.refl) | (apply p_pick_t; apply Eq.refl; apply Eq.refl)); apply Eq.refl) | (apply w_on; apply Eq.refl))
    rw [show decide (t = t) = true from decide_eq_true rfl]
    repeat (first | (apply w_op; (first | (apply p_mvB; apply Eq.refl) | (apply p_not; apply Eq.refl)); apply Eq.refl) | (apply w_on; apply Eq.refl))
    cases hq : (plainB t).2
    · repeat (first | (apply w_op; (first | (apply p_mvB; apply Eq.refl) | (apply p_pick_t; apply Eq.refl; apply Eq.refl)); apply Eq.refl) | (apply w_on; apply Eq.refl) | (apply w_off; apply Eq.refl; apply Eq.refl) | (apply w_off2; apply Eq.refl; apply Eq.refl))
      refine w_callB cl6 (awake18_ok _) rfl (fun w3 hb3 => ?_)
      repeat (first | (apply w_op; (first | (apply p_asB; apply Eq.refl) | (apply p_pick_t; apply Eq.refl; apply Eq.refl)); apply Eq.refl) | (apply w_nil) | (apply e_then) | (apply c_ret))
      exact r_ret1 Tryd.results4 rfl ⟨rfl, hb1.trans (hb3.mono z1)⟩
    · have hm := hmp hq
      have hst : safeB p t = false := by rw [← hm]; exact munge_safe p _
      repeat (first | (apply w_op; (apply p_mvS; apply Eq.refl); apply Eq.refl) | (apply w_on; apply Eq.refl))
      refine w_callS cl11 (munge_ok (plainB t).1 _ (by omega)) rfl ?_
      rw [hm]
      repeat (first | (apply w_op; (first | (apply p_mvS; apply Eq.refl) | (apply p_mvB; apply Eq.refl) | (apply p_seql; apply Eq.refl; apply Eq.refl)); apply Eq.refl) | (apply w_on; apply Eq.refl))
      rw [show decide (t = t) = true from decide_eq_true rfl]
      repeat (first | (apply w_op; (apply p_mvS; apply Eq.refl); apply Eq.refl) | (apply w_on; apply Eq.refl))
      refine w_callB cl9 (safe_ok p t _ (by omega) (by omega)) rfl (fun w2 hb2 => ?_)
      have hbel2 := hb1.trans (hb2.mono z1)
      have z2 := hbel2.size
      rw [hst]
      repeat (first | (apply w_op; (first | (apply p_mvB; apply Eq.refl) | (apply p_not; apply Eq.refl) | (apply p_pick_t; apply Eq.refl; apply Eq.refl) | (apply p_pick_f; apply Eq.refl; apply Eq.refl)); apply Eq.refl) | (apply w_on; apply Eq.refl))
      refine w_callB cl6 (awake18_ok _) rfl (fun w3 hb3 => ?_)
      repeat (first | (apply w_op; (first | (apply p_asB; apply Eq.refl) | (apply p_pick_t; apply Eq.refl; apply Eq.refl)); apply Eq.refl) | (apply w_nil) | (apply e_then) | (apply c_ret))
      exact r_ret1 Tryd.results4 rfl ⟨rfl, hbel2.trans (hb3.mono z2)⟩
end Go.Proofs.YtmgheamdboiklaaDoor
