/- THE WALKS of the document's answer for rules (remoraref15): one, whole. -/
import Derived.Test.YtjcbnohnilffoaaRules
import Derived.Test.YtjcbnohnilffoaaRef13b
import Derived.Test.YtjcbnohnilffoaaRef14d
set_option linter.unusedVariables false
set_option linter.unusedSimpArgs false
namespace Go.Proofs.Ytjcbnohnilffoaa
open Go.RowKit

theorem patBad_nil {p : ByteArray} (h : p.size = 0) : patBad p = true := by
  have : p = { data := #[] } := ls_inj (by have := ls_len p; rw [h] at this; rw [List.eq_nil_of_length_eq_zero this]; rfl)
  rw [patBad, decide_eq_true this]; rfl
theorem patBad_pos {p : ByteArray} (h : 0 < p.size) : patBad p = (decide (bAt p 0 = 47) || decide (bAt p (p.size - 1) = 47) || decide ((10 : UInt8) ∈ lsB p)) := by
  have : ¬ p = { data := #[] } := by intro e; subst e; exact absurd h (by decide)
  rw [patBad, decide_eq_false this]; rfl

set_option maxRecDepth 100000 in
theorem rone_ok (r : Rl) (w : World) (hs : r.pat.size ≤ 9223372036854775807) : Ret Try.prog 78 [.agg (enR r).toArray] w fun v w' => v = .int .i64 (rlErr r) ∧ Below w.heap.size w w' := by
  have hls := ls_len r.pat
  refine calls_in Try.func78 rfl Try.ntmps78 rfl ?_
  refine c_seq (c_region (w_box rfl rfl (fun b w1 hn => ?_)))
  have hb : Cel w1 ⟨b, 0, none⟩ (enR r) := hn.blk.obj0
  have hbel := hn.below (Below.refl _ _) (Nat.le_refl _)
  clear hn
  repeat (first | (apply w_op; (first | (apply p_asI; apply Eq.refl) | (apply p_fieldAddr; apply Eq.refl)); apply Eq.refl) | (apply w_nil) | (apply c_seq) | (apply e_then) | (apply c_region))
  refine w_op (p_load0 (v := .int .i64 r.act) rfl (by rw [addr_add_zero]; exact hb) rfl) rfl ?_
  repeat (apply w_op; (first | (apply p_mvB; apply Eq.refl) | (apply p_lss; apply Eq.refl; apply Eq.refl)); apply Eq.refl)
  refine w_bool 8 rfl (fun h => ?_) (fun h => ?_)
  · have h' := of_decide_eq_true h
    repeat (first | (apply w_op; (first | (apply p_asI; apply Eq.refl) | (apply p_pick_t; apply Eq.refl; apply Eq.refl)); apply Eq.refl) | (apply w_nil) | (apply c_seq) | (apply e_then) | (apply c_region) | (apply w_off; apply Eq.refl; apply Eq.refl) | (apply c_cond_t; apply Eq.refl) | (apply c_ret) | (apply e_then_ret))
    exact r_ret1 Try.results78 rfl ⟨congrArg (Value.int .i64) (by rw [rlErr, if_pos (by omega)]), hbel⟩
  · have h' := of_decide_eq_false h
    repeat (first | (apply w_op; (apply p_fieldAddr; apply Eq.refl); apply Eq.refl) | (apply w_on; apply Eq.refl))
    refine w_op (p_load0 (v := .int .i64 r.act) rfl (by rw [addr_add_zero]; exact hb) rfl) rfl ?_
    repeat (first | (apply w_op; (first | (apply p_gtr; apply Eq.refl; apply Eq.refl) | (apply p_pick_f; apply Eq.refl; apply Eq.refl)); apply Eq.refl) | (apply w_nil) | (apply e_then) | (apply w_on; apply Eq.refl))
    refine c_cond rfl (fun h2 => ?_) (fun h2 => ?_)
    · have h2' := of_decide_eq_true h2
      repeat (first | (apply w_op; (apply p_asI; apply Eq.refl); apply Eq.refl) | (apply w_nil) | (apply c_seq) | (apply e_then) | (apply c_region) | (apply c_ret) | (apply e_then_ret))
      exact r_ret1 Try.results78 rfl ⟨congrArg (Value.int .i64) (by rw [rlErr, if_pos (by omega)]), hbel⟩
    · have h2' := of_decide_eq_false h2
      have hact : ¬ (r.act ≤ 0 ∨ 4 < r.act) := by omega
      repeat (first | (apply w_op; (apply p_fieldAddr; apply Eq.refl); apply Eq.refl) | (apply c_seq) | (apply e_then) | (apply c_region) | (apply c_skip))
      refine w_op (p_loadF (j := 1) (v := .string r.pat) rfl hb rfl) rfl ?_
      repeat (first | (apply w_op; (first | (apply p_mvI; apply Eq.refl) | (apply p_mvB; apply Eq.refl) | (apply p_asI; apply Eq.refl) | (apply p_eql; apply Eq.refl; apply Eq.refl) | (apply p_len_str; apply Eq.refl)); apply Eq.refl) | (apply w_nil) | (apply c_seq) | (apply e_then) | (apply c_region))
      refine w_bool 18 rfl (fun g => ?_) (fun g => ?_)
      · have g' : r.pat.size = 0 := by have := of_decide_eq_true g; omega
        repeat (first | (apply w_op; (first | (apply p_mvB; apply Eq.refl) | (apply p_asI; apply Eq.refl) | (apply p_pick_t; apply Eq.refl; apply Eq.refl)); apply Eq.refl) | (apply w_nil) | (apply c_seq) | (apply e_then) | (apply c_region) | (apply w_off; apply Eq.refl; apply Eq.refl) | (apply c_cond_t; apply Eq.refl) | (apply c_ret) | (apply e_then_ret))
        exact r_ret1 Try.results78 rfl ⟨congrArg (Value.int .i64) (by rw [rlErr, if_neg hact, if_pos (patBad_nil g')]), hbel⟩
      · have hsz : 0 < r.pat.size := by have := of_decide_eq_false g; omega
        have hpb := patBad_pos hsz
        repeat (first | (apply w_op; (apply p_fieldAddr; apply Eq.refl); apply Eq.refl) | (apply w_on; apply Eq.refl))
        refine w_op (p_loadF (j := 1) (v := .string r.pat) rfl hb rfl) rfl ?_
        repeat (first | (apply w_op; (first | (apply p_mvB; apply Eq.refl) | (apply p_eql; apply Eq.refl; apply Eq.refl) | (apply p_pick_f; apply Eq.refl; apply Eq.refl) | (apply p_index; apply Eq.refl; apply Eq.refl; omega)); apply Eq.refl) | (apply w_on; apply Eq.refl))
        refine w_bool 24 rfl (fun g2 => ?_) (fun g2 => ?_)
        · have e2 : decide (bAt r.pat 0 = 47) = true := by rw [← g2]; exact decide_eq_decide.2 (byte_is (c := 47)).symm
          repeat (first | (apply w_op; (first | (apply p_asI; apply Eq.refl) | (apply p_pick_t; apply Eq.refl; apply Eq.refl)); apply Eq.refl) | (apply w_nil) | (apply c_seq) | (apply e_then) | (apply c_region) | (apply w_off; apply Eq.refl; apply Eq.refl) | (apply c_cond_t; apply Eq.refl) | (apply c_ret) | (apply e_then_ret))
          exact r_ret1 Try.results78 rfl ⟨congrArg (Value.int .i64) (by rw [rlErr, if_neg hact, if_pos (by rw [hpb, e2]; rfl)]), hbel⟩
        · have e2 : decide (bAt r.pat 0 = 47) = false := by rw [← g2]; exact decide_eq_decide.2 (byte_is (c := 47)).symm
          repeat (first | (apply w_op; (apply p_fieldAddr; apply Eq.refl); apply Eq.refl) | (apply w_on; apply Eq.refl))
          refine w_op (p_loadF (j := 1) (v := .string r.pat) rfl hb rfl) rfl ?_
          repeat (first | (apply w_op; (first | (apply p_mvI; apply Eq.refl) | (apply p_eql; apply Eq.refl; apply Eq.refl) | (apply p_pick_f; apply Eq.refl; apply Eq.refl) | (apply p_sub64; apply Eq.refl; apply Eq.refl; omega) | (apply p_index; apply Eq.refl; apply Eq.refl; omega)); apply Eq.refl) | (apply w_nil) | (apply e_then) | (apply w_on; apply Eq.refl))
          refine c_cond rfl (fun g3 => ?_) (fun g3 => ?_)
          · have e3 : decide (bAt r.pat (r.pat.size - 1) = 47) = true := by rw [← g3, show ((r.pat.size : Int) - 1).toNat = r.pat.size - 1 from by omega]; exact decide_eq_decide.2 (byte_is (c := 47)).symm
            repeat (first | (apply w_op; (apply p_asI; apply Eq.refl); apply Eq.refl) | (apply w_nil) | (apply c_seq) | (apply e_then) | (apply c_region) | (apply c_ret) | (apply e_then_ret))
            exact r_ret1 Try.results78 rfl ⟨congrArg (Value.int .i64) (by rw [rlErr, if_neg hact, if_pos (by rw [hpb, e2, e3]; rfl)]), hbel⟩
          · have e3 : decide (bAt r.pat (r.pat.size - 1) = 47) = false := by rw [← g3, show ((r.pat.size : Int) - 1).toNat = r.pat.size - 1 from by omega]; exact decide_eq_decide.2 (byte_is (c := 47)).symm
            rw [e2, e3, Bool.false_or, Bool.false_or] at hpb
            repeat (first | (apply w_op; (apply p_asI; apply Eq.refl); apply Eq.refl) | (apply w_nil) | (apply c_seq) | (apply e_then) | (apply c_region) | (apply c_block) | (apply c_skip))
            refine c_loop [4] [2, 32, 33, 34, 35, 36, 37, 38, 39, 40, 41] (fun vs w2 => w2 = w1 ∧ ∃ k : Nat, vs = [.int .i64 (k : Int)] ∧ k ≤ r.pat.size ∧ (10 : UInt8) ∉ (lsB r.pat).take k) (fun vs _ => r.pat.size - (intOf (vs.headD undef)).toNat) rfl
              ⟨rfl, 0, rfl, Nat.zero_le _, by simp⟩ ?_
            rintro _ u w2 ⟨rfl, k, rfl, hk, hno⟩
            repeat (first | (apply w_op; (first | (apply p_mvI; apply Eq.refl) | (apply p_lss; apply Eq.refl; apply Eq.refl)); apply Eq.refl) | (apply w_nil) | (apply c_seq) | (apply e_then) | (apply c_region))
            refine c_cond rfl (fun q => ?_) (fun q => ?_)
            · have hk1 : k < r.pat.size := by have := of_decide_eq_true q; omega
              have hget : (lsB r.pat)[k]'(by omega) = bAt r.pat k := by rw [bAt_get, List.getD, List.getElem?_eq_getElem (by omega)]; rfl
              repeat (first | (apply w_op; (apply p_fieldAddr; apply Eq.refl); apply Eq.refl) | (apply c_seq) | (apply e_then) | (apply c_region) | (apply c_block) | (apply c_skip))
              refine w_op (p_loadF (j := 1) (v := .string r.pat) rfl hb rfl) rfl ?_
              repeat (first | (apply w_op; (first | (apply p_mvI; apply Eq.refl) | (apply p_eql; apply Eq.refl; apply Eq.refl) | (apply p_index; apply Eq.refl; apply Eq.refl; omega)); apply Eq.refl) | (apply w_nil) | (apply e_then))
              refine c_cond rfl (fun q2 => ?_) (fun q2 => ?_)
              · have q2' : bAt r.pat k = 10 := (byte_is (c := 10)).1 (of_decide_eq_true q2)
                repeat (first | (apply w_op; (apply p_asI; apply Eq.refl); apply Eq.refl) | (apply w_nil) | (apply c_seq) | (apply e_then) | (apply c_region) | (apply c_ret) | (apply e_then_ret) | (apply e_bk_ret) | (apply e_lp_ret))
                refine r_ret1 Try.results78 rfl ⟨congrArg (Value.int .i64) ?_, hbel⟩
                have : (10 : UInt8) ∈ lsB r.pat := by rw [← q2', ← hget]; exact List.getElem_mem _
                rw [rlErr, if_neg hact, if_pos (by rw [hpb]; exact decide_eq_true this)]
              · have q2' : bAt r.pat k ≠ 10 := fun e => of_decide_eq_false q2 ((byte_is (c := 10)).2 e)
                repeat (first | (apply w_op; (first | (apply p_mvI; apply Eq.refl) | (apply p_asI; apply Eq.refl) | (apply p_add64; apply Eq.refl; apply Eq.refl; omega)); apply Eq.refl) | (apply w_nil) | (apply e_then) | (apply c_region) | (apply c_skip) | (apply e_bk))
                refine e_lp (by repeat (first | exact Over.base | exact Over.refl | refine Over.put rfl ?_ | refine Over.cnP rfl ?_ | refine Over.zpP rfl ?_)) ?_
                refine ⟨⟨rfl, k + 1, rfl, by omega, ?_⟩, ?_⟩
                · rw [List.take_succ_eq_append_getElem (by omega), hget]
                  intro h
                  rcases List.mem_append.1 h with h | h
                  · exact hno h
                  · simp at h; exact q2' h.symm
                · show r.pat.size - ((k : Int) + 1).toNat < r.pat.size - ((k : Int)).toNat
                  omega
            · have hge := of_decide_eq_false q
              obtain rfl : k = r.pat.size := by omega
              rw [← hls, List.take_length] at hno
              repeat (first | (apply w_op; (apply p_fieldAddr; apply Eq.refl); apply Eq.refl) | (apply c_seq) | (apply e_then) | (apply c_region) | (apply c_exit) | (apply e_then_exit) | (apply e_bk_same) | (apply e_lp_exit))
              refine w_op (p_loadF (j := 1) (v := .string r.pat) rfl hb rfl) rfl ?_
              refine w_call cl86 (rgcheck_ok r.pat _) rfl ?_
              rintro v w3 ⟨rfl, hb3⟩
              repeat (first | (apply w_op; (apply p_asI; apply Eq.refl); apply Eq.refl) | (apply w_nil) | (apply e_then) | (apply c_ret))
              refine r_ret1 Try.results78 rfl ⟨congrArg (Value.int .i64) ?_, hbel.trans (hb3.mono hbel.size)⟩
              show globErr r.pat = _
              rw [rlErr, if_neg hact, if_neg (by rw [hpb, decide_eq_false hno]; decide)]

theorem rwhole_ok (r : Rl) (w : World) (hs : r.pat.size ≤ 9223372036854775807) : Ret Try.prog 79 [.agg (enR r).toArray] w fun v w' => v = .bool (rlWhole r) ∧ Below w.heap.size w w' := by
  have hls := ls_len r.pat
  refine calls_in Try.func79 rfl Try.ntmps79 rfl ?_
  refine c_seq (c_region (w_box rfl rfl (fun b w1 hn => ?_)))
  have hb : Cel w1 ⟨b, 0, none⟩ (enR r) := hn.blk.obj0
  have hbel := hn.below (Below.refl _ _) (Nat.le_refl _)
  clear hn
  repeat (first | (apply w_op; (first | (apply p_asI; apply Eq.refl) | (apply p_asB; apply Eq.refl)); apply Eq.refl) | (apply w_nil) | (apply c_seq) | (apply e_then) | (apply c_region) | (apply c_block))
  refine c_loop [3] [2, 4, 5, 6, 7, 8, 9, 10, 11, 12, 13, 14, 15] (fun vs w2 => w2 = w1 ∧ ∃ k : Nat, vs = [.int .i64 (k : Int)] ∧ k ≤ r.pat.size ∧ (47 : UInt8) ∉ (lsB r.pat).take k) (fun vs _ => r.pat.size - (intOf (vs.headD undef)).toNat) rfl
    ⟨rfl, 0, rfl, Nat.zero_le _, by simp⟩ ?_
  rintro _ u w2 ⟨rfl, k, rfl, hk, hno⟩
  repeat (first | (apply w_op; (first | (apply p_mvI; apply Eq.refl) | (apply p_fieldAddr; apply Eq.refl)); apply Eq.refl) | (apply c_seq) | (apply c_region))
  refine w_op (p_loadF (j := 1) (v := .string r.pat) rfl hb rfl) rfl ?_
  repeat (first | (apply w_op; (first | (apply p_lss; apply Eq.refl; apply Eq.refl) | (apply p_len_str; apply Eq.refl)); apply Eq.refl) | (apply w_nil) | (apply e_then))
  refine c_cond rfl (fun q => ?_) (fun q => ?_)
  · have hk1 : k < r.pat.size := by have := of_decide_eq_true q; omega
    have hget : (lsB r.pat)[k]'(by omega) = bAt r.pat k := by rw [bAt_get, List.getD, List.getElem?_eq_getElem (by omega)]; rfl
    repeat (first | (apply w_op; (apply p_fieldAddr; apply Eq.refl); apply Eq.refl) | (apply c_seq) | (apply e_then) | (apply c_region) | (apply c_block) | (apply c_skip))
    refine w_op (p_loadF (j := 1) (v := .string r.pat) rfl hb rfl) rfl ?_
    repeat (first | (apply w_op; (first | (apply p_mvI; apply Eq.refl) | (apply p_eql; apply Eq.refl; apply Eq.refl) | (apply p_index; apply Eq.refl; apply Eq.refl; omega)); apply Eq.refl) | (apply w_nil) | (apply e_then))
    refine c_cond rfl (fun q2 => ?_) (fun q2 => ?_)
    · have q2' : bAt r.pat k = 47 := (byte_is (c := 47)).1 (of_decide_eq_true q2)
      repeat (first | (apply w_op; (apply p_asB; apply Eq.refl); apply Eq.refl) | (apply w_nil) | (apply c_seq) | (apply e_then) | (apply c_region) | (apply c_ret) | (apply e_then_ret) | (apply e_bk_ret) | (apply e_lp_ret))
      refine r_ret1 Try.results79 rfl ⟨congrArg Value.bool ?_, hbel⟩
      have : (47 : UInt8) ∈ lsB r.pat := by rw [← q2', ← hget]; exact List.getElem_mem _
      show true = _
      rw [rlWhole, decide_eq_true this, Bool.or_true]
    · have q2' : bAt r.pat k ≠ 47 := fun e => of_decide_eq_false q2 ((byte_is (c := 47)).2 e)
      repeat (first | (apply w_op; (first | (apply p_mvI; apply Eq.refl) | (apply p_asI; apply Eq.refl) | (apply p_add64; apply Eq.refl; apply Eq.refl; omega)); apply Eq.refl) | (apply w_nil) | (apply e_then) | (apply c_region) | (apply c_skip) | (apply e_bk))
      refine e_lp (by repeat (first | exact Over.base | exact Over.refl | refine Over.put rfl ?_ | refine Over.cnP rfl ?_ | refine Over.zpP rfl ?_)) ?_
      refine ⟨⟨rfl, k + 1, rfl, by omega, ?_⟩, ?_⟩
      · rw [List.take_succ_eq_append_getElem (by omega), hget]
        intro h
        rcases List.mem_append.1 h with h | h
        · exact hno h
        · simp at h; exact q2' h.symm
      · show r.pat.size - ((k : Int) + 1).toNat < r.pat.size - ((k : Int)).toNat
        omega
  · have hge := of_decide_eq_false q
    obtain rfl : k = r.pat.size := by omega
    rw [← hls, List.take_length] at hno
    repeat (first | (apply w_op; (apply p_fieldAddr; apply Eq.refl); apply Eq.refl) | (apply c_seq) | (apply e_then) | (apply c_region) | (apply c_exit) | (apply e_then_exit) | (apply e_bk_same) | (apply e_lp_exit))
    refine w_op (p_loadF (j := 3) (v := .bool r.whole) rfl hb rfl) rfl ?_
    repeat (first | (apply w_op; (apply p_asB; apply Eq.refl); apply Eq.refl) | (apply w_nil) | (apply e_then) | (apply c_ret))
    refine r_ret1 Try.results79 rfl ⟨congrArg Value.bool ?_, hbel⟩
    rw [rlWhole, decide_eq_false hno, Bool.or_false]
end Go.Proofs.Ytjcbnohnilffoaa
