/- THE WALKS of the document's answer for rules (remoraref15): Matches, Act, Hidden, Safe. -/
import Derived.Test.YtjcbnohnilffoaaRef15
set_option linter.unusedVariables false
set_option linter.unusedSimpArgs false
namespace Go.Proofs.Ytjcbnohnilffoaa
open Go.RowKit

set_option maxRecDepth 100000 in
theorem rrmatches_ok (r : Rl) (n : ByteArray) (d : Bool) (w : World) (hs : r.pat.size ≤ 9223372036854775807) (hn : n.size ≤ 1099511627775) : Ret Try.prog 74 [.agg (enR r).toArray, .string n, .bool d] w fun v w' => v = .bool (rlMatch r n d) ∧ Below w.heap.size w w' := by
  refine calls_in Try.func74 rfl Try.ntmps74 rfl ?_
  refine c_seq (c_region (w_box rfl rfl (fun b w1 hn1 => ?_)))
  have hb := hn1.blk.obj0
  have hbel := hn1.below (Below.refl _ _) (Nat.le_refl _)
  have hlt := hn1.blk.lt
  repeat (first | (apply w_op; (apply p_asB; apply Eq.refl); apply Eq.refl) | (apply w_nil) | (apply c_seq) | (apply e_then) | (apply c_region))
  refine w_op (p_loadS rfl hb rfl) rfl ?_
  refine w_call cl78 (rone_ok r _ hs) rfl ?_
  rintro v w2 ⟨rfl, hb2⟩
  have hb' := hb.below hb2 hlt
  have hbel2 := hbel.trans (hb2.mono hbel.size)
  repeat (apply w_op; (first | (apply p_mvB; apply Eq.refl) | (apply p_neq; apply Eq.refl; apply Eq.refl)); apply Eq.refl)
  refine w_bool 10 rfl (fun g => ?_) (fun g => ?_)
  · have g' : rlErr r ≠ 0 := by simpa using g
    repeat (first | (apply w_op; (first | (apply p_mvB; apply Eq.refl) | (apply p_asB; apply Eq.refl) | (apply p_pick_t; apply Eq.refl; apply Eq.refl)); apply Eq.refl) | (apply w_nil) | (apply c_seq) | (apply e_then) | (apply c_region) | (apply w_off; apply Eq.refl; apply Eq.refl) | (apply w_off2; apply Eq.refl; apply Eq.refl) | (apply c_cond_t; apply Eq.refl) | (apply c_ret) | (apply e_then_ret))
    exact r_ret1 Try.results74 rfl ⟨congrArg Value.bool (by rw [rlMatch, if_pos (.inl g')]), hbel2⟩
  · have g' : ¬ rlErr r ≠ 0 := by simpa using g
    repeat (first | (apply w_op; (apply p_mvS; apply Eq.refl); apply Eq.refl) | (apply w_on; apply Eq.refl))
    refine w_call cl61 (rright_ok n _ hn) rfl ?_
    rintro v w3 ⟨rfl, hb3⟩
    have hb'' := hb'.below hb3 (Nat.lt_of_lt_of_le hlt hb2.size)
    have hbel3 := hbel2.trans (hb3.mono hbel2.size)
    have hlt3 : b < w3.heap.size := Nat.lt_of_lt_of_le (Nat.lt_of_lt_of_le hlt hb2.size) hb3.size
    repeat (first | (apply w_op; (first | (apply p_mvB; apply Eq.refl) | (apply p_not; apply Eq.refl) | (apply p_pick_f; apply Eq.refl; apply Eq.refl)); apply Eq.refl) | (apply w_on; apply Eq.refl))
    refine w_bool 15 rfl (fun q => ?_) (fun q => ?_)
    · have q' : right n = false := by simpa using q
      repeat (first | (apply w_op; (first | (apply p_mvB; apply Eq.refl) | (apply p_asB; apply Eq.refl) | (apply p_pick_t; apply Eq.refl; apply Eq.refl)); apply Eq.refl) | (apply w_nil) | (apply c_seq) | (apply e_then) | (apply c_region) | (apply w_off; apply Eq.refl; apply Eq.refl) | (apply w_off2; apply Eq.refl; apply Eq.refl) | (apply c_cond_t; apply Eq.refl) | (apply c_ret) | (apply e_then_ret))
      exact r_ret1 Try.results74 rfl ⟨congrArg Value.bool (by rw [rlMatch, if_pos (.inr (.inr (.inl q')))]), hbel3⟩
    · have q' : ¬ right n = false := by simpa using q
      repeat (first | (apply w_op; (first | (apply p_mvS; apply Eq.refl) | (apply p_mvB; apply Eq.refl) | (apply p_seql; apply Eq.refl; apply Eq.refl) | (apply p_pick_f; apply Eq.refl; apply Eq.refl)); apply Eq.refl) | (apply w_on; apply Eq.refl))
      refine w_bool 19 rfl (fun h => ?_) (fun h => ?_)
      · have h' := of_decide_eq_true h
        repeat (first | (apply w_op; (first | (apply p_asB; apply Eq.refl) | (apply p_pick_t; apply Eq.refl; apply Eq.refl)); apply Eq.refl) | (apply w_nil) | (apply c_seq) | (apply e_then) | (apply c_region) | (apply w_off; apply Eq.refl; apply Eq.refl) | (apply w_off2; apply Eq.refl; apply Eq.refl) | (apply c_cond_t; apply Eq.refl) | (apply c_ret) | (apply e_then_ret))
        exact r_ret1 Try.results74 rfl ⟨congrArg Value.bool (by rw [rlMatch, if_pos (.inr (.inl h'))]), hbel3⟩
      · have h' := of_decide_eq_false h
        repeat (first | (apply w_op; (apply p_fieldAddr; apply Eq.refl); apply Eq.refl) | (apply w_on; apply Eq.refl))
        refine w_op (p_loadF (j := 2) (v := .bool r.dir) rfl hb'' rfl) rfl ?_
        refine w_cut1 [26] [21, 22, 23, 24, 25] (fun vs w4 => vs = [.bool (r.dir && !d)] ∧ w4 = w3) ?_ ?_
        · repeat (first | (apply w_op; (apply p_mvB; apply Eq.refl); apply Eq.refl) | (apply w_on; apply Eq.refl))
          refine w_bool 22 rfl (fun g3 => ?_) (fun g3 => ?_)
          · repeat (first | (apply w_op; (first | (apply p_mvB; apply Eq.refl) | (apply p_not; apply Eq.refl) | (apply p_pick_t; apply Eq.refl; apply Eq.refl) | (apply p_pick_f; apply Eq.refl; apply Eq.refl)); apply Eq.refl) | (apply w_nil) | (apply w_on; apply Eq.refl))
            refine e_ct (by repeat (first | exact Over.base | exact Over.refl | refine Over.put rfl ?_ | refine Over.cnP rfl ?_ | refine Over.zpP rfl ?_)) ?_
            refine ⟨?_, rfl⟩
            rw [g3]; rfl
          · repeat (first | (apply w_op; (apply p_pick_f; apply Eq.refl; apply Eq.refl); apply Eq.refl) | (apply w_nil) | (apply w_on; apply Eq.refl) | (apply w_off; apply Eq.refl; apply Eq.refl))
            refine e_ct (by repeat (first | exact Over.base | exact Over.refl | refine Over.put rfl ?_ | refine Over.cnP rfl ?_ | refine Over.zpP rfl ?_)) ?_
            refine ⟨?_, rfl⟩
            rw [g3]; rfl
        · rintro _ u w4 ⟨rfl, rfl⟩
          skip
          refine c_cond rfl (fun q2 => ?_) (fun q2 => ?_)
          · have q2' : r.dir = true ∧ d = false := by simpa using q2
            repeat (first | (apply w_op; (apply p_asB; apply Eq.refl); apply Eq.refl) | (apply w_nil) | (apply c_seq) | (apply e_then) | (apply c_region) | (apply c_ret) | (apply e_then_ret))
            exact r_ret1 Try.results74 rfl ⟨congrArg Value.bool (by rw [rlMatch, if_pos (.inr (.inr (.inr q2')))]), hbel3⟩
          · have q2' : ¬ (r.dir = true ∧ d = false) := by simpa using q2
            have hm : rlMatch r n d = if rlWhole r then glob r.pat n else glob r.pat (base n) := by
              rw [rlMatch, if_neg]
              rintro (e | e | e | e)
              · exact g' e
              · exact h' e
              · exact q' e
              · exact q2' e
            repeat (first | (apply c_seq) | (apply e_then) | (apply c_region) | (apply c_skip))
            refine w_op (p_loadS rfl hb'' rfl) rfl ?_
            refine w_call cl79 (rwhole_ok r _ hs) rfl ?_
            rintro v w5 ⟨rfl, hb5⟩
            have hb5' := hb''.below hb5 hlt3
            have hbel5 := hbel3.trans (hb5.mono hbel3.size)
            have hlt5 : b < w5.heap.size := Nat.lt_of_lt_of_le hlt3 hb5.size
            repeat (first | (apply w_nil) | (apply e_then))
            refine c_cond rfl (fun g3 => ?_) (fun g3 => ?_)
            · repeat (first | (apply w_op; (apply p_fieldAddr; apply Eq.refl); apply Eq.refl) | (apply c_seq) | (apply c_region))
              refine w_op (p_loadF (j := 1) (v := .string r.pat) rfl hb5' rfl) rfl ?_
              repeat (apply w_op; (apply p_mvS; apply Eq.refl); apply Eq.refl)
              refine w_call cl80 (rmatch_ok r.pat n _ hn) rfl ?_
              rintro v w6 ⟨rfl, hb6⟩
              repeat (first | (apply w_op; (apply p_asB; apply Eq.refl); apply Eq.refl) | (apply w_nil) | (apply e_then) | (apply c_ret) | (apply e_then_ret))
              exact r_ret1 Try.results74 rfl ⟨congrArg Value.bool (by rw [hm, g3]; rfl), hbel5.trans (hb6.mono hbel5.size)⟩
            · repeat (first | (apply c_seq) | (apply e_then) | (apply c_skip))
              refine c_quiet (fun x => Below w5.heap.size w5 x) mixed (by kernel_rfl) (Below.refl _ _).drew ?_
              repeat (apply q_op; intro _ hC; (apply p_fieldAddr; apply Eq.refl); apply Eq.refl)
              refine q_op (fun x hx => p_loadF (j := 1) (v := .string r.pat) rfl (hb5'.below hx hlt5) rfl) rfl ?_
              repeat (apply q_op; intro _ hC; (apply p_mvS; apply Eq.refl); apply Eq.refl)
              refine q_call cl81 (.string (base n)) (fun x hx => ?_) rfl ?_
              · refine Ret.mono (rbase_ok n x hn) ?_
                rintro v' w' ⟨hv, hb'⟩
                exact ⟨hv, hx.trans (hb'.mono hx.size)⟩
              refine q_call cl80 (.bool (glob r.pat (base n))) (fun x hx => ?_) rfl ?_
              · refine Ret.mono (rmatch_ok r.pat (base n) x (Nat.le_trans (base_size n) hn)) ?_
                rintro v' w' ⟨hv, hb'⟩
                exact ⟨hv, hx.trans (hb'.mono hx.size)⟩
              repeat (apply q_op; intro _ hC; (apply p_asB; apply Eq.refl); apply Eq.refl)
              refine q_nil (fun w8 hb8 => ?_)
              repeat (first | (apply e_then) | (apply c_ret))
              exact r_ret1 Try.results74 rfl ⟨congrArg Value.bool (by rw [hm, g3]; rfl), hbel5.trans (hb8.mono hbel5.size)⟩

theorem match_act {r : Rl} {n : ByteArray} {d : Bool} (h : rlMatch r n d = true) : ¬ (r.act ≤ 0 ∨ 4 < r.act) := by
  intro e
  rw [rlMatch, if_pos] at h
  · cases h
  · left
    rw [rlErr, if_pos e]
    decide
theorem act_cond (r : Rl) (n : ByteArray) (d all : Bool) : ((all || decide (r.act < 3)) && rlMatch r n d) = ((all || decide (r.act = 1) || decide (r.act = 2)) && rlMatch r n d) := by
  cases hm : rlMatch r n d with
  | false => simp
  | true =>
    have := match_act hm
    have e : decide (r.act < 3) = (decide (r.act = 1) || decide (r.act = 2)) := by
      rw [← Bool.decide_or]; exact decide_eq_decide.2 (by omega)
    rw [e, Bool.or_assoc]

set_option maxRecDepth 100000 in
theorem rract_ok (vr : Value) (rs : List Rl) (n : ByteArray) (d all : Bool) (w : World) (B : Nat) (h : Rls w B vr rs) (hB : B ≤ w.heap.size) (hr : RlsIn rs) (hl : rs.length ≤ 1000000) (hn : n.size ≤ 1099511627775) :
    Ret Try.prog 63 [vr, .string n, .bool d, .bool all] w fun v w' => v = .int .i64 (rlAct all n d rs) ∧ Below w.heap.size w w' := by
  obtain ⟨A1, c1, rfl, hc1, hA1⟩ := h.out
  refine calls_in Try.func63 rfl Try.ntmps63 rfl ?_
  repeat (first | (apply w_op; (first | (apply p_mvI; apply Eq.refl) | (apply p_mvL; apply Eq.refl) | (apply p_asI; apply Eq.refl) | (apply p_len_sl; apply Eq.refl)); apply Eq.refl) | (apply w_nil) | (apply c_seq) | (apply e_then) | (apply c_region) | (apply c_block))
  refine c_loop [13] [8, 10, 14, 15, 16, 17, 18, 19, 20, 21, 22, 23, 24, 25, 26, 27, 28, 29, 30, 31] (fun vs w2 => ∃ k : Nat, vs = [.int .i64 (k : Int)] ∧ k ≤ rs.length ∧ Below w.heap.size w w2 ∧ rlAct all n d rs = rlAct all n d (rs.drop k)) (fun vs _ => rs.length - (intOf (vs.headD undef)).toNat) rfl
    ⟨0, rfl, Nat.zero_le _, Below.refl _ _, by simp⟩ ?_
  rintro _ u w2 ⟨k, rfl, hk, hb2, hact⟩
  have hs2 := h.below (hb2.mono hB)
  repeat (first | (apply w_op; (apply p_lss; apply Eq.refl; apply Eq.refl); apply Eq.refl) | (apply w_nil) | (apply c_seq) | (apply e_then) | (apply c_region))
  refine c_cond rfl (fun g => ?_) (fun g => ?_)
  · have hlt := of_decide_eq_true g
    have hk1 : k < rs.length := by omega
    obtain ⟨ad, rfl, hblk, hcel⟩ := hs2.at_ rfl hk1
    rw [List.drop_eq_getElem_cons hk1] at hact
    simp only [rlAct] at hact
    rw [← act_cond] at hact
    repeat (first | (apply w_op; (apply p_indexAddr; apply Eq.refl; apply Eq.refl; apply Eq.refl; omega); apply Eq.refl) | (apply c_seq) | (apply e_then) | (apply c_region) | (apply c_block) | (apply c_skip))
    refine w_op (p_loadS rfl hcel rfl) rfl ?_
    refine w_alloc rfl (fun b w3 hn3 => ?_)
    obtain ⟨cs3, hb3, hl3⟩ := hn3.zblk Try.prog
    refine w_storeW rfl rfl rfl rfl hb3 hl3 (fun w4 hp4 hb4 => ?_)
    have hz3 := hn3.size
    have hwb := hn3.hb
    have hz4 := hp4.size
    have hz2 := hb2.size
    have hbel4 := hp4.below (hn3.below hb2 hz2) (by omega) (by omega)
    have hc4 := hb4.obj0
    have hblt : b < w4.heap.size := hb4.lt
    repeat (first | (apply w_op; (apply p_mvB; apply Eq.refl); apply Eq.refl) | (apply w_nil) | (apply c_seq) | (apply e_then) | (apply c_region))
    refine w_cut1 [28] [18, 19, 20, 21, 22, 23, 24, 25, 26, 27] (fun vs w5 => vs = [.bool ((all || decide (rs[k].act < 3)) && rlMatch rs[k] n d)] ∧ Below w4.heap.size w4 w5) ?_ ?_
    · refine w_bool 18 rfl (fun g1 => ?_) (fun g1 => ?_)
      · repeat (first | (apply w_op; (first | (apply p_mvB; apply Eq.refl) | (apply p_pick_t; apply Eq.refl; apply Eq.refl)); apply Eq.refl) | (apply w_on; apply Eq.refl) | (apply w_off; apply Eq.refl; apply Eq.refl))
        refine w_op (p_loadS rfl hc4 rfl) rfl ?_
        repeat (first | (apply w_op; (first | (apply p_mvS; apply Eq.refl) | (apply p_mvB; apply Eq.refl)); apply Eq.refl) | (apply w_on; apply Eq.refl))
        refine w_call cl74 (rrmatches_ok rs[k] n d _ (hr.out _ (List.getElem_mem hk1)) hn) rfl ?_
        rintro v w5 ⟨rfl, hb5⟩
        repeat (first | (apply w_op; (apply p_pick_t; apply Eq.refl; apply Eq.refl); apply Eq.refl) | (apply w_nil))
        refine e_ct (by repeat (first | exact Over.base | exact Over.refl | refine Over.put rfl ?_ | refine Over.cnP rfl ?_ | refine Over.zpP rfl ?_)) ?_
        refine ⟨?_, hb5⟩
        show [Value.bool (rlMatch rs[k] n d)] = _
        simp_all
      · repeat (first | (apply w_op; (apply p_fieldAddr; apply Eq.refl); apply Eq.refl) | (apply w_on; apply Eq.refl))
        refine w_op (p_load0 (v := .int .i64 rs[k].act) rfl (by rw [addr_add_zero]; exact hc4) rfl) rfl ?_
        repeat (first | (apply w_op; (first | (apply p_mvB; apply Eq.refl) | (apply p_lss; apply Eq.refl; apply Eq.refl) | (apply p_pick_f; apply Eq.refl; apply Eq.refl)); apply Eq.refl) | (apply w_on; apply Eq.refl))
        refine w_bool 23 rfl (fun g2 => ?_) (fun g2 => ?_)
        · repeat (apply w_on; apply Eq.refl)
          refine w_op (p_loadS rfl hc4 rfl) rfl ?_
          repeat (first | (apply w_op; (first | (apply p_mvS; apply Eq.refl) | (apply p_mvB; apply Eq.refl)); apply Eq.refl) | (apply w_on; apply Eq.refl))
          refine w_call cl74 (rrmatches_ok rs[k] n d _ (hr.out _ (List.getElem_mem hk1)) hn) rfl ?_
          rintro v w5 ⟨rfl, hb5⟩
          repeat (first | (apply w_op; (apply p_pick_t; apply Eq.refl; apply Eq.refl); apply Eq.refl) | (apply w_nil))
          refine e_ct (by repeat (first | exact Over.base | exact Over.refl | refine Over.put rfl ?_ | refine Over.cnP rfl ?_ | refine Over.zpP rfl ?_)) ?_
          refine ⟨?_, hb5⟩
          show [Value.bool (rlMatch rs[k] n d)] = _
          simp_all
        · repeat (first | (apply w_op; (apply p_pick_f; apply Eq.refl; apply Eq.refl); apply Eq.refl) | (apply w_nil) | (apply w_off; apply Eq.refl; apply Eq.refl))
          refine e_ct (by repeat (first | exact Over.base | exact Over.refl | refine Over.put rfl ?_ | refine Over.cnP rfl ?_ | refine Over.zpP rfl ?_)) ?_
          refine ⟨?_, Below.refl _ _⟩
          show [Value.bool false] = _
          rw [g1, g2]; rfl
    · rintro _ u5 w5 ⟨rfl, hb5⟩
      have hc5 := hc4.below hb5 hblt
      have hbel5 := hbel4.trans (hb5.mono hbel4.size)
      skip
      refine c_cond rfl (fun q => ?_) (fun q => ?_)
      · repeat (first | (apply w_op; (apply p_fieldAddr; apply Eq.refl); apply Eq.refl) | (apply c_seq) | (apply c_region))
        refine w_op (p_load0 (v := .int .i64 rs[k].act) rfl (by rw [addr_add_zero]; exact hc5) rfl) rfl ?_
        repeat (first | (apply w_op; (apply p_asI; apply Eq.refl); apply Eq.refl) | (apply w_nil) | (apply e_then) | (apply c_ret) | (apply e_then_ret) | (apply e_bk_ret) | (apply e_lp_ret))
        exact r_ret1 Try.results63 rfl ⟨congrArg (Value.int .i64) (by rw [hact, if_pos q]), hbel5⟩
      · repeat (first | (apply w_op; (first | (apply p_mvI; apply Eq.refl) | (apply p_add64; apply Eq.refl; apply Eq.refl; omega)); apply Eq.refl) | (apply w_nil) | (apply e_then) | (apply c_region) | (apply c_skip) | (apply e_bk))
        refine e_lp (by repeat (first | exact Over.base | exact Over.refl | refine Over.put rfl ?_ | refine Over.cnP rfl ?_ | refine Over.zpP rfl ?_)) ?_
        refine ⟨⟨k + 1, rfl, by omega, hbel5, by rw [hact, if_neg (by simp [q])]⟩, ?_⟩
        show rs.length - ((k : Int) + 1).toNat < rs.length - ((k : Int)).toNat
        omega
  · have hge := of_decide_eq_false g
    obtain rfl : k = rs.length := by omega
    repeat (first | (apply w_op; (apply p_asI; apply Eq.refl); apply Eq.refl) | (apply w_nil) | (apply c_seq) | (apply e_then) | (apply c_region) | (apply c_ret) | (apply c_exit) | (apply e_then_exit) | (apply e_bk_same) | (apply e_lp_exit))
    exact r_ret1 Try.results63 rfl ⟨congrArg (Value.int .i64) (by rw [hact]; simp [rlAct]), hb2⟩

theorem rrhid_ok (vr : Value) (rs : List Rl) (n : ByteArray) (d : Bool) (w : World) (B : Nat) (h : Rls w B vr rs) (hB : B ≤ w.heap.size) (hr : RlsIn rs) (hl : rs.length ≤ 1000000) (hn : n.size ≤ 1099511627775) :
    Ret Try.prog 49 [vr, .string n, .bool d] w fun v w' => v = .bool (rlHid rs n d) ∧ Below w.heap.size w w' := by
  obtain ⟨A1, c1, rfl, hc1, hA1⟩ := h.out
  refine calls_in Try.func49 rfl Try.ntmps49 rfl ?_
  repeat (first | (apply w_op; (first | (apply p_mvS; apply Eq.refl) | (apply p_asB; apply Eq.refl)); apply Eq.refl) | (apply w_nil) | (apply c_seq) | (apply e_then) | (apply c_region))
  refine w_call cl61 (rright_ok n _ hn) rfl ?_
  rintro v w1 ⟨rfl, hb1⟩
  repeat (first | (apply w_op; (apply p_not; apply Eq.refl); apply Eq.refl) | (apply w_nil) | (apply e_then))
  refine c_cond rfl (fun g => ?_) (fun g => ?_)
  · have g' : right n = false := by simpa using g
    repeat (first | (apply w_op; (apply p_asB; apply Eq.refl); apply Eq.refl) | (apply w_nil) | (apply c_seq) | (apply e_then) | (apply c_region) | (apply c_ret) | (apply e_then_ret))
    exact r_ret1 Try.results49 rfl ⟨congrArg Value.bool (by rw [rlHid, g']; rfl), hb1⟩
  · have g' : right n = true := by simpa using g
    repeat (first | (apply c_seq) | (apply e_then) | (apply c_block) | (apply c_skip))
    refine c_loop [1, 2] [6, 10, 11, 12, 13, 14, 15, 16, 17, 18] (fun vs w2 => ∃ (m : ByteArray) (e : Bool), vs = [.string m, .bool e] ∧ m.size ≤ n.size ∧ Below w.heap.size w w2 ∧ rlHid rs n d = hidF rs (m.size + 1) m e) (fun vs _ => match vs.headD undef with | .string m => m.size | _ => 0) rfl
      ⟨n, d, rfl, Nat.le_refl _, hb1, by rw [rlHid, g']; rfl⟩ ?_
    rintro _ u w2 ⟨m, e, rfl, hm, hb2, hhid⟩
    have hs2 := h.below (hb2.mono hB)
    have hz2 := hb2.size
    repeat (first | (apply w_op; (first | (apply p_mvS; apply Eq.refl) | (apply p_sneq; apply Eq.refl; apply Eq.refl)); apply Eq.refl) | (apply w_nil) | (apply c_seq) | (apply e_then) | (apply c_region))
    refine c_cond rfl (fun q => ?_) (fun q => ?_)
    · have hne : m ≠ { data := #[] } := by simpa using q
      have hlt := parent_lt hne
      rw [hid_go rs e hne] at hhid
      repeat (first | (apply w_op; (first | (apply p_mvS; apply Eq.refl) | (apply p_mvB; apply Eq.refl) | (apply p_mvL; apply Eq.refl)); apply Eq.refl) | (apply c_seq) | (apply e_then) | (apply c_region) | (apply c_block) | (apply c_skip))
      refine w_call cl63 (rract_ok _ rs m e false _ B hs2 (by omega) hr hl (by omega)) rfl ?_
      rintro v w3 ⟨rfl, hb3⟩
      have hbel3 := hb2.trans (hb3.mono hz2)
      repeat (first | (apply w_op; (apply p_eql; apply Eq.refl; apply Eq.refl); apply Eq.refl) | (apply w_nil) | (apply e_then))
      refine c_cond rfl (fun q2 => ?_) (fun q2 => ?_)
      · repeat (first | (apply w_op; (apply p_asB; apply Eq.refl); apply Eq.refl) | (apply w_nil) | (apply c_seq) | (apply e_then) | (apply c_region) | (apply c_ret) | (apply e_then_ret) | (apply e_bk_ret) | (apply e_lp_ret))
        exact r_ret1 Try.results49 rfl ⟨congrArg Value.bool (by rw [hhid, if_pos (of_decide_eq_true q2)]), hbel3⟩
      · repeat (first | (apply w_op; (apply p_mvS; apply Eq.refl); apply Eq.refl) | (apply c_seq) | (apply e_then) | (apply c_region) | (apply c_skip))
        refine w_call cl39 (rparent_ok m _ (by omega)) rfl ?_
        rintro v w4 ⟨rfl, hb4⟩
        repeat (first | (apply w_op; (first | (apply p_asS; apply Eq.refl) | (apply p_asB; apply Eq.refl)); apply Eq.refl) | (apply w_nil) | (apply e_then) | (apply c_region) | (apply e_bk))
        refine e_lp (by repeat (first | exact Over.base | exact Over.refl | refine Over.put rfl ?_ | refine Over.cnP rfl ?_ | refine Over.zpP rfl ?_)) ?_
        refine ⟨⟨parent m, true, rfl, by omega, hbel3.trans (hb4.mono hbel3.size), by rw [hhid, if_neg (of_decide_eq_false q2)]⟩, ?_⟩
        exact hlt
    · obtain rfl : m = { data := #[] } := by simpa using q
      repeat (first | (apply w_op; (apply p_asB; apply Eq.refl); apply Eq.refl) | (apply w_nil) | (apply c_seq) | (apply e_then) | (apply c_region) | (apply c_ret) | (apply c_exit) | (apply e_then_exit) | (apply e_bk_same) | (apply e_lp_exit))
      exact r_ret1 Try.results49 rfl ⟨congrArg Value.bool (by rw [hhid, hid_stop]), hb2⟩

theorem rrsafe_ok (vr : Value) (rs : List Rl) (n : ByteArray) (d : Bool) (w : World) (B : Nat) (h : Rls w B vr rs) (hB : B ≤ w.heap.size) (hr : RlsIn rs) (hl : rs.length ≤ 1000000) (hn : n.size ≤ 1099511627775) :
    Ret Try.prog 50 [vr, .string n, .bool d] w fun v w' => v = .bool (rlSafe rs n d) ∧ Below w.heap.size w w' := by
  obtain ⟨A1, c1, rfl, hc1, hA1⟩ := h.out
  refine calls_in Try.func50 rfl Try.ntmps50 rfl ?_
  repeat (first | (apply w_op; (first | (apply p_mvS; apply Eq.refl) | (apply p_mvB; apply Eq.refl) | (apply p_mvL; apply Eq.refl) | (apply p_asB; apply Eq.refl)); apply Eq.refl) | (apply w_nil) | (apply c_seq) | (apply e_then) | (apply c_region))
  refine w_call cl63 (rract_ok _ rs n d true _ B h hB hr hl hn) rfl ?_
  rintro v w1 ⟨rfl, hb1⟩
  repeat (first | (apply w_op; (first | (apply p_asB; apply Eq.refl) | (apply p_eql; apply Eq.refl; apply Eq.refl)); apply Eq.refl) | (apply w_nil) | (apply e_then) | (apply c_ret))
  exact r_ret1 Try.results50 rfl ⟨rfl, hb1⟩
end Go.Proofs.Ytjcbnohnilffoaa
