/- THE WALKS of the document's answer for lists (remoraref20): May. -/
import Derived.Test.YtjcbnohnilffoaaRef20
set_option linter.unusedVariables false
set_option linter.unusedSimpArgs false
namespace Go.Proofs.Ytjcbnohnilffoaa
open Go.RowKit

def mayA (e : En) : Bool := !decide (metaErr e.meta_ = 0) || (!decide (e.kind = 3) && !decide (e.target = noB)) || (decide (e.kind = 3) && (decide (e.target = noB) || decide (200 < (e.target.size : Int))))
def mayB (e : En) : Bool := decide (e.size < 0) || (decide (e.kind = 1) && decide (65536 < e.size)) || (decide (e.kind = 2) && decide (2147483647 < e.size)) || (decide (e.kind = 3) && !decide (e.size = (e.target.size : Int)))
def mayC (e : En) : Bool := (!decide (e.sum = noB) && (!decide (e.kind = 1) || !decide ((e.sum.size : Int) = 32))) || decide (e.group < 0) || (decide (0 < e.group) && !decide (e.kind = 1))
theorem may_eq {e : En} (h : kindBad e = false) : (mayA e || mayB e || mayC e) = (bad1 e || bad2 e || bad3 e) := by
  have hk : e.kind = 1 ∨ e.kind = 2 ∨ e.kind = 3 := by
    unfold kindBad at h
    simp at h
    omega
  have hg : (decide (e.group < 0) || (decide (0 < e.group) && !decide (e.kind = 1))) = (!decide (e.group = 0) && (!decide (e.kind = 1) || decide (e.group < 0))) := by
    rcases Int.lt_trichotomy e.group 0 with q | q | q
    · have a1 : ¬ e.group = 0 := by omega
      have a2 : ¬ 0 < e.group := by omega
      simp [q, a1, a2]
    · simp [q]
    · have a1 : ¬ e.group = 0 := by omega
      have a2 : ¬ e.group < 0 := by omega
      simp [q, a1, a2]
  have hC : mayC e = bad3 e := by unfold mayC bad3; rw [Bool.or_assoc, hg]
  rw [hC]
  congr 1
  unfold mayA mayB bad1 bad2 mostOf
  rcases hk with k | k | k
  · rw [k]
    cases decide (metaErr e.meta_ = 0) <;> cases decide (e.target = noB) <;> cases decide (e.size < 0) <;> simp
  · rw [k]
    cases decide (metaErr e.meta_ = 0) <;> cases decide (e.target = noB) <;> cases decide (e.size < 0) <;> simp
  · rw [k]
    by_cases t : e.target = noB
    · simp [t]
    · by_cases t2 : e.size = (e.target.size : Int)
      · by_cases t3 : 200 < (e.target.size : Int)
        · cases decide (metaErr e.meta_ = 0) <;> simp [t, t2, t3]
        · have t4 : ¬ 65536 < (e.target.size : Int) := by omega
          have t5 : ¬ e.size < 0 := by omega
          have t6 : ¬ 65536 < e.size := by omega
          cases decide (metaErr e.meta_ = 0) <;> simp [t, t2, t3, t4, t5, t6]
      · cases decide (metaErr e.meta_ = 0) <;> simp [t, t2]

set_option maxRecDepth 100000 in
theorem rmay_ok (e : En) (w : World) (hp : e.path.size ≤ 1099511627775) (ht : e.target.size ≤ 1099511627775) (hs : e.sum.size ≤ 1099511627775) : Ret Try.prog 46 [.agg (enE e).toArray] w fun v w' => v = .int .i64 (aloneErr e) ∧ Below w.heap.size w w' := by
  refine calls_in Try.func46 rfl Try.ntmps46 rfl ?_
  refine c_seq (c_region (w_box rfl rfl (fun b w1 hn => ?_)))
  have hb : Cel w1 ⟨b, 0, none⟩ (enE e) := hn.blk.obj0
  have hbel := hn.below (Below.refl _ _) (Nat.le_refl _)
  have hlt := hn.blk.lt
  clear hn
  repeat (first | (apply w_op; (first | (apply p_asI; apply Eq.refl) | (apply p_fieldAddr; apply Eq.refl)); apply Eq.refl) | (apply w_nil) | (apply c_seq) | (apply e_then) | (apply c_region))
  refine w_op (p_load0 (v := .string e.path) rfl (by rw [addr_add_zero]; exact hb) rfl) rfl ?_
  refine w_call cl61 (rright_ok e.path _ hp) rfl ?_
  rintro v w2 ⟨rfl, hb2⟩
  have hbel2 := hbel.trans (hb2.mono hbel.size)
  have hc2 := hb.below hb2 hlt
  have hlt2 : b < w2.heap.size := Nat.lt_of_lt_of_le hlt hb2.size
  repeat (apply w_op; (first | (apply p_mvB; apply Eq.refl) | (apply p_not; apply Eq.refl)); apply Eq.refl)
  refine w_bool 9 rfl (fun h1 => ?_) (fun h1 => ?_)
  · have h1' : right e.path = false := by simpa using h1
    repeat (first | (apply w_op; (first | (apply p_asI; apply Eq.refl) | (apply p_pick_t; apply Eq.refl; apply Eq.refl)); apply Eq.refl) | (apply w_nil) | (apply c_seq) | (apply e_then) | (apply c_region) | (apply w_off; apply Eq.refl; apply Eq.refl) | (apply c_cond_t; apply Eq.refl) | (apply c_ret) | (apply e_then_ret))
    exact r_ret1 Try.results46 rfl ⟨congrArg (Value.int .i64) (by rw [aloneErr, if_pos (.inl h1')]), hbel2⟩
  · have h1' : ¬ right e.path = false := by simpa using h1
    repeat (first | (apply w_op; (apply p_fieldAddr; apply Eq.refl); apply Eq.refl) | (apply w_on; apply Eq.refl))
    refine w_op (p_load0 (v := .string e.path) rfl (by rw [addr_add_zero]; exact hc2) rfl) rfl ?_
    repeat (first | (apply w_op; (first | (apply p_seql; apply Eq.refl; apply Eq.refl) | (apply p_pick_f; apply Eq.refl; apply Eq.refl)); apply Eq.refl) | (apply w_nil) | (apply e_then) | (apply w_on; apply Eq.refl))
    refine c_cond rfl (fun h2 => ?_) (fun h2 => ?_)
    · have h2' := of_decide_eq_true h2
      repeat (first | (apply w_op; (apply p_asI; apply Eq.refl); apply Eq.refl) | (apply w_nil) | (apply c_seq) | (apply e_then) | (apply c_region) | (apply c_ret) | (apply e_then_ret))
      exact r_ret1 Try.results46 rfl ⟨congrArg (Value.int .i64) (by rw [aloneErr, if_pos (.inr h2')]), hbel2⟩
    · have h2' := of_decide_eq_false h2
      have hA : aloneErr e = if kindBad e then 17 else if bad1 e then 2 else if bad2 e then 2 else if bad3 e then 2 else 0 := by rw [aloneErr, if_neg (by rintro (q | q); exact h1' q; exact h2' q)]
      repeat (first | (apply w_op; (apply p_fieldAddr; apply Eq.refl); apply Eq.refl) | (apply c_seq) | (apply e_then) | (apply c_region) | (apply c_skip))
      refine w_op (p_loadF (j := 1) (v := .int .i64 e.kind) rfl hc2 rfl) rfl ?_
      refine w_cut1 [21] [16, 17, 18, 19, 20] (fun vs w3 => w3 = w2 ∧ vs = [.bool (kindBad e)]) ?_ ?_
      · repeat (apply w_op; (first | (apply p_mvB; apply Eq.refl) | (apply p_lss; apply Eq.refl; apply Eq.refl)); apply Eq.refl)
        refine w_bool 17 rfl (fun g1 => ?_) (fun g1 => ?_)
        · have g1' := of_decide_eq_true g1
          repeat (first | (apply w_op; (apply p_pick_t; apply Eq.refl; apply Eq.refl); apply Eq.refl) | (apply w_nil) | (apply w_off; apply Eq.refl; apply Eq.refl))
          refine e_ct (by repeat (first | exact Over.base | exact Over.refl | refine Over.put rfl ?_ | refine Over.cnP rfl ?_ | refine Over.zpP rfl ?_)) ?_
          refine ⟨rfl, ?_⟩
          show [Value.bool true] = _
          congr 2
          unfold kindBad
          simp
          omega
        · have g1' := of_decide_eq_false g1
          repeat (first | (apply w_op; (apply p_fieldAddr; apply Eq.refl); apply Eq.refl) | (apply w_on; apply Eq.refl))
          refine w_op (p_loadF (j := 1) (v := .int .i64 e.kind) rfl hc2 rfl) rfl ?_
          repeat (first | (apply w_op; (first | (apply p_gtr; apply Eq.refl; apply Eq.refl) | (apply p_pick_f; apply Eq.refl; apply Eq.refl)); apply Eq.refl) | (apply w_nil) | (apply w_on; apply Eq.refl))
          refine e_ct (by repeat (first | exact Over.base | exact Over.refl | refine Over.put rfl ?_ | refine Over.cnP rfl ?_ | refine Over.zpP rfl ?_)) ?_
          refine ⟨rfl, ?_⟩
          show [Value.bool (decide (3 < e.kind))] = _
          congr 2
          unfold kindBad
          rw [Bool.eq_iff_iff]
          simp
          omega
      · rintro _ u3 w2 ⟨rfl, rfl⟩
        skip
        refine c_cond rfl (fun g1 => ?_) (fun g1 => ?_)
        · repeat (first | (apply w_op; (apply p_asI; apply Eq.refl); apply Eq.refl) | (apply w_nil) | (apply c_seq) | (apply e_then) | (apply c_region) | (apply c_ret) | (apply e_then_ret))
          exact r_ret1 Try.results46 rfl ⟨congrArg (Value.int .i64) (by rw [hA, if_pos g1]), hbel2⟩
        · rw [if_neg (by simp [g1])] at hA
          have hme := may_eq g1
          have hA2 : aloneErr e = if mayA e then 2 else if mayB e then 2 else if mayC e then 2 else 0 := by
            rw [hA]
            cases b1 : bad1 e <;> cases b2 : bad2 e <;> cases b3 : bad3 e <;> cases a1 : mayA e <;> cases a2 : mayB e <;> cases a3 : mayC e <;> simp_all
          repeat (first | (apply c_seq) | (apply e_then) | (apply c_skip))
          refine c_quiet (fun x => x = w2.drew) mixed (by kernel_rfl) rfl ?_
          repeat (apply q_op; intro _ hC; (apply p_fieldAddr; apply Eq.refl); apply Eq.refl)
          refine q_op (fun x hx => p_loadF (j := 1) (v := .int .i64 e.kind) rfl (hx ▸ hc2.drew) rfl) rfl ?_
          repeat (apply q_op; intro _ hC; (first | (apply p_fieldAddr; apply Eq.refl) | (apply p_eql; apply Eq.refl; apply Eq.refl)); apply Eq.refl)
          refine q_op (fun x hx => p_loadF (j := 1) (v := .int .i64 e.kind) rfl (hx ▸ hc2.drew) rfl) rfl ?_
          repeat (apply q_op; intro _ hC; (first | (apply p_asB; apply Eq.refl) | (apply p_eql; apply Eq.refl; apply Eq.refl)); apply Eq.refl)
          refine q_nil (fun w3 hw3 => ?_)
          subst hw3
          have hc3 := hc2.drew
          have hlt3 : b < w2.drew.heap.size := hlt2
          have hbel3 := hbel2.drew
          repeat (first | (apply w_op; (apply p_fieldAddr; apply Eq.refl); apply Eq.refl) | (apply c_seq) | (apply e_then) | (apply c_region))
          refine w_cut1 [54] [29, 30, 31, 32, 33, 34, 35, 36, 37, 38, 39, 40, 41, 42, 43, 44, 45, 46, 47, 48, 49, 50, 51, 52, 53] (fun vs w6 => vs = [.bool (mayA e)] ∧ Below w2.drew.heap.size w2.drew w6) ?_ ?_
          · refine w_op (p_loadS (cs := enMt e.meta_) rfl (hc3.sub 3 5) rfl) rfl ?_
            refine w_call cl62 (rmeta_ok e.meta_ _) rfl ?_
            rintro v w6 ⟨rfl, hb6⟩
            have hc6 := hc3.below hb6 hlt3
            repeat (apply w_op; (first | (apply p_mvB; apply Eq.refl) | (apply p_neq; apply Eq.refl; apply Eq.refl)); apply Eq.refl)
            refine w_bool 32 rfl (fun f1 => ?_) (fun f1 => ?_)
            · repeat (first | (apply w_op; (first | (apply p_mvB; apply Eq.refl) | (apply p_pick_t; apply Eq.refl; apply Eq.refl)); apply Eq.refl) | (apply w_nil) | (apply w_off; apply Eq.refl; apply Eq.refl) | (apply w_off2; apply Eq.refl; apply Eq.refl))
              refine e_ct (by repeat (first | exact Over.base | exact Over.refl | refine Over.put rfl ?_ | refine Over.cnP rfl ?_ | refine Over.zpP rfl ?_)) ?_
              refine ⟨?_, hb6⟩
              show [Value.bool true] = _
              rw [mayA, f1]; rfl
            · repeat (first | (apply w_op; (first | (apply p_mvB; apply Eq.refl) | (apply p_not; apply Eq.refl)); apply Eq.refl) | (apply w_on; apply Eq.refl))
              refine w_bool 35 rfl (fun f2 => ?_) (fun f2 => ?_)
              · have f2' : decide (e.kind = 3) = false := by simpa using f2
                repeat (first | (apply w_op; (apply p_fieldAddr; apply Eq.refl); apply Eq.refl) | (apply w_on; apply Eq.refl))
                refine w_op (p_loadF (j := 8) (v := .string e.target) rfl hc6 rfl) rfl ?_
                repeat (first | (apply w_op; (first | (apply p_mvB; apply Eq.refl) | (apply p_sneq; apply Eq.refl; apply Eq.refl) | (apply p_pick_t; apply Eq.refl; apply Eq.refl) | (apply p_pick_f; apply Eq.refl; apply Eq.refl)); apply Eq.refl) | (apply w_on; apply Eq.refl))
                refine w_bool 41 rfl (fun f3 => ?_) (fun f3 => ?_)
                · repeat (first | (apply w_op; (apply p_pick_t; apply Eq.refl; apply Eq.refl); apply Eq.refl) | (apply w_nil) | (apply w_off; apply Eq.refl; apply Eq.refl) | (apply w_off2; apply Eq.refl; apply Eq.refl))
                  refine e_ct (by repeat (first | exact Over.base | exact Over.refl | refine Over.put rfl ?_ | refine Over.cnP rfl ?_ | refine Over.zpP rfl ?_)) ?_
                  refine ⟨?_, hb6⟩
                  show [Value.bool true] = _
                  rw [mayA, f1, f2', f3]; rfl
                · repeat (first | (apply w_op; (apply p_mvB; apply Eq.refl); apply Eq.refl) | (apply w_on; apply Eq.refl))
                  refine w_bool 43 rfl (fun f4 => by rw [f2'] at f4; cases f4) (fun f4 => ?_)
                  repeat (first | (apply w_op; (apply p_pick_f; apply Eq.refl; apply Eq.refl); apply Eq.refl) | (apply w_nil) | (apply w_on; apply Eq.refl) | (apply w_off; apply Eq.refl; apply Eq.refl) | (apply w_off2; apply Eq.refl; apply Eq.refl))
                  refine e_ct (by repeat (first | exact Over.base | exact Over.refl | refine Over.put rfl ?_ | refine Over.cnP rfl ?_ | refine Over.zpP rfl ?_)) ?_
                  refine ⟨?_, hb6⟩
                  show [Value.bool false] = _
                  rw [mayA, f1, f2', f3]; rfl
              · have f2' : decide (e.kind = 3) = true := by simpa using f2
                repeat (first | (apply w_op; (first | (apply p_mvB; apply Eq.refl) | (apply p_pick_f; apply Eq.refl; apply Eq.refl)); apply Eq.refl) | (apply w_on; apply Eq.refl) | (apply w_off; apply Eq.refl; apply Eq.refl))
                refine w_bool 43 rfl (fun f4 => ?_) (fun f4 => by rw [f2'] at f4; cases f4)
                repeat (first | (apply w_op; (apply p_fieldAddr; apply Eq.refl); apply Eq.refl) | (apply w_on; apply Eq.refl))
                refine w_op (p_loadF (j := 8) (v := .string e.target) rfl hc6 rfl) rfl ?_
                repeat (first | (apply w_op; (first | (apply p_mvB; apply Eq.refl) | (apply p_seql; apply Eq.refl; apply Eq.refl)); apply Eq.refl) | (apply w_on; apply Eq.refl))
                refine w_bool 47 rfl (fun f5 => ?_) (fun f5 => ?_)
                · repeat (first | (apply w_op; (first | (apply p_pick_t; apply Eq.refl; apply Eq.refl) | (apply p_pick_f; apply Eq.refl; apply Eq.refl)); apply Eq.refl) | (apply w_nil) | (apply w_on; apply Eq.refl) | (apply w_off; apply Eq.refl; apply Eq.refl))
                  refine e_ct (by repeat (first | exact Over.base | exact Over.refl | refine Over.put rfl ?_ | refine Over.cnP rfl ?_ | refine Over.zpP rfl ?_)) ?_
                  refine ⟨?_, hb6⟩
                  show [Value.bool true] = _
                  rw [mayA, f1, f2', f5]; rfl
                · repeat (first | (apply w_op; (apply p_fieldAddr; apply Eq.refl); apply Eq.refl) | (apply w_on; apply Eq.refl))
                  refine w_op (p_loadF (j := 8) (v := .string e.target) rfl hc6 rfl) rfl ?_
                  repeat (first | (apply w_op; (first | (apply p_gtr; apply Eq.refl; apply Eq.refl) | (apply p_len_str; apply Eq.refl) | (apply p_pick_t; apply Eq.refl; apply Eq.refl) | (apply p_pick_f; apply Eq.refl; apply Eq.refl)); apply Eq.refl) | (apply w_nil) | (apply w_on; apply Eq.refl))
                  refine e_ct (by repeat (first | exact Over.base | exact Over.refl | refine Over.put rfl ?_ | refine Over.cnP rfl ?_ | refine Over.zpP rfl ?_)) ?_
                  refine ⟨?_, hb6⟩
                  show [Value.bool (decide (200 < (e.target.size : Int)))] = _
                  rw [mayA, f1, f2', f5]; rfl
          · rintro _ u6 w6 ⟨rfl, hb6⟩
            have hc6 := hc3.below hb6 hlt3
            have hbel6 := hbel3.trans (hb6.mono hbel3.size)
            skip
            refine c_cond rfl (fun q1 => ?_) (fun q1 => ?_)
            · repeat (first | (apply w_op; (apply p_asI; apply Eq.refl); apply Eq.refl) | (apply w_nil) | (apply c_seq) | (apply e_then) | (apply c_region) | (apply c_ret) | (apply e_then_ret))
              exact r_ret1 Try.results46 rfl ⟨congrArg (Value.int .i64) (by rw [hA2, if_pos q1]), hbel6⟩
            · rw [if_neg (by simp [q1])] at hA2
              repeat (first | (apply w_op; (apply p_fieldAddr; apply Eq.refl); apply Eq.refl) | (apply c_seq) | (apply e_then) | (apply c_region) | (apply c_skip))
              refine w_op (p_loadF (j := 2) (v := .int .i64 e.size) rfl hc6 rfl) rfl ?_
              refine w_cut1 [86] [57, 58, 59, 60, 61, 62, 63, 64, 65, 66, 67, 68, 69, 70, 71, 72, 73, 74, 75, 76, 77, 78, 79, 80, 81, 82, 83, 84, 85] (fun vs w7 => w7 = w6 ∧ vs = [.bool (mayB e)]) ?_ ?_
              · repeat (apply w_op; (first | (apply p_mvB; apply Eq.refl) | (apply p_lss; apply Eq.refl; apply Eq.refl)); apply Eq.refl)
                refine w_bool 58 rfl (fun f1 => ?_) (fun f1 => ?_)
                · repeat (first | (apply w_op; (first | (apply p_mvB; apply Eq.refl) | (apply p_pick_t; apply Eq.refl; apply Eq.refl)); apply Eq.refl) | (apply w_nil) | (apply w_off; apply Eq.refl; apply Eq.refl) | (apply w_off2; apply Eq.refl; apply Eq.refl))
                  refine e_ct (by repeat (first | exact Over.base | exact Over.refl | refine Over.put rfl ?_ | refine Over.cnP rfl ?_ | refine Over.zpP rfl ?_)) ?_
                  refine ⟨rfl, ?_⟩
                  show [Value.bool true] = _
                  rw [mayB, f1]; rfl
                · repeat (first | (apply w_op; (apply p_mvB; apply Eq.refl); apply Eq.refl) | (apply w_on; apply Eq.refl))
                  refine w_bool 60 rfl (fun f2 => ?_) (fun f2 => ?_)
                  · have k2 : decide (e.kind = 2) = false := by have := of_decide_eq_true f2; exact decide_eq_false (by omega)
                    have k3 : decide (e.kind = 3) = false := by have := of_decide_eq_true f2; exact decide_eq_false (by omega)
                    repeat (first | (apply w_op; (apply p_fieldAddr; apply Eq.refl); apply Eq.refl) | (apply w_on; apply Eq.refl))
                    refine w_op (p_loadF (j := 2) (v := .int .i64 e.size) rfl hc6 rfl) rfl ?_
                    repeat (first | (apply w_op; (first | (apply p_mvB; apply Eq.refl) | (apply p_gtr; apply Eq.refl; apply Eq.refl) | (apply p_pick_t; apply Eq.refl; apply Eq.refl) | (apply p_pick_f; apply Eq.refl; apply Eq.refl)); apply Eq.refl) | (apply w_on; apply Eq.refl))
                    refine w_bool 66 rfl (fun f3 => ?_) (fun f3 => ?_)
                    · repeat (first | (apply w_op; (first | (apply p_mvB; apply Eq.refl) | (apply p_pick_t; apply Eq.refl; apply Eq.refl)); apply Eq.refl) | (apply w_nil) | (apply w_off; apply Eq.refl; apply Eq.refl) | (apply w_off2; apply Eq.refl; apply Eq.refl))
                      refine e_ct (by repeat (first | exact Over.base | exact Over.refl | refine Over.put rfl ?_ | refine Over.cnP rfl ?_ | refine Over.zpP rfl ?_)) ?_
                      refine ⟨rfl, ?_⟩
                      show [Value.bool true] = _
                      rw [mayB, f1, f2, f3]; rfl
                    · repeat (first | (apply w_op; (apply p_fieldAddr; apply Eq.refl); apply Eq.refl) | (apply w_on; apply Eq.refl))
                      refine w_op (p_loadF (j := 1) (v := .int .i64 e.kind) rfl hc6 rfl) rfl ?_
                      repeat (first | (apply w_op; (first | (apply p_mvB; apply Eq.refl) | (apply p_eql; apply Eq.refl; apply Eq.refl)); apply Eq.refl) | (apply w_on; apply Eq.refl))
                      refine w_bool 70 rfl (fun f4 => by rw [k2] at f4; cases f4) (fun f4 => ?_)
                      repeat (first | (apply w_op; (first | (apply p_mvB; apply Eq.refl) | (apply p_pick_f; apply Eq.refl; apply Eq.refl)); apply Eq.refl) | (apply w_on; apply Eq.refl) | (apply w_off; apply Eq.refl; apply Eq.refl))
                      refine w_bool 78 rfl (fun f5 => by rw [k3] at f5; cases f5) (fun f5 => ?_)
                      repeat (first | (apply w_op; (apply p_pick_f; apply Eq.refl; apply Eq.refl); apply Eq.refl) | (apply w_nil) | (apply w_on; apply Eq.refl) | (apply w_off; apply Eq.refl; apply Eq.refl))
                      refine e_ct (by repeat (first | exact Over.base | exact Over.refl | refine Over.put rfl ?_ | refine Over.cnP rfl ?_ | refine Over.zpP rfl ?_)) ?_
                      refine ⟨rfl, ?_⟩
                      show [Value.bool false] = _
                      rw [mayB, f1, f2, f3, k2, k3]; rfl
                  · repeat (first | (apply w_op; (first | (apply p_mvB; apply Eq.refl) | (apply p_fieldAddr; apply Eq.refl) | (apply p_pick_f; apply Eq.refl; apply Eq.refl)); apply Eq.refl) | (apply w_on; apply Eq.refl) | (apply w_off; apply Eq.refl; apply Eq.refl))
                    refine w_op (p_loadF (j := 1) (v := .int .i64 e.kind) rfl hc6 rfl) rfl ?_
                    repeat (first | (apply w_op; (first | (apply p_mvB; apply Eq.refl) | (apply p_eql; apply Eq.refl; apply Eq.refl)); apply Eq.refl) | (apply w_on; apply Eq.refl))
                    refine w_bool 70 rfl (fun f4 => ?_) (fun f4 => ?_)
                    · have k3 : decide (e.kind = 3) = false := by have := of_decide_eq_true f4; exact decide_eq_false (by omega)
                      repeat (first | (apply w_op; (apply p_fieldAddr; apply Eq.refl); apply Eq.refl) | (apply w_on; apply Eq.refl))
                      refine w_op (p_loadF (j := 2) (v := .int .i64 e.size) rfl hc6 rfl) rfl ?_
                      repeat (first | (apply w_op; (first | (apply p_mvB; apply Eq.refl) | (apply p_gtr; apply Eq.refl; apply Eq.refl) | (apply p_pick_t; apply Eq.refl; apply Eq.refl) | (apply p_pick_f; apply Eq.refl; apply Eq.refl)); apply Eq.refl) | (apply w_on; apply Eq.refl))
                      refine w_bool 76 rfl (fun f5 => ?_) (fun f5 => ?_)
                      · repeat (first | (apply w_op; (apply p_pick_t; apply Eq.refl; apply Eq.refl); apply Eq.refl) | (apply w_nil) | (apply w_off; apply Eq.refl; apply Eq.refl) | (apply w_off2; apply Eq.refl; apply Eq.refl))
                        refine e_ct (by repeat (first | exact Over.base | exact Over.refl | refine Over.put rfl ?_ | refine Over.cnP rfl ?_ | refine Over.zpP rfl ?_)) ?_
                        refine ⟨rfl, ?_⟩
                        show [Value.bool true] = _
                        rw [mayB, f1, f2, f4, f5]; rfl
                      · repeat (first | (apply w_op; (apply p_mvB; apply Eq.refl); apply Eq.refl) | (apply w_on; apply Eq.refl))
                        refine w_bool 78 rfl (fun f6 => by rw [k3] at f6; cases f6) (fun f6 => ?_)
                        repeat (first | (apply w_op; (apply p_pick_f; apply Eq.refl; apply Eq.refl); apply Eq.refl) | (apply w_nil) | (apply w_on; apply Eq.refl) | (apply w_off; apply Eq.refl; apply Eq.refl))
                        refine e_ct (by repeat (first | exact Over.base | exact Over.refl | refine Over.put rfl ?_ | refine Over.cnP rfl ?_ | refine Over.zpP rfl ?_)) ?_
                        refine ⟨rfl, ?_⟩
                        show [Value.bool false] = _
                        rw [mayB, f1, f2, f4, f5, k3]; rfl
                    · repeat (first | (apply w_op; (first | (apply p_mvB; apply Eq.refl) | (apply p_pick_f; apply Eq.refl; apply Eq.refl)); apply Eq.refl) | (apply w_on; apply Eq.refl) | (apply w_off; apply Eq.refl; apply Eq.refl))
                      refine w_bool 78 rfl (fun f6 => ?_) (fun f6 => ?_)
                      · repeat (first | (apply w_op; (apply p_fieldAddr; apply Eq.refl); apply Eq.refl) | (apply w_on; apply Eq.refl))
                        refine w_op (p_loadF (j := 2) (v := .int .i64 e.size) rfl hc6 rfl) rfl ?_
                        repeat (first | (apply w_op; (apply p_fieldAddr; apply Eq.refl); apply Eq.refl) | (apply w_on; apply Eq.refl))
                        refine w_op (p_loadF (j := 8) (v := .string e.target) rfl hc6 rfl) rfl ?_
                        repeat (first | (apply w_op; (first | (apply p_neq; apply Eq.refl; apply Eq.refl) | (apply p_len_str; apply Eq.refl) | (apply p_pick_t; apply Eq.refl; apply Eq.refl) | (apply p_pick_f; apply Eq.refl; apply Eq.refl)); apply Eq.refl) | (apply w_nil) | (apply w_on; apply Eq.refl))
                        refine e_ct (by repeat (first | exact Over.base | exact Over.refl | refine Over.put rfl ?_ | refine Over.cnP rfl ?_ | refine Over.zpP rfl ?_)) ?_
                        refine ⟨rfl, ?_⟩
                        show [Value.bool (!decide (e.size = (e.target.size : Int)))] = _
                        rw [mayB, f1, f2, f4, f6]; rfl
                      · repeat (first | (apply w_op; (apply p_pick_f; apply Eq.refl; apply Eq.refl); apply Eq.refl) | (apply w_nil) | (apply w_on; apply Eq.refl) | (apply w_off; apply Eq.refl; apply Eq.refl))
                        refine e_ct (by repeat (first | exact Over.base | exact Over.refl | refine Over.put rfl ?_ | refine Over.cnP rfl ?_ | refine Over.zpP rfl ?_)) ?_
                        refine ⟨rfl, ?_⟩
                        show [Value.bool false] = _
                        rw [mayB, f1, f2, f4, f6]; rfl
              · rintro _ u7 w6 ⟨rfl, rfl⟩
                skip
                refine c_cond rfl (fun q2 => ?_) (fun q2 => ?_)
                · repeat (first | (apply w_op; (apply p_asI; apply Eq.refl); apply Eq.refl) | (apply w_nil) | (apply c_seq) | (apply e_then) | (apply c_region) | (apply c_ret) | (apply e_then_ret))
                  exact r_ret1 Try.results46 rfl ⟨congrArg (Value.int .i64) (by rw [hA2, if_pos q2]), hbel6⟩
                · rw [if_neg (by simp [q2])] at hA2
                  repeat (first | (apply w_op; (apply p_fieldAddr; apply Eq.refl); apply Eq.refl) | (apply c_seq) | (apply e_then) | (apply c_region) | (apply c_skip))
                  refine w_op (p_loadF (j := 9) (v := .string e.sum) rfl hc6 rfl) rfl ?_
                  refine w_cut1 [113] [89, 90, 91, 92, 93, 94, 95, 96, 97, 98, 99, 100, 101, 102, 103, 104, 105, 106, 107, 108, 109, 110, 111, 112] (fun vs w7 => w7 = w6 ∧ vs = [.bool (mayC e)]) ?_ ?_
                  · repeat (apply w_op; (first | (apply p_mvB; apply Eq.refl) | (apply p_sneq; apply Eq.refl; apply Eq.refl)); apply Eq.refl)
                    refine w_bool 90 rfl (fun f1 => ?_) (fun f1 => ?_)
                    · repeat (first | (apply w_op; (first | (apply p_mvB; apply Eq.refl) | (apply p_not; apply Eq.refl)); apply Eq.refl) | (apply w_on; apply Eq.refl))
                      refine w_bool 93 rfl (fun f2 => ?_) (fun f2 => ?_)
                      · repeat (first | (apply w_op; (first | (apply p_mvB; apply Eq.refl) | (apply p_pick_t; apply Eq.refl; apply Eq.refl)); apply Eq.refl) | (apply w_nil) | (apply w_on; apply Eq.refl) | (apply w_off; apply Eq.refl; apply Eq.refl) | (apply w_off2; apply Eq.refl; apply Eq.refl))
                        refine e_ct (by repeat (first | exact Over.base | exact Over.refl | refine Over.put rfl ?_ | refine Over.cnP rfl ?_ | refine Over.zpP rfl ?_)) ?_
                        refine ⟨rfl, ?_⟩
                        show [Value.bool true] = _
                        rw [mayC, f1, f2]; rfl
                      · repeat (first | (apply w_op; (apply p_fieldAddr; apply Eq.refl); apply Eq.refl) | (apply w_on; apply Eq.refl))
                        refine w_op (p_loadF (j := 9) (v := .string e.sum) rfl hc6 rfl) rfl ?_
                        repeat (first | (apply w_op; (first | (apply p_mvB; apply Eq.refl) | (apply p_neq; apply Eq.refl; apply Eq.refl) | (apply p_len_str; apply Eq.refl) | (apply p_pick_t; apply Eq.refl; apply Eq.refl) | (apply p_pick_f; apply Eq.refl; apply Eq.refl)); apply Eq.refl) | (apply w_on; apply Eq.refl))
                        refine w_bool 100 rfl (fun f3 => ?_) (fun f3 => ?_)
                        · repeat (first | (apply w_op; (first | (apply p_mvB; apply Eq.refl) | (apply p_pick_t; apply Eq.refl; apply Eq.refl)); apply Eq.refl) | (apply w_nil) | (apply w_off; apply Eq.refl; apply Eq.refl) | (apply w_off2; apply Eq.refl; apply Eq.refl))
                          refine e_ct (by repeat (first | exact Over.base | exact Over.refl | refine Over.put rfl ?_ | refine Over.cnP rfl ?_ | refine Over.zpP rfl ?_)) ?_
                          refine ⟨rfl, ?_⟩
                          show [Value.bool true] = _
                          rw [mayC, f1, f2, f3]; rfl
                        · repeat (first | (apply w_op; (apply p_fieldAddr; apply Eq.refl); apply Eq.refl) | (apply w_on; apply Eq.refl))
                          refine w_op (p_loadF (j := 10) (v := .int .i64 e.group) rfl hc6 rfl) rfl ?_
                          repeat (first | (apply w_op; (first | (apply p_mvB; apply Eq.refl) | (apply p_lss; apply Eq.refl; apply Eq.refl) | (apply p_pick_f; apply Eq.refl; apply Eq.refl)); apply Eq.refl) | (apply w_on; apply Eq.refl))
                          refine w_bool 105 rfl (fun g4 => ?_) (fun g4 => ?_)
                          · repeat (first | (apply w_op; (apply p_pick_t; apply Eq.refl; apply Eq.refl); apply Eq.refl) | (apply w_nil) | (apply w_off; apply Eq.refl; apply Eq.refl) | (apply w_off2; apply Eq.refl; apply Eq.refl))
                            refine e_ct (by repeat (first | exact Over.base | exact Over.refl | refine Over.put rfl ?_ | refine Over.cnP rfl ?_ | refine Over.zpP rfl ?_)) ?_
                            refine ⟨rfl, ?_⟩
                            show [Value.bool true] = _
                            rw [mayC, f1, f2, f3, g4]; rfl
                          · repeat (first | (apply w_op; (apply p_fieldAddr; apply Eq.refl); apply Eq.refl) | (apply w_on; apply Eq.refl))
                            refine w_op (p_loadF (j := 10) (v := .int .i64 e.group) rfl hc6 rfl) rfl ?_
                            repeat (first | (apply w_op; (first | (apply p_mvB; apply Eq.refl) | (apply p_gtr; apply Eq.refl; apply Eq.refl)); apply Eq.refl) | (apply w_on; apply Eq.refl))
                            refine w_bool 109 rfl (fun g5 => ?_) (fun g5 => ?_)
                            · repeat (first | (apply w_op; (first | (apply p_mvB; apply Eq.refl) | (apply p_not; apply Eq.refl) | (apply p_pick_t; apply Eq.refl; apply Eq.refl) | (apply p_pick_f; apply Eq.refl; apply Eq.refl)); apply Eq.refl) | (apply w_nil) | (apply w_on; apply Eq.refl))
                              refine e_ct (by repeat (first | exact Over.base | exact Over.refl | refine Over.put rfl ?_ | refine Over.cnP rfl ?_ | refine Over.zpP rfl ?_)) ?_
                              refine ⟨rfl, ?_⟩
                              show [Value.bool (!decide (e.kind = 1))] = _
                              rw [mayC, f1, f2, f3, g4, g5]; rfl
                            · repeat (first | (apply w_op; (apply p_pick_f; apply Eq.refl; apply Eq.refl); apply Eq.refl) | (apply w_nil) | (apply w_on; apply Eq.refl) | (apply w_off; apply Eq.refl; apply Eq.refl))
                              refine e_ct (by repeat (first | exact Over.base | exact Over.refl | refine Over.put rfl ?_ | refine Over.cnP rfl ?_ | refine Over.zpP rfl ?_)) ?_
                              refine ⟨rfl, ?_⟩
                              show [Value.bool false] = _
                              rw [mayC, f1, f2, f3, g4, g5]; rfl
                    · repeat (first | (apply w_op; (first | (apply p_mvB; apply Eq.refl) | (apply p_fieldAddr; apply Eq.refl) | (apply p_pick_f; apply Eq.refl; apply Eq.refl)); apply Eq.refl) | (apply w_on; apply Eq.refl) | (apply w_off; apply Eq.refl; apply Eq.refl) | (apply w_off2; apply Eq.refl; apply Eq.refl))
                      refine w_op (p_loadF (j := 10) (v := .int .i64 e.group) rfl hc6 rfl) rfl ?_
                      repeat (first | (apply w_op; (first | (apply p_mvB; apply Eq.refl) | (apply p_lss; apply Eq.refl; apply Eq.refl) | (apply p_pick_f; apply Eq.refl; apply Eq.refl)); apply Eq.refl) | (apply w_on; apply Eq.refl))
                      refine w_bool 105 rfl (fun g4 => ?_) (fun g4 => ?_)
                      · repeat (first | (apply w_op; (apply p_pick_t; apply Eq.refl; apply Eq.refl); apply Eq.refl) | (apply w_nil) | (apply w_off; apply Eq.refl; apply Eq.refl) | (apply w_off2; apply Eq.refl; apply Eq.refl))
                        refine e_ct (by repeat (first | exact Over.base | exact Over.refl | refine Over.put rfl ?_ | refine Over.cnP rfl ?_ | refine Over.zpP rfl ?_)) ?_
                        refine ⟨rfl, ?_⟩
                        show [Value.bool true] = _
                        rw [mayC, f1, g4]; rfl
                      · repeat (first | (apply w_op; (apply p_fieldAddr; apply Eq.refl); apply Eq.refl) | (apply w_on; apply Eq.refl))
                        refine w_op (p_loadF (j := 10) (v := .int .i64 e.group) rfl hc6 rfl) rfl ?_
                        repeat (first | (apply w_op; (first | (apply p_mvB; apply Eq.refl) | (apply p_gtr; apply Eq.refl; apply Eq.refl)); apply Eq.refl) | (apply w_on; apply Eq.refl))
                        refine w_bool 109 rfl (fun g5 => ?_) (fun g5 => ?_)
                        · repeat (first | (apply w_op; (first | (apply p_mvB; apply Eq.refl) | (apply p_not; apply Eq.refl) | (apply p_pick_t; apply Eq.refl; apply Eq.refl) | (apply p_pick_f; apply Eq.refl; apply Eq.refl)); apply Eq.refl) | (apply w_nil) | (apply w_on; apply Eq.refl))
                          refine e_ct (by repeat (first | exact Over.base | exact Over.refl | refine Over.put rfl ?_ | refine Over.cnP rfl ?_ | refine Over.zpP rfl ?_)) ?_
                          refine ⟨rfl, ?_⟩
                          show [Value.bool (!decide (e.kind = 1))] = _
                          rw [mayC, f1, g4, g5]; rfl
                        · repeat (first | (apply w_op; (apply p_pick_f; apply Eq.refl; apply Eq.refl); apply Eq.refl) | (apply w_nil) | (apply w_on; apply Eq.refl) | (apply w_off; apply Eq.refl; apply Eq.refl))
                          refine e_ct (by repeat (first | exact Over.base | exact Over.refl | refine Over.put rfl ?_ | refine Over.cnP rfl ?_ | refine Over.zpP rfl ?_)) ?_
                          refine ⟨rfl, ?_⟩
                          show [Value.bool false] = _
                          rw [mayC, f1, g4, g5]; rfl
                  · rintro _ u8 w6 ⟨rfl, rfl⟩
                    skip
                    refine c_cond rfl (fun q3 => ?_) (fun q3 => ?_)
                    · repeat (first | (apply w_op; (apply p_asI; apply Eq.refl); apply Eq.refl) | (apply w_nil) | (apply c_seq) | (apply e_then) | (apply c_region) | (apply c_ret) | (apply e_then_ret))
                      exact r_ret1 Try.results46 rfl ⟨congrArg (Value.int .i64) (by rw [hA2, if_pos q3]), hbel6⟩
                    · rw [if_neg (by simp [q3])] at hA2
                      repeat (first | (apply w_op; (apply p_asI; apply Eq.refl); apply Eq.refl) | (apply w_nil) | (apply c_seq) | (apply e_then) | (apply c_region) | (apply c_skip) | (apply c_ret))
                      exact r_ret1 Try.results46 rfl ⟨congrArg (Value.int .i64) hA2.symm, hbel6⟩
end Go.Proofs.Ytjcbnohnilffoaa
