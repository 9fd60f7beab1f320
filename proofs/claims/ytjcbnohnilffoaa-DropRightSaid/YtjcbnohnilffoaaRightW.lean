/- THE WALK of the law DropRight. -/
import Derived.Test.YtjcbnohnilffoaaLaw
import Derived.Test.YtjcbnohnilffoaaKept
import Derived.Test.YtjcbnohnilffoaaOrd3
set_option linter.unusedVariables false
namespace Go.Proofs.Ytjcbnohnilffoaa
open Go.RowKit

set_option maxRecDepth 100000 in
theorem dropRight_ok (v1 v2 v3 : Value) (src dst : List En) (rs : List Rl) (w : World) (B : Nat) (h1 : Ens w B v1 src) (h2 : Ens w B v2 dst) (h3 : Rls w B v3 rs) (hB : B ≤ w.heap.size) (hl1 : src.length ≤ 9223372036854775807) (hl2 : dst.length ≤ 9223372036854775807)
    (hi3 : RlsIn rs) : Ret Try.prog 6 [v1, v2, v3] w fun v w' => v = .bool true ∧ Below w.heap.size w w' := by
  refine calls_in Try.func6 rfl Try.ntmps6 rfl ?_
  repeat (first | (apply w_op; (first | (apply p_move) | (apply p_asB; apply Eq.refl)); apply Eq.refl) | (apply w_nil) | (apply c_seq) | (apply e_then) | (apply c_region))
  refine w_call cl7 (light_ok v1 v2 v3 src dst rs _ B h1 h2 h3 hl1 hl2) rfl ?_
  rintro v w1 ⟨rfl, rfl⟩
  obtain ⟨A2, c2, rfl, hc2, hA2⟩ := h2.out
  obtain ⟨A1, c1, rfl, hc1, hA1⟩ := h1.out
  repeat (apply w_op; (first | (apply p_mvB; apply Eq.refl) | (apply p_not; apply Eq.refl)); apply Eq.refl)
  refine w_bool 29 rfl (fun q => ?_) (fun q => ?_)
  · repeat (first | (apply w_op; (first | (apply p_mvB; apply Eq.refl) | (apply p_pick_t; apply Eq.refl; apply Eq.refl)); apply Eq.refl) | (apply w_nil) | (apply c_seq) | (apply e_then) | (apply c_region) | (apply w_off; apply Eq.refl; apply Eq.refl) | (apply c_cond_t; apply Eq.refl))
    refine w_call cl8 (awake_ok _) rfl ?_
    rintro v w2 ⟨rfl, hb2⟩
    repeat (first | (apply w_op; (apply p_asB; apply Eq.refl); apply Eq.refl) | (apply w_nil) | (apply e_then) | (apply c_ret) | (apply e_then_ret))
    exact r_ret1 Try.results6 rfl ⟨rfl, hb2⟩
  have hlight : light src dst rs = true := by simpa using q
  have hll := hlight
  unfold light at hll
  simp only [Bool.and_eq_true, decide_eq_true_eq] at hll
  have hs1 := small_len hll.1.1
  have hs2 := small_len hll.1.2
  have hi1 := small_in hll.1.1
  have hi2 := small_in hll.1.2
  have hl3 := hll.2
  repeat (first | (apply w_op; (apply p_mvL; apply Eq.refl); apply Eq.refl) | (apply w_on; apply Eq.refl))
  refine w_call cl14 (flCheck_ok _ src _ B h1 hB (by omega) hi1) rfl ?_
  rintro v w2 ⟨rfl, hb2⟩
  have z2 := hb2.size
  repeat (first | (apply w_op; (first | (apply p_mvB; apply Eq.refl) | (apply p_neq; apply Eq.refl; apply Eq.refl) | (apply p_pick_f; apply Eq.refl; apply Eq.refl)); apply Eq.refl) | (apply w_on; apply Eq.refl))
  refine w_bool 34 rfl (fun f1 => ?_) (fun f1 => ?_)
  · repeat (first | (apply w_op; (apply p_pick_t; apply Eq.refl; apply Eq.refl); apply Eq.refl) | (apply w_nil) | (apply c_seq) | (apply e_then) | (apply c_region) | (apply w_off; apply Eq.refl; apply Eq.refl) | (apply c_cond_t; apply Eq.refl))
    refine w_call cl8 (awake_ok _) rfl ?_
    rintro v w3 ⟨rfl, hb3⟩
    repeat (first | (apply w_op; (apply p_asB; apply Eq.refl); apply Eq.refl) | (apply w_nil) | (apply e_then) | (apply c_ret) | (apply e_then_ret))
    exact r_ret1 Try.results6 rfl ⟨rfl, hb2.trans (hb3.mono z2)⟩
  repeat (first | (apply w_op; (apply p_mvL; apply Eq.refl); apply Eq.refl) | (apply w_on; apply Eq.refl))
  refine w_call cl14 (flCheck_ok _ dst _ B (h2.below (hb2.mono hB)) (by omega) (by omega) hi2) rfl ?_
  rintro v w3 ⟨rfl, hb3⟩
  have hbel3 := hb2.trans (hb3.mono z2)
  have z3 := hbel3.size
  repeat (first | (apply w_op; (first | (apply p_neq; apply Eq.refl; apply Eq.refl) | (apply p_pick_f; apply Eq.refl; apply Eq.refl)); apply Eq.refl) | (apply w_nil) | (apply e_then) | (apply w_on; apply Eq.refl))
  refine c_cond rfl (fun f2 => ?_) (fun f2 => ?_)
  · repeat (first | (apply c_seq) | (apply c_region))
    refine w_call cl8 (awake_ok _) rfl ?_
    rintro v w4 ⟨rfl, hb4⟩
    repeat (first | (apply w_op; (apply p_asB; apply Eq.refl); apply Eq.refl) | (apply w_nil) | (apply e_then) | (apply c_ret) | (apply e_then_ret))
    exact r_ret1 Try.results6 rfl ⟨rfl, hbel3.trans (hb4.mono z3)⟩
  have hbad : listsBad src dst = false := by simp [listsBad, f1, f2]
  have hglen : (dropAll src dst rs).length ≤ 1000000 := dropAll_len rs hbad hs2
  have hdw : dropWhich src dst rs 2 0 = (dropAll src dst rs, 0) := by
    rw [dw_good hbad (by omega), if_neg (by omega)]
  have hwl : (whyL src dst rs).length = dst.length := by rw [whyL, whyR_len]
  repeat (first | (apply w_op; (first | (apply p_mvL; apply Eq.refl) | (apply p_move)); apply Eq.refl) | (apply c_seq) | (apply e_then) | (apply c_region) | (apply c_skip))
  refine w_op (p_build (built_o1 2)) rfl ?_
  refine w_call cl9 (which_ok _ _ v3 src dst rs (enO 2 0) 2 0 _ B (h1.below (hbel3.mono hB)) (h2.below (hbel3.mono hB)) (h3.below (hbel3.mono hB)) (by omega) (by omega) (by omega) (by omega) hi1 hi2 hi3 (fun _ => hglen) rfl rfl) rfl ?_
  rintro v w4 ⟨hR4, hb4⟩
  rw [hdw] at hR4
  obtain ⟨vg, rfl, hg4⟩ := hR4
  obtain ⟨G, hG⟩ : ∃ G, G = dropAll src dst rs := ⟨_, rfl⟩
  have hg4' : Strs w4 w4.heap.size vg G := by rw [hG]; exact hg4
  rw [← hG] at hglen
  clear hg4
  obtain ⟨Ag, cg, hvg, hcg, _⟩ := hg4'.out
  subst hvg
  have hbel4 := hbel3.trans (hb4.mono z3)
  have z4 := hbel4.size
  repeat (first | (apply w_op; (first | (apply p_mvI; apply Eq.refl) | (apply p_mvL; apply Eq.refl) | (apply p_mvT; apply Eq.refl) | (apply p_asI; apply Eq.refl) | (apply p_asL; apply Eq.refl) | (apply p_extract; apply Eq.refl; apply Eq.refl) | (apply p_neq; apply Eq.refl; apply Eq.refl) | (apply p_len_sl; apply Eq.refl)); apply Eq.refl) | (apply w_nil) | (apply c_seq) | (apply e_then) | (apply c_region) | (apply c_block) | (apply c_cond_f; apply Eq.refl) | (apply c_skip))
  refine c_loop [52] [6, 9, 10, 11, 12, 13, 14, 15, 16, 17, 19, 53, 54, 55, 56, 57, 58, 59, 60, 61, 62, 63, 64, 65, 66, 67, 68, 69, 70, 71, 72, 73, 74, 75, 76, 77, 78, 79, 80, 81, 82, 83, 84, 85, 86, 87, 88, 89, 90, 91, 92, 93, 94, 95, 96, 97, 98, 99, 100, 101, 102, 103, 104, 105, 106, 107, 108, 109, 110, 111, 112, 113, 114, 115, 116, 117, 118, 119, 120, 121, 122, 123, 124, 125, 126, 127, 128] (fun vs w5 => Below w4.heap.size w4 w5 ∧ ∃ k : Nat, vs = [.int .i64 (k : Int)] ∧ k ≤ G.length) (fun vs _ => G.length - (intOf (vs.headD undef)).toNat) rfl
    ⟨Below.refl _ _, 0, rfl, Nat.zero_le _⟩ ?_
  rintro _ u5 w5 ⟨hb5, k, rfl, hk⟩
  have z5 := hb5.size
  have hbel5 := hbel4.trans (hb5.mono z4)
  have hg5 := hg4'.below hb5
  repeat (first | (apply w_op; (apply p_lss; apply Eq.refl; apply Eq.refl); apply Eq.refl) | (apply w_nil) | (apply c_seq) | (apply e_then) | (apply c_region))
  refine c_cond rfl (fun g => ?_) (fun g => ?_)
  · have hlt := of_decide_eq_true g
    have hk1 : k < G.length := by omega
    obtain ⟨adg, rfl, hblk, hcel⟩ := hg5.at_ rfl hk1
    obtain ⟨a, ha⟩ : ∃ a, GoneAt src dst rs G[k] a := by
      subst hG
      exact gone_at hbad hk1
    have hord : ∀ j (hj : j < k), under G[k] (G[j]'(by omega)) = false := by
      subst hG
      intro j hj
      exact gone_order hbad hj hk1
    obtain ⟨P, hP⟩ : ∃ P, P = G[k] := ⟨_, rfl⟩
    rw [← hP] at ha hord
    have hat := ha.lt
    have hPs : P.size ≤ 1099511627775 := by rw [← ha.path]; have := (hi2.out _ (List.getElem_mem ha.lt)).1; omega
    repeat (first | (apply w_op; (first | (apply p_mvI; apply Eq.refl) | (apply p_indexAddr; apply Eq.refl; apply Eq.refl; apply Eq.refl; omega)); apply Eq.refl) | (apply c_seq) | (apply e_then) | (apply c_region) | (apply c_block) | (apply c_skip))
    refine w_op (p_load0 (v := .string P) rfl hcel (by rw [hP]; rfl)) rfl ?_
    repeat (first | (apply w_op; (first | (apply p_mvS; apply Eq.refl) | (apply p_mvL; apply Eq.refl) | (apply p_asI; apply Eq.refl) | (apply p_asS; apply Eq.refl)); apply Eq.refl) | (apply w_nil) | (apply c_seq) | (apply e_then) | (apply c_region))
    refine w_call cl15 (find_ok _ dst P _ B (h2.below (hbel5.mono hB)) (by omega) (by omega)) rfl ?_
    rintro v w6 ⟨hv, hb6⟩
    rw [ha.find] at hv
    subst hv
    have z6 := hb6.size
    have hbel6 := hbel5.trans (hb6.mono (by omega))
    repeat (first | (apply w_op; (first | (apply p_mvS; apply Eq.refl) | (apply p_mvL; apply Eq.refl) | (apply p_mvT; apply Eq.refl) | (apply p_move) | (apply p_asI; apply Eq.refl) | (apply p_asB; apply Eq.refl) | (apply p_extract; apply Eq.refl; apply Eq.refl)); apply Eq.refl) | (apply w_nil) | (apply c_seq) | (apply e_then) | (apply c_region))
    refine w_call cl12 (kept_ok _ _ v3 src dst rs P _ B (h1.below (hbel6.mono hB)) (h2.below (hbel6.mono hB)) (h3.below (hbel6.mono hB)) (by omega) (by omega) (by omega) (by omega) hi1 hi2 hi3) rfl ?_
    rintro v w7 ⟨hv, hb7⟩
    rw [ha.kept] at hv
    subst hv
    have z7 := hb7.size
    have hbel7 := hbel6.trans (hb7.mono (by omega))
    have hd7 := h2.below (hbel7.mono hB)
    obtain ⟨add, hAd, hblkd, hceld⟩ := hd7.at_ rfl ha.lt
    subst hAd
    repeat (first | (apply w_op; (first | (apply p_mvI; apply Eq.refl) | (apply p_mvB; apply Eq.refl) | (apply p_mvL; apply Eq.refl) | (apply p_mvT; apply Eq.refl) | (apply p_asI; apply Eq.refl) | (apply p_asB; apply Eq.refl) | (apply p_fieldAddr; apply Eq.refl) | (apply p_extract; apply Eq.refl; apply Eq.refl) | (apply p_neq; apply Eq.refl; apply Eq.refl) | (apply p_not; apply Eq.refl) | (apply p_pick_f; apply Eq.refl; apply Eq.refl) | (apply p_indexAddr; apply Eq.refl; apply Eq.refl; apply Eq.refl; omega)); apply Eq.refl) | (apply w_nil) | (apply c_seq) | (apply e_then) | (apply c_region) | (apply w_on; apply Eq.refl) | (apply c_cond_f; apply Eq.refl) | (apply c_skip))
    refine w_op (p_loadF (j := 1) (v := .int .i64 (dst[a]'ha.lt).kind) rfl hceld rfl) rfl ?_
    repeat (first | (apply w_op; (first | (apply p_mvS; apply Eq.refl) | (apply p_mvL; apply Eq.refl) | (apply p_asB; apply Eq.refl) | (apply p_eql; apply Eq.refl; apply Eq.refl)); apply Eq.refl) | (apply w_nil) | (apply c_seq) | (apply e_then) | (apply c_region))
    refine w_call cl15 (find_ok _ src P _ B (h1.below (hbel7.mono hB)) (by omega) (by omega)) rfl ?_
    rintro v w8 ⟨hv, hb8⟩
    have z8 := hb8.size
    have hbel8 := hbel7.trans (hb8.mono (by omega))
    have hs8 := h1.below (hbel8.mono hB)
    have hr8 := h3.below (hbel8.mono hB)
    obtain ⟨D, hD⟩ : ∃ D, D = decide ((dst[a]'ha.lt).kind = 2) := ⟨_, rfl⟩
    have hhid := ha.hid
    have hsafe := ha.safe
    rw [← hD] at hhid hsafe
    rw [show decide ((dst[a]'ha.lt).kind = 2) = D from hD.symm]
    cases hf : findF P src 0 with
    | none =>
      rw [hf] at hv
      subst hv
      repeat (first | (apply w_op; (first | (apply p_mvS; apply Eq.refl) | (apply p_mvB; apply Eq.refl) | (apply p_mvT; apply Eq.refl) | (apply p_move) | (apply p_asI; apply Eq.refl) | (apply p_asB; apply Eq.refl) | (apply p_extract; apply Eq.refl; apply Eq.refl) | (apply p_pick_f; apply Eq.refl; apply Eq.refl)); apply Eq.refl) | (apply w_nil) | (apply c_seq) | (apply e_then) | (apply c_region) | (apply w_on; apply Eq.refl) | (apply w_off; apply Eq.refl; apply Eq.refl))
      refine w_call cl16 (rlHid_ok v3 rs P D _ B hr8 (by omega) hi3 (by omega) hPs) rfl ?_
      rintro v w9 ⟨hv, hb9⟩
      rw [hhid] at hv
      subst hv
      have z9 := hb9.size
      have hbel9 := hbel8.trans (hb9.mono (by omega))
      repeat (first | (apply w_op; (first | (apply p_mvS; apply Eq.refl) | (apply p_mvB; apply Eq.refl) | (apply p_move) | (apply p_pick_f; apply Eq.refl; apply Eq.refl)); apply Eq.refl) | (apply w_on; apply Eq.refl))
      refine w_call cl17 (rlSafe_ok v3 rs P D _ B (h3.below (hbel9.mono hB)) (by omega) hi3 (by omega) hPs) rfl ?_
      rintro v w10 ⟨hv, hb10⟩
      rw [hsafe] at hv
      subst hv
      have z10 := hb10.size
      have hb410 : Below w4.heap.size w4 w10 := ((((hb5.trans (hb6.mono (by omega))).trans (hb7.mono (by omega))).trans (hb8.mono (by omega))).trans (hb9.mono (by omega))).trans (hb10.mono (by omega))
      repeat (first | (apply w_op; (first | (apply p_mvI; apply Eq.refl) | (apply p_mvL; apply Eq.refl) | (apply p_pick_f; apply Eq.refl; apply Eq.refl)); apply Eq.refl) | (apply w_nil) | (apply c_seq) | (apply e_then) | (apply c_region) | (apply c_cond_f; apply Eq.refl) | (apply c_skip))
      obtain ⟨Ac, hAc⟩ : ∃ Ac, cutA (some adg) 0 cg 1 = Ac := ⟨_, rfl⟩
      have hh : Strs w4 w4.heap.size (.slice Ac k cg) (G.take k) := by
        have := hg4'.head rfl (k := k) (by omega)
        rw [hAc] at this
        exact this
      refine w_op (v := .slice Ac k cg) (by rw [← hAc]; exact p_cut_h (hi := (k : Int)) rfl rfl (by omega)) rfl ?_
      repeat (first | (apply w_op; (first | (apply p_mvI; apply Eq.refl) | (apply p_len_sl; apply Eq.refl)); apply Eq.refl) | (apply w_nil) | (apply e_then) | (apply c_block))
      refine c_loop [120] [6, 19, 121, 122, 123, 124, 125, 126, 127] (fun vs w11 => Below w4.heap.size w4 w11 ∧ ∃ j : Nat, vs = [.int .i64 (j : Int)] ∧ j ≤ k) (fun vs _ => k - (intOf (vs.headD undef)).toNat) rfl ⟨hb410, 0, rfl, Nat.zero_le _⟩ ?_
      rintro _ u11 w11 ⟨hb11, j, rfl, hj⟩
      have z11 := hb11.size
      repeat (first | (apply w_op; (apply p_lss; apply Eq.refl; apply Eq.refl); apply Eq.refl) | (apply w_nil) | (apply c_seq) | (apply e_then) | (apply c_region))
      refine c_cond rfl (fun gj => ?_) (fun gj => ?_)
      · have hjk : j < k := by have := of_decide_eq_true gj; omega
        obtain ⟨adj, hAj, hblkj, hcelj⟩ := (hh.below hb11).at_ rfl (show j < (G.take k).length by rw [List.length_take]; omega)
        subst hAj
        rw [List.getElem_take] at hcelj
        have hjs : (G[j]'(by omega)).size ≤ 1099511627775 := by
          subst hG
          obtain ⟨a', ha'⟩ := gone_at hbad (show j < (dropAll src dst rs).length by omega)
          rw [← ha'.path]
          have := (hi2.out _ (List.getElem_mem ha'.lt)).1
          omega
        repeat (first | (apply w_op; (apply p_indexAddr; apply Eq.refl; apply Eq.refl; apply Eq.refl; omega); apply Eq.refl) | (apply c_seq) | (apply e_then) | (apply c_region) | (apply c_block) | (apply c_skip))
        refine w_op (p_load0 (v := .string (G[j]'(by omega))) rfl hcelj rfl) rfl ?_
        repeat (first | (apply w_op; (first | (apply p_mvS; apply Eq.refl) | (apply p_asS; apply Eq.refl)); apply Eq.refl) | (apply w_nil) | (apply c_seq) | (apply e_then) | (apply c_region))
        refine w_call cl18 (under_ok P _ _ hPs hjs) rfl ?_
        rintro v w12 ⟨hv, hb12⟩
        rw [hord j hjk] at hv
        subst hv
        repeat (first | (apply w_op; (first | (apply p_mvI; apply Eq.refl) | (apply p_add64; apply Eq.refl; apply Eq.refl; omega)); apply Eq.refl) | (apply w_nil) | (apply e_then) | (apply c_region) | (apply c_cond_f; apply Eq.refl) | (apply c_skip) | (apply e_bk))
        refine e_lp (by repeat (first | exact Over.base | exact Over.refl | refine Over.put rfl ?_)) ?_
        refine ⟨⟨hb11.trans (hb12.mono z11), j + 1, rfl, by omega⟩, ?_⟩
        show k - ((j : Int) + 1).toNat < k - ((j : Int)).toNat
        omega
      · repeat (first | (apply w_op; (first | (apply p_mvI; apply Eq.refl) | (apply p_add64; apply Eq.refl; apply Eq.refl; omega)); apply Eq.refl) | (apply w_nil) | (apply e_then) | (apply c_region) | (apply c_exit) | (apply e_then_exit) | (apply e_bk) | (apply e_bk_same) | (apply e_lp_exit))
        refine e_lp (by repeat (first | exact Over.base | exact Over.refl | refine Over.put rfl ?_)) ?_
        refine ⟨⟨hb11, k + 1, rfl, by omega⟩, ?_⟩
        show G.length - ((k : Int) + 1).toNat < G.length - ((k : Int)).toNat
        omega
    | some m =>
      rw [hf] at hv
      subst hv
      obtain ⟨_, e, he, _⟩ := findF_ge P src 0 m hf
      rw [Nat.sub_zero] at he
      obtain ⟨hm, _⟩ := List.getElem?_eq_some_iff.1 he
      obtain ⟨ads, hAs, hblks, hcels⟩ := hs8.at_ rfl hm
      subst hAs
      have hth := ha.src m hm hf
      rw [← hD] at hth
      repeat (first | (apply w_op; (first | (apply p_mvI; apply Eq.refl) | (apply p_mvB; apply Eq.refl) | (apply p_mvL; apply Eq.refl) | (apply p_mvT; apply Eq.refl) | (apply p_asI; apply Eq.refl) | (apply p_asB; apply Eq.refl) | (apply p_fieldAddr; apply Eq.refl) | (apply p_extract; apply Eq.refl; apply Eq.refl) | (apply p_indexAddr; apply Eq.refl; apply Eq.refl; apply Eq.refl; omega)); apply Eq.refl) | (apply w_nil) | (apply c_seq) | (apply e_then) | (apply c_region) | (apply w_on; apply Eq.refl))
      refine w_op (p_loadF (j := 1) (v := .int .i64 src[m].kind) rfl hcels rfl) rfl ?_
      repeat (first | (apply w_op; (first | (apply p_mvB; apply Eq.refl) | (apply p_eql; apply Eq.refl; apply Eq.refl) | (apply p_pick_t; apply Eq.refl; apply Eq.refl) | (apply p_beql; apply Eq.refl; apply Eq.refl)); apply Eq.refl) | (apply w_on; apply Eq.refl))
      refine w_bool 104 rfl (fun f => by rw [hth] at f; cases f) (fun f => ?_)
      repeat (first | (apply w_op; (first | (apply p_mvS; apply Eq.refl) | (apply p_mvB; apply Eq.refl) | (apply p_move)); apply Eq.refl) | (apply w_on; apply Eq.refl))
      refine w_call cl16 (rlHid_ok v3 rs P D _ B hr8 (by omega) hi3 (by omega) hPs) rfl ?_
      rintro v w9 ⟨hv, hb9⟩
      rw [hhid] at hv
      subst hv
      have z9 := hb9.size
      have hbel9 := hbel8.trans (hb9.mono (by omega))
      repeat (first | (apply w_op; (first | (apply p_mvS; apply Eq.refl) | (apply p_mvB; apply Eq.refl) | (apply p_move) | (apply p_pick_f; apply Eq.refl; apply Eq.refl)); apply Eq.refl) | (apply w_on; apply Eq.refl))
      refine w_call cl17 (rlSafe_ok v3 rs P D _ B (h3.below (hbel9.mono hB)) (by omega) hi3 (by omega) hPs) rfl ?_
      rintro v w10 ⟨hv, hb10⟩
      rw [hsafe] at hv
      subst hv
      have z10 := hb10.size
      have hb410 : Below w4.heap.size w4 w10 := ((((hb5.trans (hb6.mono (by omega))).trans (hb7.mono (by omega))).trans (hb8.mono (by omega))).trans (hb9.mono (by omega))).trans (hb10.mono (by omega))
      repeat (first | (apply w_op; (first | (apply p_mvI; apply Eq.refl) | (apply p_mvL; apply Eq.refl) | (apply p_pick_f; apply Eq.refl; apply Eq.refl)); apply Eq.refl) | (apply w_nil) | (apply c_seq) | (apply e_then) | (apply c_region) | (apply c_cond_f; apply Eq.refl) | (apply c_skip))
      obtain ⟨Ac, hAc⟩ : ∃ Ac, cutA (some adg) 0 cg 1 = Ac := ⟨_, rfl⟩
      have hh : Strs w4 w4.heap.size (.slice Ac k cg) (G.take k) := by
        have := hg4'.head rfl (k := k) (by omega)
        rw [hAc] at this
        exact this
      refine w_op (v := .slice Ac k cg) (by rw [← hAc]; exact p_cut_h (hi := (k : Int)) rfl rfl (by omega)) rfl ?_
      repeat (first | (apply w_op; (first | (apply p_mvI; apply Eq.refl) | (apply p_len_sl; apply Eq.refl)); apply Eq.refl) | (apply w_nil) | (apply e_then) | (apply c_block))
      refine c_loop [120] [6, 19, 121, 122, 123, 124, 125, 126, 127] (fun vs w11 => Below w4.heap.size w4 w11 ∧ ∃ j : Nat, vs = [.int .i64 (j : Int)] ∧ j ≤ k) (fun vs _ => k - (intOf (vs.headD undef)).toNat) rfl ⟨hb410, 0, rfl, Nat.zero_le _⟩ ?_
      rintro _ u11 w11 ⟨hb11, j, rfl, hj⟩
      have z11 := hb11.size
      repeat (first | (apply w_op; (apply p_lss; apply Eq.refl; apply Eq.refl); apply Eq.refl) | (apply w_nil) | (apply c_seq) | (apply e_then) | (apply c_region))
      refine c_cond rfl (fun gj => ?_) (fun gj => ?_)
      · have hjk : j < k := by have := of_decide_eq_true gj; omega
        obtain ⟨adj, hAj, hblkj, hcelj⟩ := (hh.below hb11).at_ rfl (show j < (G.take k).length by rw [List.length_take]; omega)
        subst hAj
        rw [List.getElem_take] at hcelj
        have hjs : (G[j]'(by omega)).size ≤ 1099511627775 := by
          subst hG
          obtain ⟨a', ha'⟩ := gone_at hbad (show j < (dropAll src dst rs).length by omega)
          rw [← ha'.path]
          have := (hi2.out _ (List.getElem_mem ha'.lt)).1
          omega
        repeat (first | (apply w_op; (apply p_indexAddr; apply Eq.refl; apply Eq.refl; apply Eq.refl; omega); apply Eq.refl) | (apply c_seq) | (apply e_then) | (apply c_region) | (apply c_block) | (apply c_skip))
        refine w_op (p_load0 (v := .string (G[j]'(by omega))) rfl hcelj rfl) rfl ?_
        repeat (first | (apply w_op; (first | (apply p_mvS; apply Eq.refl) | (apply p_asS; apply Eq.refl)); apply Eq.refl) | (apply w_nil) | (apply c_seq) | (apply e_then) | (apply c_region))
        refine w_call cl18 (under_ok P _ _ hPs hjs) rfl ?_
        rintro v w12 ⟨hv, hb12⟩
        rw [hord j hjk] at hv
        subst hv
        repeat (first | (apply w_op; (first | (apply p_mvI; apply Eq.refl) | (apply p_add64; apply Eq.refl; apply Eq.refl; omega)); apply Eq.refl) | (apply w_nil) | (apply e_then) | (apply c_region) | (apply c_cond_f; apply Eq.refl) | (apply c_skip) | (apply e_bk))
        refine e_lp (by repeat (first | exact Over.base | exact Over.refl | refine Over.put rfl ?_)) ?_
        refine ⟨⟨hb11.trans (hb12.mono z11), j + 1, rfl, by omega⟩, ?_⟩
        show k - ((j : Int) + 1).toNat < k - ((j : Int)).toNat
        omega
      · repeat (first | (apply w_op; (first | (apply p_mvI; apply Eq.refl) | (apply p_add64; apply Eq.refl; apply Eq.refl; omega)); apply Eq.refl) | (apply w_nil) | (apply e_then) | (apply c_region) | (apply c_exit) | (apply e_then_exit) | (apply e_bk) | (apply e_bk_same) | (apply e_lp_exit))
        refine e_lp (by repeat (first | exact Over.base | exact Over.refl | refine Over.put rfl ?_)) ?_
        refine ⟨⟨hb11, k + 1, rfl, by omega⟩, ?_⟩
        show G.length - ((k : Int) + 1).toNat < G.length - ((k : Int)).toNat
        omega
  · have hge := of_decide_eq_false g
    obtain rfl : k = G.length := by omega
    repeat (first | (apply w_op; (first | (apply p_mvI; apply Eq.refl) | (apply p_mvL; apply Eq.refl) | (apply p_len_sl; apply Eq.refl)); apply Eq.refl) | (apply w_nil) | (apply c_seq) | (apply e_then) | (apply c_region) | (apply c_block) | (apply c_exit) | (apply e_then_exit) | (apply e_bk_same) | (apply e_lp_exit))
    refine c_loop [131, 8] [21, 22, 23, 132, 133, 134, 135, 136, 137, 138, 139, 140, 141, 142, 143, 144, 145, 146, 147, 148] (fun vs w6 => Below w4.heap.size w4 w6 ∧ ∃ k : Nat, vs = [.int .i64 (k : Int), .int .i64 (((whyL src dst rs).take k).countP (fun w => decide (w = 0)) : Nat)] ∧ k ≤ dst.length) (fun vs _ => dst.length - (intOf (vs.headD undef)).toNat) rfl
      ⟨hb5, 0, rfl, Nat.zero_le _⟩ ?_
    rintro _ u6 w6 ⟨hb6, k, rfl, hk⟩
    have z6 := hb6.size
    have hbel6 := hbel4.trans (hb6.mono z4)
    have hd6 := h2.below (hbel6.mono hB)
    repeat (first | (apply w_op; (apply p_lss; apply Eq.refl; apply Eq.refl); apply Eq.refl) | (apply w_nil) | (apply c_seq) | (apply e_then) | (apply c_region))
    refine c_cond rfl (fun g2 => ?_) (fun g2 => ?_)
    · have hlt := of_decide_eq_true g2
      have hk1 : k < dst.length := by omega
      obtain ⟨add, hAd, hblkd, hceld⟩ := hd6.at_ rfl hk1
      subst hAd
      have hkw : k < (whyL src dst rs).length := by omega
      have hcle := List.countP_le_length (p := fun w : Int => decide (w = 0)) (l := (whyL src dst rs).take k)
      rw [List.length_take] at hcle
      repeat (first | (apply w_op; (apply p_indexAddr; apply Eq.refl; apply Eq.refl; apply Eq.refl; omega); apply Eq.refl) | (apply c_seq) | (apply e_then) | (apply c_region) | (apply c_block) | (apply c_skip))
      refine w_op (p_loadS rfl hceld rfl) rfl ?_
      refine w_alloc rfl (fun b7 w7 hn7 => ?_)
      obtain ⟨cs7, hb7, hl7⟩ := hn7.zblk Try.prog
      refine w_storeW rfl rfl rfl rfl hb7 hl7 (fun w8 hp8 hb8 => ?_)
      have hb48 : Below w4.heap.size w4 w8 := hb6.grown (gNP hn7 hp8) z6 (fun j hj => by cases hj)
      have hbel8 := hbel4.trans (hb48.mono z4)
      have z8 := hb48.size
      have hc8 := hb8.obj0
      repeat (first | (apply w_op; (first | (apply p_mvL; apply Eq.refl) | (apply p_move) | (apply p_fieldAddr; apply Eq.refl)); apply Eq.refl) | (apply w_nil) | (apply c_seq) | (apply e_then) | (apply c_region))
      refine w_op (p_load0 (v := .string dst[k].path) rfl (by rw [addr_add_zero]; exact hc8) rfl) rfl ?_
      refine w_call cl12 (kept_ok _ _ v3 src dst rs dst[k].path _ B (h1.below (hbel8.mono hB)) (h2.below (hbel8.mono hB)) (h3.below (hbel8.mono hB)) (by omega) (by omega) (by omega) (by omega) hi1 hi2 hi3) rfl ?_
      rintro v w9 ⟨hv, hb9⟩
      rw [kept_at hbad hk1 hkw] at hv
      subst hv
      have hb49 := hb48.trans (hb9.mono z8)
      have hstep : ((whyL src dst rs).take (k + 1)).countP (fun w => decide (w = 0)) = ((whyL src dst rs).take k).countP (fun w => decide (w = 0)) + (if (whyL src dst rs)[k] = 0 then 1 else 0) := by
        rw [List.take_succ_eq_append_getElem hkw, List.countP_append, List.countP_cons, List.countP_nil]
        by_cases h0 : (whyL src dst rs)[k] = 0 <;> simp [h0]
      repeat (first | (apply w_op; (first | (apply p_mvI; apply Eq.refl) | (apply p_mvT; apply Eq.refl) | (apply p_asI; apply Eq.refl) | (apply p_asB; apply Eq.refl) | (apply p_extract; apply Eq.refl; apply Eq.refl) | (apply p_eql; apply Eq.refl; apply Eq.refl)); apply Eq.refl) | (apply w_nil) | (apply c_seq) | (apply e_then) | (apply c_region))
      refine c_cond rfl (fun g3 => ?_) (fun g3 => ?_)
      · rw [if_pos (of_decide_eq_true g3)] at hstep
        repeat (first | (apply w_op; (first | (apply p_mvI; apply Eq.refl) | (apply p_asI; apply Eq.refl) | (apply p_add64; apply Eq.refl; apply Eq.refl; omega)); apply Eq.refl) | (apply w_nil) | (apply e_then) | (apply c_region) | (apply e_bk))
        refine e_lp (by repeat (first | exact Over.base | exact Over.refl | refine Over.put rfl ?_)) ?_
        refine ⟨⟨hb49, k + 1, ?_, by omega⟩, ?_⟩
        · rw [hstep]; rfl
        · show dst.length - ((k : Int) + 1).toNat < dst.length - ((k : Int)).toNat
          omega
      · rw [if_neg (of_decide_eq_false g3), Nat.add_zero] at hstep
        repeat (first | (apply w_op; (first | (apply p_mvI; apply Eq.refl) | (apply p_add64; apply Eq.refl; apply Eq.refl; omega)); apply Eq.refl) | (apply w_nil) | (apply e_then) | (apply c_region) | (apply c_skip) | (apply e_bk))
        refine e_lp (by repeat (first | exact Over.base | exact Over.refl | refine Over.put rfl ?_)) ?_
        refine ⟨⟨hb49, k + 1, ?_, by omega⟩, ?_⟩
        · rw [hstep]; rfl
        · show dst.length - ((k : Int) + 1).toNat < dst.length - ((k : Int)).toNat
          omega
    · have hge := of_decide_eq_false g2
      obtain rfl : k = dst.length := by omega
      have hcnt : ((whyL src dst rs).take dst.length).countP (fun w => decide (w = 0)) = G.length := by
        rw [← hwl, List.take_length, hG, gone_count hbad]
      rw [hcnt]
      repeat (first | (apply w_op; (first | (apply p_mvI; apply Eq.refl) | (apply p_mvB; apply Eq.refl) | (apply p_mvL; apply Eq.refl) | (apply p_eql; apply Eq.refl; apply Eq.refl) | (apply p_len_sl; apply Eq.refl)); apply Eq.refl) | (apply c_seq) | (apply e_then) | (apply c_region) | (apply c_exit) | (apply e_then_exit) | (apply e_bk_same) | (apply e_lp_exit))
      refine w_bool 153 rfl (fun f => ?_) (fun f => absurd rfl (of_decide_eq_false f))
      repeat (apply w_on; apply Eq.refl)
      refine w_call cl8 (awake_ok _) rfl ?_
      rintro v w7 ⟨rfl, hb7⟩
      repeat (first | (apply w_op; (first | (apply p_asB; apply Eq.refl) | (apply p_pick_t; apply Eq.refl; apply Eq.refl)); apply Eq.refl) | (apply w_nil) | (apply e_then) | (apply c_ret))
      exact r_ret1 Try.results6 rfl ⟨rfl, hbel6.trans (hb7.mono hbel6.size)⟩
end Go.Proofs.Ytjcbnohnilffoaa
