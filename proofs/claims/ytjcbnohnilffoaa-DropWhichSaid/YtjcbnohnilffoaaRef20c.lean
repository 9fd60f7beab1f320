/- THE WALKS of the document's answer for lists (remoraref20): Check.  -/
import Derived.Test.YtjcbnohnilffoaaRef24
import Derived.Test.YtjcbnohnilffoaaOrd4
import Derived.Test.YtjcbnohnilffoaaSc
set_option linter.unusedVariables false
set_option linter.unusedSimpArgs false
namespace Go.Proofs.Ytjcbnohnilffoaa
open Go.RowKit

theorem rise_snoc {l : List En} {k : Nat} (hk : k < l.length) (hpw : (l.take k).Pairwise (fun a b => PLt a.path b.path)) (h1 : (prevE l k).any (fun p => decide (l[k].path = p.path)) = false) (h2 : (prevE l k).any (fun p => less l[k].path p.path) = false) :
    (l.take (k + 1)).Pairwise (fun a b => PLt a.path b.path) := by
  rw [List.take_succ_eq_append_getElem hk, List.pairwise_append]
  refine ⟨hpw, List.pairwise_singleton _ _, fun a ha b hb => ?_⟩
  rw [List.mem_singleton] at hb
  subst hb
  obtain ⟨i, hi, e⟩ := List.mem_iff_getElem.1 ha
  obtain ⟨k', rfl⟩ : ∃ k', k = k' + 1 := ⟨k - 1, by rw [List.length_take] at hi; omega⟩
  have hk' : k' < l.length := by omega
  rw [prevE, List.getElem?_eq_getElem hk'] at h1 h2
  simp only [Option.any_some, decide_eq_false_iff_not] at h1 h2
  have hlast : PLt l[k'].path l[k' + 1].path := by
    rcases PLt.total l[k'].path l[k' + 1].path with h | h | h
    · exact h
    · exact absurd h.symm h1
    · rw [less_iff.2 h] at h2; cases h2
  by_cases hik : i = k'
  · subst hik
    rw [← e, List.getElem_take]
    exact hlast
  · have hj : k' < (l.take (k' + 1)).length := by rw [List.length_take]; omega
    have := List.pairwise_iff_getElem.1 hpw i k' hi hj (by rw [List.length_take] at hi; omega)
    rw [e, List.getElem_take] at this
    exact this.trans hlast

set_option maxRecDepth 100000 in
theorem rflCheck_ok (vl : Value) (l : List En) (w : World) (B : Nat) (h : Ens w B vl l) (hB : B ≤ w.heap.size) (hl : l.length ≤ 1000000) (hin : EnsIn l) :
    Ret Try.prog 36 [vl] w fun v w' => v = .int .i64 (flErr l) ∧ Below w.heap.size w w' := by
  obtain ⟨A1, c1, rfl, hc1, hA1⟩ := h.out
  refine calls_in Try.func36 rfl Try.ntmps36 rfl ?_
  repeat (first | (apply w_op; (apply p_asI; apply Eq.refl); apply Eq.refl) | (apply w_nil) | (apply c_seq) | (apply e_then) | (apply c_region) | (apply c_block))
  refine c_loop [4, 3] [2, 5, 6, 7, 8, 9, 10, 11, 12, 13, 14, 15, 16, 17, 18, 19, 20, 21, 22, 23, 24, 25, 26, 27, 28, 29, 30, 31, 32, 33, 34, 35, 36, 37, 38, 39, 40, 41, 42, 43, 44, 45, 46, 47, 48, 49, 50, 51, 52, 53, 54, 55, 56, 57, 58, 59, 60, 61, 62, 63, 64, 65, 66, 67, 68, 69, 70, 71, 72, 73, 74, 75, 76, 77, 78, 79, 80, 81, 82, 83, 84] (fun vs w3 => ∃ (k : Nat) (last : Int), vs = [.int .i64 (k : Int), .int .i64 last] ∧ k ≤ l.length ∧ 0 ≤ last ∧ last ≤ k ∧ Below w.heap.size w w3 ∧ flErr l = fchk (prevE l k) (dirsOf (l.take k)) last (l.drop k) ∧ (l.take k).Pairwise (fun a b => PLt a.path b.path))
    (fun vs _ => l.length - (intOf (vs.headD undef)).toNat) rfl
    ⟨0, 0, rfl, Nat.zero_le _, Int.le_refl _, Int.le_refl _, Below.refl _ _, by unfold flErr dirsOf prevE; simp, by simp⟩ ?_
  rintro _ u w3 ⟨k, last, rfl, hk, hl0, hlk, hb3, herr, hpw⟩
  have hs3 := h.below (hb3.mono hB)
  repeat (first | (apply w_op; (first | (apply p_mvI; apply Eq.refl) | (apply p_mvL; apply Eq.refl) | (apply p_lss; apply Eq.refl; apply Eq.refl) | (apply p_len_sl; apply Eq.refl)); apply Eq.refl) | (apply w_nil) | (apply c_seq) | (apply e_then) | (apply c_region))
  refine c_cond rfl (fun g => ?_) (fun g => ?_)
  · have hlt := of_decide_eq_true g
    have hk1 : k < l.length := by omega
    obtain ⟨ad, rfl, hblk, hcel⟩ := hs3.at_ rfl hk1
    obtain ⟨hi1, hi2, hi3⟩ := hin.out _ (List.getElem_mem hk1)
    rw [List.drop_eq_getElem_cons hk1] at herr
    simp only [fchk] at herr
    repeat (first | (apply w_op; (first | (apply p_mvI; apply Eq.refl) | (apply p_mvL; apply Eq.refl) | (apply p_indexAddr; apply Eq.refl; apply Eq.refl; apply Eq.refl; omega)); apply Eq.refl) | (apply c_seq) | (apply e_then) | (apply c_region) | (apply c_block) | (apply c_skip))
    refine w_op (p_loadS rfl hcel rfl) rfl ?_
    refine w_alloc rfl (fun b4 w4 hn4 => ?_)
    obtain ⟨cs4, hb4, hl4⟩ := hn4.zblk Try.prog
    skip
    refine w_storeW rfl rfl rfl rfl hb4 hl4 (fun w5 hp5 hb5 => ?_)
    have hz4 := hn4.size
    have hwb4 := hn4.hb
    have hz5 := hp5.size
    have hz3 := hb3.size
    have hbel5 := hp5.below (hn4.below hb3 hz3) (by omega) (by omega)
    have hc5 := hb5.obj0
    repeat (first | (apply w_nil) | (apply c_seq) | (apply e_then) | (apply c_region))
    refine w_op (p_loadS rfl hc5 rfl) rfl ?_
    refine w_call cl46 (rmay_ok l[k] _ hi1 hi2 hi3) rfl ?_
    rintro v w6 ⟨rfl, hb6⟩
    have hbel6 := hbel5.trans (hb6.mono hbel5.size)
    have hc6 := hc5.below hb6 hb5.lt
    have hz6 := hb6.size
    repeat (first | (apply w_op; (first | (apply p_mvI; apply Eq.refl) | (apply p_asI; apply Eq.refl) | (apply p_neq; apply Eq.refl; apply Eq.refl)); apply Eq.refl) | (apply w_nil) | (apply c_seq) | (apply e_then) | (apply c_region))
    refine c_cond rfl (fun q => ?_) (fun q => ?_)
    · have q' : aloneErr l[k] ≠ 0 := by simpa using q
      repeat (first | (apply w_op; (first | (apply p_mvI; apply Eq.refl) | (apply p_asI; apply Eq.refl)); apply Eq.refl) | (apply w_nil) | (apply c_seq) | (apply e_then) | (apply c_region) | (apply c_ret) | (apply e_then_ret) | (apply e_bk_ret) | (apply e_lp_ret))
      exact r_ret1 Try.results36 rfl ⟨congrArg (Value.int .i64) (by rw [herr, if_pos q']), hbel6⟩
    · have q' : ¬ aloneErr l[k] ≠ 0 := by simpa using q
      have q0 : aloneErr l[k] = 0 := by simpa using q
      have hg0 := alone_group q0
      rw [if_neg q'] at herr
      have hs6 := h.below (hbel6.mono hB)
      have hB6 : B ≤ w6.heap.size := by omega
      have hb4lt : b4 < w6.heap.size := by omega
      repeat (first | (apply c_seq) | (apply e_then) | (apply c_skip))
      refine c_cut1 [37] [25, 26, 27, 28, 29, 30, 31, 32, 33, 34, 35, 36] (fun vs w7 => vs = [.bool ((prevE l k).any (fun p => decide (l[k].path = p.path)))] ∧ Below w6.heap.size w6 w7) ?_ ?_
      · refine c_quiet (fun x => Below w6.heap.size w6 x) mixed (by kernel_rfl) (Below.refl _ _).drew ?_
        repeat (apply q_op; intro _ hC; (first | (apply p_mvI; apply Eq.refl) | (apply p_mvB; apply Eq.refl) | (apply p_gtr; apply Eq.refl; apply Eq.refl)); apply Eq.refl)
        refine q_bool 27 rfl (fun g1 => ?_) (fun g1 => ?_)
        · have g1' := of_decide_eq_true g1
          obtain ⟨k', rfl⟩ : ∃ k', k = k' + 1 := ⟨k - 1, by omega⟩
          obtain ⟨ad', e', hblk', hcel'⟩ := hs6.at_ rfl (show k' < l.length by omega)
          injection e' with e'
          subst e'
          repeat (first | (apply q_op; intro _ hC; (apply p_fieldAddr; apply Eq.refl); apply Eq.refl) | (apply q_on; apply Eq.refl))
          refine q_op (fun x hx => p_loadF (j := 0) (v := .string l[k' + 1].path) rfl (hc6.below hx hb4lt) rfl) rfl ?_
          repeat (first | (apply q_op; intro _ hC; (first | (apply p_mvI; apply Eq.refl) | (apply p_mvL; apply Eq.refl) | (apply p_fieldAddr; apply Eq.refl) | (apply p_sub64; apply Eq.refl; apply Eq.refl; omega) | (apply p_indexAddr; apply Eq.refl; apply Eq.refl; apply Eq.refl; omega)); apply Eq.refl) | (apply q_on; apply Eq.refl))
          refine q_op (fun x hx => p_loadA (a' := (ad.add (((((k' + 1 : Nat) : Int) - 1).toNat) * 11)).add 0) (v := .string l[k'].path) (j := 0) rfl (by rw [addr_add_zero, addr_add_zero, show (((k' + 1 : Nat) : Int) - 1).toNat = k' by omega]) (hcel'.below (hx.mono hB6) (by rw [addr_add_block]; exact hblk')) rfl) rfl ?_
          repeat (first | (apply q_op; intro _ hC; (first | (apply p_seql; apply Eq.refl; apply Eq.refl) | (apply p_pick_t; apply Eq.refl; apply Eq.refl)); apply Eq.refl) | (apply q_on; apply Eq.refl))
          refine q_nil (fun w7 hb7 => ?_)
          refine e_ct (by repeat (first | exact Over.base | exact Over.refl | refine Over.put rfl ?_ | refine Over.cnP rfl ?_ | refine Over.zpP rfl ?_)) ?_
          refine ⟨?_, hb7⟩
          rw [prevE, List.getElem?_eq_getElem (show k' < l.length by omega)]
          rfl
        · have g1' := of_decide_eq_false g1
          obtain rfl : k = 0 := by omega
          repeat (first | (apply q_op; intro _ hC; (apply p_pick_f; apply Eq.refl; apply Eq.refl); apply Eq.refl) | (apply q_off; apply Eq.refl; apply Eq.refl))
          refine q_nil (fun w7 hb7 => ?_)
          refine e_ct (by repeat (first | exact Over.base | exact Over.refl | refine Over.put rfl ?_ | refine Over.cnP rfl ?_ | refine Over.zpP rfl ?_)) ?_
          exact ⟨rfl, hb7⟩
      · rintro _ u7 w7 ⟨rfl, hb7⟩
        have hbel7 := hbel6.trans (hb7.mono hbel6.size)
        have hc7 := hc6.below hb7 hb4lt
        have hz7 := hb7.size
        skip
        refine c_cond rfl (fun q1 => ?_) (fun q1 => ?_)
        · repeat (first | (apply w_op; (apply p_asI; apply Eq.refl); apply Eq.refl) | (apply w_nil) | (apply c_seq) | (apply e_then) | (apply c_region) | (apply c_ret) | (apply e_then_ret) | (apply e_bk_ret) | (apply e_lp_ret))
          exact r_ret1 Try.results36 rfl ⟨congrArg (Value.int .i64) (by rw [herr, if_pos q1]), hbel7⟩
        · rw [if_neg (by simp [q1])] at herr
          have hs7 := h.below (hbel7.mono hB)
          have hB7 : B ≤ w7.heap.size := by omega
          have hb4lt7 : b4 < w7.heap.size := by omega
          repeat (first | (apply c_seq) | (apply e_then) | (apply c_skip))
          refine c_cut1 [50] [38, 39, 40, 41, 42, 43, 44, 45, 46, 47, 48, 49] (fun vs w8 => vs = [.bool ((prevE l k).any (fun p => less l[k].path p.path))] ∧ Below w7.heap.size w7 w8) ?_ ?_
          · refine c_quiet (fun x => Below w7.heap.size w7 x) mixed (by kernel_rfl) (Below.refl _ _).drew ?_
            repeat (apply q_op; intro _ hC; (first | (apply p_mvI; apply Eq.refl) | (apply p_mvB; apply Eq.refl) | (apply p_gtr; apply Eq.refl; apply Eq.refl)); apply Eq.refl)
            refine q_bool 40 rfl (fun g1 => ?_) (fun g1 => ?_)
            · have g1' := of_decide_eq_true g1
              obtain ⟨k', rfl⟩ : ∃ k', k = k' + 1 := ⟨k - 1, by omega⟩
              obtain ⟨ad', e', hblk', hcel'⟩ := hs7.at_ rfl (show k' < l.length by omega)
              injection e' with e'
              subst e'
              obtain ⟨hj1, _, _⟩ := hin.out _ (List.getElem_mem (show k' < l.length by omega))
              repeat (first | (apply q_op; intro _ hC; (apply p_fieldAddr; apply Eq.refl); apply Eq.refl) | (apply q_on; apply Eq.refl))
              refine q_op (fun x hx => p_loadF (j := 0) (v := .string l[k' + 1].path) rfl (hc7.below hx hb4lt7) rfl) rfl ?_
              repeat (first | (apply q_op; intro _ hC; (first | (apply p_mvI; apply Eq.refl) | (apply p_mvL; apply Eq.refl) | (apply p_fieldAddr; apply Eq.refl) | (apply p_sub64; apply Eq.refl; apply Eq.refl; omega) | (apply p_indexAddr; apply Eq.refl; apply Eq.refl; apply Eq.refl; omega)); apply Eq.refl) | (apply q_on; apply Eq.refl))
              refine q_op (fun x hx => p_loadA (a' := (ad.add (((((k' + 1 : Nat) : Int) - 1).toNat) * 11)).add 0) (v := .string l[k'].path) (j := 0) rfl (by rw [addr_add_zero, addr_add_zero, show (((k' + 1 : Nat) : Int) - 1).toNat = k' by omega]) (hcel'.below (hx.mono hB7) (by rw [addr_add_block]; exact hblk')) rfl) rfl ?_
              repeat (apply q_on; apply Eq.refl)
              refine q_call cl47 (.bool (less l[k' + 1].path l[k'].path)) (fun x hx => ?_) rfl ?_
              · refine Ret.mono (rless_ok _ _ x hi1 hj1) ?_
                rintro v' w' ⟨hv, hb'⟩
                exact ⟨hv, hx.trans (hb'.mono hx.size)⟩
              repeat (apply q_op; intro _ hC; (apply p_pick_t; apply Eq.refl; apply Eq.refl); apply Eq.refl)
              refine q_nil (fun w8 hb8 => ?_)
              refine e_ct (by repeat (first | exact Over.base | exact Over.refl | refine Over.put rfl ?_ | refine Over.cnP rfl ?_ | refine Over.zpP rfl ?_)) ?_
              refine ⟨?_, hb8⟩
              rw [prevE, List.getElem?_eq_getElem (show k' < l.length by omega)]
              rfl
            · have g1' := of_decide_eq_false g1
              obtain rfl : k = 0 := by omega
              repeat (first | (apply q_op; intro _ hC; (apply p_pick_f; apply Eq.refl; apply Eq.refl); apply Eq.refl) | (apply q_off; apply Eq.refl; apply Eq.refl))
              refine q_nil (fun w8 hb8 => ?_)
              refine e_ct (by repeat (first | exact Over.base | exact Over.refl | refine Over.put rfl ?_ | refine Over.cnP rfl ?_ | refine Over.zpP rfl ?_)) ?_
              exact ⟨rfl, hb8⟩
          · rintro _ u8 w8 ⟨rfl, hb8⟩
            have hbel8 := hbel7.trans (hb8.mono hbel7.size)
            have hc8 := hc7.below hb8 hb4lt7
            have hz8 := hb8.size
            skip
            refine c_cond rfl (fun q2 => ?_) (fun q2 => ?_)
            · repeat (first | (apply w_op; (apply p_asI; apply Eq.refl); apply Eq.refl) | (apply w_nil) | (apply c_seq) | (apply e_then) | (apply c_region) | (apply c_ret) | (apply e_then_ret) | (apply e_bk_ret) | (apply e_lp_ret))
              exact r_ret1 Try.results36 rfl ⟨congrArg (Value.int .i64) (by rw [herr, if_pos q2]), hbel8⟩
            · rw [if_neg (by simp [q2])] at herr
              repeat (first | (apply w_op; (apply p_fieldAddr; apply Eq.refl); apply Eq.refl) | (apply c_seq) | (apply e_then) | (apply c_region) | (apply c_skip))
              refine w_op (p_load0 (v := .string l[k].path) rfl (by rw [addr_add_zero]; exact hc8) rfl) rfl ?_
              refine w_call cl39 (rparent_ok _ _ hi1) rfl ?_
              rintro v w9 ⟨rfl, hb9⟩
              have hbel9 := hbel8.trans (hb9.mono hbel8.size)
              have hc9 := hc8.below hb9 (show b4 < _ by omega)
              have hs9 := h.below (hbel9.mono hB)
              obtain ⟨Ac, hAc⟩ : ∃ Ac, cutA (some ad) 0 c1 11 = Ac := ⟨_, rfl⟩
              have hh : Ens w9 B (.slice Ac k c1) (l.take k) := by
                have := hs9.head rfl (k := k) (by omega)
                rw [hAc] at this
                exact this
              repeat (first | (apply w_op; (first | (apply p_mvI; apply Eq.refl) | (apply p_mvL; apply Eq.refl) | (apply p_asS; apply Eq.refl)); apply Eq.refl) | (apply w_nil) | (apply c_seq) | (apply e_then) | (apply c_region))
              refine w_op (v := .slice Ac k c1) (by rw [← hAc]; exact p_cut_h (hi := (k : Int)) rfl rfl (by omega)) rfl ?_
              repeat (apply w_op; (apply p_mvS; apply Eq.refl); apply Eq.refl)
              refine w_call cl26 (rfind_ok _ (l.take k) (parent l[k].path) _ B hh (by rw [List.length_take]; omega)) rfl ?_
              rintro v w10 ⟨rfl, hv⟩
              have hdist : ∀ {i j : Nat} (hi : i < (l.take k).length) (hj : j < (l.take k).length), (l.take k)[i].path = (l.take k)[j].path → i = j := by
                intro i j hi hj e
                have hp := List.pairwise_iff_getElem.1 hpw
                rcases Nat.lt_trichotomy i j with hlt' | rfl | hlt'
                · have := hp i j hi hj hlt'; rw [e] at this; exact absurd this PLt.irrefl
                · rfl
                · have := hp j i hj hi hlt'; rw [e] at this; exact absurd this PLt.irrefl
              have hup := upOk_eq hdist (parent l[k].path)
              have z9 := hbel9.size
              refine w_cut4 [75] [8, 9, 54, 55, 56, 57, 58, 59, 60, 61, 62, 63, 64, 65, 66, 67, 68, 69, 70, 71, 72, 73, 74] (fun vs w11 => vs = [.bool (!dirsOf (l.take k) (parent l[k].path))] ∧ w11 = w10) ?_ ?_
              · rw [← hup]
                unfold upOk
                cases hf : findF (parent l[k].path) (l.take k) 0 with
                | none =>
                  rw [hf] at hv; subst hv
                  repeat (first | (apply w_op; (first | (apply p_mvS; apply Eq.refl) | (apply p_mvB; apply Eq.refl) | (apply p_mvT; apply Eq.refl) | (apply p_asI; apply Eq.refl) | (apply p_asB; apply Eq.refl) | (apply p_extract; apply Eq.refl; apply Eq.refl) | (apply p_sneq; apply Eq.refl; apply Eq.refl) | (apply p_not; apply Eq.refl) | (apply p_pick_t; apply Eq.refl; apply Eq.refl) | (apply p_pick_f; apply Eq.refl; apply Eq.refl)); apply Eq.refl) | (apply w_nil) | (apply e_then) | (apply c_region) | (apply w_on; apply Eq.refl) | (apply w_off; apply Eq.refl; apply Eq.refl) | (apply w_off2; apply Eq.refl; apply Eq.refl) | (apply w_andn; apply Eq.refl; apply Eq.refl; (repeat (first | apply Seg.pick | apply Seg.op | apply Seg.op0)); apply Eq.refl; intro _) | (apply e_sc; (repeat (first | exact Over.base | exact Over.refl | refine Over.put rfl ?_ | refine Over.cnP rfl ?_ | refine Over.zpP rfl ?_)); apply Eq.refl) | (intro _))
                  refine e_ct (by repeat (first | exact Over.base | exact Over.refl | refine Over.put rfl ?_ | refine Over.cnP rfl ?_ | refine Over.zpP rfl ?_)) ?_
                  refine ⟨?_, rfl⟩
                  show [Value.bool (!decide (parent l[k].path = noB) && true)] = _
                  simp
                | some k' =>
                  rw [hf] at hv; subst hv
                  obtain ⟨_, e, he, _⟩ := findF_ge _ _ _ _ hf
                  rw [Nat.sub_zero] at he
                  obtain ⟨hk', hke⟩ := List.getElem?_eq_some_iff.1 he
                  have hk2 : k' < k := by rw [List.length_take] at hk'; omega
                  obtain ⟨ad', e', _, hcel'⟩ := hs9.at_ rfl (show k' < l.length by omega)
                  injection e' with e'
                  subst e'
                  rw [List.getElem_take] at hke
                  rw [hke] at hcel'
                  repeat (first | (apply w_op; (first | (apply p_mvI; apply Eq.refl) | (apply p_mvS; apply Eq.refl) | (apply p_mvB; apply Eq.refl) | (apply p_mvL; apply Eq.refl) | (apply p_mvT; apply Eq.refl) | (apply p_asI; apply Eq.refl) | (apply p_asB; apply Eq.refl) | (apply p_fieldAddr; apply Eq.refl) | (apply p_extract; apply Eq.refl; apply Eq.refl) | (apply p_neq; apply Eq.refl; apply Eq.refl) | (apply p_sneq; apply Eq.refl; apply Eq.refl) | (apply p_not; apply Eq.refl) | (apply p_pick_t; apply Eq.refl; apply Eq.refl) | (apply p_pick_f; apply Eq.refl; apply Eq.refl) | (apply p_indexAddr; apply Eq.refl; apply Eq.refl; apply Eq.refl; omega) | (apply p_loadF; apply Eq.refl; (first | assumption | (apply Cel.bel; assumption; assumption; apply Nat.zero_lt_succ)); (first | apply Eq.refl | assumption))); apply Eq.refl) | (apply w_nil) | (apply e_then) | (apply c_region) | (apply w_on; apply Eq.refl) | (apply w_off; apply Eq.refl; apply Eq.refl) | (apply w_off2; apply Eq.refl; apply Eq.refl) | (apply w_andn; apply Eq.refl; apply Eq.refl; (repeat (first | apply Seg.pick | apply Seg.op | apply Seg.op0)); apply Eq.refl; intro _) | (apply e_sc; (repeat (first | exact Over.base | exact Over.refl | refine Over.put rfl ?_ | refine Over.cnP rfl ?_ | refine Over.zpP rfl ?_)); apply Eq.refl) | (intro _))
                  refine e_ct (by repeat (first | exact Over.base | exact Over.refl | refine Over.put rfl ?_ | refine Over.cnP rfl ?_ | refine Over.zpP rfl ?_)) ?_
                  refine ⟨?_, rfl⟩
                  show [Value.bool (!decide (parent l[k].path = noB) && !decide (e.kind = 2))] = _
                  simp [he]
              · rintro _ u11 w11 ⟨rfl, rfl⟩
                skip
                first | refine c_ifd rfl (fun q3 => ?_) (fun q3 => ?_) | refine c_ifnd rfl (fun q3 => ?_) (fun q3 => ?_) | refine c_ifn rfl (fun q3 => ?_) (fun q3 => ?_) | refine c_cond rfl (fun q3 => ?_) (fun q3 => ?_)
                · repeat (first | (apply w_op; (apply p_asI; apply Eq.refl); apply Eq.refl) | (apply w_nil) | (apply c_seq) | (apply e_then) | (apply c_region) | (apply c_ret) | (apply e_then_ret) | (apply e_bk_ret) | (apply e_lp_ret))
                  exact r_ret1 Try.results36 rfl ⟨congrArg (Value.int .i64) (by rw [herr, if_pos q3]), hbel9⟩
                · rw [if_neg (by rw [q3]; simp)] at herr
                  repeat (first | (apply w_op; (first | (apply p_mvI; apply Eq.refl) | (apply p_fieldAddr; apply Eq.refl) | (apply p_gtr; apply Eq.refl; apply Eq.refl) | (apply p_add64; apply Eq.refl; apply Eq.refl; omega) | (apply p_loadF; apply Eq.refl; (first | assumption | (apply Cel.bel; assumption; assumption; apply Nat.zero_lt_succ)); (first | apply Eq.refl | assumption))); apply Eq.refl) | (apply w_nil) | (apply c_seq) | (apply e_then) | (apply c_region) | (apply c_skip))
                  first | refine c_ifd rfl (fun q4 => ?_) (fun q4 => ?_) | refine c_ifnd rfl (fun q4 => ?_) (fun q4 => ?_) | refine c_ifn rfl (fun q4 => ?_) (fun q4 => ?_) | refine c_cond rfl (fun q4 => ?_) (fun q4 => ?_)
                  · repeat (first | (apply w_op; (apply p_asI; apply Eq.refl); apply Eq.refl) | (apply w_nil) | (apply c_seq) | (apply e_then) | (apply c_region) | (apply c_ret) | (apply e_then_ret) | (apply e_bk_ret) | (apply e_lp_ret))
                    exact r_ret1 Try.results36 rfl ⟨congrArg (Value.int .i64) (by rw [herr, if_pos q4]), hbel9⟩
                  · rw [if_neg q4] at herr
                    repeat (first | (apply w_op; (first | (apply p_mvI; apply Eq.refl) | (apply p_asI; apply Eq.refl) | (apply p_fieldAddr; apply Eq.refl) | (apply p_add64; apply Eq.refl; apply Eq.refl; omega) | (apply p_max; apply Eq.refl; apply Eq.refl) | (apply p_loadF; apply Eq.refl; (first | assumption | (apply Cel.bel; assumption; assumption; apply Nat.zero_lt_succ)); (first | apply Eq.refl | assumption))); apply Eq.refl) | (apply w_nil) | (apply e_then) | (apply c_region) | (apply c_skip) | (apply e_bk))
                    refine e_lp (by repeat (first | exact Over.base | exact Over.refl | refine Over.put rfl ?_ | refine Over.cnP rfl ?_ | refine Over.zpP rfl ?_)) ?_
                    refine ⟨⟨k + 1, _, rfl, by omega, ?_, ?_, hbel9, ?_, rise_snoc hk1 hpw (by simpa using q1) (by simpa using q2)⟩, ?_⟩
                    · split <;> omega
                    · split <;> omega
                    · rw [herr, prevE, List.getElem?_eq_getElem hk1, List.take_succ_eq_append_getElem hk1]
                      congr 1
                      funext s
                      rw [dirsOf_snoc]
                    · show l.length - ((k : Int) + 1).toNat < l.length - ((k : Int)).toNat
                      omega
  · have hge := of_decide_eq_false g
    obtain rfl : k = l.length := by omega
    repeat (first | (apply w_op; (apply p_asI; apply Eq.refl); apply Eq.refl) | (apply w_nil) | (apply c_seq) | (apply e_then) | (apply c_region) | (apply c_ret) | (apply c_exit) | (apply e_then_exit) | (apply e_bk_same) | (apply e_lp_exit))
    refine r_ret1 Try.results36 rfl ⟨congrArg (Value.int .i64) ?_, hb3⟩
    rw [herr]
    simp [fchk]
end Go.Proofs.Ytjcbnohnilffoaa
