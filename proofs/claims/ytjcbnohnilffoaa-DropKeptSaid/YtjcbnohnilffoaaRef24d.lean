/- THE WALK of the document's answer for deletions (remoraref24): Which; the laws' walks DropKept, DropWhich. -/
import Derived.Test.YtjcbnohnilffoaaRef24c
import Derived.Test.YtjcbnohnilffoaaLaw
import Derived.Test.YtjcbnohnilffoaaKept
set_option linter.unusedVariables false
set_option linter.unusedSimpArgs false
namespace Go.Proofs.Ytjcbnohnilffoaa
open Go.RowKit

set_option maxRecDepth 100000 in
theorem rwhich_ok (v1 v2 v3 : Value) (src dst : List En) (rs : List Rl) (ocs : List Value) (del most : Int) (w : World) (B : Nat) (h1 : Ens w B v1 src) (h2 : Ens w B v2 dst) (h3 : Rls w B v3 rs) (hB : B ≤ w.heap.size) (hl1 : src.length ≤ 1000000) (hl2 : dst.length ≤ 1000000) (hl3 : rs.length ≤ 1000000)
    (hi1 : EnsIn src) (hi2 : EnsIn dst) (hi3 : RlsIn rs) (ho0 : ocs[0]? = some (.int .i64 del)) (ho1 : ocs[1]? = some (.int .i64 most)) :
    Ret Try.prog 10 [v1, v2, v3, .agg ocs.toArray] w fun v w' => WhichR (dropWhich src dst rs del most).1 (dropWhich src dst rs del most).2 v w' ∧ Below w.heap.size w w' := by
  obtain ⟨A1, c1, rfl, hc1, hA1⟩ := h1.out
  obtain ⟨A2, c2, rfl, hc2, hA2⟩ := h2.out
  obtain ⟨A3, c3, rfl, hc3, hA3⟩ := h3.out
  refine calls_in Try.func10 rfl Try.ntmps10 rfl ?_
  refine c_seq (c_region (w_box rfl rfl (fun b w1 hn => ?_)))
  have hb : Cel w1 ⟨b, 0, none⟩ ocs := hn.blk.obj0
  have hbel := hn.below (Below.refl _ _) (Nat.le_refl _)
  have hlt := hn.blk.lt
  have z1 := hbel.size
  clear hn
  repeat (first | (apply w_op; (first | (apply p_mvB; apply Eq.refl) | (apply p_asI; apply Eq.refl) | (apply p_asL; apply Eq.refl) | (apply p_fieldAddr; apply Eq.refl) | (apply p_eql; apply Eq.refl; apply Eq.refl) | (apply p_loadF; apply Eq.refl; (first | assumption | (apply Cel.bel; assumption; assumption; apply Nat.zero_lt_succ)); (first | apply Eq.refl | assumption))); apply Eq.refl) | (apply w_nil) | (apply c_seq) | (apply e_then) | (apply c_region))
  apply w_orw (R := fun x => Below w1.heap.size w1 x); apply Eq.refl; apply Eq.refl; (repeat (first | apply Seg.pick | apply Seg.op | apply Seg.op0)); intro g
  · repeat (first | (apply w_op; (apply p_mvL; apply Eq.refl); apply Eq.refl) | (apply w_on; apply Eq.refl))
    refine w_callB cl23 (rmay24_ok _ _ src dst _ B (h1.below (hbel.mono hB)) (h2.below (hbel.mono hB)) (by omega) hl1 hl2 hi1 hi2) rfl (fun w2 hb2 => ?_)
    repeat (first | (apply w_op; (first | (apply p_not; apply Eq.refl) | (apply p_pick_f; apply Eq.refl; apply Eq.refl)); apply Eq.refl) | (apply w_nil) | (apply w_on; apply Eq.refl) | (apply e_scw; (repeat (first | exact Over.base | exact Over.refl | refine Over.put rfl ?_ | refine Over.cnP rfl ?_ | refine Over.zpP rfl ?_)); apply Eq.refl; (first | assumption | apply Below.refl)))
  · intro g'
    repeat (first | (apply w_op; (apply p_pick_t; apply Eq.refl; apply Eq.refl); apply Eq.refl) | (apply w_nil) | (apply w_off; apply Eq.refl; apply Eq.refl) | (apply e_scw; (repeat (first | exact Over.base | exact Over.refl | refine Over.put rfl ?_ | refine Over.cnP rfl ?_ | refine Over.zpP rfl ?_)); apply Eq.refl; (first | assumption | apply Below.refl)))
  intro u w2 hb2
  replace hb := hb.below hb2 hlt
  replace hlt := Nat.lt_of_lt_of_le hlt hb2.size
  replace hbel := hbel.trans (hb2.mono z1)
  clear hb2 z1
  have z2 := hbel.size
  repeat (first | (apply w_nil) | (apply e_then))
  first | refine c_ifd rfl (fun g2 => ?_) (fun g2 => ?_) | refine c_ifnd rfl (fun g2 => ?_) (fun g2 => ?_) | refine c_ifn rfl (fun g2 => ?_) (fun g2 => ?_) | refine c_cond rfl (fun g2 => ?_) (fun g2 => ?_)
  · have hk : dropWhich src dst rs del most = ([], 0) := by
      rw [dropWhich, if_pos]
      simp at g2
      rcases g2 with g2 | g2
      · exact .inr g2
      · exact .inl g2
    repeat (first | (apply w_op; (first | (apply p_asI; apply Eq.refl) | (apply p_asL; apply Eq.refl)); apply Eq.refl) | (apply w_nil) | (apply c_seq) | (apply e_then) | (apply c_region) | (apply c_ret) | (apply e_then_ret))
    refine r_ret2 Try.results10 rfl ⟨?_, hbel⟩
    rw [hk]
    exact ⟨_, rfl, Sl.nil _ _⟩
  · simp at g2
    have hlb : listsBad src dst = false := g2.2
    obtain ⟨b1, b2⟩ := bad_split hlb
    have hdw : dropWhich src dst rs del most = if 0 < most ∧ most < ((dropAll src dst rs).length : Int) then ((dropAll src dst rs).take most.toNat, (dropAll src dst rs).length - most) else (dropAll src dst rs, 0) := by
      rw [dropWhich, if_neg]
      rintro (q | q)
      · rw [hlb] at q; cases q
      · exact g2.1 q
    repeat (first | (apply w_op; (first | (apply p_mvL; apply Eq.refl) | (apply p_asL; apply Eq.refl)); apply Eq.refl) | (apply w_nil) | (apply c_seq) | (apply e_then) | (apply c_region) | (apply c_skip))
    refine w_call cl24 (goes_ok _ _ _ src dst rs _ B (h1.below (hbel.mono hB)) (h2.below (hbel.mono hB)) (h3.below (hbel.mono hB)) (by omega) hl1 hl2 hl3 (fl_dist b1) hi2 hi3 (fl_good b2) (fl_rise b2)) rfl ?_
    rintro v w3 ⟨bg, rfl, hge, hrow, hb3⟩
    replace hb := hb.below hb3 hlt
    replace hlt := Nat.lt_of_lt_of_le hlt hb3.size
    replace hbel := hbel.trans (hb3.mono z2)
    clear hb3
    have z3 := hbel.size
    have hwl : (whyL src dst rs).length = dst.length := whyR_len _ _ _ _
    generalize hW : whyL src dst rs = WL at *
    have zr := hrow.lt
    repeat (first | (apply w_op; (first | (apply p_mvI; apply Eq.refl) | (apply p_len_sl; apply Eq.refl)); apply Eq.refl) | (apply w_nil) | (apply e_then) | (apply c_block))
    refine c_loop [27, 10] [11, 12, 28, 29, 30, 31, 32, 33, 34, 35, 36, 37, 38, 39, 40, 41, 42] (fun vs w4 => ∃ (i : Nat) (vo : Value), vs = [.int .i64 (i : Int), vo] ∧ i ≤ dst.length ∧ w4.ownsRow w3.heap.size 9 1 vo (goList (dst.take i) (WL.take i)).length ((goList (dst.take i) (WL.take i)).map .string) ∧ Below w3.heap.size w3 w4)
      (fun vs _ => dst.length - (intOf (vs.headD undef)).toNat) rfl
      ⟨0, _, rfl, Nat.zero_le _, World.ownsRow_nil _ _ _ _, Below.refl _ _⟩ ?_
    rintro _ u4 w4 ⟨i, vo, rfl, hi, hown, hb4⟩
    have hrow4 := hrow.below hb4 zr
    have z4 := hb4.size
    have hbel4 := hbel.trans (hb4.mono z3)
    repeat (first | (apply w_op; (apply p_lss; apply Eq.refl; apply Eq.refl); apply Eq.refl) | (apply w_nil) | (apply c_seq) | (apply e_then) | (apply c_region))
    first | refine c_ifd rfl (fun g3 => ?_) (fun g3 => ?_) | refine c_ifnd rfl (fun g3 => ?_) (fun g3 => ?_) | refine c_ifn rfl (fun g3 => ?_) (fun g3 => ?_) | refine c_cond rfl (fun g3 => ?_) (fun g3 => ?_)
    · have hi1 : i < dst.length := by omega
      obtain ⟨ad, rfl, _, hcel⟩ := (h2.below (hbel4.mono hB)).at_ rfl hi1
      have hel := hrow4.obj0.elem (zvs_get (l := WL) (j := i) (by omega))
      have htk : goList (dst.take (i + 1)) (WL.take (i + 1)) = goList (dst.take i) (WL.take i) ++ (if WL[i] = 0 then [dst[i].path] else []) := by
        rw [List.take_succ_eq_append_getElem hi1, List.take_succ_eq_append_getElem (by omega), goList_snoc _ _ _ _ (by rw [List.length_take, List.length_take]; omega)]
      have hgl := goList_len (dst.take i) (WL.take i)
      rw [List.length_take] at hgl
      repeat (first | (apply w_op; (first | (apply p_mvI; apply Eq.refl) | (apply p_asI; apply Eq.refl) | (apply p_eql; apply Eq.refl; apply Eq.refl) | (apply p_indexAddr; apply Eq.refl; apply Eq.refl; apply Eq.refl; omega) | (apply p_load0; apply Eq.refl; (first | assumption | (apply Cel.bel; assumption; assumption; apply Nat.zero_lt_succ)); (first | apply Eq.refl | assumption))); apply Eq.refl) | (apply w_nil) | (apply c_seq) | (apply e_then) | (apply c_region) | (apply c_block) | (apply c_skip))
      first | refine c_ifd rfl (fun g4 => ?_) (fun g4 => ?_) | refine c_ifnd rfl (fun g4 => ?_) (fun g4 => ?_) | refine c_ifn rfl (fun g4 => ?_) (fun g4 => ?_) | refine c_cond rfl (fun g4 => ?_) (fun g4 => ?_)
      · rw [if_pos g4] at htk
        repeat (first | (apply w_op; (first | (apply p_mvI; apply Eq.refl) | (apply p_mvL; apply Eq.refl) | (apply p_move) | (apply p_fieldAddr; apply Eq.refl) | (apply p_indexAddr; apply Eq.refl; apply Eq.refl; apply Eq.refl; omega) | (apply p_loadF; apply Eq.refl; (first | assumption | (apply Cel.bel; assumption; assumption; apply Nat.zero_lt_succ)); (first | apply Eq.refl | assumption))); apply Eq.refl) | (apply c_region))
        refine w_app1 (v1 := .string dst[i].path) rfl (fun _ => rfl) hown rfl rfl (by omega) rfl rfl (fun v5 w5 u5 hown5 hg5 hbl5 hs5 hnn5 => ?_)
        have hb5 := below_own hg5 hb4 (by omega) hown (Nat.le_refl _)
        clear hcel hel hown hrow4
        repeat (first | (apply w_op; (first | (apply p_mvI; apply Eq.refl) | (apply p_assign) | (apply p_add64; apply Eq.refl; apply Eq.refl; omega)); apply Eq.refl) | (apply w_nil) | (apply e_then) | (apply c_region) | (apply e_bk))
        refine e_lp (by repeat (first | exact Over.base | exact Over.refl | refine Over.put rfl ?_ | refine Over.cnP rfl ?_ | refine Over.zpP rfl ?_)) ?_
        refine ⟨⟨i + 1, v5, rfl, by omega, ?_, hb5⟩, ?_⟩
        · rw [htk, List.length_append, List.map_append]; exact hown5
        · show dst.length - ((i : Int) + 1).toNat < dst.length - ((i : Int)).toNat
          omega
      · rw [if_neg g4, List.append_nil] at htk
        clear hcel hel hrow4
        repeat (first | (apply w_op; (first | (apply p_mvI; apply Eq.refl) | (apply p_add64; apply Eq.refl; apply Eq.refl; omega)); apply Eq.refl) | (apply w_nil) | (apply e_then) | (apply c_region) | (apply c_skip) | (apply e_bk))
        refine e_lp (by repeat (first | exact Over.base | exact Over.refl | refine Over.put rfl ?_ | refine Over.cnP rfl ?_ | refine Over.zpP rfl ?_)) ?_
        refine ⟨⟨i + 1, vo, rfl, by omega, ?_, hb4⟩, ?_⟩
        · rw [htk]; exact hown
        · show dst.length - ((i : Int) + 1).toNat < dst.length - ((i : Int)).toNat
          omega
    · obtain rfl : i = dst.length := by omega
      rw [List.take_length, show WL.take dst.length = WL by rw [← hwl, List.take_length]] at hown
      have hgl := goList_len dst WL
      have hstr : Strs w4 w4.heap.size vo (goList dst WL) := Sl.of_own (enS_map _) (fun _ => rfl) hown
      have hb' := hb.below hb4 hlt
      have hlt' := Nat.lt_of_lt_of_le hlt z4
      have hndp := goList_nodup (fl_good b2) (fl_rise b2) hwl.symm
      have hperm := goList_perm (fl_good b2) hwl.symm
      have hpo := gone_po (fl_good b2) (fl_rise b2) WL
      have hall : dropAll src dst rs = postAll dst WL := by rw [dropAll, hW]
      have hps : ∀ s ∈ goList dst WL, s.size ≤ 1099511627775 := by
        intro s hs
        rw [goList_ix _ _ hwl.symm] at hs
        obtain ⟨j, hj, rfl⟩ := List.mem_map.1 hs
        have hj2 : j < dst.length := by have := (List.mem_filter.1 hj).1; simpa using this
        rw [pth_at hj2]
        exact (hi2.out _ (List.getElem_mem hj2)).1
      clear hown hrow4 hrow hb
      repeat (first | (apply w_op; (apply p_move); apply Eq.refl) | (apply c_seq) | (apply e_then) | (apply c_region) | (apply c_exit) | (apply e_then_exit) | (apply e_bk_same) | (apply e_lp_exit))
      refine w_call cl25 (order_ok _ (goList dst WL) _ _ hstr (Nat.le_refl _) (by omega) hndp hps) rfl ?_
      rintro vo w5 ⟨o, hp, hsrt, hown, hb5⟩
      have ho : o = dropAll src dst rs := by
        rw [hall]
        exact po_sorted_unique hsrt hpo (hp.trans hperm)
      have holen : o.length ≤ 1000000 := by rw [hp.length_eq]; omega
      rw [ho] at hown holen
      rw [← ho] at hdw
      have hbel5 := hbel4.trans (hb5.mono hbel4.size)
      have hc5 := hb'.below hb5 hlt'
      have hs5 : Strs w5 w5.heap.size vo (dropAll src dst rs) := Sl.of_own (enS_map _) (fun _ => rfl) hown
      obtain ⟨Ao, co, rfl, hco, _⟩ := hs5.out
      rw [ho] at hdw
      clear hown hb' hstr
      repeat (first | (apply w_op; (first | (apply p_mvB; apply Eq.refl) | (apply p_mvL; apply Eq.refl) | (apply p_asL; apply Eq.refl) | (apply p_fieldAddr; apply Eq.refl) | (apply p_gtr; apply Eq.refl; apply Eq.refl) | (apply p_len_sl; apply Eq.refl) | (apply p_pick_t; apply Eq.refl; apply Eq.refl) | (apply p_pick_f; apply Eq.refl; apply Eq.refl) | (apply p_loadF; apply Eq.refl; (first | assumption | (apply Cel.bel; assumption; assumption; apply Nat.zero_lt_succ)); (first | apply Eq.refl | assumption))); apply Eq.refl) | (apply w_nil) | (apply c_seq) | (apply e_then) | (apply c_region) | (apply w_on; apply Eq.refl) | (apply w_off; apply Eq.refl; apply Eq.refl) | (apply w_andd; apply Eq.refl; apply Eq.refl; (repeat (first | apply Seg.pick | apply Seg.op | apply Seg.op0)); apply Eq.refl; intro _) | (apply e_sc; (repeat (first | exact Over.base | exact Over.refl | refine Over.put rfl ?_ | refine Over.cnP rfl ?_ | refine Over.zpP rfl ?_)); apply Eq.refl) | (intro _))
      first | refine c_ifd rfl (fun g5 => ?_) (fun g5 => ?_) | refine c_ifnd rfl (fun g5 => ?_) (fun g5 => ?_) | refine c_ifn rfl (fun g5 => ?_) (fun g5 => ?_) | refine c_cond rfl (fun g5 => ?_) (fun g5 => ?_)
      · simp only [Bool.and_eq_true, decide_eq_true_eq] at g5
        rw [if_pos g5] at hdw
        have hc6 := hc5.drew
        repeat (first | (apply c_seq) | (apply e_then) | (apply c_ret) | (apply e_then_ret) | (apply r_op; (first | (apply p_mvL; apply Eq.refl) | (apply p_asI; apply Eq.refl) | (apply p_asL; apply Eq.refl) | (apply p_fieldAddr; apply Eq.refl) | (apply p_len_sl; apply Eq.refl) | (apply p_sub64; apply Eq.refl; apply Eq.refl; omega) | (apply p_loadF; apply Eq.refl; (first | assumption | (apply Cel.bel; assumption; assumption; apply Nat.zero_lt_succ)); (first | apply Eq.refl | assumption)) | (apply p_cut_h; apply Eq.refl; apply Eq.refl; omega)); apply Eq.refl) | (apply r_nil) | (apply c_read; exact mixed; apply Eq.refl; kernel_rfl))
        refine r_ret2 Try.results10 rfl ⟨?_, hbel5.drew⟩
        rw [hdw]
        exact ⟨_, rfl, (hs5.head rfl (by omega)).drew⟩
      · simp only [Bool.and_eq_false_iff, decide_eq_false_iff_not] at g5
        rw [if_neg (by omega)] at hdw
        repeat (first | (apply w_op; (first | (apply p_mvL; apply Eq.refl) | (apply p_asI; apply Eq.refl) | (apply p_asL; apply Eq.refl)); apply Eq.refl) | (apply w_nil) | (apply c_seq) | (apply e_then) | (apply c_region) | (apply c_skip) | (apply c_ret))
        refine r_ret2 Try.results10 rfl ⟨?_, hbel5⟩
        rw [hdw]
        exact ⟨_, rfl, hs5⟩

set_option maxRecDepth 100000 in
theorem dropKept_ok (v1 v2 v3 : Value) (src dst : List En) (rs : List Rl) (p : ByteArray) (w : World) (B : Nat) (h1 : Ens w B v1 src) (h2 : Ens w B v2 dst) (h3 : Rls w B v3 rs) (hB : B ≤ w.heap.size) (hl1 : src.length ≤ 9223372036854775807) (hl2 : dst.length ≤ 9223372036854775807)
    (hi3 : RlsIn rs) : Ret Try.prog 5 [v1, v2, v3, .string p] w fun v w' => v = .bool true ∧ Below w.heap.size w w' := by
  obtain ⟨A2, c2, rfl, hc2, hA2⟩ := h2.out
  refine calls_in Try.func5 rfl Try.ntmps5 rfl ?_
  repeat (first | (apply w_op; (first | (apply p_mvL; apply Eq.refl) | (apply p_move) | (apply p_asB; apply Eq.refl)); apply Eq.refl) | (apply w_nil) | (apply c_seq) | (apply e_then) | (apply c_region))
  refine w_callS cl7 (light_ok _ _ _ src dst rs _ B h1 h2 h3 hl1 hl2) rfl ?_
  repeat (first | (apply w_op; (apply p_not; apply Eq.refl); apply Eq.refl) | (apply w_nil) | (apply e_then))
  first | refine c_ifd rfl (fun q => ?_) (fun q => ?_) | refine c_ifnd rfl (fun q => ?_) (fun q => ?_) | refine c_ifn rfl (fun q => ?_) (fun q => ?_) | refine c_cond rfl (fun q => ?_) (fun q => ?_)
  · repeat (first | (apply c_seq) | (apply c_region))
    refine w_callB cl8 (awake_ok _) rfl (fun w2 hb2 => ?_)
    repeat (first | (apply w_op; (apply p_asB; apply Eq.refl); apply Eq.refl) | (apply w_nil) | (apply e_then) | (apply c_ret) | (apply e_then_ret))
    exact r_ret1 Try.results5 rfl ⟨rfl, hb2⟩
  · have hll : light src dst rs = true := by simpa using q
    unfold light at hll
    simp only [Bool.and_eq_true, decide_eq_true_eq] at hll
    have hs1 := small_len hll.1.1
    have hs2 := small_len hll.1.2
    have hi1 := small_in hll.1.1
    have hi2 := small_in hll.1.2
    repeat (first | (apply w_op; (first | (apply p_mvI; apply Eq.refl) | (apply p_mvL; apply Eq.refl) | (apply p_len_sl; apply Eq.refl) | (apply p_add64; apply Eq.refl; apply Eq.refl; omega)); apply Eq.refl) | (apply w_nil) | (apply c_seq) | (apply e_then) | (apply c_region) | (apply c_block) | (apply c_skip))
    refine c_loop [24] [8, 9, 10, 11, 12, 13, 14, 25, 26, 27, 28, 29, 30, 31, 32, 33, 34, 35, 36, 37, 38, 39, 40, 41, 42, 43, 44, 45, 46, 47, 48, 49, 50, 51, 52, 53, 54, 55, 56, 57, 58, 59, 60, 61] (fun vs w3 => ∃ (i : Nat), vs = [.int .i64 (i : Int)] ∧ i ≤ dst.length + 1 ∧ Below w.heap.size w w3)
      (fun vs _ => dst.length + 1 - (intOf (vs.headD undef)).toNat) rfl
      ⟨0, rfl, Nat.zero_le _, Below.refl _ _⟩ ?_
    rintro _ u w3 ⟨i, rfl, hi, hbel⟩
    have z3 := hbel.size
    repeat (first | (apply w_op; (apply p_lss; apply Eq.refl; apply Eq.refl); apply Eq.refl) | (apply w_nil) | (apply c_seq) | (apply e_then) | (apply c_region))
    first | refine c_ifd rfl (fun g => ?_) (fun g => ?_) | refine c_ifnd rfl (fun g => ?_) (fun g => ?_) | refine c_ifn rfl (fun g => ?_) (fun g => ?_) | refine c_cond rfl (fun g => ?_) (fun g => ?_)
    · repeat (first | (apply w_op; (first | (apply p_mvI; apply Eq.refl) | (apply p_mvS; apply Eq.refl) | (apply p_mvL; apply Eq.refl) | (apply p_asI; apply Eq.refl) | (apply p_asS; apply Eq.refl) | (apply p_lss; apply Eq.refl; apply Eq.refl) | (apply p_len_sl; apply Eq.refl)); apply Eq.refl) | (apply w_nil) | (apply c_seq) | (apply e_then) | (apply c_region) | (apply c_block) | (apply c_skip))
      refine c_cut1 [10] [32, 33, 34, 35, 36] (fun vs w4 => w4 = w3 ∧ ∃ q : ByteArray, vs = [.string q]) ?_ ?_
      · first | refine c_ifd rfl (fun g2 => ?_) (fun g2 => ?_) | refine c_ifnd rfl (fun g2 => ?_) (fun g2 => ?_) | refine c_ifn rfl (fun g2 => ?_) (fun g2 => ?_) | refine c_cond rfl (fun g2 => ?_) (fun g2 => ?_)
        · obtain ⟨ad, rfl, _, hcel⟩ := (h2.below (hbel.mono hB)).at_ rfl (show i < dst.length by omega)
          repeat (first | (apply w_op; (first | (apply p_mvI; apply Eq.refl) | (apply p_mvL; apply Eq.refl) | (apply p_asS; apply Eq.refl) | (apply p_fieldAddr; apply Eq.refl) | (apply p_indexAddr; apply Eq.refl; apply Eq.refl; apply Eq.refl; omega) | (apply p_loadF; apply Eq.refl; (first | assumption | (apply Cel.bel; assumption; assumption; apply Nat.zero_lt_succ)); (first | apply Eq.refl | assumption))); apply Eq.refl) | (apply w_nil) | (apply c_region))
          refine e_ct (by repeat (first | exact Over.base | exact Over.refl | refine Over.put rfl ?_ | refine Over.cnP rfl ?_ | refine Over.zpP rfl ?_)) ?_
          exact ⟨rfl, _, rfl⟩
        · repeat (apply c_skip)
          refine e_ct (by repeat (first | exact Over.base | exact Over.refl | refine Over.put rfl ?_ | refine Over.cnP rfl ?_ | refine Over.zpP rfl ?_)) ?_
          exact ⟨rfl, _, rfl⟩
      · rintro _ u4 w4 ⟨rfl, q, rfl⟩
        repeat (first | (apply w_op; (first | (apply p_mvS; apply Eq.refl) | (apply p_mvL; apply Eq.refl) | (apply p_move)); apply Eq.refl) | (apply c_seq) | (apply c_region))
        refine w_callB cl12 (kept_ok _ _ _ src dst rs q _ B (h1.below (hbel.mono hB)) (h2.below (hbel.mono hB)) (h3.below (hbel.mono hB)) (by omega) (by omega) (by omega) (by omega) hi1 hi2 hi3) rfl (fun w5 hb5 => ?_)
        replace hbel := hbel.trans (hb5.mono z3)
        have z5 := hbel.size
        repeat (first | (apply w_op; (first | (apply p_mvS; apply Eq.refl) | (apply p_mvL; apply Eq.refl) | (apply p_mvT; apply Eq.refl) | (apply p_move) | (apply p_asI; apply Eq.refl) | (apply p_asB; apply Eq.refl) | (apply p_extract; apply Eq.refl; apply Eq.refl)); apply Eq.refl) | (apply w_nil) | (apply c_seq) | (apply e_then) | (apply c_region))
        refine w_callB cl13 (rkept_ok _ _ _ src dst rs q _ B (h1.below (hbel.mono hB)) (h2.below (hbel.mono hB)) (h3.below (hbel.mono hB)) (by omega) (by omega) (by omega) (by omega) hi1 hi2 hi3) rfl (fun w6 hb6 => ?_)
        replace hbel := hbel.trans (hb6.mono z5)
        repeat (first | (apply w_op; (first | (apply p_mvI; apply Eq.refl) | (apply p_mvB; apply Eq.refl) | (apply p_mvT; apply Eq.refl) | (apply p_asI; apply Eq.refl) | (apply p_asB; apply Eq.refl) | (apply p_extract; apply Eq.refl; apply Eq.refl) | (apply p_neq; apply Eq.refl; apply Eq.refl) | (apply p_pick_t; apply Eq.refl; apply Eq.refl) | (apply p_pick_f; apply Eq.refl; apply Eq.refl) | (apply p_bneq; apply Eq.refl; apply Eq.refl)); apply Eq.refl) | (apply w_nil) | (apply c_seq) | (apply e_then) | (apply c_region) | (apply w_on; apply Eq.refl) | (apply w_off; apply Eq.refl; apply Eq.refl) | (apply w_orn; apply Eq.refl; apply Eq.refl; (repeat (first | apply Seg.pick | apply Seg.op | apply Seg.op0)); apply Eq.refl; intro _) | (apply e_sc; (repeat (first | exact Over.base | exact Over.refl | refine Over.put rfl ?_ | refine Over.cnP rfl ?_ | refine Over.zpP rfl ?_)); apply Eq.refl) | (intro _))
        first | refine c_ifd rfl (fun g3 => ?_) (fun g3 => ?_) | refine c_ifnd rfl (fun g3 => ?_) (fun g3 => ?_) | refine c_ifn rfl (fun g3 => ?_) (fun g3 => ?_) | refine c_cond rfl (fun g3 => ?_) (fun g3 => ?_)
        · simp at g3
        · repeat (first | (apply w_op; (first | (apply p_mvI; apply Eq.refl) | (apply p_add64; apply Eq.refl; apply Eq.refl; omega)); apply Eq.refl) | (apply w_nil) | (apply e_then) | (apply c_region) | (apply c_skip) | (apply e_bk))
          refine e_lp (by repeat (first | exact Over.base | exact Over.refl | refine Over.put rfl ?_ | refine Over.cnP rfl ?_ | refine Over.zpP rfl ?_)) ?_
          refine ⟨⟨i + 1, rfl, by omega, hbel⟩, ?_⟩
          show dst.length + 1 - ((i : Int) + 1).toNat < dst.length + 1 - ((i : Int)).toNat
          omega
    · repeat (first | (apply c_seq) | (apply e_then) | (apply c_region) | (apply c_exit) | (apply e_then_exit) | (apply e_bk_same) | (apply e_lp_exit))
      refine w_callB cl8 (awake_ok _) rfl (fun w4 hb4 => ?_)
      repeat (first | (apply w_op; (apply p_asB; apply Eq.refl); apply Eq.refl) | (apply w_nil) | (apply e_then) | (apply c_ret))
      exact r_ret1 Try.results5 rfl ⟨rfl, hbel.trans (hb4.mono z3)⟩

def enO2 (ocs : List Value) (del most : Int) : Prop := ocs[0]? = some (.int .i64 del) ∧ ocs[1]? = some (.int .i64 most)
set_option maxRecDepth 100000 in
theorem dropWhichLaw_ok (v1 v2 v3 : Value) (src dst : List En) (rs : List Rl) (ocs : List Value) (del most : Int) (w : World) (B : Nat) (h1 : Ens w B v1 src) (h2 : Ens w B v2 dst) (h3 : Rls w B v3 rs) (hB : B ≤ w.heap.size) (hl1 : src.length ≤ 9223372036854775807) (hl2 : dst.length ≤ 9223372036854775807)
    (hi3 : RlsIn rs) (hos : ocs.length = 21) (ho0 : ocs[0]? = some (.int .i64 del)) (ho1 : ocs[1]? = some (.int .i64 most)) (hlen : light src dst rs = true → listsBad src dst = false → (dropAll src dst rs).length ≤ 1000000) :
    Ret Try.prog 3 [v1, v2, v3, .agg ocs.toArray] w fun v w' => v = .bool true ∧ Below w.heap.size w w' := by
  refine calls_in Try.func3 rfl Try.ntmps3 rfl ?_
  refine c_seq (c_region (w_box rfl rfl (fun b w1 hn => ?_)))
  have hb : Cel w1 ⟨b, 0, none⟩ ocs := hn.blk.obj0
  have hbel := hn.below (Below.refl _ _) (Nat.le_refl _)
  have hlt := hn.blk.lt
  have z1 := hbel.size
  clear hn
  repeat (first | (apply w_op; (first | (apply p_move) | (apply p_asB; apply Eq.refl)); apply Eq.refl) | (apply w_nil) | (apply c_seq) | (apply e_then) | (apply c_region))
  refine w_callS cl7 (light_ok _ _ _ src dst rs _ B (h1.below (hbel.mono hB)) (h2.below (hbel.mono hB)) (h3.below (hbel.mono hB)) hl1 hl2) rfl ?_
  repeat (first | (apply w_op; (apply p_not; apply Eq.refl); apply Eq.refl) | (apply w_nil) | (apply e_then))
  first | refine c_ifd rfl (fun q => ?_) (fun q => ?_) | refine c_ifnd rfl (fun q => ?_) (fun q => ?_) | refine c_ifn rfl (fun q => ?_) (fun q => ?_) | refine c_cond rfl (fun q => ?_) (fun q => ?_)
  · repeat (first | (apply c_seq) | (apply c_region))
    refine w_callB cl8 (awake_ok _) rfl (fun w2 hb2 => ?_)
    repeat (first | (apply w_op; (apply p_asB; apply Eq.refl); apply Eq.refl) | (apply w_nil) | (apply e_then) | (apply c_ret) | (apply e_then_ret))
    exact r_ret1 Try.results3 rfl ⟨rfl, hbel.trans (hb2.mono z1)⟩
  · have hll : light src dst rs = true := by simpa using q
    have hlen' := hlen hll
    unfold light at hll
    simp only [Bool.and_eq_true, decide_eq_true_eq] at hll
    have hs1 := small_len hll.1.1
    have hs2 := small_len hll.1.2
    have hi1 := small_in hll.1.1
    have hi2 := small_in hll.1.2
    repeat (first | (apply w_op; (apply p_move); apply Eq.refl) | (apply c_seq) | (apply e_then) | (apply c_region) | (apply c_skip))
    refine w_op (p_loadS rfl hb hos) rfl ?_
    refine w_call cl9 (which_ok _ _ _ src dst rs ocs del most _ B (h1.below (hbel.mono hB)) (h2.below (hbel.mono hB)) (h3.below (hbel.mono hB)) (by omega) (by omega) (by omega) (by omega) hi1 hi2 hi3 hlen' ho0 ho1) rfl ?_
    rintro v w2 ⟨⟨va, rfl, ha⟩, hb2⟩
    replace hb := hb.below hb2 hlt
    replace hlt := Nat.lt_of_lt_of_le hlt hb2.size
    replace hbel := hbel.trans (hb2.mono z1)
    have z2 := hbel.size
    repeat (first | (apply w_op; (first | (apply p_mvT; apply Eq.refl) | (apply p_move) | (apply p_asI; apply Eq.refl) | (apply p_assign) | (apply p_extract; apply Eq.refl; apply Eq.refl)); apply Eq.refl) | (apply w_nil) | (apply c_seq) | (apply e_then) | (apply c_region))
    refine w_op (p_loadS rfl hb hos) rfl ?_
    refine w_call cl10 (rwhich_ok _ _ _ src dst rs ocs del most _ B (h1.below (hbel.mono hB)) (h2.below (hbel.mono hB)) (h3.below (hbel.mono hB)) (by omega) (by omega) (by omega) (by omega) hi1 hi2 hi3 ho0 ho1) rfl ?_
    rintro v w3 ⟨⟨vb, rfl, hbb⟩, hb3⟩
    replace hbel := hbel.trans (hb3.mono z2)
    replace ha := (ha.below hb3).more hb3.size
    have z3 := hbel.size
    have hla := dropWhich_len src dst rs del most hlen'
    repeat (first | (apply w_op; (first | (apply p_mvT; apply Eq.refl) | (apply p_move) | (apply p_asI; apply Eq.refl) | (apply p_assign) | (apply p_extract; apply Eq.refl; apply Eq.refl)); apply Eq.refl) | (apply w_nil) | (apply c_seq) | (apply e_then) | (apply c_region))
    refine w_callB cl11 (texts_ok _ _ _ _ _ _ ha hbb (Nat.le_refl _) (by omega)) rfl (fun w4 hb4 => ?_)
    replace hbel := hbel.trans (hb4.mono z3)
    have z4 := hbel.size
    repeat (first | (apply w_op; (first | (apply p_mvI; apply Eq.refl) | (apply p_mvB; apply Eq.refl) | (apply p_eql; apply Eq.refl; apply Eq.refl) | (apply p_pick_t; apply Eq.refl; apply Eq.refl) | (apply p_pick_f; apply Eq.refl; apply Eq.refl)); apply Eq.refl) | (apply w_nil) | (apply w_on; apply Eq.refl) | (apply w_off; apply Eq.refl; apply Eq.refl) | (apply w_andd; apply Eq.refl; apply Eq.refl; (repeat (first | apply Seg.pick | apply Seg.op | apply Seg.op0)); apply Eq.refl; intro _) | (apply e_sc; (repeat (first | exact Over.base | exact Over.refl | refine Over.put rfl ?_ | refine Over.cnP rfl ?_ | refine Over.zpP rfl ?_)); apply Eq.refl) | (intro _))
    apply w_andw (R := fun x => Below w4.heap.size w4 x); apply Eq.refl; apply Eq.refl; (repeat (first | apply Seg.pick | apply Seg.op | apply Seg.op0)); intro g
    · repeat (apply w_on; apply Eq.refl)
      refine w_callB cl8 (awake_ok _) rfl (fun w5 hb5 => ?_)
      repeat (first | (apply w_op; (apply p_pick_t; apply Eq.refl; apply Eq.refl); apply Eq.refl) | (apply w_nil) | (apply e_scw; (repeat (first | exact Over.base | exact Over.refl | refine Over.put rfl ?_ | refine Over.cnP rfl ?_ | refine Over.zpP rfl ?_)); apply Eq.refl; (first | assumption | apply Below.refl)))
    · intro g'
      simp at g'
    intro u w5 hb5
    repeat (first | (apply w_op; (apply p_asB; apply Eq.refl); apply Eq.refl) | (apply w_nil) | (apply e_then) | (apply c_ret))
    refine r_ret1 Try.results3 rfl ⟨?_, hbel.trans (hb5.mono z4)⟩
    show Value.bool _ = _
    simp
end Go.Proofs.Ytjcbnohnilffoaa
