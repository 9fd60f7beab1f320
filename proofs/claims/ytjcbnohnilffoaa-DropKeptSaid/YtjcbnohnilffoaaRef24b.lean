/- THE WALKS of the document's answer for deletions (remoraref24): goes, order. -/
import Derived.Test.YtjcbnohnilffoaaRef20c
import Derived.Test.YtjcbnohnilffoaaDrop2
import Derived.Test.YtjcbnohnilffoaaRo
set_option linter.unusedVariables false
set_option linter.unusedSimpArgs false
namespace Go.Proofs.Ytjcbnohnilffoaa
open Go.RowKit

theorem zvs_get {l : List Int} {j : Nat} (h : j < l.length) : (zvs l)[j]? = some (.int .i64 l[j]) := by simp [zvs, h]
theorem zsvs_get {k j : Nat} {i : Int} {l : List Int} (h : j < l.length) : (zs k ++ zvs (i :: l))[k + 1 + j]? = some (.int .i64 l[j]) := by
  rw [List.getElem?_append_right (by rw [zs_len]; omega), zs_len, show k + 1 + j - k = j + 1 by omega, zvs_get (by simp; omega)]
  rfl

set_option maxRecDepth 100000 in
theorem goes_ok (v1 v2 v3 : Value) (src dst : List En) (rs : List Rl) (w : World) (B : Nat) (h1 : Ens w B v1 src) (h2 : Ens w B v2 dst) (h3 : Rls w B v3 rs) (hB : B ≤ w.heap.size) (hl1 : src.length ≤ 1000000) (hl2 : dst.length ≤ 1000000) (hl3 : rs.length ≤ 1000000)
    (hd : Dist src) (hi2 : EnsIn dst) (hi3 : RlsIn rs) (hg : Good dst) (hrise : dst.Pairwise (fun a b => PLt a.path b.path)) :
    Ret Try.prog 24 [v1, v2, v3] w fun v w' => ∃ b, v = .slice (some ⟨b, 0, none⟩) dst.length dst.length ∧ w.heap.size ≤ b ∧ Blk w' b 3 (zvs (whyL src dst rs)) ∧ Below w.heap.size w w' := by
  obtain ⟨A1, c1, rfl, hc1, hA1⟩ := h1.out
  obtain ⟨A2, c2, rfl, hc2, hA2⟩ := h2.out
  obtain ⟨A3, c3, rfl, hc3, hA3⟩ := h3.out
  refine calls_in Try.func24 rfl Try.ntmps24 rfl ?_
  repeat (first | (apply w_op; (first | (apply p_mvL; apply Eq.refl) | (apply p_asL; apply Eq.refl) | (apply p_len_sl; apply Eq.refl)); apply Eq.refl) | (apply w_nil) | (apply c_seq) | (apply e_then) | (apply c_region))
  refine w_make rfl rfl (by omega) (by omega) rfl (fun b w1 hn => ?_)
  have hb1 : Blk w1 b 3 (zs dst.length) := by
    have := hn.blk
    rw [show (Value.int IntKind.i64 0).cells = #[.int .i64 0] from rfl, made_zero] at this
    simpa using this
  have hbw := hn.hb
  have hbel := hn.below (Below.refl _ _) (Nat.le_refl _)
  clear hn
  repeat (first | (apply w_op; (first | (apply p_mvL; apply Eq.refl) | (apply p_asI; apply Eq.refl) | (apply p_asL; apply Eq.refl) | (apply p_len_sl; apply Eq.refl) | (apply p_sub64; apply Eq.refl; apply Eq.refl; omega)); apply Eq.refl) | (apply w_nil) | (apply c_seq) | (apply e_then) | (apply c_region) | (apply c_block))
  refine c_loop [8] [9, 10, 17, 18, 19, 20, 21, 22, 23, 24, 25, 26, 27, 28, 29, 30, 31, 32, 33, 34, 35, 36, 37, 38, 39, 40, 41, 42, 43, 44, 45, 46, 47, 48, 49, 50, 51, 52, 53, 54, 55, 56, 57, 58, 59, 60, 61, 62, 63, 64, 65, 66, 67, 68, 69, 70, 71, 72, 73, 74, 75, 76, 77, 78, 79, 80, 81, 82, 83, 84, 85, 86, 87, 88, 89, 90, 91, 92, 93, 94, 95, 96] (fun vs w3 => ∃ (k : Nat) (t : Int), vs = [.int .i64 t] ∧ t = (k : Int) - 1 ∧ k ≤ dst.length ∧ Below w.heap.size w w3 ∧ Blk w3 b 3 (zs k ++ zvs (whyR src rs (fun p => (kidsOf dst p).length) (dst.drop k))))
    (fun vs _ => (intOf (vs.headD undef) + 1).toNat) rfl
    ⟨dst.length, _, rfl, rfl, Nat.le_refl _, hbel, by rw [List.drop_length]; simpa [whyR, zvs] using hb1⟩ ?_
  clear hb1 hbel
  rintro _ u w3 ⟨k, t, rfl, ht, hk, hbel, hrow⟩
  repeat (first | (apply w_op; (first | (apply p_mvI; apply Eq.refl) | (apply p_geq; apply Eq.refl; apply Eq.refl)); apply Eq.refl) | (apply w_nil) | (apply c_seq) | (apply e_then) | (apply c_region))
  first | refine c_ifd rfl (fun g => ?_) (fun g => ?_) | refine c_ifnd rfl (fun g => ?_) (fun g => ?_) | refine c_ifn rfl (fun g => ?_) (fun g => ?_) | refine c_cond rfl (fun g => ?_) (fun g => ?_)
  · obtain ⟨i, rfl⟩ : ∃ k' : Nat, t = (k' : Int) := ⟨t.toNat, by omega⟩
    obtain rfl : k = i + 1 := by omega
    have hi : i < dst.length := by omega
    obtain ⟨ad, rfl, hblk, hcel⟩ := (h2.below (hbel.mono hB)).at_ rfl hi
    obtain ⟨hp1, _, _⟩ := hi2.out _ (List.getElem_mem hi)
    obtain ⟨WR, hWR⟩ : ∃ WR, WR = whyR src rs (fun p => (kidsOf dst p).length) (dst.drop (i + 1)) := ⟨_, rfl⟩
    have hWl : WR.length = (dst.drop (i + 1)).length := by rw [hWR, whyR_len]
    rw [← hWR] at hrow
    have hdrop : whyR src rs (fun p => (kidsOf dst p).length) (dst.drop i) = (if why0 src rs dst[i] = 0 ∧ fullE (fun p => (kidsOf dst p).length) dst[i] (dst.drop (i + 1)) WR = true then 4 else why0 src rs dst[i]) :: WR := by
      rw [List.drop_eq_getElem_cons hi, whyR, ← hWR]
    have hz := hbel.size
    repeat (first | (apply w_op; (first | (apply p_mvI; apply Eq.refl) | (apply p_mvL; apply Eq.refl) | (apply p_indexAddr; apply Eq.refl; apply Eq.refl; apply Eq.refl; omega) | (apply p_loadS; apply Eq.refl; (first | assumption | (apply Cel.bel; assumption; assumption; apply Nat.zero_lt_succ)); apply Eq.refl)); apply Eq.refl) | (apply c_seq) | (apply e_then) | (apply c_region) | (apply c_block) | (apply c_skip))
    refine w_callB cl37 (rwhy_ok _ _ src rs dst[i] _ B (h1.below (hbel.mono hB)) (h3.below (hbel.mono hB)) (by omega) hl1 hd hi3 hl3 hp1) rfl (fun w4 hb4 => ?_)
    replace hbel := hbel.trans (hb4.mono hz)
    replace hrow := hrow.below hb4 hrow.lt
    replace hcel := Cel.bel hb4 hcel (Nat.zero_lt_succ _)
    clear hb4
    repeat (apply w_op; (apply p_indexAddr; apply Eq.refl; apply Eq.refl; apply Eq.refl; omega); apply Eq.refl)
    refine w_store (v := .int .i64 (why0 src rs dst[i])) (b := b) (j := i) (cs := zs (i + 1) ++ zvs WR) (e := 3) ⟨_, _, inferInstance⟩ rfl (by simp [addr_add_plain]) rfl rfl hrow (zs_get0 _ _) (fun w5 hp5 hb5 => ?_)
    rw [zs_set] at hb5
    replace hbel := hp5.below hbel (hbel.size) (by omega)
    have hs5 := h2.below (hbel.mono hB)
    obtain ⟨ad', e', _, hc5⟩ := hs5.at_ rfl hi
    injection e' with e'
    subst e'
    have hel := hb5.obj0.elem (zs_get i (why0 src rs dst[i]) WR)
    clear hrow hcel hp5
    repeat (first | (apply w_op; (first | (apply p_mvI; apply Eq.refl) | (apply p_mvB; apply Eq.refl) | (apply p_mvL; apply Eq.refl) | (apply p_fieldAddr; apply Eq.refl) | (apply p_neq; apply Eq.refl; apply Eq.refl) | (apply p_pick_t; apply Eq.refl; apply Eq.refl) | (apply p_pick_f; apply Eq.refl; apply Eq.refl) | (apply p_indexAddr; apply Eq.refl; apply Eq.refl; apply Eq.refl; omega) | (apply p_loadF; apply Eq.refl; (first | assumption | (apply Cel.bel; assumption; assumption; apply Nat.zero_lt_succ)); (first | apply Eq.refl | assumption)) | (apply p_load0; apply Eq.refl; (first | assumption | (apply Cel.bel; assumption; assumption; apply Nat.zero_lt_succ)); (first | apply Eq.refl | assumption))); apply Eq.refl) | (apply w_nil) | (apply c_seq) | (apply e_then) | (apply c_region) | (apply w_on; apply Eq.refl) | (apply w_off; apply Eq.refl; apply Eq.refl) | (apply w_orn; apply Eq.refl; apply Eq.refl; (repeat (first | apply Seg.pick | apply Seg.op | apply Seg.op0)); apply Eq.refl; intro _) | (apply e_sc; (repeat (first | exact Over.base | exact Over.refl | refine Over.put rfl ?_ | refine Over.cnP rfl ?_ | refine Over.zpP rfl ?_)); apply Eq.refl) | (intro _))
    first | refine c_ifd rfl (fun g1 => ?_) (fun g1 => ?_) | refine c_ifnd rfl (fun g1 => ?_) (fun g1 => ?_) | refine c_ifn rfl (fun g1 => ?_) (fun g1 => ?_) | refine c_cond rfl (fun g1 => ?_) (fun g1 => ?_)
    · -- not a directory that goes
      have hnot : ¬ (why0 src rs dst[i] = 0 ∧ fullE (fun p => (kidsOf dst p).length) dst[i] (dst.drop (i + 1)) WR = true) := by
        rintro ⟨q1, q2⟩
        unfold fullE isDir at q2
        simp [q1] at g1
        simp [g1] at q2
      repeat (first | (apply w_op; (first | (apply p_mvI; apply Eq.refl) | (apply p_asI; apply Eq.refl) | (apply p_sub64; apply Eq.refl; apply Eq.refl; omega)); apply Eq.refl) | (apply w_nil) | (apply e_then) | (apply c_region) | (apply c_exit) | (apply e_then_exit) | (apply e_bk_same))
      refine e_lp (by repeat (first | exact Over.base | exact Over.refl | refine Over.put rfl ?_ | refine Over.cnP rfl ?_ | refine Over.zpP rfl ?_)) ?_
      refine ⟨⟨i, _, rfl, rfl, by omega, hbel, ?_⟩, ?_⟩
      · rw [hdrop, if_neg hnot]; exact hb5
      · show ((i : Int) - 1 + 1).toNat < ((i : Int) + 1).toNat
        omega
    · have q0 : why0 src rs dst[i] = 0 := by simp at g1; exact g1.1
      have qk : dst[i].kind = 2 := by simp at g1; exact g1.2
      rw [q0] at hb5
      clear hel hc5
      repeat (first | (apply w_op; (first | (apply p_mvI; apply Eq.refl) | (apply p_asI; apply Eq.refl) | (apply p_add64; apply Eq.refl; apply Eq.refl; omega)); apply Eq.refl) | (apply w_nil) | (apply c_seq) | (apply e_then) | (apply c_region) | (apply c_block) | (apply c_skip))
      refine c_loop [10, 9] [46, 47, 48, 49, 50, 51, 52, 53, 54, 55, 56, 57, 58, 59, 60, 61, 62, 63, 64, 65, 66, 67, 68, 69, 70, 71, 72, 73, 74, 75, 76, 77, 78, 79, 80, 81, 82, 83, 84, 85, 86] (fun vs w6 => ∃ (m : Nat) (nk : Nat), vs = [.int .i64 ((i + 1 + m : Nat) : Int), .int .i64 (nk : Int)] ∧ m ≤ (dst.drop (i + 1)).length ∧ nk = kidc dst[i].path ((dst.drop (i + 1)).take m) ∧ Below w.heap.size w w6 ∧ Blk w6 b 3 (zs i ++ zvs ((if nz dst[i].path ((dst.drop (i + 1)).take m) (WR.take m) = true then 4 else 0) :: WR)))
        (fun vs _ => dst.length - (intOf (vs.headD undef)).toNat) rfl
        ⟨0, 0, rfl, Nat.zero_le _, rfl, hbel, by simpa [nz] using hb5⟩ ?_
      clear hb5 hbel hs5
      rintro _ u6 w6 ⟨m, nk, rfl, hm, hnk, hbel, hrow⟩
      have hs6 := h2.below (hbel.mono hB)
      obtain ⟨ad', e', _, hc6⟩ := hs6.at_ rfl hi
      injection e' with e'
      subst e'
      have hml : (dst.drop (i + 1)).length = dst.length - (i + 1) := List.length_drop
      repeat (apply c_seq)
      refine c_quietB mixed (by kernel_rfl) ?_
      repeat (apply q_op; intro _ hC; (first | (apply p_mvI; apply Eq.refl) | (apply p_mvB; apply Eq.refl) | (apply p_mvL; apply Eq.refl) | (apply p_lss; apply Eq.refl; apply Eq.refl) | (apply p_len_sl; apply Eq.refl)); apply Eq.refl)
      apply q_and; apply Eq.refl; apply Eq.refl; (repeat (first | apply Seg.pick | apply Seg.op | apply Seg.op0)); intro g2
      have g2' := of_decide_eq_true g2
      have hj : i + 1 + m < dst.length := by omega
      obtain ⟨ad', e', _, hcm⟩ := hs6.atd rfl hj dst[i]
      injection e' with e'
      subst e'
      have hpm : (dst.getD (i + 1 + m) dst[i]).path.size ≤ 1099511627775 := by rw [getD_lt hj]; exact (hi2.out _ (List.getElem_mem hj)).1
      repeat (first | (apply q_on; apply Eq.refl) | (apply q_op; intro _ hC; (first | (apply p_mvI; apply Eq.refl) | (apply p_mvL; apply Eq.refl) | (apply p_fieldAddr; apply Eq.refl) | (apply p_indexAddr; apply Eq.refl; apply Eq.refl; apply Eq.refl; omega) | (apply p_loadF; apply Eq.refl; (first | assumption | (apply Cel.bel; assumption; assumption; apply Nat.zero_lt_succ)); (first | apply Eq.refl | assumption))); apply Eq.refl))
      refine q_callB cl38 (fun x hx => runder_ok _ _ x hpm hp1) rfl ?_
      repeat (first | (apply q_off; apply Eq.refl; apply Eq.refl) | (apply q_op; intro _ hC; (first | (apply p_pick_t; apply Eq.refl; apply Eq.refl) | (apply p_pick_f; apply Eq.refl; apply Eq.refl)); apply Eq.refl) | (apply e_scq; (repeat (first | exact Over.base | exact Over.refl | refine Over.put rfl ?_ | refine Over.cnP rfl ?_ | refine Over.zpP rfl ?_)); apply Eq.refl) | (intro _))
      refine q_nil (fun w7 hb7 => ?_)
      replace hbel := hbel.trans (hb7.mono hbel.size)
      replace hrow := hrow.below hb7 hrow.lt
      have hs7 := h2.below (hbel.mono hB)
      obtain ⟨ad', e', _, hc7⟩ := hs7.at_ rfl hi
      injection e' with e'
      subst e'
      clear hs6 hc6
      repeat (apply e_then)
      first | refine c_ifd rfl (fun g3 => ?_) (fun g3 => ?_) | refine c_ifnd rfl (fun g3 => ?_) (fun g3 => ?_) | refine c_ifn rfl (fun g3 => ?_) (fun g3 => ?_) | refine c_cond rfl (fun g3 => ?_) (fun g3 => ?_)
      · simp only [Bool.and_eq_true, decide_eq_true_eq] at g3
        have hj : i + 1 + m < dst.length := by omega
        have hmd : m < (dst.drop (i + 1)).length := by omega
        obtain ⟨ad', e', _, hcm⟩ := hs7.at_ rfl hj
        injection e' with e'
        subst e'
        have hpm := (hi2.out _ (List.getElem_mem hj)).1
        have htk : (dst.drop (i + 1)).take (m + 1) = (dst.drop (i + 1)).take m ++ [dst[i + 1 + m]] := by rw [List.take_succ_eq_append_getElem hmd, List.getElem_drop]
        have hmW : m < WR.length := by omega
        have hWk : WR.take (m + 1) = WR.take m ++ [WR[m]] := List.take_succ_eq_append_getElem hmW
        have hlens : ((dst.drop (i + 1)).take m).length = (WR.take m).length := by rw [List.length_take, List.length_take, hWl]
        have hkl := kidc_le dst[i].path ((dst.drop (i + 1)).take m)
        rw [List.length_take] at hkl
        have hnk1 := kidc_snoc dst[i].path dst[i + 1 + m] ((dst.drop (i + 1)).take m)
        have hnz1 := nz_snoc dst[i].path dst[i + 1 + m] WR[m] _ _ hlens
        rw [← htk] at hnk1 hnz1
        rw [← hWk] at hnz1
        repeat (first | (apply c_seq) | (apply e_then) | (apply c_block) | (apply c_skip))
        refine c_quietB mixed (by kernel_rfl) ?_
        repeat (apply q_op; intro _ hC; (first | (apply p_mvI; apply Eq.refl) | (apply p_mvL; apply Eq.refl) | (apply p_fieldAddr; apply Eq.refl) | (apply p_indexAddr; apply Eq.refl; apply Eq.refl; apply Eq.refl; omega) | (apply p_loadF; apply Eq.refl; (first | assumption | (apply Cel.bel; assumption; assumption; apply Nat.zero_lt_succ)); (first | apply Eq.refl | assumption))); apply Eq.refl)
        refine q_callB cl39 (fun x hx => rparent_ok _ x hpm) rfl ?_
        repeat (apply q_op; intro _ hC; (first | (apply p_mvI; apply Eq.refl) | (apply p_mvL; apply Eq.refl) | (apply p_fieldAddr; apply Eq.refl) | (apply p_sneq; apply Eq.refl; apply Eq.refl) | (apply p_indexAddr; apply Eq.refl; apply Eq.refl; apply Eq.refl; omega) | (apply p_loadF; apply Eq.refl; (first | assumption | (apply Cel.bel; assumption; assumption; apply Nat.zero_lt_succ)); (first | apply Eq.refl | assumption))); apply Eq.refl)
        refine q_nil (fun w8 hb8 => ?_)
        replace hbel := hbel.trans (hb8.mono hbel.size)
        replace hrow := hrow.below hb8 hrow.lt
        clear hs7 hc7 hcm
        repeat (apply e_then)
        first | refine c_ifd rfl (fun g4 => ?_) (fun g4 => ?_) | refine c_ifnd rfl (fun g4 => ?_) (fun g4 => ?_) | refine c_ifn rfl (fun g4 => ?_) (fun g4 => ?_) | refine c_cond rfl (fun g4 => ?_) (fun g4 => ?_)
        · rw [if_neg g4] at hnk1
          rw [decide_eq_false g4, Bool.false_and, Bool.or_false] at hnz1
          repeat (first | (apply w_op; (first | (apply p_mvI; apply Eq.refl) | (apply p_asI; apply Eq.refl) | (apply p_add64; apply Eq.refl; apply Eq.refl; omega)); apply Eq.refl) | (apply w_nil) | (apply e_then) | (apply c_region) | (apply c_exit) | (apply e_then_exit) | (apply e_bk_same))
          refine e_lp (by repeat (first | exact Over.base | exact Over.refl | refine Over.put rfl ?_ | refine Over.cnP rfl ?_ | refine Over.zpP rfl ?_)) ?_
          refine ⟨⟨m + 1, nk, rfl, by omega, by omega, hbel, by rw [hnz1]; exact hrow⟩, ?_⟩
          show dst.length - (((i + 1 + m : Nat) : Int) + 1).toNat < dst.length - ((i + 1 + m : Nat) : Int).toNat
          omega
        · rw [if_pos g4] at hnk1
          rw [decide_eq_true g4, Bool.true_and] at hnz1
          have hel := hrow.obj0.elem (zsvs_get (k := i) (i := if nz dst[i].path ((dst.drop (i + 1)).take m) (WR.take m) = true then 4 else 0) hmW)
          repeat (first | (apply w_op; (first | (apply p_mvI; apply Eq.refl) | (apply p_mvL; apply Eq.refl) | (apply p_neq; apply Eq.refl; apply Eq.refl) | (apply p_indexAddr; apply Eq.refl; apply Eq.refl; apply Eq.refl; omega) | (apply p_load0; apply Eq.refl; (first | assumption | (apply Cel.bel; assumption; assumption; apply Nat.zero_lt_succ)); (first | apply Eq.refl | assumption))); apply Eq.refl) | (apply w_nil) | (apply c_seq) | (apply e_then) | (apply c_region) | (apply c_skip))
          first | refine c_ifd rfl (fun g5 => ?_) (fun g5 => ?_) | refine c_ifnd rfl (fun g5 => ?_) (fun g5 => ?_) | refine c_ifn rfl (fun g5 => ?_) (fun g5 => ?_) | refine c_cond rfl (fun g5 => ?_) (fun g5 => ?_)
          · repeat (first | (apply w_op; (first | (apply p_mvI; apply Eq.refl) | (apply p_mvL; apply Eq.refl) | (apply p_indexAddr; apply Eq.refl; apply Eq.refl; apply Eq.refl; omega)); apply Eq.refl) | (apply c_region))
            refine w_store (v := .int .i64 4) (b := b) (j := i) (cs := zs i ++ zvs ((if nz dst[i].path ((dst.drop (i + 1)).take m) (WR.take m) = true then 4 else 0) :: WR)) (e := 3) ⟨_, _, inferInstance⟩ rfl (by simp [addr_add_plain]) rfl rfl hrow (zs_get _ _ _) (fun w9 hp9 hb9 => ?_)
            rw [zs_set2] at hb9
            replace hbel := hp9.below hbel (hbel.size) (by omega)
            clear hel hrow
            repeat (first | (apply w_op; (first | (apply p_mvI; apply Eq.refl) | (apply p_asI; apply Eq.refl) | (apply p_add64; apply Eq.refl; apply Eq.refl; omega)); apply Eq.refl) | (apply w_nil) | (apply e_then) | (apply c_region) | (apply e_bk))
            refine e_lp (by repeat (first | exact Over.base | exact Over.refl | refine Over.put rfl ?_ | refine Over.cnP rfl ?_ | refine Over.zpP rfl ?_)) ?_
            refine ⟨⟨m + 1, nk + 1, rfl, by omega, by omega, hbel, ?_⟩, ?_⟩
            · rw [hnz1, decide_eq_false g5]; simpa using hb9
            · show dst.length - (((i + 1 + m : Nat) : Int) + 1).toNat < dst.length - ((i + 1 + m : Nat) : Int).toNat
              omega
          · clear hel
            repeat (first | (apply w_op; (first | (apply p_mvI; apply Eq.refl) | (apply p_asI; apply Eq.refl) | (apply p_add64; apply Eq.refl; apply Eq.refl; omega)); apply Eq.refl) | (apply w_nil) | (apply e_then) | (apply c_region) | (apply c_skip) | (apply e_bk))
            refine e_lp (by repeat (first | exact Over.base | exact Over.refl | refine Over.put rfl ?_ | refine Over.cnP rfl ?_ | refine Over.zpP rfl ?_)) ?_
            refine ⟨⟨m + 1, nk + 1, rfl, by omega, by omega, hbel, ?_⟩, ?_⟩
            · rw [hnz1, decide_eq_true g5]; simpa using hrow
            · show dst.length - (((i + 1 + m : Nat) : Int) + 1).toNat < dst.length - ((i + 1 + m : Nat) : Int).toNat
              omega
      · have hend : ∀ h : m < (dst.drop (i + 1)).length, under (dst.drop (i + 1))[m].path dst[i].path = false := by
          intro h
          have hj : i + 1 + m < dst.length := by omega
          rw [getD_lt hj] at g3
          rw [List.getElem_drop]
          simp only [Bool.and_eq_true, decide_eq_true_eq, not_and, Bool.and_eq_false_iff, decide_eq_false_iff_not, Bool.not_eq_true] at g3
          rcases g3 with g3 | g3
          · omega
          · exact g3
        have hfull := goes_full hg hrise hi WR hWl hm hend qk
        rw [← hnk] at hfull
        repeat (first | (apply w_op; (first | (apply p_mvI; apply Eq.refl) | (apply p_mvL; apply Eq.refl) | (apply p_fieldAddr; apply Eq.refl) | (apply p_neq; apply Eq.refl; apply Eq.refl) | (apply p_indexAddr; apply Eq.refl; apply Eq.refl; apply Eq.refl; omega) | (apply p_loadF; apply Eq.refl; (first | assumption | (apply Cel.bel; assumption; assumption; apply Nat.zero_lt_succ)); (first | apply Eq.refl | assumption))); apply Eq.refl) | (apply w_nil) | (apply c_seq) | (apply e_then) | (apply c_region) | (apply c_exit) | (apply e_then_exit) | (apply e_bk_same) | (apply e_lp_exit))
        first | refine c_ifd rfl (fun g6 => ?_) (fun g6 => ?_) | refine c_ifnd rfl (fun g6 => ?_) (fun g6 => ?_) | refine c_ifn rfl (fun g6 => ?_) (fun g6 => ?_) | refine c_cond rfl (fun g6 => ?_) (fun g6 => ?_)
        · repeat (first | (apply w_op; (first | (apply p_mvI; apply Eq.refl) | (apply p_mvL; apply Eq.refl) | (apply p_indexAddr; apply Eq.refl; apply Eq.refl; apply Eq.refl; omega)); apply Eq.refl) | (apply c_region))
          refine w_store (v := .int .i64 4) (b := b) (j := i) (cs := zs i ++ zvs ((if nz dst[i].path ((dst.drop (i + 1)).take m) (WR.take m) = true then 4 else 0) :: WR)) (e := 3) ⟨_, _, inferInstance⟩ rfl (by simp [addr_add_plain]) rfl rfl hrow (zs_get _ _ _) (fun w9 hp9 hb9 => ?_)
          rw [zs_set2] at hb9
          replace hbel := hp9.below hbel (hbel.size) (by omega)
          clear hrow
          repeat (first | (apply w_op; (first | (apply p_mvI; apply Eq.refl) | (apply p_asI; apply Eq.refl) | (apply p_sub64; apply Eq.refl; apply Eq.refl; omega)); apply Eq.refl) | (apply w_nil) | (apply e_then) | (apply c_region) | (apply e_bk))
          refine e_lp (by repeat (first | exact Over.base | exact Over.refl | refine Over.put rfl ?_ | refine Over.cnP rfl ?_ | refine Over.zpP rfl ?_)) ?_
          refine ⟨⟨i, _, rfl, rfl, by omega, hbel, ?_⟩, ?_⟩
          · rw [hdrop, if_pos ⟨q0, by rw [hfull, decide_eq_false g6]; simp⟩]; exact hb9
          · show ((i : Int) - 1 + 1).toNat < ((i : Int) + 1).toNat
            omega
        · repeat (first | (apply w_op; (first | (apply p_mvI; apply Eq.refl) | (apply p_asI; apply Eq.refl) | (apply p_sub64; apply Eq.refl; apply Eq.refl; omega)); apply Eq.refl) | (apply w_nil) | (apply e_then) | (apply c_region) | (apply c_skip) | (apply e_bk))
          refine e_lp (by repeat (first | exact Over.base | exact Over.refl | refine Over.put rfl ?_ | refine Over.cnP rfl ?_ | refine Over.zpP rfl ?_)) ?_
          refine ⟨⟨i, _, rfl, rfl, by omega, hbel, ?_⟩, ?_⟩
          · rw [hdrop, q0]
            rw [decide_eq_true g6, Bool.not_true, Bool.or_false] at hfull
            rw [hfull]
            simpa using hrow
          · show ((i : Int) - 1 + 1).toNat < ((i : Int) + 1).toNat
            omega
  · obtain rfl : k = 0 := by omega
    repeat (first | (apply w_op; (first | (apply p_mvL; apply Eq.refl) | (apply p_asL; apply Eq.refl)); apply Eq.refl) | (apply w_nil) | (apply c_seq) | (apply e_then) | (apply c_region) | (apply c_ret) | (apply c_exit) | (apply e_then_exit) | (apply e_bk_same) | (apply e_lp_exit))
    refine r_ret1 Try.results24 rfl ⟨b, rfl, by omega, ?_, hbel⟩
    simpa [zs, whyL] using hrow
end Go.Proofs.Ytjcbnohnilffoaa
