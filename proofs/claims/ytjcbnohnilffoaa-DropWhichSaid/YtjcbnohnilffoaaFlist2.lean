/- THE WALKS of package flist: Check, Find. -/
import Derived.Test.YtjcbnohnilffoaaFlist
set_option linter.unusedVariables false
namespace Go.Proofs.Ytjcbnohnilffoaa
open Go.RowKit

theorem find_ok (vl : Value) (l : List En) (p : ByteArray) (w : World) (B : Nat) (h : Ens w B vl l) (hB : B ≤ w.heap.size) (hl : l.length ≤ 1000000) :
    Ret Try.prog 15 [vl, .string p] w fun v w' => v = (match findF p l 0 with | some i => .tuple #[.int .i64 (i : Int), .bool true] | none => .tuple #[.int .i64 0, .bool false]) ∧ Below w.heap.size w w' := by
  obtain ⟨A1, c1, rfl, hc1, hA1⟩ := h.out
  refine calls_in Try.func15 rfl Try.ntmps15 rfl ?_
  repeat (first | (apply w_op; (first | (apply p_mvI; apply Eq.refl) | (apply p_mvL; apply Eq.refl) | (apply p_asI; apply Eq.refl) | (apply p_asB; apply Eq.refl) | (apply p_len_sl; apply Eq.refl)); apply Eq.refl) | (apply w_nil) | (apply c_seq) | (apply e_then) | (apply c_region) | (apply c_block))
  refine c_loop [10] [4, 5, 6, 7, 11, 12, 13, 14, 15, 16, 17, 18, 19, 20] (fun vs w2 => ∃ k : Nat, vs = [.int .i64 (k : Int)] ∧ k ≤ l.length ∧ Below w.heap.size w w2 ∧ findF p l 0 = findF p (l.drop k) k) (fun vs _ => l.length - (intOf (vs.headD undef)).toNat) rfl
    ⟨0, rfl, Nat.zero_le _, Below.refl _ _, by simp⟩ ?_
  rintro _ u w2 ⟨k, rfl, hk, hb2, hfind⟩
  have hs2 := h.below (hb2.mono hB)
  repeat (first | (apply w_op; (apply p_lss; apply Eq.refl; apply Eq.refl); apply Eq.refl) | (apply w_nil) | (apply c_seq) | (apply e_then) | (apply c_region))
  refine c_cond rfl (fun g => ?_) (fun g => ?_)
  · have hlt := of_decide_eq_true g
    have hk1 : k < l.length := by omega
    obtain ⟨ad, rfl, hblk, hcel⟩ := hs2.at_ rfl hk1
    rw [List.drop_eq_getElem_cons hk1] at hfind
    simp only [findF] at hfind
    repeat (first | (apply w_op; (first | (apply p_mvI; apply Eq.refl) | (apply p_indexAddr; apply Eq.refl; apply Eq.refl; apply Eq.refl; omega)); apply Eq.refl) | (apply c_seq) | (apply e_then) | (apply c_region) | (apply c_block) | (apply c_skip))
    refine w_op (p_loadS rfl hcel rfl) rfl ?_
    refine w_alloc rfl (fun b w3 hn3 => ?_)
    obtain ⟨cs3, hb3, hl3⟩ := hn3.zblk Try.prog
    repeat (apply w_op; (apply p_asI; apply Eq.refl); apply Eq.refl)
    refine w_storeW rfl rfl rfl rfl hb3 hl3 (fun w4 hp4 hb4 => ?_)
    have hz3 := hn3.size
    have hwb := hn3.hb
    have hz4 := hp4.size
    have hz2 := hb2.size
    have hbel4 := hp4.below (hn3.below hb2 hz2) (by omega) (by omega)
    have hc4 := hb4.obj0
    repeat (first | (apply w_op; (apply p_fieldAddr; apply Eq.refl); apply Eq.refl) | (apply w_nil) | (apply c_seq) | (apply e_then) | (apply c_region))
    refine w_op (p_load0 (v := .string l[k].path) rfl (by rw [addr_add_zero]; exact hc4) rfl) rfl ?_
    repeat (first | (apply w_op; (first | (apply p_mvS; apply Eq.refl) | (apply p_seql; apply Eq.refl; apply Eq.refl)); apply Eq.refl) | (apply w_nil) | (apply e_then))
    refine c_cond rfl (fun q => ?_) (fun q => ?_)
    · have q' := of_decide_eq_true q
      repeat (first | (apply w_op; (first | (apply p_mvI; apply Eq.refl) | (apply p_asI; apply Eq.refl) | (apply p_asB; apply Eq.refl)); apply Eq.refl) | (apply w_nil) | (apply c_seq) | (apply e_then) | (apply c_region) | (apply c_ret) | (apply e_then_ret) | (apply e_bk_ret) | (apply e_lp_ret))
      refine r_ret2 Try.results15 rfl ⟨?_, hbel4⟩
      rw [hfind, if_pos q']; rfl
    · have q' := of_decide_eq_false q
      repeat (first | (apply w_op; (first | (apply p_mvI; apply Eq.refl) | (apply p_add64; apply Eq.refl; apply Eq.refl; omega)); apply Eq.refl) | (apply w_nil) | (apply e_then) | (apply c_region) | (apply c_skip) | (apply e_bk))
      refine e_lp (by repeat (first | exact Over.base | exact Over.refl | refine Over.put rfl ?_ | refine Over.cnP rfl ?_ | refine Over.zpP rfl ?_)) ?_
      refine ⟨⟨k + 1, rfl, by omega, hbel4, by rw [hfind, if_neg q']⟩, ?_⟩
      show l.length - ((k : Int) + 1).toNat < l.length - ((k : Int)).toNat
      omega
  · have hge := of_decide_eq_false g
    obtain rfl : k = l.length := by omega
    repeat (first | (apply w_op; (first | (apply p_asI; apply Eq.refl) | (apply p_asB; apply Eq.refl)); apply Eq.refl) | (apply w_nil) | (apply c_seq) | (apply e_then) | (apply c_region) | (apply c_ret) | (apply c_exit) | (apply e_then_exit) | (apply e_bk_same) | (apply e_lp_exit))
    refine r_ret2 Try.results15 rfl ⟨?_, hb2⟩
    rw [hfind]
    simp [findF]
    exact ⟨rfl, rfl⟩

def dirM (dirs : ByteArray → Bool) : ByteArray → Option Value := fun s => if dirs s then some (.bool true) else none
theorem dirM_get (dirs : ByteArray → Bool) (s : ByteArray) : (dirM dirs s).getD (.bool false) = .bool (dirs s) := by
  unfold dirM
  cases dirs s <;> rfl
def prevE (l : List En) : Nat → Option En
  | 0 => none
  | k + 1 => l[k]?

set_option maxRecDepth 100000 in
theorem flCheck_ok (vl : Value) (l : List En) (w : World) (B : Nat) (h : Ens w B vl l) (hB : B ≤ w.heap.size) (hl : l.length ≤ 1000000) (hin : EnsIn l) :
    Ret Try.prog 14 [vl] w fun v w' => v = .int .i64 (flErr l) ∧ Below w.heap.size w w' := by
  obtain ⟨A1, c1, rfl, hc1, hA1⟩ := h.out
  refine calls_in Try.func14 rfl Try.ntmps14 rfl ?_
  repeat (first | (apply w_op; (apply p_asI; apply Eq.refl); apply Eq.refl) | (apply w_nil) | (apply c_seq) | (apply e_then) | (apply c_region))
  refine w_makeMap rfl (fun b w1 hn1 => ?_)
  refine w_insert (v := .bool true) rfl rfl rfl hn1.mp (fun w2 hp2 hm2 => ?_)
  have hwb := hn1.hb
  have hz1 := hn1.size
  have hz2 := hp2.size
  have hbel2 := hp2.below (hn1.below (Below.refl _ _) (Nat.le_refl _)) (by omega) (by omega)
  repeat (first | (apply w_op; (first | (apply p_mvI; apply Eq.refl) | (apply p_mvL; apply Eq.refl) | (apply p_mvM; apply Eq.refl) | (apply p_asI; apply Eq.refl) | (apply p_asM; apply Eq.refl) | (apply p_len_sl; apply Eq.refl)); apply Eq.refl) | (apply w_nil) | (apply c_seq) | (apply e_then) | (apply c_region) | (apply c_block))
  refine c_loop [12, 4] [2, 5, 6, 7, 13, 14, 15, 16, 17, 18, 19, 20, 21, 22, 23, 24, 25, 26, 27, 28, 29, 30, 31, 32, 33, 34, 35, 36, 37, 38, 39, 40, 41, 42, 43, 44, 45, 46, 47, 48, 49, 50, 51, 52, 53, 54, 55, 56, 57, 58, 59, 60, 61, 62, 63, 64, 65, 66, 67, 68, 69] (fun vs w3 => ∃ (k : Nat) (last : Int) (dirs : ByteArray → Bool) (cnt : Nat), vs = [.int .i64 (k : Int), .int .i64 last] ∧ k ≤ l.length ∧ 0 ≤ last ∧ last ≤ k ∧ Below w.heap.size w w3 ∧ Mp w3 b (dirM dirs) cnt ∧ flErr l = fchk (prevE l k) dirs last (l.drop k))
    (fun vs _ => l.length - (intOf (vs.headD undef)).toNat) rfl
    ⟨0, 0, fun s => decide (s = noB), 1, rfl, Nat.zero_le _, Int.le_refl _, Int.le_refl _, hbel2, hm2.fun_ (fun s => by unfold dirM; by_cases e : s = noB <;> simp [e]), rfl⟩ ?_
  rintro _ u w3 ⟨k, last, dirs, cnt, rfl, hk, hl0, hlk, hb3, hm3, herr⟩
  have hs3 := h.below (hb3.mono hB)
  have hmlt := hm3.lt
  repeat (first | (apply w_op; (apply p_lss; apply Eq.refl; apply Eq.refl); apply Eq.refl) | (apply w_nil) | (apply c_seq) | (apply e_then) | (apply c_region))
  refine c_cond rfl (fun g => ?_) (fun g => ?_)
  · have hlt := of_decide_eq_true g
    have hk1 : k < l.length := by omega
    obtain ⟨ad, rfl, hblk, hcel⟩ := hs3.at_ rfl hk1
    obtain ⟨hi1, hi2, hi3⟩ := hin.out _ (List.getElem_mem hk1)
    rw [List.drop_eq_getElem_cons hk1] at herr
    simp only [fchk] at herr
    repeat (first | (apply w_op; (first | (apply p_mvI; apply Eq.refl) | (apply p_indexAddr; apply Eq.refl; apply Eq.refl; apply Eq.refl; omega)); apply Eq.refl) | (apply c_seq) | (apply e_then) | (apply c_region) | (apply c_block) | (apply c_skip))
    refine w_op (p_loadS rfl hcel rfl) rfl ?_
    refine w_alloc rfl (fun b4 w4 hn4 => ?_)
    obtain ⟨cs4, hb4, hl4⟩ := hn4.zblk Try.prog
    repeat (apply w_op; (apply p_asI; apply Eq.refl); apply Eq.refl)
    refine w_storeW rfl rfl rfl rfl hb4 hl4 (fun w5 hp5 hb5 => ?_)
    have hz4 := hn4.size
    have hwb4 := hn4.hb
    have hz5 := hp5.size
    have hz3 := hb3.size
    have hbel5 := hp5.below (hn4.below hb3 hz3) (by omega) (by omega)
    have hm5 := (hm3.grown (hn4.grown none) (by simp)).grown hp5.grown (fun e => by injection e; omega)
    have hc5 := hb5.obj0
    repeat (first | (apply w_nil) | (apply c_seq) | (apply e_then) | (apply c_region))
    refine w_op (p_loadS rfl hc5 rfl) rfl ?_
    refine w_call cl27 (alone_ok l[k] _ hi1 hi2 hi3) rfl ?_
    rintro v w6 ⟨rfl, hb6⟩
    have hbel6 := hbel5.trans (hb6.mono hbel5.size)
    have hm6 := hm5.below hb6 hm5.lt
    have hc6 := hc5.below hb6 hb5.lt
    have hz6 := hb6.size
    repeat (first | (apply w_op; (first | (apply p_mvI; apply Eq.refl) | (apply p_asI; apply Eq.refl) | (apply p_neq; apply Eq.refl; apply Eq.refl)); apply Eq.refl) | (apply w_nil) | (apply c_seq) | (apply e_then) | (apply c_region))
    refine c_cond rfl (fun q => ?_) (fun q => ?_)
    · have q' : aloneErr l[k] ≠ 0 := by simpa using q
      repeat (first | (apply w_op; (first | (apply p_mvI; apply Eq.refl) | (apply p_asI; apply Eq.refl)); apply Eq.refl) | (apply w_nil) | (apply c_seq) | (apply e_then) | (apply c_region) | (apply c_ret) | (apply e_then_ret) | (apply e_bk_ret) | (apply e_lp_ret))
      exact r_ret1 Try.results14 rfl ⟨congrArg (Value.int .i64) (by rw [herr, if_pos q']), hbel6⟩
    · have q' : ¬ aloneErr l[k] ≠ 0 := by simpa using q
      have q0 : aloneErr l[k] = 0 := by simpa using q
      have hg0 := alone_group q0
      rw [if_neg q'] at herr
      have hs6 := h.below (hbel6.mono hB)
      have hB6 : B ≤ w6.heap.size := by omega
      have hb4lt : b4 < w6.heap.size := by omega
      repeat (first | (apply c_seq) | (apply e_then) | (apply c_skip))
      refine c_cut1 [34] [22, 23, 24, 25, 26, 27, 28, 29, 30, 31, 32, 33] (fun vs w7 => vs = [.bool ((prevE l k).any (fun p => decide (l[k].path = p.path)))] ∧ Below w6.heap.size w6 w7) ?_ ?_
      · refine c_quiet (fun x => Below w6.heap.size w6 x) mixed (by kernel_rfl) (Below.refl _ _).drew ?_
        repeat (apply q_op; intro _ hC; (first | (apply p_mvI; apply Eq.refl) | (apply p_mvB; apply Eq.refl) | (apply p_gtr; apply Eq.refl; apply Eq.refl)); apply Eq.refl)
        refine q_bool 24 rfl (fun g1 => ?_) (fun g1 => ?_)
        · have g1' := of_decide_eq_true g1
          obtain ⟨k', rfl⟩ : ∃ k', k = k' + 1 := ⟨k - 1, by omega⟩
          obtain ⟨ad', e', hblk', hcel'⟩ := hs6.at_ rfl (show k' < l.length by omega)
          injection e' with e'
          subst e'
          repeat (first | (apply q_op; intro _ hC; (apply p_fieldAddr; apply Eq.refl); apply Eq.refl) | (apply q_on; apply Eq.refl))
          refine q_op (fun x hx => p_loadF (j := 0) (v := .string l[k' + 1].path) rfl (hc6.below hx hb4lt) rfl) rfl ?_
          repeat (first | (apply q_op; intro _ hC; (first | (apply p_mvI; apply Eq.refl) | (apply p_mvL; apply Eq.refl) | (apply p_fieldAddr; apply Eq.refl) | (apply p_sub64; apply Eq.refl; apply Eq.refl; omega) | (apply p_indexAddr; apply Eq.refl; apply Eq.refl; apply Eq.refl; omega)); apply Eq.refl) | (apply q_on; apply Eq.refl))
          refine q_op (fun x hx => p_loadA (a' := (ad.add (((((k' + 1 : Nat) : Int) - 1).toNat) * 11)).add 0) (v := .string l[k'].path) (j := 0) rfl (by rw [addr_add_zero, addr_add_zero, show (((k' + 1 : Nat) : Int) - 1).toNat = k' by omega]) (hcel'.below (hx.mono hB6) (by rw [addr_add_block]; exact hblk')) rfl) rfl ?_
          repeat (first | (apply q_op; intro _ hC; (first | (apply p_seql; apply Eq.refl; apply Eq.refl) | (apply p_pick_t; apply Eq.refl; apply Eq.refl)); apply Eq.refl) | (apply q_on; apply Eq.refl))
          refine q_nil (fun w7 hb7 => ?_)
          refine e_ct (by repeat (first | exact Over.base | exact Over.refl | refine Over.put rfl ?_ | refine Over.cnP rfl ?_ | refine Over.zpP rfl ?_)) ?_
          refine ⟨?_, hb7⟩
          rw [prevE, List.getElem?_eq_getElem (show k' < l.length by omega)]
          rfl
        · have g1' := of_decide_eq_false g1
          obtain rfl : k = 0 := by omega
          repeat (first | (apply q_op; intro _ hC; (apply p_pick_f; apply Eq.refl; apply Eq.refl); apply Eq.refl) | (apply q_off; apply Eq.refl; apply Eq.refl))
          refine q_nil (fun w7 hb7 => ?_)
          refine e_ct (by repeat (first | exact Over.base | exact Over.refl | refine Over.put rfl ?_ | refine Over.cnP rfl ?_ | refine Over.zpP rfl ?_)) ?_
          exact ⟨rfl, hb7⟩
      · rintro _ u7 w7 ⟨rfl, hb7⟩
        have hbel7 := hbel6.trans (hb7.mono hbel6.size)
        have hm7 := hm6.below hb7 hm6.lt
        have hc7 := hc6.below hb7 hb4lt
        have hz7 := hb7.size
        skip
        refine c_cond rfl (fun q1 => ?_) (fun q1 => ?_)
        · repeat (first | (apply w_op; (apply p_asI; apply Eq.refl); apply Eq.refl) | (apply w_nil) | (apply c_seq) | (apply e_then) | (apply c_region) | (apply c_ret) | (apply e_then_ret) | (apply e_bk_ret) | (apply e_lp_ret))
          exact r_ret1 Try.results14 rfl ⟨congrArg (Value.int .i64) (by rw [herr, if_pos q1]), hbel7⟩
        · rw [if_neg (by simp [q1])] at herr
          have hs7 := h.below (hbel7.mono hB)
          have hB7 : B ≤ w7.heap.size := by omega
          have hb4lt7 : b4 < w7.heap.size := by omega
          repeat (first | (apply c_seq) | (apply e_then) | (apply c_skip))
          refine c_cut1 [47] [35, 36, 37, 38, 39, 40, 41, 42, 43, 44, 45, 46] (fun vs w8 => vs = [.bool ((prevE l k).any (fun p => less l[k].path p.path))] ∧ Below w7.heap.size w7 w8) ?_ ?_
          · refine c_quiet (fun x => Below w7.heap.size w7 x) mixed (by kernel_rfl) (Below.refl _ _).drew ?_
            repeat (apply q_op; intro _ hC; (first | (apply p_mvI; apply Eq.refl) | (apply p_mvB; apply Eq.refl) | (apply p_gtr; apply Eq.refl; apply Eq.refl)); apply Eq.refl)
            refine q_bool 37 rfl (fun g1 => ?_) (fun g1 => ?_)
            · have g1' := of_decide_eq_true g1
              obtain ⟨k', rfl⟩ : ∃ k', k = k' + 1 := ⟨k - 1, by omega⟩
              obtain ⟨ad', e', hblk', hcel'⟩ := hs7.at_ rfl (show k' < l.length by omega)
              injection e' with e'
              subst e'
              obtain ⟨hj1, _, _⟩ := hin.out _ (List.getElem_mem (show k' < l.length by omega))
              repeat (first | (apply q_op; intro _ hC; (apply p_fieldAddr; apply Eq.refl); apply Eq.refl) | (apply q_on; apply Eq.refl))
              refine q_op (fun x hx => p_loadF (j := 0) (v := .string l[k' + 1].path) rfl (hc7.below hx hb4lt7) rfl) rfl ?_
              repeat (first | (apply q_op; intro _ hC; (first | (apply p_mvI; apply Eq.refl) | (apply p_mvL; apply Eq.refl) | (apply p_fieldAddr; apply Eq.refl) | (apply p_sub64; apply Eq.refl; apply Eq.refl; omega) | (apply p_indexAddr; apply Eq.refl; apply Eq.refl; apply Eq.refl; omega)); apply Eq.refl) | (apply q_on; apply Eq.refl))
              refine q_op (fun x hx => p_loadA (a' := (ad.add (((((k' + 1 : Nat) : Int) - 1).toNat) * 11)).add 0) (v := .string l[k'].path) (j := 0) rfl (by rw [addr_add_zero, addr_add_zero, show (((k' + 1 : Nat) : Int) - 1).toNat = k' by omega]) (hcel'.below (hx.mono hB7) (by rw [addr_add_block]; exact hblk')) rfl) rfl ?_
              repeat (apply q_on; apply Eq.refl)
              refine q_call cl28 (.bool (less l[k' + 1].path l[k'].path)) (fun x hx => ?_) rfl ?_
              · refine Ret.mono (less_ok _ _ x hi1 hj1) ?_
                rintro v' w' ⟨hv, hb'⟩
                exact ⟨hv, hx.trans (hb'.mono hx.size)⟩
              repeat (apply q_op; intro _ hC; (apply p_pick_t; apply Eq.refl; apply Eq.refl); apply Eq.refl)
              refine q_nil (fun w8 hb8 => ?_)
              refine e_ct (by repeat (first | exact Over.base | exact Over.refl | refine Over.put rfl ?_ | refine Over.cnP rfl ?_ | refine Over.zpP rfl ?_)) ?_
              refine ⟨?_, hb8⟩
              rw [prevE, List.getElem?_eq_getElem (show k' < l.length by omega)]
              rfl
            · have g1' := of_decide_eq_false g1
              obtain rfl : k = 0 := by omega
              repeat (first | (apply q_op; intro _ hC; (apply p_pick_f; apply Eq.refl; apply Eq.refl); apply Eq.refl) | (apply q_off; apply Eq.refl; apply Eq.refl))
              refine q_nil (fun w8 hb8 => ?_)
              refine e_ct (by repeat (first | exact Over.base | exact Over.refl | refine Over.put rfl ?_ | refine Over.cnP rfl ?_ | refine Over.zpP rfl ?_)) ?_
              exact ⟨rfl, hb8⟩
          · rintro _ u8 w8 ⟨rfl, hb8⟩
            have hbel8 := hbel7.trans (hb8.mono hbel7.size)
            have hm8 := hm7.below hb8 hm7.lt
            have hc8 := hc7.below hb8 hb4lt7
            have hz8 := hb8.size
            skip
            refine c_cond rfl (fun q2 => ?_) (fun q2 => ?_)
            · repeat (first | (apply w_op; (apply p_asI; apply Eq.refl); apply Eq.refl) | (apply w_nil) | (apply c_seq) | (apply e_then) | (apply c_region) | (apply c_ret) | (apply e_then_ret) | (apply e_bk_ret) | (apply e_lp_ret))
              exact r_ret1 Try.results14 rfl ⟨congrArg (Value.int .i64) (by rw [herr, if_pos q2]), hbel8⟩
            · rw [if_neg (by simp [q2])] at herr
              repeat (first | (apply w_op; (first | (apply p_mvM; apply Eq.refl) | (apply p_fieldAddr; apply Eq.refl)); apply Eq.refl) | (apply c_seq) | (apply e_then) | (apply c_region) | (apply c_skip))
              refine w_op (p_load0 (v := .string l[k].path) rfl (by rw [addr_add_zero]; exact hc8) rfl) rfl ?_
              refine w_call cl29 (parent_ok _ _ hi1) rfl ?_
              rintro v w9 ⟨rfl, rfl⟩
              refine w_op (p_lookup (s := parent l[k].path) rfl rfl hm8) rfl ?_
              rw [dirM_get]
              repeat (first | (apply w_op; (apply p_not; apply Eq.refl); apply Eq.refl) | (apply w_nil) | (apply e_then))
              refine c_cond rfl (fun q3 => ?_) (fun q3 => ?_)
              · have q3' : dirs (parent l[k].path) = false := by simpa using q3
                repeat (first | (apply w_op; (apply p_asI; apply Eq.refl); apply Eq.refl) | (apply w_nil) | (apply c_seq) | (apply e_then) | (apply c_region) | (apply c_ret) | (apply e_then_ret) | (apply e_bk_ret) | (apply e_lp_ret))
                exact r_ret1 Try.results14 rfl ⟨congrArg (Value.int .i64) (by rw [herr, if_pos q3']), hbel8⟩
              · have q3' : ¬ dirs (parent l[k].path) = false := by simpa using q3
                rw [if_neg q3'] at herr
                repeat (first | (apply w_op; (apply p_fieldAddr; apply Eq.refl); apply Eq.refl) | (apply c_seq) | (apply e_then) | (apply c_region) | (apply c_skip))
                refine w_op (p_loadF (j := 10) (v := .int .i64 l[k].group) rfl hc8 rfl) rfl ?_
                repeat (first | (apply w_op; (first | (apply p_mvI; apply Eq.refl) | (apply p_gtr; apply Eq.refl; apply Eq.refl) | (apply p_add64; apply Eq.refl; apply Eq.refl; omega)); apply Eq.refl) | (apply w_nil) | (apply e_then))
                refine c_cond rfl (fun q4 => ?_) (fun q4 => ?_)
                · have q4' := of_decide_eq_true q4
                  repeat (first | (apply w_op; (apply p_asI; apply Eq.refl); apply Eq.refl) | (apply w_nil) | (apply c_seq) | (apply e_then) | (apply c_region) | (apply c_ret) | (apply e_then_ret) | (apply e_bk_ret) | (apply e_lp_ret))
                  exact r_ret1 Try.results14 rfl ⟨congrArg (Value.int .i64) (by rw [herr, if_pos q4']), hbel8⟩
                · have q4' := of_decide_eq_false q4
                  rw [if_neg q4'] at herr
                  repeat (first | (apply w_op; (first | (apply p_mvI; apply Eq.refl) | (apply p_fieldAddr; apply Eq.refl)); apply Eq.refl) | (apply c_seq) | (apply e_then) | (apply c_region) | (apply c_skip))
                  refine w_op (p_loadF (j := 10) (v := .int .i64 l[k].group) rfl hc8 rfl) rfl ?_
                  repeat (first | (apply w_op; (first | (apply p_asI; apply Eq.refl) | (apply p_fieldAddr; apply Eq.refl) | (apply p_max; apply Eq.refl; apply Eq.refl)); apply Eq.refl) | (apply w_nil) | (apply c_seq) | (apply e_then) | (apply c_region))
                  refine w_op (p_loadF (j := 1) (v := .int .i64 l[k].kind) rfl hc8 rfl) rfl ?_
                  repeat (first | (apply w_op; (apply p_eql; apply Eq.refl; apply Eq.refl); apply Eq.refl) | (apply w_nil) | (apply e_then))
                  have hlast : 0 ≤ (if last < l[k].group then l[k].group else last) ∧ (if last < l[k].group then l[k].group else last) ≤ ((k + 1 : Nat) : Int) := by split <;> omega
                  refine c_cond rfl (fun q5 => ?_) (fun q5 => ?_)
                  · have q5' := of_decide_eq_true q5
                    repeat (first | (apply w_op; (first | (apply p_mvM; apply Eq.refl) | (apply p_fieldAddr; apply Eq.refl)); apply Eq.refl) | (apply c_region))
                    refine w_op (p_load0 (v := .string l[k].path) rfl (by rw [addr_add_zero]; exact hc8) rfl) rfl ?_
                    refine w_mapUpdate (v := .bool true) rfl rfl rfl hm8 (fun w10 hp10 hm10 => ?_)
                    repeat (first | (apply w_op; (first | (apply p_mvI; apply Eq.refl) | (apply p_add64; apply Eq.refl; apply Eq.refl; omega)); apply Eq.refl) | (apply w_nil) | (apply e_then) | (apply c_region) | (apply e_bk))
                    refine e_lp (by repeat (first | exact Over.base | exact Over.refl | refine Over.put rfl ?_ | refine Over.cnP rfl ?_ | refine Over.zpP rfl ?_)) ?_
                    refine ⟨⟨k + 1, _, _, _, rfl, by omega, hlast.1, hlast.2, hp10.below hbel8 (by omega) (by omega), hm10.fun_ (m' := dirM (fun s => dirs s || (decide (l[k].kind = 2) && decide (s = l[k].path)))) (fun s => ?_), ?_⟩, ?_⟩
                    · unfold dirM
                      by_cases e : s = l[k].path
                      · simp [e, q5']
                      · simp [e]
                    · rw [herr, prevE, List.getElem?_eq_getElem hk1]
                    · show l.length - ((k : Int) + 1).toNat < l.length - ((k : Int)).toNat
                      omega
                  · have q5' := of_decide_eq_false q5
                    repeat (first | (apply w_op; (first | (apply p_mvI; apply Eq.refl) | (apply p_add64; apply Eq.refl; apply Eq.refl; omega)); apply Eq.refl) | (apply w_nil) | (apply e_then) | (apply c_region) | (apply c_skip) | (apply e_bk))
                    refine e_lp (by repeat (first | exact Over.base | exact Over.refl | refine Over.put rfl ?_ | refine Over.cnP rfl ?_ | refine Over.zpP rfl ?_)) ?_
                    refine ⟨⟨k + 1, _, _, _, rfl, by omega, hlast.1, hlast.2, hbel8, hm8.fun_ (m' := dirM (fun s => dirs s || (decide (l[k].kind = 2) && decide (s = l[k].path)))) (fun s => ?_), ?_⟩, ?_⟩
                    · unfold dirM
                      simp [q5']
                    · rw [herr, prevE, List.getElem?_eq_getElem hk1]
                    · show l.length - ((k : Int) + 1).toNat < l.length - ((k : Int)).toNat
                      omega
  · have hge := of_decide_eq_false g
    obtain rfl : k = l.length := by omega
    repeat (first | (apply w_op; (apply p_asI; apply Eq.refl); apply Eq.refl) | (apply w_nil) | (apply c_seq) | (apply e_then) | (apply c_region) | (apply c_ret) | (apply c_exit) | (apply e_then_exit) | (apply e_bk_same) | (apply e_lp_exit))
    refine r_ret1 Try.results14 rfl ⟨congrArg (Value.int .i64) ?_, hb3⟩
    rw [herr]
    simp [fchk]
end Go.Proofs.Ytjcbnohnilffoaa
