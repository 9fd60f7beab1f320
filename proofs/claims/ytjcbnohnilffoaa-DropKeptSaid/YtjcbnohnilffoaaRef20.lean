/- THE WALKS of the document's answer for metas and lists (remoraref16, remoraref20). -/
import Derived.Test.YtjcbnohnilffoaaFlist2
import Derived.Test.YtjcbnohnilffoaaRef13b
set_option linter.unusedVariables false
set_option linter.unusedSimpArgs false
namespace Go.Proofs.Ytjcbnohnilffoaa
open Go.RowKit

theorem rin_ok (x a b : Int) (w : World) : Ret Try.prog 73 [.int .i64 x, .int .i64 a, .int .i64 b] w fun v w' => w' = w ∧ v = .bool (inR x a b) := by
  refine calls_in Try.func73 rfl Try.ntmps73 rfl ?_
  repeat (first | (apply w_op; (first | (apply p_mvI; apply Eq.refl) | (apply p_mvB; apply Eq.refl) | (apply p_asB; apply Eq.refl) | (apply p_geq; apply Eq.refl; apply Eq.refl)); apply Eq.refl) | (apply w_nil) | (apply c_seq) | (apply e_then) | (apply c_region))
  refine w_bool 10 rfl (fun h => ?_) (fun h => ?_)
  · repeat (first | (apply w_op; (first | (apply p_mvI; apply Eq.refl) | (apply p_asB; apply Eq.refl) | (apply p_leq; apply Eq.refl; apply Eq.refl) | (apply p_pick_t; apply Eq.refl; apply Eq.refl)); apply Eq.refl) | (apply w_nil) | (apply e_then) | (apply w_on; apply Eq.refl) | (apply c_ret))
    exact r_ret1 Try.results73 rfl ⟨rfl, congrArg Value.bool (by rw [inR, h]; rfl)⟩
  · repeat (first | (apply w_op; (first | (apply p_asB; apply Eq.refl) | (apply p_pick_f; apply Eq.refl; apply Eq.refl)); apply Eq.refl) | (apply w_nil) | (apply e_then) | (apply w_off; apply Eq.refl; apply Eq.refl) | (apply c_ret))
    exact r_ret1 Try.results73 rfl ⟨rfl, congrArg Value.bool (by rw [inR, h]; rfl)⟩

theorem rmeta_ok (m : Mt) (w : World) : Ret Try.prog 62 [.agg (enMt m).toArray] w fun v w' => v = .int .i64 (metaErr m) ∧ Below w.heap.size w w' := by
  refine calls_in Try.func62 rfl Try.ntmps62 rfl ?_
  refine c_seq (c_region (w_box rfl rfl (fun b w1 hn => ?_)))
  have hb := hn.blk.obj0
  have hbel := hn.below (Below.refl _ _) (Nat.le_refl _)
  repeat (first | (apply w_op; (first | (apply p_asI; apply Eq.refl) | (apply p_fieldAddr; apply Eq.refl)); apply Eq.refl) | (apply w_nil) | (apply c_seq) | (apply e_then) | (apply c_region))
  refine w_op (p_load0 (v := .int .i64 m.mode) rfl (by rw [addr_add_zero]; exact hb) rfl) rfl ?_
  refine w_call cl73 (rin_ok _ _ _ _) rfl ?_
  rintro v w2 ⟨rfl, rfl⟩
  repeat (apply w_op; (apply p_mvB; apply Eq.refl); apply Eq.refl)
  refine w_bool 6 rfl (fun h1 => ?_) (fun h1 => ?_)
  · repeat (first | (apply w_op; (apply p_fieldAddr; apply Eq.refl); apply Eq.refl) | (apply w_on; apply Eq.refl))
    refine w_op (p_loadF (j := 1) (v := .int .i64 m.sec) rfl hb rfl) rfl ?_
    repeat (apply w_on; apply Eq.refl)
    refine w_call cl73 (rin_ok _ _ _ _) rfl ?_
    rintro v w2 ⟨rfl, rfl⟩
    repeat (apply w_op; (first | (apply p_mvB; apply Eq.refl) | (apply p_pick_t; apply Eq.refl; apply Eq.refl)); apply Eq.refl)
    refine w_bool 11 rfl (fun h2 => ?_) (fun h2 => ?_)
    · repeat (first | (apply w_op; (apply p_fieldAddr; apply Eq.refl); apply Eq.refl) | (apply w_on; apply Eq.refl))
      refine w_op (p_loadF (j := 2) (v := .int .i64 m.nano) rfl hb rfl) rfl ?_
      repeat (apply w_on; apply Eq.refl)
      refine w_call cl73 (rin_ok _ _ _ _) rfl ?_
      rintro v w2 ⟨rfl, rfl⟩
      repeat (apply w_op; (first | (apply p_mvB; apply Eq.refl) | (apply p_pick_t; apply Eq.refl; apply Eq.refl)); apply Eq.refl)
      refine w_bool 16 rfl (fun h3 => ?_) (fun h3 => ?_)
      · repeat (first | (apply w_op; (apply p_fieldAddr; apply Eq.refl); apply Eq.refl) | (apply w_on; apply Eq.refl))
        refine w_op (p_loadF (j := 3) (v := .int .i64 m.uid) rfl hb rfl) rfl ?_
        repeat (apply w_on; apply Eq.refl)
        refine w_call cl73 (rin_ok _ _ _ _) rfl ?_
        rintro v w2 ⟨rfl, rfl⟩
        repeat (apply w_op; (first | (apply p_mvB; apply Eq.refl) | (apply p_pick_t; apply Eq.refl; apply Eq.refl)); apply Eq.refl)
        refine w_bool 21 rfl (fun h4 => ?_) (fun h4 => ?_)
        · repeat (first | (apply w_op; (apply p_fieldAddr; apply Eq.refl); apply Eq.refl) | (apply w_on; apply Eq.refl))
          refine w_op (p_loadF (j := 4) (v := .int .i64 m.gid) rfl hb rfl) rfl ?_
          repeat (apply w_on; apply Eq.refl)
          refine w_call cl73 (rin_ok _ _ _ _) rfl ?_
          rintro v w2 ⟨rfl, rfl⟩
          repeat (first | (apply w_op; (apply p_pick_t; apply Eq.refl; apply Eq.refl); apply Eq.refl) | (apply w_nil) | (apply e_then))
          refine c_cond rfl (fun h5 => ?_) (fun h5 => ?_)
          · repeat (first | (apply w_op; (apply p_asI; apply Eq.refl); apply Eq.refl) | (apply w_nil) | (apply c_seq) | (apply e_then) | (apply c_region) | (apply c_ret) | (apply e_then_ret))
            exact r_ret1 Try.results62 rfl ⟨congrArg (Value.int .i64) (by rw [metaErr, metaOk, h1, h2, h3, h4, h5]; rfl), hbel⟩
          · repeat (first | (apply w_op; (apply p_asI; apply Eq.refl); apply Eq.refl) | (apply w_nil) | (apply c_seq) | (apply e_then) | (apply c_region) | (apply c_skip) | (apply c_ret))
            exact r_ret1 Try.results62 rfl ⟨congrArg (Value.int .i64) (by rw [metaErr, metaOk, h1, h2, h3, h4, h5]; rfl), hbel⟩
        · repeat (first | (apply w_op; (first | (apply p_asI; apply Eq.refl) | (apply p_pick_f; apply Eq.refl; apply Eq.refl)); apply Eq.refl) | (apply w_nil) | (apply c_seq) | (apply e_then) | (apply c_region) | (apply w_off; apply Eq.refl; apply Eq.refl) | (apply c_cond_f; apply Eq.refl) | (apply c_skip) | (apply c_ret))
          exact r_ret1 Try.results62 rfl ⟨congrArg (Value.int .i64) (by rw [metaErr, metaOk, h1, h2, h3, h4]; rfl), hbel⟩
      · repeat (first | (apply w_op; (first | (apply p_mvB; apply Eq.refl) | (apply p_asI; apply Eq.refl) | (apply p_pick_f; apply Eq.refl; apply Eq.refl)); apply Eq.refl) | (apply w_nil) | (apply c_seq) | (apply e_then) | (apply c_region) | (apply w_off; apply Eq.refl; apply Eq.refl) | (apply c_cond_f; apply Eq.refl) | (apply c_skip) | (apply c_ret))
        exact r_ret1 Try.results62 rfl ⟨congrArg (Value.int .i64) (by rw [metaErr, metaOk, h1, h2, h3]; rfl), hbel⟩
    · repeat (first | (apply w_op; (first | (apply p_mvB; apply Eq.refl) | (apply p_asI; apply Eq.refl) | (apply p_pick_f; apply Eq.refl; apply Eq.refl)); apply Eq.refl) | (apply w_nil) | (apply c_seq) | (apply e_then) | (apply c_region) | (apply w_off; apply Eq.refl; apply Eq.refl) | (apply c_cond_f; apply Eq.refl) | (apply c_skip) | (apply c_ret))
      exact r_ret1 Try.results62 rfl ⟨congrArg (Value.int .i64) (by rw [metaErr, metaOk, h1, h2]; rfl), hbel⟩
  · repeat (first | (apply w_op; (first | (apply p_mvB; apply Eq.refl) | (apply p_asI; apply Eq.refl) | (apply p_pick_f; apply Eq.refl; apply Eq.refl)); apply Eq.refl) | (apply w_nil) | (apply c_seq) | (apply e_then) | (apply c_region) | (apply w_off; apply Eq.refl; apply Eq.refl) | (apply c_cond_f; apply Eq.refl) | (apply c_skip) | (apply c_ret))
    exact r_ret1 Try.results62 rfl ⟨congrArg (Value.int .i64) (by rw [metaErr, metaOk, h1]; rfl), hbel⟩


theorem rfind_ok (vl : Value) (l : List En) (p : ByteArray) (w : World) (B : Nat) (h : Ens w B vl l) (hl : l.length ≤ 1000000) :
    Ret Try.prog 26 [vl, .string p] w fun v w' => w' = w ∧ v = (match findF p l 0 with | some i => .tuple #[.int .i64 (i : Int), .bool true] | none => .tuple #[.int .i64 0, .bool false]) := by
  obtain ⟨A1, c1, rfl, hc1, hA1⟩ := h.out
  refine calls_in Try.func26 rfl Try.ntmps26 rfl ?_
  repeat (first | (apply w_op; (first | (apply p_asI; apply Eq.refl) | (apply p_asB; apply Eq.refl)); apply Eq.refl) | (apply w_nil) | (apply c_seq) | (apply e_then) | (apply c_region) | (apply c_block))
  refine c_loop [6] [4, 5, 7, 8, 9, 10, 11, 12, 13, 14, 15, 16, 17, 18, 19, 20] (fun vs w2 => w2 = w ∧ ∃ k : Nat, vs = [.int .i64 (k : Int)] ∧ k ≤ l.length ∧ findF p l 0 = findF p (l.drop k) k) (fun vs _ => l.length - (intOf (vs.headD undef)).toNat) rfl
    ⟨rfl, 0, rfl, Nat.zero_le _, by simp⟩ ?_
  rintro _ u w2 ⟨rfl, k, rfl, hk, hfind⟩
  repeat (first | (apply w_op; (first | (apply p_mvI; apply Eq.refl) | (apply p_mvL; apply Eq.refl) | (apply p_lss; apply Eq.refl; apply Eq.refl) | (apply p_len_sl; apply Eq.refl)); apply Eq.refl) | (apply w_nil) | (apply c_seq) | (apply e_then) | (apply c_region))
  refine c_cond rfl (fun g => ?_) (fun g => ?_)
  · have hlt := of_decide_eq_true g
    have hk1 : k < l.length := by omega
    obtain ⟨ad, rfl, hblk, hcel⟩ := h.at_ rfl hk1
    rw [List.drop_eq_getElem_cons hk1] at hfind
    simp only [findF] at hfind
    repeat (first | (apply w_op; (first | (apply p_mvI; apply Eq.refl) | (apply p_mvL; apply Eq.refl) | (apply p_fieldAddr; apply Eq.refl) | (apply p_indexAddr; apply Eq.refl; apply Eq.refl; apply Eq.refl; omega)); apply Eq.refl) | (apply c_seq) | (apply e_then) | (apply c_region) | (apply c_block) | (apply c_skip))
    refine w_op (p_loadF (j := 0) (v := .string l[k].path) rfl hcel rfl) rfl ?_
    repeat (first | (apply w_op; (first | (apply p_mvS; apply Eq.refl) | (apply p_seql; apply Eq.refl; apply Eq.refl)); apply Eq.refl) | (apply w_nil) | (apply e_then))
    refine c_cond rfl (fun q => ?_) (fun q => ?_)
    · have q' := of_decide_eq_true q
      repeat (first | (apply w_op; (first | (apply p_mvI; apply Eq.refl) | (apply p_asI; apply Eq.refl) | (apply p_asB; apply Eq.refl)); apply Eq.refl) | (apply w_nil) | (apply c_seq) | (apply e_then) | (apply c_region) | (apply c_ret) | (apply e_then_ret) | (apply e_bk_ret) | (apply e_lp_ret))
      refine r_ret2 Try.results26 rfl ⟨rfl, ?_⟩
      rw [hfind, if_pos q']; rfl
    · have q' := of_decide_eq_false q
      repeat (first | (apply w_op; (first | (apply p_mvI; apply Eq.refl) | (apply p_asI; apply Eq.refl) | (apply p_add64; apply Eq.refl; apply Eq.refl; omega)); apply Eq.refl) | (apply w_nil) | (apply e_then) | (apply c_region) | (apply c_skip) | (apply e_bk))
      refine e_lp (by repeat (first | exact Over.base | exact Over.refl | refine Over.put rfl ?_ | refine Over.cnP rfl ?_ | refine Over.zpP rfl ?_)) ?_
      refine ⟨⟨rfl, k + 1, rfl, by omega, by rw [hfind, if_neg q']⟩, ?_⟩
      show l.length - ((k : Int) + 1).toNat < l.length - ((k : Int)).toNat
      omega
  · have hge := of_decide_eq_false g
    obtain rfl : k = l.length := by omega
    repeat (first | (apply w_op; (first | (apply p_asI; apply Eq.refl) | (apply p_asB; apply Eq.refl)); apply Eq.refl) | (apply w_nil) | (apply c_seq) | (apply e_then) | (apply c_region) | (apply c_ret) | (apply c_exit) | (apply e_then_exit) | (apply e_bk_same) | (apply e_lp_exit))
    refine r_ret2 Try.results26 rfl ⟨rfl, ?_⟩
    rw [hfind]
    simp [findF]
    exact ⟨rfl, rfl⟩
end Go.Proofs.Ytjcbnohnilffoaa
