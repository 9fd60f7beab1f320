/- THE WALKS of packages meta and flist. -/
import Derived.Test.YtjcbnohnilffoaaRules
import Derived.Test.YtjcbnohnilffoaaMap
import Derived.Test.YtjcbnohnilffoaaFl
set_option linter.unusedVariables false
namespace Go.Proofs.Ytjcbnohnilffoaa
open Go.RowKit

def enMt (m : Mt) : List Value := [.int .i64 m.mode, .int .i64 m.sec, .int .i64 m.nano, .int .i64 m.uid, .int .i64 m.gid]
def enE (e : En) : List Value := .string e.path :: .int .i64 e.kind :: .int .i64 e.size :: (enMt e.meta_ ++ [.string e.target, .string e.sum, .int .i64 e.group])
abbrev Ens (w : World) (B : Nat) (v : Value) (l : List En) : Prop := Sl enE 11 w B v l

theorem in_ok (x a b : Int) (w : World) : Ret Try.prog 53 [.int .i64 x, .int .i64 a, .int .i64 b] w fun v w' => w' = w ∧ v = .bool (inR x a b) := by
  refine calls_in Try.func53 rfl Try.ntmps53 rfl ?_
  repeat (first | (apply w_op; (first | (apply p_mvI; apply Eq.refl) | (apply p_mvB; apply Eq.refl) | (apply p_asB; apply Eq.refl) | (apply p_geq; apply Eq.refl; apply Eq.refl)); apply Eq.refl) | (apply w_nil) | (apply c_seq) | (apply e_then) | (apply c_region))
  refine w_bool 10 rfl (fun h => ?_) (fun h => ?_)
  · repeat (first | (apply w_op; (first | (apply p_mvI; apply Eq.refl) | (apply p_asB; apply Eq.refl) | (apply p_leq; apply Eq.refl; apply Eq.refl) | (apply p_pick_t; apply Eq.refl; apply Eq.refl)); apply Eq.refl) | (apply w_nil) | (apply e_then) | (apply w_on; apply Eq.refl) | (apply c_ret))
    exact r_ret1 Try.results53 rfl ⟨rfl, congrArg Value.bool (by rw [inR, h]; rfl)⟩
  · repeat (first | (apply w_op; (first | (apply p_asB; apply Eq.refl) | (apply p_pick_f; apply Eq.refl; apply Eq.refl)); apply Eq.refl) | (apply w_nil) | (apply e_then) | (apply w_off; apply Eq.refl; apply Eq.refl) | (apply c_ret))
    exact r_ret1 Try.results53 rfl ⟨rfl, congrArg Value.bool (by rw [inR, h]; rfl)⟩

theorem metaCheck_ok (m : Mt) (w : World) : Ret Try.prog 41 [.agg (enMt m).toArray] w fun v w' => v = .int .i64 (metaErr m) ∧ Below w.heap.size w w' := by
  refine calls_in Try.func41 rfl Try.ntmps41 rfl ?_
  refine c_seq (c_region (w_box rfl rfl (fun b w1 hn => ?_)))
  have hb := hn.blk.obj0
  have hbel := hn.below (Below.refl _ _) (Nat.le_refl _)
  repeat (first | (apply w_op; (first | (apply p_mvF; apply Eq.refl) | (apply p_asI; apply Eq.refl) | (apply p_asF; apply Eq.refl) | (apply p_fieldAddr; apply Eq.refl)); apply Eq.refl) | (apply w_nil) | (apply c_seq) | (apply e_then) | (apply c_region))
  refine w_op (p_load0 (v := .int .i64 m.mode) rfl (by rw [addr_add_zero]; exact hb) rfl) rfl ?_
  refine w_callv (first := #[]) (captured := #[]) rfl cl53 (in_ok _ _ _ _) rfl ?_
  rintro v w2 ⟨rfl, rfl⟩
  repeat (apply w_op; (apply p_mvB; apply Eq.refl); apply Eq.refl)
  refine w_bool 8 rfl (fun h1 => ?_) (fun h1 => ?_)
  · repeat (first | (apply w_op; (first | (apply p_mvF; apply Eq.refl) | (apply p_fieldAddr; apply Eq.refl)); apply Eq.refl) | (apply w_on; apply Eq.refl))
    refine w_op (p_loadF (j := 1) (v := .int .i64 m.sec) rfl hb rfl) rfl ?_
    repeat (apply w_on; apply Eq.refl)
    refine w_callv (first := #[]) (captured := #[]) rfl cl53 (in_ok _ _ _ _) rfl ?_
    rintro v w2 ⟨rfl, rfl⟩
    repeat (apply w_op; (first | (apply p_mvB; apply Eq.refl) | (apply p_pick_t; apply Eq.refl; apply Eq.refl)); apply Eq.refl)
    refine w_bool 14 rfl (fun h2 => ?_) (fun h2 => ?_)
    · repeat (first | (apply w_op; (first | (apply p_mvF; apply Eq.refl) | (apply p_fieldAddr; apply Eq.refl)); apply Eq.refl) | (apply w_on; apply Eq.refl))
      refine w_op (p_loadF (j := 2) (v := .int .i64 m.nano) rfl hb rfl) rfl ?_
      repeat (apply w_on; apply Eq.refl)
      refine w_callv (first := #[]) (captured := #[]) rfl cl53 (in_ok _ _ _ _) rfl ?_
      rintro v w2 ⟨rfl, rfl⟩
      repeat (apply w_op; (first | (apply p_mvB; apply Eq.refl) | (apply p_pick_t; apply Eq.refl; apply Eq.refl)); apply Eq.refl)
      refine w_bool 20 rfl (fun h3 => ?_) (fun h3 => ?_)
      · repeat (first | (apply w_op; (first | (apply p_mvF; apply Eq.refl) | (apply p_fieldAddr; apply Eq.refl)); apply Eq.refl) | (apply w_on; apply Eq.refl))
        refine w_op (p_loadF (j := 3) (v := .int .i64 m.uid) rfl hb rfl) rfl ?_
        repeat (apply w_on; apply Eq.refl)
        refine w_callv (first := #[]) (captured := #[]) rfl cl53 (in_ok _ _ _ _) rfl ?_
        rintro v w2 ⟨rfl, rfl⟩
        repeat (apply w_op; (first | (apply p_mvB; apply Eq.refl) | (apply p_pick_t; apply Eq.refl; apply Eq.refl)); apply Eq.refl)
        refine w_bool 26 rfl (fun h4 => ?_) (fun h4 => ?_)
        · repeat (first | (apply w_op; (first | (apply p_mvF; apply Eq.refl) | (apply p_fieldAddr; apply Eq.refl)); apply Eq.refl) | (apply w_on; apply Eq.refl))
          refine w_op (p_loadF (j := 4) (v := .int .i64 m.gid) rfl hb rfl) rfl ?_
          repeat (apply w_on; apply Eq.refl)
          refine w_callv (first := #[]) (captured := #[]) rfl cl53 (in_ok _ _ _ _) rfl ?_
          rintro v w2 ⟨rfl, rfl⟩
          repeat (first | (apply w_op; (apply p_pick_t; apply Eq.refl; apply Eq.refl); apply Eq.refl) | (apply w_nil) | (apply e_then))
          refine c_cond rfl (fun h5 => ?_) (fun h5 => ?_)
          · repeat (first | (apply w_op; (apply p_asI; apply Eq.refl); apply Eq.refl) | (apply w_nil) | (apply c_seq) | (apply e_then) | (apply c_region) | (apply c_ret) | (apply e_then_ret))
            exact r_ret1 Try.results41 rfl ⟨congrArg (Value.int .i64) (by rw [metaErr, metaOk, h1, h2, h3, h4, h5]; rfl), hbel⟩
          · repeat (first | (apply w_op; (apply p_asI; apply Eq.refl); apply Eq.refl) | (apply w_nil) | (apply c_seq) | (apply e_then) | (apply c_region) | (apply c_skip) | (apply c_ret))
            exact r_ret1 Try.results41 rfl ⟨congrArg (Value.int .i64) (by rw [metaErr, metaOk, h1, h2, h3, h4, h5]; rfl), hbel⟩
        · repeat (first | (apply w_op; (first | (apply p_asI; apply Eq.refl) | (apply p_pick_f; apply Eq.refl; apply Eq.refl)); apply Eq.refl) | (apply w_nil) | (apply c_seq) | (apply e_then) | (apply c_region) | (apply w_off; apply Eq.refl; apply Eq.refl) | (apply c_cond_f; apply Eq.refl) | (apply c_skip) | (apply c_ret))
          exact r_ret1 Try.results41 rfl ⟨congrArg (Value.int .i64) (by rw [metaErr, metaOk, h1, h2, h3, h4]; rfl), hbel⟩
      · repeat (first | (apply w_op; (first | (apply p_mvB; apply Eq.refl) | (apply p_asI; apply Eq.refl) | (apply p_pick_f; apply Eq.refl; apply Eq.refl)); apply Eq.refl) | (apply w_nil) | (apply c_seq) | (apply e_then) | (apply c_region) | (apply w_off; apply Eq.refl; apply Eq.refl) | (apply c_cond_f; apply Eq.refl) | (apply c_skip) | (apply c_ret))
        exact r_ret1 Try.results41 rfl ⟨congrArg (Value.int .i64) (by rw [metaErr, metaOk, h1, h2, h3]; rfl), hbel⟩
    · repeat (first | (apply w_op; (first | (apply p_mvB; apply Eq.refl) | (apply p_asI; apply Eq.refl) | (apply p_pick_f; apply Eq.refl; apply Eq.refl)); apply Eq.refl) | (apply w_nil) | (apply c_seq) | (apply e_then) | (apply c_region) | (apply w_off; apply Eq.refl; apply Eq.refl) | (apply c_cond_f; apply Eq.refl) | (apply c_skip) | (apply c_ret))
      exact r_ret1 Try.results41 rfl ⟨congrArg (Value.int .i64) (by rw [metaErr, metaOk, h1, h2]; rfl), hbel⟩
  · repeat (first | (apply w_op; (first | (apply p_mvB; apply Eq.refl) | (apply p_asI; apply Eq.refl) | (apply p_pick_f; apply Eq.refl; apply Eq.refl)); apply Eq.refl) | (apply w_nil) | (apply c_seq) | (apply e_then) | (apply c_region) | (apply w_off; apply Eq.refl; apply Eq.refl) | (apply c_cond_f; apply Eq.refl) | (apply c_skip) | (apply c_ret))
    exact r_ret1 Try.results41 rfl ⟨congrArg (Value.int .i64) (by rw [metaErr, metaOk, h1]; rfl), hbel⟩

set_option maxRecDepth 100000 in
theorem alone_ok (e : En) (w : World) (hp : e.path.size ≤ 1099511627775) (ht : e.target.size ≤ 1099511627775) (hs : e.sum.size ≤ 1099511627775) : Ret Try.prog 27 [.agg (enE e).toArray] w fun v w' => v = .int .i64 (aloneErr e) ∧ Below w.heap.size w w' := by
  refine calls_in Try.func27 rfl Try.ntmps27 rfl ?_
  refine c_seq (c_region (w_box rfl rfl (fun b w1 hn => ?_)))
  have hb := hn.blk.obj0
  have hbel := hn.below (Below.refl _ _) (Nat.le_refl _)
  have hlt := hn.blk.lt
  repeat (first | (apply w_op; (first | (apply p_asI; apply Eq.refl) | (apply p_fieldAddr; apply Eq.refl)); apply Eq.refl) | (apply w_nil) | (apply c_seq) | (apply e_then) | (apply c_region))
  refine w_op (p_load0 (v := .string e.path) rfl (by rw [addr_add_zero]; exact hb) rfl) rfl ?_
  refine w_call cl30 (right_ok e.path _ hp) rfl ?_
  rintro v w2 ⟨rfl, hb2⟩
  have hbel2 := hbel.trans (hb2.mono hbel.size)
  have hc2 := hb.below hb2 hlt
  have hlt2 : b < w2.heap.size := Nat.lt_of_lt_of_le hlt hb2.size
  repeat (apply w_op; (first | (apply p_mvB; apply Eq.refl) | (apply p_not; apply Eq.refl)); apply Eq.refl)
  refine w_bool 10 rfl (fun h1 => ?_) (fun h1 => ?_)
  · have h1' : right e.path = false := by simpa using h1
    repeat (first | (apply w_op; (first | (apply p_asI; apply Eq.refl) | (apply p_pick_t; apply Eq.refl; apply Eq.refl)); apply Eq.refl) | (apply w_nil) | (apply c_seq) | (apply e_then) | (apply c_region) | (apply w_off; apply Eq.refl; apply Eq.refl) | (apply c_cond_t; apply Eq.refl) | (apply c_ret) | (apply e_then_ret))
    exact r_ret1 Try.results27 rfl ⟨congrArg (Value.int .i64) (by rw [aloneErr, if_pos (.inl h1')]), hbel2⟩
  · have h1' : ¬ right e.path = false := by simpa using h1
    repeat (first | (apply w_op; (apply p_fieldAddr; apply Eq.refl); apply Eq.refl) | (apply w_on; apply Eq.refl))
    refine w_op (p_load0 (v := .string e.path) rfl (by rw [addr_add_zero]; exact hc2) rfl) rfl ?_
    repeat (first | (apply w_op; (first | (apply p_seql; apply Eq.refl; apply Eq.refl) | (apply p_pick_f; apply Eq.refl; apply Eq.refl)); apply Eq.refl) | (apply w_nil) | (apply e_then) | (apply w_on; apply Eq.refl))
    refine c_cond rfl (fun h2 => ?_) (fun h2 => ?_)
    · have h2' := of_decide_eq_true h2
      repeat (first | (apply w_op; (apply p_asI; apply Eq.refl); apply Eq.refl) | (apply w_nil) | (apply c_seq) | (apply e_then) | (apply c_region) | (apply c_ret) | (apply e_then_ret))
      exact r_ret1 Try.results27 rfl ⟨congrArg (Value.int .i64) (by rw [aloneErr, if_pos (.inr h2')]), hbel2⟩
    · have h2' := of_decide_eq_false h2
      have hA : aloneErr e = if kindBad e then 17 else if bad1 e then 2 else if bad2 e then 2 else if bad3 e then 2 else 0 := by rw [aloneErr, if_neg (by rintro (q | q); exact h1' q; exact h2' q)]
      repeat (first | (apply c_seq) | (apply e_then) | (apply c_skip))
      refine c_quiet (fun x => Below w2.heap.size w2 x) mixed (by kernel_rfl) (Below.refl _ _).drew ?_
      repeat (apply q_op; intro _ hC; (apply p_fieldAddr; apply Eq.refl); apply Eq.refl)
      refine q_op (fun x hx => p_loadF (j := 1) (v := .int .i64 e.kind) rfl (hc2.below hx hlt2) rfl) rfl ?_
      repeat (apply q_op; intro _ hC; (first | (apply p_fieldAddr; apply Eq.refl) | (apply p_eql; apply Eq.refl; apply Eq.refl)); apply Eq.refl)
      refine q_op (fun x hx => p_loadF (j := 1) (v := .int .i64 e.kind) rfl (hc2.below hx hlt2) rfl) rfl ?_
      repeat (apply q_op; intro _ hC; (first | (apply p_asB; apply Eq.refl) | (apply p_eql; apply Eq.refl; apply Eq.refl)); apply Eq.refl)
      refine q_nil (fun w3 hb3 => ?_)
      have hbel3 := hbel2.trans (hb3.mono hbel2.size)
      have hc3 := hc2.below hb3 hlt2
      have hlt3 : b < w3.heap.size := Nat.lt_of_lt_of_le hlt2 hb3.size
      repeat (first | (apply w_op; (first | (apply p_mvB; apply Eq.refl) | (apply p_not; apply Eq.refl)); apply Eq.refl) | (apply c_seq) | (apply e_then) | (apply c_region))
      refine w_cut1 [31] [23, 24, 25, 26, 27, 28, 29, 30] (fun vs w4 => w4 = w3 ∧ vs = [.bool (kindBad e)]) ?_ ?_
      · refine w_bool 23 rfl (fun g1 => ?_) (fun g1 => ?_)
        · repeat (first | (apply w_op; (first | (apply p_mvB; apply Eq.refl) | (apply p_not; apply Eq.refl) | (apply p_pick_t; apply Eq.refl; apply Eq.refl)); apply Eq.refl) | (apply w_on; apply Eq.refl))
          refine w_bool 27 rfl (fun g2 => ?_) (fun g2 => ?_)
          · repeat (first | (apply w_op; (apply p_fieldAddr; apply Eq.refl); apply Eq.refl) | (apply w_on; apply Eq.refl))
            refine w_op (p_loadF (j := 1) (v := .int .i64 e.kind) rfl hc3 rfl) rfl ?_
            repeat (first | (apply w_op; (first | (apply p_neq; apply Eq.refl; apply Eq.refl) | (apply p_pick_t; apply Eq.refl; apply Eq.refl)); apply Eq.refl) | (apply w_nil) | (apply w_on; apply Eq.refl))
            refine e_ct (by repeat (first | exact Over.base | exact Over.refl | refine Over.put rfl ?_ | refine Over.cnP rfl ?_ | refine Over.zpP rfl ?_)) ?_
            refine ⟨rfl, ?_⟩
            rw [kindBad, g1, g2]; rfl
          · repeat (first | (apply w_op; (apply p_pick_f; apply Eq.refl; apply Eq.refl); apply Eq.refl) | (apply w_nil) | (apply w_off; apply Eq.refl; apply Eq.refl))
            refine e_ct (by repeat (first | exact Over.base | exact Over.refl | refine Over.put rfl ?_ | refine Over.cnP rfl ?_ | refine Over.zpP rfl ?_)) ?_
            refine ⟨rfl, ?_⟩
            rw [kindBad, g1, g2]; rfl
        · repeat (first | (apply w_op; (first | (apply p_mvB; apply Eq.refl) | (apply p_pick_f; apply Eq.refl; apply Eq.refl)); apply Eq.refl) | (apply w_nil) | (apply w_off; apply Eq.refl; apply Eq.refl))
          refine e_ct (by repeat (first | exact Over.base | exact Over.refl | refine Over.put rfl ?_ | refine Over.cnP rfl ?_ | refine Over.zpP rfl ?_)) ?_
          refine ⟨rfl, ?_⟩
          rw [kindBad, g1]; rfl
      · rintro _ u4 w4 ⟨rfl, rfl⟩
        skip
        refine c_cond rfl (fun g1 => ?_) (fun g1 => ?_)
        · repeat (first | (apply w_op; (apply p_asI; apply Eq.refl); apply Eq.refl) | (apply w_nil) | (apply c_seq) | (apply e_then) | (apply c_region) | (apply c_ret) | (apply e_then_ret))
          exact r_ret1 Try.results27 rfl ⟨congrArg (Value.int .i64) (by rw [hA, if_pos g1]), hbel3⟩
        · rw [if_neg (by simp [g1])] at hA
          repeat (first | (apply w_op; (first | (apply p_asI; apply Eq.refl) | (apply p_fieldAddr; apply Eq.refl)); apply Eq.refl) | (apply w_nil) | (apply c_seq) | (apply e_then) | (apply c_region) | (apply c_skip))
          refine w_op (p_loadF (j := 1) (v := .int .i64 e.kind) rfl hc3 rfl) rfl ?_
          refine w_cut2 [5] [34] (fun vs w5 => w5 = w4 ∧ vs = [.int .i64 (mostOf e)]) ?_ ?_
          · repeat (first | (apply w_op; (apply p_eql; apply Eq.refl; apply Eq.refl); apply Eq.refl) | (apply w_nil) | (apply e_then))
            refine c_cond rfl (fun g2 => ?_) (fun g2 => ?_)
            · repeat (first | (apply w_op; (apply p_asI; apply Eq.refl); apply Eq.refl) | (apply w_nil) | (apply c_region))
              refine e_ct (by repeat (first | exact Over.base | exact Over.refl | refine Over.put rfl ?_ | refine Over.cnP rfl ?_ | refine Over.zpP rfl ?_)) ?_
              refine ⟨rfl, ?_⟩
              rw [mostOf, if_pos (of_decide_eq_true g2)]; rfl
            · repeat (apply c_skip)
              refine e_ct (by repeat (first | exact Over.base | exact Over.refl | refine Over.put rfl ?_ | refine Over.cnP rfl ?_ | refine Over.zpP rfl ?_)) ?_
              refine ⟨rfl, ?_⟩
              rw [mostOf, if_neg (of_decide_eq_false g2)]; rfl
          · rintro _ u5 w5 ⟨rfl, rfl⟩
            repeat (first | (apply w_op; (apply p_fieldAddr; apply Eq.refl); apply Eq.refl) | (apply c_seq) | (apply c_region) | (apply c_block))
            refine w_cut2 [35] [37, 38, 39, 40, 41, 42, 43, 44, 45, 46, 47, 48, 49, 50, 51, 52, 53] (fun vs w6 => vs = [.bool (bad1 e)] ∧ Below w5.heap.size w5 w6) ?_ ?_
            · refine w_op (p_loadS (cs := enMt e.meta_) rfl (hc3.sub 3 5) rfl) rfl ?_
              refine w_call cl41 (metaCheck_ok e.meta_ _) rfl ?_
              rintro v w6 ⟨rfl, hb6⟩
              have hc6 := hc3.below hb6 hlt3
              repeat (first | (apply w_op; (first | (apply p_asB; apply Eq.refl) | (apply p_neq; apply Eq.refl; apply Eq.refl)); apply Eq.refl) | (apply w_nil) | (apply e_then))
              refine c_cond rfl (fun g2 => ?_) (fun g2 => ?_)
              · repeat (apply c_skip)
                refine e_ct (by repeat (first | exact Over.base | exact Over.refl | refine Over.put rfl ?_ | refine Over.cnP rfl ?_ | refine Over.zpP rfl ?_)) ?_
                refine ⟨?_, hb6⟩
                show [Value.bool _] = _
                rw [bad1, g2]; rfl
              · repeat (first | (apply w_op; (apply p_fieldAddr; apply Eq.refl); apply Eq.refl) | (apply c_seq) | (apply c_region))
                refine w_op (p_loadF (j := 2) (v := .int .i64 e.size) rfl hc6 rfl) rfl ?_
                repeat (first | (apply w_op; (first | (apply p_asB; apply Eq.refl) | (apply p_lss; apply Eq.refl; apply Eq.refl)); apply Eq.refl) | (apply w_nil) | (apply e_then))
                refine c_cond rfl (fun g3 => ?_) (fun g3 => ?_)
                · repeat (apply c_skip)
                  refine e_ct (by repeat (first | exact Over.base | exact Over.refl | refine Over.put rfl ?_ | refine Over.cnP rfl ?_ | refine Over.zpP rfl ?_)) ?_
                  refine ⟨?_, hb6⟩
                  show [Value.bool (decide (e.size < 0))] = _
                  rw [bad1, g2, g3]; rfl
                · repeat (first | (apply w_op; (apply p_fieldAddr; apply Eq.refl); apply Eq.refl) | (apply c_seq) | (apply c_region))
                  refine w_op (p_loadF (j := 2) (v := .int .i64 e.size) rfl hc6 rfl) rfl ?_
                  repeat (first | (apply w_op; (first | (apply p_mvI; apply Eq.refl) | (apply p_asB; apply Eq.refl) | (apply p_gtr; apply Eq.refl; apply Eq.refl)); apply Eq.refl) | (apply w_nil) | (apply e_then))
                  refine c_cond rfl (fun g4 => ?_) (fun g4 => ?_)
                  · repeat (apply c_skip)
                    refine e_ct (by repeat (first | exact Over.base | exact Over.refl | refine Over.put rfl ?_ | refine Over.cnP rfl ?_ | refine Over.zpP rfl ?_)) ?_
                    refine ⟨?_, hb6⟩
                    show [Value.bool (decide (mostOf e < e.size))] = _
                    rw [bad1, g2, g3, g4]; rfl
                  · repeat (first | (apply w_op; (first | (apply p_mvB; apply Eq.refl) | (apply p_not; apply Eq.refl)); apply Eq.refl) | (apply c_region))
                    refine w_bool 49 rfl (fun g5 => ?_) (fun g5 => ?_)
                    · repeat (first | (apply w_op; (apply p_fieldAddr; apply Eq.refl); apply Eq.refl) | (apply w_on; apply Eq.refl))
                      refine w_op (p_loadF (j := 8) (v := .string e.target) rfl hc6 rfl) rfl ?_
                      repeat (first | (apply w_op; (first | (apply p_asB; apply Eq.refl) | (apply p_sneq; apply Eq.refl; apply Eq.refl) | (apply p_pick_t; apply Eq.refl; apply Eq.refl)); apply Eq.refl) | (apply w_nil) | (apply w_on; apply Eq.refl))
                      refine e_ct (by repeat (first | exact Over.base | exact Over.refl | refine Over.put rfl ?_ | refine Over.cnP rfl ?_ | refine Over.zpP rfl ?_)) ?_
                      refine ⟨?_, hb6⟩
                      show [Value.bool (!decide (e.target = noB))] = _
                      rw [bad1, g2, g3, g4, g5]; rfl
                    · repeat (first | (apply w_op; (first | (apply p_asB; apply Eq.refl) | (apply p_pick_f; apply Eq.refl; apply Eq.refl)); apply Eq.refl) | (apply w_nil) | (apply w_off; apply Eq.refl; apply Eq.refl))
                      refine e_ct (by repeat (first | exact Over.base | exact Over.refl | refine Over.put rfl ?_ | refine Over.cnP rfl ?_ | refine Over.zpP rfl ?_)) ?_
                      refine ⟨?_, hb6⟩
                      show [Value.bool false] = _
                      rw [bad1, g2, g3, g4, g5]; rfl
            · rintro _ u6 w6 ⟨rfl, hb6⟩
              have hc6 := hc3.below hb6 hlt3
              have hbel6 := hbel3.trans (hb6.mono hbel3.size)
              skip
              refine c_cond rfl (fun g2 => ?_) (fun g2 => ?_)
              · repeat (first | (apply w_op; (apply p_asI; apply Eq.refl); apply Eq.refl) | (apply w_nil) | (apply c_seq) | (apply e_then) | (apply c_region) | (apply c_ret) | (apply e_then_ret) | (apply e_bk_ret))
                exact r_ret1 Try.results27 rfl ⟨congrArg (Value.int .i64) (by rw [hA, if_pos g2]), hbel6⟩
              · rw [if_neg (by simp [g2])] at hA
                repeat (first | (apply w_op; (apply p_mvB; apply Eq.refl); apply Eq.refl) | (apply c_seq) | (apply c_region))
                refine w_cut1 [54] [56, 57, 58, 59, 60, 61, 62, 63, 64, 65, 66, 67, 68, 69, 70, 71, 72, 73, 74] (fun vs w7 => vs = [.bool (bad2 e)] ∧ w7 = w6) ?_ ?_
                · refine w_bool 56 rfl (fun g3 => ?_) (fun g3 => ?_)
                  · repeat (first | (apply w_op; (apply p_fieldAddr; apply Eq.refl); apply Eq.refl) | (apply w_on; apply Eq.refl))
                    refine w_op (p_loadF (j := 8) (v := .string e.target) rfl hc6 rfl) rfl ?_
                    repeat (first | (apply w_op; (first | (apply p_mvB; apply Eq.refl) | (apply p_seql; apply Eq.refl; apply Eq.refl)); apply Eq.refl) | (apply w_on; apply Eq.refl))
                    refine w_bool 60 rfl (fun g4 => ?_) (fun g4 => ?_)
                    · repeat (first | (apply w_op; (first | (apply p_mvB; apply Eq.refl) | (apply p_asB; apply Eq.refl) | (apply p_pick_t; apply Eq.refl; apply Eq.refl)); apply Eq.refl) | (apply w_nil) | (apply w_on; apply Eq.refl) | (apply w_off; apply Eq.refl; apply Eq.refl))
                      refine e_ct (by repeat (first | exact Over.base | exact Over.refl | refine Over.put rfl ?_ | refine Over.cnP rfl ?_ | refine Over.zpP rfl ?_)) ?_
                      refine ⟨?_, rfl⟩
                      show [Value.bool true] = _
                      rw [bad2, g3, g4]; rfl
                    · repeat (first | (apply w_op; (apply p_fieldAddr; apply Eq.refl); apply Eq.refl) | (apply w_on; apply Eq.refl))
                      refine w_op (p_loadF (j := 8) (v := .string e.target) rfl hc6 rfl) rfl ?_
                      repeat (first | (apply w_op; (first | (apply p_mvB; apply Eq.refl) | (apply p_gtr; apply Eq.refl; apply Eq.refl) | (apply p_len_str; apply Eq.refl) | (apply p_pick_f; apply Eq.refl; apply Eq.refl)); apply Eq.refl) | (apply w_on; apply Eq.refl))
                      refine w_bool 66 rfl (fun g5 => ?_) (fun g5 => ?_)
                      · repeat (first | (apply w_op; (first | (apply p_asB; apply Eq.refl) | (apply p_pick_t; apply Eq.refl; apply Eq.refl)); apply Eq.refl) | (apply w_nil) | (apply w_on; apply Eq.refl) | (apply w_off; apply Eq.refl; apply Eq.refl))
                        refine e_ct (by repeat (first | exact Over.base | exact Over.refl | refine Over.put rfl ?_ | refine Over.cnP rfl ?_ | refine Over.zpP rfl ?_)) ?_
                        refine ⟨?_, rfl⟩
                        show [Value.bool true] = _
                        rw [bad2, g3, g4, g5]; rfl
                      · repeat (first | (apply w_op; (apply p_fieldAddr; apply Eq.refl); apply Eq.refl) | (apply w_on; apply Eq.refl))
                        refine w_op (p_loadF (j := 2) (v := .int .i64 e.size) rfl hc6 rfl) rfl ?_
                        repeat (first | (apply w_op; (apply p_fieldAddr; apply Eq.refl); apply Eq.refl) | (apply w_on; apply Eq.refl))
                        refine w_op (p_loadF (j := 8) (v := .string e.target) rfl hc6 rfl) rfl ?_
                        repeat (first | (apply w_op; (first | (apply p_asB; apply Eq.refl) | (apply p_neq; apply Eq.refl; apply Eq.refl) | (apply p_len_str; apply Eq.refl) | (apply p_pick_t; apply Eq.refl; apply Eq.refl) | (apply p_pick_f; apply Eq.refl; apply Eq.refl)); apply Eq.refl) | (apply w_nil) | (apply w_on; apply Eq.refl))
                        refine e_ct (by repeat (first | exact Over.base | exact Over.refl | refine Over.put rfl ?_ | refine Over.cnP rfl ?_ | refine Over.zpP rfl ?_)) ?_
                        refine ⟨?_, rfl⟩
                        show [Value.bool (!decide (e.size = (e.target.size : Int)))] = _
                        rw [bad2, g3, g4, g5]; rfl
                  · repeat (first | (apply w_op; (first | (apply p_asB; apply Eq.refl) | (apply p_pick_f; apply Eq.refl; apply Eq.refl)); apply Eq.refl) | (apply w_nil) | (apply w_off; apply Eq.refl; apply Eq.refl) | (apply w_off2; apply Eq.refl; apply Eq.refl))
                    refine e_ct (by repeat (first | exact Over.base | exact Over.refl | refine Over.put rfl ?_ | refine Over.cnP rfl ?_ | refine Over.zpP rfl ?_)) ?_
                    refine ⟨?_, rfl⟩
                    show [Value.bool false] = _
                    rw [bad2, g3]; rfl
                · rintro _ u7 w7 ⟨rfl, rfl⟩
                  skip
                  refine c_cond rfl (fun g3 => ?_) (fun g3 => ?_)
                  · repeat (first | (apply w_op; (apply p_asI; apply Eq.refl); apply Eq.refl) | (apply w_nil) | (apply c_seq) | (apply e_then) | (apply c_region) | (apply c_ret) | (apply e_then_ret) | (apply e_bk_ret))
                    exact r_ret1 Try.results27 rfl ⟨congrArg (Value.int .i64) (by rw [hA, if_pos g3]), hbel6⟩
                  · rw [if_neg (by simp [g3])] at hA
                    repeat (first | (apply w_op; (apply p_fieldAddr; apply Eq.refl); apply Eq.refl) | (apply c_seq) | (apply c_region))
                    refine w_cut2 [75] [77, 78, 79, 80, 81, 82, 83, 84, 85, 86, 87, 88, 89, 90, 91, 92, 93, 94, 95, 96, 97, 98, 99, 100] (fun vs w8 => vs = [.bool (bad3 e)] ∧ w8 = w7) ?_ ?_
                    · refine w_op (p_loadF (j := 9) (v := .string e.sum) rfl hc6 rfl) rfl ?_
                      refine w_cut1 [75] [78, 79, 80, 81, 82, 83, 84, 85, 86, 87, 88] (fun vs w8 => vs = [.bool (!decide (e.sum = noB) && (!decide (e.kind = 1) || !decide ((e.sum.size : Int) = 32)))] ∧ w8 = w7) ?_ ?_
                      · repeat (apply w_op; (first | (apply p_mvB; apply Eq.refl) | (apply p_sneq; apply Eq.refl; apply Eq.refl)); apply Eq.refl)
                        refine w_bool 79 rfl (fun g4 => ?_) (fun g4 => ?_)
                        · repeat (first | (apply w_op; (first | (apply p_mvB; apply Eq.refl) | (apply p_not; apply Eq.refl)); apply Eq.refl) | (apply w_on; apply Eq.refl))
                          refine w_bool 82 rfl (fun g5 => ?_) (fun g5 => ?_)
                          · repeat (first | (apply w_op; (first | (apply p_asB; apply Eq.refl) | (apply p_pick_t; apply Eq.refl; apply Eq.refl)); apply Eq.refl) | (apply w_nil) | (apply w_on; apply Eq.refl) | (apply w_off; apply Eq.refl; apply Eq.refl))
                            refine e_ct (by repeat (first | exact Over.base | exact Over.refl | refine Over.put rfl ?_ | refine Over.cnP rfl ?_ | refine Over.zpP rfl ?_)) ?_
                            refine ⟨?_, rfl⟩
                            rw [g4, g5]; rfl
                          · repeat (first | (apply w_op; (apply p_fieldAddr; apply Eq.refl); apply Eq.refl) | (apply w_on; apply Eq.refl))
                            refine w_op (p_loadF (j := 9) (v := .string e.sum) rfl hc6 rfl) rfl ?_
                            repeat (first | (apply w_op; (first | (apply p_asB; apply Eq.refl) | (apply p_neq; apply Eq.refl; apply Eq.refl) | (apply p_len_str; apply Eq.refl) | (apply p_pick_t; apply Eq.refl; apply Eq.refl) | (apply p_pick_f; apply Eq.refl; apply Eq.refl)); apply Eq.refl) | (apply w_nil) | (apply w_on; apply Eq.refl))
                            refine e_ct (by repeat (first | exact Over.base | exact Over.refl | refine Over.put rfl ?_ | refine Over.cnP rfl ?_ | refine Over.zpP rfl ?_)) ?_
                            refine ⟨?_, rfl⟩
                            rw [g4, g5]; rfl
                        · repeat (first | (apply w_op; (first | (apply p_asB; apply Eq.refl) | (apply p_pick_f; apply Eq.refl; apply Eq.refl)); apply Eq.refl) | (apply w_nil) | (apply w_off; apply Eq.refl; apply Eq.refl) | (apply w_off2; apply Eq.refl; apply Eq.refl))
                          refine e_ct (by repeat (first | exact Over.base | exact Over.refl | refine Over.put rfl ?_ | refine Over.cnP rfl ?_ | refine Over.zpP rfl ?_)) ?_
                          refine ⟨?_, rfl⟩
                          rw [g4]; rfl
                      · rintro _ u8 w8 ⟨rfl, rfl⟩
                        skip
                        refine c_cond rfl (fun g4 => ?_) (fun g4 => ?_)
                        · repeat (apply c_skip)
                          refine e_ct (by repeat (first | exact Over.base | exact Over.refl | refine Over.put rfl ?_ | refine Over.cnP rfl ?_ | refine Over.zpP rfl ?_)) ?_
                          refine ⟨?_, rfl⟩
                          show [Value.bool _] = _
                          rw [bad3, g4]; rfl
                        · repeat (first | (apply w_op; (apply p_fieldAddr; apply Eq.refl); apply Eq.refl) | (apply c_region))
                          refine w_op (p_loadF (j := 10) (v := .int .i64 e.group) rfl hc6 rfl) rfl ?_
                          repeat (apply w_op; (first | (apply p_mvB; apply Eq.refl) | (apply p_neq; apply Eq.refl; apply Eq.refl)); apply Eq.refl)
                          refine w_bool 92 rfl (fun g5 => ?_) (fun g5 => ?_)
                          · repeat (first | (apply w_op; (first | (apply p_mvB; apply Eq.refl) | (apply p_not; apply Eq.refl)); apply Eq.refl) | (apply w_on; apply Eq.refl))
                            refine w_bool 95 rfl (fun g6 => ?_) (fun g6 => ?_)
                            · repeat (first | (apply w_op; (first | (apply p_asB; apply Eq.refl) | (apply p_pick_t; apply Eq.refl; apply Eq.refl)); apply Eq.refl) | (apply w_nil) | (apply w_on; apply Eq.refl) | (apply w_off; apply Eq.refl; apply Eq.refl))
                              refine e_ct (by repeat (first | exact Over.base | exact Over.refl | refine Over.put rfl ?_ | refine Over.cnP rfl ?_ | refine Over.zpP rfl ?_)) ?_
                              refine ⟨?_, rfl⟩
                              show [Value.bool true] = _
                              rw [bad3, g4, g5, g6]; rfl
                            · repeat (first | (apply w_op; (apply p_fieldAddr; apply Eq.refl); apply Eq.refl) | (apply w_on; apply Eq.refl))
                              refine w_op (p_loadF (j := 10) (v := .int .i64 e.group) rfl hc6 rfl) rfl ?_
                              repeat (first | (apply w_op; (first | (apply p_asB; apply Eq.refl) | (apply p_lss; apply Eq.refl; apply Eq.refl) | (apply p_pick_t; apply Eq.refl; apply Eq.refl) | (apply p_pick_f; apply Eq.refl; apply Eq.refl)); apply Eq.refl) | (apply w_nil) | (apply w_on; apply Eq.refl))
                              refine e_ct (by repeat (first | exact Over.base | exact Over.refl | refine Over.put rfl ?_ | refine Over.cnP rfl ?_ | refine Over.zpP rfl ?_)) ?_
                              refine ⟨?_, rfl⟩
                              show [Value.bool (decide (e.group < 0))] = _
                              rw [bad3, g4, g5, g6]; rfl
                          · repeat (first | (apply w_op; (first | (apply p_asB; apply Eq.refl) | (apply p_pick_f; apply Eq.refl; apply Eq.refl)); apply Eq.refl) | (apply w_nil) | (apply w_off; apply Eq.refl; apply Eq.refl) | (apply w_off2; apply Eq.refl; apply Eq.refl))
                            refine e_ct (by repeat (first | exact Over.base | exact Over.refl | refine Over.put rfl ?_ | refine Over.cnP rfl ?_ | refine Over.zpP rfl ?_)) ?_
                            refine ⟨?_, rfl⟩
                            show [Value.bool false] = _
                            rw [bad3, g4, g5]; rfl
                    · rintro _ u8 w8 ⟨rfl, rfl⟩
                      skip
                      refine c_cond rfl (fun g4 => ?_) (fun g4 => ?_)
                      · repeat (first | (apply w_op; (apply p_asI; apply Eq.refl); apply Eq.refl) | (apply w_nil) | (apply c_seq) | (apply e_then) | (apply c_region) | (apply c_ret) | (apply e_then_ret) | (apply e_bk_ret))
                        exact r_ret1 Try.results27 rfl ⟨congrArg (Value.int .i64) (by rw [hA, if_pos g4]), hbel6⟩
                      · rw [if_neg (by simp [g4])] at hA
                        repeat (first | (apply w_op; (apply p_asI; apply Eq.refl); apply Eq.refl) | (apply w_nil) | (apply c_seq) | (apply e_then) | (apply c_region) | (apply c_skip) | (apply c_ret) | (apply e_bk))
                        exact r_ret1 Try.results27 rfl ⟨congrArg (Value.int .i64) hA.symm, hbel6⟩
end Go.Proofs.Ytjcbnohnilffoaa
