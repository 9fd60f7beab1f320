/- THE WALK of the document's answer for patterns (remoraref14): Match. -/
import Derived.Test.YtjcbnohnilffoaaRef14c
set_option linter.unusedVariables false
set_option linter.unusedSimpArgs false
namespace Go.Proofs.Ytjcbnohnilffoaa
open Go.RowKit

/-- one place of a row, by the places ahead of it -/
def rowAt (g : G) (s : List UInt8) (row new : Nat → Bool) (j : Nat) : Bool :=
  if g.star then row j || (decide (0 < j) && (new (j - 1) && g.takes (s.getD (j - 1) 0))) else decide (0 < j) && (row (j - 1) && g.takes (s.getD (j - 1) 0))
theorem rowOf_at (g : G) (s : List UInt8) (row : Nat → Bool) (j : Nat) : rowOf g s row j = rowAt g s row (rowOf g s row) j := by
  unfold rowAt
  cases h : g.star with
  | true =>
    have e : rowOf g s row = rowStar g s row := by unfold rowOf; rw [h]; rfl
    rw [e]
    cases j with
    | zero => simp [rowStar]
    | succ j => simp [rowStar]
  | false =>
    have e : rowOf g s row = rowOne g s row := by unfold rowOf; rw [h]; rfl
    rw [e]
    cases j with
    | zero => simp [rowOne]
    | succ j => simp [rowOne]

set_option maxRecDepth 100000 in
theorem rmatch_ok (p s : ByteArray) (w : World) (hs2 : s.size ≤ 1099511627775) : Ret Try.prog 80 [.string p, .string s] w fun v w' => v = .bool (glob p s) ∧ Below w.heap.size w w' := by
  have hls := ls_len s
  refine calls_in Try.func80 rfl Try.ntmps80 rfl ?_
  repeat (first | (apply w_op; (first | (apply p_mvS; apply Eq.refl) | (apply p_asB; apply Eq.refl)); apply Eq.refl) | (apply w_nil) | (apply c_seq) | (apply e_then) | (apply c_region))
  refine w_call cl86 (rgcheck_ok p _) rfl ?_
  rintro v w0 ⟨rfl, hb0⟩
  have z0 := hb0.size
  repeat (first | (apply w_op; (apply p_neq; apply Eq.refl; apply Eq.refl); apply Eq.refl) | (apply w_nil) | (apply e_then))
  refine c_cond rfl (fun h => ?_) (fun h => ?_)
  · have h' : globErr p ≠ 0 := by simpa using h
    repeat (first | (apply w_op; (apply p_asB; apply Eq.refl); apply Eq.refl) | (apply w_nil) | (apply c_seq) | (apply e_then) | (apply c_region) | (apply c_ret) | (apply e_then_ret))
    refine r_ret1 Try.results80 rfl ⟨congrArg Value.bool ?_, hb0⟩
    unfold globErr at h'
    unfold glob
    by_cases hp : p.size ≤ 100
    · rw [if_pos hp] at h' ⊢
      have : patOk p = false := by
        cases hq : patOk p with
        | false => rfl
        | true => rw [hq] at h'; exact absurd rfl h'
      unfold patOk at this
      rw [decide_eq_true hp] at this
      cases hg : globs (lsB p) with
      | none => rfl
      | some gs => rw [hg] at this; cases this
    · rw [if_neg hp]
  · have h' : globErr p = 0 := by simpa using h
    have hp100 : p.size ≤ 100 := by
      unfold globErr at h'
      by_cases hp : p.size ≤ 100
      · exact hp
      · rw [if_neg hp] at h'; exact absurd h' (by decide)
    obtain ⟨gs, hgs⟩ : ∃ gs, globs (lsB p) = some gs := by
      unfold globErr patOk at h'
      rw [if_pos hp100, decide_eq_true hp100] at h'
      cases hg : globs (lsB p) with
      | none => rw [hg] at h'; exact absurd h' (by decide)
      | some gs => exact ⟨gs, rfl⟩
    have hglob : glob p s = pm gs (lsB s) gs.length s.size := by unfold glob; rw [if_pos hp100, hgs]
    have hlen : gs.length ≤ 101 := by
      have := gsF_len _ _ _ hgs
      rw [ls_len] at this
      omega
    repeat (first | (apply w_op; (apply p_mvS; apply Eq.refl); apply Eq.refl) | (apply c_seq) | (apply e_then) | (apply c_region) | (apply c_skip))
    refine w_call cl87 (rsigns_ok p _ hp100) rfl ?_
    rintro v w1 ⟨⟨u, rfl, hsig⟩, hb1⟩
    have z1 := hb1.size
    have hbel1 := hb0.trans (hb1.mono z0)
    have hsl1 : Sl enGR 259 w1 w1.heap.size u gs := Sl.of_own rfl (fun g => enG_len _) (hsig gs hgs)
    clear hsig
    obtain ⟨A1, c1, rfl, hc1, hA1⟩ := hsl1.out
    repeat (first | (apply w_op; (first | (apply p_mvS; apply Eq.refl) | (apply p_mvT; apply Eq.refl) | (apply p_asB; apply Eq.refl) | (apply p_asL; apply Eq.refl) | (apply p_extract; apply Eq.refl; apply Eq.refl) | (apply p_len_str; apply Eq.refl) | (apply p_add64; apply Eq.refl; apply Eq.refl; omega)); apply Eq.refl) | (apply w_nil) | (apply c_seq) | (apply e_then) | (apply c_region))
    refine w_make rfl rfl (by omega) (by omega) rfl (fun b w2 hn2 => ?_)
    have hb2 : Blk w2 b 4 (enBs (fun _ => false) (s.size + 1)) := by
      have := hn2.blk
      rw [show (Value.bool false).cells = #[.bool false] from rfl, made_false] at this
      simpa using this
    have e2 := hn2.hb
    have z2 := hn2.size
    repeat (first | (apply w_op; (first | (apply p_mvL; apply Eq.refl) | (apply p_asL; apply Eq.refl) | (apply p_indexAddr; apply Eq.refl; apply Eq.refl; apply Eq.refl; omega)); apply Eq.refl) | (apply w_nil) | (apply c_seq) | (apply e_then) | (apply c_region))
    refine w_store (v := .bool true) (b := b) (j := 0) (cs := enBs (fun _ => false) (s.size + 1)) (e := 4) ⟨_, _, inferInstance⟩ rfl (by simp [addr_add_plain]) rfl rfl hb2 (enBs_get _ _ _ (by omega)) (fun w3 hp3 hb3 => ?_)
    rw [enBs_set, enBs_congr (g := pm gs (lsB s) 0) (fun j _ => by simp [pm])] at hb3
    have z3 := hp3.size
    have hbel3 : Below w1.heap.size w1 w3 := hp3.below (hn2.below (Below.refl _ _) (Nat.le_refl _)) (by omega) (by omega)
    repeat (first | (apply w_op; (apply p_asI; apply Eq.refl); apply Eq.refl) | (apply w_nil) | (apply c_seq) | (apply e_then) | (apply c_region) | (apply c_block))
    refine c_loop [8, 7] [9, 10, 25, 26, 27, 28, 29, 30, 31, 32, 33, 34, 35, 36, 37, 38, 39, 40, 41, 42, 43, 44, 45, 46, 47, 48, 49, 50, 51, 52, 53, 54, 55, 56, 57, 58, 59, 60, 61, 62, 63, 64, 65, 66, 67, 68, 69, 70, 71, 72, 73, 74, 75, 76, 77, 78, 79, 80, 81, 82, 83, 84, 85, 86, 87, 88, 89, 90, 91, 92, 93, 94, 95, 96, 97, 98, 99, 100, 101, 102, 103, 104, 105, 106, 107] (fun vs w5 => ∃ (i b5 m5 c5 : Nat), vs = [.int .i64 (i : Int), .slice (some ⟨b5, 0, none⟩) m5 c5] ∧ i ≤ gs.length ∧ m5 = s.size + 1 ∧ Below w1.heap.size w1 w5 ∧ w1.heap.size ≤ b5 ∧ Blk w5 b5 4 (enBs (pm gs (lsB s) i) m5)) (fun vs _ => gs.length - (intOf (vs.headD undef)).toNat) rfl
      ⟨0, b, _, _, rfl, Nat.zero_le _, by omega, hbel3, by omega, by simpa using hb3⟩ ?_
    clear hb3 hb2 hn2
    rintro _ u5 w5 ⟨i, b5, m5, c5, rfl, hi, hm5, hbel5, hge5, hb5⟩
    have hz5 := hbel5.size
    have hlt5 := hb5.lt
    repeat (first | (apply w_op; (first | (apply p_mvI; apply Eq.refl) | (apply p_mvL; apply Eq.refl) | (apply p_lss; apply Eq.refl; apply Eq.refl) | (apply p_len_sl; apply Eq.refl)); apply Eq.refl) | (apply w_nil) | (apply c_seq) | (apply e_then) | (apply c_region))
    refine c_cond rfl (fun q => ?_) (fun q => ?_)
    · have hk1 : i < gs.length := by have := of_decide_eq_true q; omega
      have hpm : pm gs (lsB s) (i + 1) = rowOf gs[i] (lsB s) (pm gs (lsB s) i) := pm_succ (List.getElem?_eq_getElem hk1)
      have hsk := star_kindR gs[i]
      repeat (first | (apply w_op; (first | (apply p_mvS; apply Eq.refl) | (apply p_len_str; apply Eq.refl) | (apply p_add64; apply Eq.refl; apply Eq.refl; omega)); apply Eq.refl) | (apply c_seq) | (apply e_then) | (apply c_region) | (apply c_block) | (apply c_skip))
      refine w_make rfl rfl (by omega) (by omega) rfl (fun b6 w6 hn6 => ?_)
      have hb6 : Blk w6 b6 4 (enBs (fun _ => false) (s.size + 1)) := by
        have := hn6.blk
        rw [show (Value.bool false).cells = #[.bool false] from rfl, made_false] at this
        simpa using this
      have e6 := hn6.hb
      have z6 := hn6.size
      have hbel56 := hn6.below (Below.refl w5.heap.size w5) (Nat.le_refl _)
      repeat (first | (apply w_op; (first | (apply p_asI; apply Eq.refl) | (apply p_asL; apply Eq.refl)); apply Eq.refl) | (apply w_nil) | (apply c_seq) | (apply e_then) | (apply c_region) | (apply c_block))
      refine c_loop [10] [35, 36, 37, 38, 39, 40, 41, 42, 43, 44, 45, 46, 47, 48, 49, 50, 51, 52, 53, 54, 55, 56, 57, 58, 59, 60, 61, 62, 63, 64, 65, 66, 67, 68, 69, 70, 71, 72, 73, 74, 75, 76, 77, 78, 79, 80, 81, 82, 83, 84, 85, 86, 87, 88, 89, 90, 91, 92, 93, 94, 95, 96, 97, 98, 99, 100, 101, 102, 103, 104, 105, 106] (fun vs w7 => ∃ k : Nat, vs = [.int .i64 (k : Int)] ∧ k ≤ s.size + 1 ∧ Below w5.heap.size w5 w7 ∧ b6 < w7.heap.size ∧ Blk w7 b6 4 (enBs (fun j => if j < k then pm gs (lsB s) (i + 1) j else false) (s.size + 1))) (fun vs _ => s.size + 1 - (intOf (vs.headD undef)).toNat) rfl
        ⟨0, rfl, Nat.zero_le _, hbel56, by omega, by rw [enBs_congr (g := fun _ => false) (fun j _ => by simp)]; exact hb6⟩ ?_
      rintro _ u7 w7 ⟨k, rfl, hk, hbel7, h67, hb7⟩
      have z7 := hbel7.size
      have hb57 := hb5.below hbel7 hlt5
      have hsl7 := (hsl1.below hbel5).below (hbel7.mono hz5)
      repeat (first | (apply w_op; (first | (apply p_mvI; apply Eq.refl) | (apply p_mvS; apply Eq.refl) | (apply p_leq; apply Eq.refl; apply Eq.refl) | (apply p_len_str; apply Eq.refl)); apply Eq.refl) | (apply w_nil) | (apply c_seq) | (apply e_then) | (apply c_region))
      refine c_cond rfl (fun q2 => ?_) (fun q2 => ?_)
      · have hk2 : k ≤ s.size := by have := of_decide_eq_true q2; omega
        obtain ⟨ad, rfl, hblk, hcel⟩ := hsl7.at_ rfl hk1
        have hnew : pm gs (lsB s) (i + 1) k = rowAt gs[i] (lsB s) (pm gs (lsB s) i) (pm gs (lsB s) (i + 1)) k := by rw [hpm, rowOf_at]
        have hput : ∀ x : Bool, x = pm gs (lsB s) (i + 1) k → ∀ j, j < s.size + 1 → (if j = k then x else if j < k then pm gs (lsB s) (i + 1) j else false) = (if j < k + 1 then pm gs (lsB s) (i + 1) j else false) := by
          intro x hx j _
          by_cases e : j = k
          · subst e; simp [hx]
          · rw [if_neg e]
            by_cases h2 : j < k
            · rw [if_pos h2, if_pos (by omega)]
            · rw [if_neg h2, if_neg (by omega)]
        repeat (first | (apply w_op; (first | (apply p_mvI; apply Eq.refl) | (apply p_mvL; apply Eq.refl) | (apply p_fieldAddr; apply Eq.refl) | (apply p_indexAddr; apply Eq.refl; apply Eq.refl; apply Eq.refl; omega)); apply Eq.refl) | (apply c_seq) | (apply e_then) | (apply c_region) | (apply c_block) | (apply c_skip))
        refine w_op (p_load0 (v := .int .i64 gs[i].kindR) rfl (by rw [addr_add_zero]; exact hcel) (enGR_kind _)) rfl ?_
        refine w_cut1 [54] [46, 47, 48, 49, 50, 51, 52, 53] (fun vs w9 => w9 = w7 ∧ vs = [.bool gs[i].star]) ?_ ?_
        · repeat (apply w_op; (first | (apply p_mvB; apply Eq.refl) | (apply p_eql; apply Eq.refl; apply Eq.refl)); apply Eq.refl)
          refine w_bool 47 rfl (fun q6 => ?_) (fun q6 => ?_)
          · repeat (first | (apply w_op; (apply p_pick_t; apply Eq.refl; apply Eq.refl); apply Eq.refl) | (apply w_nil) | (apply w_off; apply Eq.refl; apply Eq.refl))
            refine e_ct (by repeat (first | exact Over.base | exact Over.refl | refine Over.put rfl ?_ | refine Over.cnP rfl ?_ | refine Over.zpP rfl ?_)) ?_
            refine ⟨rfl, ?_⟩
            rw [← hsk, q6]; rfl
          · repeat (first | (apply w_op; (first | (apply p_mvI; apply Eq.refl) | (apply p_mvL; apply Eq.refl) | (apply p_fieldAddr; apply Eq.refl) | (apply p_indexAddr; apply Eq.refl; apply Eq.refl; apply Eq.refl; omega)); apply Eq.refl) | (apply w_on; apply Eq.refl))
            refine w_op (p_load0 (v := .int .i64 gs[i].kindR) rfl (by rw [addr_add_zero]; exact hcel) (enGR_kind _)) rfl ?_
            repeat (first | (apply w_op; (first | (apply p_eql; apply Eq.refl; apply Eq.refl) | (apply p_pick_f; apply Eq.refl; apply Eq.refl)); apply Eq.refl) | (apply w_nil) | (apply w_on; apply Eq.refl))
            refine e_ct (by repeat (first | exact Over.base | exact Over.refl | refine Over.put rfl ?_ | refine Over.cnP rfl ?_ | refine Over.zpP rfl ?_)) ?_
            refine ⟨rfl, ?_⟩
            rw [← hsk, q6]; rfl
        · rintro _ u9 w7 ⟨rfl, rfl⟩
          skip
          refine c_cond rfl (fun qs => ?_) (fun qs => ?_)
          · rw [rowAt, if_pos qs] at hnew
            skip
            refine c_quietTail (fun x => Below w7.heap.size w7 x) 29 mixed (by kernel_rfl) (Below.refl _ _).drew ?_
            repeat (apply q_op; intro _ hC; (first | (apply p_mvI; apply Eq.refl) | (apply p_mvL; apply Eq.refl) | (apply p_indexAddr; apply Eq.refl; apply Eq.refl; apply Eq.refl; omega)); apply Eq.refl)
            refine q_op (fun x hx => p_loadA (a' := (⟨b5, 0, none⟩ : Addr).add ((k : Int).toNat * 1)) (v := .bool (pm gs (lsB s) i k)) (j := k) rfl (by simp) (hb57.below hx hb57.lt).obj0 (by rw [enBs_get _ _ _ (by omega)])) rfl ?_
            repeat (apply q_op; intro _ hC; (apply p_mvB; apply Eq.refl); apply Eq.refl)
            refine q_bool 61 rfl (fun f0 => ?_) (fun f0 => ?_)
            · repeat (first | (apply q_op; intro _ hC; (first | (apply p_pick_t; apply Eq.refl; apply Eq.refl) | (apply p_indexAddr; apply Eq.refl; apply Eq.refl; apply Eq.refl; omega)); apply Eq.refl) | (apply q_off; apply Eq.refl; apply Eq.refl) | (apply q_off2; apply Eq.refl; apply Eq.refl))
              refine q_tail (fun w8 hb8 => ?_)
              have hx8 : (true) = pm gs (lsB s) (i + 1) k := (by rw [hnew, f0]; rfl)
              have hb78 := hb7.below hb8 h67
              have z8 := hb8.size
              refine w_store (v := .bool (true)) (b := b6) (j := k) (cs := enBs (fun j => if j < k then pm gs (lsB s) (i + 1) j else false) (s.size + 1)) (e := 4) ⟨_, _, inferInstance⟩ rfl (by simp [addr_add_plain]) rfl rfl hb78 (enBs_get _ _ _ (by omega)) (fun w10 hp10 hb10 => ?_)
              rw [enBs_put, enBs_congr (hput _ hx8)] at hb10
              have z10 := hp10.size
              have hbel58 := hbel7.trans (hb8.mono z7)
              repeat (first | (apply w_op; (first | (apply p_mvI; apply Eq.refl) | (apply p_asI; apply Eq.refl) | (apply p_add64; apply Eq.refl; apply Eq.refl; omega)); apply Eq.refl) | (apply w_nil) | (apply e_then) | (apply c_region) | (apply e_bk))
              refine e_lp (by repeat (first | exact Over.base | exact Over.refl | refine Over.put rfl ?_ | refine Over.cnP rfl ?_ | refine Over.zpP rfl ?_)) ?_
              refine ⟨⟨k + 1, rfl, by omega, hp10.below hbel58 (by omega) (by omega), by omega, hb10⟩, ?_⟩
              show s.size + 1 - ((k : Int) + 1).toNat < s.size + 1 - ((k : Int)).toNat
              omega
            · repeat (first | (apply q_op; intro _ hC; (first | (apply p_mvI; apply Eq.refl) | (apply p_mvB; apply Eq.refl) | (apply p_gtr; apply Eq.refl; apply Eq.refl)); apply Eq.refl) | (apply q_on; apply Eq.refl))
              refine q_bool 64 rfl (fun f1 => ?_) (fun f1 => ?_)
              · have hk0 : 0 < k := by have := of_decide_eq_true f1; omega
                repeat (first | (apply q_op; intro _ hC; (first | (apply p_mvI; apply Eq.refl) | (apply p_mvL; apply Eq.refl) | (apply p_sub64; apply Eq.refl; apply Eq.refl; omega) | (apply p_indexAddr; apply Eq.refl; apply Eq.refl; apply Eq.refl; omega)); apply Eq.refl) | (apply q_on; apply Eq.refl))
                refine q_op (fun x hx => p_loadA (a' := (⟨b6, 0, none⟩ : Addr).add (((k : Int) - 1).toNat * 1)) (v := .bool (pm gs (lsB s) (i + 1) (k - 1))) (j := k - 1) rfl (by rw [show ((k : Int) - 1).toNat = k - 1 by omega]; simp) (hb7.below hx h67).obj0 (by rw [enBs_get _ _ _ (by omega), if_pos (by omega)])) rfl ?_
                repeat (first | (apply q_op; intro _ hC; (first | (apply p_mvB; apply Eq.refl) | (apply p_pick_t; apply Eq.refl; apply Eq.refl)); apply Eq.refl) | (apply q_on; apply Eq.refl))
                refine q_bool 71 rfl (fun f2 => ?_) (fun f2 => ?_)
                · have hbyte : bAt s ((k : Int) - 1).toNat = (lsB s).getD (k - 1) 0 := by rw [show ((k : Int) - 1).toNat = k - 1 by omega]; rfl
                  repeat (first | (apply q_op; intro _ hC; (first | (apply p_mvI; apply Eq.refl) | (apply p_mvL; apply Eq.refl) | (apply p_indexAddr; apply Eq.refl; apply Eq.refl; apply Eq.refl; omega)); apply Eq.refl) | (apply q_on; apply Eq.refl))
                  refine q_op (fun x hx => p_loadS (cs := enGR gs[i]) rfl (hcel.below (B := w1.heap.size) (hx.mono (by omega)) (by rw [addr_add_block]; exact hblk)) (enG_len _)) rfl ?_
                  repeat (first | (apply q_op; intro _ hC; (first | (apply p_mvI; apply Eq.refl) | (apply p_mvS; apply Eq.refl) | (apply p_sub64; apply Eq.refl; apply Eq.refl; omega) | (apply p_index; apply Eq.refl; apply Eq.refl; omega)); apply Eq.refl) | (apply q_on; apply Eq.refl))
                  refine q_call cl88 (.bool (gs[i].takes (bAt s ((k : Int) - 1).toNat))) (fun x hx => ?_) rfl ?_
                  · refine Ret.mono (rtakes_ok gs[i] _ x) ?_
                    rintro v' w' ⟨hv, hb'⟩
                    exact ⟨hv, hx.trans (hb'.mono hx.size)⟩
                  repeat (first | (apply q_op; intro _ hC; (first | (apply p_pick_t; apply Eq.refl; apply Eq.refl) | (apply p_pick_f; apply Eq.refl; apply Eq.refl) | (apply p_indexAddr; apply Eq.refl; apply Eq.refl; apply Eq.refl; omega)); apply Eq.refl) | (apply q_on; apply Eq.refl))
                  refine q_tail (fun w8 hb8 => ?_)
                  have hx8 : (gs[i].takes (bAt s ((k : Int) - 1).toNat)) = pm gs (lsB s) (i + 1) k := (by rw [hnew, f0, decide_eq_true hk0, f2, hbyte]; rfl)
                  have hb78 := hb7.below hb8 h67
                  have z8 := hb8.size
                  refine w_store (v := .bool (gs[i].takes (bAt s ((k : Int) - 1).toNat))) (b := b6) (j := k) (cs := enBs (fun j => if j < k then pm gs (lsB s) (i + 1) j else false) (s.size + 1)) (e := 4) ⟨_, _, inferInstance⟩ rfl (by simp [addr_add_plain]) rfl rfl hb78 (enBs_get _ _ _ (by omega)) (fun w10 hp10 hb10 => ?_)
                  rw [enBs_put, enBs_congr (hput _ hx8)] at hb10
                  have z10 := hp10.size
                  have hbel58 := hbel7.trans (hb8.mono z7)
                  repeat (first | (apply w_op; (first | (apply p_mvI; apply Eq.refl) | (apply p_asI; apply Eq.refl) | (apply p_add64; apply Eq.refl; apply Eq.refl; omega)); apply Eq.refl) | (apply w_nil) | (apply e_then) | (apply c_region) | (apply e_bk))
                  refine e_lp (by repeat (first | exact Over.base | exact Over.refl | refine Over.put rfl ?_ | refine Over.cnP rfl ?_ | refine Over.zpP rfl ?_)) ?_
                  refine ⟨⟨k + 1, rfl, by omega, hp10.below hbel58 (by omega) (by omega), by omega, hb10⟩, ?_⟩
                  show s.size + 1 - ((k : Int) + 1).toNat < s.size + 1 - ((k : Int)).toNat
                  omega
                · repeat (first | (apply q_op; intro _ hC; (first | (apply p_pick_f; apply Eq.refl; apply Eq.refl) | (apply p_indexAddr; apply Eq.refl; apply Eq.refl; apply Eq.refl; omega)); apply Eq.refl) | (apply q_on; apply Eq.refl) | (apply q_off; apply Eq.refl; apply Eq.refl))
                  refine q_tail (fun w8 hb8 => ?_)
                  have hx8 : (false) = pm gs (lsB s) (i + 1) k := (by rw [hnew, f0, decide_eq_true hk0, f2]; rfl)
                  have hb78 := hb7.below hb8 h67
                  have z8 := hb8.size
                  refine w_store (v := .bool (false)) (b := b6) (j := k) (cs := enBs (fun j => if j < k then pm gs (lsB s) (i + 1) j else false) (s.size + 1)) (e := 4) ⟨_, _, inferInstance⟩ rfl (by simp [addr_add_plain]) rfl rfl hb78 (enBs_get _ _ _ (by omega)) (fun w10 hp10 hb10 => ?_)
                  rw [enBs_put, enBs_congr (hput _ hx8)] at hb10
                  have z10 := hp10.size
                  have hbel58 := hbel7.trans (hb8.mono z7)
                  repeat (first | (apply w_op; (first | (apply p_mvI; apply Eq.refl) | (apply p_asI; apply Eq.refl) | (apply p_add64; apply Eq.refl; apply Eq.refl; omega)); apply Eq.refl) | (apply w_nil) | (apply e_then) | (apply c_region) | (apply e_bk))
                  refine e_lp (by repeat (first | exact Over.base | exact Over.refl | refine Over.put rfl ?_ | refine Over.cnP rfl ?_ | refine Over.zpP rfl ?_)) ?_
                  refine ⟨⟨k + 1, rfl, by omega, hp10.below hbel58 (by omega) (by omega), by omega, hb10⟩, ?_⟩
                  show s.size + 1 - ((k : Int) + 1).toNat < s.size + 1 - ((k : Int)).toNat
                  omega
              · have hk0 : ¬ 0 < k := by have := of_decide_eq_false f1; omega
                repeat (first | (apply q_op; intro _ hC; (first | (apply p_mvB; apply Eq.refl) | (apply p_pick_f; apply Eq.refl; apply Eq.refl) | (apply p_indexAddr; apply Eq.refl; apply Eq.refl; apply Eq.refl; omega)); apply Eq.refl) | (apply q_on; apply Eq.refl) | (apply q_off; apply Eq.refl; apply Eq.refl))
                refine q_tail (fun w8 hb8 => ?_)
                have hx8 : (false) = pm gs (lsB s) (i + 1) k := (by rw [hnew, f0, decide_eq_false hk0]; rfl)
                have hb78 := hb7.below hb8 h67
                have z8 := hb8.size
                refine w_store (v := .bool (false)) (b := b6) (j := k) (cs := enBs (fun j => if j < k then pm gs (lsB s) (i + 1) j else false) (s.size + 1)) (e := 4) ⟨_, _, inferInstance⟩ rfl (by simp [addr_add_plain]) rfl rfl hb78 (enBs_get _ _ _ (by omega)) (fun w10 hp10 hb10 => ?_)
                rw [enBs_put, enBs_congr (hput _ hx8)] at hb10
                have z10 := hp10.size
                have hbel58 := hbel7.trans (hb8.mono z7)
                repeat (first | (apply w_op; (first | (apply p_mvI; apply Eq.refl) | (apply p_asI; apply Eq.refl) | (apply p_add64; apply Eq.refl; apply Eq.refl; omega)); apply Eq.refl) | (apply w_nil) | (apply e_then) | (apply c_region) | (apply e_bk))
                refine e_lp (by repeat (first | exact Over.base | exact Over.refl | refine Over.put rfl ?_ | refine Over.cnP rfl ?_ | refine Over.zpP rfl ?_)) ?_
                refine ⟨⟨k + 1, rfl, by omega, hp10.below hbel58 (by omega) (by omega), by omega, hb10⟩, ?_⟩
                show s.size + 1 - ((k : Int) + 1).toNat < s.size + 1 - ((k : Int)).toNat
                omega
          · rw [rowAt, if_neg (by simp [qs])] at hnew
            skip
            refine c_quietTail (fun x => Below w7.heap.size w7 x) 23 mixed (by kernel_rfl) (Below.refl _ _).drew ?_
            repeat (apply q_op; intro _ hC; (first | (apply p_mvI; apply Eq.refl) | (apply p_mvB; apply Eq.refl) | (apply p_mvL; apply Eq.refl) | (apply p_gtr; apply Eq.refl; apply Eq.refl)); apply Eq.refl)
            refine q_bool 88 rfl (fun f1 => ?_) (fun f1 => ?_)
            · have hk0 : 0 < k := by have := of_decide_eq_true f1; omega
              repeat (first | (apply q_op; intro _ hC; (first | (apply p_mvI; apply Eq.refl) | (apply p_mvL; apply Eq.refl) | (apply p_sub64; apply Eq.refl; apply Eq.refl; omega) | (apply p_indexAddr; apply Eq.refl; apply Eq.refl; apply Eq.refl; omega)); apply Eq.refl) | (apply q_on; apply Eq.refl))
              refine q_op (fun x hx => p_loadA (a' := (⟨b5, 0, none⟩ : Addr).add (((k : Int) - 1).toNat * 1)) (v := .bool (pm gs (lsB s) i (k - 1))) (j := k - 1) rfl (by rw [show ((k : Int) - 1).toNat = k - 1 by omega]; simp) (hb57.below hx hb57.lt).obj0 (by rw [enBs_get _ _ _ (by omega)])) rfl ?_
              repeat (apply q_op; intro _ hC; (first | (apply p_mvB; apply Eq.refl) | (apply p_pick_t; apply Eq.refl; apply Eq.refl)); apply Eq.refl)
              refine q_bool 95 rfl (fun f2 => ?_) (fun f2 => ?_)
              · have hbyte : bAt s ((k : Int) - 1).toNat = (lsB s).getD (k - 1) 0 := by rw [show ((k : Int) - 1).toNat = k - 1 by omega]; rfl
                repeat (first | (apply q_op; intro _ hC; (first | (apply p_mvI; apply Eq.refl) | (apply p_mvL; apply Eq.refl) | (apply p_indexAddr; apply Eq.refl; apply Eq.refl; apply Eq.refl; omega)); apply Eq.refl) | (apply q_on; apply Eq.refl))
                refine q_op (fun x hx => p_loadS (cs := enGR gs[i]) rfl (hcel.below (B := w1.heap.size) (hx.mono (by omega)) (by rw [addr_add_block]; exact hblk)) (enG_len _)) rfl ?_
                repeat (first | (apply q_op; intro _ hC; (first | (apply p_mvI; apply Eq.refl) | (apply p_mvS; apply Eq.refl) | (apply p_sub64; apply Eq.refl; apply Eq.refl; omega) | (apply p_index; apply Eq.refl; apply Eq.refl; omega)); apply Eq.refl) | (apply q_on; apply Eq.refl))
                refine q_call cl88 (.bool (gs[i].takes (bAt s ((k : Int) - 1).toNat))) (fun x hx => ?_) rfl ?_
                · refine Ret.mono (rtakes_ok gs[i] _ x) ?_
                  rintro v' w' ⟨hv, hb'⟩
                  exact ⟨hv, hx.trans (hb'.mono hx.size)⟩
                repeat (apply q_op; intro _ hC; (first | (apply p_pick_t; apply Eq.refl; apply Eq.refl) | (apply p_indexAddr; apply Eq.refl; apply Eq.refl; apply Eq.refl; omega)); apply Eq.refl)
                refine q_tail (fun w8 hb8 => ?_)
                have hx8 : (gs[i].takes (bAt s ((k : Int) - 1).toNat)) = pm gs (lsB s) (i + 1) k := (by rw [hnew, decide_eq_true hk0, f2, hbyte]; rfl)
                have hb78 := hb7.below hb8 h67
                have z8 := hb8.size
                refine w_store (v := .bool (gs[i].takes (bAt s ((k : Int) - 1).toNat))) (b := b6) (j := k) (cs := enBs (fun j => if j < k then pm gs (lsB s) (i + 1) j else false) (s.size + 1)) (e := 4) ⟨_, _, inferInstance⟩ rfl (by simp [addr_add_plain]) rfl rfl hb78 (enBs_get _ _ _ (by omega)) (fun w10 hp10 hb10 => ?_)
                rw [enBs_put, enBs_congr (hput _ hx8)] at hb10
                have z10 := hp10.size
                have hbel58 := hbel7.trans (hb8.mono z7)
                repeat (first | (apply w_op; (first | (apply p_mvI; apply Eq.refl) | (apply p_asI; apply Eq.refl) | (apply p_add64; apply Eq.refl; apply Eq.refl; omega)); apply Eq.refl) | (apply w_nil) | (apply e_then) | (apply c_region) | (apply e_bk))
                refine e_lp (by repeat (first | exact Over.base | exact Over.refl | refine Over.put rfl ?_ | refine Over.cnP rfl ?_ | refine Over.zpP rfl ?_)) ?_
                refine ⟨⟨k + 1, rfl, by omega, hp10.below hbel58 (by omega) (by omega), by omega, hb10⟩, ?_⟩
                show s.size + 1 - ((k : Int) + 1).toNat < s.size + 1 - ((k : Int)).toNat
                omega
              · repeat (first | (apply q_op; intro _ hC; (first | (apply p_pick_f; apply Eq.refl; apply Eq.refl) | (apply p_indexAddr; apply Eq.refl; apply Eq.refl; apply Eq.refl; omega)); apply Eq.refl) | (apply q_off; apply Eq.refl; apply Eq.refl))
                refine q_tail (fun w8 hb8 => ?_)
                have hx8 : (false) = pm gs (lsB s) (i + 1) k := (by rw [hnew, decide_eq_true hk0, f2]; rfl)
                have hb78 := hb7.below hb8 h67
                have z8 := hb8.size
                refine w_store (v := .bool (false)) (b := b6) (j := k) (cs := enBs (fun j => if j < k then pm gs (lsB s) (i + 1) j else false) (s.size + 1)) (e := 4) ⟨_, _, inferInstance⟩ rfl (by simp [addr_add_plain]) rfl rfl hb78 (enBs_get _ _ _ (by omega)) (fun w10 hp10 hb10 => ?_)
                rw [enBs_put, enBs_congr (hput _ hx8)] at hb10
                have z10 := hp10.size
                have hbel58 := hbel7.trans (hb8.mono z7)
                repeat (first | (apply w_op; (first | (apply p_mvI; apply Eq.refl) | (apply p_asI; apply Eq.refl) | (apply p_add64; apply Eq.refl; apply Eq.refl; omega)); apply Eq.refl) | (apply w_nil) | (apply e_then) | (apply c_region) | (apply e_bk))
                refine e_lp (by repeat (first | exact Over.base | exact Over.refl | refine Over.put rfl ?_ | refine Over.cnP rfl ?_ | refine Over.zpP rfl ?_)) ?_
                refine ⟨⟨k + 1, rfl, by omega, hp10.below hbel58 (by omega) (by omega), by omega, hb10⟩, ?_⟩
                show s.size + 1 - ((k : Int) + 1).toNat < s.size + 1 - ((k : Int)).toNat
                omega
            · have hk0 : ¬ 0 < k := by have := of_decide_eq_false f1; omega
              repeat (first | (apply q_op; intro _ hC; (first | (apply p_mvB; apply Eq.refl) | (apply p_pick_f; apply Eq.refl; apply Eq.refl) | (apply p_indexAddr; apply Eq.refl; apply Eq.refl; apply Eq.refl; omega)); apply Eq.refl) | (apply q_off; apply Eq.refl; apply Eq.refl))
              refine q_tail (fun w8 hb8 => ?_)
              have hx8 : (false) = pm gs (lsB s) (i + 1) k := (by rw [hnew, decide_eq_false hk0]; rfl)
              have hb78 := hb7.below hb8 h67
              have z8 := hb8.size
              refine w_store (v := .bool (false)) (b := b6) (j := k) (cs := enBs (fun j => if j < k then pm gs (lsB s) (i + 1) j else false) (s.size + 1)) (e := 4) ⟨_, _, inferInstance⟩ rfl (by simp [addr_add_plain]) rfl rfl hb78 (enBs_get _ _ _ (by omega)) (fun w10 hp10 hb10 => ?_)
              rw [enBs_put, enBs_congr (hput _ hx8)] at hb10
              have z10 := hp10.size
              have hbel58 := hbel7.trans (hb8.mono z7)
              repeat (first | (apply w_op; (first | (apply p_mvI; apply Eq.refl) | (apply p_asI; apply Eq.refl) | (apply p_add64; apply Eq.refl; apply Eq.refl; omega)); apply Eq.refl) | (apply w_nil) | (apply e_then) | (apply c_region) | (apply e_bk))
              refine e_lp (by repeat (first | exact Over.base | exact Over.refl | refine Over.put rfl ?_ | refine Over.cnP rfl ?_ | refine Over.zpP rfl ?_)) ?_
              refine ⟨⟨k + 1, rfl, by omega, hp10.below hbel58 (by omega) (by omega), by omega, hb10⟩, ?_⟩
              show s.size + 1 - ((k : Int) + 1).toNat < s.size + 1 - ((k : Int)).toNat
              omega
      · have hk2 : k = s.size + 1 := by have := of_decide_eq_false q2; omega
        subst hk2
        repeat (first | (apply w_op; (first | (apply p_mvI; apply Eq.refl) | (apply p_mvL; apply Eq.refl) | (apply p_asI; apply Eq.refl) | (apply p_asL; apply Eq.refl) | (apply p_add64; apply Eq.refl; apply Eq.refl; omega)); apply Eq.refl) | (apply w_nil) | (apply e_then) | (apply c_region) | (apply c_exit) | (apply e_then_exit) | (apply e_bk) | (apply e_bk_same) | (apply e_lp_exit))
        refine e_lp (by repeat (first | exact Over.base | exact Over.refl | refine Over.put rfl ?_ | refine Over.cnP rfl ?_ | refine Over.zpP rfl ?_)) ?_
        refine ⟨⟨i + 1, b6, _, _, rfl, by omega, by omega, hbel5.trans (hbel7.mono hz5), by omega, ?_⟩, ?_⟩
        · rw [enBs_congr (g := pm gs (lsB s) (i + 1)) (fun j hj => by rw [if_pos (by omega)])] at hb7
          simpa using hb7
        · show gs.length - ((i : Int) + 1).toNat < gs.length - ((i : Int)).toNat
          omega
    · have hge := of_decide_eq_false q
      obtain rfl : i = gs.length := by omega
      repeat (first | (apply w_op; (first | (apply p_mvS; apply Eq.refl) | (apply p_mvL; apply Eq.refl) | (apply p_len_str; apply Eq.refl) | (apply p_indexAddr; apply Eq.refl; apply Eq.refl; apply Eq.refl; omega)); apply Eq.refl) | (apply c_seq) | (apply e_then) | (apply c_region) | (apply c_exit) | (apply e_then_exit) | (apply e_bk_same) | (apply e_lp_exit))
      refine w_op (p_loadA (v := .bool (glob p s)) (j := s.size) rfl (by simp) hb5.obj0 (by rw [enBs_get _ _ _ (by omega), hglob])) rfl ?_
      repeat (first | (apply w_op; (apply p_asB; apply Eq.refl); apply Eq.refl) | (apply w_nil) | (apply e_then) | (apply c_ret))
      refine r_ret1 Try.results80 rfl ⟨rfl, hbel1.trans (hbel5.mono hbel1.size)⟩
end Go.Proofs.Ytjcbnohnilffoaa
