/- THE WALKS of package tree: what is looked up. -/
import Derived.Test.YtmgheamdboiklaaDoorPt2
set_option linter.unusedVariables false
set_option linter.unusedSimpArgs false
namespace Go.Proofs.YtmgheamdboiklaaDoor
open Go.RowKit

theorem right_size' {p : ByteArray} (h : right p = true) : p.size ≤ 1099511627775 := by have := right_size h; omega
theorem pre_some {F : Ft} (hF : Wf F) {p : ByteArray} {t : Tg} (h : F.at_ p = some t) : ∀ (m k : Nat), k + m = (split p).length → 0 < m → ∃ d, F.at_ (preP p k) = some d ∧ d.kind = 2
  | 0, k, _, h0 => by omega
  | m + 1, k, hk, _ => by
    have hr : right p = true := hF.rt _ (atL_mem h)
    obtain ⟨e1, _, e3⟩ := preP_succ hr (k := k) (by omega)
    have hup : ∃ d, F.at_ (preP p (k + 1)) = some d := by
      cases m with
      | zero => exact ⟨t, by rw [preP_all (by omega)]; exact h⟩
      | succ m =>
        obtain ⟨d, hd, _⟩ := pre_some hF h (m + 1) (k + 1) (by omega) (by omega)
        exact ⟨d, hd⟩
    obtain ⟨d, hd⟩ := hup
    have := hF.at_up hd e3
    rw [e1] at this
    exact this
theorem at_stop {F : Ft} (hF : Wf F) {p : ByteArray} {k : Nat} (hk : k < (split p).length) (h : ∀ d, F.at_ (preP p k) = some d → d.kind ≠ 2) : F.at_ p = none := by
  cases ha : F.at_ p with
  | none => rfl
  | some t =>
    obtain ⟨d, h1, h2⟩ := pre_some hF ha ((split p).length - k) k (by omega) (by omega)
    exact absurd h2 (h d h1)

section
variable {w : World} {S : Nat → Prop} {bt : Nat} {F : Ft} {bk km : Int → Nat}
theorem at_ok (h : PT w S bt F bk km) (hF : Wf F) (p : ByteArray) (hr : right p = true) : Ret Tryd.prog 56 [.pointer (some ⟨bt, 0, none⟩), .string p] w fun v w' => v = nptr bk (F.at_ p) ∧ Below w.heap.size w w' := by
  have ht := h.tcel
  refine calls_in Tryd.func56 rfl Tryd.ntmps56 rfl ?_
  repeat (first | (apply w_op; (first | (apply p_mvS; apply Eq.refl) | (apply p_mvP; apply Eq.refl) | (apply p_asP; apply Eq.refl) | (apply p_nilCheck; apply Eq.refl) | (apply p_fieldAddr; apply Eq.refl) | (apply p_loadF; apply Eq.refl; (first | assumption | (apply Cel.bel; assumption; assumption; apply Nat.zero_lt_succ)); (first | apply Eq.refl | assumption))); apply Eq.refl) | (apply w_nil) | (apply c_seq) | (apply e_then) | (apply c_region))
  refine w_call cl29 (split_ok p _ (right_size' hr)) rfl ?_
  rintro v w1 ⟨hown, hb1⟩
  have hsl : Strs w1 w1.heap.size v (split p) := Sl.of_own rfl (fun _ => rfl) hown
  obtain ⟨A, c, rfl, hc, hA⟩ := hsl.out
  have hPT := h.below hb1
  have hlen := right_len hr
  clear ht
  repeat (first | (apply w_op; (first | (apply p_mvI; apply Eq.refl) | (apply p_len_sl; apply Eq.refl)); apply Eq.refl) | (apply w_nil) | (apply e_then) | (apply c_block))
  refine c_loop [15, 5] [4, 7, 16, 17, 18, 19, 20, 21, 22, 23, 24, 25, 26, 27, 28, 29, 30, 31, 32, 33, 34] (fun vs w3 => w3 = w1 ∧ ∃ k : Nat, vs = [.int .i64 (k : Int), nptr bk (F.at_ (preP p k))] ∧ k ≤ (split p).length) (fun vs _ => (split p).length - (intOf (vs.headD undef)).toNat) rfl
    ⟨rfl, 0, by show [Value.int .i64 0, Value.pointer (some ⟨bk 1, 0, none⟩)] = _; rw [preP_zero, h.root hF]; rfl, Nat.zero_le _⟩ ?_
  rintro _ u w3 ⟨rfl, k, rfl, hk⟩
  repeat (first | (apply w_op; (apply p_lss; apply Eq.refl; apply Eq.refl); apply Eq.refl) | (apply w_nil) | (apply c_seq) | (apply e_then) | (apply c_region))
  first | refine c_ifd rfl (fun g => ?_) (fun g => ?_) | refine c_ifnd rfl (fun g => ?_) (fun g => ?_) | refine c_ifn rfl (fun g => ?_) (fun g => ?_) | refine c_cond rfl (fun g => ?_) (fun g => ?_)
  · have hk1 : k < (split p).length := by omega
    obtain ⟨e1, e2, e3⟩ := preP_succ hr hk1
    obtain ⟨ad, rfl, _, hcel⟩ := hsl.at_ rfl hk1
    cases hat : F.at_ (preP p k) with
    | none =>
      have hn := at_stop hF hk1 (fun d hd => by rw [hat] at hd; cases hd)
      repeat (first | (apply w_op; (first | (apply p_mvB; apply Eq.refl) | (apply p_mvP; apply Eq.refl) | (apply p_asS; apply Eq.refl) | (apply p_asP; apply Eq.refl) | (apply p_pick_t; apply Eq.refl; apply Eq.refl) | (apply p_indexAddr; apply Eq.refl; apply Eq.refl; apply Eq.refl; omega) | (apply p_load0; apply Eq.refl; (first | assumption | (apply Cel.bel; assumption; assumption; apply Nat.zero_lt_succ)); (first | apply Eq.refl | assumption)) | (apply p_peqnil; apply Eq.refl; apply Eq.refl)); apply Eq.refl) | (apply w_nil) | (apply c_seq) | (apply e_then) | (apply c_region) | (apply w_off; apply Eq.refl; apply Eq.refl) | (apply c_block) | (apply c_cond_t; apply Eq.refl) | (apply c_skip) | (apply c_ret) | (apply e_then_ret) | (apply e_bk_ret) | (apply e_lp_ret))
      exact r_ret1 Tryd.results56 rfl ⟨by rw [hn]; rfl, hb1⟩
    | some t =>
      obtain ⟨dv, hnc, _⟩ := hPT.cel hat
      by_cases hkd : t.kind = 2
      · have hm := hPT.map hat hkd
        rw [show kvO km t = .map (some (km t.ino)) from if_pos hkd] at hnc
        have hkid : (kidM F.L bk (preP p k) (split p)[k]).getD (.pointer none) = nptr bk (F.at_ (preP p (k + 1))) := by
          rw [nptr_kid, ← hF.kid (right_preP hr (k + 1)) e3, e1, e2]
        repeat (first | (apply w_op; (first | (apply p_mvS; apply Eq.refl) | (apply p_mvB; apply Eq.refl) | (apply p_mvP; apply Eq.refl) | (apply p_asS; apply Eq.refl) | (apply p_nilCheck; apply Eq.refl) | (apply p_fieldAddr; apply Eq.refl) | (apply p_pick_f; apply Eq.refl; apply Eq.refl) | (apply p_indexAddr; apply Eq.refl; apply Eq.refl; apply Eq.refl; omega) | (apply p_loadF; apply Eq.refl; (first | assumption | (apply Cel.bel; assumption; assumption; apply Nat.zero_lt_succ)); (first | apply Eq.refl | assumption)) | (apply p_load0; apply Eq.refl; (first | assumption | (apply Cel.bel; assumption; assumption; apply Nat.zero_lt_succ)); (first | apply Eq.refl | assumption)) | (apply p_peqnil; apply Eq.refl; apply Eq.refl) | (apply p_meqnil; apply Eq.refl; apply Eq.refl)); apply Eq.refl) | (apply w_nil) | (apply c_seq) | (apply e_then) | (apply c_region) | (apply w_on; apply Eq.refl) | (apply c_block) | (apply c_cond_f; apply Eq.refl) | (apply c_skip))
        refine w_op (p_lookupV rfl rfl hm.mp hkid) rfl ?_
        repeat (first | (apply w_op; (first | (apply p_mvI; apply Eq.refl) | (apply p_assign) | (apply p_add64; apply Eq.refl; apply Eq.refl; omega)); apply Eq.refl) | (apply w_nil) | (apply e_then) | (apply c_region) | (apply e_bk))
        refine e_lp (by repeat (first | exact Over.base | exact Over.refl | refine Over.put rfl ?_ | refine Over.cnP rfl ?_ | refine Over.zpP rfl ?_)) ?_
        refine ⟨⟨rfl, k + 1, rfl, by omega⟩, ?_⟩
        show (split p).length - ((k : Int) + 1).toNat < (split p).length - ((k : Int)).toNat
        omega
      · have hn := at_stop hF hk1 (fun d hd => by rw [hat] at hd; injection hd with hd; subst hd; exact hkd)
        rw [show kvO km t = .map none from if_neg hkd] at hnc
        repeat (first | (apply w_op; (first | (apply p_mvB; apply Eq.refl) | (apply p_mvP; apply Eq.refl) | (apply p_asS; apply Eq.refl) | (apply p_asP; apply Eq.refl) | (apply p_nilCheck; apply Eq.refl) | (apply p_fieldAddr; apply Eq.refl) | (apply p_pick_f; apply Eq.refl; apply Eq.refl) | (apply p_indexAddr; apply Eq.refl; apply Eq.refl; apply Eq.refl; omega) | (apply p_loadF; apply Eq.refl; (first | assumption | (apply Cel.bel; assumption; assumption; apply Nat.zero_lt_succ)); (first | apply Eq.refl | assumption)) | (apply p_load0; apply Eq.refl; (first | assumption | (apply Cel.bel; assumption; assumption; apply Nat.zero_lt_succ)); (first | apply Eq.refl | assumption)) | (apply p_peqnil; apply Eq.refl; apply Eq.refl) | (apply p_meqnil; apply Eq.refl; apply Eq.refl)); apply Eq.refl) | (apply w_nil) | (apply c_seq) | (apply e_then) | (apply c_region) | (apply w_on; apply Eq.refl) | (apply c_block) | (apply c_cond_t; apply Eq.refl) | (apply c_skip) | (apply c_ret) | (apply e_then_ret) | (apply e_bk_ret) | (apply e_lp_ret))
        exact r_ret1 Tryd.results56 rfl ⟨by rw [hn]; rfl, hb1⟩
  · obtain rfl : k = (split p).length := by omega
    repeat (first | (apply w_op; (first | (apply p_move) | (apply p_assign)); apply Eq.refl) | (apply w_nil) | (apply c_seq) | (apply e_then) | (apply c_region) | (apply c_ret) | (apply c_exit) | (apply e_then_exit) | (apply e_bk_same) | (apply e_lp_exit))
    exact r_ret1 Tryd.results56 rfl ⟨by rw [preP_all (Nat.le_refl _)]; rfl, hb1⟩

/-- what look tells of a path's directory -/
def Ft.dirV (F : Ft) (bk : Int → Nat) (p : ByteArray) : Value := if (F.look p).2 = 0 ∧ p ≠ noB then nptr bk (F.at_ (parent p)) else .pointer none
theorem look_ok_w (h : PT w S bt F bk km) (hF : Wf F) (p : ByteArray) (hs : p.size ≤ 1099511627775) : Ret Tryd.prog 39 [.pointer (some ⟨bt, 0, none⟩), .string p] w
    fun v w' => v = .tuple #[nptr bk (F.look p).1, F.dirV bk p, .int .i64 (F.look p).2] ∧ Below w.heap.size w w' := by
  refine calls_in Tryd.func39 rfl Tryd.ntmps39 rfl ?_
  repeat (first | (apply w_op; (first | (apply p_mvS; apply Eq.refl) | (apply p_asI; apply Eq.refl) | (apply p_asP; apply Eq.refl)); apply Eq.refl) | (apply w_nil) | (apply c_seq) | (apply e_then) | (apply c_region))
  refine w_callB cl14 (right_ok p _ hs) rfl (fun w1 hb1 => ?_)
  have hP1 := h.below hb1
  have ht := hP1.tcel
  repeat (first | (apply w_op; (apply p_not; apply Eq.refl); apply Eq.refl) | (apply w_nil) | (apply e_then))
  first | refine c_ifd rfl (fun g => ?_) (fun g => ?_) | refine c_ifnd rfl (fun g => ?_) (fun g => ?_) | refine c_ifn rfl (fun g => ?_) (fun g => ?_) | refine c_cond rfl (fun g => ?_) (fun g => ?_)
  · repeat (first | (apply w_op; (first | (apply p_asI; apply Eq.refl) | (apply p_asP; apply Eq.refl)); apply Eq.refl) | (apply w_nil) | (apply c_seq) | (apply e_then) | (apply c_region) | (apply c_ret) | (apply e_then_ret))
    refine r_ret3 Tryd.results39 rfl ⟨?_, hb1⟩
    have hl : F.look p = (none, 9) := by rw [Ft.look, if_pos (by simpa using g)]
    simp only [Ft.dirV, hl]
    rfl
  · have hr : right p = true := by simpa using g
    repeat (first | (apply w_op; (first | (apply p_mvS; apply Eq.refl) | (apply p_seql; apply Eq.refl; apply Eq.refl)); apply Eq.refl) | (apply w_nil) | (apply c_seq) | (apply e_then) | (apply c_region) | (apply c_skip))
    first | refine c_ifd rfl (fun g2 => ?_) (fun g2 => ?_) | refine c_ifnd rfl (fun g2 => ?_) (fun g2 => ?_) | refine c_ifn rfl (fun g2 => ?_) (fun g2 => ?_) | refine c_cond rfl (fun g2 => ?_) (fun g2 => ?_)
    · repeat (first | (apply w_op; (first | (apply p_mvP; apply Eq.refl) | (apply p_asI; apply Eq.refl) | (apply p_asP; apply Eq.refl) | (apply p_nilCheck; apply Eq.refl) | (apply p_fieldAddr; apply Eq.refl) | (apply p_loadF; apply Eq.refl; (first | assumption | (apply Cel.bel; assumption; assumption; apply Nat.zero_lt_succ)); (first | apply Eq.refl | assumption))); apply Eq.refl) | (apply w_nil) | (apply c_seq) | (apply e_then) | (apply c_region) | (apply c_ret) | (apply e_then_ret))
      refine r_ret3 Tryd.results39 rfl ⟨?_, hb1⟩
      have hl : F.look p = (F.at_ noB, 0) := by rw [Ft.look, if_neg (by simp [hr]), if_pos g2]
      simp only [Ft.dirV, hl, h.root hF]
      rw [if_neg (by simp [g2])]
      rfl
    · repeat (first | (apply w_op; (first | (apply p_mvS; apply Eq.refl) | (apply p_mvP; apply Eq.refl)); apply Eq.refl) | (apply c_seq) | (apply e_then) | (apply c_region) | (apply c_skip))
      refine w_callS cl17 (parent_ok p _ hs) rfl ?_
      refine w_callB cl56 (at_ok hP1 hF (parent p) (right_parent hr)) rfl (fun w2 hb2 => ?_)
      have hP2 := hP1.below hb2
      have hb := hb1.trans (hb2.mono hb1.size)
      clear ht hP1
      cases hat : F.at_ (parent p) with
      | none =>
        have hl := look_nodir hr g2 hat
        repeat (first | (apply w_op; (first | (apply p_mvP; apply Eq.refl) | (apply p_asI; apply Eq.refl) | (apply p_asP; apply Eq.refl) | (apply p_peqnil; apply Eq.refl; apply Eq.refl)); apply Eq.refl) | (apply w_nil) | (apply c_seq) | (apply e_then) | (apply c_region) | (apply c_cond_t; apply Eq.refl) | (apply c_ret) | (apply e_then_ret))
        refine r_ret3 Tryd.results39 rfl ⟨?_, hb⟩
        simp only [Ft.dirV, hl]
        rfl
      | some d =>
        obtain ⟨dv, hnc, _⟩ := hP2.cel hat
        repeat (first | (apply w_op; (first | (apply p_mvP; apply Eq.refl) | (apply p_asP; apply Eq.refl) | (apply p_nilCheck; apply Eq.refl) | (apply p_fieldAddr; apply Eq.refl) | (apply p_neq; apply Eq.refl; apply Eq.refl) | (apply p_loadF; apply Eq.refl; (first | assumption | (apply Cel.bel; assumption; assumption; apply Nat.zero_lt_succ)); (first | apply Eq.refl | assumption)) | (apply p_peqnil; apply Eq.refl; apply Eq.refl)); apply Eq.refl) | (apply w_nil) | (apply c_seq) | (apply e_then) | (apply c_region) | (apply c_cond_f; apply Eq.refl) | (apply c_skip))
        first | refine c_ifd rfl (fun g3 => ?_) (fun g3 => ?_) | refine c_ifnd rfl (fun g3 => ?_) (fun g3 => ?_) | refine c_ifn rfl (fun g3 => ?_) (fun g3 => ?_) | refine c_cond rfl (fun g3 => ?_) (fun g3 => ?_)
        · have hl' := look_file hr g2 hat g3
          repeat (first | (apply w_op; (first | (apply p_asI; apply Eq.refl) | (apply p_asP; apply Eq.refl)); apply Eq.refl) | (apply w_nil) | (apply c_seq) | (apply e_then) | (apply c_region) | (apply c_ret) | (apply e_then_ret))
          refine r_ret3 Tryd.results39 rfl ⟨?_, hb⟩
          simp only [Ft.dirV, hl']
          rfl
        · have hl' := look_at hr g2 hat g3
          have hm := (hP2.map hat g3).drew
          rw [show kvO km d = .map (some (km d.ino)) from if_pos g3] at hnc
          have hkid : (kidM F.L bk (parent p) (base p)).getD (.pointer none) = nptr bk (F.at_ p) := by rw [nptr_kid, hF.kid hr g2]
          have hnc' := hnc.drew
          repeat (first | (apply c_seq) | (apply e_then) | (apply c_skip))
          refine c_quiet (fun x => x = w2.drew) mixed (by kernel_rfl) rfl ?_
          repeat (apply r_op; (first | (apply p_mvS; apply Eq.refl) | (apply p_mvP; apply Eq.refl) | (apply p_nilCheck; apply Eq.refl) | (apply p_fieldAddr; apply Eq.refl) | (apply p_loadF; apply Eq.refl; (first | assumption | (apply Cel.bel; assumption; assumption; apply Nat.zero_lt_succ)); (first | apply Eq.refl | assumption))); apply Eq.refl)
          refine q_call cl55 (.string (base p)) (fun x hx => (base_ok p x hs).mono fun v' w' ⟨e1, e2⟩ => ⟨e2, e1 ▸ hx⟩) rfl ?_
          refine q_op (fun x hx => p_lookupV rfl rfl (hx ▸ hm.mp) hkid) rfl ?_
          repeat (first | (apply e_then) | (apply c_ret) | (apply r_op; (first | (apply p_mvP; apply Eq.refl) | (apply p_asI; apply Eq.refl) | (apply p_asP; apply Eq.refl) | (apply p_assign)); apply Eq.refl) | (apply r_nil))
          refine r_ret3 Tryd.results39 rfl ⟨?_, hb.drew⟩
          simp only [Ft.dirV, hl', hat]
          rw [if_pos ⟨trivial, g2⟩]
          rfl
end
end Go.Proofs.YtmgheamdboiklaaDoor
