/- THE WALKS of the document's answer for patterns (remoraref14): Check, takes, Match. -/
import Derived.Test.YtjcbnohnilffoaaRef14b
import Derived.Test.YtjcbnohnilffoaaRl
set_option linter.unusedVariables false
set_option linter.unusedSimpArgs false
namespace Go.Proofs.Ytjcbnohnilffoaa
open Go.RowKit

theorem rgcheck_ok (p : ByteArray) (w : World) : Ret Try.prog 86 [.string p] w fun v w' => v = .int .i64 (globErr p) ∧ Below w.heap.size w w' := by
  refine calls_in Try.func86 rfl Try.ntmps86 rfl ?_
  repeat (first | (apply w_op; (first | (apply p_mvS; apply Eq.refl) | (apply p_asI; apply Eq.refl) | (apply p_gtr; apply Eq.refl; apply Eq.refl) | (apply p_len_str; apply Eq.refl)); apply Eq.refl) | (apply w_nil) | (apply c_seq) | (apply e_then) | (apply c_region))
  refine c_cond rfl (fun h => ?_) (fun h => ?_)
  · have h' := of_decide_eq_true h
    repeat (first | (apply w_op; (apply p_asI; apply Eq.refl); apply Eq.refl) | (apply w_nil) | (apply c_seq) | (apply e_then) | (apply c_region) | (apply c_ret) | (apply e_then_ret))
    exact r_ret1 Try.results86 rfl ⟨congrArg (Value.int .i64) (by rw [globErr, if_neg (by omega)]), Below.refl _ _⟩
  · have h' : p.size ≤ 100 := by have := of_decide_eq_false h; omega
    repeat (first | (apply w_op; (apply p_mvS; apply Eq.refl); apply Eq.refl) | (apply c_seq) | (apply e_then) | (apply c_region) | (apply c_skip))
    refine w_call cl87 (rsigns_ok p _ h') rfl ?_
    rintro v w1 ⟨⟨u, rfl, -⟩, hb1⟩
    have hpo : patOk p = (globs (lsB p)).isSome := by rw [patOk, decide_eq_true h']; rfl
    repeat (first | (apply w_op; (first | (apply p_mvB; apply Eq.refl) | (apply p_mvT; apply Eq.refl) | (apply p_asB; apply Eq.refl) | (apply p_assign) | (apply p_extract; apply Eq.refl; apply Eq.refl) | (apply p_not; apply Eq.refl)); apply Eq.refl) | (apply w_nil) | (apply c_seq) | (apply e_then) | (apply c_region))
    refine c_cond rfl (fun h2 => ?_) (fun h2 => ?_)
    · have h2' : (globs (lsB p)).isSome = false := by simpa using h2
      repeat (first | (apply w_op; (apply p_asI; apply Eq.refl); apply Eq.refl) | (apply w_nil) | (apply c_seq) | (apply e_then) | (apply c_region) | (apply c_ret) | (apply e_then_ret))
      exact r_ret1 Try.results86 rfl ⟨congrArg (Value.int .i64) (by rw [globErr, if_pos h', hpo, h2']; rfl), hb1⟩
    · have h2' : (globs (lsB p)).isSome = true := by simpa using h2
      repeat (first | (apply w_op; (apply p_asI; apply Eq.refl); apply Eq.refl) | (apply w_nil) | (apply c_seq) | (apply e_then) | (apply c_region) | (apply c_skip) | (apply c_ret))
      exact r_ret1 Try.results86 rfl ⟨congrArg (Value.int .i64) (by rw [globErr, if_pos h', hpo, h2']; rfl), hb1⟩

theorem rtakes_ok (g : G) (b : UInt8) (w : World) : Ret Try.prog 88 [.agg (enGR g).toArray, .int .u8 b.toNat] w fun v w' => v = .bool (g.takes b) ∧ Below w.heap.size w w' := by
  have hbl := b.toNat_lt
  have h47 : decide ((b.toNat : Int) = 47) = decide (b = 47) := decide_eq_decide.2 (byte_is (c := 47))
  refine calls_in Try.func88 rfl Try.ntmps88 rfl ?_
  refine c_seq (c_region (w_box rfl rfl (fun b2 w1 hn => ?_)))
  have ho : Cel w1 ⟨b2, 0, none⟩ (enGR g) := hn.blk.obj0
  have hbel := hn.below (Below.refl _ _) (Nat.le_refl _)
  have hlt := hn.blk.lt
  clear hn
  cases g with
  | lit c =>
    repeat (first | (apply w_op; (first | (apply p_asB; apply Eq.refl) | (apply p_fieldAddr; apply Eq.refl)); apply Eq.refl) | (apply w_nil) | (apply c_seq) | (apply e_then) | (apply c_region))
    refine w_op (p_load0 (cs := enGR (.lit c)) (v := .int .i64 0) rfl (by rw [addr_add_zero]; exact ho) rfl) rfl ?_
    repeat (first | (apply w_op; (first | (apply p_fieldAddr; apply Eq.refl) | (apply p_eql; apply Eq.refl; apply Eq.refl)); apply Eq.refl) | (apply w_nil) | (apply c_seq) | (apply e_then) | (apply c_region) | (apply c_cond_t; apply Eq.refl))
    refine w_op (p_loadF (j := 1) (v := .int .u8 c.toNat) rfl ho rfl) rfl ?_
    repeat (first | (apply w_op; (first | (apply p_mvI; apply Eq.refl) | (apply p_asB; apply Eq.refl) | (apply p_eql; apply Eq.refl; apply Eq.refl)); apply Eq.refl) | (apply w_nil) | (apply e_then) | (apply c_ret) | (apply e_then_ret))
    refine r_ret1 Try.results88 rfl ⟨congrArg Value.bool ?_, hbel⟩
    exact decide_eq_decide.2 ((byte_is (a := c) (c := b)).trans eq_comm)
  | all =>
    repeat (first | (apply w_op; (first | (apply p_asB; apply Eq.refl) | (apply p_fieldAddr; apply Eq.refl)); apply Eq.refl) | (apply w_nil) | (apply c_seq) | (apply e_then) | (apply c_region))
    refine w_op (p_load0 (cs := enGR .all) (v := .int .i64 3) rfl (by rw [addr_add_zero]; exact ho) rfl) rfl ?_
    repeat (first | (apply w_op; (first | (apply p_fieldAddr; apply Eq.refl) | (apply p_eql; apply Eq.refl; apply Eq.refl)); apply Eq.refl) | (apply w_nil) | (apply c_seq) | (apply e_then) | (apply c_region) | (apply c_cond_f; apply Eq.refl) | (apply c_skip))
    refine w_op (p_load0 (cs := enGR .all) (v := .int .i64 3) rfl (by rw [addr_add_zero]; exact ho) rfl) rfl ?_
    repeat (first | (apply w_op; (first | (apply p_asB; apply Eq.refl) | (apply p_eql; apply Eq.refl; apply Eq.refl)); apply Eq.refl) | (apply w_nil) | (apply c_seq) | (apply e_then) | (apply c_region) | (apply c_cond_t; apply Eq.refl) | (apply c_ret) | (apply e_then_ret))
    exact r_ret1 Try.results88 rfl ⟨rfl, hbel⟩
  | some_ =>
    repeat (first | (apply w_op; (first | (apply p_asB; apply Eq.refl) | (apply p_fieldAddr; apply Eq.refl)); apply Eq.refl) | (apply w_nil) | (apply c_seq) | (apply e_then) | (apply c_region))
    refine w_op (p_load0 (cs := enGR .some_) (v := .int .i64 2) rfl (by rw [addr_add_zero]; exact ho) rfl) rfl ?_
    repeat (first | (apply w_op; (first | (apply p_fieldAddr; apply Eq.refl) | (apply p_eql; apply Eq.refl; apply Eq.refl)); apply Eq.refl) | (apply w_nil) | (apply c_seq) | (apply e_then) | (apply c_region) | (apply c_cond_f; apply Eq.refl) | (apply c_skip))
    refine w_op (p_load0 (cs := enGR .some_) (v := .int .i64 2) rfl (by rw [addr_add_zero]; exact ho) rfl) rfl ?_
    repeat (first | (apply w_op; (first | (apply p_fieldAddr; apply Eq.refl) | (apply p_eql; apply Eq.refl; apply Eq.refl)); apply Eq.refl) | (apply w_nil) | (apply c_seq) | (apply e_then) | (apply c_region) | (apply c_cond_f; apply Eq.refl) | (apply c_skip))
    refine w_op (p_load0 (cs := enGR .some_) (v := .int .i64 2) rfl (by rw [addr_add_zero]; exact ho) rfl) rfl ?_
    repeat (first | (apply w_op; (first | (apply p_mvI; apply Eq.refl) | (apply p_asB; apply Eq.refl) | (apply p_eql; apply Eq.refl; apply Eq.refl) | (apply p_neq; apply Eq.refl; apply Eq.refl)); apply Eq.refl) | (apply w_nil) | (apply c_seq) | (apply e_then) | (apply c_region) | (apply c_cond_f; apply Eq.refl) | (apply c_skip) | (apply c_ret))
    refine r_ret1 Try.results88 rfl ⟨congrArg Value.bool ?_, hbel⟩
    show (!decide ((b.toNat : Int) = 47)) = _
    rw [h47]; rfl
  | one =>
    repeat (first | (apply w_op; (first | (apply p_asB; apply Eq.refl) | (apply p_fieldAddr; apply Eq.refl)); apply Eq.refl) | (apply w_nil) | (apply c_seq) | (apply e_then) | (apply c_region))
    refine w_op (p_load0 (cs := enGR .one) (v := .int .i64 1) rfl (by rw [addr_add_zero]; exact ho) rfl) rfl ?_
    repeat (first | (apply w_op; (first | (apply p_fieldAddr; apply Eq.refl) | (apply p_eql; apply Eq.refl; apply Eq.refl)); apply Eq.refl) | (apply w_nil) | (apply c_seq) | (apply e_then) | (apply c_region) | (apply c_cond_f; apply Eq.refl) | (apply c_skip))
    refine w_op (p_load0 (cs := enGR .one) (v := .int .i64 1) rfl (by rw [addr_add_zero]; exact ho) rfl) rfl ?_
    repeat (first | (apply w_op; (first | (apply p_fieldAddr; apply Eq.refl) | (apply p_eql; apply Eq.refl; apply Eq.refl)); apply Eq.refl) | (apply w_nil) | (apply c_seq) | (apply e_then) | (apply c_region) | (apply c_cond_f; apply Eq.refl) | (apply c_skip))
    refine w_op (p_load0 (cs := enGR .one) (v := .int .i64 1) rfl (by rw [addr_add_zero]; exact ho) rfl) rfl ?_
    repeat (first | (apply w_op; (first | (apply p_mvI; apply Eq.refl) | (apply p_asB; apply Eq.refl) | (apply p_eql; apply Eq.refl; apply Eq.refl) | (apply p_neq; apply Eq.refl; apply Eq.refl)); apply Eq.refl) | (apply w_nil) | (apply c_seq) | (apply e_then) | (apply c_region) | (apply c_cond_f; apply Eq.refl) | (apply c_skip) | (apply c_ret))
    refine r_ret1 Try.results88 rfl ⟨congrArg Value.bool ?_, hbel⟩
    show (!decide ((b.toNat : Int) = 47)) = _
    rw [h47]; rfl
  | cls neg set =>
    repeat (first | (apply w_op; (first | (apply p_asB; apply Eq.refl) | (apply p_fieldAddr; apply Eq.refl)); apply Eq.refl) | (apply w_nil) | (apply c_seq) | (apply e_then) | (apply c_region))
    refine w_op (p_load0 (cs := enGR (.cls neg set)) (v := .int .i64 4) rfl (by rw [addr_add_zero]; exact ho) rfl) rfl ?_
    repeat (first | (apply w_op; (first | (apply p_fieldAddr; apply Eq.refl) | (apply p_eql; apply Eq.refl; apply Eq.refl)); apply Eq.refl) | (apply w_nil) | (apply c_seq) | (apply e_then) | (apply c_region) | (apply c_cond_f; apply Eq.refl) | (apply c_skip))
    refine w_op (p_load0 (cs := enGR (.cls neg set)) (v := .int .i64 4) rfl (by rw [addr_add_zero]; exact ho) rfl) rfl ?_
    repeat (first | (apply w_op; (first | (apply p_fieldAddr; apply Eq.refl) | (apply p_eql; apply Eq.refl; apply Eq.refl)); apply Eq.refl) | (apply w_nil) | (apply c_seq) | (apply e_then) | (apply c_region) | (apply c_cond_f; apply Eq.refl) | (apply c_skip))
    refine w_op (p_load0 (cs := enGR (.cls neg set)) (v := .int .i64 4) rfl (by rw [addr_add_zero]; exact ho) rfl) rfl ?_
    repeat (first | (apply w_op; (apply p_eql; apply Eq.refl; apply Eq.refl); apply Eq.refl) | (apply w_nil) | (apply c_seq) | (apply e_then) | (apply c_cond_t; apply Eq.refl))
    refine c_quiet (fun x => x = w1.drew) mixed (by kernel_rfl) rfl ?_
    repeat (apply q_op; intro _ hC; (first | (apply p_mvI; apply Eq.refl) | (apply p_mvB; apply Eq.refl) | (apply p_neq; apply Eq.refl; apply Eq.refl)); apply Eq.refl)
    refine q_bool 20 rfl (fun h => ?_) (fun h => ?_)
    · repeat (first | (apply q_op; intro _ hC; (first | (apply p_mvI; apply Eq.refl) | (apply p_fieldAddr; apply Eq.refl)); apply Eq.refl) | (apply q_on; apply Eq.refl))
      refine q_op (fun x hx => p_indexAddrA rfl rfl (by omega)) rfl ?_
      repeat (apply q_on; apply Eq.refl)
      refine q_op (fun x hx => p_loadA (a' := ((⟨b2, 0, none⟩ : Addr).add 3).add ((b.toNat : Int).toNat * 1)) (v := .bool (set b)) (j := 3 + b.toNat) rfl (by rw [addr_add_add]; simp) (hx ▸ ho.drew) (by rw [enGR, enG_set _ _ hbl]; simp [G.toR])) rfl ?_
      repeat (first | (apply q_op; intro _ hC; (apply p_fieldAddr; apply Eq.refl); apply Eq.refl) | (apply q_on; apply Eq.refl))
      refine q_op (fun x hx => p_loadF (j := 2) (v := .bool neg) rfl (hx ▸ ho.drew) rfl) rfl ?_
      repeat (first | (apply q_op; intro _ hC; (first | (apply p_asB; apply Eq.refl) | (apply p_pick_t; apply Eq.refl; apply Eq.refl) | (apply p_bneq; apply Eq.refl; apply Eq.refl)); apply Eq.refl) | (apply q_on; apply Eq.refl))
      refine q_nil (fun w3 hw3 => ?_)
      subst hw3
      repeat (first | (apply e_then) | (apply c_ret) | (apply e_then_ret))
      refine r_ret1 Try.results88 rfl ⟨congrArg Value.bool ?_, hbel.drew⟩
      rw [h47] at h
      have h' : decide (b = 47) = false := by simpa using h
      simp [G.takes, h']
    · repeat (first | (apply q_op; intro _ hC; (first | (apply p_asB; apply Eq.refl) | (apply p_pick_f; apply Eq.refl; apply Eq.refl)); apply Eq.refl) | (apply q_off; apply Eq.refl; apply Eq.refl))
      refine q_nil (fun w3 hw3 => ?_)
      subst hw3
      repeat (first | (apply e_then) | (apply c_ret) | (apply e_then_ret))
      refine r_ret1 Try.results88 rfl ⟨congrArg Value.bool ?_, hbel.drew⟩
      rw [h47] at h
      have h' : decide (b = 47) = true := by simpa using h
      simp [G.takes, h']

theorem enBs_put (f : Nat → Bool) (m k : Nat) (x : Bool) : (enBs f m).set k (.bool x) = enBs (fun j => if j = k then x else f j) m := by
  apply List.ext_getElem?
  intro j
  simp only [enBs, List.getElem?_set, List.length_map, List.length_range, List.getElem?_map]
  by_cases hj : j < m
  · rw [List.getElem?_range hj]
    by_cases e : k = j
    · subst e; simp [hj]
    · have : ¬ j = k := fun q => e q.symm
      simp [e, this]
  · rw [List.getElem?_eq_none (by simp; omega)]
    by_cases e : k = j
    · subst e; simp [hj]
    · simp [e]
def G.kindR (g : G) : Nat := g.toR.kind
theorem enGR_kind (g : G) : (enGR g)[0]? = some (.int .i64 (g.kindR : Int)) := rfl
theorem star_kindR (g : G) : (decide ((g.kindR : Int) = 2) || decide ((g.kindR : Int) = 3)) = g.star := by cases g <;> rfl
end Go.Proofs.Ytjcbnohnilffoaa
