/- THE WALKS of the document's answer for deletions (remoraref24): At, why, ahead. -/
import Derived.Test.YtjcbnohnilffoaaRef20b
import Derived.Test.YtjcbnohnilffoaaRef15b
import Derived.Test.YtjcbnohnilffoaaRo
import Derived.Test.YtjcbnohnilffoaaDrop
set_option linter.unusedVariables false
set_option linter.unusedSimpArgs false
namespace Go.Proofs.Ytjcbnohnilffoaa
open Go.RowKit

abbrev Dist (l : List En) : Prop := ∀ {i j : Nat} (hi : i < l.length) (hj : j < l.length), l[i].path = l[j].path → i = j
theorem findF_none {p : ByteArray} : ∀ {l : List En} {k : Nat}, findF p l k = none → ∀ e ∈ l, e.path ≠ p
  | [], _, _, e, he => by cases he
  | x :: l, k, h, e, he => by
    unfold findF at h
    split at h
    · cases h
    · rename_i hx
      rcases List.mem_cons.1 he with he | he
      · subst he; exact hx
      · exact findF_none h e he

theorem rat_ok (vs : Value) (src : List En) (e : En) (w : World) (B : Nat) (h : Ens w B vs src) (hB : B ≤ w.heap.size) (hl : src.length ≤ 1000000) (hd : Dist src) :
    Ret Try.prog 48 [vs, .agg (enE e).toArray] w fun v w' => v = .bool (there src e) ∧ Below w.heap.size w w' := by
  obtain ⟨A1, c1, rfl, hc1, hA1⟩ := h.out
  refine calls_in Try.func48 rfl Try.ntmps48 rfl ?_
  refine c_seq (c_region (w_box rfl rfl (fun b w1 hn => ?_)))
  have hb : Cel w1 ⟨b, 0, none⟩ (enE e) := hn.blk.obj0
  have hbel := hn.below (Below.refl _ _) (Nat.le_refl _)
  have hs1 := h.below (hbel.mono hB)
  clear hn
  repeat (first | (apply w_op; (first | (apply p_mvL; apply Eq.refl) | (apply p_asB; apply Eq.refl) | (apply p_fieldAddr; apply Eq.refl)); apply Eq.refl) | (apply w_nil) | (apply c_seq) | (apply e_then) | (apply c_region))
  refine w_op (p_load0 (v := .string e.path) rfl (by rw [addr_add_zero]; exact hb) rfl) rfl ?_
  refine w_call cl26 (rfind_ok _ src e.path _ B hs1 hl) rfl ?_
  rintro v w2 ⟨rfl, hv⟩
  cases hf : findF e.path src 0 with
  | none =>
    rw [hf] at hv
    subst hv
    have ht : there src e = false := by unfold there; rw [srcM_none (findF_none hf)]
    repeat (first | (apply w_op; (first | (apply p_mvT; apply Eq.refl) | (apply p_asI; apply Eq.refl) | (apply p_asB; apply Eq.refl) | (apply p_extract; apply Eq.refl; apply Eq.refl)); apply Eq.refl) | (apply w_nil) | (apply c_seq) | (apply e_then))
    refine c_quiet (fun x => x = w2.drew) mixed (by kernel_rfl) rfl ?_
    repeat (first | (apply q_op; intro _ hC; (first | (apply p_mvB; apply Eq.refl) | (apply p_asB; apply Eq.refl) | (apply p_pick_f; apply Eq.refl; apply Eq.refl)); apply Eq.refl) | (apply q_off; apply Eq.refl; apply Eq.refl))
    refine q_nil (fun w3 hw3 => ?_)
    subst hw3
    repeat (first | (apply e_then) | (apply c_ret))
    exact r_ret1 Try.results48 rfl ⟨congrArg Value.bool ht.symm, hbel.drew⟩
  | some k =>
    rw [hf] at hv
    subst hv
    obtain ⟨_, x, hx, _⟩ := findF_ge _ _ _ _ hf
    rw [Nat.sub_zero] at hx
    obtain ⟨hk, _⟩ := List.getElem?_eq_some_iff.1 hx
    have ht := there_of hd hf hk
    obtain ⟨ad, rfl, _, hcel⟩ := hs1.at_ rfl hk
    repeat (first | (apply w_op; (first | (apply p_mvT; apply Eq.refl) | (apply p_asI; apply Eq.refl) | (apply p_asB; apply Eq.refl) | (apply p_extract; apply Eq.refl; apply Eq.refl)); apply Eq.refl) | (apply w_nil) | (apply c_seq) | (apply e_then))
    refine c_quiet (fun x => x = w2.drew) mixed (by kernel_rfl) rfl ?_
    repeat (first | (apply q_op; intro _ hC; (first | (apply p_mvI; apply Eq.refl) | (apply p_mvB; apply Eq.refl) | (apply p_mvL; apply Eq.refl) | (apply p_fieldAddr; apply Eq.refl) | (apply p_indexAddr; apply Eq.refl; apply Eq.refl; apply Eq.refl; omega)); apply Eq.refl) | (apply q_on; apply Eq.refl))
    refine q_op (fun x hx => p_loadA (a' := (ad.add ((k : Int).toNat * 11)).add 1) (v := .int .i64 src[k].kind) (j := 1) rfl (by simp) (hx ▸ hcel.drew) rfl) rfl ?_
    repeat (first | (apply q_op; intro _ hC; (first | (apply p_fieldAddr; apply Eq.refl) | (apply p_eql; apply Eq.refl; apply Eq.refl)); apply Eq.refl) | (apply q_on; apply Eq.refl))
    refine q_op (fun x hx => p_loadF (j := 1) (v := .int .i64 e.kind) rfl (hx ▸ hb.drew) rfl) rfl ?_
    repeat (first | (apply q_op; intro _ hC; (first | (apply p_asB; apply Eq.refl) | (apply p_eql; apply Eq.refl; apply Eq.refl) | (apply p_pick_t; apply Eq.refl; apply Eq.refl) | (apply p_beql; apply Eq.refl; apply Eq.refl)); apply Eq.refl) | (apply q_on; apply Eq.refl))
    refine q_nil (fun w3 hw3 => ?_)
    subst hw3
    repeat (first | (apply e_then) | (apply c_ret))
    refine r_ret1 Try.results48 rfl ⟨congrArg Value.bool ?_, hbel.drew⟩
    rw [ht]; rfl

theorem rahead_ok (a b : ByteArray) (w : World) (ha : a.size ≤ 1099511627775) (hb : b.size ≤ 1099511627775) : Ret Try.prog 40 [.string a, .string b] w fun v w' => v = .bool (aheadB a b) ∧ Below w.heap.size w w' := by
  refine calls_in Try.func40 rfl Try.ntmps40 rfl ?_
  repeat (first | (apply w_op; (first | (apply p_mvS; apply Eq.refl) | (apply p_asB; apply Eq.refl)); apply Eq.refl) | (apply w_nil) | (apply c_seq) | (apply e_then) | (apply c_region))
  refine w_call cl38 (runder_ok a b _ ha hb) rfl ?_
  rintro v w1 ⟨rfl, hb1⟩
  repeat (first | (apply w_nil) | (apply e_then))
  refine c_cond rfl (fun h => ?_) (fun h => ?_)
  · repeat (first | (apply w_op; (apply p_asB; apply Eq.refl); apply Eq.refl) | (apply w_nil) | (apply c_seq) | (apply e_then) | (apply c_region) | (apply c_ret) | (apply e_then_ret))
    exact r_ret1 Try.results40 rfl ⟨congrArg Value.bool (by rw [aheadB, h]; rfl), hb1⟩
  · repeat (first | (apply w_op; (apply p_mvS; apply Eq.refl); apply Eq.refl) | (apply c_seq) | (apply e_then) | (apply c_region) | (apply c_skip))
    refine w_call cl38 (runder_ok b a _ hb ha) rfl ?_
    rintro v w2 ⟨rfl, hb2⟩
    have hbel2 := hb1.trans (hb2.mono hb1.size)
    repeat (apply w_op; (first | (apply p_mvB; apply Eq.refl) | (apply p_not; apply Eq.refl)); apply Eq.refl)
    refine w_bool 12 rfl (fun h2 => ?_) (fun h2 => ?_)
    · repeat (first | (apply w_op; (apply p_mvS; apply Eq.refl); apply Eq.refl) | (apply w_on; apply Eq.refl))
      refine w_call cl47 (rless_ok a b _ ha hb) rfl ?_
      rintro v w3 ⟨rfl, hb3⟩
      repeat (first | (apply w_op; (first | (apply p_asB; apply Eq.refl) | (apply p_pick_t; apply Eq.refl; apply Eq.refl)); apply Eq.refl) | (apply w_nil) | (apply e_then) | (apply c_ret))
      exact r_ret1 Try.results40 rfl ⟨congrArg Value.bool (by rw [aheadB, h, h2]; rfl), hbel2.trans (hb3.mono hbel2.size)⟩
    · repeat (first | (apply w_op; (first | (apply p_asB; apply Eq.refl) | (apply p_pick_f; apply Eq.refl; apply Eq.refl)); apply Eq.refl) | (apply w_nil) | (apply e_then) | (apply w_off; apply Eq.refl; apply Eq.refl) | (apply c_ret))
      exact r_ret1 Try.results40 rfl ⟨congrArg Value.bool (by rw [aheadB, h, h2]; rfl), hbel2⟩

theorem rwhy_ok (vs vr : Value) (src : List En) (rs : List Rl) (e : En) (w : World) (B : Nat) (h : Ens w B vs src) (h3 : Rls w B vr rs) (hB : B ≤ w.heap.size) (hl : src.length ≤ 1000000) (hd : Dist src) (hri : RlsIn rs) (hrl : rs.length ≤ 1000000) (hp : e.path.size ≤ 1099511627775) :
    Ret Try.prog 37 [vs, .agg (enE e).toArray, vr] w fun v w' => v = .int .i64 (why0 src rs e) ∧ Below w.heap.size w w' := by
  refine calls_in Try.func37 rfl Try.ntmps37 rfl ?_
  refine c_seq (c_region (w_box rfl rfl (fun b w1 hn => ?_)))
  have hb : Cel w1 ⟨b, 0, none⟩ (enE e) := hn.blk.obj0
  have hbel := hn.below (Below.refl _ _) (Nat.le_refl _)
  have hlt := hn.blk.lt
  have z1 := hbel.size
  clear hn
  repeat (first | (apply w_op; (first | (apply p_move) | (apply p_asI; apply Eq.refl)); apply Eq.refl) | (apply w_nil) | (apply c_seq) | (apply e_then) | (apply c_region))
  refine w_op (p_loadS rfl hb rfl) rfl ?_
  refine w_call cl48 (rat_ok vs src e _ B (h.below (hbel.mono hB)) (by omega) hl hd) rfl ?_
  rintro v w2 ⟨rfl, hb2⟩
  have hbel2 := hbel.trans (hb2.mono z1)
  have hc2 := hb.below hb2 hlt
  have z2 := hb2.size
  have hlt2 : b < w2.heap.size := Nat.lt_of_lt_of_le hlt z2
  repeat (first | (apply w_nil) | (apply e_then))
  refine c_cond rfl (fun q => ?_) (fun q => ?_)
  · repeat (first | (apply w_op; (apply p_asI; apply Eq.refl); apply Eq.refl) | (apply w_nil) | (apply c_seq) | (apply e_then) | (apply c_region) | (apply c_ret) | (apply e_then_ret))
    exact r_ret1 Try.results37 rfl ⟨congrArg (Value.int .i64) (by rw [why0, if_pos q]), hbel2⟩
  · have hw : why0 src rs e = whyB rs e := by rw [why0, if_neg (by simp [q])]
    repeat (first | (apply w_op; (first | (apply p_move) | (apply p_fieldAddr; apply Eq.refl)); apply Eq.refl) | (apply c_seq) | (apply e_then) | (apply c_region) | (apply c_skip))
    refine w_op (p_load0 (v := .string e.path) rfl (by rw [addr_add_zero]; exact hc2) rfl) rfl ?_
    repeat (apply w_op; (apply p_fieldAddr; apply Eq.refl); apply Eq.refl)
    refine w_op (p_loadF (j := 1) (v := .int .i64 e.kind) rfl hc2 rfl) rfl ?_
    repeat (apply w_op; (apply p_eql; apply Eq.refl; apply Eq.refl); apply Eq.refl)
    refine w_call cl49 (rrhid_ok vr rs e.path (isDir e) _ B (h3.below (hbel2.mono hB)) (by omega) hri hrl hp) rfl ?_
    rintro v w3 ⟨rfl, hb3⟩
    have hbel3 := hbel2.trans (hb3.mono hbel2.size)
    have hc3 := hc2.below hb3 hlt2
    have z3 := hb3.size
    repeat (first | (apply w_nil) | (apply e_then))
    refine c_cond rfl (fun q2 => ?_) (fun q2 => ?_)
    · repeat (first | (apply w_op; (apply p_asI; apply Eq.refl); apply Eq.refl) | (apply w_nil) | (apply c_seq) | (apply e_then) | (apply c_region) | (apply c_ret) | (apply e_then_ret))
      exact r_ret1 Try.results37 rfl ⟨congrArg (Value.int .i64) (by rw [hw, whyB, if_pos q2]), hbel3⟩
    · repeat (first | (apply w_op; (first | (apply p_move) | (apply p_fieldAddr; apply Eq.refl)); apply Eq.refl) | (apply c_seq) | (apply e_then) | (apply c_region) | (apply c_skip))
      refine w_op (p_load0 (v := .string e.path) rfl (by rw [addr_add_zero]; exact hc3) rfl) rfl ?_
      repeat (apply w_op; (apply p_fieldAddr; apply Eq.refl); apply Eq.refl)
      refine w_op (p_loadF (j := 1) (v := .int .i64 e.kind) rfl hc3 rfl) rfl ?_
      repeat (apply w_op; (apply p_eql; apply Eq.refl; apply Eq.refl); apply Eq.refl)
      refine w_call cl50 (rrsafe_ok vr rs e.path (isDir e) _ B (h3.below (hbel3.mono hB)) (by omega) hri hrl hp) rfl ?_
      rintro v w4 ⟨rfl, hb4⟩
      have hbel4 := hbel3.trans (hb4.mono hbel3.size)
      repeat (first | (apply w_nil) | (apply e_then))
      refine c_cond rfl (fun q3 => ?_) (fun q3 => ?_)
      · repeat (first | (apply w_op; (apply p_asI; apply Eq.refl); apply Eq.refl) | (apply w_nil) | (apply c_seq) | (apply e_then) | (apply c_region) | (apply c_ret) | (apply e_then_ret))
        exact r_ret1 Try.results37 rfl ⟨congrArg (Value.int .i64) (by rw [hw, whyB, if_neg (by simp [q2]), if_pos q3]), hbel4⟩
      · repeat (first | (apply w_op; (apply p_asI; apply Eq.refl); apply Eq.refl) | (apply w_nil) | (apply c_seq) | (apply e_then) | (apply c_region) | (apply c_skip) | (apply c_ret))
        exact r_ret1 Try.results37 rfl ⟨congrArg (Value.int .i64) (by rw [hw, whyB, if_neg (by simp [q2]), if_neg (by simp [q3])]), hbel4⟩
end Go.Proofs.Ytjcbnohnilffoaa
