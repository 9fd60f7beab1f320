/- THE WALKS of package drop: Kept. -/
import Derived.Test.YtjcbnohnilffoaaDrop3
set_option linter.unusedVariables false
namespace Go.Proofs.Ytjcbnohnilffoaa
open Go.RowKit

set_option maxRecDepth 100000 in
theorem kept_ok (v1 v2 v3 : Value) (src dst : List En) (rs : List Rl) (p : ByteArray) (w : World) (B : Nat) (h1 : Ens w B v1 src) (h2 : Ens w B v2 dst) (h3 : Rls w B v3 rs) (hB : B ≤ w.heap.size) (hl1 : src.length ≤ 1000000) (hl2 : dst.length ≤ 1000000) (hl3 : rs.length ≤ 1000000)
    (hi1 : EnsIn src) (hi2 : EnsIn dst) (hi3 : RlsIn rs) : Ret Try.prog 12 [v1, v2, v3, .string p] w fun v w' => v = .tuple #[.int .i64 (dropKept src dst rs p).1, .bool (dropKept src dst rs p).2] ∧ Below w.heap.size w w' := by
  obtain ⟨A2, c2, rfl, hc2, hA2⟩ := h2.out
  refine calls_in Try.func12 rfl Try.ntmps12 rfl ?_
  repeat (first | (apply w_op; (first | (apply p_mvL; apply Eq.refl) | (apply p_move) | (apply p_asI; apply Eq.refl) | (apply p_asB; apply Eq.refl)); apply Eq.refl) | (apply w_nil) | (apply c_seq) | (apply e_then) | (apply c_region))
  refine w_call cl20 (look_ok v1 _ v3 src dst rs _ B h1 h2 h3 hB hl1 hl2 hl3 hi1 hi2 hi3) rfl ?_
  rintro v w2 ⟨hlook, hb2⟩
  have z2 := hb2.size
  unfold LookR at hlook
  by_cases hbad : listsBad src dst = true
  · rw [if_pos hbad] at hlook
    subst hlook
    have hd : dropKept src dst rs p = (0, false) := by rw [dropKept, if_pos hbad]
    rw [hd]
    repeat (first | (apply w_op; (first | (apply p_mvP; apply Eq.refl) | (apply p_asP; apply Eq.refl)); apply Eq.refl) | (apply w_nil) | (apply c_seq) | (apply e_then) | (apply c_region))
    refine w_op (p_peqnil (a := none) rfl rfl) rfl ?_
    repeat (first | (apply w_op; (first | (apply p_asI; apply Eq.refl) | (apply p_asB; apply Eq.refl)); apply Eq.refl) | (apply w_nil) | (apply c_seq) | (apply e_then) | (apply c_region) | (apply c_cond_t; apply Eq.refl) | (apply c_ret) | (apply e_then_ret))
    exact r_ret2 Try.results12 rfl ⟨rfl, hb2⟩
  · rw [if_neg hbad] at hlook
    obtain ⟨bx, bs, bw, bk, base, ms, mk, rfl, hLA⟩ := hlook
    have hd : dropKept src dst rs p = match findF p dst 0 with | none => (0, false) | some i => ((whyL src dst rs).getD i 0, true) := by
      rw [dropKept, if_neg hbad]
      cases findF p dst 0 <;> rfl
    have hst2 := hLA.st h2 hB
    repeat (first | (apply w_op; (first | (apply p_mvP; apply Eq.refl) | (apply p_asP; apply Eq.refl)); apply Eq.refl) | (apply w_nil) | (apply c_seq) | (apply e_then) | (apply c_region))
    refine w_op (p_peqnil (a := some ⟨bx, 0, none⟩) rfl rfl) rfl ?_
    repeat (first | (apply w_op; (first | (apply p_mvS; apply Eq.refl) | (apply p_mvL; apply Eq.refl)); apply Eq.refl) | (apply w_nil) | (apply c_seq) | (apply e_then) | (apply c_region) | (apply c_cond_f; apply Eq.refl) | (apply c_skip))
    refine w_call cl15 (find_ok _ dst p _ B (h2.below (hb2.mono hB)) (by omega) hl2) rfl ?_
    rintro v w3 ⟨rfl, hb3⟩
    have hbel3 := hb2.trans (hb3.mono hb2.size)
    have hst3 := hst2.below hb3
    cases hf : findF p dst 0 with
    | none =>
      rw [hf] at hd
      rw [hd]
      repeat (first | (apply w_op; (first | (apply p_mvB; apply Eq.refl) | (apply p_mvT; apply Eq.refl) | (apply p_asI; apply Eq.refl) | (apply p_asB; apply Eq.refl) | (apply p_extract; apply Eq.refl; apply Eq.refl) | (apply p_not; apply Eq.refl)); apply Eq.refl) | (apply w_nil) | (apply c_seq) | (apply e_then) | (apply c_region) | (apply c_cond_t; apply Eq.refl) | (apply c_ret) | (apply e_then_ret))
      exact r_ret2 Try.results12 rfl ⟨rfl, hbel3⟩
    | some i =>
      rw [hf] at hd
      rw [hd]
      obtain ⟨_, e, he, _⟩ := findF_ge p dst 0 i hf
      rw [Nat.sub_zero] at he
      obtain ⟨hi, _⟩ := List.getElem?_eq_some_iff.1 he
      have hwl : (whyL src dst rs).length = dst.length := by rw [whyL, whyR_len]
      obtain ⟨A2', c2', bs', bw', bk', n, v3', mk', hx, hxb, hd', hw, hwb, hm, hmb, hk⟩ := hst3.out
      have hget : (zvs (whyL src dst rs))[i]? = some (.int .i64 ((whyL src dst rs).getD i 0)) := by
        rw [zvs, List.getElem?_map, List.getElem?_eq_getElem (by omega)]
        simp [List.getD, show i < (whyL src dst rs).length by omega]
      repeat (first | (apply w_op; (first | (apply p_mvB; apply Eq.refl) | (apply p_mvP; apply Eq.refl) | (apply p_mvT; apply Eq.refl) | (apply p_asI; apply Eq.refl) | (apply p_asB; apply Eq.refl) | (apply p_nilCheck; apply Eq.refl) | (apply p_fieldAddr; apply Eq.refl) | (apply p_extract; apply Eq.refl; apply Eq.refl) | (apply p_not; apply Eq.refl)); apply Eq.refl) | (apply w_nil) | (apply c_seq) | (apply e_then) | (apply c_region) | (apply c_cond_f; apply Eq.refl) | (apply c_skip))
      refine w_op (p_loadF (j := 3) (v := .slice (some ⟨bw', 0, none⟩) dst.length dst.length) rfl hx rfl) rfl ?_
      repeat (apply w_op; (first | (apply p_mvI; apply Eq.refl) | (apply p_indexAddr; apply Eq.refl; apply Eq.refl; apply Eq.refl; omega)); apply Eq.refl)
      refine w_op (p_loadA (v := .int .i64 ((whyL src dst rs).getD i 0)) (j := i) rfl (by simp) hw.obj0 hget) rfl ?_
      repeat (first | (apply w_op; (first | (apply p_asI; apply Eq.refl) | (apply p_asB; apply Eq.refl)); apply Eq.refl) | (apply w_nil) | (apply e_then) | (apply c_ret))
      exact r_ret2 Try.results12 rfl ⟨rfl, hbel3⟩
end Go.Proofs.Ytjcbnohnilffoaa
