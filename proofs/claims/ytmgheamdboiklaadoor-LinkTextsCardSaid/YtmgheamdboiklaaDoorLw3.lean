/- THE WALKS of package link: Resolve; the chapter's examples. -/
import Derived.Test.YtmgheamdboiklaaDoorLw2
set_option linter.unusedVariables false
set_option linter.unusedSimpArgs false
namespace Go.Proofs.YtmgheamdboiklaaDoor
open Go.RowKit

def muW (b : Nat) (w : World) : Nat := match w.cell? ⟨b, 3, none⟩, w.cell? ⟨b, 2, none⟩ with
  | some (.int _ h), some (.slice _ n _) => (16 - h).toNat * 202 + n
  | _, _ => 0
theorem muW_eq {w : World} {b bt : Nat} {k : Wk} (h : WkS w b bt k) : muW b w = wkM k := by
  obtain ⟨v, h1, h2⟩ := h.blk
  have c3 := h1.obj0.cell (j := 3) rfl
  have c2 := h1.obj0.cell (j := 2) rfl
  obtain ⟨A, c, rfl, _⟩ := h2.1.out
  rw [addr_add_plain] at c2 c3
  unfold muW wkM
  have e3 : w.cell? ⟨b, 3, none⟩ = some (.int .i64 k.hops) := by simpa using c3
  have e2 : w.cell? ⟨b, 2, none⟩ = some (.slice A k.row.length c) := by simpa using c2
  rw [e3, e2]
theorem built_walker (bt : Nat) (A : Option Addr) (n c : Nat) : Tryd.prog.built 57 [(0, .pointer (some ⟨bt, 0, none⟩)), (2, .slice A n c)] = some #[.pointer (some ⟨bt, 0, none⟩), .string { data := #[] }, .slice A n c, .int .i64 0] := by kernel_rfl
section
variable {w : World} {S : Nat → Prop} {bt b : Nat} {F : Ft} {bk km : Int → Nat}
theorem resolve_nil (p : ByteArray) : Ret Tryd.prog 16 [.pointer none, .string p] w fun v w' => w' = w ∧ v = .tuple #[.string noB, .int .i64 1] := by
  refine calls_in Tryd.func16 rfl Tryd.ntmps16 rfl ?_
  repeat (first | (apply w_op; (first | (apply p_mvP; apply Eq.refl) | (apply p_asI; apply Eq.refl) | (apply p_asS; apply Eq.refl) | (apply p_asB; apply Eq.refl) | (apply p_peqnil; apply Eq.refl; apply Eq.refl)); apply Eq.refl) | (apply w_nil) | (apply c_seq) | (apply e_then) | (apply c_region) | (apply c_block) | (apply c_cond_t; apply Eq.refl) | (apply c_ret) | (apply e_then_ret) | (apply e_bk_ret))
  exact r_ret2 Tryd.results16 rfl ⟨rfl, rfl⟩
set_option maxRecDepth 100000 in
theorem resolve_ok (hP : PT w S bt F bk km) (hF : Wf F) (p : ByteArray) (hs : p.size ≤ 1099511627775) : Ret Tryd.prog 16 [.pointer (some ⟨bt, 0, none⟩), .string p] w
    fun v w' => v = .tuple #[.string (resolve F p).1, .int .i64 (resolve F p).2] ∧ Below w.heap.size w w' := by
  refine calls_in Tryd.func16 rfl Tryd.ntmps16 rfl ?_
  repeat (first | (apply w_op; (first | (apply p_mvS; apply Eq.refl) | (apply p_mvP; apply Eq.refl) | (apply p_asI; apply Eq.refl) | (apply p_asS; apply Eq.refl) | (apply p_asB; apply Eq.refl) | (apply p_peqnil; apply Eq.refl; apply Eq.refl)); apply Eq.refl) | (apply w_nil) | (apply c_seq) | (apply e_then) | (apply c_region) | (apply c_block) | (apply c_cond_f; apply Eq.refl))
  refine w_callB cl14 (right_ok p _ hs) rfl (fun w1 hb1 => ?_)
  have z1 := hb1.size
  repeat (first | (apply w_op; (first | (apply p_asB; apply Eq.refl) | (apply p_not; apply Eq.refl)); apply Eq.refl) | (apply w_nil) | (apply e_then))
  first | refine c_ifd rfl (fun g => ?_) (fun g => ?_) | refine c_ifnd rfl (fun g => ?_) (fun g => ?_) | refine c_ifn rfl (fun g => ?_) (fun g => ?_) | refine c_cond rfl (fun g => ?_) (fun g => ?_)
  · have e : resolve F p = (noB, 9) := by rw [resolve, if_pos g]
    repeat (first | (apply w_op; (first | (apply p_asI; apply Eq.refl) | (apply p_asS; apply Eq.refl)); apply Eq.refl) | (apply w_nil) | (apply c_seq) | (apply e_then) | (apply c_region) | (apply c_ret) | (apply e_then_ret) | (apply e_bk_ret))
    exact r_ret2 Tryd.results16 rfl ⟨by rw [e]; rfl, hb1⟩
  · have e : resolve F p = resF F 6000 ⟨noB, split p, 0⟩ := by rw [resolve, if_neg (by simp [g])]
    have hlen := right_len g
    have hsz := right_size g
    repeat (first | (apply w_op; (first | (apply p_mvS; apply Eq.refl) | (apply p_mvP; apply Eq.refl)); apply Eq.refl) | (apply c_seq) | (apply e_then) | (apply c_region) | (apply c_skip) | (apply e_bk))
    refine w_call cl29 (split_ok p _ hs) rfl ?_
    rintro v w2 ⟨hown, hb2⟩
    have z2 := hb2.size
    obtain ⟨A, c, rfl⟩ : ∃ A c, v = .slice A (split p).length c := by
      rcases hown.2 with ⟨e, h0⟩ | ⟨g, cap, cur, e, _⟩
      · exact ⟨none, 0, by rw [e, h0]⟩
      · exact ⟨_, _, e⟩
    have hbel2 := hb1.trans (hb2.mono z1)
    refine w_op (p_build (built_walker bt A (split p).length c)) rfl ?_
    refine w_box rfl rfl (fun b w3 hn3 => ?_)
    have hblk3 : Blk w3 b 57 [.pointer (some ⟨bt, 0, none⟩), .string { data := #[] }, .slice A (split p).length c, .int .i64 0] := hn3.blk
    have e3 := hn3.hb
    have s3 := hn3.size
    have hown3 := own_new hown hn3
    have hbel3 := hn3.below hbel2 (by omega)
    have hbS : ¬ S b := fun q => by have := hP.lt b q; omega
    have hrow3 : RowV w3 b (.slice A (split p).length c) (split p) := by
      refine ⟨Sl.of_own rfl (fun _ => rfl) hown3, ?_⟩
      rcases hown3.2 with ⟨e', h0⟩ | ⟨g', cap, cur, e', hg', hh, _⟩
      · exact .inr ⟨e', List.eq_nil_of_length_eq_zero h0⟩
      · refine .inl ⟨⟨g', 0, none⟩, cap, e', ?_⟩
        show g' ≠ b
        have := (hown.lt g' (by rw [e']; rfl)).2
        omega
    have hks3 : WkS w3 b bt ⟨noB, split p, 0⟩ := ⟨_, hblk3, hrow3⟩
    have hok3 : WkOk F ⟨noB, split p, 0⟩ := ⟨rfl, fun x (hx : x ∈ split p) => by have := splitp_size hx; omega, by show ((split p).length : Int) ≤ 1000 + 0 * 201; omega, Int.le_refl _, (by decide : (0 : Int) ≤ 16)⟩
    have hwm : wkM ⟨noB, split p, 0⟩ ≤ 6000 := by
      show (16 - (0 : Int)).toNat * 202 + (split p).length ≤ 6000
      have : (16 - (0 : Int)).toNat = 16 := rfl
      omega
    clear hown hown3 hn3
    repeat (first | (apply w_op; (apply p_asP; apply Eq.refl); apply Eq.refl) | (apply w_nil) | (apply c_seq) | (apply e_then) | (apply c_block))
    refine c_loop [] [4, 5, 7, 20, 21, 22, 23, 24, 25, 26, 27, 28, 29, 30] (fun vs w4 => vs = [] ∧ ∃ (k : Wk) (n : Nat), WkS w4 b bt k ∧ WkOk F k ∧ wkM k ≤ n ∧ resolve F p = resF F n k ∧ Fr w3 w4 (fun i => i = b)) (fun _ w4 => muW b w4) rfl
      ⟨rfl, ⟨noB, split p, 0⟩, 6000, hks3, hok3, hwm, e, Fr.refl⟩ ?_
    clear hks3 hok3 hblk3 hrow3
    rintro _ u w4 ⟨rfl, k, n, hks, hok, hn, hres, hf⟩
    obtain ⟨v, hb4, hrow⟩ := hks.blk
    have hbc := hb4.obj0
    have hlt := hb4.lt
    obtain ⟨A', c', rfl, _, _⟩ := hrow.1.out
    have hP4 := (hP.below hbel3).fr hf (fun i hi q => hbS (q ▸ hi))
    have hbelow : Below w.heap.size w w4 := hbel3.trans (hf.below (by omega) (fun i hi => by omega))
    repeat (first | (apply w_op; (first | (apply p_mvP; apply Eq.refl) | (apply p_nilCheck; apply Eq.refl) | (apply p_fieldAddr; apply Eq.refl) | (apply p_gtr; apply Eq.refl; apply Eq.refl) | (apply p_len_sl; apply Eq.refl) | (apply p_loadF; apply Eq.refl; (first | assumption | (apply Cel.bel; assumption; assumption; apply Nat.zero_lt_succ)); (first | apply Eq.refl | assumption))); apply Eq.refl) | (apply w_nil) | (apply c_seq) | (apply e_then) | (apply c_region))
    first | refine c_ifd rfl (fun g2 => ?_) (fun g2 => ?_) | refine c_ifnd rfl (fun g2 => ?_) (fun g2 => ?_) | refine c_ifn rfl (fun g2 => ?_) (fun g2 => ?_) | refine c_cond rfl (fun g2 => ?_) (fun g2 => ?_)
    · have hne : k.row ≠ [] := fun q => by rw [q] at g2; simp at g2
      obtain ⟨n', rfl⟩ : ∃ n', n = n' + 1 := ⟨n - 1, by have : 0 < k.row.length := by omega
                                                        unfold wkM at hn; omega⟩
      have hr2 : resF F (n' + 1) k = if (stepP F k).1 ≠ 0 then (noB, (stepP F k).1) else resF F n' (stepP F k).2 := by rw [resF, if_neg hne]
      repeat (first | (apply w_op; (apply p_mvP; apply Eq.refl); apply Eq.refl) | (apply c_seq) | (apply e_then) | (apply c_region) | (apply c_block) | (apply c_skip))
      refine w_call cl32 (step_ok hP4 hF hok hks hbS hne) rfl ?_
      rintro v5 w5 ⟨rfl, hks5, hf5⟩
      have hbelow5 : Below w.heap.size w w5 := hbelow.trans (hf5.below hbelow.size (fun i hi => by omega))
      clear hbc
      repeat (first | (apply w_op; (first | (apply p_mvI; apply Eq.refl) | (apply p_asI; apply Eq.refl) | (apply p_neq; apply Eq.refl; apply Eq.refl)); apply Eq.refl) | (apply w_nil) | (apply c_seq) | (apply e_then) | (apply c_region))
      first | refine c_ifd rfl (fun g3 => ?_) (fun g3 => ?_) | refine c_ifnd rfl (fun g3 => ?_) (fun g3 => ?_) | refine c_ifn rfl (fun g3 => ?_) (fun g3 => ?_) | refine c_cond rfl (fun g3 => ?_) (fun g3 => ?_)
      · have e5 : resolve F p = (noB, (stepP F k).1) := by rw [hres, hr2, if_pos g3]
        repeat (first | (apply w_op; (first | (apply p_mvI; apply Eq.refl) | (apply p_asI; apply Eq.refl) | (apply p_asS; apply Eq.refl)); apply Eq.refl) | (apply w_nil) | (apply c_seq) | (apply e_then) | (apply c_region) | (apply c_ret) | (apply e_then_ret) | (apply e_bk_ret) | (apply e_lp_ret))
        exact r_ret2 Tryd.results16 rfl ⟨by rw [e5]; rfl, hbelow5⟩
      · obtain ⟨k1, k2⟩ := hok.step hF g3 hne
        have e5 : resolve F p = resF F n' (stepP F k).2 := by rw [hres, hr2, if_neg (by simp [g3])]
        repeat (first | (apply c_skip) | (apply e_bk))
        refine e_lp (by repeat (first | exact Over.base | exact Over.refl | refine Over.put rfl ?_ | refine Over.cnP rfl ?_ | refine Over.zpP rfl ?_)) ?_
        refine ⟨⟨rfl, _, n', hks5, k1, by omega, e5, hf.trans hf5 (fun i hi => .inl hi)⟩, ?_⟩
        rw [muW_eq hks5, muW_eq hks]
        exact k2
    · have hnil : k.row = [] := List.eq_nil_of_length_eq_zero (by omega)
      have e5 : resolve F p = (k.at_, 0) := by
        rw [hres]
        cases n with
        | zero => rfl
        | succ n => rw [resF, if_pos hnil]
      repeat (first | (apply w_op; (first | (apply p_mvP; apply Eq.refl) | (apply p_asI; apply Eq.refl) | (apply p_asS; apply Eq.refl) | (apply p_nilCheck; apply Eq.refl) | (apply p_fieldAddr; apply Eq.refl) | (apply p_loadF; apply Eq.refl; (first | assumption | (apply Cel.bel; assumption; assumption; apply Nat.zero_lt_succ)); (first | apply Eq.refl | assumption))); apply Eq.refl) | (apply w_nil) | (apply c_seq) | (apply e_then) | (apply c_region) | (apply c_ret) | (apply c_exit) | (apply e_then_exit) | (apply e_bk_same) | (apply e_lp_exit))
      exact r_ret2 Tryd.results16 rfl ⟨by rw [e5]; rfl, hbelow⟩
end
end Go.Proofs.YtmgheamdboiklaaDoor
