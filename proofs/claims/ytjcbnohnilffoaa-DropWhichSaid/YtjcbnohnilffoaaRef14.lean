/- THE WALKS of the document's answer for patterns (remoraref14): member, class. -/
import Derived.Test.YtjcbnohnilffoaaGlob2
set_option linter.unusedVariables false
set_option linter.unusedSimpArgs false
namespace Go.Proofs.Ytjcbnohnilffoaa
open Go.RowKit

theorem rbuilt_kind (k : Nat) : Try.prog.built 105 [(0, .int .i64 (k : Int))] = some (enG ⟨k, 0, false, noSet⟩).toArray := by kernel_rfl
theorem rbuilt_lit (c : UInt8) : Try.prog.built 105 [(1, .int .u8 (c.toNat : Int))] = some (enG ⟨0, c, false, noSet⟩).toArray := by kernel_rfl
theorem rmember_ok (p : ByteArray) (a : Nat) (w : World) (hs : p.size ≤ 4611686018427387903) (ha : a ≤ 4611686018427387903) : Ret Try.prog 91 [.string p, .int .i64 a] w fun v w' => w' = w ∧ v = memV (member (lsB p) a) := by
  have hls := ls_len p
  refine calls_in Try.func91 rfl Try.ntmps91 rfl ?_
  repeat (first | (apply w_op; (first | (apply p_mvI; apply Eq.refl) | (apply p_mvS; apply Eq.refl) | (apply p_mvB; apply Eq.refl) | (apply p_asI; apply Eq.refl) | (apply p_asB; apply Eq.refl) | (apply p_lss; apply Eq.refl; apply Eq.refl) | (apply p_len_str; apply Eq.refl)); apply Eq.refl) | (apply w_nil) | (apply c_seq) | (apply e_then) | (apply c_region))
  refine w_bool 11 rfl (fun h1 => ?_) (fun h1 => ?_)
  · have h1' := of_decide_eq_true h1
    repeat (first | (apply w_op; (first | (apply p_mvI; apply Eq.refl) | (apply p_mvS; apply Eq.refl) | (apply p_eql; apply Eq.refl; apply Eq.refl) | (apply p_pick_t; apply Eq.refl; apply Eq.refl) | (apply p_index; apply Eq.refl; apply Eq.refl; omega)); apply Eq.refl) | (apply w_nil) | (apply e_then) | (apply w_on; apply Eq.refl))
    refine c_cond rfl (fun h2 => ?_) (fun h2 => ?_)
    · have h92 : (lsB p)[a]? = some 92 := by rw [bAt_some (by omega)]; congr 1; exact (byte_is (c := 92)).1 (of_decide_eq_true h2)
      have hmem : member (lsB p) a = ((lsB p)[a + 1]?).map (fun c => (c, a + 1 + 1)) := by simp [member, h92]
      repeat (first | (apply w_op; (first | (apply p_mvI; apply Eq.refl) | (apply p_mvS; apply Eq.refl) | (apply p_asI; apply Eq.refl) | (apply p_geq; apply Eq.refl; apply Eq.refl) | (apply p_len_str; apply Eq.refl) | (apply p_add64; apply Eq.refl; apply Eq.refl; omega)); apply Eq.refl) | (apply w_nil) | (apply c_seq) | (apply e_then) | (apply c_region))
      refine c_cond rfl (fun h3 => ?_) (fun h3 => ?_)
      · have h3' := of_decide_eq_true h3
        repeat (first | (apply w_op; (first | (apply p_asI; apply Eq.refl) | (apply p_asB; apply Eq.refl)); apply Eq.refl) | (apply w_nil) | (apply c_seq) | (apply e_then) | (apply c_region) | (apply c_ret) | (apply e_then_ret))
        refine r_ret3 Try.results91 rfl ⟨rfl, ?_⟩
        rw [hmem, List.getElem?_eq_none (by omega)]
        rfl
      · have h3' := of_decide_eq_false h3
        repeat (first | (apply w_op; (first | (apply p_mvI; apply Eq.refl) | (apply p_mvS; apply Eq.refl) | (apply p_asI; apply Eq.refl) | (apply p_asB; apply Eq.refl) | (apply p_add64; apply Eq.refl; apply Eq.refl; omega) | (apply p_index; apply Eq.refl; apply Eq.refl; omega)); apply Eq.refl) | (apply w_nil) | (apply c_seq) | (apply e_then) | (apply c_region) | (apply c_skip) | (apply c_ret))
        refine r_ret3 Try.results91 rfl ⟨rfl, ?_⟩
        rw [hmem, bAt_some (by omega)]
        rfl
    · have h92 : (lsB p)[a]? ≠ some 92 := by rw [bAt_some (by omega)]; intro e; exact of_decide_eq_false h2 ((byte_is (c := 92)).2 (Option.some.inj e))
      have hmem : member (lsB p) a = ((lsB p)[a]?).map (fun c => (c, a + 1)) := by simp [member, h92]
      repeat (first | (apply w_op; (first | (apply p_mvI; apply Eq.refl) | (apply p_mvS; apply Eq.refl) | (apply p_geq; apply Eq.refl; apply Eq.refl) | (apply p_len_str; apply Eq.refl)); apply Eq.refl) | (apply w_nil) | (apply c_seq) | (apply e_then) | (apply c_region) | (apply c_skip))
      refine c_cond rfl (fun h3 => ?_) (fun h3 => ?_)
      · have h3' := of_decide_eq_true h3
        repeat (first | (apply w_op; (first | (apply p_asI; apply Eq.refl) | (apply p_asB; apply Eq.refl)); apply Eq.refl) | (apply w_nil) | (apply c_seq) | (apply e_then) | (apply c_region) | (apply c_ret) | (apply e_then_ret))
        refine r_ret3 Try.results91 rfl ⟨rfl, ?_⟩
        rw [hmem, List.getElem?_eq_none (by omega)]
        rfl
      · have h3' := of_decide_eq_false h3
        repeat (first | (apply w_op; (first | (apply p_mvI; apply Eq.refl) | (apply p_mvS; apply Eq.refl) | (apply p_asI; apply Eq.refl) | (apply p_asB; apply Eq.refl) | (apply p_add64; apply Eq.refl; apply Eq.refl; omega) | (apply p_index; apply Eq.refl; apply Eq.refl; omega)); apply Eq.refl) | (apply w_nil) | (apply c_seq) | (apply e_then) | (apply c_region) | (apply c_skip) | (apply c_ret))
        refine r_ret3 Try.results91 rfl ⟨rfl, ?_⟩
        rw [hmem, bAt_some (by omega)]
        rfl
  · have h1' := of_decide_eq_false h1
    have hmem : member (lsB p) a = ((lsB p)[a]?).map (fun c => (c, a + 1)) := by
      have : (lsB p)[a]? ≠ some 92 := by rw [List.getElem?_eq_none (by omega)]; simp
      simp [member, this]
    repeat (first | (apply w_op; (first | (apply p_mvI; apply Eq.refl) | (apply p_mvS; apply Eq.refl) | (apply p_geq; apply Eq.refl; apply Eq.refl) | (apply p_len_str; apply Eq.refl) | (apply p_pick_f; apply Eq.refl; apply Eq.refl)); apply Eq.refl) | (apply w_nil) | (apply c_seq) | (apply e_then) | (apply c_region) | (apply w_off; apply Eq.refl; apply Eq.refl) | (apply c_cond_f; apply Eq.refl) | (apply c_skip))
    refine c_cond rfl (fun h3 => ?_) (fun h3 => ?_)
    · have h3' := of_decide_eq_true h3
      repeat (first | (apply w_op; (first | (apply p_asI; apply Eq.refl) | (apply p_asB; apply Eq.refl)); apply Eq.refl) | (apply w_nil) | (apply c_seq) | (apply e_then) | (apply c_region) | (apply c_ret) | (apply e_then_ret))
      refine r_ret3 Try.results91 rfl ⟨rfl, ?_⟩
      rw [hmem, List.getElem?_eq_none (by omega)]
      rfl
    · have h3' := of_decide_eq_false h3
      repeat (first | (apply w_op; (first | (apply p_mvI; apply Eq.refl) | (apply p_mvS; apply Eq.refl) | (apply p_asI; apply Eq.refl) | (apply p_asB; apply Eq.refl) | (apply p_add64; apply Eq.refl; apply Eq.refl; omega) | (apply p_index; apply Eq.refl; apply Eq.refl; omega)); apply Eq.refl) | (apply w_nil) | (apply c_seq) | (apply e_then) | (apply c_region) | (apply c_skip) | (apply c_ret))
      refine r_ret3 Try.results91 rfl ⟨rfl, ?_⟩
      rw [hmem, bAt_some (by omega)]
      rfl

/-! ### a class -/
set_option maxRecDepth 100000 in
theorem rclass_ok (p : ByteArray) (a : Nat) (w : World) (hs : p.size ≤ 4611686018427387903) (ha : a ≤ p.size) : Ret Try.prog 90 [.string p, .int .i64 a] w fun v w' =>
    (∃ (x : Sgn) (nx : Int), v = .tuple #[.agg (enG x).toArray, .int .i64 nx, .bool (classF (lsB p) a).isSome] ∧ ∀ neg set m, classF (lsB p) a = some (neg, set, m) → x = ⟨4, 0, neg, set⟩ ∧ nx = ((m : Nat) : Int)) ∧ Below w.heap.size w w' := by
  have hls := ls_len p
  refine calls_in Try.func90 rfl Try.ntmps90 rfl ?_
  repeat (first | (apply c_seq) | (apply c_region))
  refine w_alloc rfl (fun b4 w1 hn4 => ?_)
  obtain ⟨z4, hb4, hlen4⟩ := hn4.zblk Try.prog
  repeat (first | (apply w_op; (first | (apply p_asI; apply Eq.refl) | (apply p_asB; apply Eq.refl)); apply Eq.refl) | (apply w_nil) | (apply c_seq) | (apply e_then) | (apply c_region))
  refine w_op (p_build (rbuilt_kind 4)) rfl ?_
  refine w_alloc rfl (fun b7 w2 hn7 => ?_)
  obtain ⟨z7, hb7, hlen7⟩ := hn7.zblk Try.prog
  have hb42 := hb4.grown (hn7.grown none) (by simp)
  have e4 := hn4.hb
  have e7 := hn7.hb
  have s4 := hn4.size
  have s7 := hn7.size
  have hbel2 := hn7.below (hn4.below (Below.refl w.heap.size w) (Nat.le_refl _)) (by omega)
  refine w_storeW rfl rfl (enG_one _) (enG_size _) hb7 hlen7 (fun w3 hp3 hb73 => ?_)
  have hb43 := hb42.grown hp3.grown (fun e => by injection e; omega)
  have hbel3 := hp3.below hbel2 (by omega) (by omega)
  have s3 := hp3.size
  repeat (first | (apply w_op; (first | (apply p_mvI; apply Eq.refl) | (apply p_mvS; apply Eq.refl) | (apply p_mvB; apply Eq.refl) | (apply p_lss; apply Eq.refl; apply Eq.refl) | (apply p_len_str; apply Eq.refl)); apply Eq.refl) | (apply w_nil) | (apply c_seq) | (apply e_then) | (apply c_region))
  refine w_cut2 [1] [19, 20, 21, 22, 23, 24, 25, 26, 27] (fun vs w4 => vs = [.int .i64 (clsAt (lsB p) a : Nat)] ∧ Blk w4 b7 105 (enG ⟨4, 0, clsNeg (lsB p) a, noSet⟩) ∧ Blk w4 b4 105 z4 ∧ Below w.heap.size w w4 ∧ b7 < w4.heap.size) ?_ ?_
  · refine w_bool 19 rfl (fun h1 => ?_) (fun h1 => ?_)
    · have h1' := of_decide_eq_true h1
      repeat (first | (apply w_op; (first | (apply p_mvI; apply Eq.refl) | (apply p_mvS; apply Eq.refl) | (apply p_eql; apply Eq.refl; apply Eq.refl) | (apply p_pick_t; apply Eq.refl; apply Eq.refl) | (apply p_index; apply Eq.refl; apply Eq.refl; omega)); apply Eq.refl) | (apply w_nil) | (apply e_then) | (apply w_on; apply Eq.refl))
      refine c_cond rfl (fun h2 => ?_) (fun h2 => ?_)
      · have h33 : (lsB p)[a]? = some 33 := by rw [bAt_some (by omega)]; congr 1; exact (byte_is (c := 33)).1 (of_decide_eq_true h2)
        repeat (first | (apply w_op; (apply p_fieldAddr; apply Eq.refl); apply Eq.refl) | (apply c_seq) | (apply c_region))
        refine w_store (v := .bool true) (b := b7) (j := 2) (cs := enG ⟨4, 0, false, noSet⟩) (e := 105) ⟨_, _, inferInstance⟩ rfl (by simp [addr_add_plain]) rfl rfl hb73 rfl (fun w4 hp4 hb74 => ?_)
        repeat (first | (apply w_op; (first | (apply p_mvI; apply Eq.refl) | (apply p_asI; apply Eq.refl) | (apply p_add64; apply Eq.refl; apply Eq.refl; omega)); apply Eq.refl) | (apply w_nil) | (apply e_then) | (apply c_region))
        refine e_ct (by repeat (first | exact Over.base | exact Over.refl | refine Over.put rfl ?_ | refine Over.cnP rfl ?_ | refine Over.zpP rfl ?_)) ?_
        refine ⟨?_, ?_, hb43.grown hp4.grown (fun e => by injection e; omega), hp4.below hbel3 (by omega) (by omega), by have := hp4.size; omega⟩
        · simp [clsAt, h33]; rfl
        · simp only [clsNeg, h33, decide_true]; exact hb74
      · have h33 : (lsB p)[a]? ≠ some 33 := by rw [bAt_some (by omega)]; intro e; exact of_decide_eq_false h2 ((byte_is (c := 33)).2 (Option.some.inj e))
        repeat (apply c_skip)
        refine e_ct (by repeat (first | exact Over.base | exact Over.refl | refine Over.put rfl ?_ | refine Over.cnP rfl ?_ | refine Over.zpP rfl ?_)) ?_
        refine ⟨?_, ?_, hb43, hbel3, by omega⟩
        · simp [clsAt, h33]; rfl
        · simp only [clsNeg, h33, decide_false]; exact hb73
    · have h1' := of_decide_eq_false h1
      have h33 : (lsB p)[a]? ≠ some 33 := by rw [List.getElem?_eq_none (by omega)]; simp
      repeat (first | (apply w_op; (apply p_pick_f; apply Eq.refl; apply Eq.refl); apply Eq.refl) | (apply w_nil) | (apply e_then) | (apply w_off; apply Eq.refl; apply Eq.refl) | (apply c_cond_f; apply Eq.refl) | (apply c_skip))
      refine e_ct (by repeat (first | exact Over.base | exact Over.refl | refine Over.put rfl ?_ | refine Over.cnP rfl ?_ | refine Over.zpP rfl ?_)) ?_
      refine ⟨?_, ?_, hb43, hbel3, by omega⟩
      · simp [clsAt, h33]; rfl
      · simp only [clsNeg, h33, decide_false]; exact hb73
  · rintro _ u w4 ⟨rfl, hb74, hb44, hbel4, s4'⟩
    have hc1 : a ≤ clsAt (lsB p) a ∧ clsAt (lsB p) a ≤ p.size := by
      unfold clsAt
      split
      · rename_i h; have := (List.getElem?_eq_some_iff.1 h).1; omega
      · omega
    repeat (first | (apply w_op; (apply p_asI; apply Eq.refl); apply Eq.refl) | (apply w_nil) | (apply c_seq) | (apply e_then) | (apply c_region) | (apply c_block))
    refine c_loop [1, 8] [5, 6, 9, 10, 11, 12, 13, 28, 29, 30, 31, 32, 33, 34, 35, 36, 37, 38, 39, 40, 41, 42, 43, 44, 45, 46, 47, 48, 49, 50, 51, 52, 53, 54, 55, 56, 57, 58, 59, 60, 61, 62, 63, 64, 65, 66, 67, 68, 69, 70, 71, 72, 73, 74, 75, 76, 77, 78, 79, 80, 81, 82, 83, 84, 85, 86, 87, 88, 89, 90, 91, 92, 93, 94, 95, 96] (fun vs w5 => ∃ (q : Nat) (set : UInt8 → Bool) (K m : Nat), vs = [.int .i64 (q : Int), .int .i64 (m : Int)] ∧ (0 < m ↔ clsAt (lsB p) a < q) ∧ m ≤ q ∧ clsAt (lsB p) a ≤ q ∧ q ≤ p.size ∧ (lsB p).length < q + K ∧
      cls (lsB p) ((lsB p).length + 1) (clsAt (lsB p) a) (fun _ => false) = cls (lsB p) K q set ∧ Blk w5 b7 105 (enG ⟨4, 0, clsNeg (lsB p) a, set⟩) ∧ Blk w5 b4 105 z4 ∧ Below w.heap.size w w5 ∧ b7 < w5.heap.size)
      (fun vs _ => p.size - (intOf (vs.headD undef)).toNat) rfl
      ⟨_, noSet, (lsB p).length + 1, 0, rfl, by omega, Nat.zero_le _, Nat.le_refl _, hc1.2, by omega, rfl, hb74, hb44, hbel4, s4'⟩ ?_
    clear hb44 hb74 hbel4 s4' hb43 hb73 hbel3 hbel2 hb42 hb4 hb7
    rintro _ u w5 ⟨q, set, K, m, rfl, hmq, hmle, hq1, hq2, hK, hinv, hb7, hb4, hbel, s5⟩
    repeat (first | (apply w_op; (first | (apply p_mvI; apply Eq.refl) | (apply p_mvS; apply Eq.refl) | (apply p_mvB; apply Eq.refl) | (apply p_lss; apply Eq.refl; apply Eq.refl) | (apply p_len_str; apply Eq.refl)); apply Eq.refl) | (apply c_seq) | (apply c_region))
    refine w_bool 32 rfl (fun h1 => ?_) (fun h1 => ?_)
    · have h1' := of_decide_eq_true h1
      repeat (first | (apply w_op; (first | (apply p_mvI; apply Eq.refl) | (apply p_mvS; apply Eq.refl) | (apply p_neq; apply Eq.refl; apply Eq.refl) | (apply p_pick_t; apply Eq.refl; apply Eq.refl) | (apply p_index; apply Eq.refl; apply Eq.refl; omega)); apply Eq.refl) | (apply w_nil) | (apply e_then) | (apply w_on; apply Eq.refl))
      refine c_cond rfl (fun h2 => ?_) (fun h2 => ?_)
      · have h93 : (lsB p)[q]? ≠ some 93 := by rw [bAt_some (by omega)]; intro e; have := (byte_is (c := 93)).2 (Option.some.inj e); simp [this] at h2
        obtain ⟨k, rfl, hgo⟩ := cls_go (set := set) hK (by omega) h93
        repeat (first | (apply w_op; (first | (apply p_mvI; apply Eq.refl) | (apply p_mvS; apply Eq.refl)); apply Eq.refl) | (apply c_seq) | (apply e_then) | (apply c_region) | (apply c_block) | (apply c_skip))
        refine w_call cl91 (rmember_ok p q _ hs (by omega)) rfl ?_
        rintro v w6 ⟨rfl, rfl⟩
        cases hm : member (lsB p) q with
        | none =>
          have hnone : classF (lsB p) a = none := classF_bad hinv (by rw [hgo, hm])
          repeat (first | (apply w_op; (first | (apply p_mvB; apply Eq.refl) | (apply p_mvT; apply Eq.refl) | (apply p_asI; apply Eq.refl) | (apply p_asB; apply Eq.refl) | (apply p_extract; apply Eq.refl; apply Eq.refl) | (apply p_not; apply Eq.refl)); apply Eq.refl) | (apply w_nil) | (apply c_seq) | (apply e_then) | (apply c_region) | (apply c_cond_t; apply Eq.refl))
          refine w_op (p_loadS rfl hb7.obj0 (enG_len _)) rfl ?_
          refine w_storeW rfl rfl (enG_one _) (enG_size _) hb4 hlen4 (fun w8 hp8 hb48 => ?_)
          have hbel8 := hp8.below hbel (by omega) (by omega)
          repeat (first | (apply w_op; (first | (apply p_asI; apply Eq.refl) | (apply p_asB; apply Eq.refl)); apply Eq.refl) | (apply w_nil) | (apply e_then) | (apply c_ret) | (apply e_then_ret) | (apply e_bk_ret) | (apply e_lp_ret))
          refine r_retC3 Try.results90 rfl (run_loadS hb48.obj0 (enG_len _)) rfl ⟨⟨⟨4, 0, clsNeg (lsB p) a, set⟩, 0, ?_, ?_⟩, hbel8⟩
          · rw [hnone]; rfl
          · intro neg' set' m' e; rw [hnone] at e; cases e
        | some x =>
          obtain ⟨lo, nx⟩ := x
          have hml := member_lt hm
          rw [hm] at hgo
          simp only at hgo
          repeat (first | (apply w_op; (first | (apply p_mvI; apply Eq.refl) | (apply p_mvS; apply Eq.refl) | (apply p_mvB; apply Eq.refl) | (apply p_mvT; apply Eq.refl) | (apply p_asI; apply Eq.refl) | (apply p_asB; apply Eq.refl) | (apply p_extract; apply Eq.refl; apply Eq.refl) | (apply p_lss; apply Eq.refl; apply Eq.refl) | (apply p_not; apply Eq.refl) | (apply p_len_str; apply Eq.refl) | (apply p_add64; apply Eq.refl; apply Eq.refl; omega)); apply Eq.refl) | (apply w_nil) | (apply c_seq) | (apply e_then) | (apply c_region) | (apply c_cond_f; apply Eq.refl) | (apply c_skip))
          refine w_cut2 [10, 12, 11] [54, 55, 56, 57, 58, 59, 60, 61, 62, 63, 64, 65, 66, 67, 68, 69, 70, 71, 72, 73, 74] (fun vs w7 => w7 = w6 ∧ ((rangeEnd (lsB p) lo nx = none ∧ ∃ (i c : Int), vs = [.int .i64 i, .int .u8 c, .bool false]) ∨ ∃ (hi : UInt8) (nx2 : Nat), vs = [.int .i64 (nx2 : Int), .int .u8 hi.toNat, .bool true] ∧ rangeEnd (lsB p) lo nx = some (hi, nx2))) ?_ ?_
          · refine w_bool 54 rfl (fun g1 => ?_) (fun g1 => ?_)
            · have g1' := of_decide_eq_true g1
              repeat (first | (apply w_op; (first | (apply p_mvI; apply Eq.refl) | (apply p_mvS; apply Eq.refl) | (apply p_mvB; apply Eq.refl) | (apply p_eql; apply Eq.refl; apply Eq.refl) | (apply p_pick_t; apply Eq.refl; apply Eq.refl) | (apply p_index; apply Eq.refl; apply Eq.refl; omega)); apply Eq.refl) | (apply w_on; apply Eq.refl))
              refine w_bool 60 rfl (fun g2 => ?_) (fun g2 => ?_)
              · have h45 : (lsB p)[nx]? = some 45 := by rw [bAt_some (by omega)]; congr 1; exact (byte_is (c := 45)).1 (of_decide_eq_true g2)
                repeat (first | (apply w_op; (first | (apply p_mvI; apply Eq.refl) | (apply p_mvS; apply Eq.refl) | (apply p_neq; apply Eq.refl; apply Eq.refl) | (apply p_pick_t; apply Eq.refl; apply Eq.refl) | (apply p_add64; apply Eq.refl; apply Eq.refl; omega) | (apply p_index; apply Eq.refl; apply Eq.refl; omega)); apply Eq.refl) | (apply w_nil) | (apply e_then) | (apply w_on; apply Eq.refl))
                refine c_cond rfl (fun g3 => ?_) (fun g3 => ?_)
                · have h93' : (lsB p)[nx + 1]? ≠ some 93 := by rw [bAt_some (by omega)]; intro e; have := (byte_is (c := 93)).2 (Option.some.inj e); rw [show ((nx : Int) + 1).toNat = nx + 1 from by omega] at g3; simp [this] at g3
                  have hre : rangeEnd (lsB p) lo nx = member (lsB p) (nx + 1) := by rw [rangeEnd, if_pos ⟨by omega, h45, h93'⟩]
                  repeat (first | (apply w_op; (first | (apply p_mvI; apply Eq.refl) | (apply p_mvS; apply Eq.refl) | (apply p_add64; apply Eq.refl; apply Eq.refl; omega)); apply Eq.refl) | (apply c_region))
                  refine w_call cl91 (rmember_ok p (nx + 1) _ hs (by omega)) rfl ?_
                  rintro v w7 ⟨rfl, rfl⟩
                  cases hm2 : member (lsB p) (nx + 1) with
                  | none =>
                    repeat (first | (apply w_op; (first | (apply p_mvT; apply Eq.refl) | (apply p_asI; apply Eq.refl) | (apply p_asB; apply Eq.refl) | (apply p_extract; apply Eq.refl; apply Eq.refl)); apply Eq.refl) | (apply w_nil))
                    refine e_ct (by repeat (first | exact Over.base | exact Over.refl | refine Over.put rfl ?_ | refine Over.cnP rfl ?_ | refine Over.zpP rfl ?_)) ?_
                    exact ⟨rfl, .inl ⟨by rw [hre, hm2], _, _, rfl⟩⟩
                  | some y =>
                    obtain ⟨hi, nx2⟩ := y
                    repeat (first | (apply w_op; (first | (apply p_mvT; apply Eq.refl) | (apply p_asI; apply Eq.refl) | (apply p_asB; apply Eq.refl) | (apply p_extract; apply Eq.refl; apply Eq.refl)); apply Eq.refl) | (apply w_nil))
                    refine e_ct (by repeat (first | exact Over.base | exact Over.refl | refine Over.put rfl ?_ | refine Over.cnP rfl ?_ | refine Over.zpP rfl ?_)) ?_
                    exact ⟨rfl, .inr ⟨hi, nx2, rfl, by rw [hre, hm2]⟩⟩
                · have h93' : (lsB p)[nx + 1]? = some 93 := by rw [bAt_some (by omega)]; congr 1; rw [show ((nx : Int) + 1).toNat = nx + 1 from by omega] at g3; exact (byte_is (c := 93)).1 (by simpa using g3)
                  repeat (apply c_skip)
                  refine e_ct (by repeat (first | exact Over.base | exact Over.refl | refine Over.put rfl ?_ | refine Over.cnP rfl ?_ | refine Over.zpP rfl ?_)) ?_
                  exact ⟨rfl, .inr ⟨lo, nx, rfl, by rw [rangeEnd, if_neg (fun e => e.2.2 h93')]⟩⟩
              · have h45 : (lsB p)[nx]? ≠ some 45 := by rw [bAt_some (by omega)]; intro e; exact of_decide_eq_false g2 ((byte_is (c := 45)).2 (Option.some.inj e))
                repeat (first | (apply w_op; (apply p_pick_f; apply Eq.refl; apply Eq.refl); apply Eq.refl) | (apply w_nil) | (apply e_then) | (apply w_off; apply Eq.refl; apply Eq.refl) | (apply c_cond_f; apply Eq.refl) | (apply c_skip))
                refine e_ct (by repeat (first | exact Over.base | exact Over.refl | refine Over.put rfl ?_ | refine Over.cnP rfl ?_ | refine Over.zpP rfl ?_)) ?_
                exact ⟨rfl, .inr ⟨lo, nx, rfl, by rw [rangeEnd, if_neg (fun e => h45 e.2.1)]⟩⟩
            · have g1' := of_decide_eq_false g1
              repeat (first | (apply w_op; (first | (apply p_mvB; apply Eq.refl) | (apply p_pick_f; apply Eq.refl; apply Eq.refl)); apply Eq.refl) | (apply w_nil) | (apply e_then) | (apply w_off; apply Eq.refl; apply Eq.refl) | (apply c_cond_f; apply Eq.refl) | (apply c_skip))
              refine e_ct (by repeat (first | exact Over.base | exact Over.refl | refine Over.put rfl ?_ | refine Over.cnP rfl ?_ | refine Over.zpP rfl ?_)) ?_
              exact ⟨rfl, .inr ⟨lo, nx, rfl, by rw [rangeEnd, if_neg (fun e => by omega)]⟩⟩
          · rintro _ u2 w7 ⟨rfl, ⟨hre, i0, c0, rfl⟩ | ⟨hi, nx2, rfl, hre⟩⟩
            · have hnone : classF (lsB p) a = none := classF_bad hinv (by rw [hgo, hre])
              repeat (first | (apply w_op; (first | (apply p_mvB; apply Eq.refl) | (apply p_not; apply Eq.refl) | (apply p_pick_t; apply Eq.refl; apply Eq.refl)); apply Eq.refl) | (apply w_nil) | (apply c_seq) | (apply e_then) | (apply c_region) | (apply w_off; apply Eq.refl; apply Eq.refl) | (apply c_cond_t; apply Eq.refl))
              refine w_op (p_loadS rfl hb7.obj0 (enG_len _)) rfl ?_
              refine w_storeW rfl rfl (enG_one _) (enG_size _) hb4 hlen4 (fun w8 hp8 hb48 => ?_)
              have hbel8 := hp8.below hbel (by omega) (by omega)
              repeat (first | (apply w_op; (first | (apply p_asI; apply Eq.refl) | (apply p_asB; apply Eq.refl)); apply Eq.refl) | (apply w_nil) | (apply e_then) | (apply c_ret) | (apply e_then_ret) | (apply e_bk_ret) | (apply e_lp_ret))
              refine r_retC3 Try.results90 rfl (run_loadS hb48.obj0 (enG_len _)) rfl ⟨⟨⟨4, 0, clsNeg (lsB p) a, set⟩, 0, ?_, ?_⟩, hbel8⟩
              · rw [hnone]; rfl
              · intro neg' set' m' e; rw [hnone] at e; cases e
            repeat (first | (apply w_op; (first | (apply p_mvI; apply Eq.refl) | (apply p_mvB; apply Eq.refl) | (apply p_lss; apply Eq.refl; apply Eq.refl) | (apply p_not; apply Eq.refl) | (apply p_pick_f; apply Eq.refl; apply Eq.refl)); apply Eq.refl) | (apply w_nil) | (apply c_seq) | (apply e_then) | (apply c_region) | (apply w_on; apply Eq.refl))
            by_cases hge : hi.toNat < lo.toNat
            · have hnone : classF (lsB p) a = none := classF_bad hinv (by rw [hgo, hre]; simp [hge])
              refine c_cond rfl (fun g4 => ?_) (fun g4 => absurd (by omega) (of_decide_eq_false g4))
              repeat (first | (apply c_seq) | (apply c_region))
              refine w_op (p_loadS rfl hb7.obj0 (enG_len _)) rfl ?_
              refine w_storeW rfl rfl (enG_one _) (enG_size _) hb4 hlen4 (fun w8 hp8 hb48 => ?_)
              have hbel8 := hp8.below hbel (by omega) (by omega)
              repeat (first | (apply w_op; (first | (apply p_asI; apply Eq.refl) | (apply p_asB; apply Eq.refl)); apply Eq.refl) | (apply w_nil) | (apply e_then) | (apply c_ret) | (apply e_then_ret) | (apply e_bk_ret) | (apply e_lp_ret))
              refine r_retC3 Try.results90 rfl (run_loadS hb48.obj0 (enG_len _)) rfl ⟨⟨⟨4, 0, clsNeg (lsB p) a, set⟩, 0, ?_, ?_⟩, hbel8⟩
              · rw [hnone]; rfl
              · intro neg' set' m' e; rw [hnone] at e; cases e
            refine c_cond rfl (fun g4 => absurd (of_decide_eq_true g4) (by omega)) (fun g4 => ?_)
            have hrl := rangeEnd_lt hm hre
            rw [hre] at hgo
            simp only [if_neg hge] at hgo
            have hlo := lo.toNat_lt
            have hhi := hi.toNat_lt
            repeat (first | (apply w_op; (apply p_mvI; apply Eq.refl); apply Eq.refl) | (apply c_seq) | (apply e_then) | (apply c_region) | (apply c_skip))
            refine w_op (p_conv rfl (conv_u8 _)) rfl ?_
            repeat (first | (apply w_op; (apply p_asI; apply Eq.refl); apply Eq.refl) | (apply w_nil) | (apply e_then) | (apply c_block))
            refine c_loop [13] [85, 86, 87, 88, 89, 90, 91, 92, 93] (fun vs w8 => ∃ c : Nat, vs = [.int .i64 (c : Int)] ∧ lo.toNat ≤ c ∧ c ≤ hi.toNat + 1 ∧ Blk w8 b7 105 (enG ⟨4, 0, clsNeg (lsB p) a, fun x => set x || (decide (lo.toNat ≤ x.toNat) && decide (x.toNat < c))⟩) ∧ Blk w8 b4 105 z4 ∧ Below w.heap.size w w8 ∧ b7 < w8.heap.size)
              (fun vs _ => 300 - (intOf (vs.headD undef)).toNat) rfl ⟨lo.toNat, rfl, Nat.le_refl _, by omega, ?_, hb4, hbel, s5⟩ ?_
            · have : (fun x : UInt8 => set x || (decide (lo.toNat ≤ x.toNat) && decide (x.toNat < lo.toNat))) = set := by
                funext x
                by_cases hx : lo.toNat ≤ x.toNat
                · simp [hx]; omega
                · simp [hx]
              rw [this]
              exact hb7
            · rintro _ u3 w8 ⟨c, rfl, hc3, hc4, hb78, hb48, hbel8, s8⟩
              repeat (first | (apply w_op; (apply p_mvI; apply Eq.refl); apply Eq.refl) | (apply c_seq) | (apply c_region))
              refine w_op (p_conv rfl (conv_u8 _)) rfl ?_
              repeat (first | (apply w_op; (apply p_leq; apply Eq.refl; apply Eq.refl); apply Eq.refl) | (apply w_nil) | (apply e_then))
              refine c_cond rfl (fun g5 => ?_) (fun g5 => ?_)
              · have g5' := of_decide_eq_true g5
                repeat (first | (apply w_op; (first | (apply p_mvI; apply Eq.refl) | (apply p_fieldAddr; apply Eq.refl)); apply Eq.refl) | (apply c_seq) | (apply e_then) | (apply c_region) | (apply c_block) | (apply c_skip))
                refine w_op (p_indexAddrA rfl rfl (by omega)) rfl ?_
                refine w_store (v := .bool true) (b := b7) (j := 3 + c) (cs := enG ⟨4, 0, clsNeg (lsB p) a, _⟩) (e := 105) ⟨_, _, inferInstance⟩ rfl (by simp [addr_add_plain]) rfl rfl hb78 (enG_set _ c (by omega)) (fun w9 hp9 hb79 => ?_)
                rw [enG_put_set _ c (by omega)] at hb79
                repeat (first | (apply w_op; (first | (apply p_mvI; apply Eq.refl) | (apply p_asI; apply Eq.refl) | (apply p_add64; apply Eq.refl; apply Eq.refl; omega)); apply Eq.refl) | (apply w_nil) | (apply e_then) | (apply c_region) | (apply e_bk))
                refine e_lp (by repeat (first | exact Over.base | exact Over.refl | refine Over.put rfl ?_ | refine Over.cnP rfl ?_ | refine Over.zpP rfl ?_)) ?_
                refine ⟨⟨c + 1, rfl, by omega, by omega, ?_, hb48.grown hp9.grown (fun e => by injection e; omega), hp9.below hbel8 (by omega) (by omega), by have := hp9.size; omega⟩, ?_⟩
                · have : (fun x : UInt8 => (set x || (decide (lo.toNat ≤ x.toNat) && decide (x.toNat < c))) || decide (x.toNat = c)) = (fun x : UInt8 => set x || (decide (lo.toNat ≤ x.toNat) && decide (x.toNat < c + 1))) := by
                    funext x
                    cases set x with
                    | true => rfl
                    | false =>
                      rw [Bool.eq_iff_iff]
                      simp
                      omega
                  rw [← this]
                  exact hb79
                · show 300 - ((c : Int) + 1).toNat < 300 - ((c : Int)).toNat
                  omega
              · have g5' := of_decide_eq_false g5
                have ec : c = hi.toNat + 1 := by omega
                subst ec
                repeat (first | (apply w_op; (first | (apply p_mvI; apply Eq.refl) | (apply p_asI; apply Eq.refl) | (apply p_add64; apply Eq.refl; apply Eq.refl; omega)); apply Eq.refl) | (apply w_nil) | (apply c_seq) | (apply e_then) | (apply c_region) | (apply c_exit) | (apply e_then_exit) | (apply e_bk) | (apply e_bk_same) | (apply e_lp_exit))
                refine e_lp (by repeat (first | exact Over.base | exact Over.refl | refine Over.put rfl ?_ | refine Over.cnP rfl ?_ | refine Over.zpP rfl ?_)) ?_
                refine ⟨⟨nx2, rng set lo hi, k, m + 1, rfl, by omega, by omega, by omega, by omega, by omega, by rw [hinv, hgo], ?_, hb48, hbel8, s8⟩, ?_⟩
                · have : (fun x : UInt8 => set x || (decide (lo.toNat ≤ x.toNat) && decide (x.toNat < hi.toNat + 1))) = rng set lo hi := by
                    funext x
                    unfold rng
                    congr 2
                    exact decide_eq_decide.2 (by omega)
                  rw [← this]
                  exact hb78
                · show p.size - ((nx2 : Int)).toNat < p.size - ((q : Int)).toNat
                  omega
      · have h93 : (lsB p)[q]? = some 93 := by rw [bAt_some (by omega)]; congr 1; exact (byte_is (c := 93)).1 (by simpa using h2)
        have hstop := classF_stop hinv hK (by omega) (fun e => e.2 h93)
        repeat (first | (apply c_seq) | (apply e_then) | (apply c_region) | (apply c_exit) | (apply e_then_exit) | (apply e_bk_same) | (apply e_lp_exit))
        refine w_op (p_loadS rfl hb7.obj0 (enG_len _)) rfl ?_
        repeat (apply w_op; (first | (apply p_mvI; apply Eq.refl) | (apply p_mvS; apply Eq.refl) | (apply p_mvB; apply Eq.refl) | (apply p_lss; apply Eq.refl; apply Eq.refl) | (apply p_len_str; apply Eq.refl) | (apply p_add64; apply Eq.refl; apply Eq.refl; omega)); apply Eq.refl)
        refine w_bool 104 rfl (fun g1 => ?_) (fun g1 => ?_)
        · have g1' := of_decide_eq_true g1
          repeat (first | (apply w_op; (first | (apply p_mvI; apply Eq.refl) | (apply p_gtr; apply Eq.refl; apply Eq.refl) | (apply p_pick_t; apply Eq.refl; apply Eq.refl)); apply Eq.refl) | (apply w_on; apply Eq.refl))
          refine w_storeW rfl rfl (enG_one _) (enG_size _) hb4 hlen4 (fun w8 hp8 hb48 => ?_)
          have hbel8 := hp8.below hbel (by omega) (by omega)
          repeat (first | (apply w_op; (first | (apply p_asI; apply Eq.refl) | (apply p_asB; apply Eq.refl)); apply Eq.refl) | (apply w_nil) | (apply e_then) | (apply c_ret))
          refine r_retC3 Try.results90 rfl (run_loadS hb48.obj0 (enG_len _)) rfl ⟨⟨⟨4, 0, clsNeg (lsB p) a, set⟩, (q : Int) + 1, ?_, ?_⟩, hbel8⟩
          · show Value.tuple #[_, .int .i64 ((q : Int) + 1), .bool (decide ((0 : Int) < (m : Int)))] = _
            rw [show decide ((0 : Int) < (m : Int)) = decide ((clsAt (lsB p) a : Int) < (q : Int)) from decide_eq_decide.2 (by omega)]
            rw [hstop]
            by_cases g2 : clsAt (lsB p) a < q
            · rw [if_pos ⟨by omega, g2⟩]; simp [g2]
            · rw [if_neg (fun e => g2 e.2)]; simp [g2]
          · intro neg' set' m' e
            rw [hstop] at e
            split at e
            · cases e; exact ⟨rfl, rfl⟩
            · cases e
        · have g1' := of_decide_eq_false g1
          repeat (first | (apply w_op; (apply p_pick_f; apply Eq.refl; apply Eq.refl); apply Eq.refl) | (apply w_off; apply Eq.refl; apply Eq.refl))
          refine w_storeW rfl rfl (enG_one _) (enG_size _) hb4 hlen4 (fun w8 hp8 hb48 => ?_)
          have hbel8 := hp8.below hbel (by omega) (by omega)
          repeat (first | (apply w_op; (first | (apply p_asI; apply Eq.refl) | (apply p_asB; apply Eq.refl)); apply Eq.refl) | (apply w_nil) | (apply e_then) | (apply c_ret))
          refine r_retC3 Try.results90 rfl (run_loadS hb48.obj0 (enG_len _)) rfl ⟨⟨⟨4, 0, clsNeg (lsB p) a, set⟩, (q : Int) + 1, ?_, ?_⟩, hbel8⟩
          · show Value.tuple #[_, .int .i64 ((q : Int) + 1), .bool false] = _
            rw [hstop, if_neg (fun e => by omega)]
            rfl
          · intro neg' set' m' e
            rw [hstop, if_neg (fun e => by omega)] at e
            cases e
    · have h1' := of_decide_eq_false h1
      have hstop := classF_stop hinv hK (by omega) (fun e => by omega)
      repeat (first | (apply w_op; (apply p_pick_f; apply Eq.refl; apply Eq.refl); apply Eq.refl) | (apply w_nil) | (apply c_seq) | (apply e_then) | (apply c_region) | (apply w_off; apply Eq.refl; apply Eq.refl) | (apply c_cond_f; apply Eq.refl) | (apply c_exit) | (apply e_then_exit) | (apply e_bk_same) | (apply e_lp_exit))
      refine w_op (p_loadS rfl hb7.obj0 (enG_len _)) rfl ?_
      repeat (apply w_op; (first | (apply p_mvI; apply Eq.refl) | (apply p_mvS; apply Eq.refl) | (apply p_mvB; apply Eq.refl) | (apply p_lss; apply Eq.refl; apply Eq.refl) | (apply p_len_str; apply Eq.refl) | (apply p_add64; apply Eq.refl; apply Eq.refl; omega)); apply Eq.refl)
      refine w_bool 104 rfl (fun g1 => ?_) (fun g1 => ?_)
      · have g1' := of_decide_eq_true g1
        repeat (first | (apply w_op; (first | (apply p_mvI; apply Eq.refl) | (apply p_gtr; apply Eq.refl; apply Eq.refl) | (apply p_pick_t; apply Eq.refl; apply Eq.refl)); apply Eq.refl) | (apply w_on; apply Eq.refl))
        refine w_storeW rfl rfl (enG_one _) (enG_size _) hb4 hlen4 (fun w8 hp8 hb48 => ?_)
        have hbel8 := hp8.below hbel (by omega) (by omega)
        repeat (first | (apply w_op; (first | (apply p_asI; apply Eq.refl) | (apply p_asB; apply Eq.refl)); apply Eq.refl) | (apply w_nil) | (apply e_then) | (apply c_ret))
        refine r_retC3 Try.results90 rfl (run_loadS hb48.obj0 (enG_len _)) rfl ⟨⟨⟨4, 0, clsNeg (lsB p) a, set⟩, (q : Int) + 1, ?_, ?_⟩, hbel8⟩
        · show Value.tuple #[_, .int .i64 ((q : Int) + 1), .bool (decide ((0 : Int) < (m : Int)))] = _
          rw [show decide ((0 : Int) < (m : Int)) = decide ((clsAt (lsB p) a : Int) < (q : Int)) from decide_eq_decide.2 (by omega)]
          rw [hstop]
          by_cases g2 : clsAt (lsB p) a < q
          · rw [if_pos ⟨by omega, g2⟩]; simp [g2]
          · rw [if_neg (fun e => g2 e.2)]; simp [g2]
        · intro neg' set' m' e
          rw [hstop] at e
          split at e
          · cases e; exact ⟨rfl, rfl⟩
          · cases e
      · have g1' := of_decide_eq_false g1
        repeat (first | (apply w_op; (apply p_pick_f; apply Eq.refl; apply Eq.refl); apply Eq.refl) | (apply w_off; apply Eq.refl; apply Eq.refl))
        refine w_storeW rfl rfl (enG_one _) (enG_size _) hb4 hlen4 (fun w8 hp8 hb48 => ?_)
        have hbel8 := hp8.below hbel (by omega) (by omega)
        repeat (first | (apply w_op; (first | (apply p_asI; apply Eq.refl) | (apply p_asB; apply Eq.refl)); apply Eq.refl) | (apply w_nil) | (apply e_then) | (apply c_ret))
        refine r_retC3 Try.results90 rfl (run_loadS hb48.obj0 (enG_len _)) rfl ⟨⟨⟨4, 0, clsNeg (lsB p) a, set⟩, (q : Int) + 1, ?_, ?_⟩, hbel8⟩
        · show Value.tuple #[_, .int .i64 ((q : Int) + 1), .bool false] = _
          rw [hstop, if_neg (fun e => by omega)]
          rfl
        · intro neg' set' m' e
          rw [hstop, if_neg (fun e => by omega)] at e
          cases e

end Go.Proofs.Ytjcbnohnilffoaa
