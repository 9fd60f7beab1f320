/- THE WALKS of package path. -/
import Derived.Test.YtmgheamdboiklaaDoorMem
import Derived.Test.YtmgheamdboiklaaDoorTab
set_option linter.unusedVariables false
namespace Go.Proofs.YtmgheamdboiklaaDoor
open Go.RowKit

theorem split_ok (s : ByteArray) (w : World) (hs : s.size ≤ 1099511627775) : Ret Tryd.prog 29 [.string s] w fun v w' =>
    w'.ownsRow w.heap.size 9 1 v (split s).length ((split s).flatMap enS) ∧ Below w.heap.size w w' := by
  have hls := ls_len s
  refine calls_in Tryd.func29 rfl Tryd.ntmps29 rfl ?_
  repeat (first | (apply w_op; (first | (apply p_mvS; apply Eq.refl) | (apply p_asL; apply Eq.refl) | (apply p_seql; apply Eq.refl; apply Eq.refl)); apply Eq.refl) | (apply w_nil) | (apply c_seq) | (apply e_then) | (apply c_region))
  refine c_cond rfl (fun h => ?_) (fun h => ?_)
  · repeat (first | (apply w_op; (apply p_asL; apply Eq.refl); apply Eq.refl) | (apply w_nil) | (apply c_seq) | (apply e_then) | (apply c_region) | (apply c_ret) | (apply e_then_ret))
    refine r_ret1 Tryd.results29 rfl ?_
    have h0 : split s = [] := by rw [of_decide_eq_true h]; exact split_nil
    rw [h0]
    exact ⟨World.ownsRow_nil w _ _ _, Below.refl _ _⟩
  · have hne : lsB s ≠ [] := fun e => of_decide_eq_false h (ls_inj (by rw [e]; rfl))
    repeat (first | (apply w_op; (first | (apply p_mvS; apply Eq.refl) | (apply p_asI; apply Eq.refl) | (apply p_asL; apply Eq.refl)); apply Eq.refl) | (apply w_nil) | (apply c_seq) | (apply e_then) | (apply c_region) | (apply c_skip))
    refine w_range_str rfl rfl (fun b w1 hn => ?_)
    have hb := hn.hb
    have hsz := hn.size
    repeat (first | (apply w_nil) | (apply e_then) | (apply c_block))
    refine c_loop [3, 4] [5, 6, 11, 12, 13, 14, 15, 16, 17, 18, 19, 20, 21, 22, 23, 24, 25] (fun vs w2 => ∃ v out start q, vs = [v, .int .i64 ((start : Nat) : Int)] ∧ Iter w2 b s q ∧ Cutting 47 (lsB s) out start q ∧
      w2.ownsRow w1.heap.size 9 1 v (out.map mkB).length ((out.map mkB).flatMap enS) ∧ Below w.heap.size w w2 ∧ w1.heap.size ≤ w2.heap.size) (fun _ w2 => s.size - iterPos w2 b) rfl
      ⟨.slice none 0 0, [], 0, 0, rfl, hn.iter, Cutting.start 47 _, World.ownsRow_nil _ _ _ _, hn.below (Below.refl _ _) (Nat.le_refl _), Nat.le_refl _⟩ ?_
    rintro _ u w2 ⟨v, out, start, q, rfl, hit, hcut, hown, hbel, hsz2⟩
    have hst := hcut.start_le
    have hfew := hcut.few
    have hb2 : b < w1.heap.size := by omega
    by_cases hq : q < s.size
    · obtain ⟨d1, d2, d3, d4, d5⟩ := decode_slash hq
      have hle := hcut.le
      refine c_seq (c_region (w_next_more rfl hit hq rfl (fun w3 hput hit3 => ?_)))
      have hown3 := own_put hown hput (own_ne hown hb2)
      have hbel3 := hput.below hbel (by omega) (by omega)
      have hsz3 := hput.size
      repeat (first | (apply w_op; (first | (apply p_mvI; apply Eq.refl) | (apply p_asI; apply Eq.refl) | (apply p_extract; apply Eq.refl; apply Eq.refl) | (apply p_eql; apply Eq.refl; apply Eq.refl)); apply Eq.refl) | (apply w_nil) | (apply c_seq) | (apply e_then) | (apply c_region) | (apply c_block) | (apply c_cond_t; apply Eq.refl) | (apply c_skip))
      refine c_cond rfl (fun h16 => ?_) (fun h16 => ?_)
      · have h47 : (Utf8.decode s q).1 = 47 := by have := of_decide_eq_true h16; omega
        repeat (first | (apply w_op; (first | (apply p_mvI; apply Eq.refl) | (apply p_mvS; apply Eq.refl) | (apply p_move) | (apply p_sub_lh; apply Eq.refl; apply Eq.refl; apply Eq.refl; omega)); apply Eq.refl) | (apply c_seq) | (apply c_region))
        refine w_app1 (v1 := .string (s.extract (start : Int).toNat (q : Int).toNat)) rfl (fun _ => rfl) hown3 rfl rfl (by simp only [List.length_map]; omega) rfl rfl (fun v4 w4 u4 hown4 hg4 hbl4 hs4 hnn4 => ?_)
        repeat (first | (apply w_op; (first | (apply p_mvI; apply Eq.refl) | (apply p_asI; apply Eq.refl) | (apply p_assign) | (apply p_add64; apply Eq.refl; apply Eq.refl; omega)); apply Eq.refl) | (apply w_nil) | (apply e_then) | (apply c_region) | (apply e_bk))
        have hc2 := hcut.hit (d3.1 h47)
        refine e_lp (by repeat (first | exact Over.base | exact Over.refl | refine Over.put rfl ?_ | refine Over.cnP rfl ?_ | refine Over.zpP rfl ?_)) ?_
        refine ⟨⟨v4, _, q + 1, q + 1, rfl, ?_, hc2, ?_, below_own hg4 hbel3 (by omega) hown3 (by omega), by have := hg4.size; omega⟩, ?_⟩
        · have := hit3.grown hg4 (own_ne hown3 hb2)
          rwa [d4 h47] at this
        · simp only [Int.toNat_natCast, extract_eq] at hown4
          simpa [enS, Value.cells] using hown4
        · rw [(hit3.grown hg4 (own_ne hown3 hb2)).pos, hit.pos]
          omega
      · have h47 : (Utf8.decode s q).1 ≠ 47 := by have := of_decide_eq_false h16; omega
        have hm : Cutting 47 (lsB s) out start (q + (Utf8.decode s q).2) := hcut.miss (by omega) (by omega) (fun j h1 h2 => by
          by_cases hj : j = q
          · subst hj; exact fun e => h47 (d3.2 e)
          · exact d5 j (by omega) h2)
        repeat (first | (apply c_skip) | (apply e_bk))
        refine e_lp (by repeat (first | exact Over.base | exact Over.refl | refine Over.put rfl ?_ | refine Over.cnP rfl ?_ | refine Over.zpP rfl ?_)) ?_
        refine ⟨⟨v, out, start, _, rfl, hit3, hm, hown3, hbel3, by omega⟩, ?_⟩
        rw [hit3.pos, hit.pos]
        omega
    · refine c_seq (c_region (w_op (p_next_over rfl hit hq) rfl ?_))
      repeat (first | (apply w_op; (first | (apply p_mvI; apply Eq.refl) | (apply p_mvS; apply Eq.refl) | (apply p_move) | (apply p_extract; apply Eq.refl; apply Eq.refl) | (apply p_sub_l; apply Eq.refl; apply Eq.refl; omega)); apply Eq.refl) | (apply w_nil) | (apply c_seq) | (apply e_then) | (apply c_region) | (apply c_cond_f; apply Eq.refl) | (apply c_exit) | (apply e_then_exit) | (apply e_bk_same) | (apply e_lp_exit))
      refine w_app1 (v1 := .string (s.extract (start : Int).toNat s.size)) rfl (fun _ => rfl) hown rfl rfl (by simp only [List.length_map]; omega) rfl rfl (fun v4 w4 u4 hown4 hg4 hbl4 hs4 hnn4 => ?_)
      repeat (first | (apply w_op; (apply p_assign); apply Eq.refl) | (apply w_nil) | (apply e_then) | (apply c_ret))
      refine r_ret1 Tryd.results29 rfl ?_
      have hd := hcut.done (by omega)
      have hsp : split s = (out ++ [(lsB s).drop start]).map mkB := by rw [split, partsL, if_neg hne, hd]
      rw [hsp]
      refine ⟨own_le ?_ (by omega : w.heap.size ≤ w1.heap.size), below_own hg4 hbel (by omega) hown (by omega)⟩
      show w4.ownsRow w1.heap.size _ 1 v4 _ _
      simp only [Int.toNat_natCast, extract_eq] at hown4
      rw [List.take_of_length_le (by simp; omega)] at hown4
      simpa [enS, Value.cells] using hown4

/-! ### bytes looked for -/
theorem byteArg (c : UInt8) : ((c.toNat : Int)).toNat.toUInt8 = c := by simp

theorem ixb75 (s : ByteArray) (c : UInt8) (w : World) : (callFunc 71 #[.string s, .int .u8 c.toNat]).run Tryd.prog w = .ok (.value (.int .i64 (Lib.indexByte (lsB s) c))) w := by
  rw [run_callFunc_extern Tryd.func71 (by kernel_rfl) (by kernel_rfl) (by kernel_rfl) (e := Extern.BytealgIndexByte.indexByte) (by kernel_rfl)]
  rw [Lib.run_indexByteString, byteArg]
  rfl

theorem indexByte_lite_ok (s : ByteArray) (c : UInt8) (w : World) : Ret Tryd.prog 61 [.string s, .int .u8 c.toNat] w fun v w' => w' = w ∧ v = .int .i64 (Lib.indexByte (lsB s) c) := by
  refine calls_in Tryd.func61 rfl Tryd.ntmps61 rfl ?_
  repeat (first | (apply w_op; (first | (apply p_mvI; apply Eq.refl) | (apply p_mvS; apply Eq.refl) | (apply p_asI; apply Eq.refl)); apply Eq.refl) | (apply w_nil) | (apply c_seq) | (apply e_then) | (apply c_region))
  refine w_op (p_extern (fun _ => rfl) rfl (ixb75 s c _)) rfl ?_
  repeat (first | (apply w_op; (apply p_asI; apply Eq.refl); apply Eq.refl) | (apply w_nil) | (apply e_then) | (apply c_ret))
  refine r_ret1 Tryd.results61 rfl ?_
  exact ⟨rfl, rfl⟩

theorem indexByte_ok (s : ByteArray) (c : UInt8) (w : World) : Ret Tryd.prog 45 [.string s, .int .u8 c.toNat] w fun v w' => w' = w ∧ v = .int .i64 (Lib.indexByte (lsB s) c) := by
  refine calls_in Tryd.func45 rfl Tryd.ntmps45 rfl ?_
  repeat (first | (apply w_op; (first | (apply p_mvI; apply Eq.refl) | (apply p_mvS; apply Eq.refl) | (apply p_asI; apply Eq.refl)); apply Eq.refl) | (apply w_nil) | (apply c_seq) | (apply e_then) | (apply c_region))
  refine w_call cl61 (indexByte_lite_ok s c _) rfl ?_
  rintro v w1 ⟨rfl, rfl⟩
  repeat (first | (apply w_op; (apply p_asI; apply Eq.refl); apply Eq.refl) | (apply w_nil) | (apply e_then) | (apply c_ret))
  refine r_ret1 Tryd.results45 rfl ?_
  exact ⟨rfl, rfl⟩

theorem lastIx_lite_ok (s : ByteArray) (c : UInt8) (w : World) (hs : s.size ≤ 1099511627775) : Ret Tryd.prog 53 [.string s, .int .u8 c.toNat] w fun v w' => w' = w ∧
    ((v = .int .i64 (-1) ∧ c ∉ lsB s) ∨ ∃ i : Nat, v = .int .i64 i ∧ i < s.size ∧ (lsB s)[i]? = some c ∧ ∀ j, i < j → (lsB s)[j]? ≠ some c) := by
  have hls := ls_len s
  refine calls_in Tryd.func53 rfl Tryd.ntmps53 rfl ?_
  repeat (first | (apply w_op; (first | (apply p_mvS; apply Eq.refl) | (apply p_asI; apply Eq.refl) | (apply p_len_str; apply Eq.refl) | (apply p_sub64; apply Eq.refl; apply Eq.refl; omega)); apply Eq.refl) | (apply w_nil) | (apply c_seq) | (apply e_then) | (apply c_region) | (apply c_block))
  refine c_loop [5] [4, 9, 10, 11, 12, 13, 14, 15, 16, 17, 18] (fun vs w2 => ∃ k : Nat, vs = [.int .i64 ((k : Int) - 1)] ∧ k ≤ s.size ∧ (∀ j, k ≤ j → (lsB s)[j]? ≠ some c) ∧ w2 = w) (fun vs _ => (intOf (vs.headD undef) + 1).toNat) rfl
    ⟨s.size, rfl, Nat.le_refl _, fun j hj => by rw [List.getElem?_eq_none (by omega)]; simp, rfl⟩ ?_
  rintro _ u w2 ⟨k, rfl, hk, hj, rfl⟩
  repeat (first | (apply w_op; (first | (apply p_mvI; apply Eq.refl) | (apply p_geq; apply Eq.refl; apply Eq.refl)); apply Eq.refl) | (apply w_nil) | (apply c_seq) | (apply e_then) | (apply c_region))
  refine c_cond rfl (fun h => ?_) (fun h => ?_)
  · have h1 := of_decide_eq_true h
    repeat (first | (apply w_op; (first | (apply p_mvI; apply Eq.refl) | (apply p_mvS; apply Eq.refl) | (apply p_eql; apply Eq.refl; apply Eq.refl) | (apply p_index; apply Eq.refl; apply Eq.refl; omega)); apply Eq.refl) | (apply w_nil) | (apply c_seq) | (apply e_then) | (apply c_region) | (apply c_block) | (apply c_skip))
    have hb : (lsB s)[k - 1]? = some (bAt s (k - 1)) := by
      rw [bAt_get, List.getD, List.getElem?_eq_getElem (by omega)]; rfl
    have hkk : ((k : Int) - 1).toNat = k - 1 := by omega
    skip
    refine c_cond rfl (fun h17 => ?_) (fun h17 => ?_)
    · have h2 := of_decide_eq_true h17
      rw [hkk] at h2
      have h3 : bAt s (k - 1) = c := UInt8.toNat_inj.1 (by omega)
      repeat (first | (apply w_op; (first | (apply p_mvI; apply Eq.refl) | (apply p_asI; apply Eq.refl)); apply Eq.refl) | (apply w_nil) | (apply c_seq) | (apply e_then) | (apply c_region) | (apply c_ret) | (apply e_then_ret) | (apply e_bk_ret) | (apply e_lp_ret))
      refine r_ret1 Tryd.results53 rfl ?_
      refine ⟨rfl, .inr ⟨k - 1, ?_, by omega, by rw [hb, h3], fun j hj2 => hj j (by omega)⟩⟩
      show Value.int .i64 ((k : Int) - 1) = _
      rw [show ((k : Int) - 1) = ((k - 1 : Nat) : Int) from by omega]
    · have h2 := of_decide_eq_false h17
      rw [hkk] at h2
      repeat (first | (apply w_op; (first | (apply p_mvI; apply Eq.refl) | (apply p_asI; apply Eq.refl) | (apply p_sub64; apply Eq.refl; apply Eq.refl; omega)); apply Eq.refl) | (apply w_nil) | (apply e_then) | (apply c_region) | (apply c_skip) | (apply e_bk))
      refine e_lp (by repeat (first | exact Over.base | exact Over.refl | refine Over.put rfl ?_ | refine Over.cnP rfl ?_ | refine Over.zpP rfl ?_)) ?_
      refine ⟨⟨k - 1, ?_, by omega, fun j hj2 => ?_, rfl⟩, ?_⟩
      · show [Value.int .i64 ((k : Int) - 1 - 1)] = _
        rw [show ((k : Int) - 1 - 1) = ((k - 1 : Nat) : Int) - 1 from by omega]
      · by_cases e : j = k - 1
        · subst e
          rw [hb]
          intro e2
          exact h2 (by rw [Option.some.inj e2])
        · exact hj j (by omega)
      · show ((k : Int) - 1 - 1 + 1).toNat < ((k : Int) - 1 + 1).toNat
        omega
  · have h1 := of_decide_eq_false h
    repeat (first | (apply w_op; (apply p_asI; apply Eq.refl); apply Eq.refl) | (apply w_nil) | (apply c_seq) | (apply e_then) | (apply c_region) | (apply c_ret) | (apply c_exit) | (apply e_then_exit) | (apply e_bk_same) | (apply e_lp_exit))
    refine r_ret1 Tryd.results53 rfl ?_
    refine ⟨rfl, .inl ⟨rfl, fun hm => ?_⟩⟩
    obtain ⟨j, hj2⟩ := List.mem_iff_getElem?.1 hm
    exact hj j (by omega) hj2

theorem lastIx_ok (s : ByteArray) (c : UInt8) (w : World) (hs : s.size ≤ 1099511627775) : Ret Tryd.prog 33 [.string s, .int .u8 c.toNat] w fun v w' => w' = w ∧
    ((v = .int .i64 (-1) ∧ c ∉ lsB s) ∨ ∃ i : Nat, v = .int .i64 i ∧ i < s.size ∧ (lsB s)[i]? = some c ∧ ∀ j, i < j → (lsB s)[j]? ≠ some c) := by
  refine calls_in Tryd.func33 rfl Tryd.ntmps33 rfl ?_
  repeat (first | (apply w_op; (first | (apply p_mvI; apply Eq.refl) | (apply p_mvS; apply Eq.refl) | (apply p_asI; apply Eq.refl)); apply Eq.refl) | (apply w_nil) | (apply c_seq) | (apply e_then) | (apply c_region))
  refine w_call cl53 (lastIx_lite_ok s c _ hs) rfl ?_
  rintro v w1 ⟨rfl, hv⟩
  repeat (first | (apply w_op; (apply p_assign); apply Eq.refl) | (apply w_nil) | (apply e_then) | (apply c_ret))
  refine r_ret1 Tryd.results33 rfl ?_
  exact ⟨rfl, hv⟩

theorem parent_ok (p : ByteArray) (w : World) (hs : p.size ≤ 1099511627775) : Ret Tryd.prog 17 [.string p] w fun v w' => w' = w ∧ v = .string (parent p) := by
  have hls := ls_len p
  refine calls_in Tryd.func17 rfl Tryd.ntmps17 rfl ?_
  repeat (first | (apply w_op; (first | (apply p_mvS; apply Eq.refl) | (apply p_asS; apply Eq.refl)); apply Eq.refl) | (apply w_nil) | (apply c_seq) | (apply e_then) | (apply c_region))
  refine w_call cl33 (lastIx_ok p 47 _ hs) rfl ?_
  rintro v w1 ⟨rfl, ⟨rfl, hn⟩ | ⟨i, rfl, hi, hc, hj⟩⟩
  · repeat (first | (apply w_op; (first | (apply p_asS; apply Eq.refl) | (apply p_max; apply Eq.refl; apply Eq.refl) | (apply p_sub_h; apply Eq.refl; apply Eq.refl; omega)); apply Eq.refl) | (apply w_nil) | (apply e_then) | (apply c_ret))
    skip
    refine r_ret1 Tryd.results17 rfl ?_
    refine ⟨rfl, ?_⟩
    show Value.string _ = _
    rw [extract_eq, parent, (parentL_none hn).1]
    rfl
  · obtain ⟨e1, e2⟩ := last_cut hc hj
    have hp := (parentL_some e2 (a := (lsB p).take i)).1
    rw [← e1] at hp
    have hmax : (if (i : Int) < 0 then (0 : Int) else (i : Int)) = i := if_neg (by omega)
    repeat (first | (apply w_op; (first | (apply p_asS; apply Eq.refl) | (apply p_max; apply Eq.refl; apply Eq.refl) | (apply p_sub_h; apply Eq.refl; apply Eq.refl; omega)); apply Eq.refl) | (apply w_nil) | (apply e_then) | (apply c_ret))
    refine r_ret1 Tryd.results17 rfl ?_
    refine ⟨rfl, ?_⟩
    show Value.string (p.extract 0 (if (i : Int) < 0 then (0 : Int) else (i : Int)).toNat) = _
    rw [hmax, extract_eq, parent, hp]
    simp

theorem base_ok (p : ByteArray) (w : World) (hs : p.size ≤ 1099511627775) : Ret Tryd.prog 55 [.string p] w fun v w' => w' = w ∧ v = .string (base p) := by
  have hls := ls_len p
  refine calls_in Tryd.func55 rfl Tryd.ntmps55 rfl ?_
  repeat (first | (apply w_op; (first | (apply p_mvS; apply Eq.refl) | (apply p_asS; apply Eq.refl)); apply Eq.refl) | (apply w_nil) | (apply c_seq) | (apply e_then) | (apply c_region))
  refine w_call cl33 (lastIx_ok p 47 _ hs) rfl ?_
  rintro v w1 ⟨rfl, ⟨rfl, hn⟩ | ⟨i, rfl, hi, hc, hj⟩⟩
  · repeat (first | (apply w_op; (first | (apply p_asS; apply Eq.refl) | (apply p_add64; apply Eq.refl; apply Eq.refl; omega) | (apply p_sub_l; apply Eq.refl; apply Eq.refl; omega)); apply Eq.refl) | (apply w_nil) | (apply e_then) | (apply c_ret))
    skip
    refine r_ret1 Tryd.results55 rfl ?_
    refine ⟨rfl, ?_⟩
    show Value.string _ = _
    rw [extract_eq, base, (parentL_none hn).2]
    simp [← hls]
  · obtain ⟨e1, e2⟩ := last_cut hc hj
    have hp := (parentL_some e2 (a := (lsB p).take i)).2
    rw [← e1] at hp
    repeat (first | (apply w_op; (first | (apply p_asS; apply Eq.refl) | (apply p_add64; apply Eq.refl; apply Eq.refl; omega) | (apply p_sub_l; apply Eq.refl; apply Eq.refl; omega)); apply Eq.refl) | (apply w_nil) | (apply e_then) | (apply c_ret))
    skip
    refine r_ret1 Tryd.results55 rfl ?_
    refine ⟨rfl, ?_⟩
    show Value.string _ = _
    rw [extract_eq, base, hp]
    congr 2
    rw [show ((i : Int) + 1).toNat = i + 1 from by omega, List.take_of_length_le (by simp [hls])]

theorem part_ok (s : ByteArray) (w : World) : Ret Tryd.prog 30 [.string s] w fun v w' => w' = w ∧ v = .bool (partOk s) := by
  refine calls_in Tryd.func30 rfl Tryd.ntmps30 rfl ?_
  repeat (first | (apply w_op; (first | (apply p_mvS; apply Eq.refl) | (apply p_mvB; apply Eq.refl) | (apply p_asB; apply Eq.refl) | (apply p_sneq; apply Eq.refl; apply Eq.refl)); apply Eq.refl) | (apply w_nil) | (apply c_seq) | (apply e_then) | (apply c_region))
  refine w_bool 5 rfl (fun h => ?_) (fun h => ?_)
  · repeat (first | (apply w_op; (first | (apply p_mvS; apply Eq.refl) | (apply p_mvB; apply Eq.refl) | (apply p_leq; apply Eq.refl; apply Eq.refl) | (apply p_len_str; apply Eq.refl) | (apply p_pick_t; apply Eq.refl; apply Eq.refl)); apply Eq.refl) | (apply w_on; apply Eq.refl))
    refine w_bool 10 rfl (fun h2 => ?_) (fun h2 => ?_)
    · repeat (first | (apply w_op; (first | (apply p_mvS; apply Eq.refl) | (apply p_mvB; apply Eq.refl) | (apply p_sneq; apply Eq.refl; apply Eq.refl) | (apply p_pick_t; apply Eq.refl; apply Eq.refl)); apply Eq.refl) | (apply w_on; apply Eq.refl))
      refine w_bool 14 rfl (fun h3 => ?_) (fun h3 => ?_)
      · repeat (first | (apply w_op; (first | (apply p_mvS; apply Eq.refl) | (apply p_mvB; apply Eq.refl) | (apply p_sneq; apply Eq.refl; apply Eq.refl) | (apply p_pick_t; apply Eq.refl; apply Eq.refl)); apply Eq.refl) | (apply w_on; apply Eq.refl))
        refine w_bool 18 rfl (fun h4 => ?_) (fun h4 => ?_)
        · repeat (first | (apply w_op; (apply p_mvS; apply Eq.refl); apply Eq.refl) | (apply w_on; apply Eq.refl))
          refine w_call cl45 (indexByte_ok s 0 _) rfl ?_
          rintro v w1 ⟨rfl, rfl⟩
          repeat (first | (apply w_op; (first | (apply p_asB; apply Eq.refl) | (apply p_lss; apply Eq.refl; apply Eq.refl) | (apply p_pick_t; apply Eq.refl; apply Eq.refl)); apply Eq.refl) | (apply w_nil) | (apply e_then) | (apply w_on; apply Eq.refl) | (apply c_ret))
          refine r_ret1 Tryd.results30 rfl ⟨rfl, congrArg Value.bool ?_⟩
          first | (simp_all [partOk]; done) | (simp_all [partOk]; intros; omega) | (simp_all [partOk]; omega)
        · repeat (first | (apply w_op; (first | (apply p_asB; apply Eq.refl) | (apply p_pick_f; apply Eq.refl; apply Eq.refl)); apply Eq.refl) | (apply w_nil) | (apply e_then) | (apply w_off; apply Eq.refl; apply Eq.refl) | (apply c_ret))
          refine r_ret1 Tryd.results30 rfl ⟨rfl, congrArg Value.bool ?_⟩
          first | (simp_all [partOk]; done) | (simp_all [partOk]; intros; omega) | (simp_all [partOk]; omega)
      · repeat (first | (apply w_op; (first | (apply p_mvB; apply Eq.refl) | (apply p_asB; apply Eq.refl) | (apply p_pick_f; apply Eq.refl; apply Eq.refl)); apply Eq.refl) | (apply w_nil) | (apply e_then) | (apply w_off; apply Eq.refl; apply Eq.refl) | (apply c_ret))
        refine r_ret1 Tryd.results30 rfl ⟨rfl, congrArg Value.bool ?_⟩
        first | (simp_all [partOk]; done) | (simp_all [partOk]; intros; omega) | (simp_all [partOk]; omega)
    · repeat (first | (apply w_op; (first | (apply p_mvB; apply Eq.refl) | (apply p_asB; apply Eq.refl) | (apply p_pick_f; apply Eq.refl; apply Eq.refl)); apply Eq.refl) | (apply w_nil) | (apply e_then) | (apply w_off; apply Eq.refl; apply Eq.refl) | (apply c_ret))
      refine r_ret1 Tryd.results30 rfl ⟨rfl, congrArg Value.bool ?_⟩
      first | (simp_all [partOk]; done) | (simp_all [partOk]; intros; omega) | (simp_all [partOk]; omega)
  · repeat (first | (apply w_op; (first | (apply p_mvB; apply Eq.refl) | (apply p_asB; apply Eq.refl) | (apply p_pick_f; apply Eq.refl; apply Eq.refl)); apply Eq.refl) | (apply w_nil) | (apply e_then) | (apply w_off; apply Eq.refl; apply Eq.refl) | (apply c_ret))
    refine r_ret1 Tryd.results30 rfl ⟨rfl, congrArg Value.bool ?_⟩
    first | (simp_all [partOk]; done) | (simp_all [partOk]; intros; omega) | (simp_all [partOk]; omega)

theorem right_ok (p : ByteArray) (w : World) (hs : p.size ≤ 1099511627775) : Ret Tryd.prog 14 [.string p] w fun v w' => v = .bool (right p) ∧ Below w.heap.size w w' := by
  refine calls_in Tryd.func14 rfl Tryd.ntmps14 rfl ?_
  repeat (first | (apply w_op; (first | (apply p_mvS; apply Eq.refl) | (apply p_asB; apply Eq.refl)); apply Eq.refl) | (apply w_nil) | (apply c_seq) | (apply e_then) | (apply c_region))
  refine w_call cl29 (split_ok p _ hs) rfl ?_
  rintro v w1 ⟨hown, hb1⟩
  have hsl : Strs w1 w1.heap.size v (split p) := Sl.of_own rfl (fun _ => rfl) hown
  obtain ⟨A, c, rfl, hc, hA⟩ := hsl.out
  have hlen : (split p).length ≤ 1099511627776 := split_len p (by omega)
  repeat (first | (apply w_op; (first | (apply p_mvI; apply Eq.refl) | (apply p_mvL; apply Eq.refl) | (apply p_asL; apply Eq.refl) | (apply p_len_sl; apply Eq.refl)); apply Eq.refl) | (apply w_nil) | (apply c_seq) | (apply e_then) | (apply c_region) | (apply c_block))
  refine c_loop [10] [2, 5, 11, 12, 13, 14, 15, 16, 17] (fun vs w2 => ∃ k : Nat, vs = [.int .i64 k] ∧ k ≤ (split p).length ∧ (∀ x ∈ (split p).take k, partOk x = true) ∧ w2 = w1) (fun vs _ => ((split p).length - intOf (vs.headD undef)).toNat) rfl
    ⟨0, rfl, Nat.zero_le _, by simp, rfl⟩ ?_
  rintro _ u w2 ⟨k, rfl, hk, hx, rfl⟩
  repeat (first | (apply w_op; (apply p_lss; apply Eq.refl; apply Eq.refl); apply Eq.refl) | (apply w_nil) | (apply c_seq) | (apply e_then) | (apply c_region))
  refine c_cond rfl (fun h => ?_) (fun h => ?_)
  · have h1 := of_decide_eq_true h
    have h1' : k < (split p).length := by omega
    obtain ⟨ad, rfl, hblk, hcel⟩ := hsl.at_ rfl h1'
    repeat (first | (apply w_op; (apply p_indexAddr; apply Eq.refl; apply Eq.refl; apply Eq.refl; omega); apply Eq.refl) | (apply c_seq) | (apply e_then) | (apply c_region) | (apply c_block) | (apply c_skip))
    refine w_op (p_load0 (cs := enS (split p)[k]) rfl (by simpa using hcel) rfl) rfl ?_
    repeat (first | (apply w_op; (first | (apply p_mvS; apply Eq.refl) | (apply p_asS; apply Eq.refl)); apply Eq.refl) | (apply w_nil) | (apply c_seq) | (apply e_then) | (apply c_region))
    refine w_call cl30 (part_ok _ _) rfl ?_
    rintro v w3 ⟨rfl, rfl⟩
    repeat (first | (apply w_op; (apply p_not; apply Eq.refl); apply Eq.refl) | (apply w_nil) | (apply e_then))
    refine c_cond rfl (fun h2 => ?_) (fun h2 => ?_)
    · repeat (first | (apply w_op; (apply p_asB; apply Eq.refl); apply Eq.refl) | (apply w_nil) | (apply c_seq) | (apply e_then) | (apply c_region) | (apply c_ret) | (apply e_then_ret) | (apply e_bk_ret) | (apply e_lp_ret))
      refine r_ret1 Tryd.results14 rfl ⟨congrArg Value.bool ?_, hb1⟩
      have : (split p).all partOk = false := by
        rw [List.all_eq_false]
        exact ⟨_, List.getElem_mem h1', by simpa using h2⟩
      simp [right, this]
    · repeat (first | (apply w_op; (first | (apply p_mvI; apply Eq.refl) | (apply p_add64; apply Eq.refl; apply Eq.refl; omega)); apply Eq.refl) | (apply w_nil) | (apply e_then) | (apply c_region) | (apply c_skip) | (apply e_bk))
      refine e_lp (by repeat (first | exact Over.base | exact Over.refl | refine Over.put rfl ?_ | refine Over.cnP rfl ?_ | refine Over.zpP rfl ?_)) ?_
      refine ⟨⟨k + 1, rfl, h1', fun x hx2 => ?_, rfl⟩, ?_⟩
      · rw [List.take_succ_eq_append_getElem h1', List.mem_append] at hx2
        rcases hx2 with hx2 | hx2
        · exact hx x hx2
        · simp at hx2
          subst hx2
          simpa using h2
      · show (((split p).length : Int) - ((k : Int) + 1)).toNat < (((split p).length : Int) - (k : Int)).toNat
        omega
  · have h1 := of_decide_eq_false h
    have hall : (split p).all partOk = true := by
      rw [List.all_eq_true]
      intro x hx2
      exact hx x (by rw [List.take_of_length_le (by omega)]; exact hx2)
    repeat (first | (apply w_op; (first | (apply p_mvB; apply Eq.refl) | (apply p_mvL; apply Eq.refl) | (apply p_leq; apply Eq.refl; apply Eq.refl) | (apply p_len_sl; apply Eq.refl)); apply Eq.refl) | (apply c_seq) | (apply e_then) | (apply c_region) | (apply c_exit) | (apply e_then_exit) | (apply e_bk_same) | (apply e_lp_exit))
    refine w_bool 21 rfl (fun h2 => ?_) (fun h2 => ?_)
    · repeat (first | (apply w_op; (first | (apply p_mvS; apply Eq.refl) | (apply p_asB; apply Eq.refl) | (apply p_leq; apply Eq.refl; apply Eq.refl) | (apply p_len_str; apply Eq.refl) | (apply p_pick_t; apply Eq.refl; apply Eq.refl)); apply Eq.refl) | (apply w_nil) | (apply e_then) | (apply w_on; apply Eq.refl) | (apply c_ret))
      refine r_ret1 Tryd.results14 rfl ⟨congrArg Value.bool ?_, hb1⟩
      simp [right, hall, h2]
    · repeat (first | (apply w_op; (first | (apply p_asB; apply Eq.refl) | (apply p_pick_f; apply Eq.refl; apply Eq.refl)); apply Eq.refl) | (apply w_nil) | (apply e_then) | (apply w_off; apply Eq.refl; apply Eq.refl) | (apply c_ret))
      refine r_ret1 Tryd.results14 rfl ⟨congrArg Value.bool ?_, hb1⟩
      simp [right, hall, h2]

/-! ### lists of texts compared -/
theorem equal_ok (v1 v2 : Value) (l1 l2 : List ByteArray) (w : World) (B : Nat) (h1 : Strs w B v1 l1) (h2 : Strs w B v2 l2) (hB : B ≤ w.heap.size) (n1 : l1.length ≤ 1099511627776) (n2 : l2.length ≤ 1099511627776) :
    Ret Tryd.prog 72 [v1, v2] w fun v w' => v = .bool (decide (l1 = l2)) ∧ Below w.heap.size w w' := by
  obtain ⟨A1, c1, rfl, hc1, hA1⟩ := h1.out
  obtain ⟨A2, c2, rfl, hc2, hA2⟩ := h2.out
  refine calls_in Tryd.func72 rfl Tryd.ntmps72 rfl ?_
  repeat (first | (apply w_op; (first | (apply p_mvL; apply Eq.refl) | (apply p_asB; apply Eq.refl) | (apply p_neq; apply Eq.refl; apply Eq.refl) | (apply p_len_sl; apply Eq.refl)); apply Eq.refl) | (apply w_nil) | (apply c_seq) | (apply e_then) | (apply c_region))
  refine c_cond rfl (fun h => ?_) (fun h => ?_)
  · repeat (first | (apply w_op; (apply p_asB; apply Eq.refl); apply Eq.refl) | (apply w_nil) | (apply c_seq) | (apply e_then) | (apply c_region) | (apply c_ret) | (apply e_then_ret))
    refine r_ret1 Tryd.results72 rfl ⟨congrArg Value.bool ?_, Below.refl _ _⟩
    have : l1 ≠ l2 := fun e => by subst e; simp at h
    simp [this]
  · have hl : l1.length = l2.length := by simp at h; omega
    repeat (first | (apply w_op; (first | (apply p_mvI; apply Eq.refl) | (apply p_mvL; apply Eq.refl) | (apply p_len_sl; apply Eq.refl)); apply Eq.refl) | (apply w_nil) | (apply c_seq) | (apply e_then) | (apply c_region) | (apply c_block) | (apply c_skip))
    refine c_loop [13] [4, 5, 14, 15, 16, 17, 18, 19, 20, 21, 22, 23, 24, 25] (fun vs w2 => ∃ k : Nat, vs = [.int .i64 k] ∧ k ≤ l1.length ∧ l1.take k = l2.take k ∧ Below w.heap.size w w2) (fun vs _ => (l1.length - intOf (vs.headD undef)).toNat) rfl
      ⟨0, rfl, Nat.zero_le _, by simp, Below.refl _ _⟩ ?_
    rintro _ u w2 ⟨k, rfl, hk, htk, hb⟩
    repeat (first | (apply w_op; (apply p_lss; apply Eq.refl; apply Eq.refl); apply Eq.refl) | (apply w_nil) | (apply c_seq) | (apply e_then) | (apply c_region))
    refine c_cond rfl (fun h3 => ?_) (fun h3 => ?_)
    · have hlt := of_decide_eq_true h3
      have hk1 : k < l1.length := by omega
      have hk2 : k < l2.length := by omega
      obtain ⟨a1, rfl, hb1, hcel1⟩ := h1.at_ rfl hk1
      obtain ⟨a2, rfl, hb2, hcel2⟩ := h2.at_ rfl hk2
      repeat (first | (apply w_op; (first | (apply p_mvI; apply Eq.refl) | (apply p_asI; apply Eq.refl)); apply Eq.refl) | (apply w_nil) | (apply c_seq) | (apply e_then) | (apply c_region) | (apply c_block) | (apply c_skip))
      refine c_quiet (fun x => Below w.heap.size w x) mixed (by kernel_rfl) hb.drew ?_
      repeat (apply q_op; intro _ hC; (first | (apply p_mvI; apply Eq.refl) | (apply p_mvL; apply Eq.refl) | (apply p_indexAddr; apply Eq.refl; apply Eq.refl; apply Eq.refl; omega)); apply Eq.refl)
      refine q_op (fun x hx => p_load0 (cs := enS l1[k]) rfl (hcel1.below hx (by rw [addr_add_block]; omega) |> fun q => by simpa using q) rfl) rfl ?_
      repeat (apply q_op; intro _ hC; (first | (apply p_mvI; apply Eq.refl) | (apply p_mvL; apply Eq.refl) | (apply p_indexAddr; apply Eq.refl; apply Eq.refl; apply Eq.refl; omega)); apply Eq.refl)
      refine q_op (fun x hx => p_load0 (cs := enS l2[k]) rfl (hcel2.below hx (by rw [addr_add_block]; omega) |> fun q => by simpa using q) rfl) rfl ?_
      repeat (apply q_op; intro _ hC; (apply p_sneq; apply Eq.refl; apply Eq.refl); apply Eq.refl)
      refine q_nil (fun w3 hb3 => ?_)
      repeat (apply e_then)
      refine c_cond rfl (fun h4 => ?_) (fun h4 => ?_)
      · repeat (first | (apply w_op; (apply p_asB; apply Eq.refl); apply Eq.refl) | (apply w_nil) | (apply c_seq) | (apply e_then) | (apply c_region) | (apply c_ret) | (apply e_then_ret) | (apply e_bk_ret) | (apply e_lp_ret))
        refine r_ret1 Tryd.results72 rfl ⟨congrArg Value.bool ?_, hb3⟩
        have : l1 ≠ l2 := fun e => by subst e; simp at h4
        simp [this]
      · repeat (first | (apply w_op; (first | (apply p_mvI; apply Eq.refl) | (apply p_add64; apply Eq.refl; apply Eq.refl; omega)); apply Eq.refl) | (apply w_nil) | (apply e_then) | (apply c_region) | (apply c_skip) | (apply e_bk))
        refine e_lp (by repeat (first | exact Over.base | exact Over.refl | refine Over.put rfl ?_ | refine Over.cnP rfl ?_ | refine Over.zpP rfl ?_)) ?_
        refine ⟨⟨k + 1, rfl, hk1, ?_, hb3⟩, ?_⟩
        · rw [List.take_succ_eq_append_getElem hk1, List.take_succ_eq_append_getElem hk2, htk]
          simp at h4
          rw [h4]
        · show ((l1.length : Int) - ((k : Int) + 1)).toNat < ((l1.length : Int) - (k : Int)).toNat
          omega
    · have hge := of_decide_eq_false h3
      repeat (first | (apply w_op; (apply p_asB; apply Eq.refl); apply Eq.refl) | (apply w_nil) | (apply c_seq) | (apply e_then) | (apply c_region) | (apply c_ret) | (apply c_exit) | (apply e_then_exit) | (apply e_bk_same) | (apply e_lp_exit))
      refine r_ret1 Tryd.results72 rfl ⟨congrArg Value.bool ?_, hb⟩
      have : l1 = l2 := by
        rw [List.take_of_length_le (by omega), List.take_of_length_le (by omega)] at htk
        exact htk
      simp [this]

theorem isNaN_ok (a : ByteArray) (w : World) : Ret Tryd.prog 101 [.string a] w fun v w' => w' = w ∧ v = .bool false := by
  refine calls_in Tryd.func101 rfl Tryd.ntmps101 rfl ?_
  repeat (first | (apply w_op; (first | (apply p_mvS; apply Eq.refl) | (apply p_asB; apply Eq.refl) | (apply p_sneq; apply Eq.refl; apply Eq.refl)); apply Eq.refl) | (apply w_nil) | (apply c_seq) | (apply e_then) | (apply c_region) | (apply c_ret))
  refine r_ret1 Tryd.results101 rfl ⟨rfl, congrArg Value.bool ?_⟩
  simp

theorem under_ok (a b : ByteArray) (w : World) (ha : a.size ≤ 1099511627775) (hb : b.size ≤ 1099511627775) : Ret Tryd.prog 63 [.string a, .string b] w fun v w' => v = .bool (under a b) ∧ Below w.heap.size w w' := by
  refine calls_in Tryd.func63 rfl Tryd.ntmps63 rfl ?_
  repeat (first | (apply w_op; (first | (apply p_mvS; apply Eq.refl) | (apply p_asB; apply Eq.refl)); apply Eq.refl) | (apply w_nil) | (apply c_seq) | (apply e_then) | (apply c_region))
  refine w_call cl29 (split_ok a _ ha) rfl ?_
  rintro v1 w1 ⟨hown1, hb1⟩
  repeat (apply w_op; (apply p_mvS; apply Eq.refl); apply Eq.refl)
  refine w_call cl29 (split_ok b _ hb) rfl ?_
  rintro v2 w2 ⟨hown2, hb2⟩
  have hs0 : Strs w1 w1.heap.size v1 (split a) := Sl.of_own rfl (fun _ => rfl) hown1
  have hs1 : Strs w2 w2.heap.size v1 (split a) := (hs0.below hb2).more hb2.size
  have hs2 : Strs w2 w2.heap.size v2 (split b) := Sl.of_own rfl (fun _ => rfl) hown2
  have hbb : Below w.heap.size w w2 := hb1.trans (hb2.mono hb1.size)
  have l1 := split_len a (by omega : a.size + 1 ≤ 1099511627776)
  have l2 := split_len b (by omega : b.size + 1 ≤ 1099511627776)
  obtain ⟨A1, c1, rfl, hc1, hA1⟩ := hs1.out
  obtain ⟨A2, c2, rfl, hc2, hA2⟩ := hs2.out
  repeat (first | (apply w_op; (first | (apply p_mvB; apply Eq.refl) | (apply p_mvL; apply Eq.refl) | (apply p_asL; apply Eq.refl) | (apply p_geq; apply Eq.refl; apply Eq.refl) | (apply p_len_sl; apply Eq.refl)); apply Eq.refl) | (apply w_nil) | (apply c_seq) | (apply e_then) | (apply c_region))
  refine w_bool 16 rfl (fun h => ?_) (fun h => ?_)
  · have h1 := of_decide_eq_true h
    repeat (first | (apply w_op; (first | (apply p_mvL; apply Eq.refl) | (apply p_len_sl; apply Eq.refl)); apply Eq.refl) | (apply w_on; apply Eq.refl))
    refine w_op (p_cut_h rfl rfl (by omega)) rfl ?_
    repeat (first | (apply w_op; (apply p_mvL; apply Eq.refl); apply Eq.refl) | (apply w_on; apply Eq.refl))
    refine w_call cl72 (equal_ok _ _ _ _ _ _ (hs1.head rfl (k := (split b).length) (by omega)) hs2 (Nat.le_refl _) (by simp; omega) l2) rfl ?_
    rintro v w3 ⟨rfl, hb3⟩
    repeat (first | (apply w_op; (first | (apply p_asB; apply Eq.refl) | (apply p_pick_t; apply Eq.refl; apply Eq.refl)); apply Eq.refl) | (apply w_nil) | (apply e_then) | (apply c_ret))
    refine r_ret1 Tryd.results63 rfl ⟨congrArg Value.bool ?_, hbb.trans (hb3.mono hbb.size)⟩
    have h2 : (split b).length ≤ (split a).length := by omega
    simp [under, h2]
  · have h1 := of_decide_eq_false h
    repeat (first | (apply w_op; (first | (apply p_asB; apply Eq.refl) | (apply p_pick_f; apply Eq.refl; apply Eq.refl)); apply Eq.refl) | (apply w_nil) | (apply e_then) | (apply w_off; apply Eq.refl; apply Eq.refl) | (apply c_ret))
    refine r_ret1 Tryd.results63 rfl ⟨congrArg Value.bool ?_, hbb⟩
    have h2 : ¬ (split b).length ≤ (split a).length := by omega
    simp [under, h2]
end Go.Proofs.YtmgheamdboiklaaDoor
