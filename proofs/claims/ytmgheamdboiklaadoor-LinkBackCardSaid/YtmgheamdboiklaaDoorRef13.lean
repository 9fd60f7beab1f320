/- THE WALKS of the document's answer for paths (remoraref13). -/
import Derived.Test.YtmgheamdboiklaaDoorPath
import Derived.Test.YtmgheamdboiklaaDoorOrd
set_option linter.unusedVariables false
set_option linter.unusedSimpArgs false
namespace Go.Proofs.YtmgheamdboiklaaDoor
open Go.RowKit

theorem byte_is' {a c : UInt8} : ((a.toNat : Int) = (c.toNat : Int)) ↔ a = c := ⟨fun h => UInt8.toNat_inj.1 (by omega), fun h => by rw [h]⟩
theorem glue_mem (c : UInt8) : ∀ (l : List (List UInt8)) (x : List UInt8), x ∈ l → x.length ≤ (glueL c l).length
  | [], x, h => by cases h
  | [a], x, h => by simp at h; subst h; simp [glueL]
  | a :: b :: l, x, h => by
    simp only [glueL, List.length_append, List.length_cons]
    rcases List.mem_cons.1 h with h | h
    · subst h; omega
    · have := glue_mem c (b :: l) x h
      omega
theorem split_part_size (p : ByteArray) {x : ByteArray} (h : x ∈ split p) : x.size ≤ p.size := by
  unfold split partsL at h
  split at h
  · simp at h
  · obtain ⟨y, hy, rfl⟩ := List.mem_map.1 h
    have := glue_mem 47 _ y hy
    rw [glue_cut] at this
    rw [mk_size, ← ls_len]
    exact this
theorem rsplit_ok (s : ByteArray) (w : World) (hs : s.size ≤ 1099511627775) : Ret Tryd.prog 27 [.string s] w fun v w' =>
    w'.ownsRow w.heap.size 9 1 v (split s).length ((split s).flatMap enS) ∧ Below w.heap.size w w' := by
  have hls := ls_len s
  refine calls_in Tryd.func27 rfl Tryd.ntmps27 rfl ?_
  repeat (first | (apply w_op; (first | (apply p_mvS; apply Eq.refl) | (apply p_asL; apply Eq.refl) | (apply p_seql; apply Eq.refl; apply Eq.refl)); apply Eq.refl) | (apply w_nil) | (apply c_seq) | (apply e_then) | (apply c_region))
  refine c_cond rfl (fun h => ?_) (fun h => ?_)
  · repeat (first | (apply w_op; (apply p_asL; apply Eq.refl); apply Eq.refl) | (apply w_nil) | (apply c_seq) | (apply e_then) | (apply c_region) | (apply c_ret) | (apply e_then_ret))
    refine r_ret1 Tryd.results27 rfl ?_
    have h0 : split s = [] := by rw [of_decide_eq_true h]; exact split_nil
    rw [h0]
    exact ⟨World.ownsRow_nil w _ _ _, Below.refl _ _⟩
  · have hne : lsB s ≠ [] := fun e => of_decide_eq_false h (ls_inj (by rw [e]; rfl))
    repeat (first | (apply w_op; (first | (apply p_asI; apply Eq.refl) | (apply p_asL; apply Eq.refl)); apply Eq.refl) | (apply w_nil) | (apply c_seq) | (apply e_then) | (apply c_region) | (apply c_block) | (apply c_skip))
    refine c_loop [3, 4, 5] [8, 9, 10, 11, 12, 13, 14, 15, 16, 17, 18, 19, 20, 21, 22, 23, 24, 25, 26, 27, 28, 29, 30, 31, 32] (fun vs w2 => ∃ (v : Value) (out : List (List UInt8)) (start i : Nat), vs = [v, .int .i64 ((start : Nat) : Int), .int .i64 ((i : Nat) : Int)] ∧ i ≤ s.size + 1 ∧ out.length ≤ i ∧ start ≤ i ∧ (i ≤ s.size → Cutting 47 (lsB s) out start i) ∧ (s.size < i → cutAt 47 (lsB s) = out) ∧
      w2.ownsRow w.heap.size 9 1 v (out.map mkB).length ((out.map mkB).flatMap enS) ∧ Below w.heap.size w w2) (fun vs _ => s.size + 1 - (intOf ((vs.drop 2).headD undef)).toNat) rfl
      ⟨.slice none 0 0, [], 0, 0, rfl, Nat.zero_le _, Nat.zero_le _, Nat.le_refl _, fun _ => Cutting.start 47 _, fun h => by omega, World.ownsRow_nil _ _ _ _, Below.refl _ _⟩ ?_
    rintro _ u w2 ⟨v, out, start, i, rfl, hi, hol, hsi, hcut, hdone, hown, hbel⟩
    have hsz2 := hbel.size
    repeat (first | (apply w_op; (first | (apply p_mvI; apply Eq.refl) | (apply p_mvS; apply Eq.refl) | (apply p_leq; apply Eq.refl; apply Eq.refl) | (apply p_len_str; apply Eq.refl)); apply Eq.refl) | (apply w_nil) | (apply c_seq) | (apply e_then) | (apply c_region))
    refine c_cond rfl (fun g => ?_) (fun g => ?_)
    · have hi' : i ≤ s.size := by have := of_decide_eq_true g; omega
      have hc := hcut hi'
      repeat (first | (apply w_op; (first | (apply p_mvI; apply Eq.refl) | (apply p_mvS; apply Eq.refl) | (apply p_mvB; apply Eq.refl) | (apply p_eql; apply Eq.refl; apply Eq.refl) | (apply p_len_str; apply Eq.refl)); apply Eq.refl) | (apply c_seq) | (apply e_then) | (apply c_region) | (apply c_block) | (apply c_skip))
      refine w_cut1 [23] [18, 19, 20, 21, 22] (fun vs w3 => w3 = w2 ∧ vs = [.bool (decide (i = s.size) || decide (i < s.size ∧ bAt s i = 47))]) ?_ ?_
      · refine w_bool 18 rfl (fun q => ?_) (fun q => ?_)
        · have q' : i = s.size := by have := of_decide_eq_true q; omega
          repeat (first | (apply w_op; (apply p_pick_t; apply Eq.refl; apply Eq.refl); apply Eq.refl) | (apply w_nil) | (apply w_off; apply Eq.refl; apply Eq.refl))
          refine e_ct (by repeat (first | exact Over.base | exact Over.refl | refine Over.put rfl ?_ | refine Over.cnP rfl ?_ | refine Over.zpP rfl ?_)) ?_
          refine ⟨rfl, ?_⟩
          show [Value.bool true] = _
          simp [q']
        · have q' : i < s.size := by have := of_decide_eq_false q; omega
          repeat (first | (apply w_op; (first | (apply p_mvI; apply Eq.refl) | (apply p_mvS; apply Eq.refl) | (apply p_eql; apply Eq.refl; apply Eq.refl) | (apply p_pick_f; apply Eq.refl; apply Eq.refl) | (apply p_index; apply Eq.refl; apply Eq.refl; omega)); apply Eq.refl) | (apply w_nil) | (apply w_on; apply Eq.refl))
          refine e_ct (by repeat (first | exact Over.base | exact Over.refl | refine Over.put rfl ?_ | refine Over.cnP rfl ?_ | refine Over.zpP rfl ?_)) ?_
          refine ⟨rfl, ?_⟩
          show [Value.bool (decide (((bAt s ((i : Int)).toNat).toNat : Int) = 47))] = _
          congr 2
          have : ¬ i = s.size := by omega
          simp only [this, decide_false, Bool.false_or, q', true_and]
          exact decide_eq_decide.2 (byte_is' (c := 47))
      · rintro _ u3 w2 ⟨rfl, rfl⟩
        skip
        refine c_cond rfl (fun q => ?_) (fun q => ?_)
        · repeat (first | (apply w_op; (first | (apply p_mvI; apply Eq.refl) | (apply p_mvS; apply Eq.refl) | (apply p_move) | (apply p_sub_lh; apply Eq.refl; apply Eq.refl; apply Eq.refl; omega)); apply Eq.refl) | (apply c_seq) | (apply c_region))
          refine w_app1 (v1 := .string (s.extract (start : Int).toNat (i : Int).toNat)) rfl (fun _ => rfl) hown rfl rfl (by simp only [List.length_map]; omega) rfl rfl (fun v4 w4 u4 hown4 hg4 hbl4 hs4 hnn4 => ?_)
          repeat (first | (apply w_op; (first | (apply p_mvI; apply Eq.refl) | (apply p_asI; apply Eq.refl) | (apply p_assign) | (apply p_add64; apply Eq.refl; apply Eq.refl; omega)); apply Eq.refl) | (apply w_nil) | (apply e_then) | (apply c_region) | (apply e_bk))
          refine e_lp (by repeat (first | exact Over.base | exact Over.refl | refine Over.put rfl ?_ | refine Over.cnP rfl ?_ | refine Over.zpP rfl ?_)) ?_
          refine ⟨⟨v4, out ++ [((lsB s).drop start).take (i - start)], i + 1, i + 1, rfl, by omega, by simp; omega, Nat.le_refl _, fun h2 => ?_, fun h2 => ?_, ?_, below_own hg4 hbel (by omega) hown (by omega)⟩, ?_⟩
          · have hlt : i < s.size := by omega
            have q2 : bAt s i = 47 := by
              simp at q
              rcases q with q | q
              · omega
              · exact q.2
            refine hc.hit ?_
            have e : (lsB s)[i]? = some (bAt s i) := by
              rw [bAt_get, List.getD, List.getElem?_eq_getElem (by omega)]; rfl
            rw [e, q2]
          · have : i = s.size := by omega
            rw [hc.done (by omega), List.take_of_length_le (by simp; omega)]
          · simp only [Int.toNat_natCast, extract_eq] at hown4
            simpa [enS, Value.cells] using hown4
          · show s.size + 1 - ((i : Int) + 1).toNat < s.size + 1 - ((i : Int)).toNat
            omega
        · have hlt : i < s.size := by simp at q; omega
          have q2 : bAt s i ≠ 47 := by simp at q; exact q.2 hlt
          repeat (first | (apply w_op; (first | (apply p_mvI; apply Eq.refl) | (apply p_asI; apply Eq.refl) | (apply p_add64; apply Eq.refl; apply Eq.refl; omega)); apply Eq.refl) | (apply w_nil) | (apply e_then) | (apply c_region) | (apply c_skip) | (apply e_bk))
          refine e_lp (by repeat (first | exact Over.base | exact Over.refl | refine Over.put rfl ?_ | refine Over.cnP rfl ?_ | refine Over.zpP rfl ?_)) ?_
          refine ⟨⟨v, out, start, i + 1, rfl, by omega, by omega, by omega, fun h2 => hc.miss (by omega) (by omega) (fun j h3 h4 => ?_), fun h2 => by omega, hown, hbel⟩, ?_⟩
          · obtain rfl : j = i := by omega
            have e : (lsB s)[j]? = some (bAt s j) := by
              rw [bAt_get, List.getD, List.getElem?_eq_getElem (by omega)]; rfl
            rw [e]
            intro h5
            injection h5 with h5
            exact q2 h5
          · show s.size + 1 - ((i : Int) + 1).toNat < s.size + 1 - ((i : Int)).toNat
            omega
    · have hi' : s.size < i := by have := of_decide_eq_false g; omega
      have hd := hdone hi'
      repeat (first | (apply w_op; (first | (apply p_move) | (apply p_assign)); apply Eq.refl) | (apply w_nil) | (apply c_seq) | (apply e_then) | (apply c_region) | (apply c_ret) | (apply c_exit) | (apply e_then_exit) | (apply e_bk_same) | (apply e_lp_exit))
      refine r_ret1 Tryd.results27 rfl ?_
      have hsp : split s = out.map mkB := by rw [split, partsL, if_neg hne, hd]
      rw [hsp]
      exact ⟨hown, hbel⟩

theorem nought_ok (s : ByteArray) (w : World) (hs : s.size ≤ 1099511627775) : Ret Tryd.prog 44 [.string s] w fun v w' => w' = w ∧ v = .bool (decide ((0 : UInt8) ∈ lsB s)) := by
  have hls := ls_len s
  refine calls_in Tryd.func44 rfl Tryd.ntmps44 rfl ?_
  repeat (first | (apply w_op; (first | (apply p_asI; apply Eq.refl) | (apply p_asB; apply Eq.refl)); apply Eq.refl) | (apply w_nil) | (apply c_seq) | (apply e_then) | (apply c_region) | (apply c_block))
  refine c_loop [3] [2, 4, 5, 6, 7, 8, 9, 10, 11, 12, 13] (fun vs w2 => w2 = w ∧ ∃ k : Nat, vs = [.int .i64 (k : Int)] ∧ k ≤ s.size ∧ (0 : UInt8) ∉ (lsB s).take k) (fun vs _ => s.size - (intOf (vs.headD undef)).toNat) rfl
    ⟨rfl, 0, rfl, Nat.zero_le _, by simp⟩ ?_
  rintro _ u w2 ⟨rfl, k, rfl, hk, hno⟩
  repeat (first | (apply w_op; (first | (apply p_mvI; apply Eq.refl) | (apply p_mvS; apply Eq.refl) | (apply p_lss; apply Eq.refl; apply Eq.refl) | (apply p_len_str; apply Eq.refl)); apply Eq.refl) | (apply w_nil) | (apply c_seq) | (apply e_then) | (apply c_region))
  refine c_cond rfl (fun g => ?_) (fun g => ?_)
  · have hk1 : k < s.size := by have := of_decide_eq_true g; omega
    have hget : (lsB s)[k]'(by omega) = bAt s k := by rw [bAt_get, List.getD, List.getElem?_eq_getElem (by omega)]; rfl
    repeat (first | (apply w_op; (first | (apply p_mvI; apply Eq.refl) | (apply p_mvS; apply Eq.refl) | (apply p_eql; apply Eq.refl; apply Eq.refl) | (apply p_index; apply Eq.refl; apply Eq.refl; omega)); apply Eq.refl) | (apply w_nil) | (apply c_seq) | (apply e_then) | (apply c_region) | (apply c_block) | (apply c_skip))
    refine c_cond rfl (fun q => ?_) (fun q => ?_)
    · have q' : bAt s k = 0 := (byte_is' (c := 0)).1 (of_decide_eq_true q)
      repeat (first | (apply w_op; (apply p_asB; apply Eq.refl); apply Eq.refl) | (apply w_nil) | (apply c_seq) | (apply e_then) | (apply c_region) | (apply c_ret) | (apply e_then_ret) | (apply e_bk_ret) | (apply e_lp_ret))
      refine r_ret1 Tryd.results44 rfl ⟨rfl, congrArg Value.bool ?_⟩
      exact (decide_eq_true (by rw [← q', ← hget]; exact List.getElem_mem _)).symm
    · have q' : bAt s k ≠ 0 := fun e => of_decide_eq_false q ((byte_is' (c := 0)).2 e)
      repeat (first | (apply w_op; (first | (apply p_mvI; apply Eq.refl) | (apply p_asI; apply Eq.refl) | (apply p_add64; apply Eq.refl; apply Eq.refl; omega)); apply Eq.refl) | (apply w_nil) | (apply e_then) | (apply c_region) | (apply c_skip) | (apply e_bk))
      refine e_lp (by repeat (first | exact Over.base | exact Over.refl | refine Over.put rfl ?_ | refine Over.cnP rfl ?_ | refine Over.zpP rfl ?_)) ?_
      refine ⟨⟨rfl, k + 1, rfl, by omega, ?_⟩, ?_⟩
      · rw [List.take_succ_eq_append_getElem (by omega), hget]
        intro h
        rcases List.mem_append.1 h with h | h
        · exact hno h
        · simp at h; exact q' h.symm
      · show s.size - ((k : Int) + 1).toNat < s.size - ((k : Int)).toNat
        omega
  · have hge := of_decide_eq_false g
    obtain rfl : k = s.size := by omega
    rw [← hls, List.take_length] at hno
    repeat (first | (apply w_op; (apply p_asB; apply Eq.refl); apply Eq.refl) | (apply w_nil) | (apply c_seq) | (apply e_then) | (apply c_region) | (apply c_ret) | (apply c_exit) | (apply e_then_exit) | (apply e_bk_same) | (apply e_lp_exit))
    exact r_ret1 Tryd.results44 rfl ⟨rfl, congrArg Value.bool (decide_eq_false hno).symm⟩

theorem right_bad {p : ByteArray} {k : Nat} (hk : k < (split p).length) (h : partOk (split p)[k] = false) : right p = false := by
  unfold right
  have : (split p).all partOk = false := by
    cases hq : (split p).all partOk with
    | false => rfl
    | true => have := List.all_eq_true.1 hq _ (List.getElem_mem hk); rw [h] at this; cases this
  rw [this]; rfl
theorem partOk_eq (s : ByteArray) : partOk s = (!decide (s = { data := #[] }) && !decide (s = { data := #[46] }) && !decide (s = { data := #[46, 46] }) && !decide (48 < (s.size : Int)) && !decide ((0 : UInt8) ∈ lsB s)) := by
  unfold partOk
  have h1 : decide (Lib.indexByte (lsB s) 0 < 0) = !decide ((0 : UInt8) ∈ lsB s) := by
    rw [← decide_not]; exact decide_eq_decide.2 (indexByte_neg _ _)
  have h2 : decide ((s.size : Int) ≤ 48) = !decide (48 < (s.size : Int)) := by rw [← decide_not]; exact decide_eq_decide.2 (by omega)
  rw [h1, h2]
  cases decide (s = { data := #[] }) <;> cases decide (s = { data := #[46] }) <;> cases decide (s = { data := #[46, 46] }) <;> cases decide (48 < (s.size : Int)) <;> cases decide ((0 : UInt8) ∈ lsB s) <;> rfl

set_option maxRecDepth 100000 in
theorem rright_ok (p : ByteArray) (w : World) (hs : p.size ≤ 1099511627775) : Ret Tryd.prog 26 [.string p] w fun v w' => v = .bool (right p) ∧ Below w.heap.size w w' := by
  refine calls_in Tryd.func26 rfl Tryd.ntmps26 rfl ?_
  repeat (first | (apply w_op; (first | (apply p_mvS; apply Eq.refl) | (apply p_asB; apply Eq.refl)); apply Eq.refl) | (apply w_nil) | (apply c_seq) | (apply e_then) | (apply c_region))
  refine w_call cl27 (rsplit_ok p _ hs) rfl ?_
  rintro v w1 ⟨hown, hb1⟩
  have hsl : Strs w1 w1.heap.size v (split p) := Sl.of_own rfl (fun _ => rfl) hown
  obtain ⟨A, c, rfl, hc, hA⟩ := hsl.out
  have hlen : (split p).length ≤ 1099511627776 := split_len p (by omega)
  repeat (first | (apply w_op; (first | (apply p_mvB; apply Eq.refl) | (apply p_mvL; apply Eq.refl) | (apply p_asL; apply Eq.refl) | (apply p_gtr; apply Eq.refl; apply Eq.refl) | (apply p_len_sl; apply Eq.refl)); apply Eq.refl) | (apply w_nil) | (apply c_seq) | (apply e_then) | (apply c_region))
  refine w_bool 10 rfl (fun q => ?_) (fun q => ?_)
  · have q' := of_decide_eq_true q
    repeat (first | (apply w_op; (first | (apply p_asB; apply Eq.refl) | (apply p_pick_t; apply Eq.refl; apply Eq.refl)); apply Eq.refl) | (apply w_nil) | (apply c_seq) | (apply e_then) | (apply c_region) | (apply w_off; apply Eq.refl; apply Eq.refl) | (apply c_cond_t; apply Eq.refl) | (apply c_ret) | (apply e_then_ret))
    refine r_ret1 Tryd.results26 rfl ⟨congrArg Value.bool ?_, hb1⟩
    have : decide (((split p).length : Int) ≤ 12) = false := decide_eq_false (by omega)
    rw [right, this]; simp
  · have q' := of_decide_eq_false q
    repeat (first | (apply w_op; (first | (apply p_mvS; apply Eq.refl) | (apply p_gtr; apply Eq.refl; apply Eq.refl) | (apply p_len_str; apply Eq.refl) | (apply p_pick_f; apply Eq.refl; apply Eq.refl)); apply Eq.refl) | (apply w_nil) | (apply e_then) | (apply w_on; apply Eq.refl))
    refine c_cond rfl (fun q2 => ?_) (fun q2 => ?_)
    · have q2' := of_decide_eq_true q2
      repeat (first | (apply w_op; (apply p_asB; apply Eq.refl); apply Eq.refl) | (apply w_nil) | (apply c_seq) | (apply e_then) | (apply c_region) | (apply c_ret) | (apply e_then_ret))
      refine r_ret1 Tryd.results26 rfl ⟨congrArg Value.bool ?_, hb1⟩
      have : decide ((p.size : Int) ≤ 200) = false := decide_eq_false (by omega)
      rw [right, this]; simp
    · have q2' := of_decide_eq_false q2
      repeat (first | (apply w_op; (apply p_asI; apply Eq.refl); apply Eq.refl) | (apply w_nil) | (apply c_seq) | (apply e_then) | (apply c_region) | (apply c_block) | (apply c_skip))
      refine c_loop [4] [2, 15, 16, 17, 18, 19, 20, 21, 22, 23, 24, 25, 26, 27, 28, 29, 30, 31, 32, 33, 34, 35, 36, 37, 38, 39, 40, 41, 42, 43, 44, 45, 46, 47, 48, 49, 50, 51, 52, 53, 54] (fun vs w2 => w2 = w1 ∧ ∃ k : Nat, vs = [.int .i64 (k : Int)] ∧ k ≤ (split p).length ∧ ((split p).take k).all partOk = true) (fun vs _ => (split p).length - (intOf (vs.headD undef)).toNat) rfl
        ⟨rfl, 0, rfl, Nat.zero_le _, by simp⟩ ?_
      rintro _ u w2 ⟨rfl, k, rfl, hk, hall⟩
      repeat (first | (apply w_op; (first | (apply p_mvI; apply Eq.refl) | (apply p_mvL; apply Eq.refl) | (apply p_lss; apply Eq.refl; apply Eq.refl) | (apply p_len_sl; apply Eq.refl)); apply Eq.refl) | (apply w_nil) | (apply c_seq) | (apply e_then) | (apply c_region))
      refine c_cond rfl (fun g => ?_) (fun g => ?_)
      · have hk1 : k < (split p).length := by have := of_decide_eq_true g; omega
        obtain ⟨ad, rfl, hblk, hcel⟩ := hsl.at_ rfl hk1
        have hsz : (split p)[k].size ≤ 1099511627775 := by
          have : (split p)[k].size ≤ p.size := split_part_size p (List.getElem_mem hk1)
          omega
        have hpo := partOk_eq (split p)[k]
        repeat (first | (apply w_op; (first | (apply p_mvI; apply Eq.refl) | (apply p_mvL; apply Eq.refl) | (apply p_indexAddr; apply Eq.refl; apply Eq.refl; apply Eq.refl; omega)); apply Eq.refl) | (apply c_seq) | (apply e_then) | (apply c_region) | (apply c_block) | (apply c_skip))
        refine w_op (p_load0 (v := .string (split p)[k]) rfl hcel rfl) rfl ?_
        repeat (apply w_op; (first | (apply p_mvB; apply Eq.refl) | (apply p_seql; apply Eq.refl; apply Eq.refl)); apply Eq.refl)
        refine w_bool 26 rfl (fun f1 => ?_) (fun f1 => ?_)
        · repeat (first | (apply w_op; (first | (apply p_mvB; apply Eq.refl) | (apply p_asB; apply Eq.refl) | (apply p_pick_t; apply Eq.refl; apply Eq.refl)); apply Eq.refl) | (apply w_nil) | (apply c_seq) | (apply e_then) | (apply c_region) | (apply w_off; apply Eq.refl; apply Eq.refl) | (apply c_cond_t; apply Eq.refl) | (apply c_ret) | (apply e_then_ret) | (apply e_bk_ret) | (apply e_lp_ret))
          refine r_ret1 Tryd.results26 rfl ⟨congrArg Value.bool ?_, hb1⟩
          exact (right_bad hk1 (by rw [hpo, f1]; rfl)).symm
        · repeat (first | (apply w_op; (first | (apply p_mvI; apply Eq.refl) | (apply p_mvL; apply Eq.refl) | (apply p_indexAddr; apply Eq.refl; apply Eq.refl; apply Eq.refl; omega)); apply Eq.refl) | (apply w_on; apply Eq.refl))
          refine w_op (p_load0 (v := .string (split p)[k]) rfl hcel rfl) rfl ?_
          repeat (first | (apply w_op; (first | (apply p_mvB; apply Eq.refl) | (apply p_seql; apply Eq.refl; apply Eq.refl) | (apply p_pick_f; apply Eq.refl; apply Eq.refl)); apply Eq.refl) | (apply w_on; apply Eq.refl))
          refine w_bool 33 rfl (fun f2 => ?_) (fun f2 => ?_)
          · repeat (first | (apply w_op; (first | (apply p_mvB; apply Eq.refl) | (apply p_asB; apply Eq.refl) | (apply p_pick_t; apply Eq.refl; apply Eq.refl)); apply Eq.refl) | (apply w_nil) | (apply c_seq) | (apply e_then) | (apply c_region) | (apply w_off; apply Eq.refl; apply Eq.refl) | (apply c_cond_t; apply Eq.refl) | (apply c_ret) | (apply e_then_ret) | (apply e_bk_ret) | (apply e_lp_ret))
            refine r_ret1 Tryd.results26 rfl ⟨congrArg Value.bool ?_, hb1⟩
            exact (right_bad hk1 (by rw [hpo, f1, f2]; rfl)).symm
          · repeat (first | (apply w_op; (first | (apply p_mvI; apply Eq.refl) | (apply p_mvL; apply Eq.refl) | (apply p_indexAddr; apply Eq.refl; apply Eq.refl; apply Eq.refl; omega)); apply Eq.refl) | (apply w_on; apply Eq.refl))
            refine w_op (p_load0 (v := .string (split p)[k]) rfl hcel rfl) rfl ?_
            repeat (first | (apply w_op; (first | (apply p_mvB; apply Eq.refl) | (apply p_seql; apply Eq.refl; apply Eq.refl) | (apply p_pick_f; apply Eq.refl; apply Eq.refl)); apply Eq.refl) | (apply w_on; apply Eq.refl))
            refine w_bool 40 rfl (fun f3 => ?_) (fun f3 => ?_)
            · repeat (first | (apply w_op; (first | (apply p_mvB; apply Eq.refl) | (apply p_asB; apply Eq.refl) | (apply p_pick_t; apply Eq.refl; apply Eq.refl)); apply Eq.refl) | (apply w_nil) | (apply c_seq) | (apply e_then) | (apply c_region) | (apply w_off; apply Eq.refl; apply Eq.refl) | (apply c_cond_t; apply Eq.refl) | (apply c_ret) | (apply e_then_ret) | (apply e_bk_ret) | (apply e_lp_ret))
              refine r_ret1 Tryd.results26 rfl ⟨congrArg Value.bool ?_, hb1⟩
              exact (right_bad hk1 (by rw [hpo, f1, f2, f3]; rfl)).symm
            · repeat (first | (apply w_op; (first | (apply p_mvI; apply Eq.refl) | (apply p_mvL; apply Eq.refl) | (apply p_indexAddr; apply Eq.refl; apply Eq.refl; apply Eq.refl; omega)); apply Eq.refl) | (apply w_on; apply Eq.refl))
              refine w_op (p_load0 (v := .string (split p)[k]) rfl hcel rfl) rfl ?_
              repeat (first | (apply w_op; (first | (apply p_mvB; apply Eq.refl) | (apply p_gtr; apply Eq.refl; apply Eq.refl) | (apply p_len_str; apply Eq.refl) | (apply p_pick_f; apply Eq.refl; apply Eq.refl)); apply Eq.refl) | (apply w_on; apply Eq.refl))
              refine w_bool 48 rfl (fun f4 => ?_) (fun f4 => ?_)
              · repeat (first | (apply w_op; (first | (apply p_asB; apply Eq.refl) | (apply p_pick_t; apply Eq.refl; apply Eq.refl)); apply Eq.refl) | (apply w_nil) | (apply c_seq) | (apply e_then) | (apply c_region) | (apply w_off; apply Eq.refl; apply Eq.refl) | (apply c_cond_t; apply Eq.refl) | (apply c_ret) | (apply e_then_ret) | (apply e_bk_ret) | (apply e_lp_ret))
                refine r_ret1 Tryd.results26 rfl ⟨congrArg Value.bool ?_, hb1⟩
                exact (right_bad hk1 (by rw [hpo, f1, f2, f3, f4]; rfl)).symm
              · repeat (first | (apply w_op; (first | (apply p_mvI; apply Eq.refl) | (apply p_mvL; apply Eq.refl) | (apply p_indexAddr; apply Eq.refl; apply Eq.refl; apply Eq.refl; omega)); apply Eq.refl) | (apply w_on; apply Eq.refl))
                refine w_op (p_load0 (v := .string (split p)[k]) rfl hcel rfl) rfl ?_
                repeat (apply w_on; apply Eq.refl)
                refine w_call cl44 (nought_ok _ _ hsz) rfl ?_
                rintro v w3 ⟨rfl, rfl⟩
                repeat (first | (apply w_op; (apply p_pick_f; apply Eq.refl; apply Eq.refl); apply Eq.refl) | (apply w_nil) | (apply e_then))
                refine c_cond rfl (fun f5 => ?_) (fun f5 => ?_)
                · repeat (first | (apply w_op; (apply p_asB; apply Eq.refl); apply Eq.refl) | (apply w_nil) | (apply c_seq) | (apply e_then) | (apply c_region) | (apply c_ret) | (apply e_then_ret) | (apply e_bk_ret) | (apply e_lp_ret))
                  refine r_ret1 Tryd.results26 rfl ⟨congrArg Value.bool ?_, hb1⟩
                  exact (right_bad hk1 (by rw [hpo, f1, f2, f3, f4, f5]; rfl)).symm
                · repeat (first | (apply w_op; (first | (apply p_mvI; apply Eq.refl) | (apply p_asI; apply Eq.refl) | (apply p_add64; apply Eq.refl; apply Eq.refl; omega)); apply Eq.refl) | (apply w_nil) | (apply e_then) | (apply c_region) | (apply c_skip) | (apply e_bk))
                  refine e_lp (by repeat (first | exact Over.base | exact Over.refl | refine Over.put rfl ?_ | refine Over.cnP rfl ?_ | refine Over.zpP rfl ?_)) ?_
                  refine ⟨⟨rfl, k + 1, rfl, by omega, ?_⟩, ?_⟩
                  · rw [List.take_succ_eq_append_getElem hk1, List.all_append, hall]
                    have : partOk (split p)[k] = true := by rw [hpo, f1, f2, f3, f4, f5]; rfl
                    simp [this]
                  · show (split p).length - ((k : Int) + 1).toNat < (split p).length - ((k : Int)).toNat
                    omega
      · have hge := of_decide_eq_false g
        obtain rfl : k = (split p).length := by omega
        rw [List.take_length] at hall
        repeat (first | (apply w_op; (apply p_asB; apply Eq.refl); apply Eq.refl) | (apply w_nil) | (apply c_seq) | (apply e_then) | (apply c_region) | (apply c_ret) | (apply c_exit) | (apply e_then_exit) | (apply e_bk_same) | (apply e_lp_exit))
        refine r_ret1 Tryd.results26 rfl ⟨congrArg Value.bool ?_, hb1⟩
        rw [right, hall]
        simp
        omega

theorem cmpP_app (l a b : List ByteArray) : cmpP (l ++ a) (l ++ b) = cmpP a b := by
  induction l with
  | nil => rfl
  | cons x l ih =>
    simp only [List.cons_append, cmpP]
    rw [if_neg (by simp [cmpS_zero]), ih]
theorem cmpP_take {x y : List ByteArray} {k : Nat} (h : x.take k = y.take k) : cmpP x y = cmpP (x.drop k) (y.drop k) := by
  conv => lhs; rw [← List.take_append_drop k x, ← List.take_append_drop k y, h]
  exact cmpP_app _ _ _
theorem two_strs {w : World} {B : Nat} {v : Value} {l : List ByteArray} (h : Strs w B v l) : ∃ A c, v = .slice A l.length c := by
  obtain ⟨A, c, e, _⟩ := h.out
  exact ⟨A, c, e⟩

end Go.Proofs.YtmgheamdboiklaaDoor
