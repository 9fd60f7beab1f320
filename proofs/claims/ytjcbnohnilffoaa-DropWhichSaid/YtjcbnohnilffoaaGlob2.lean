/- THE WALKS of package glob: matching. -/
import Derived.Test.YtjcbnohnilffoaaGlob
set_option linter.unusedVariables false
namespace Go.Proofs.Ytjcbnohnilffoaa
open Go.RowKit

def enGP (g : G) : List Value := enG g.toP

theorem globCheck_ok (p : ByteArray) (w : World) (hs : p.size ≤ 9223372036854775807) : Ret Try.prog 67 [.string p] w fun v w' => v = .int .i64 (if p.size ≤ 100 then (if patOk p then 0 else 5) else 7) ∧ Below w.heap.size w w' := by
  refine calls_in Try.func67 rfl Try.ntmps67 rfl ?_
  repeat (first | (apply w_op; (first | (apply p_mvS; apply Eq.refl) | (apply p_asI; apply Eq.refl) | (apply p_gtr; apply Eq.refl; apply Eq.refl) | (apply p_len_str; apply Eq.refl)); apply Eq.refl) | (apply w_nil) | (apply c_seq) | (apply e_then) | (apply c_region))
  refine c_cond rfl (fun h => ?_) (fun h => ?_)
  · have h' := of_decide_eq_true h
    repeat (first | (apply w_op; (apply p_asI; apply Eq.refl); apply Eq.refl) | (apply w_nil) | (apply c_seq) | (apply e_then) | (apply c_region) | (apply c_ret) | (apply e_then_ret))
    refine r_ret1 Try.results67 rfl ⟨congrArg (Value.int .i64) ?_, Below.refl _ _⟩
    rw [if_neg (by omega)]
  · have h' := of_decide_eq_false h
    repeat (first | (apply w_op; (apply p_mvS; apply Eq.refl); apply Eq.refl) | (apply c_seq) | (apply e_then) | (apply c_region) | (apply c_skip))
    refine w_call cl69 (signs_ok p _ hs) rfl ?_
    rintro v w1 ⟨⟨u, rfl, -⟩, hb⟩
    repeat (first | (apply w_op; (first | (apply p_mvB; apply Eq.refl) | (apply p_mvT; apply Eq.refl) | (apply p_asB; apply Eq.refl) | (apply p_assign) | (apply p_extract; apply Eq.refl; apply Eq.refl) | (apply p_not; apply Eq.refl)); apply Eq.refl) | (apply w_nil) | (apply c_seq) | (apply e_then) | (apply c_region))
    refine c_cond rfl (fun h2 => ?_) (fun h2 => ?_)
    · repeat (first | (apply w_op; (apply p_asI; apply Eq.refl); apply Eq.refl) | (apply w_nil) | (apply c_seq) | (apply e_then) | (apply c_region) | (apply c_ret) | (apply e_then_ret))
      refine r_ret1 Try.results67 rfl ⟨congrArg (Value.int .i64) ?_, hb⟩
      have h2' : patOk p = false := by simpa using h2
      rw [if_pos (by omega), h2']; rfl
    · repeat (first | (apply w_op; (apply p_asI; apply Eq.refl); apply Eq.refl) | (apply w_nil) | (apply c_seq) | (apply e_then) | (apply c_region) | (apply c_skip) | (apply c_ret))
      refine r_ret1 Try.results67 rfl ⟨congrArg (Value.int .i64) ?_, hb⟩
      have h2' : patOk p = true := by simpa using h2
      rw [if_pos (by omega), h2']; rfl

theorem takes_ok (g : G) (b : UInt8) (ad : Addr) (w : World) (ho : Cel w ad (enGP g)) : Ret Try.prog 71 [.pointer (some ad), .int .u8 b.toNat] w fun v w' => v = .bool (g.takes b) ∧ Below w.heap.size w w' := by
  have hlt := ho.lt (by rw [enGP, enG_len]; omega)
  have hbl := b.toNat_lt
  have h47 : decide ((b.toNat : Int) = 47) = decide (b = 47) := decide_eq_decide.2 (byte_is (c := 47))
  refine calls_in Try.func71 rfl Try.ntmps71 rfl ?_
  cases g with
  | lit c =>
    repeat (first | (apply w_op; (first | (apply p_mvP; apply Eq.refl) | (apply p_asB; apply Eq.refl) | (apply p_nilCheck; apply Eq.refl) | (apply p_fieldAddr; apply Eq.refl)); apply Eq.refl) | (apply w_nil) | (apply c_seq) | (apply e_then) | (apply c_region))
    refine w_op (p_load0 (cs := enGP (.lit c)) (v := .int .i64 0) rfl (by rw [addr_add_zero]; exact ho) rfl) rfl ?_
    repeat (first | (apply w_op; (first | (apply p_mvI; apply Eq.refl) | (apply p_mvP; apply Eq.refl) | (apply p_asB; apply Eq.refl) | (apply p_nilCheck; apply Eq.refl) | (apply p_fieldAddr; apply Eq.refl) | (apply p_eql; apply Eq.refl; apply Eq.refl)); apply Eq.refl) | (apply w_nil) | (apply c_seq) | (apply e_then) | (apply c_region) | (apply c_block) | (apply c_cond_t; apply Eq.refl))
    refine w_op (p_loadF (v := .int .u8 c.toNat) rfl ho rfl) rfl ?_
    repeat (first | (apply w_op; (first | (apply p_asB; apply Eq.refl) | (apply p_eql; apply Eq.refl; apply Eq.refl)); apply Eq.refl) | (apply w_nil) | (apply e_then) | (apply c_ret) | (apply e_then_ret) | (apply e_bk_ret))
    refine r_ret1 Try.results71 rfl ⟨congrArg Value.bool ?_, Below.refl _ _⟩
    exact decide_eq_decide.2 byte_is
  | all =>
    repeat (first | (apply w_op; (first | (apply p_mvP; apply Eq.refl) | (apply p_asB; apply Eq.refl) | (apply p_nilCheck; apply Eq.refl) | (apply p_fieldAddr; apply Eq.refl)); apply Eq.refl) | (apply w_nil) | (apply c_seq) | (apply e_then) | (apply c_region))
    refine w_op (p_load0 (cs := enGP .all) (v := .int .i64 1) rfl (by rw [addr_add_zero]; exact ho) rfl) rfl ?_
    repeat (first | (apply w_op; (first | (apply p_asB; apply Eq.refl) | (apply p_eql; apply Eq.refl; apply Eq.refl)); apply Eq.refl) | (apply w_nil) | (apply c_seq) | (apply e_then) | (apply c_region) | (apply c_block) | (apply c_cond_t; apply Eq.refl) | (apply c_cond_f; apply Eq.refl) | (apply c_ret) | (apply e_then_ret) | (apply e_bk_ret))
    refine r_ret1 Try.results71 rfl ⟨congrArg Value.bool ?_, Below.refl _ _⟩
    rfl
  | some_ =>
    repeat (first | (apply w_op; (first | (apply p_mvP; apply Eq.refl) | (apply p_asB; apply Eq.refl) | (apply p_nilCheck; apply Eq.refl) | (apply p_fieldAddr; apply Eq.refl)); apply Eq.refl) | (apply w_nil) | (apply c_seq) | (apply e_then) | (apply c_region))
    refine w_op (p_load0 (cs := enGP .some_) (v := .int .i64 2) rfl (by rw [addr_add_zero]; exact ho) rfl) rfl ?_
    repeat (first | (apply w_op; (first | (apply p_mvI; apply Eq.refl) | (apply p_asB; apply Eq.refl) | (apply p_eql; apply Eq.refl; apply Eq.refl) | (apply p_neq; apply Eq.refl; apply Eq.refl)); apply Eq.refl) | (apply w_nil) | (apply c_seq) | (apply e_then) | (apply c_region) | (apply c_block) | (apply c_cond_f; apply Eq.refl) | (apply c_skip) | (apply c_ret) | (apply e_bk))
    refine r_ret1 Try.results71 rfl ⟨congrArg Value.bool ?_, Below.refl _ _⟩
    show (!decide ((b.toNat : Int) = 47)) = _
    rw [h47]; rfl
  | one =>
    repeat (first | (apply w_op; (first | (apply p_mvP; apply Eq.refl) | (apply p_asB; apply Eq.refl) | (apply p_nilCheck; apply Eq.refl) | (apply p_fieldAddr; apply Eq.refl)); apply Eq.refl) | (apply w_nil) | (apply c_seq) | (apply e_then) | (apply c_region))
    refine w_op (p_load0 (cs := enGP .one) (v := .int .i64 3) rfl (by rw [addr_add_zero]; exact ho) rfl) rfl ?_
    repeat (first | (apply w_op; (first | (apply p_mvI; apply Eq.refl) | (apply p_asB; apply Eq.refl) | (apply p_eql; apply Eq.refl; apply Eq.refl) | (apply p_neq; apply Eq.refl; apply Eq.refl)); apply Eq.refl) | (apply w_nil) | (apply c_seq) | (apply e_then) | (apply c_region) | (apply c_block) | (apply c_cond_f; apply Eq.refl) | (apply c_skip) | (apply c_ret) | (apply e_bk))
    refine r_ret1 Try.results71 rfl ⟨congrArg Value.bool ?_, Below.refl _ _⟩
    show (!decide ((b.toNat : Int) = 47)) = _
    rw [h47]; rfl
  | cls neg set =>
    repeat (first | (apply w_op; (first | (apply p_mvP; apply Eq.refl) | (apply p_asB; apply Eq.refl) | (apply p_nilCheck; apply Eq.refl) | (apply p_fieldAddr; apply Eq.refl)); apply Eq.refl) | (apply w_nil) | (apply c_seq) | (apply e_then) | (apply c_region))
    refine w_op (p_load0 (cs := enGP (.cls neg set)) (v := .int .i64 4) rfl (by rw [addr_add_zero]; exact ho) rfl) rfl ?_
    repeat (first | (apply w_op; (first | (apply p_asB; apply Eq.refl) | (apply p_eql; apply Eq.refl; apply Eq.refl)); apply Eq.refl) | (apply w_nil) | (apply c_seq) | (apply e_then) | (apply c_region) | (apply c_block) | (apply c_cond_t; apply Eq.refl) | (apply c_cond_f; apply Eq.refl))
    refine c_quiet (fun x => Below w.heap.size w x) mixed (by kernel_rfl) (Below.refl _ _).drew ?_
    repeat (apply q_op; intro _ hC; (first | (apply p_mvI; apply Eq.refl) | (apply p_mvB; apply Eq.refl) | (apply p_neq; apply Eq.refl; apply Eq.refl)); apply Eq.refl)
    refine q_bool 23 rfl (fun h => ?_) (fun h => ?_)
    · repeat (first | (apply q_op; intro _ hC; (first | (apply p_mvI; apply Eq.refl) | (apply p_mvP; apply Eq.refl) | (apply p_nilCheck; apply Eq.refl) | (apply p_fieldAddr; apply Eq.refl)); apply Eq.refl) | (apply q_on; apply Eq.refl))
      refine q_op (fun x hx => p_indexAddrA rfl rfl (by omega)) rfl ?_
      repeat (apply q_on; apply Eq.refl)
      refine q_op (fun x hx => p_loadA (a' := (ad.add 3).add ((b.toNat : Int).toNat * 1)) (v := .bool (set b)) (j := 3 + b.toNat) rfl (by rw [addr_add_add]; simp) (ho.below hx hlt) (by rw [enGP, enG_set _ _ hbl]; simp [G.toP])) rfl ?_
      repeat (first | (apply q_op; intro _ hC; (first | (apply p_mvP; apply Eq.refl) | (apply p_nilCheck; apply Eq.refl) | (apply p_fieldAddr; apply Eq.refl)); apply Eq.refl) | (apply q_on; apply Eq.refl))
      refine q_op (fun x hx => p_loadF (v := .bool neg) rfl (ho.below hx hlt) rfl) rfl ?_
      repeat (first | (apply q_op; intro _ hC; (first | (apply p_asB; apply Eq.refl) | (apply p_pick_t; apply Eq.refl; apply Eq.refl) | (apply p_bneq; apply Eq.refl; apply Eq.refl)); apply Eq.refl) | (apply q_on; apply Eq.refl))
      refine q_nil (fun w3 hb3 => ?_)
      repeat (first | (apply e_then) | (apply c_ret) | (apply e_then_ret) | (apply e_bk_ret))
      refine r_ret1 Try.results71 rfl ⟨congrArg Value.bool ?_, hb3⟩
      rw [h47] at h
      have h' : decide (b = 47) = false := by simpa using h
      simp [G.takes, h']
    · repeat (first | (apply q_op; intro _ hC; (first | (apply p_asB; apply Eq.refl) | (apply p_pick_f; apply Eq.refl; apply Eq.refl)); apply Eq.refl) | (apply q_off; apply Eq.refl; apply Eq.refl))
      refine q_nil (fun w3 hb3 => ?_)
      repeat (first | (apply e_then) | (apply c_ret) | (apply e_then_ret) | (apply e_bk_ret))
      refine r_ret1 Try.results71 rfl ⟨congrArg Value.bool ?_, hb3⟩
      rw [h47] at h
      have h' : decide (b = 47) = true := by simpa using h
      simp [G.takes, h']

/-! ### rows of Bools -/
def enBs (f : Nat → Bool) (m : Nat) : List Value := (List.range m).map fun k => .bool (f k)
theorem enBs_len (f : Nat → Bool) (m : Nat) : (enBs f m).length = m := by simp [enBs]
theorem enBs_get (f : Nat → Bool) (m k : Nat) (h : k < m) : (enBs f m)[k]? = some (.bool (f k)) := by simp [enBs, h]
theorem enBs_set (f : Nat → Bool) (m k : Nat) : (enBs f m).set k (.bool true) = enBs (fun j => f j || decide (j = k)) m := by
  apply List.ext_getElem?
  intro j
  simp only [enBs, List.getElem?_set, List.length_map, List.length_range, List.getElem?_map]
  by_cases hj : j < m
  · rw [List.getElem?_range hj]
    by_cases e : k = j
    · subst e; simp [hj]
    · have : ¬ j = k := fun q => e q.symm
      simp [e, this]
  · rw [List.getElem?_eq_none (by simp; omega)]
    by_cases e : k = j
    · subst e; simp [hj]
    · simp [e]
theorem enBs_congr {f g : Nat → Bool} {m : Nat} (h : ∀ k, k < m → f k = g k) : enBs f m = enBs g m := by
  apply List.map_congr_left
  intro k hk
  rw [h k (by simpa using hk)]
theorem made_false (m : Nat) : (madeCells #[.bool false] m).toList = enBs (fun _ => false) m := by
  apply List.ext_getElem?
  intro j
  simp only [madeCells, enBs]
  by_cases h : j < m
  · simp [h, Nat.mod_one]
  · simp [h]
def clo (gs : List G) (f : Nat → Bool) : Nat → Bool
  | 0 => f 0
  | k + 1 => f (k + 1) || (starAt gs k && clo gs f k)
def G.kind (g : G) : Nat := g.toP.kind
theorem enGP_kind (g : G) : (enGP g)[0]? = some (.int .i64 (g.kind : Int)) := rfl
theorem star_kind (g : G) : (decide ((g.kind : Int) = 1) || decide ((g.kind : Int) = 2)) = g.star := by cases g <;> rfl

theorem empty_ok (v1 : Value) (gs : List G) (f : Nat → Bool) (b c m : Nat) (w : World) (B : Nat) (h1 : Sl enGP 259 w B v1 gs) (hm : m = gs.length + 1) (hB : B ≤ b) (hb : Blk w b 4 (enBs f m)) (hl : gs.length ≤ 1000000) :
    Ret Try.prog 70 [v1, .slice (some ⟨b, 0, none⟩) m c] w fun _ w' => Put w w' b ∧ Blk w' b 4 (enBs (clo gs f) m) := by
  obtain ⟨A1, c1, rfl, hc1, hA1⟩ := h1.out
  have hblt := hb.lt
  refine calls_in Try.func70 rfl Try.ntmps70 rfl ?_
  repeat (first | (apply w_op; (first | (apply p_mvI; apply Eq.refl) | (apply p_mvL; apply Eq.refl) | (apply p_len_sl; apply Eq.refl)); apply Eq.refl) | (apply w_nil) | (apply c_seq) | (apply e_then) | (apply c_region) | (apply c_block))
  refine c_loop [7] [4, 8, 9, 10, 11, 12, 13, 14, 15, 16, 17, 18, 19, 20, 21, 22, 23, 24, 25, 26, 27, 28, 29, 30, 31, 32, 33, 34] (fun vs w2 => ∃ k : Nat, vs = [.int .i64 (k : Int)] ∧ k ≤ gs.length ∧ Put w w2 b ∧ Blk w2 b 4 (enBs (fun j => if j ≤ k then clo gs f j else f j) m)) (fun vs _ => gs.length - (intOf (vs.headD undef)).toNat) rfl
    ⟨0, rfl, Nat.zero_le _, Put.refl _ _, ?_⟩ ?_
  · rw [enBs_congr (g := f) (fun j _ => ?_)]
    · exact hb
    · by_cases hj : j ≤ 0
      · obtain rfl : j = 0 := by omega
        rfl
      · rw [if_neg hj]
  · rintro _ u w2 ⟨k, rfl, hk, hput, hb2⟩
    have hs2 : Sl enGP 259 w2 B (.slice A1 gs.length c1) gs := h1.below (hput.below (Below.refl _ _) (by omega) hB)
    repeat (first | (apply w_op; (apply p_lss; apply Eq.refl; apply Eq.refl); apply Eq.refl) | (apply w_nil) | (apply c_seq) | (apply e_then) | (apply c_region))
    refine c_cond rfl (fun g => ?_) (fun g => ?_)
    · have hlt := of_decide_eq_true g
      have hk1 : k < gs.length := by omega
      obtain ⟨ad, rfl, hblk, hcel⟩ := hs2.at_ rfl hk1
      have hat : starAt gs k = gs[k].star := by rw [starAt, List.getElem?_eq_getElem hk1]
      have hsk := star_kind gs[k]
      repeat (first | (apply w_op; (first | (apply p_mvI; apply Eq.refl) | (apply p_mvL; apply Eq.refl) | (apply p_asI; apply Eq.refl) | (apply p_indexAddr; apply Eq.refl; apply Eq.refl; apply Eq.refl; omega)); apply Eq.refl) | (apply w_nil) | (apply c_seq) | (apply e_then) | (apply c_region) | (apply c_block) | (apply c_skip))
      refine w_op (p_loadA (v := .bool (clo gs f k)) (j := k) rfl (by simp) hb2.obj0 (by rw [enBs_get _ _ _ (by omega)]; simp)) rfl ?_
      refine w_cut1 [29] [13, 14, 15, 16, 17, 18, 19, 20, 21, 22, 23, 24, 25, 26, 27, 28] (fun vs w3 => w3 = w2 ∧ vs = [.bool (clo gs f k && starAt gs k)]) ?_ ?_
      · repeat (apply w_op; (apply p_mvB; apply Eq.refl); apply Eq.refl)
        refine w_bool 14 rfl (fun q => ?_) (fun q => ?_)
        · repeat (first | (apply w_op; (first | (apply p_mvI; apply Eq.refl) | (apply p_mvL; apply Eq.refl) | (apply p_fieldAddr; apply Eq.refl) | (apply p_indexAddr; apply Eq.refl; apply Eq.refl; apply Eq.refl; omega)); apply Eq.refl) | (apply w_on; apply Eq.refl))
          refine w_op (p_load0 (v := .int .i64 gs[k].kind) rfl (by rw [addr_add_zero]; exact hcel) (enGP_kind _)) rfl ?_
          repeat (first | (apply w_op; (first | (apply p_mvB; apply Eq.refl) | (apply p_eql; apply Eq.refl; apply Eq.refl)); apply Eq.refl) | (apply w_on; apply Eq.refl))
          refine w_bool 21 rfl (fun q2 => ?_) (fun q2 => ?_)
          · repeat (first | (apply w_op; (apply p_pick_t; apply Eq.refl; apply Eq.refl); apply Eq.refl) | (apply w_nil) | (apply w_on; apply Eq.refl) | (apply w_off; apply Eq.refl; apply Eq.refl))
            refine e_ct (by repeat (first | exact Over.base | exact Over.refl | refine Over.put rfl ?_ | refine Over.cnP rfl ?_ | refine Over.zpP rfl ?_)) ?_
            refine ⟨rfl, ?_⟩
            rw [hat, ← hsk, q2, q]; rfl
          · repeat (first | (apply w_op; (first | (apply p_mvI; apply Eq.refl) | (apply p_mvL; apply Eq.refl) | (apply p_fieldAddr; apply Eq.refl) | (apply p_indexAddr; apply Eq.refl; apply Eq.refl; apply Eq.refl; omega)); apply Eq.refl) | (apply w_on; apply Eq.refl))
            refine w_op (p_load0 (v := .int .i64 gs[k].kind) rfl (by rw [addr_add_zero]; exact hcel) (enGP_kind _)) rfl ?_
            repeat (first | (apply w_op; (first | (apply p_eql; apply Eq.refl; apply Eq.refl) | (apply p_pick_t; apply Eq.refl; apply Eq.refl) | (apply p_pick_f; apply Eq.refl; apply Eq.refl)); apply Eq.refl) | (apply w_nil) | (apply w_on; apply Eq.refl))
            refine e_ct (by repeat (first | exact Over.base | exact Over.refl | refine Over.put rfl ?_ | refine Over.cnP rfl ?_ | refine Over.zpP rfl ?_)) ?_
            refine ⟨rfl, ?_⟩
            rw [hat, ← hsk, q2, q]; rfl
        · repeat (first | (apply w_op; (apply p_pick_f; apply Eq.refl; apply Eq.refl); apply Eq.refl) | (apply w_nil) | (apply w_off; apply Eq.refl; apply Eq.refl) | (apply w_off2; apply Eq.refl; apply Eq.refl))
          refine e_ct (by repeat (first | exact Over.base | exact Over.refl | refine Over.put rfl ?_ | refine Over.cnP rfl ?_ | refine Over.zpP rfl ?_)) ?_
          refine ⟨rfl, ?_⟩
          rw [q]; rfl
      · rintro _ u3 _ ⟨rfl, rfl⟩
        have hclo : clo gs f (k + 1) = (f (k + 1) || (clo gs f k && starAt gs k)) := by rw [Bool.and_comm]; rfl
        skip
        refine c_cond rfl (fun q => ?_) (fun q => ?_)
        · repeat (first | (apply w_op; (first | (apply p_mvI; apply Eq.refl) | (apply p_mvL; apply Eq.refl) | (apply p_add64; apply Eq.refl; apply Eq.refl; omega) | (apply p_indexAddr; apply Eq.refl; apply Eq.refl; apply Eq.refl; omega)); apply Eq.refl) | (apply c_region))
          refine w_store (v := .bool true) (b := b) (j := k + 1) (cs := enBs (fun j => if j ≤ k then clo gs f j else f j) m) (e := 4) ⟨_, _, inferInstance⟩ rfl (by first | (simp [addr_add_plain]; done) | (simp [addr_add_plain]; omega)) rfl rfl hb2 (enBs_get _ _ _ (by omega)) (fun w4 hp4 hb4 => ?_)
          repeat (first | (apply w_op; (first | (apply p_mvI; apply Eq.refl) | (apply p_add64; apply Eq.refl; apply Eq.refl; omega)); apply Eq.refl) | (apply w_nil) | (apply e_then) | (apply c_region) | (apply e_bk))
          refine e_lp (by repeat (first | exact Over.base | exact Over.refl | refine Over.put rfl ?_ | refine Over.cnP rfl ?_ | refine Over.zpP rfl ?_)) ?_
          refine ⟨⟨k + 1, rfl, by omega, hput.trans hp4, ?_⟩, ?_⟩
          · rw [enBs_set] at hb4
            rw [enBs_congr (fun j hj => ?_)] at hb4
            · exact hb4
            · by_cases hjk : j ≤ k
              · have h2 : ¬ j = k + 1 := by omega
                simp [hjk, h2, show j ≤ k + 1 by omega]
              · by_cases h2 : j = k + 1
                · subst h2; simp [hclo, q]
                · simp [hjk, h2, show ¬ j ≤ k + 1 by omega]
          · show gs.length - ((k : Int) + 1).toNat < gs.length - ((k : Int)).toNat
            omega
        · repeat (first | (apply w_op; (first | (apply p_mvI; apply Eq.refl) | (apply p_add64; apply Eq.refl; apply Eq.refl; omega)); apply Eq.refl) | (apply w_nil) | (apply e_then) | (apply c_region) | (apply c_skip) | (apply e_bk))
          refine e_lp (by repeat (first | exact Over.base | exact Over.refl | refine Over.put rfl ?_ | refine Over.cnP rfl ?_ | refine Over.zpP rfl ?_)) ?_
          refine ⟨⟨k + 1, rfl, by omega, hput, ?_⟩, ?_⟩
          · rw [enBs_congr (fun j hj => ?_)]
            · exact hb2
            · by_cases hjk : j ≤ k
              · simp [hjk, show j ≤ k + 1 by omega]
              · by_cases h2 : j = k + 1
                · subst h2; simp [hclo, q]
                · simp [hjk, show ¬ j ≤ k + 1 by omega]
          · show gs.length - ((k : Int) + 1).toNat < gs.length - ((k : Int)).toNat
            omega
    · have hge := of_decide_eq_false g
      obtain rfl : k = gs.length := by omega
      repeat (first | (apply c_exit) | (apply e_then_exit) | (apply e_bk_same) | (apply e_lp_exit))
      refine r_end0 Try.results70 ⟨hput, ?_⟩
      rw [enBs_congr (g := clo gs f) (fun j hj => by rw [if_pos (by omega)])] at hb2
      exact hb2

/-! ### Match -/
theorem gsF_len {l : List UInt8} : ∀ (k i : Nat) (gs : List G), gsF l k i = some gs → gs.length ≤ k := by
  intro k
  induction k with
  | zero => intro i gs h; simp [gsF] at h; try subst h; try simp
  | succ k ih =>
    have key : ∀ (j : Nat) (g : G) (gs : List G), (gsF l k j).map (g :: ·) = some gs → gs.length ≤ k + 1 := by
      intro j g gs h
      obtain ⟨r, hr, rfl⟩ := Option.map_eq_some_iff.1 h
      have := ih j r hr
      simp; omega
    intro i gs h
    unfold gsF at h
    repeat' split at h
    all_goals first | exact key _ _ _ h | (cases h; done) | (injection h with h; subst h; simp; done) | skip
def nx (gs : List G) (at_ : Nat → Bool) (c : UInt8) (k j : Nat) : Bool :=
  (decide (j < k) && (starAt gs j && at_ j && takesAt gs j c)) || (decide (1 ≤ j) && (decide (j - 1 < k) && (!starAt gs (j - 1) && at_ (j - 1) && takesAt gs (j - 1) c)))
theorem nx_zero (gs : List G) (at_ : Nat → Bool) (c : UInt8) (j : Nat) : nx gs at_ c 0 j = false := by simp [nx]
theorem nx_skip {gs : List G} {at_ : Nat → Bool} {c : UInt8} {k : Nat} (h : (at_ k && takesAt gs k c) = false) (j : Nat) : nx gs at_ c (k + 1) j = nx gs at_ c k j := by
  unfold nx
  congr 1
  · by_cases e : j = k
    · subst e
      cases h1 : at_ j <;> cases h2 : takesAt gs j c <;> simp_all
    · have : decide (j < k + 1) = decide (j < k) := by simp; omega
      rw [this]
  · by_cases e : j = k + 1
    · subst e
      cases h1 : at_ k <;> cases h2 : takesAt gs k c <;> simp_all
    · by_cases h1 : 1 ≤ j
      · have : decide (j - 1 < k + 1) = decide (j - 1 < k) := by simp; omega
        rw [this]
      · simp [h1]
theorem nx_star {gs : List G} {at_ : Nat → Bool} {c : UInt8} {k : Nat} (h1 : at_ k = true) (h2 : takesAt gs k c = true) (h3 : starAt gs k = true) (j : Nat) : nx gs at_ c (k + 1) j = (nx gs at_ c k j || decide (j = k)) := by
  unfold nx
  by_cases e : j = k
  · subst e; simp [h1, h2, h3]
  · have e1 : decide (j < k + 1) = decide (j < k) := by simp; omega
    rw [e1]
    by_cases e2 : j = k + 1
    · subst e2; simp [h3]
    · by_cases h1 : 1 ≤ j
      · have : decide (j - 1 < k + 1) = decide (j - 1 < k) := by simp; omega
        rw [this]; simp [e]
      · simp [h1, e]
theorem nx_one {gs : List G} {at_ : Nat → Bool} {c : UInt8} {k : Nat} (h1 : at_ k = true) (h2 : takesAt gs k c = true) (h3 : starAt gs k = false) (j : Nat) : nx gs at_ c (k + 1) j = (nx gs at_ c k j || decide (j = k + 1)) := by
  unfold nx
  by_cases e : j = k + 1
  · subst e; simp [h1, h2, h3]
  · have e1 : (decide (j < k + 1) && (starAt gs j && at_ j && takesAt gs j c)) = (decide (j < k) && (starAt gs j && at_ j && takesAt gs j c)) := by
      by_cases e2 : j = k
      · subst e2; simp [h3]
      · have e1 : decide (j < k + 1) = decide (j < k) := by simp; omega
        rw [e1]
    rw [e1]
    by_cases h1 : 1 ≤ j
    · have : decide (j - 1 < k + 1) = decide (j - 1 < k) := by simp; omega
      rw [this]; simp [e]
    · simp [h1, e]
theorem clo_start (gs : List G) (s : List UInt8) : ∀ k, k ≤ gs.length → clo gs (fun j => decide (j = 0)) k = qm gs s 0 k := by
  intro k
  induction k with
  | zero => intro h; rw [qm_zero gs s 0 h]; rfl
  | succ k ih =>
    intro h
    rw [qm_zero gs s (k + 1) h]
    simp only [clo, ih (by omega)]
    simp
theorem clo_step (gs : List G) (s : List UInt8) (i : Nat) : ∀ k, k ≤ gs.length → clo gs (nx gs (qm gs s i) (s.getD i 0) gs.length) k = qm gs s (i + 1) k := by
  intro k
  induction k with
  | zero =>
    intro h
    rw [qm_succ gs s i 0 h]
    simp only [clo, nx]
    rcases Nat.eq_zero_or_pos gs.length with e | e
    · simp [e, starAt]
    · simp [e]
  | succ k ih =>
    intro h
    rw [qm_succ gs s i (k + 1) h]
    simp only [clo, ih (by omega), nx]
    have h1 : decide (k < gs.length) = true := decide_eq_true (by omega)
    by_cases h2 : k + 1 < gs.length
    · simp [h1, h2, Bool.or_assoc]
    · have h3 : starAt gs (k + 1) = false := by rw [starAt, List.getElem?_eq_none (by omega)]
      simp [h1, h2, h3]
theorem enG_P (gs : List G) : (gs.map G.toP).flatMap enG = gs.flatMap enGP := by
  induction gs with
  | nil => rfl
  | cons g gs ih => simp [enGP, ih]

set_option maxRecDepth 100000 in
theorem match_ok (p s : ByteArray) (w : World) (hs : p.size ≤ 9223372036854775807) (hs2 : s.size ≤ 1099511627775) : Ret Try.prog 59 [.string p, .string s] w fun v w' => v = .bool (glob p s) ∧ Below w.heap.size w w' := by
  have hls := ls_len s
  refine calls_in Try.func59 rfl Try.ntmps59 rfl ?_
  repeat (first | (apply w_op; (first | (apply p_mvS; apply Eq.refl) | (apply p_asB; apply Eq.refl)); apply Eq.refl) | (apply w_nil) | (apply c_seq) | (apply e_then) | (apply c_region))
  refine w_call cl69 (signs_ok p _ hs) rfl ?_
  rintro v w1 ⟨⟨u, rfl, hsig⟩, hb1⟩
  repeat (first | (apply w_op; (first | (apply p_mvB; apply Eq.refl) | (apply p_mvT; apply Eq.refl) | (apply p_asB; apply Eq.refl) | (apply p_assign) | (apply p_extract; apply Eq.refl; apply Eq.refl) | (apply p_not; apply Eq.refl)); apply Eq.refl) | (apply w_nil) | (apply c_seq) | (apply e_then) | (apply c_region))
  refine c_cond rfl (fun h => ?_) (fun h => ?_)
  · have h' : patOk p = false := by simpa using h
    repeat (first | (apply w_op; (apply p_asB; apply Eq.refl); apply Eq.refl) | (apply w_nil) | (apply c_seq) | (apply e_then) | (apply c_region) | (apply c_ret) | (apply e_then_ret))
    refine r_ret1 Try.results59 rfl ⟨congrArg Value.bool ?_, hb1⟩
    unfold patOk at h'
    unfold glob
    by_cases hp : p.size ≤ 100
    · rw [if_pos hp]
      cases hg : globs (lsB p) with
      | none => rfl
      | some gs => simp [hp, hg] at h'
    · rw [if_neg hp]
  · have h' : patOk p = true := by simpa using h
    have hp100 : p.size ≤ 100 := by unfold patOk at h'; simp at h'; exact h'.1
    obtain ⟨gs, hgs⟩ : ∃ gs, globs (lsB p) = some gs := by
      unfold patOk at h'; simp at h'
      exact Option.isSome_iff_exists.1 h'.2
    have hglob : glob p s = pm gs (lsB s) gs.length s.size := by unfold glob; rw [if_pos hp100, hgs]
    have hlen : gs.length ≤ 101 := by
      have := gsF_len _ _ _ hgs
      rw [ls_len] at this
      omega
    have hown := hsig gs h' hgs
    rw [enG_P] at hown
    have hsl1 : Sl enGP 259 w1 w1.heap.size u gs := Sl.of_own rfl (fun g => enG_len _) hown
    clear hsig hown
    obtain ⟨A1, c1, rfl, hc1, hA1⟩ := hsl1.out
    repeat (first | (apply w_op; (first | (apply p_mvL; apply Eq.refl) | (apply p_len_sl; apply Eq.refl) | (apply p_add64; apply Eq.refl; apply Eq.refl; omega)); apply Eq.refl) | (apply c_seq) | (apply e_then) | (apply c_region) | (apply c_skip))
    refine w_make rfl rfl (by omega) (by omega) rfl (fun b w2 hn2 => ?_)
    have hb2 : Blk w2 b 4 (enBs (fun _ => false) (gs.length + 1)) := by
      have := hn2.blk
      rw [show (Value.bool false).cells = #[.bool false] from rfl, made_false] at this
      simpa using this
    have hwb2 := hn2.hb
    have hz2 := hn2.size
    have hz1 := hb1.size
    repeat (first | (apply w_op; (first | (apply p_mvL; apply Eq.refl) | (apply p_asL; apply Eq.refl) | (apply p_indexAddr; apply Eq.refl; apply Eq.refl; apply Eq.refl; omega)); apply Eq.refl) | (apply w_nil) | (apply c_seq) | (apply e_then) | (apply c_region))
    refine w_store (v := .bool true) (b := b) (j := 0) (cs := enBs (fun _ => false) (gs.length + 1)) (e := 4) ⟨_, _, inferInstance⟩ rfl (by simp [addr_add_plain]) rfl rfl hb2 (enBs_get _ _ _ (by omega)) (fun w3 hp3 hb3 => ?_)
    rw [enBs_set, enBs_congr (g := fun j => decide (j = 0)) (fun j _ => by simp)] at hb3
    have hz3 := hp3.size
    have hbel3 : Below w1.heap.size w1 w3 := hp3.below (hn2.below (Below.refl _ _) (Nat.le_refl _)) (by omega) (by omega)
    have hsl3 := hsl1.below hbel3
    repeat (first | (apply w_op; (apply p_mvL; apply Eq.refl); apply Eq.refl) | (apply w_nil) | (apply c_seq) | (apply e_then) | (apply c_region))
    refine w_call cl70 (empty_ok _ gs (fun j => decide (j = 0)) b _ _ w3 _ hsl3 (by omega) (by omega) (by simpa using hb3) (by omega)) rfl ?_
    rintro v4 w4 ⟨hp4, hb4⟩
    have hz4 := hp4.size
    have hbel4 : Below w1.heap.size w1 w4 := hp4.below hbel3 (by omega) (by omega)
    repeat (first | (apply w_op; (first | (apply p_mvI; apply Eq.refl) | (apply p_mvS; apply Eq.refl) | (apply p_len_str; apply Eq.refl)); apply Eq.refl) | (apply w_nil) | (apply c_seq) | (apply e_then) | (apply c_region) | (apply c_block))
    refine c_loop [29, 7] [8, 9, 10, 30, 31, 32, 33, 34, 35, 36, 37, 38, 39, 40, 41, 42, 43, 44, 45, 46, 47, 48, 49, 50, 51, 52, 53, 54, 55, 56, 57, 58, 59, 60, 61, 62, 63, 64, 65, 66, 67, 68, 69, 70, 71, 72, 73, 74, 75, 76, 77, 78, 79, 80, 81, 82] (fun vs w5 => ∃ (i b5 m5 c5 : Nat), vs = [.int .i64 (i : Int), .slice (some ⟨b5, 0, none⟩) m5 c5] ∧ i ≤ s.size ∧ m5 = gs.length + 1 ∧ Below w1.heap.size w1 w5 ∧ w1.heap.size ≤ b5 ∧ Blk w5 b5 4 (enBs (qm gs (lsB s) i) m5)) (fun vs _ => s.size - (intOf (vs.headD undef)).toNat) rfl
      ⟨0, b, _, _, rfl, Nat.zero_le _, by omega, hbel4, by omega, ?_⟩ ?_
    · rw [enBs_congr (fun j hj => clo_start gs (lsB s) j (by omega))] at hb4
      exact hb4
    · rintro _ u5 w5 ⟨i, b5, m5, c5, rfl, hi, hm5, hbel5, hge5, hb5⟩
      have hz5 := hbel5.size
      have hlt5 := hb5.lt
      repeat (first | (apply w_op; (apply p_lss; apply Eq.refl; apply Eq.refl); apply Eq.refl) | (apply w_nil) | (apply c_seq) | (apply e_then) | (apply c_region))
      refine c_cond rfl (fun q => ?_) (fun q => ?_)
      · have q' := of_decide_eq_true q
        repeat (first | (apply w_op; (first | (apply p_mvI; apply Eq.refl) | (apply p_mvL; apply Eq.refl) | (apply p_asI; apply Eq.refl) | (apply p_len_sl; apply Eq.refl) | (apply p_add64; apply Eq.refl; apply Eq.refl; omega)); apply Eq.refl) | (apply w_nil) | (apply c_seq) | (apply e_then) | (apply c_region) | (apply c_block) | (apply c_skip))
        refine w_make rfl rfl (by omega) (by omega) rfl (fun b6 w6 hn6 => ?_)
        have hb6 : Blk w6 b6 4 (enBs (fun _ => false) (gs.length + 1)) := by
          have := hn6.blk
          rw [show (Value.bool false).cells = #[.bool false] from rfl, made_false] at this
          simpa using this
        have hwb6 := hn6.hb
        have hz6 := hn6.size
        have hbel6 : Below w1.heap.size w1 w6 := hn6.below hbel5 (by omega)
        have hb56 := hb5.grown (hn6.grown none) (by simp)
        repeat (first | (apply w_op; (first | (apply p_mvI; apply Eq.refl) | (apply p_mvL; apply Eq.refl) | (apply p_asL; apply Eq.refl) | (apply p_len_sl; apply Eq.refl)); apply Eq.refl) | (apply w_nil) | (apply c_seq) | (apply e_then) | (apply c_region) | (apply c_block))
        refine c_loop [38] [10, 39, 40, 41, 42, 43, 44, 45, 46, 47, 48, 49, 50, 51, 52, 53, 54, 55, 56, 57, 58, 59, 60, 61, 62, 63, 64, 65, 66, 67, 68, 69, 70, 71, 72, 73, 74, 75, 76, 77] (fun vs w7 => ∃ k : Nat, vs = [.int .i64 (k : Int)] ∧ k ≤ gs.length ∧ Below w6.heap.size w6 w6 ∧ Below (w5.heap.size) w5 w7 ∧ w7.heap.size ≥ w6.heap.size ∧ Blk w7 b6 4 (enBs (nx gs (qm gs (lsB s) i) ((lsB s).getD i 0) k) (gs.length + 1))) (fun vs _ => gs.length - (intOf (vs.headD undef)).toNat) rfl
          ⟨0, rfl, Nat.zero_le _, Below.refl _ _, hn6.below (Below.refl _ _) (Nat.le_refl _), Nat.le_refl _, ?_⟩ ?_
        · rw [enBs_congr (fun j _ => nx_zero _ _ _ j)]
          exact hb6
        · rintro _ u7 w7 ⟨k, rfl, hk, -, hbel7, hz7, hb7⟩
          have hb57 := hb5.below hbel7 hlt5
          have hsl7 := (hsl1.below hbel5).below (hbel7.mono hz5)
          repeat (first | (apply w_op; (apply p_lss; apply Eq.refl; apply Eq.refl); apply Eq.refl) | (apply w_nil) | (apply c_seq) | (apply e_then) | (apply c_region))
          refine c_cond rfl (fun q => ?_) (fun q => ?_)
          · have hk' := of_decide_eq_true q
            have hk1 : k < gs.length := by omega
            obtain ⟨ad, rfl, hblk, hcel⟩ := hsl7.at_ rfl hk1
            have hat : starAt gs k = gs[k].star := by rw [starAt, List.getElem?_eq_getElem hk1]
            have htk : ∀ c, takesAt gs k c = gs[k].takes c := by intro c; rw [takesAt, List.getElem?_eq_getElem hk1]
            have hsk := star_kind gs[k]
            have hbyte : bAt s i = (lsB s).getD i 0 := bAt_get ..
            repeat (first | (apply w_op; (first | (apply p_mvI; apply Eq.refl) | (apply p_asI; apply Eq.refl)); apply Eq.refl) | (apply w_nil) | (apply c_seq) | (apply e_then) | (apply c_region) | (apply c_block) | (apply c_skip))
            refine c_cut1 [55] [41, 42, 43, 44, 45, 46, 47, 48, 49, 50, 51, 52, 53, 54] (fun vs w8 => vs = [.bool (!(qm gs (lsB s) i k && takesAt gs k ((lsB s).getD i 0)))] ∧ Below w7.heap.size w7 w8) ?_ ?_
            · refine c_quiet (fun x => Below w7.heap.size w7 x) mixed (by kernel_rfl) (Below.refl _ _).drew ?_
              repeat (apply q_op; intro _ hC; (first | (apply p_mvI; apply Eq.refl) | (apply p_mvL; apply Eq.refl) | (apply p_indexAddr; apply Eq.refl; apply Eq.refl; apply Eq.refl; omega)); apply Eq.refl)
              refine q_op (fun x hx => p_loadA (v := .bool (qm gs (lsB s) i k)) (j := k) rfl (by simp) (hb57.below hx hb57.lt).obj0 (by rw [enBs_get _ _ _ (by omega)])) rfl ?_
              repeat (apply q_op; intro _ hC; (first | (apply p_mvB; apply Eq.refl) | (apply p_not; apply Eq.refl)); apply Eq.refl)
              refine q_bool 46 rfl (fun q2 => ?_) (fun q2 => ?_)
              · repeat (first | (apply q_op; intro _ hC; (apply p_pick_t; apply Eq.refl; apply Eq.refl); apply Eq.refl) | (apply q_off; apply Eq.refl; apply Eq.refl))
                refine q_nil (fun w8 hb8 => ?_)
                refine e_ct (by repeat (first | exact Over.base | exact Over.refl | refine Over.put rfl ?_ | refine Over.cnP rfl ?_ | refine Over.zpP rfl ?_)) ?_
                refine ⟨?_, hb8⟩
                have : qm gs (lsB s) i k = false := by simpa using q2
                rw [this]; rfl
              · have q2' : qm gs (lsB s) i k = true := by simpa using q2
                repeat (first | (apply q_op; intro _ hC; (first | (apply p_mvI; apply Eq.refl) | (apply p_mvS; apply Eq.refl) | (apply p_mvL; apply Eq.refl) | (apply p_index; apply Eq.refl; apply Eq.refl; omega) | (apply p_indexAddr; apply Eq.refl; apply Eq.refl; apply Eq.refl; omega)); apply Eq.refl) | (apply q_on; apply Eq.refl))
                refine q_call cl71 (.bool (gs[k].takes (bAt s i))) (fun x hx => ?_) rfl ?_
                · have := takes_ok gs[k] (bAt s i) (ad.add (k * 259)) x (hcel.below (B := w1.heap.size) (hx.mono (by have := hbel7.size; omega)) (by rw [addr_add_block]; exact hblk))
                  refine Ret.mono this ?_
                  rintro v' w' ⟨hv, hb'⟩
                  exact ⟨hv, hx.trans (hb'.mono hx.size)⟩
                repeat (first | (apply q_op; intro _ hC; (first | (apply p_not; apply Eq.refl) | (apply p_pick_f; apply Eq.refl; apply Eq.refl)); apply Eq.refl) | (apply q_on; apply Eq.refl))
                refine q_nil (fun w8 hb8 => ?_)
                refine e_ct (by repeat (first | exact Over.base | exact Over.refl | refine Over.put rfl ?_ | refine Over.cnP rfl ?_ | refine Over.zpP rfl ?_)) ?_
                refine ⟨?_, hb8⟩
                rw [q2', htk, ← hbyte]; rfl
            · rintro _ u8 w8 ⟨rfl, hbel8⟩
              have hbel58 : Below w5.heap.size w5 w8 := hbel7.trans (hbel8.mono hbel7.size)
              have hb78 := hb7.below hbel8 hb7.lt
              have hz8 := hbel8.size
              have hcel8 := hcel.below (B := w1.heap.size) (hbel8.mono (by have := hbel7.size; omega)) (by rw [addr_add_block]; exact hblk)
              skip
              refine c_cond rfl (fun q2 => ?_) (fun q2 => ?_)
              · repeat (first | (apply w_op; (first | (apply p_mvI; apply Eq.refl) | (apply p_add64; apply Eq.refl; apply Eq.refl; omega)); apply Eq.refl) | (apply w_nil) | (apply e_then) | (apply c_region) | (apply c_exit) | (apply e_then_exit) | (apply e_bk_same))
                refine e_lp (by repeat (first | exact Over.base | exact Over.refl | refine Over.put rfl ?_ | refine Over.cnP rfl ?_ | refine Over.zpP rfl ?_)) ?_
                refine ⟨⟨k + 1, rfl, by omega, Below.refl _ _, hbel58, by omega, ?_⟩, ?_⟩
                · have q3 : (qm gs (lsB s) i k && takesAt gs k ((lsB s).getD i 0)) = false := by rwa [Bool.not_eq_true'] at q2
                  rw [enBs_congr (fun j _ => nx_skip q3 j)]
                  exact hb78
                · show gs.length - ((k : Int) + 1).toNat < gs.length - ((k : Int)).toNat
                  omega
              · have q3 : (qm gs (lsB s) i k && takesAt gs k ((lsB s).getD i 0)) = true := by simpa using q2
                have q4 : qm gs (lsB s) i k = true := by simp at q3; exact q3.1
                have q5 : takesAt gs k ((lsB s).getD i 0) = true := by simp at q3; exact q3.2
                repeat (first | (apply w_op; (first | (apply p_mvI; apply Eq.refl) | (apply p_mvL; apply Eq.refl) | (apply p_fieldAddr; apply Eq.refl) | (apply p_indexAddr; apply Eq.refl; apply Eq.refl; apply Eq.refl; omega)); apply Eq.refl) | (apply c_seq) | (apply e_then) | (apply c_region) | (apply c_skip))
                refine w_op (p_load0 (v := .int .i64 gs[k].kind) rfl (by rw [addr_add_zero]; exact hcel8) (enGP_kind _)) rfl ?_
                refine w_cut1 [69] [59, 60, 61, 62, 63, 64, 65, 66, 67, 68] (fun vs w9 => w9 = w8 ∧ vs = [.bool (starAt gs k)]) ?_ ?_
                · repeat (apply w_op; (first | (apply p_mvB; apply Eq.refl) | (apply p_eql; apply Eq.refl; apply Eq.refl)); apply Eq.refl)
                  refine w_bool 62 rfl (fun q6 => ?_) (fun q6 => ?_)
                  · repeat (first | (apply w_op; (apply p_pick_t; apply Eq.refl; apply Eq.refl); apply Eq.refl) | (apply w_nil) | (apply w_off; apply Eq.refl; apply Eq.refl))
                    refine e_ct (by repeat (first | exact Over.base | exact Over.refl | refine Over.put rfl ?_ | refine Over.cnP rfl ?_ | refine Over.zpP rfl ?_)) ?_
                    refine ⟨rfl, ?_⟩
                    rw [hat, ← hsk, q6]; rfl
                  · repeat (first | (apply w_op; (first | (apply p_mvI; apply Eq.refl) | (apply p_mvL; apply Eq.refl) | (apply p_fieldAddr; apply Eq.refl) | (apply p_indexAddr; apply Eq.refl; apply Eq.refl; apply Eq.refl; omega)); apply Eq.refl) | (apply w_on; apply Eq.refl))
                    refine w_op (p_load0 (v := .int .i64 gs[k].kind) rfl (by rw [addr_add_zero]; exact hcel8) (enGP_kind _)) rfl ?_
                    repeat (first | (apply w_op; (first | (apply p_eql; apply Eq.refl; apply Eq.refl) | (apply p_pick_f; apply Eq.refl; apply Eq.refl)); apply Eq.refl) | (apply w_nil) | (apply w_on; apply Eq.refl))
                    refine e_ct (by repeat (first | exact Over.base | exact Over.refl | refine Over.put rfl ?_ | refine Over.cnP rfl ?_ | refine Over.zpP rfl ?_)) ?_
                    refine ⟨rfl, ?_⟩
                    rw [hat, ← hsk, q6]; rfl
                · rintro _ u9 _ ⟨rfl, rfl⟩
                  skip
                  refine c_cond rfl (fun q6 => ?_) (fun q6 => ?_)
                  · repeat (first | (apply w_op; (first | (apply p_mvI; apply Eq.refl) | (apply p_mvL; apply Eq.refl) | (apply p_indexAddr; apply Eq.refl; apply Eq.refl; apply Eq.refl; omega)); apply Eq.refl) | (apply c_region))
                    refine w_store (v := .bool true) (b := b6) (j := k) (cs := enBs (nx gs (qm gs (lsB s) i) ((lsB s).getD i 0) k) (gs.length + 1)) (e := 4) ⟨_, _, inferInstance⟩ rfl (by simp [addr_add_plain]) rfl rfl hb78 (enBs_get _ _ _ (by omega)) (fun w10 hp10 hb10 => ?_)
                    rw [enBs_set] at hb10
                    have hz10 := hp10.size
                    repeat (first | (apply w_op; (first | (apply p_mvI; apply Eq.refl) | (apply p_add64; apply Eq.refl; apply Eq.refl; omega)); apply Eq.refl) | (apply w_nil) | (apply e_then) | (apply c_region) | (apply e_bk))
                    refine e_lp (by repeat (first | exact Over.base | exact Over.refl | refine Over.put rfl ?_ | refine Over.cnP rfl ?_ | refine Over.zpP rfl ?_)) ?_
                    refine ⟨⟨k + 1, rfl, by omega, Below.refl _ _, hp10.below hbel58 (by omega) (by omega), by omega, ?_⟩, ?_⟩
                    · rw [enBs_congr (fun j _ => nx_star q4 q5 q6 j)]
                      exact hb10
                    · show gs.length - ((k : Int) + 1).toNat < gs.length - ((k : Int)).toNat
                      omega
                  · repeat (first | (apply w_op; (first | (apply p_mvI; apply Eq.refl) | (apply p_mvL; apply Eq.refl) | (apply p_add64; apply Eq.refl; apply Eq.refl; omega) | (apply p_indexAddr; apply Eq.refl; apply Eq.refl; apply Eq.refl; omega)); apply Eq.refl) | (apply c_region))
                    refine w_store (v := .bool true) (b := b6) (j := k + 1) (cs := enBs (nx gs (qm gs (lsB s) i) ((lsB s).getD i 0) k) (gs.length + 1)) (e := 4) ⟨_, _, inferInstance⟩ rfl (by first | (simp [addr_add_plain]; done) | (simp [addr_add_plain]; omega)) rfl rfl hb78 (enBs_get _ _ _ (by omega)) (fun w10 hp10 hb10 => ?_)
                    rw [enBs_set] at hb10
                    have hz10 := hp10.size
                    repeat (first | (apply w_op; (first | (apply p_mvI; apply Eq.refl) | (apply p_add64; apply Eq.refl; apply Eq.refl; omega)); apply Eq.refl) | (apply w_nil) | (apply e_then) | (apply c_region) | (apply e_bk))
                    refine e_lp (by repeat (first | exact Over.base | exact Over.refl | refine Over.put rfl ?_ | refine Over.cnP rfl ?_ | refine Over.zpP rfl ?_)) ?_
                    refine ⟨⟨k + 1, rfl, by omega, Below.refl _ _, hp10.below hbel58 (by omega) (by omega), by omega, ?_⟩, ?_⟩
                    · rw [enBs_congr (fun j _ => nx_one q4 q5 q6 j)]
                      exact hb10
                    · show gs.length - ((k : Int) + 1).toNat < gs.length - ((k : Int)).toNat
                      omega
          · have hk' := of_decide_eq_false q
            obtain rfl : k = gs.length := by omega
            repeat (first | (apply w_op; (first | (apply p_mvL; apply Eq.refl) | (apply p_asL; apply Eq.refl)); apply Eq.refl) | (apply w_nil) | (apply c_seq) | (apply e_then) | (apply c_region) | (apply c_exit) | (apply e_then_exit) | (apply e_bk_same) | (apply e_lp_exit))
            have hsl7' := hsl7
            refine w_call cl70 (empty_ok _ gs (nx gs (qm gs (lsB s) i) ((lsB s).getD i 0) gs.length) b6 _ _ w7 _ hsl7 (by omega) (by omega) (by simpa using hb7) (by omega)) rfl ?_
            rintro v9 w9 ⟨hp9, hb9⟩
            rw [enBs_congr (fun j hj => clo_step gs (lsB s) i j (by omega))] at hb9
            have hz9 := hp9.size
            repeat (first | (apply w_op; (first | (apply p_mvI; apply Eq.refl) | (apply p_add64; apply Eq.refl; apply Eq.refl; omega)); apply Eq.refl) | (apply w_nil) | (apply e_then) | (apply c_region) | (apply e_bk))
            refine e_lp (by repeat (first | exact Over.base | exact Over.refl | refine Over.put rfl ?_ | refine Over.cnP rfl ?_ | refine Over.zpP rfl ?_)) ?_
            refine ⟨⟨i + 1, b6, _, _, rfl, by omega, by omega, hp9.below (hbel5.trans (hbel7.mono hz5)) (by omega) (by omega), by omega, hb9⟩, ?_⟩
            show s.size - ((i : Int) + 1).toNat < s.size - ((i : Int)).toNat
            omega
      · have q' := of_decide_eq_false q
        obtain rfl : i = s.size := by omega
        repeat (first | (apply w_op; (first | (apply p_mvL; apply Eq.refl) | (apply p_len_sl; apply Eq.refl) | (apply p_indexAddr; apply Eq.refl; apply Eq.refl; apply Eq.refl; omega)); apply Eq.refl) | (apply c_seq) | (apply e_then) | (apply c_region) | (apply c_exit) | (apply e_then_exit) | (apply e_bk_same) | (apply e_lp_exit))
        refine w_op (p_loadA (v := .bool (glob p s)) (j := gs.length) rfl (by simp) hb5.obj0 (by rw [enBs_get _ _ _ (by omega), hglob, qm_end])) rfl ?_
        repeat (first | (apply w_op; (apply p_asB; apply Eq.refl); apply Eq.refl) | (apply w_nil) | (apply e_then) | (apply c_ret))
        refine r_ret1 Try.results59 rfl ⟨rfl, hb1.trans (hbel5.mono hz1)⟩
end Go.Proofs.Ytjcbnohnilffoaa
