/- THE WALKS of package glob. -/
import Derived.Test.YtjcbnohnilffoaaPath
import Derived.Test.YtjcbnohnilffoaaGl
set_option linter.unusedVariables false
namespace Go.Proofs.Ytjcbnohnilffoaa
open Go.RowKit

/-! ### a sign in memory -/
structure Sgn where
  kind : Nat
  c : UInt8
  neg : Bool
  set : UInt8 → Bool
def enG (x : Sgn) : List Value := .int .i64 x.kind :: .int .u8 x.c.toNat :: .bool x.neg :: (List.range 256).map fun i => .bool (x.set (UInt8.ofNat i))
def noSet : UInt8 → Bool := fun _ => false
def G.toP : G → Sgn
  | .lit c => ⟨0, c, false, noSet⟩
  | .all => ⟨1, 0, false, noSet⟩
  | .some_ => ⟨2, 0, false, noSet⟩
  | .one => ⟨3, 0, false, noSet⟩
  | .cls neg set => ⟨4, 0, neg, set⟩
theorem enG_len (x : Sgn) : (enG x).length = 259 := by simp [enG]
theorem enG_size (x : Sgn) : (enG x).toArray.size = 259 := by simp [enG]
theorem enG_one (x : Sgn) : (enG x).all (·.oneCell') = true := by simp [enG, Value.oneCell']
theorem enG_set (x : Sgn) (i : Nat) (hi : i < 256) : (enG x)[3 + i]? = some (.bool (x.set (UInt8.ofNat i))) := by
  rw [Nat.add_comm]
  simp [enG, hi]
theorem enG_put_neg (x : Sgn) (b : Bool) : (enG x).set 2 (.bool b) = enG { x with neg := b } := rfl
theorem enG_put_set (x : Sgn) (i : Nat) (hi : i < 256) : (enG x).set (3 + i) (.bool true) = enG { x with set := fun c => x.set c || decide (c.toNat = i) } := by
  apply List.ext_getElem?
  intro j
  rw [Nat.add_comm]
  match j with
  | 0 => rfl
  | 1 => rfl
  | 2 => rfl
  | j + 3 =>
    simp only [enG, List.set_cons_succ, List.getElem?_cons_succ, List.getElem?_set, List.length_map, List.length_range, List.getElem?_map]
    by_cases hj : j < 256
    · rw [List.getElem?_range hj]
      by_cases e : i = j
      · subst e; simp [hi, Nat.mod_eq_of_lt (by omega : i < 256)]
      · have : ¬ j % 256 = i := by omega
        simp [e, this]
    · rw [List.getElem?_eq_none (by simp; omega)]
      simp
      omega
theorem built_kind (k : Nat) : Try.prog.built 90 [(0, .int .i64 (k : Int))] = some (enG ⟨k, 0, false, noSet⟩).toArray := by kernel_rfl
theorem built_lit (c : UInt8) : Try.prog.built 90 [(1, .int .u8 (c.toNat : Int))] = some (enG ⟨0, c, false, noSet⟩).toArray := by kernel_rfl

/-! ### member -/
def memV : Option (UInt8 × Nat) → Value
  | none => .tuple #[.int .u8 0, .int .i64 0, .bool false]
  | some (c, nx) => .tuple #[.int .u8 c.toNat, .int .i64 nx, .bool true]
theorem bAt_some {s : ByteArray} {i : Nat} (h : i < s.size) : (lsB s)[i]? = some (bAt s i) := by
  have := ls_len s
  rw [bAt_get, List.getD, List.getElem?_eq_getElem (by omega)]; rfl
theorem byte_is {a c : UInt8} : ((a.toNat : Int) = (c.toNat : Int)) ↔ a = c := ⟨fun h => UInt8.toNat_inj.1 (by omega), fun h => by rw [h]⟩

theorem member_ok (p : ByteArray) (a : Nat) (w : World) (hs : p.size ≤ 4611686018427387903) (ha : a ≤ 4611686018427387903) : Ret Try.prog 85 [.string p, .int .i64 a] w fun v w' => w' = w ∧ v = memV (member (lsB p) a) := by
  have hls := ls_len p
  refine calls_in Try.func85 rfl Try.ntmps85 rfl ?_
  repeat (first | (apply w_op; (first | (apply p_mvI; apply Eq.refl) | (apply p_mvS; apply Eq.refl) | (apply p_mvB; apply Eq.refl) | (apply p_asI; apply Eq.refl) | (apply p_asB; apply Eq.refl) | (apply p_lss; apply Eq.refl; apply Eq.refl) | (apply p_len_str; apply Eq.refl)); apply Eq.refl) | (apply w_nil) | (apply c_seq) | (apply e_then) | (apply c_region))
  refine w_bool 11 rfl (fun h1 => ?_) (fun h1 => ?_)
  · have h1' := of_decide_eq_true h1
    repeat (first | (apply w_op; (first | (apply p_mvI; apply Eq.refl) | (apply p_mvS; apply Eq.refl) | (apply p_eql; apply Eq.refl; apply Eq.refl) | (apply p_pick_t; apply Eq.refl; apply Eq.refl) | (apply p_index; apply Eq.refl; apply Eq.refl; omega)); apply Eq.refl) | (apply w_nil) | (apply e_then) | (apply w_on; apply Eq.refl))
    refine c_cond rfl (fun h2 => ?_) (fun h2 => ?_)
    · have h92 : (lsB p)[a]? = some 92 := by rw [bAt_some (by omega)]; congr 1; exact (byte_is (c := 92)).1 (of_decide_eq_true h2)
      have hmem : member (lsB p) a = ((lsB p)[a + 1]?).map (fun c => (c, a + 1 + 1)) := by simp [member, h92]
      repeat (first | (apply w_op; (first | (apply p_mvI; apply Eq.refl) | (apply p_mvS; apply Eq.refl) | (apply p_asI; apply Eq.refl) | (apply p_geq; apply Eq.refl; apply Eq.refl) | (apply p_len_str; apply Eq.refl) | (apply p_add64; apply Eq.refl; apply Eq.refl; omega)); apply Eq.refl) | (apply w_nil) | (apply c_seq) | (apply e_then) | (apply c_region))
      refine c_cond rfl (fun h3 => ?_) (fun h3 => ?_)
      · have h3' := of_decide_eq_true h3
        repeat (first | (apply w_op; (first | (apply p_asI; apply Eq.refl) | (apply p_asB; apply Eq.refl)); apply Eq.refl) | (apply w_nil) | (apply c_seq) | (apply e_then) | (apply c_region) | (apply c_ret) | (apply e_then_ret))
        refine r_ret3 Try.results85 rfl ⟨rfl, ?_⟩
        rw [hmem, List.getElem?_eq_none (by omega)]
        rfl
      · have h3' := of_decide_eq_false h3
        repeat (first | (apply w_op; (first | (apply p_mvI; apply Eq.refl) | (apply p_mvS; apply Eq.refl) | (apply p_asI; apply Eq.refl) | (apply p_asB; apply Eq.refl) | (apply p_add64; apply Eq.refl; apply Eq.refl; omega) | (apply p_index; apply Eq.refl; apply Eq.refl; omega)); apply Eq.refl) | (apply w_nil) | (apply c_seq) | (apply e_then) | (apply c_region) | (apply c_skip) | (apply c_ret))
        refine r_ret3 Try.results85 rfl ⟨rfl, ?_⟩
        rw [hmem, bAt_some (by omega)]
        rfl
    · have h92 : (lsB p)[a]? ≠ some 92 := by rw [bAt_some (by omega)]; intro e; exact of_decide_eq_false h2 ((byte_is (c := 92)).2 (Option.some.inj e))
      have hmem : member (lsB p) a = ((lsB p)[a]?).map (fun c => (c, a + 1)) := by simp [member, h92]
      repeat (first | (apply w_op; (first | (apply p_mvI; apply Eq.refl) | (apply p_mvS; apply Eq.refl) | (apply p_geq; apply Eq.refl; apply Eq.refl) | (apply p_len_str; apply Eq.refl)); apply Eq.refl) | (apply w_nil) | (apply c_seq) | (apply e_then) | (apply c_region) | (apply c_skip))
      refine c_cond rfl (fun h3 => ?_) (fun h3 => ?_)
      · have h3' := of_decide_eq_true h3
        repeat (first | (apply w_op; (first | (apply p_asI; apply Eq.refl) | (apply p_asB; apply Eq.refl)); apply Eq.refl) | (apply w_nil) | (apply c_seq) | (apply e_then) | (apply c_region) | (apply c_ret) | (apply e_then_ret))
        refine r_ret3 Try.results85 rfl ⟨rfl, ?_⟩
        rw [hmem, List.getElem?_eq_none (by omega)]
        rfl
      · have h3' := of_decide_eq_false h3
        repeat (first | (apply w_op; (first | (apply p_mvI; apply Eq.refl) | (apply p_mvS; apply Eq.refl) | (apply p_asI; apply Eq.refl) | (apply p_asB; apply Eq.refl) | (apply p_add64; apply Eq.refl; apply Eq.refl; omega) | (apply p_index; apply Eq.refl; apply Eq.refl; omega)); apply Eq.refl) | (apply w_nil) | (apply c_seq) | (apply e_then) | (apply c_region) | (apply c_skip) | (apply c_ret))
        refine r_ret3 Try.results85 rfl ⟨rfl, ?_⟩
        rw [hmem, bAt_some (by omega)]
        rfl
  · have h1' := of_decide_eq_false h1
    have hmem : member (lsB p) a = ((lsB p)[a]?).map (fun c => (c, a + 1)) := by
      have : (lsB p)[a]? ≠ some 92 := by rw [List.getElem?_eq_none (by omega)]; simp
      simp [member, this]
    repeat (first | (apply w_op; (first | (apply p_mvI; apply Eq.refl) | (apply p_mvS; apply Eq.refl) | (apply p_geq; apply Eq.refl; apply Eq.refl) | (apply p_len_str; apply Eq.refl) | (apply p_pick_f; apply Eq.refl; apply Eq.refl)); apply Eq.refl) | (apply w_nil) | (apply c_seq) | (apply e_then) | (apply c_region) | (apply w_off; apply Eq.refl; apply Eq.refl) | (apply c_cond_f; apply Eq.refl) | (apply c_skip))
    refine c_cond rfl (fun h3 => ?_) (fun h3 => ?_)
    · have h3' := of_decide_eq_true h3
      repeat (first | (apply w_op; (first | (apply p_asI; apply Eq.refl) | (apply p_asB; apply Eq.refl)); apply Eq.refl) | (apply w_nil) | (apply c_seq) | (apply e_then) | (apply c_region) | (apply c_ret) | (apply e_then_ret))
      refine r_ret3 Try.results85 rfl ⟨rfl, ?_⟩
      rw [hmem, List.getElem?_eq_none (by omega)]
      rfl
    · have h3' := of_decide_eq_false h3
      repeat (first | (apply w_op; (first | (apply p_mvI; apply Eq.refl) | (apply p_mvS; apply Eq.refl) | (apply p_asI; apply Eq.refl) | (apply p_asB; apply Eq.refl) | (apply p_add64; apply Eq.refl; apply Eq.refl; omega) | (apply p_index; apply Eq.refl; apply Eq.refl; omega)); apply Eq.refl) | (apply w_nil) | (apply c_seq) | (apply e_then) | (apply c_region) | (apply c_skip) | (apply c_ret))
      refine r_ret3 Try.results85 rfl ⟨rfl, ?_⟩
      rw [hmem, bAt_some (by omega)]
      rfl

/-! ### a class -/
theorem conv_u8 (a : UInt8) : IntKind.i64.wrap (a.toNat : Int) = (a.toNat : Int) := by
  have := a.toNat_lt
  exact in64 (by omega)
set_option maxRecDepth 100000 in
theorem classAt_ok (p : ByteArray) (a : Nat) (w : World) (hs : p.size ≤ 4611686018427387903) (ha : a ≤ p.size) : Ret Try.prog 77 [.string p, .int .i64 a] w fun v w' =>
    (∃ (x : Sgn) (nx : Int), v = .tuple #[.agg (enG x).toArray, .int .i64 nx, .bool (classF (lsB p) a).isSome] ∧ ∀ neg set m, classF (lsB p) a = some (neg, set, m) → x = ⟨4, 0, neg, set⟩ ∧ nx = ((m : Nat) : Int)) ∧ Below w.heap.size w w' := by
  have hls := ls_len p
  refine calls_in Try.func77 rfl Try.ntmps77 rfl ?_
  repeat (first | (apply c_seq) | (apply c_region))
  refine w_alloc rfl (fun b4 w1 hn4 => ?_)
  obtain ⟨z4, hb4, hlen4⟩ := hn4.zblk Try.prog
  repeat (first | (apply w_op; (first | (apply p_asI; apply Eq.refl) | (apply p_asB; apply Eq.refl)); apply Eq.refl) | (apply w_nil) | (apply c_seq) | (apply e_then) | (apply c_region))
  refine w_op (p_build (built_kind 4)) rfl ?_
  refine w_alloc rfl (fun b7 w2 hn7 => ?_)
  obtain ⟨z7, hb7, hlen7⟩ := hn7.zblk Try.prog
  have hb42 := hb4.grown (hn7.grown none) (by simp)
  have e4 := hn4.hb
  have e7 := hn7.hb
  have s4 := hn4.size
  have s7 := hn7.size
  have hbel2 := hn7.below (hn4.below (Below.refl w.heap.size w) (Nat.le_refl _)) (by omega)
  refine w_storeW rfl rfl (enG_one _) (enG_size _) hb7 hlen7 (fun w3 hp3 hb73 => ?_)
  have hb43 := hb42.grown hp3.grown (fun e => by injection e; omega)
  have hbel3 := hp3.below hbel2 (by omega) (by omega)
  have s3 := hp3.size
  repeat (first | (apply w_op; (first | (apply p_mvI; apply Eq.refl) | (apply p_mvS; apply Eq.refl) | (apply p_mvB; apply Eq.refl) | (apply p_lss; apply Eq.refl; apply Eq.refl) | (apply p_len_str; apply Eq.refl)); apply Eq.refl) | (apply w_nil) | (apply c_seq) | (apply e_then) | (apply c_region))
  refine w_cut2 [1] [19, 20, 21, 22, 23, 24, 25, 26, 27] (fun vs w4 => vs = [.int .i64 (clsAt (lsB p) a : Nat)] ∧ Blk w4 b7 90 (enG ⟨4, 0, clsNeg (lsB p) a, noSet⟩) ∧ Blk w4 b4 90 z4 ∧ Below w.heap.size w w4 ∧ b7 < w4.heap.size) ?_ ?_
  · refine w_bool 19 rfl (fun h1 => ?_) (fun h1 => ?_)
    · have h1' := of_decide_eq_true h1
      repeat (first | (apply w_op; (first | (apply p_mvI; apply Eq.refl) | (apply p_mvS; apply Eq.refl) | (apply p_eql; apply Eq.refl; apply Eq.refl) | (apply p_pick_t; apply Eq.refl; apply Eq.refl) | (apply p_index; apply Eq.refl; apply Eq.refl; omega)); apply Eq.refl) | (apply w_nil) | (apply e_then) | (apply w_on; apply Eq.refl))
      refine c_cond rfl (fun h2 => ?_) (fun h2 => ?_)
      · have h33 : (lsB p)[a]? = some 33 := by rw [bAt_some (by omega)]; congr 1; exact (byte_is (c := 33)).1 (of_decide_eq_true h2)
        repeat (first | (apply w_op; (apply p_fieldAddr; apply Eq.refl); apply Eq.refl) | (apply c_seq) | (apply c_region))
        refine w_store (v := .bool true) (b := b7) (j := 2) (cs := enG ⟨4, 0, false, noSet⟩) (e := 90) ⟨_, _, inferInstance⟩ rfl (by simp [addr_add_plain]) rfl rfl hb73 rfl (fun w4 hp4 hb74 => ?_)
        repeat (first | (apply w_op; (first | (apply p_mvI; apply Eq.refl) | (apply p_asI; apply Eq.refl) | (apply p_add64; apply Eq.refl; apply Eq.refl; omega)); apply Eq.refl) | (apply w_nil) | (apply e_then) | (apply c_region))
        refine e_ct (by repeat (first | exact Over.base | exact Over.refl | refine Over.put rfl ?_ | refine Over.cnP rfl ?_ | refine Over.zpP rfl ?_)) ?_
        refine ⟨?_, ?_, hb43.grown hp4.grown (fun e => by injection e; omega), hp4.below hbel3 (by omega) (by omega), by have := hp4.size; omega⟩
        · simp [clsAt, h33]; rfl
        · simp only [clsNeg, h33, decide_true]; exact hb74
      · have h33 : (lsB p)[a]? ≠ some 33 := by rw [bAt_some (by omega)]; intro e; exact of_decide_eq_false h2 ((byte_is (c := 33)).2 (Option.some.inj e))
        repeat (apply c_skip)
        refine e_ct (by repeat (first | exact Over.base | exact Over.refl | refine Over.put rfl ?_ | refine Over.cnP rfl ?_ | refine Over.zpP rfl ?_)) ?_
        refine ⟨?_, ?_, hb43, hbel3, by omega⟩
        · simp [clsAt, h33]; rfl
        · simp only [clsNeg, h33, decide_false]; exact hb73
    · have h1' := of_decide_eq_false h1
      have h33 : (lsB p)[a]? ≠ some 33 := by rw [List.getElem?_eq_none (by omega)]; simp
      repeat (first | (apply w_op; (apply p_pick_f; apply Eq.refl; apply Eq.refl); apply Eq.refl) | (apply w_nil) | (apply e_then) | (apply w_off; apply Eq.refl; apply Eq.refl) | (apply c_cond_f; apply Eq.refl) | (apply c_skip))
      refine e_ct (by repeat (first | exact Over.base | exact Over.refl | refine Over.put rfl ?_ | refine Over.cnP rfl ?_ | refine Over.zpP rfl ?_)) ?_
      refine ⟨?_, ?_, hb43, hbel3, by omega⟩
      · simp [clsAt, h33]; rfl
      · simp only [clsNeg, h33, decide_false]; exact hb73
  · rintro _ u w4 ⟨rfl, hb74, hb44, hbel4, s4'⟩
    have hc1 : a ≤ clsAt (lsB p) a ∧ clsAt (lsB p) a ≤ p.size := by
      unfold clsAt
      split
      · rename_i h; have := (List.getElem?_eq_some_iff.1 h).1; omega
      · omega
    repeat (first | (apply w_op; (first | (apply p_mvI; apply Eq.refl) | (apply p_asI; apply Eq.refl)); apply Eq.refl) | (apply w_nil) | (apply c_seq) | (apply e_then) | (apply c_region) | (apply c_block))
    refine c_loop [1] [5, 6, 9, 10, 11, 12, 13, 29, 30, 31, 32, 33, 34, 35, 36, 37, 38, 39, 40, 41, 42, 43, 44, 45, 46, 47, 48, 49, 50, 51, 52, 53, 54, 55, 56, 57, 58, 59, 60, 61, 62, 63, 64, 65, 66, 67, 68, 69, 70, 71, 72, 73, 74, 75, 76, 77, 78, 79, 80, 81, 82, 83, 84, 85, 86, 87, 88, 89, 90, 91, 92, 93, 94, 95] (fun vs w5 => ∃ (q : Nat) (set : UInt8 → Bool) (K : Nat), vs = [.int .i64 (q : Int)] ∧ clsAt (lsB p) a ≤ q ∧ q ≤ p.size ∧ (lsB p).length < q + K ∧
      cls (lsB p) ((lsB p).length + 1) (clsAt (lsB p) a) (fun _ => false) = cls (lsB p) K q set ∧ Blk w5 b7 90 (enG ⟨4, 0, clsNeg (lsB p) a, set⟩) ∧ Blk w5 b4 90 z4 ∧ Below w.heap.size w w5 ∧ b7 < w5.heap.size)
      (fun vs _ => p.size - (intOf (vs.headD undef)).toNat) rfl
      ⟨_, noSet, (lsB p).length + 1, rfl, Nat.le_refl _, hc1.2, by omega, rfl, hb74, hb44, hbel4, s4'⟩ ?_
    clear hb44 hb74 hbel4 s4' hb43 hb73 hbel3 hbel2 hb42 hb4 hb7
    rintro _ u w5 ⟨q, set, K, rfl, hq1, hq2, hK, hinv, hb7, hb4, hbel, s5⟩
    repeat (first | (apply w_op; (first | (apply p_mvI; apply Eq.refl) | (apply p_mvS; apply Eq.refl) | (apply p_mvB; apply Eq.refl) | (apply p_lss; apply Eq.refl; apply Eq.refl) | (apply p_len_str; apply Eq.refl)); apply Eq.refl) | (apply c_seq) | (apply c_region))
    refine w_bool 33 rfl (fun h1 => ?_) (fun h1 => ?_)
    · have h1' := of_decide_eq_true h1
      repeat (first | (apply w_op; (first | (apply p_mvI; apply Eq.refl) | (apply p_mvS; apply Eq.refl) | (apply p_neq; apply Eq.refl; apply Eq.refl) | (apply p_pick_t; apply Eq.refl; apply Eq.refl) | (apply p_index; apply Eq.refl; apply Eq.refl; omega)); apply Eq.refl) | (apply w_nil) | (apply e_then) | (apply w_on; apply Eq.refl))
      refine c_cond rfl (fun h2 => ?_) (fun h2 => ?_)
      · have h93 : (lsB p)[q]? ≠ some 93 := by rw [bAt_some (by omega)]; intro e; have := (byte_is (c := 93)).2 (Option.some.inj e); simp [this] at h2
        obtain ⟨k, rfl, hgo⟩ := cls_go (set := set) hK (by omega) h93
        repeat (first | (apply w_op; (first | (apply p_mvI; apply Eq.refl) | (apply p_mvS; apply Eq.refl)); apply Eq.refl) | (apply c_seq) | (apply e_then) | (apply c_region) | (apply c_block) | (apply c_skip))
        refine w_call cl85 (member_ok p q _ hs (by omega)) rfl ?_
        rintro v w6 ⟨rfl, rfl⟩
        cases hm : member (lsB p) q with
        | none =>
          have hnone : classF (lsB p) a = none := classF_bad hinv (by rw [hgo, hm])
          repeat (first | (apply w_op; (first | (apply p_mvB; apply Eq.refl) | (apply p_mvT; apply Eq.refl) | (apply p_asI; apply Eq.refl) | (apply p_asB; apply Eq.refl) | (apply p_extract; apply Eq.refl; apply Eq.refl) | (apply p_not; apply Eq.refl)); apply Eq.refl) | (apply w_nil) | (apply c_seq) | (apply e_then) | (apply c_region) | (apply c_cond_t; apply Eq.refl))
          refine w_op (p_loadS rfl hb7.obj0 (enG_len _)) rfl ?_
          refine w_storeW rfl rfl (enG_one _) (enG_size _) hb4 hlen4 (fun w8 hp8 hb48 => ?_)
          have hbel8 := hp8.below hbel (by omega) (by omega)
          repeat (first | (apply w_op; (first | (apply p_asI; apply Eq.refl) | (apply p_asB; apply Eq.refl)); apply Eq.refl) | (apply w_nil) | (apply e_then) | (apply c_ret) | (apply e_then_ret) | (apply e_bk_ret) | (apply e_lp_ret))
          refine r_retC3 Try.results77 rfl (run_loadS hb48.obj0 (enG_len _)) rfl ⟨⟨⟨4, 0, clsNeg (lsB p) a, set⟩, 0, ?_, ?_⟩, hbel8⟩
          · rw [hnone]; rfl
          · intro neg' set' m' e; rw [hnone] at e; cases e
        | some x =>
          obtain ⟨lo, nx⟩ := x
          have hml := member_lt hm
          rw [hm] at hgo
          simp only at hgo
          repeat (first | (apply w_op; (first | (apply p_mvI; apply Eq.refl) | (apply p_mvS; apply Eq.refl) | (apply p_mvB; apply Eq.refl) | (apply p_mvT; apply Eq.refl) | (apply p_asI; apply Eq.refl) | (apply p_asB; apply Eq.refl) | (apply p_extract; apply Eq.refl; apply Eq.refl) | (apply p_lss; apply Eq.refl; apply Eq.refl) | (apply p_not; apply Eq.refl) | (apply p_len_str; apply Eq.refl) | (apply p_add64; apply Eq.refl; apply Eq.refl; omega)); apply Eq.refl) | (apply w_nil) | (apply c_seq) | (apply e_then) | (apply c_region) | (apply c_cond_f; apply Eq.refl) | (apply c_skip))
          refine w_cut2 [10, 12] [11, 55, 56, 57, 58, 59, 60, 61, 62, 63, 64, 65, 66, 67, 68, 69, 70, 71, 72, 73, 74, 75, 76, 77, 78, 79, 80, 81, 82, 83] (fun vs w7 => w7 = w6 ∧ ∃ (hi : UInt8) (nx2 : Nat), vs = [.int .i64 (nx2 : Int), .int .u8 hi.toNat] ∧ rangeEnd (lsB p) lo nx = some (hi, nx2) ∧ ¬ hi.toNat < lo.toNat) ?_ ?_
          · refine w_bool 55 rfl (fun g1 => ?_) (fun g1 => ?_)
            · have g1' := of_decide_eq_true g1
              repeat (first | (apply w_op; (first | (apply p_mvI; apply Eq.refl) | (apply p_mvS; apply Eq.refl) | (apply p_mvB; apply Eq.refl) | (apply p_eql; apply Eq.refl; apply Eq.refl) | (apply p_pick_t; apply Eq.refl; apply Eq.refl) | (apply p_index; apply Eq.refl; apply Eq.refl; omega)); apply Eq.refl) | (apply w_on; apply Eq.refl))
              refine w_bool 61 rfl (fun g2 => ?_) (fun g2 => ?_)
              · have h45 : (lsB p)[nx]? = some 45 := by rw [bAt_some (by omega)]; congr 1; exact (byte_is (c := 45)).1 (of_decide_eq_true g2)
                repeat (first | (apply w_op; (first | (apply p_mvI; apply Eq.refl) | (apply p_mvS; apply Eq.refl) | (apply p_neq; apply Eq.refl; apply Eq.refl) | (apply p_pick_t; apply Eq.refl; apply Eq.refl) | (apply p_add64; apply Eq.refl; apply Eq.refl; omega) | (apply p_index; apply Eq.refl; apply Eq.refl; omega)); apply Eq.refl) | (apply w_nil) | (apply e_then) | (apply w_on; apply Eq.refl))
                refine c_cond rfl (fun g3 => ?_) (fun g3 => ?_)
                · have h93' : (lsB p)[nx + 1]? ≠ some 93 := by rw [bAt_some (by omega)]; intro e; have := (byte_is (c := 93)).2 (Option.some.inj e); rw [show ((nx : Int) + 1).toNat = nx + 1 from by omega] at g3; simp [this] at g3
                  have hre : rangeEnd (lsB p) lo nx = member (lsB p) (nx + 1) := by rw [rangeEnd, if_pos ⟨by omega, h45, h93'⟩]
                  repeat (first | (apply w_op; (first | (apply p_mvI; apply Eq.refl) | (apply p_mvS; apply Eq.refl) | (apply p_add64; apply Eq.refl; apply Eq.refl; omega)); apply Eq.refl) | (apply c_seq) | (apply c_region))
                  refine w_call cl85 (member_ok p (nx + 1) _ hs (by omega)) rfl ?_
                  rintro v w7 ⟨rfl, rfl⟩
                  cases hm2 : member (lsB p) (nx + 1) with
                  | none =>
                    have hnone : classF (lsB p) a = none := classF_bad hinv (by rw [hgo, hre, hm2])
                    repeat (first | (apply w_op; (first | (apply p_mvB; apply Eq.refl) | (apply p_mvT; apply Eq.refl) | (apply p_asI; apply Eq.refl) | (apply p_asB; apply Eq.refl) | (apply p_extract; apply Eq.refl; apply Eq.refl) | (apply p_not; apply Eq.refl) | (apply p_pick_t; apply Eq.refl; apply Eq.refl)); apply Eq.refl) | (apply w_nil) | (apply c_seq) | (apply e_then) | (apply c_region) | (apply w_off; apply Eq.refl; apply Eq.refl) | (apply c_cond_t; apply Eq.refl))
                    refine w_op (p_loadS rfl hb7.obj0 (enG_len _)) rfl ?_
                    refine w_storeW rfl rfl (enG_one _) (enG_size _) hb4 hlen4 (fun w8 hp8 hb48 => ?_)
                    have hbel8 := hp8.below hbel (by omega) (by omega)
                    repeat (first | (apply w_op; (first | (apply p_asI; apply Eq.refl) | (apply p_asB; apply Eq.refl)); apply Eq.refl) | (apply w_nil) | (apply e_then) | (apply c_ret) | (apply e_then_ret) | (apply e_bk_ret) | (apply e_lp_ret) | (apply e_ct_ret))
                    refine r_retC3 Try.results77 rfl (run_loadS hb48.obj0 (enG_len _)) rfl ⟨⟨⟨4, 0, clsNeg (lsB p) a, set⟩, 0, ?_, ?_⟩, hbel8⟩
                    · rw [hnone]; rfl
                    · intro neg' set' m' e; rw [hnone] at e; cases e
                  | some y =>
                    obtain ⟨hi, nx2⟩ := y
                    repeat (first | (apply w_op; (first | (apply p_mvI; apply Eq.refl) | (apply p_mvB; apply Eq.refl) | (apply p_mvT; apply Eq.refl) | (apply p_asI; apply Eq.refl) | (apply p_asB; apply Eq.refl) | (apply p_extract; apply Eq.refl; apply Eq.refl) | (apply p_lss; apply Eq.refl; apply Eq.refl) | (apply p_not; apply Eq.refl) | (apply p_pick_f; apply Eq.refl; apply Eq.refl)); apply Eq.refl) | (apply w_nil) | (apply c_seq) | (apply e_then) | (apply c_region) | (apply w_on; apply Eq.refl))
                    refine c_cond rfl (fun g4 => ?_) (fun g4 => ?_)
                    · have g4' : hi.toNat < lo.toNat := by have := of_decide_eq_true g4; omega
                      have hnone : classF (lsB p) a = none := classF_bad hinv (by rw [hgo, hre, hm2]; simp [g4'])
                      repeat (first | (apply c_seq) | (apply c_region))
                      refine w_op (p_loadS rfl hb7.obj0 (enG_len _)) rfl ?_
                      refine w_storeW rfl rfl (enG_one _) (enG_size _) hb4 hlen4 (fun w8 hp8 hb48 => ?_)
                      have hbel8 := hp8.below hbel (by omega) (by omega)
                      repeat (first | (apply w_op; (first | (apply p_asI; apply Eq.refl) | (apply p_asB; apply Eq.refl)); apply Eq.refl) | (apply w_nil) | (apply e_then) | (apply c_ret) | (apply e_then_ret) | (apply e_bk_ret) | (apply e_lp_ret) | (apply e_ct_ret))
                      refine r_retC3 Try.results77 rfl (run_loadS hb48.obj0 (enG_len _)) rfl ⟨⟨⟨4, 0, clsNeg (lsB p) a, set⟩, 0, ?_, ?_⟩, hbel8⟩
                      · rw [hnone]; rfl
                      · intro neg' set' m' e; rw [hnone] at e; cases e
                    · have g4' : ¬ hi.toNat < lo.toNat := by have := of_decide_eq_false g4; omega
                      repeat (apply c_skip)
                      refine e_ct (by repeat (first | exact Over.base | exact Over.refl | refine Over.put rfl ?_ | refine Over.cnP rfl ?_ | refine Over.zpP rfl ?_)) ?_
                      exact ⟨rfl, hi, nx2, rfl, by rw [hre, hm2], g4'⟩
                · have h93' : (lsB p)[nx + 1]? = some 93 := by rw [bAt_some (by omega)]; congr 1; rw [show ((nx : Int) + 1).toNat = nx + 1 from by omega] at g3; exact (byte_is (c := 93)).1 (by simpa using g3)
                  repeat (apply c_skip)
                  refine e_ct (by repeat (first | exact Over.base | exact Over.refl | refine Over.put rfl ?_ | refine Over.cnP rfl ?_ | refine Over.zpP rfl ?_)) ?_
                  exact ⟨rfl, lo, nx, rfl, by rw [rangeEnd, if_neg (fun e => e.2.2 h93')], by omega⟩
              · have h45 : (lsB p)[nx]? ≠ some 45 := by rw [bAt_some (by omega)]; intro e; exact of_decide_eq_false g2 ((byte_is (c := 45)).2 (Option.some.inj e))
                repeat (first | (apply w_op; (apply p_pick_f; apply Eq.refl; apply Eq.refl); apply Eq.refl) | (apply w_nil) | (apply e_then) | (apply w_off; apply Eq.refl; apply Eq.refl) | (apply c_cond_f; apply Eq.refl) | (apply c_skip))
                refine e_ct (by repeat (first | exact Over.base | exact Over.refl | refine Over.put rfl ?_ | refine Over.cnP rfl ?_ | refine Over.zpP rfl ?_)) ?_
                exact ⟨rfl, lo, nx, rfl, by rw [rangeEnd, if_neg (fun e => h45 e.2.1)], by omega⟩
            · have g1' := of_decide_eq_false g1
              repeat (first | (apply w_op; (first | (apply p_mvB; apply Eq.refl) | (apply p_pick_f; apply Eq.refl; apply Eq.refl)); apply Eq.refl) | (apply w_nil) | (apply e_then) | (apply w_off; apply Eq.refl; apply Eq.refl) | (apply c_cond_f; apply Eq.refl) | (apply c_skip))
              refine e_ct (by repeat (first | exact Over.base | exact Over.refl | refine Over.put rfl ?_ | refine Over.cnP rfl ?_ | refine Over.zpP rfl ?_)) ?_
              exact ⟨rfl, lo, nx, rfl, by rw [rangeEnd, if_neg (fun e => by omega)], by omega⟩
          · rintro _ u2 w7 ⟨rfl, hi, nx2, rfl, hre, hge⟩
            have hrl := rangeEnd_lt hm hre
            rw [hre] at hgo
            simp only [if_neg hge] at hgo
            have hlo := lo.toNat_lt
            have hhi := hi.toNat_lt
            repeat (first | (apply w_op; (apply p_mvI; apply Eq.refl); apply Eq.refl) | (apply c_seq) | (apply c_region))
            refine w_op (p_conv rfl (conv_u8 _)) rfl ?_
            repeat (first | (apply w_op; (apply p_asI; apply Eq.refl); apply Eq.refl) | (apply w_nil) | (apply e_then) | (apply c_block))
            refine c_loop [13] [86, 87, 88, 89, 90, 91, 92, 93, 94] (fun vs w8 => ∃ c : Nat, vs = [.int .i64 (c : Int)] ∧ lo.toNat ≤ c ∧ c ≤ hi.toNat + 1 ∧ Blk w8 b7 90 (enG ⟨4, 0, clsNeg (lsB p) a, fun x => set x || (decide (lo.toNat ≤ x.toNat) && decide (x.toNat < c))⟩) ∧ Blk w8 b4 90 z4 ∧ Below w.heap.size w w8 ∧ b7 < w8.heap.size)
              (fun vs _ => 300 - (intOf (vs.headD undef)).toNat) rfl ⟨lo.toNat, rfl, Nat.le_refl _, by omega, ?_, hb4, hbel, s5⟩ ?_
            · have : (fun x : UInt8 => set x || (decide (lo.toNat ≤ x.toNat) && decide (x.toNat < lo.toNat))) = set := by
                funext x
                by_cases hx : lo.toNat ≤ x.toNat
                · simp [hx]; omega
                · simp [hx]
              rw [this]
              exact hb7
            · rintro _ u3 w8 ⟨c, rfl, hc3, hc4, hb78, hb48, hbel8, s8⟩
              repeat (first | (apply w_op; (apply p_mvI; apply Eq.refl); apply Eq.refl) | (apply c_seq) | (apply c_region))
              refine w_op (p_conv rfl (conv_u8 _)) rfl ?_
              repeat (first | (apply w_op; (apply p_leq; apply Eq.refl; apply Eq.refl); apply Eq.refl) | (apply w_nil) | (apply e_then))
              refine c_cond rfl (fun g5 => ?_) (fun g5 => ?_)
              · have g5' := of_decide_eq_true g5
                repeat (first | (apply w_op; (first | (apply p_mvI; apply Eq.refl) | (apply p_fieldAddr; apply Eq.refl)); apply Eq.refl) | (apply c_seq) | (apply e_then) | (apply c_region) | (apply c_block) | (apply c_skip))
                refine w_op (p_indexAddrA rfl rfl (by omega)) rfl ?_
                refine w_store (v := .bool true) (b := b7) (j := 3 + c) (cs := enG ⟨4, 0, clsNeg (lsB p) a, _⟩) (e := 90) ⟨_, _, inferInstance⟩ rfl (by simp [addr_add_plain]) rfl rfl hb78 (enG_set _ c (by omega)) (fun w9 hp9 hb79 => ?_)
                rw [enG_put_set _ c (by omega)] at hb79
                repeat (first | (apply w_op; (first | (apply p_mvI; apply Eq.refl) | (apply p_asI; apply Eq.refl) | (apply p_add64; apply Eq.refl; apply Eq.refl; omega)); apply Eq.refl) | (apply w_nil) | (apply e_then) | (apply c_region) | (apply e_bk))
                refine e_lp (by repeat (first | exact Over.base | exact Over.refl | refine Over.put rfl ?_ | refine Over.cnP rfl ?_ | refine Over.zpP rfl ?_)) ?_
                refine ⟨⟨c + 1, rfl, by omega, by omega, ?_, hb48.grown hp9.grown (fun e => by injection e; omega), hp9.below hbel8 (by omega) (by omega), by have := hp9.size; omega⟩, ?_⟩
                · have : (fun x : UInt8 => (set x || (decide (lo.toNat ≤ x.toNat) && decide (x.toNat < c))) || decide (x.toNat = c)) = (fun x : UInt8 => set x || (decide (lo.toNat ≤ x.toNat) && decide (x.toNat < c + 1))) := by
                    funext x
                    cases set x with
                    | true => rfl
                    | false =>
                      rw [Bool.eq_iff_iff]
                      simp
                      omega
                  rw [← this]
                  exact hb79
                · show 300 - ((c : Int) + 1).toNat < 300 - ((c : Int)).toNat
                  omega
              · have g5' := of_decide_eq_false g5
                have ec : c = hi.toNat + 1 := by omega
                subst ec
                repeat (first | (apply w_op; (first | (apply p_mvI; apply Eq.refl) | (apply p_asI; apply Eq.refl)); apply Eq.refl) | (apply w_nil) | (apply e_then) | (apply c_region) | (apply c_exit) | (apply e_then_exit) | (apply e_bk) | (apply e_bk_same) | (apply e_lp_exit))
                refine e_lp (by repeat (first | exact Over.base | exact Over.refl | refine Over.put rfl ?_ | refine Over.cnP rfl ?_ | refine Over.zpP rfl ?_)) ?_
                refine ⟨⟨nx2, rng set lo hi, k, rfl, by omega, by omega, by omega, by rw [hinv, hgo], ?_, hb48, hbel8, s8⟩, ?_⟩
                · have : (fun x : UInt8 => set x || (decide (lo.toNat ≤ x.toNat) && decide (x.toNat < hi.toNat + 1))) = rng set lo hi := by
                    funext x
                    unfold rng
                    congr 2
                    exact decide_eq_decide.2 (by omega)
                  rw [← this]
                  exact hb78
                · show p.size - ((nx2 : Int)).toNat < p.size - ((q : Int)).toNat
                  omega
      · have h93 : (lsB p)[q]? = some 93 := by rw [bAt_some (by omega)]; congr 1; exact (byte_is (c := 93)).1 (by simpa using h2)
        have hstop := classF_stop hinv hK (by omega) (fun e => e.2 h93)
        repeat (first | (apply c_seq) | (apply e_then) | (apply c_region) | (apply c_exit) | (apply e_then_exit) | (apply e_bk_same) | (apply e_lp_exit))
        refine w_op (p_loadS rfl hb7.obj0 (enG_len _)) rfl ?_
        repeat (apply w_op; (first | (apply p_mvI; apply Eq.refl) | (apply p_mvS; apply Eq.refl) | (apply p_mvB; apply Eq.refl) | (apply p_lss; apply Eq.refl; apply Eq.refl) | (apply p_len_str; apply Eq.refl) | (apply p_add64; apply Eq.refl; apply Eq.refl; omega)); apply Eq.refl)
        refine w_bool 103 rfl (fun g1 => ?_) (fun g1 => ?_)
        · have g1' := of_decide_eq_true g1
          repeat (first | (apply w_op; (first | (apply p_mvI; apply Eq.refl) | (apply p_gtr; apply Eq.refl; apply Eq.refl) | (apply p_pick_t; apply Eq.refl; apply Eq.refl)); apply Eq.refl) | (apply w_on; apply Eq.refl))
          refine w_storeW rfl rfl (enG_one _) (enG_size _) hb4 hlen4 (fun w8 hp8 hb48 => ?_)
          have hbel8 := hp8.below hbel (by omega) (by omega)
          repeat (first | (apply w_op; (first | (apply p_asI; apply Eq.refl) | (apply p_asB; apply Eq.refl)); apply Eq.refl) | (apply w_nil) | (apply e_then) | (apply c_ret))
          refine r_retC3 Try.results77 rfl (run_loadS hb48.obj0 (enG_len _)) rfl ⟨⟨⟨4, 0, clsNeg (lsB p) a, set⟩, (q : Int) + 1, ?_, ?_⟩, hbel8⟩
          · show Value.tuple #[_, .int .i64 ((q : Int) + 1), .bool (decide ((clsAt (lsB p) a : Int) < (q : Int)))] = _
            rw [hstop]
            by_cases g2 : clsAt (lsB p) a < q
            · rw [if_pos ⟨by omega, g2⟩]; simp [g2]
            · rw [if_neg (fun e => g2 e.2)]; simp [g2]
          · intro neg' set' m' e
            rw [hstop] at e
            split at e
            · cases e; exact ⟨rfl, rfl⟩
            · cases e
        · have g1' := of_decide_eq_false g1
          repeat (first | (apply w_op; (apply p_pick_f; apply Eq.refl; apply Eq.refl); apply Eq.refl) | (apply w_off; apply Eq.refl; apply Eq.refl))
          refine w_storeW rfl rfl (enG_one _) (enG_size _) hb4 hlen4 (fun w8 hp8 hb48 => ?_)
          have hbel8 := hp8.below hbel (by omega) (by omega)
          repeat (first | (apply w_op; (first | (apply p_asI; apply Eq.refl) | (apply p_asB; apply Eq.refl)); apply Eq.refl) | (apply w_nil) | (apply e_then) | (apply c_ret))
          refine r_retC3 Try.results77 rfl (run_loadS hb48.obj0 (enG_len _)) rfl ⟨⟨⟨4, 0, clsNeg (lsB p) a, set⟩, (q : Int) + 1, ?_, ?_⟩, hbel8⟩
          · show Value.tuple #[_, .int .i64 ((q : Int) + 1), .bool false] = _
            rw [hstop, if_neg (fun e => by omega)]
            rfl
          · intro neg' set' m' e
            rw [hstop, if_neg (fun e => by omega)] at e
            cases e
    · have h1' := of_decide_eq_false h1
      have hstop := classF_stop hinv hK (by omega) (fun e => by omega)
      repeat (first | (apply w_op; (apply p_pick_f; apply Eq.refl; apply Eq.refl); apply Eq.refl) | (apply w_nil) | (apply c_seq) | (apply e_then) | (apply c_region) | (apply w_off; apply Eq.refl; apply Eq.refl) | (apply c_cond_f; apply Eq.refl) | (apply c_exit) | (apply e_then_exit) | (apply e_bk_same) | (apply e_lp_exit))
      refine w_op (p_loadS rfl hb7.obj0 (enG_len _)) rfl ?_
      repeat (apply w_op; (first | (apply p_mvI; apply Eq.refl) | (apply p_mvS; apply Eq.refl) | (apply p_mvB; apply Eq.refl) | (apply p_lss; apply Eq.refl; apply Eq.refl) | (apply p_len_str; apply Eq.refl) | (apply p_add64; apply Eq.refl; apply Eq.refl; omega)); apply Eq.refl)
      refine w_bool 103 rfl (fun g1 => ?_) (fun g1 => ?_)
      · have g1' := of_decide_eq_true g1
        repeat (first | (apply w_op; (first | (apply p_mvI; apply Eq.refl) | (apply p_gtr; apply Eq.refl; apply Eq.refl) | (apply p_pick_t; apply Eq.refl; apply Eq.refl)); apply Eq.refl) | (apply w_on; apply Eq.refl))
        refine w_storeW rfl rfl (enG_one _) (enG_size _) hb4 hlen4 (fun w8 hp8 hb48 => ?_)
        have hbel8 := hp8.below hbel (by omega) (by omega)
        repeat (first | (apply w_op; (first | (apply p_asI; apply Eq.refl) | (apply p_asB; apply Eq.refl)); apply Eq.refl) | (apply w_nil) | (apply e_then) | (apply c_ret))
        refine r_retC3 Try.results77 rfl (run_loadS hb48.obj0 (enG_len _)) rfl ⟨⟨⟨4, 0, clsNeg (lsB p) a, set⟩, (q : Int) + 1, ?_, ?_⟩, hbel8⟩
        · show Value.tuple #[_, .int .i64 ((q : Int) + 1), .bool (decide ((clsAt (lsB p) a : Int) < (q : Int)))] = _
          rw [hstop]
          by_cases g2 : clsAt (lsB p) a < q
          · rw [if_pos ⟨by omega, g2⟩]; simp [g2]
          · rw [if_neg (fun e => g2 e.2)]; simp [g2]
        · intro neg' set' m' e
          rw [hstop] at e
          split at e
          · cases e; exact ⟨rfl, rfl⟩
          · cases e
      · have g1' := of_decide_eq_false g1
        repeat (first | (apply w_op; (apply p_pick_f; apply Eq.refl; apply Eq.refl); apply Eq.refl) | (apply w_off; apply Eq.refl; apply Eq.refl))
        refine w_storeW rfl rfl (enG_one _) (enG_size _) hb4 hlen4 (fun w8 hp8 hb48 => ?_)
        have hbel8 := hp8.below hbel (by omega) (by omega)
        repeat (first | (apply w_op; (first | (apply p_asI; apply Eq.refl) | (apply p_asB; apply Eq.refl)); apply Eq.refl) | (apply w_nil) | (apply e_then) | (apply c_ret))
        refine r_retC3 Try.results77 rfl (run_loadS hb48.obj0 (enG_len _)) rfl ⟨⟨⟨4, 0, clsNeg (lsB p) a, set⟩, (q : Int) + 1, ?_, ?_⟩, hbel8⟩
        · show Value.tuple #[_, .int .i64 ((q : Int) + 1), .bool false] = _
          rw [hstop, if_neg (fun e => by omega)]
          rfl
        · intro neg' set' m' e
          rw [hstop, if_neg (fun e => by omega)] at e
          cases e

/-! ### a pattern's signs -/
def SignsV (w w' : World) (p : ByteArray) (v : Value) : Prop := ∃ u, v = .tuple #[u, .bool (patOk p)] ∧ ∀ gs, patOk p = true → globs (lsB p) = some gs → w'.ownsRow w.heap.size 90 259 u gs.length ((gs.map G.toP).flatMap enG)
set_option maxRecDepth 100000 in
theorem signs_ok (p : ByteArray) (w : World) (hs : p.size ≤ 9223372036854775807) : Ret Try.prog 69 [.string p] w fun v w' => SignsV w w' p v ∧ Below w.heap.size w w' := by
  have hls := ls_len p
  refine calls_in Try.func69 rfl Try.ntmps69 rfl ?_
  repeat (first | (apply w_op; (first | (apply p_mvS; apply Eq.refl) | (apply p_asB; apply Eq.refl) | (apply p_asL; apply Eq.refl) | (apply p_gtr; apply Eq.refl; apply Eq.refl) | (apply p_len_str; apply Eq.refl)); apply Eq.refl) | (apply w_nil) | (apply c_seq) | (apply e_then) | (apply c_region))
  refine c_cond rfl (fun h => ?_) (fun h => ?_)
  · have h' := of_decide_eq_true h
    have hf : patOk p = false := by simp [patOk]; intro e; omega
    repeat (first | (apply w_op; (first | (apply p_asB; apply Eq.refl) | (apply p_asL; apply Eq.refl)); apply Eq.refl) | (apply w_nil) | (apply c_seq) | (apply e_then) | (apply c_region) | (apply c_ret) | (apply e_then_ret))
    refine r_ret2 Try.results69 rfl ⟨⟨_, by rw [hf]; rfl, fun gs e => by rw [hf] at e; cases e⟩, Below.refl _ _⟩
  · have h' : p.size ≤ 100 := by have := of_decide_eq_false h; omega
    have hs : p.size ≤ 4611686018427387903 := by omega
    repeat (first | (apply w_op; (first | (apply p_asI; apply Eq.refl) | (apply p_asL; apply Eq.refl)); apply Eq.refl) | (apply w_nil) | (apply c_seq) | (apply e_then) | (apply c_region) | (apply c_block) | (apply c_skip))
    refine c_loop [4, 5] [2, 3, 6, 7, 8, 9, 13, 14, 15, 16, 17, 18, 19, 20, 21, 22, 23, 24, 25, 26, 27, 28, 29, 30, 31, 32, 33, 34, 35, 36, 37, 38, 39, 40, 41, 42, 43, 44, 45, 46, 47, 48, 49, 50, 51, 52, 53, 54, 55, 56, 57, 58, 59, 60, 61, 62, 63, 64, 65, 66, 67, 68, 69, 70, 71, 72, 73, 74, 75, 76, 77, 78, 79, 80, 81, 82, 83, 84, 85, 86, 87, 88, 89, 90, 91, 92, 93, 94, 95] (fun vs w2 => ∃ (v : Value) (gs : List G) (i K : Nat), vs = [v, .int .i64 (i : Int)] ∧ i ≤ p.size ∧ (lsB p).length < i + K ∧ gs.length ≤ i ∧ gsF (lsB p) ((lsB p).length + 1) 0 = (gsF (lsB p) K i).map (gs ++ ·) ∧
      w2.ownsRow w.heap.size 90 259 v gs.length ((gs.map G.toP).flatMap enG) ∧ Below w.heap.size w w2) (fun vs _ => p.size - (intOf ((vs.drop 1).headD undef)).toNat) rfl
      ⟨.slice none 0 0, [], 0, (lsB p).length + 1, rfl, Nat.zero_le _, by omega, Nat.zero_le _, by cases gsF (lsB p) ((lsB p).length + 1) 0 <;> simp, World.ownsRow_nil _ _ _ _, Below.refl _ _⟩ ?_
    rintro _ u w2 ⟨v, gs, i, K, rfl, hi, hK, hgl, hinv, hown, hbel⟩
    have hsz2 := hbel.size
    obtain ⟨k, rfl⟩ : ∃ k, K = k + 1 := ⟨K - 1, by omega⟩
    repeat (first | (apply w_op; (first | (apply p_mvI; apply Eq.refl) | (apply p_mvS; apply Eq.refl) | (apply p_lss; apply Eq.refl; apply Eq.refl) | (apply p_len_str; apply Eq.refl)); apply Eq.refl) | (apply w_nil) | (apply c_seq) | (apply e_then) | (apply c_region))
    refine c_cond rfl (fun h1 => ?_) (fun h1 => ?_)
    · have h1' := of_decide_eq_true h1
      have hc := bAt_some (s := p) (i := i) (by omega)
      repeat (first | (apply w_op; (first | (apply p_mvI; apply Eq.refl) | (apply p_mvS; apply Eq.refl) | (apply p_asB; apply Eq.refl) | (apply p_eql; apply Eq.refl; apply Eq.refl) | (apply p_index; apply Eq.refl; apply Eq.refl; omega)); apply Eq.refl) | (apply w_nil) | (apply c_seq) | (apply e_then) | (apply c_region) | (apply c_block) | (apply c_skip))
      refine c_cond rfl (fun g1 => ?_) (fun g1 => ?_)
      · have e42 := (byte_is (c := 42)).1 (of_decide_eq_true g1)
        rw [show ((i : Int)).toNat = i from by omega] at e42
        rw [e42] at hc
        have hgo := gs_star (k := k) hc
        repeat (first | (apply w_op; (first | (apply p_mvI; apply Eq.refl) | (apply p_asI; apply Eq.refl)); apply Eq.refl) | (apply w_nil) | (apply c_seq) | (apply e_then) | (apply c_region) | (apply c_block))
        refine c_loop [5] [32, 33, 34, 35, 36, 37, 38, 39, 40, 41, 42, 43, 44, 45] (fun vs w3 => w3 = w2 ∧ ∃ j : Nat, vs = [.int .i64 (j : Int)] ∧ i ≤ j ∧ j < p.size ∧ stars (lsB p) (lsB p).length i = stars (lsB p) (lsB p).length j) (fun vs _ => p.size - (intOf (vs.headD undef)).toNat) rfl
          ⟨rfl, i, rfl, Nat.le_refl _, by omega, rfl⟩ ?_
        rintro _ u3 w3 ⟨rfl, j, rfl, hj1, hj2, hst⟩
        repeat (first | (apply w_op; (first | (apply p_mvI; apply Eq.refl) | (apply p_mvS; apply Eq.refl) | (apply p_mvB; apply Eq.refl) | (apply p_lss; apply Eq.refl; apply Eq.refl) | (apply p_len_str; apply Eq.refl) | (apply p_add64; apply Eq.refl; apply Eq.refl; omega)); apply Eq.refl) | (apply c_seq) | (apply c_region))
        refine w_bool 37 rfl (fun g2 => ?_) (fun g2 => ?_)
        · have g2' := of_decide_eq_true g2
          repeat (first | (apply w_op; (first | (apply p_mvI; apply Eq.refl) | (apply p_mvS; apply Eq.refl) | (apply p_eql; apply Eq.refl; apply Eq.refl) | (apply p_pick_t; apply Eq.refl; apply Eq.refl) | (apply p_add64; apply Eq.refl; apply Eq.refl; omega) | (apply p_index; apply Eq.refl; apply Eq.refl; omega)); apply Eq.refl) | (apply w_nil) | (apply e_then) | (apply w_on; apply Eq.refl))
          refine c_cond rfl (fun g3 => ?_) (fun g3 => ?_)
          · have h42 : (lsB p)[j + 1]? = some 42 := by rw [bAt_some (by omega)]; congr 1; have := (byte_is (c := 42)).1 (of_decide_eq_true g3); rwa [show ((j : Int) + 1).toNat = j + 1 from by omega] at this
            repeat (first | (apply w_op; (first | (apply p_mvI; apply Eq.refl) | (apply p_asI; apply Eq.refl) | (apply p_add64; apply Eq.refl; apply Eq.refl; omega)); apply Eq.refl) | (apply w_nil) | (apply e_then) | (apply c_region) | (apply c_block) | (apply c_skip) | (apply e_bk))
            refine e_lp (by repeat (first | exact Over.base | exact Over.refl | refine Over.put rfl ?_ | refine Over.cnP rfl ?_ | refine Over.zpP rfl ?_)) ?_
            refine ⟨⟨rfl, j + 1, rfl, by omega, by omega, by rw [hst, stars_step h42]⟩, ?_⟩
            show p.size - ((j : Int) + 1).toNat < p.size - ((j : Int)).toNat
            omega
          · have h42 : (lsB p)[j + 1]? ≠ some 42 := by
              rw [bAt_some (by omega)]
              intro e
              have := (byte_is (c := 42)).2 (Option.some.inj e)
              rw [show ((j : Int) + 1).toNat = j + 1 from by omega] at g3
              exact of_decide_eq_false g3 this
            have hsj : stars (lsB p) (lsB p).length i = j := by rw [hst, stars_stop h42]
            rw [hsj] at hgo
            repeat (first | (apply w_op; (first | (apply p_mvI; apply Eq.refl) | (apply p_gtr; apply Eq.refl; apply Eq.refl)); apply Eq.refl) | (apply w_nil) | (apply c_seq) | (apply e_then) | (apply c_region) | (apply c_exit) | (apply e_then_exit) | (apply e_bk_same) | (apply e_lp_exit))
            refine c_cond rfl (fun g5 => ?_) (fun g5 => ?_)
            · have g5' : i < j := by have := of_decide_eq_true g5; omega
              rw [if_pos g5'] at hgo
              repeat (first | (apply w_op; (apply p_move); apply Eq.refl) | (apply c_region))
              refine w_op (p_build (built_kind 1)) rfl ?_
              refine w_app1 (v1 := .agg (enG (G.toP .all)).toArray) rfl (fun _ => rfl) hown (enG_size _) (enG_one _) (by omega) rfl rfl (fun v4 w4 u4 hown4 hg4 hbl4 hs4 hnn4 => ?_)
              repeat (first | (apply w_op; (first | (apply p_mvI; apply Eq.refl) | (apply p_asI; apply Eq.refl) | (apply p_assign) | (apply p_add64; apply Eq.refl; apply Eq.refl; omega)); apply Eq.refl) | (apply w_nil) | (apply e_then) | (apply c_region) | (apply e_bk))
              refine e_lp (by repeat (first | exact Over.base | exact Over.refl | refine Over.put rfl ?_ | refine Over.cnP rfl ?_ | refine Over.zpP rfl ?_)) ?_
              refine ⟨⟨v4, gs ++ [.all], j + 1, k, rfl, by omega, by omega, by simp; omega, gs_next hinv hgo, by simpa [Value.cells] using hown4, below_own hg4 hbel hsz2 hown (Nat.le_refl _)⟩, ?_⟩
              show p.size - ((j + 1 : Nat) : Int).toNat < p.size - ((i : Int)).toNat
              omega
            · have g5' : ¬ i < j := by have := of_decide_eq_false g5; omega
              rw [if_neg g5'] at hgo
              repeat (first | (apply w_op; (apply p_move); apply Eq.refl) | (apply c_region))
              refine w_op (p_build (built_kind 2)) rfl ?_
              refine w_app1 (v1 := .agg (enG (G.toP .some_)).toArray) rfl (fun _ => rfl) hown (enG_size _) (enG_one _) (by omega) rfl rfl (fun v4 w4 u4 hown4 hg4 hbl4 hs4 hnn4 => ?_)
              repeat (first | (apply w_op; (first | (apply p_mvI; apply Eq.refl) | (apply p_asI; apply Eq.refl) | (apply p_assign) | (apply p_add64; apply Eq.refl; apply Eq.refl; omega)); apply Eq.refl) | (apply w_nil) | (apply e_then) | (apply c_region) | (apply e_bk))
              refine e_lp (by repeat (first | exact Over.base | exact Over.refl | refine Over.put rfl ?_ | refine Over.cnP rfl ?_ | refine Over.zpP rfl ?_)) ?_
              refine ⟨⟨v4, gs ++ [.some_], j + 1, k, rfl, by omega, by omega, by simp; omega, gs_next hinv hgo, by simpa [Value.cells] using hown4, below_own hg4 hbel hsz2 hown (Nat.le_refl _)⟩, ?_⟩
              show p.size - ((j + 1 : Nat) : Int).toNat < p.size - ((i : Int)).toNat
              omega
        · have g2' := of_decide_eq_false g2
          have h42 : (lsB p)[j + 1]? ≠ some 42 := by rw [List.getElem?_eq_none (by omega)]; simp
          have hsj : stars (lsB p) (lsB p).length i = j := by rw [hst, stars_stop h42]
          rw [hsj] at hgo
          repeat (first | (apply w_op; (first | (apply p_mvI; apply Eq.refl) | (apply p_gtr; apply Eq.refl; apply Eq.refl) | (apply p_pick_f; apply Eq.refl; apply Eq.refl)); apply Eq.refl) | (apply w_nil) | (apply c_seq) | (apply e_then) | (apply c_region) | (apply w_off; apply Eq.refl; apply Eq.refl) | (apply c_cond_f; apply Eq.refl) | (apply c_exit) | (apply e_then_exit) | (apply e_bk_same) | (apply e_lp_exit))
          refine c_cond rfl (fun g5 => ?_) (fun g5 => ?_)
          · have g5' : i < j := by have := of_decide_eq_true g5; omega
            rw [if_pos g5'] at hgo
            repeat (first | (apply w_op; (apply p_move); apply Eq.refl) | (apply c_region))
            refine w_op (p_build (built_kind 1)) rfl ?_
            refine w_app1 (v1 := .agg (enG (G.toP .all)).toArray) rfl (fun _ => rfl) hown (enG_size _) (enG_one _) (by omega) rfl rfl (fun v4 w4 u4 hown4 hg4 hbl4 hs4 hnn4 => ?_)
            repeat (first | (apply w_op; (first | (apply p_mvI; apply Eq.refl) | (apply p_asI; apply Eq.refl) | (apply p_assign) | (apply p_add64; apply Eq.refl; apply Eq.refl; omega)); apply Eq.refl) | (apply w_nil) | (apply e_then) | (apply c_region) | (apply e_bk))
            refine e_lp (by repeat (first | exact Over.base | exact Over.refl | refine Over.put rfl ?_ | refine Over.cnP rfl ?_ | refine Over.zpP rfl ?_)) ?_
            refine ⟨⟨v4, gs ++ [.all], j + 1, k, rfl, by omega, by omega, by simp; omega, gs_next hinv hgo, by simpa [Value.cells] using hown4, below_own hg4 hbel hsz2 hown (Nat.le_refl _)⟩, ?_⟩
            show p.size - ((j + 1 : Nat) : Int).toNat < p.size - ((i : Int)).toNat
            omega
          · have g5' : ¬ i < j := by have := of_decide_eq_false g5; omega
            rw [if_neg g5'] at hgo
            repeat (first | (apply w_op; (apply p_move); apply Eq.refl) | (apply c_region))
            refine w_op (p_build (built_kind 2)) rfl ?_
            refine w_app1 (v1 := .agg (enG (G.toP .some_)).toArray) rfl (fun _ => rfl) hown (enG_size _) (enG_one _) (by omega) rfl rfl (fun v4 w4 u4 hown4 hg4 hbl4 hs4 hnn4 => ?_)
            repeat (first | (apply w_op; (first | (apply p_mvI; apply Eq.refl) | (apply p_asI; apply Eq.refl) | (apply p_assign) | (apply p_add64; apply Eq.refl; apply Eq.refl; omega)); apply Eq.refl) | (apply w_nil) | (apply e_then) | (apply c_region) | (apply e_bk))
            refine e_lp (by repeat (first | exact Over.base | exact Over.refl | refine Over.put rfl ?_ | refine Over.cnP rfl ?_ | refine Over.zpP rfl ?_)) ?_
            refine ⟨⟨v4, gs ++ [.some_], j + 1, k, rfl, by omega, by omega, by simp; omega, gs_next hinv hgo, by simpa [Value.cells] using hown4, below_own hg4 hbel hsz2 hown (Nat.le_refl _)⟩, ?_⟩
            show p.size - ((j + 1 : Nat) : Int).toNat < p.size - ((i : Int)).toNat
            omega
      · have e42 : bAt p i ≠ 42 := fun e => of_decide_eq_false g1 ((byte_is (c := 42)).2 (by rw [show ((i : Int)).toNat = i from by omega]; exact e))
        repeat (first | (apply w_op; (first | (apply p_asB; apply Eq.refl) | (apply p_eql; apply Eq.refl; apply Eq.refl)); apply Eq.refl) | (apply w_nil) | (apply c_seq) | (apply e_then) | (apply c_region))
        refine c_cond rfl (fun g2 => ?_) (fun g2 => ?_)
        · have e63 := (byte_is (c := 63)).1 (of_decide_eq_true g2)
          rw [show ((i : Int)).toNat = i from by omega] at e63
          rw [e63] at hc
          have hgo := gs_one (k := k) hc
          repeat (first | (apply w_op; (apply p_move); apply Eq.refl) | (apply c_region))
          refine w_op (p_build (built_kind 3)) rfl ?_
          refine w_app1 (v1 := .agg (enG (G.toP .one)).toArray) rfl (fun _ => rfl) hown (enG_size _) (enG_one _) (by omega) rfl rfl (fun v4 w4 u4 hown4 hg4 hbl4 hs4 hnn4 => ?_)
          repeat (first | (apply w_op; (first | (apply p_mvI; apply Eq.refl) | (apply p_asI; apply Eq.refl) | (apply p_assign) | (apply p_add64; apply Eq.refl; apply Eq.refl; omega)); apply Eq.refl) | (apply w_nil) | (apply e_then) | (apply c_region) | (apply e_bk))
          refine e_lp (by repeat (first | exact Over.base | exact Over.refl | refine Over.put rfl ?_ | refine Over.cnP rfl ?_ | refine Over.zpP rfl ?_)) ?_
          refine ⟨⟨v4, gs ++ [.one], i + 1, k, rfl, by omega, by omega, by simp; omega, gs_next hinv hgo, by simpa [Value.cells] using hown4, below_own hg4 hbel hsz2 hown (Nat.le_refl _)⟩, ?_⟩
          show p.size - ((i + 1 : Nat) : Int).toNat < p.size - ((i : Int)).toNat
          omega
        · have e63 : bAt p i ≠ 63 := fun e => of_decide_eq_false g2 ((byte_is (c := 63)).2 (by rw [show ((i : Int)).toNat = i from by omega]; exact e))
          repeat (first | (apply w_op; (first | (apply p_asB; apply Eq.refl) | (apply p_eql; apply Eq.refl; apply Eq.refl)); apply Eq.refl) | (apply w_nil) | (apply c_seq) | (apply e_then) | (apply c_region))
          refine c_cond rfl (fun g3 => ?_) (fun g3 => ?_)
          · have e91 := (byte_is (c := 91)).1 (of_decide_eq_true g3)
            rw [show ((i : Int)).toNat = i from by omega] at e91
            rw [e91] at hc
            repeat (first | (apply w_op; (first | (apply p_mvI; apply Eq.refl) | (apply p_mvS; apply Eq.refl) | (apply p_add64; apply Eq.refl; apply Eq.refl; omega)); apply Eq.refl) | (apply c_seq) | (apply c_region))
            refine w_call cl77 (classAt_ok p (i + 1) _ hs (by omega)) rfl ?_
            rintro v3 w3 ⟨⟨x, nx, rfl, hx⟩, hb3⟩
            have hbel3 := hbel.trans (hb3.mono hsz2)
            have hown3 := own_below hown hb3
            have hsz3 := hb3.size
            repeat (apply w_op; (first | (apply p_mvT; apply Eq.refl) | (apply p_extract; apply Eq.refl; apply Eq.refl)); apply Eq.refl)
            refine w_alloc rfl (fun b7 w5 hn7 => ?_)
            obtain ⟨z7, hb7, hlen7⟩ := hn7.zblk Try.prog
            have e7 := hn7.hb
            have s7 := hn7.size
            refine w_storeW rfl rfl (enG_one _) (enG_size _) hb7 hlen7 (fun w6 hp6 hb76 => ?_)
            have s6 := hp6.size
            have hbel6 := hp6.below (hn7.below hbel3 (by omega)) (by omega) (by omega)
            have hown6 := own_put (own_new hown3 hn7) hp6 (fun e => by have := (hown3.lt b7 e.symm).2; omega)
            repeat (first | (apply w_op; (first | (apply p_mvB; apply Eq.refl) | (apply p_asI; apply Eq.refl) | (apply p_asB; apply Eq.refl) | (apply p_not; apply Eq.refl)); apply Eq.refl) | (apply w_nil) | (apply c_seq) | (apply e_then) | (apply c_region))
            cases hcl : classF (lsB p) (i + 1) with
            | none =>
              rw [gs_cls_none hc hcl] at hinv
              have hnone : gsF (lsB p) ((lsB p).length + 1) 0 = none := hinv
              have hbelN := hbel6
              repeat (first | (apply w_op; (first | (apply p_asB; apply Eq.refl) | (apply p_asL; apply Eq.refl)); apply Eq.refl) | (apply w_nil) | (apply c_seq) | (apply e_then) | (apply c_region) | (apply c_cond_t; apply Eq.refl) | (apply c_ret) | (apply e_then_ret) | (apply e_bk_ret) | (apply e_lp_ret))
              refine r_ret2 Try.results69 rfl ⟨⟨.slice none 0 0, ?_, ?_⟩, hbelN⟩
              · show Value.tuple #[.slice none 0 0, .bool false] = _
                rw [show patOk p = false from by simp [patOk, globs, hnone]]
              · intro gs' e
                rw [show patOk p = false from by simp [patOk, globs, hnone]] at e
                cases e
            | some r =>
              obtain ⟨neg, set, m⟩ := r
              obtain ⟨rfl, rfl⟩ := hx neg set m hcl
              have hm := classF_lt hcl
              have hgo := gs_cls (k := k) hc hcl
              repeat (first | (apply w_op; (apply p_move); apply Eq.refl) | (apply c_seq) | (apply e_then) | (apply c_region) | (apply c_cond_f; apply Eq.refl) | (apply c_skip))
              refine w_op (p_loadS rfl hb76.obj0 (enG_len _)) rfl ?_
              refine w_app1 (v1 := .agg (enG (G.toP (.cls neg set))).toArray) rfl (fun _ => rfl) hown6 (enG_size _) (enG_one _) (by omega) rfl rfl (fun v4 w4 u4 hown4 hg4 hbl4 hs4 hnn4 => ?_)
              repeat (first | (apply w_op; (first | (apply p_mvI; apply Eq.refl) | (apply p_asI; apply Eq.refl) | (apply p_assign) | (apply p_add64; apply Eq.refl; apply Eq.refl; omega) | (apply p_sub64; apply Eq.refl; apply Eq.refl; omega)); apply Eq.refl) | (apply w_nil) | (apply e_then) | (apply c_region) | (apply e_bk))
              refine e_lp (by repeat (first | exact Over.base | exact Over.refl | refine Over.put rfl ?_ | refine Over.cnP rfl ?_ | refine Over.zpP rfl ?_)) ?_
              refine ⟨⟨v4, gs ++ [.cls neg set], m, k, ?_, by omega, by omega, by simp; omega, gs_next hinv hgo, by simpa [Value.cells] using hown4, below_own hg4 hbel6 (by omega) hown6 (Nat.le_refl _)⟩, ?_⟩
              · show [v4, Value.int .i64 ((m : Int) - 1 + 1)] = _
                rw [show ((m : Int) - 1 + 1) = m from by omega]
              · show p.size - ((m : Int) - 1 + 1).toNat < p.size - ((i : Int)).toNat
                omega
          · have e91 : bAt p i ≠ 91 := fun e => of_decide_eq_false g3 ((byte_is (c := 91)).2 (by rw [show ((i : Int)).toNat = i from by omega]; exact e))
            repeat (first | (apply w_op; (first | (apply p_asB; apply Eq.refl) | (apply p_eql; apply Eq.refl; apply Eq.refl)); apply Eq.refl) | (apply w_nil) | (apply c_seq) | (apply e_then) | (apply c_region))
            refine c_cond rfl (fun g4 => ?_) (fun g4 => ?_)
            · have e92 := (byte_is (c := 92)).1 (of_decide_eq_true g4)
              rw [show ((i : Int)).toNat = i from by omega] at e92
              rw [e92] at hc
              repeat (first | (apply w_op; (first | (apply p_mvI; apply Eq.refl) | (apply p_mvS; apply Eq.refl) | (apply p_asI; apply Eq.refl) | (apply p_eql; apply Eq.refl; apply Eq.refl) | (apply p_len_str; apply Eq.refl) | (apply p_add64; apply Eq.refl; apply Eq.refl; omega)); apply Eq.refl) | (apply w_nil) | (apply c_seq) | (apply e_then) | (apply c_region))
              refine c_cond rfl (fun g5 => ?_) (fun g5 => ?_)
              · have g5' := of_decide_eq_true g5
                rw [gs_esc_none hc (List.getElem?_eq_none (by omega))] at hinv
                have hnone : gsF (lsB p) ((lsB p).length + 1) 0 = none := hinv
                have hbelN := hbel
                repeat (first | (apply w_op; (first | (apply p_asB; apply Eq.refl) | (apply p_asL; apply Eq.refl)); apply Eq.refl) | (apply w_nil) | (apply c_seq) | (apply e_then) | (apply c_region) | (apply c_ret) | (apply e_then_ret) | (apply e_bk_ret) | (apply e_lp_ret))
                refine r_ret2 Try.results69 rfl ⟨⟨.slice none 0 0, ?_, ?_⟩, hbelN⟩
                · show Value.tuple #[.slice none 0 0, .bool false] = _
                  rw [show patOk p = false from by simp [patOk, globs, hnone]]
                · intro gs' e
                  rw [show patOk p = false from by simp [patOk, globs, hnone]] at e
                  cases e
              · have g5' := of_decide_eq_false g5
                have hgo := gs_esc (k := k) hc (bAt_some (s := p) (i := i + 1) (by omega))
                repeat (first | (apply w_op; (first | (apply p_mvI; apply Eq.refl) | (apply p_mvS; apply Eq.refl) | (apply p_move) | (apply p_index; apply Eq.refl; apply Eq.refl; omega)); apply Eq.refl) | (apply e_then) | (apply c_region) | (apply c_skip))
                refine w_op (p_build (built_lit (bAt p (i + 1)))) rfl ?_
                refine w_app1 (v1 := .agg (enG (G.toP (.lit (bAt p (i + 1))))).toArray) rfl (fun _ => rfl) hown (enG_size _) (enG_one _) (by omega) rfl rfl (fun v4 w4 u4 hown4 hg4 hbl4 hs4 hnn4 => ?_)
                repeat (first | (apply w_op; (first | (apply p_mvI; apply Eq.refl) | (apply p_asI; apply Eq.refl) | (apply p_assign) | (apply p_add64; apply Eq.refl; apply Eq.refl; omega)); apply Eq.refl) | (apply w_nil) | (apply e_then) | (apply c_region) | (apply e_bk))
                refine e_lp (by repeat (first | exact Over.base | exact Over.refl | refine Over.put rfl ?_ | refine Over.cnP rfl ?_ | refine Over.zpP rfl ?_)) ?_
                refine ⟨⟨v4, gs ++ [(.lit (bAt p (i + 1)))], i + 2, k, rfl, by omega, by omega, by simp; omega, gs_next hinv hgo, by simpa [Value.cells] using hown4, below_own hg4 hbel hsz2 hown (Nat.le_refl _)⟩, ?_⟩
                show p.size - ((i + 2 : Nat) : Int).toNat < p.size - ((i : Int)).toNat
                omega
            · have e92 : bAt p i ≠ 92 := fun e => of_decide_eq_false g4 ((byte_is (c := 92)).2 (by rw [show ((i : Int)).toNat = i from by omega]; exact e))
              have hgo := gs_lit (k := k) hc e42 e63 e91 e92
              repeat (first | (apply w_op; (first | (apply p_mvI; apply Eq.refl) | (apply p_mvS; apply Eq.refl) | (apply p_move) | (apply p_index; apply Eq.refl; apply Eq.refl; omega)); apply Eq.refl) | (apply c_region))
              refine w_op (p_build (built_lit (bAt p i))) rfl ?_
              refine w_app1 (v1 := .agg (enG (G.toP (.lit (bAt p i)))).toArray) rfl (fun _ => rfl) hown (enG_size _) (enG_one _) (by omega) rfl rfl (fun v4 w4 u4 hown4 hg4 hbl4 hs4 hnn4 => ?_)
              repeat (first | (apply w_op; (first | (apply p_mvI; apply Eq.refl) | (apply p_asI; apply Eq.refl) | (apply p_assign) | (apply p_add64; apply Eq.refl; apply Eq.refl; omega)); apply Eq.refl) | (apply w_nil) | (apply e_then) | (apply c_region) | (apply e_bk))
              refine e_lp (by repeat (first | exact Over.base | exact Over.refl | refine Over.put rfl ?_ | refine Over.cnP rfl ?_ | refine Over.zpP rfl ?_)) ?_
              refine ⟨⟨v4, gs ++ [(.lit (bAt p i))], i + 1, k, rfl, by omega, by omega, by simp; omega, gs_next hinv hgo, by simpa [Value.cells] using hown4, below_own hg4 hbel hsz2 hown (Nat.le_refl _)⟩, ?_⟩
              show p.size - ((i + 1 : Nat) : Int).toNat < p.size - ((i : Int)).toNat
              omega
    · have h1' := of_decide_eq_false h1
      have hend := gs_end (l := lsB p) (k := k) (i := i) (List.getElem?_eq_none (by omega))
      rw [hend] at hinv
      repeat (first | (apply w_op; (first | (apply p_move) | (apply p_asB; apply Eq.refl) | (apply p_assign)); apply Eq.refl) | (apply w_nil) | (apply c_seq) | (apply e_then) | (apply c_region) | (apply c_ret) | (apply c_exit) | (apply e_then_exit) | (apply e_bk_same) | (apply e_lp_exit))
      have hok : patOk p = true := by simp [patOk, globs, hinv, h']
      refine r_ret2 Try.results69 rfl ⟨⟨v, by rw [hok]; rfl, fun gs' _ e => ?_⟩, hbel⟩
      have e' : globs (lsB p) = some gs := by rw [globs, hinv]; simp
      rw [e'] at e
      cases e
      exact hown
end Go.Proofs.Ytjcbnohnilffoaa
