/- THE WALKS of the law: light, texts, awake, DropMost. -/
import Derived.Test.YtjcbnohnilffoaaDrop3
set_option linter.unusedVariables false
namespace Go.Proofs.Ytjcbnohnilffoaa
open Go.RowKit

def smallE (e : En) : Bool := !(decide (600 < (e.path.size : Int)) || decide (600 < (e.target.size : Int)) || decide (100 < (e.sum.size : Int)))
def small (l : List En) : Bool := l.all smallE && decide ((l.length : Int) ≤ 60)
def light (src dst : List En) (rs : List Rl) : Bool := small src && small dst && decide ((rs.length : Int) ≤ 80)
theorem small_len {l : List En} (h : small l = true) : l.length ≤ 60 := by unfold small at h; simp at h; omega
theorem small_in {l : List En} (h : small l = true) : EnsIn l := ⟨fun e he => by
  unfold small at h
  simp only [Bool.and_eq_true] at h
  have := List.all_eq_true.1 h.1 e he
  unfold smallE at this
  simp at this
  omega⟩

theorem small_ok (vl : Value) (l : List En) (w : World) (B : Nat) (h : Ens w B vl l) (hl : l.length ≤ 9223372036854775807) : Ret Try.prog 19 [vl] w fun v w' => w' = w ∧ v = .bool (small l) := by
  obtain ⟨A1, c1, rfl, hc1, hA1⟩ := h.out
  refine calls_in Try.func19 rfl Try.ntmps19 rfl ?_
  repeat (first | (apply w_op; (first | (apply p_asI; apply Eq.refl) | (apply p_asB; apply Eq.refl)); apply Eq.refl) | (apply w_nil) | (apply c_seq) | (apply e_then) | (apply c_region) | (apply c_block))
  refine c_loop [3] [2, 4, 5, 6, 7, 8, 9, 10, 11, 12, 13, 14, 15, 16, 17, 18, 19, 20, 21, 22, 23, 24, 25, 26, 27, 28, 29, 30, 31, 32, 33, 34] (fun vs w2 => w2 = w ∧ ∃ k : Nat, vs = [.int .i64 (k : Int)] ∧ k ≤ l.length ∧ (l.take k).all smallE = true) (fun vs _ => l.length - (intOf (vs.headD undef)).toNat) rfl
    ⟨rfl, 0, rfl, Nat.zero_le _, by simp⟩ ?_
  rintro _ u w2 ⟨rfl, k, rfl, hk, hall⟩
  repeat (first | (apply w_op; (first | (apply p_mvI; apply Eq.refl) | (apply p_mvL; apply Eq.refl) | (apply p_lss; apply Eq.refl; apply Eq.refl) | (apply p_len_sl; apply Eq.refl)); apply Eq.refl) | (apply w_nil) | (apply c_seq) | (apply e_then) | (apply c_region))
  refine c_cond rfl (fun g => ?_) (fun g => ?_)
  · have hlt := of_decide_eq_true g
    have hk1 : k < l.length := by omega
    obtain ⟨ad, rfl, hblk, hcel⟩ := h.at_ rfl hk1
    have hbad : ∀ {b : Bool}, smallE l[k] = b → b = false → small l = false := by
      intro b h1 h2
      subst h2
      unfold small
      have : l.all smallE = false := by
        cases hq : l.all smallE with
        | false => rfl
        | true => have := List.all_eq_true.1 hq _ (List.getElem_mem hk1); rw [h1] at this; cases this
      rw [this]; rfl
    repeat (first | (apply w_op; (first | (apply p_mvI; apply Eq.refl) | (apply p_mvL; apply Eq.refl) | (apply p_fieldAddr; apply Eq.refl) | (apply p_indexAddr; apply Eq.refl; apply Eq.refl; apply Eq.refl; omega)); apply Eq.refl) | (apply c_seq) | (apply e_then) | (apply c_region) | (apply c_block) | (apply c_skip))
    refine w_op (p_loadF (j := 0) (v := .string l[k].path) rfl hcel rfl) rfl ?_
    repeat (apply w_op; (first | (apply p_mvB; apply Eq.refl) | (apply p_gtr; apply Eq.refl; apply Eq.refl) | (apply p_len_str; apply Eq.refl)); apply Eq.refl)
    refine w_bool 17 rfl (fun q1 => ?_) (fun q1 => ?_)
    · repeat (first | (apply w_op; (first | (apply p_mvB; apply Eq.refl) | (apply p_asB; apply Eq.refl) | (apply p_pick_t; apply Eq.refl; apply Eq.refl)); apply Eq.refl) | (apply w_nil) | (apply c_seq) | (apply e_then) | (apply c_region) | (apply w_off; apply Eq.refl; apply Eq.refl) | (apply c_cond_t; apply Eq.refl) | (apply c_ret) | (apply e_then_ret) | (apply e_bk_ret) | (apply e_lp_ret))
      exact r_ret1 Try.results19 rfl ⟨rfl, congrArg Value.bool (hbad rfl (by rw [smallE, q1]; rfl)).symm⟩
    · repeat (first | (apply w_op; (first | (apply p_mvI; apply Eq.refl) | (apply p_mvL; apply Eq.refl) | (apply p_fieldAddr; apply Eq.refl) | (apply p_indexAddr; apply Eq.refl; apply Eq.refl; apply Eq.refl; omega)); apply Eq.refl) | (apply w_on; apply Eq.refl))
      refine w_op (p_loadF (j := 8) (v := .string l[k].target) rfl hcel rfl) rfl ?_
      repeat (first | (apply w_op; (first | (apply p_mvB; apply Eq.refl) | (apply p_gtr; apply Eq.refl; apply Eq.refl) | (apply p_len_str; apply Eq.refl) | (apply p_pick_f; apply Eq.refl; apply Eq.refl)); apply Eq.refl) | (apply w_on; apply Eq.refl))
      refine w_bool 26 rfl (fun q2 => ?_) (fun q2 => ?_)
      · repeat (first | (apply w_op; (first | (apply p_asB; apply Eq.refl) | (apply p_pick_t; apply Eq.refl; apply Eq.refl)); apply Eq.refl) | (apply w_nil) | (apply c_seq) | (apply e_then) | (apply c_region) | (apply w_off; apply Eq.refl; apply Eq.refl) | (apply c_cond_t; apply Eq.refl) | (apply c_ret) | (apply e_then_ret) | (apply e_bk_ret) | (apply e_lp_ret))
        exact r_ret1 Try.results19 rfl ⟨rfl, congrArg Value.bool (hbad rfl (by rw [smallE, q1, q2]; rfl)).symm⟩
      · repeat (first | (apply w_op; (first | (apply p_mvI; apply Eq.refl) | (apply p_mvL; apply Eq.refl) | (apply p_fieldAddr; apply Eq.refl) | (apply p_indexAddr; apply Eq.refl; apply Eq.refl; apply Eq.refl; omega)); apply Eq.refl) | (apply w_on; apply Eq.refl))
        refine w_op (p_loadF (j := 9) (v := .string l[k].sum) rfl hcel rfl) rfl ?_
        repeat (first | (apply w_op; (first | (apply p_gtr; apply Eq.refl; apply Eq.refl) | (apply p_len_str; apply Eq.refl) | (apply p_pick_f; apply Eq.refl; apply Eq.refl)); apply Eq.refl) | (apply w_nil) | (apply e_then) | (apply w_on; apply Eq.refl))
        refine c_cond rfl (fun q3 => ?_) (fun q3 => ?_)
        · repeat (first | (apply w_op; (apply p_asB; apply Eq.refl); apply Eq.refl) | (apply w_nil) | (apply c_seq) | (apply e_then) | (apply c_region) | (apply c_ret) | (apply e_then_ret) | (apply e_bk_ret) | (apply e_lp_ret))
          exact r_ret1 Try.results19 rfl ⟨rfl, congrArg Value.bool (hbad rfl (by rw [smallE, q1, q2, q3]; rfl)).symm⟩
        · repeat (first | (apply w_op; (first | (apply p_mvI; apply Eq.refl) | (apply p_asI; apply Eq.refl) | (apply p_add64; apply Eq.refl; apply Eq.refl; omega)); apply Eq.refl) | (apply w_nil) | (apply e_then) | (apply c_region) | (apply c_skip) | (apply e_bk))
          refine e_lp (by repeat (first | exact Over.base | exact Over.refl | refine Over.put rfl ?_ | refine Over.cnP rfl ?_ | refine Over.zpP rfl ?_)) ?_
          refine ⟨⟨rfl, k + 1, rfl, by omega, ?_⟩, ?_⟩
          · rw [List.take_succ_eq_append_getElem hk1, List.all_append, hall]
            simp [smallE] at q1 q2 q3 ⊢
            omega
          · show l.length - ((k : Int) + 1).toNat < l.length - ((k : Int)).toNat
            omega
  · have hge := of_decide_eq_false g
    obtain rfl : k = l.length := by omega
    rw [List.take_length] at hall
    repeat (first | (apply w_op; (first | (apply p_mvL; apply Eq.refl) | (apply p_asB; apply Eq.refl) | (apply p_leq; apply Eq.refl; apply Eq.refl) | (apply p_len_sl; apply Eq.refl)); apply Eq.refl) | (apply w_nil) | (apply c_seq) | (apply e_then) | (apply c_region) | (apply c_ret) | (apply c_exit) | (apply e_then_exit) | (apply e_bk_same) | (apply e_lp_exit))
    refine r_ret1 Try.results19 rfl ⟨rfl, congrArg Value.bool ?_⟩
    rw [small, hall]; rfl

theorem texts_ok (v1 v2 : Value) (l1 l2 : List ByteArray) (w : World) (B : Nat) (h1 : Strs w B v1 l1) (h2 : Strs w B v2 l2) (hB : B ≤ w.heap.size) (hl : l1.length ≤ 9223372036854775807) : Ret Try.prog 11 [v1, v2] w fun v w' => v = .bool (decide (l1 = l2)) ∧ Below w.heap.size w w' := by
  obtain ⟨A1, c1, rfl, hc1, hA1⟩ := h1.out
  obtain ⟨A2, c2, rfl, hc2, hA2⟩ := h2.out
  refine calls_in Try.func11 rfl Try.ntmps11 rfl ?_
  repeat (first | (apply w_op; (first | (apply p_mvL; apply Eq.refl) | (apply p_asB; apply Eq.refl) | (apply p_neq; apply Eq.refl; apply Eq.refl) | (apply p_len_sl; apply Eq.refl)); apply Eq.refl) | (apply w_nil) | (apply c_seq) | (apply e_then) | (apply c_region))
  refine c_cond rfl (fun g => ?_) (fun g => ?_)
  · have g' : l1.length ≠ l2.length := by have := g; simp at this; omega
    repeat (first | (apply w_op; (apply p_asB; apply Eq.refl); apply Eq.refl) | (apply w_nil) | (apply c_seq) | (apply e_then) | (apply c_region) | (apply c_ret) | (apply e_then_ret))
    refine r_ret1 Try.results11 rfl ⟨congrArg Value.bool ?_, Below.refl _ _⟩
    have : l1 ≠ l2 := fun e => g' (by rw [e])
    simp [this]
  · have g' : l1.length = l2.length := by have := g; simp at this; omega
    repeat (first | (apply w_op; (first | (apply p_mvI; apply Eq.refl) | (apply p_mvL; apply Eq.refl) | (apply p_len_sl; apply Eq.refl)); apply Eq.refl) | (apply w_nil) | (apply c_seq) | (apply e_then) | (apply c_region) | (apply c_block) | (apply c_skip))
    refine c_loop [13] [4, 5, 14, 15, 16, 17, 18, 19, 20, 21, 22, 23, 24, 25] (fun vs w2 => Below w.heap.size w w2 ∧ ∃ k : Nat, vs = [.int .i64 (k : Int)] ∧ k ≤ l1.length ∧ l1.take k = l2.take k) (fun vs _ => l1.length - (intOf (vs.headD undef)).toNat) rfl
      ⟨Below.refl _ _, 0, rfl, Nat.zero_le _, by simp⟩ ?_
    rintro _ u w2 ⟨hb2, k, rfl, hk, heq⟩
    have hs1 := h1.below (hb2.mono hB)
    have hs2 := h2.below (hb2.mono hB)
    repeat (first | (apply w_op; (apply p_lss; apply Eq.refl; apply Eq.refl); apply Eq.refl) | (apply w_nil) | (apply c_seq) | (apply e_then) | (apply c_region))
    refine c_cond rfl (fun q => ?_) (fun q => ?_)
    · have hlt := of_decide_eq_true q
      have hk1 : k < l1.length := by omega
      have hk2 : k < l2.length := by omega
      obtain ⟨ad1, rfl, hblk1, hcel1⟩ := hs1.at_ rfl hk1
      obtain ⟨ad2, rfl, hblk2, hcel2⟩ := hs2.at_ rfl hk2
      repeat (first | (apply w_op; (first | (apply p_mvI; apply Eq.refl) | (apply p_asI; apply Eq.refl)); apply Eq.refl) | (apply w_nil) | (apply c_seq) | (apply e_then) | (apply c_region) | (apply c_block) | (apply c_skip))
      refine c_quiet (fun x => x = w2.drew) mixed (by kernel_rfl) rfl ?_
      repeat (apply q_op; intro _ hC; (first | (apply p_mvI; apply Eq.refl) | (apply p_mvL; apply Eq.refl) | (apply p_indexAddr; apply Eq.refl; apply Eq.refl; apply Eq.refl; omega)); apply Eq.refl)
      refine q_op (fun x hx' => p_load0 (v := .string l1[k]) rfl (hx' ▸ hcel1.drew) rfl) rfl ?_
      repeat (apply q_op; intro _ hC; (first | (apply p_mvI; apply Eq.refl) | (apply p_mvL; apply Eq.refl) | (apply p_indexAddr; apply Eq.refl; apply Eq.refl; apply Eq.refl; omega)); apply Eq.refl)
      refine q_op (fun x hx' => p_load0 (v := .string l2[k]) rfl (hx' ▸ hcel2.drew) rfl) rfl ?_
      repeat (apply q_op; intro _ hC; (apply p_sneq; apply Eq.refl; apply Eq.refl); apply Eq.refl)
      refine q_nil (fun w3 hw3 => ?_)
      subst hw3
      repeat (apply e_then)
      refine c_cond rfl (fun q2 => ?_) (fun q2 => ?_)
      · have q2' : l1[k] ≠ l2[k] := by simpa using q2
        repeat (first | (apply w_op; (apply p_asB; apply Eq.refl); apply Eq.refl) | (apply w_nil) | (apply c_seq) | (apply e_then) | (apply c_region) | (apply c_ret) | (apply e_then_ret) | (apply e_bk_ret) | (apply e_lp_ret))
        refine r_ret1 Try.results11 rfl ⟨congrArg Value.bool ?_, hb2.drew⟩
        have : l1 ≠ l2 := fun e => q2' (by subst e; rfl)
        simp [this]
      · have q2' : l1[k] = l2[k] := by simpa using q2
        repeat (first | (apply w_op; (first | (apply p_mvI; apply Eq.refl) | (apply p_add64; apply Eq.refl; apply Eq.refl; omega)); apply Eq.refl) | (apply w_nil) | (apply e_then) | (apply c_region) | (apply c_skip) | (apply e_bk))
        refine e_lp (by repeat (first | exact Over.base | exact Over.refl | refine Over.put rfl ?_ | refine Over.cnP rfl ?_ | refine Over.zpP rfl ?_)) ?_
        refine ⟨⟨hb2.drew, k + 1, rfl, by omega, ?_⟩, ?_⟩
        · rw [List.take_succ_eq_append_getElem hk1, List.take_succ_eq_append_getElem hk2, heq, q2']
        · show l1.length - ((k : Int) + 1).toNat < l1.length - ((k : Int)).toNat
          omega
    · have hge := of_decide_eq_false q
      obtain rfl : k = l1.length := by omega
      rw [List.take_length, g', List.take_length] at heq
      repeat (first | (apply w_op; (apply p_asB; apply Eq.refl); apply Eq.refl) | (apply w_nil) | (apply c_seq) | (apply e_then) | (apply c_region) | (apply c_ret) | (apply c_exit) | (apply e_then_exit) | (apply e_bk_same) | (apply e_lp_exit))
      refine r_ret1 Try.results11 rfl ⟨congrArg Value.bool ?_, hb2⟩
      simp [heq]

theorem light_ok (v1 v2 v3 : Value) (src dst : List En) (rs : List Rl) (w : World) (B : Nat) (h1 : Ens w B v1 src) (h2 : Ens w B v2 dst) (h3 : Rls w B v3 rs) (hl1 : src.length ≤ 9223372036854775807) (hl2 : dst.length ≤ 9223372036854775807) :
    Ret Try.prog 7 [v1, v2, v3] w fun v w' => w' = w ∧ v = .bool (light src dst rs) := by
  obtain ⟨A3, c3, rfl, hc3, hA3⟩ := h3.out
  refine calls_in Try.func7 rfl Try.ntmps7 rfl ?_
  repeat (first | (apply w_op; (first | (apply p_move) | (apply p_asB; apply Eq.refl)); apply Eq.refl) | (apply w_nil) | (apply c_seq) | (apply e_then) | (apply c_region))
  refine w_call cl19 (small_ok v1 src _ B h1 hl1) rfl ?_
  rintro v w1 ⟨rfl, rfl⟩
  repeat (apply w_op; (apply p_mvB; apply Eq.refl); apply Eq.refl)
  refine w_bool 9 rfl (fun q1 => ?_) (fun q1 => ?_)
  · repeat (first | (apply w_op; (apply p_move); apply Eq.refl) | (apply w_on; apply Eq.refl))
    refine w_call cl19 (small_ok v2 dst _ B h2 hl2) rfl ?_
    rintro v w1 ⟨rfl, rfl⟩
    repeat (apply w_op; (first | (apply p_mvB; apply Eq.refl) | (apply p_pick_t; apply Eq.refl; apply Eq.refl)); apply Eq.refl)
    refine w_bool 13 rfl (fun q2 => ?_) (fun q2 => ?_)
    · repeat (first | (apply w_op; (first | (apply p_mvL; apply Eq.refl) | (apply p_asB; apply Eq.refl) | (apply p_leq; apply Eq.refl; apply Eq.refl) | (apply p_len_sl; apply Eq.refl) | (apply p_pick_t; apply Eq.refl; apply Eq.refl)); apply Eq.refl) | (apply w_nil) | (apply e_then) | (apply w_on; apply Eq.refl) | (apply c_ret))
      exact r_ret1 Try.results7 rfl ⟨rfl, congrArg Value.bool (by rw [light, q1, q2]; rfl)⟩
    · repeat (first | (apply w_op; (first | (apply p_asB; apply Eq.refl) | (apply p_pick_f; apply Eq.refl; apply Eq.refl)); apply Eq.refl) | (apply w_nil) | (apply e_then) | (apply w_off; apply Eq.refl; apply Eq.refl) | (apply c_ret))
      exact r_ret1 Try.results7 rfl ⟨rfl, congrArg Value.bool (by rw [light, q1, q2]; rfl)⟩
  · repeat (first | (apply w_op; (first | (apply p_mvB; apply Eq.refl) | (apply p_asB; apply Eq.refl) | (apply p_pick_f; apply Eq.refl; apply Eq.refl)); apply Eq.refl) | (apply w_nil) | (apply e_then) | (apply w_off; apply Eq.refl; apply Eq.refl) | (apply c_ret))
    exact r_ret1 Try.results7 rfl ⟨rfl, congrArg Value.bool (by rw [light, q1]; rfl)⟩

/-! ### the examples -/
def m0 : Mt := ⟨0, 0, 0, 0, 0⟩
def exA : En := ⟨{ data := #[97] }, 1, 0, m0, noB, noB, 0⟩
def exD : En := ⟨{ data := #[100] }, 2, 1, m0, noB, noB, 0⟩
def exX : En := ⟨{ data := #[100, 47, 120] }, 1, 0, m0, noB, noB, 0⟩
def exR : Rl := ⟨3, { data := #[120] }, false, false⟩
theorem ex1 : dropWhich [exA] [exA, exD, exX] [] 3 0 = ([{ data := #[100, 47, 120] }, { data := #[100] }], 0) := by kernel_rfl
theorem ex2 : dropWhich [exA] [exA, exD, exX] [] 3 1 = ([{ data := #[100, 47, 120] }], 1) := by kernel_rfl
theorem ex3 : dropWhich [exA] [exA, exD, exX] [exR] 1 0 = ([], 0) := by kernel_rfl

theorem exl1 : (dropAll [exA] [exA, exD, exX] []).length = 2 := by kernel_rfl
theorem exl3 : (dropAll [exA] [exA, exD, exX] [exR]).length = 0 := by kernel_rfl
theorem own_made {α : Type} {en : α → List Value} {sz : Nat} {w w' : World} {b t : Nat} {cs : Array Value} (l : List α) (hn : New w w' b (.cells cs t)) (hc : cs.toList = l.flatMap en) (hen : ∀ a, (en a).length = sz) (hl : l.length ≤ 1000000) : Sl en sz w' w'.heap.size (.slice (some ⟨b, 0, none⟩) l.length l.length) l := by
  have hlen : (l.flatMap en).length = l.length * sz := by
    clear hc hl
    induction l with
    | nil => simp
    | cons a l ih => rw [List.flatMap_cons, List.length_append, ih, hen, List.length_cons, Nat.succ_mul]; omega
  refine Sl.of_own (base := 0) (e := t) rfl hen ⟨hlen, .inr ⟨b, l.length, cs, rfl, Nat.zero_le _, hn.at_, Nat.le_refl _, by unfold maxLen; omega, ?_, ?_⟩⟩
  · rw [← Array.length_toList, hc, hlen]
  · rw [hc, ← hlen, List.take_length]
theorem built_exA : Try.prog.built 37 [(0, .string { data := #[97] }), (1, .int .i64 1)] = some (enE exA).toArray := by kernel_rfl
theorem built_exD : Try.prog.built 37 [(0, .string { data := #[100] }), (1, .int .i64 2), (2, .int .i64 1)] = some (enE exD).toArray := by kernel_rfl
theorem built_exX : Try.prog.built 37 [(0, .string { data := #[100, 47, 120] }), (1, .int .i64 1)] = some (enE exX).toArray := by kernel_rfl
theorem built_exR : Try.prog.built 48 [(0, .int .i64 3), (1, .string { data := #[120] })] = some (enR exR).toArray := by kernel_rfl
def enO (del most : Int) : List Value := [.int .i64 del, .int .i64 most, .bool false, .bool false, .bool false, .bool false, .bool false, .bool false, .bool false, .bool false, .bool false, .bool false, .bool false, .bool false, .bool false, .bool false, .bool false, .bool false, .int .i64 0, .int .i64 0, .int .i64 0]
theorem built_o1 (d : Int) : Try.prog.built 25 [(0, .int .i64 d)] = some (enO d 0).toArray := by kernel_rfl
theorem built_o2 (d m : Int) : Try.prog.built 25 [(0, .int .i64 d), (1, .int .i64 m)] = some (enO d m).toArray := by kernel_rfl
theorem built_o3 (m : Int) : Try.prog.built 25 [(1, .int .i64 m)] = some (enO 0 m).toArray := by kernel_rfl
theorem exIn : EnsIn [exA] ∧ EnsIn [exA, exD, exX] ∧ RlsIn [exR] ∧ RlsIn [] := by
  refine ⟨⟨fun e he => ?_⟩, ⟨fun e he => ?_⟩, ⟨fun r hr => ?_⟩, ⟨fun r hr => by cases hr⟩⟩
  · simp at he; subst he; decide
  · simp at he; rcases he with he | he | he <;> subst he <;> decide
  · simp at hr; subst hr; decide

set_option maxRecDepth 100000 in
theorem awake_ok (w : World) : Ret Try.prog 8 [] w fun v w' => v = .bool true ∧ Below w.heap.size w w' := by
  obtain ⟨hiA, hiD, hiR, hi0⟩ := exIn
  refine calls_in Try.func8 rfl Try.ntmps8 rfl ?_
  repeat (first | (apply w_op; (apply p_asB; apply Eq.refl); apply Eq.refl) | (apply w_nil) | (apply c_seq) | (apply e_then) | (apply c_region))
  refine w_op (p_build built_exA) rfl ?_
  refine w_alloc rfl (fun b1 w1 hn1 => ?_)
  obtain ⟨cs1, hb1, hl1⟩ := hn1.zblk Try.prog
  refine w_storeW rfl rfl rfl rfl hb1 hl1 (fun w2 hp2 hb2 => ?_)
  have hc2 : Cel w2 ⟨b1, 0, none⟩ (enE exA) := hb2.obj0
  have hbel2 : Below w.heap.size w w2 := (Below.refl _ _).grown (gNP hn1 hp2) (Nat.le_refl _) (fun k hk => by cases hk)
  have hlt2 : b1 < w2.heap.size := hb2.lt
  have z2 := hbel2.size
  repeat (first | (apply w_nil) | (apply c_seq) | (apply e_then) | (apply c_region))
  refine w_op (p_loadS (cs := enE exA) rfl hc2 rfl) rfl ?_
  refine w_op (p_build built_exD) rfl ?_
  refine w_op (p_build built_exX) rfl ?_
  refine w_buildSlice (vs := [.agg (enE exA).toArray, .agg (enE exD).toArray, .agg (enE exX).toArray]) rfl rfl (by intro v hv; simp at hv; rcases hv with hv | hv | hv <;> subst hv <;> rfl) (by omega) rfl (fun b3 w3 hn3 => ?_)
  have hD3 : Ens w3 w3.heap.size (.slice (some ⟨b3, 0, none⟩) 3 3) [exA, exD, exX] := own_made [exA, exD, exX] hn3 rfl (fun _ => rfl) (by decide)
  have z3 := hn3.size
  have hbel3 := hn3.below hbel2 (by omega)
  have hc3 := hc2.grown (hn3.grown none) (by simp)
  clear hn3
  repeat (first | (apply w_op; (apply p_asL; apply Eq.refl); apply Eq.refl) | (apply w_nil) | (apply c_seq) | (apply e_then) | (apply c_region))
  refine w_op (p_loadS (cs := enE exA) rfl hc3 rfl) rfl ?_
  refine w_buildSlice (vs := [.agg (enE exA).toArray]) rfl rfl (by intro v hv; simp at hv; subst hv; rfl) (by omega) rfl (fun b4 w4 hn4 => ?_)
  have hA4 : Ens w4 w4.heap.size (.slice (some ⟨b4, 0, none⟩) 1 1) [exA] := own_made [exA] hn4 rfl (fun _ => rfl) (by decide)
  have z4 := hn4.size
  have hbel4 := hn4.below hbel3 (by omega)
  have hc4 := hc3.grown (hn4.grown none) (by simp)
  have hD4 : Ens w4 w4.heap.size (.slice (some ⟨b3, 0, none⟩) 3 3) [exA, exD, exX] := (hD3.below (hn4.below (Below.refl _ _) (Nat.le_refl _))).more (by omega)
  clear hn4
  repeat (apply w_op; (apply p_mvL; apply Eq.refl); apply Eq.refl)
  refine w_op (p_build (built_o1 3)) rfl ?_
  refine w_call cl9 (which_ok _ _ _ _ _ _ (enO 3 0) 3 0 _ _ hA4 hD4 (Sl.nil _ _) (Nat.le_refl _) (by decide) (by decide) (by decide) hiA hiD hi0 (fun _ => by rw [exl1]; decide) rfl rfl) rfl ?_
  rintro v w5 ⟨hR5, hb5⟩
  rw [ex1] at hR5
  obtain ⟨vo5, rfl, hs5⟩ := hR5
  obtain ⟨A5, c5, hv5, hcc5, hA5⟩ := hs5.out
  obtain rfl : vo5 = .slice A5 2 c5 := hv5
  have z5 := hb5.size
  have hbel5 := hbel4.trans (hb5.mono hbel4.size)
  have hc5 := hc4.below hb5 (by show b1 < _; omega)
  have hD5 := (hD4.below hb5).more z5
  repeat (first | (apply w_op; (first | (apply p_mvT; apply Eq.refl) | (apply p_asI; apply Eq.refl) | (apply p_asL; apply Eq.refl) | (apply p_extract; apply Eq.refl; apply Eq.refl)); apply Eq.refl) | (apply w_nil) | (apply c_seq) | (apply e_then) | (apply c_region))
  refine w_op (p_loadS (cs := enE exA) rfl hc5 rfl) rfl ?_
  refine w_buildSlice (vs := [.agg (enE exA).toArray]) rfl rfl (by intro v hv; simp at hv; subst hv; rfl) (by omega) rfl (fun b6 w6 hn6 => ?_)
  have hA6 : Ens w6 w6.heap.size (.slice (some ⟨b6, 0, none⟩) 1 1) [exA] := own_made [exA] hn6 rfl (fun _ => rfl) (by decide)
  have z6 := hn6.size
  have hbel6 := hn6.below hbel5 (by omega)
  have hc6 := hc5.grown (hn6.grown none) (by simp)
  have hD6 := (hD5.below (hn6.below (Below.refl _ _) (Nat.le_refl _))).more (show _ ≤ w6.heap.size by omega)
  have hs6 := (hs5.below (hn6.below (Below.refl _ _) (Nat.le_refl _))).more (show _ ≤ w6.heap.size by omega)
  clear hn6
  repeat (apply w_op; (apply p_mvL; apply Eq.refl); apply Eq.refl)
  refine w_op (p_build (built_o2 3 1)) rfl ?_
  refine w_call cl9 (which_ok _ _ _ _ _ _ (enO 3 1) 3 1 _ _ hA6 hD6 (Sl.nil _ _) (Nat.le_refl _) (by decide) (by decide) (by decide) hiA hiD hi0 (fun _ => by rw [exl1]; decide) rfl rfl) rfl ?_
  rintro v w7 ⟨hR7, hb7⟩
  rw [ex2] at hR7
  obtain ⟨vo7, rfl, ht7⟩ := hR7
  obtain ⟨A7, c7, hv7, hcc7, hA7⟩ := ht7.out
  obtain rfl : vo7 = .slice A7 1 c7 := hv7
  have z7 := hb7.size
  have hbel7 := hbel6.trans (hb7.mono hbel6.size)
  have hc7 := hc6.below hb7 (by show b1 < _; omega)
  have hD7 := (hD6.below hb7).more z7
  have hs7 := (hs6.below hb7).more z7
  repeat (first | (apply w_op; (first | (apply p_mvT; apply Eq.refl) | (apply p_asI; apply Eq.refl) | (apply p_asL; apply Eq.refl) | (apply p_extract; apply Eq.refl; apply Eq.refl)); apply Eq.refl) | (apply w_nil) | (apply c_seq) | (apply e_then) | (apply c_region))
  refine w_op (p_loadS (cs := enE exA) rfl hc7 rfl) rfl ?_
  refine w_buildSlice (vs := [.agg (enE exA).toArray]) rfl rfl (by intro v hv; simp at hv; subst hv; rfl) (by omega) rfl (fun b8 w8 hn8 => ?_)
  have hA8 : Ens w8 w8.heap.size (.slice (some ⟨b8, 0, none⟩) 1 1) [exA] := own_made [exA] hn8 rfl (fun _ => rfl) (by decide)
  have z8 := hn8.size
  have hbel8 := hn8.below hbel7 (by omega)
  have hD8 := (hD7.below (hn8.below (Below.refl _ _) (Nat.le_refl _))).more (show _ ≤ w8.heap.size by omega)
  have hs8 := (hs7.below (hn8.below (Below.refl _ _) (Nat.le_refl _))).more (show _ ≤ w8.heap.size by omega)
  have ht8 := (ht7.below (hn8.below (Below.refl _ _) (Nat.le_refl _))).more (show _ ≤ w8.heap.size by omega)
  clear hn8
  repeat (apply w_op; (apply p_mvL; apply Eq.refl); apply Eq.refl)
  refine w_op (p_build built_exR) rfl ?_
  refine w_buildSlice (vs := [.agg (enR exR).toArray]) rfl rfl (by intro v hv; simp at hv; subst hv; rfl) (by omega) rfl (fun b9 w9 hn9 => ?_)
  have hR9 : Rls w9 w9.heap.size (.slice (some ⟨b9, 0, none⟩) 1 1) [exR] := own_made [exR] hn9 rfl (fun _ => rfl) (by decide)
  have z9 := hn9.size
  have hbel9 := hn9.below hbel8 (by omega)
  have hA9 := (hA8.below (hn9.below (Below.refl _ _) (Nat.le_refl _))).more (show _ ≤ w9.heap.size by omega)
  have hD9 := (hD8.below (hn9.below (Below.refl _ _) (Nat.le_refl _))).more (show _ ≤ w9.heap.size by omega)
  have hs9 := (hs8.below (hn9.below (Below.refl _ _) (Nat.le_refl _))).more (show _ ≤ w9.heap.size by omega)
  have ht9 := (ht8.below (hn9.below (Below.refl _ _) (Nat.le_refl _))).more (show _ ≤ w9.heap.size by omega)
  clear hn9
  skip
  refine w_op (p_build (built_o1 1)) rfl ?_
  refine w_call cl9 (which_ok _ _ _ _ _ _ (enO 1 0) 1 0 _ _ hA9 hD9 hR9 (Nat.le_refl _) (by decide) (by decide) (by decide) hiA hiD hiR (fun _ => by rw [exl3]; decide) rfl rfl) rfl ?_
  rintro v w10 ⟨hR10, hb10⟩
  rw [ex3] at hR10
  obtain ⟨vo10, rfl, hu10⟩ := hR10
  obtain ⟨A10, c10, hv10, hcc10, hA10⟩ := hu10.out
  obtain rfl : vo10 = .slice A10 0 c10 := hv10
  have hbel10 := hbel9.trans (hb10.mono hbel9.size)
  obtain ⟨ad5, rfl, _, hcs0⟩ := (hs9.below hb10).at_ rfl (show 0 < 2 by omega)
  obtain ⟨ad5', e5', _, hcs1⟩ := (hs9.below hb10).at_ rfl (show 1 < 2 by omega)
  injection e5' with e5'
  subst e5'
  obtain ⟨ad7, rfl, _, hct0⟩ := (ht9.below hb10).at_ rfl (show 0 < 1 by omega)
  repeat (first | (apply w_op; (first | (apply p_mvB; apply Eq.refl) | (apply p_mvL; apply Eq.refl) | (apply p_mvT; apply Eq.refl) | (apply p_asI; apply Eq.refl) | (apply p_asL; apply Eq.refl) | (apply p_extract; apply Eq.refl; apply Eq.refl) | (apply p_eql; apply Eq.refl; apply Eq.refl) | (apply p_len_sl; apply Eq.refl) | (apply p_indexAddr; apply Eq.refl; apply Eq.refl; apply Eq.refl; omega)); apply Eq.refl) | (apply w_nil) | (apply c_seq) | (apply e_then) | (apply c_region) | (apply w_on; apply Eq.refl))
  refine w_op (p_load0 (v := .string { data := #[100, 47, 120] }) rfl hcs0 rfl) rfl ?_
  repeat (first | (apply w_op; (first | (apply p_mvB; apply Eq.refl) | (apply p_mvL; apply Eq.refl) | (apply p_seql; apply Eq.refl; apply Eq.refl) | (apply p_pick_t; apply Eq.refl; apply Eq.refl) | (apply p_indexAddr; apply Eq.refl; apply Eq.refl; apply Eq.refl; omega)); apply Eq.refl) | (apply w_on; apply Eq.refl))
  refine w_op (p_load0 (v := .string { data := #[100] }) rfl hcs1 rfl) rfl ?_
  repeat (first | (apply w_op; (first | (apply p_mvI; apply Eq.refl) | (apply p_mvB; apply Eq.refl) | (apply p_mvL; apply Eq.refl) | (apply p_eql; apply Eq.refl; apply Eq.refl) | (apply p_seql; apply Eq.refl; apply Eq.refl) | (apply p_len_sl; apply Eq.refl) | (apply p_pick_t; apply Eq.refl; apply Eq.refl) | (apply p_indexAddr; apply Eq.refl; apply Eq.refl; apply Eq.refl; omega)); apply Eq.refl) | (apply w_on; apply Eq.refl))
  refine w_op (p_load0 (v := .string { data := #[100, 47, 120] }) rfl hct0 rfl) rfl ?_
  repeat (first | (apply w_op; (first | (apply p_mvI; apply Eq.refl) | (apply p_mvB; apply Eq.refl) | (apply p_mvL; apply Eq.refl) | (apply p_asB; apply Eq.refl) | (apply p_eql; apply Eq.refl; apply Eq.refl) | (apply p_seql; apply Eq.refl; apply Eq.refl) | (apply p_len_sl; apply Eq.refl) | (apply p_pick_t; apply Eq.refl; apply Eq.refl)); apply Eq.refl) | (apply w_nil) | (apply e_then) | (apply w_on; apply Eq.refl) | (apply c_ret))
  exact r_ret1 Try.results8 rfl ⟨rfl, hbel10⟩

/-! ### DropMost -/
theorem dw_good {src dst : List En} {rs : List Rl} {d m : Int} (hb : listsBad src dst = false) (hd : d ≠ 0) : dropWhich src dst rs d m = if 0 < m ∧ m < ((dropAll src dst rs).length : Int) then ((dropAll src dst rs).take m.toNat, ((dropAll src dst rs).length : Int) - m) else (dropAll src dst rs, 0) := by
  rw [dropWhich, if_neg]
  rintro (h | h)
  · rw [hb] at h; cases h
  · exact hd h
theorem dw_keep {src dst : List En} {rs : List Rl} {m : Int} : dropWhich src dst rs 0 m = ([], 0) := by rw [dropWhich, if_pos (.inr rfl)]
theorem dw_bad {src dst : List En} {rs : List Rl} {d m : Int} (hb : listsBad src dst = true) : dropWhich src dst rs d m = ([], 0) := by rw [dropWhich, if_pos (.inl hb)]
structure MostLaw (a s : List ByteArray × Int) (most : Int) : Prop where
  h1 : a.2 = 0
  h3 : 0 ≤ s.2
  h4 : (s.1.length : Int) + s.2 = a.1.length
  h5 : s.1 = a.1.take ((a.1.length : Int) - s.2).toNat
  h6 : 0 < most → (s.1.length : Int) = if (a.1.length : Int) < most then (a.1.length : Int) else most
  h7 : ¬ 0 < most → s.2 = 0
theorem most_law (src dst : List En) (rs : List Rl) (most : Int) : MostLaw (dropWhich src dst rs 3 0) (dropWhich src dst rs 1 most) most := by
  cases hb : listsBad src dst with
  | true =>
    rw [dw_bad hb, dw_bad hb]
    refine ⟨rfl, by simp, by simp, by simp, fun h => ?_, fun _ => rfl⟩
    simp only [List.length_nil]
    rw [if_pos (by omega)]
  | false =>
    rw [dw_good hb (by omega), dw_good hb (by omega)]
    generalize dropAll src dst rs = L
    rw [if_neg (by omega)]
    by_cases hm : 0 < most ∧ most < (L.length : Int)
    · rw [if_pos hm]
      refine ⟨rfl, by simp only; omega, by simp only [List.length_take]; omega, ?_, fun _ => ?_, fun h => absurd hm.1 h⟩
      · simp only; congr 1; omega
      · simp only [List.length_take]
        rw [if_neg (by omega)]; omega
    · rw [if_neg hm]
      refine ⟨rfl, by simp, by simp, by simp, fun h => ?_, fun _ => rfl⟩
      simp only
      by_cases h2 : (L.length : Int) < most
      · rw [if_pos h2]
      · rw [if_neg h2]; omega
theorem dropWhich_len (src dst : List En) (rs : List Rl) (d m : Int) (h : listsBad src dst = false → (dropAll src dst rs).length ≤ 1000000) : (dropWhich src dst rs d m).1.length ≤ 1000000 := by
  unfold dropWhich
  split
  · simp
  · rename_i hb
    have hbad : listsBad src dst = false := by
      cases hq : listsBad src dst with
      | false => rfl
      | true => exact absurd (.inl hq) hb
    have := h hbad
    split
    · simp only [List.length_take]; omega
    · exact this

set_option maxRecDepth 100000 in
theorem dropMost_ok (v1 v2 v3 : Value) (src dst : List En) (rs : List Rl) (most : Int) (w : World) (B : Nat) (h1 : Ens w B v1 src) (h2 : Ens w B v2 dst) (h3 : Rls w B v3 rs) (hB : B ≤ w.heap.size) (hl1 : src.length ≤ 9223372036854775807) (hl2 : dst.length ≤ 9223372036854775807)
    (hi3 : RlsIn rs) (hlen : light src dst rs = true → listsBad src dst = false → (dropAll src dst rs).length ≤ 1000000) : Ret Try.prog 4 [v1, v2, v3, .int .i64 most] w fun v w' => v = .bool true ∧ Below w.heap.size w w' := by
  obtain ⟨p1, p3, p4, p5, p6, p7⟩ := most_law src dst rs most
  refine calls_in Try.func4 rfl Try.ntmps4 rfl ?_
  repeat (first | (apply w_op; (first | (apply p_move) | (apply p_asB; apply Eq.refl)); apply Eq.refl) | (apply w_nil) | (apply c_seq) | (apply e_then) | (apply c_region))
  refine w_call cl7 (light_ok v1 v2 v3 src dst rs _ B h1 h2 h3 hl1 hl2) rfl ?_
  rintro v w1 ⟨rfl, rfl⟩
  repeat (first | (apply w_op; (apply p_not; apply Eq.refl); apply Eq.refl) | (apply w_nil) | (apply e_then))
  refine c_cond rfl (fun q => ?_) (fun q => ?_)
  · repeat (first | (apply c_seq) | (apply c_region))
    refine w_call cl8 (awake_ok _) rfl ?_
    rintro v w2 ⟨rfl, hb2⟩
    repeat (first | (apply w_op; (apply p_asB; apply Eq.refl); apply Eq.refl) | (apply w_nil) | (apply e_then) | (apply c_ret) | (apply e_then_ret))
    exact r_ret1 Try.results4 rfl ⟨rfl, hb2⟩
  · have hlight : light src dst rs = true := by simpa using q
    have hlen' := hlen hlight
    have hll := hlight
    unfold light at hll
    simp only [Bool.and_eq_true, decide_eq_true_eq] at hll
    have hs1 := small_len hll.1.1
    have hs2 := small_len hll.1.2
    have hi1 := small_in hll.1.1
    have hi2 := small_in hll.1.2
    repeat (first | (apply w_op; (apply p_move); apply Eq.refl) | (apply c_seq) | (apply e_then) | (apply c_region) | (apply c_skip))
    refine w_op (p_build (built_o1 3)) rfl ?_
    refine w_call cl9 (which_ok v1 v2 v3 src dst rs (enO 3 0) 3 0 _ _ h1 h2 h3 hB (by omega) (by omega) (by omega) hi1 hi2 hi3 hlen' rfl rfl) rfl ?_
    rintro v w2 ⟨⟨va, rfl, ha⟩, hb2⟩
    have z2 := hb2.size
    obtain ⟨Aa, ca, rfl, hca, _⟩ := ha.out
    repeat (first | (apply w_op; (first | (apply p_mvI; apply Eq.refl) | (apply p_mvT; apply Eq.refl) | (apply p_move) | (apply p_asI; apply Eq.refl) | (apply p_asL; apply Eq.refl) | (apply p_extract; apply Eq.refl; apply Eq.refl)); apply Eq.refl) | (apply w_nil) | (apply c_seq) | (apply e_then) | (apply c_region))
    refine w_op (p_build (built_o2 1 most)) rfl ?_
    refine w_call cl9 (which_ok v1 v2 v3 src dst rs (enO 1 most) 1 most _ _ (h1.below (hb2.mono hB)) (h2.below (hb2.mono hB)) (h3.below (hb2.mono hB)) (by omega) (by omega) (by omega) (by omega) hi1 hi2 hi3 hlen' rfl rfl) rfl ?_
    rintro v w3 ⟨⟨vs, rfl, hs⟩, hb3⟩
    have z3 := hb3.size
    have hbel3 := hb2.trans (hb3.mono z2)
    have ha3 := (ha.below hb3).more z3
    obtain ⟨As, cs, rfl, hcs, _⟩ := hs.out
    repeat (first | (apply w_op; (first | (apply p_mvI; apply Eq.refl) | (apply p_mvT; apply Eq.refl) | (apply p_move) | (apply p_asI; apply Eq.refl) | (apply p_asL; apply Eq.refl) | (apply p_extract; apply Eq.refl; apply Eq.refl)); apply Eq.refl) | (apply w_nil) | (apply c_seq) | (apply e_then) | (apply c_region))
    refine w_op (p_build (built_o3 most)) rfl ?_
    refine w_call cl9 (which_ok v1 v2 v3 src dst rs (enO 0 most) 0 most _ _ (h1.below (hbel3.mono hB)) (h2.below (hbel3.mono hB)) (h3.below (hbel3.mono hB)) (by omega) (by omega) (by omega) (by omega) hi1 hi2 hi3 hlen' rfl rfl) rfl ?_
    rintro v w4 ⟨hR4, hb4⟩
    rw [dw_keep] at hR4
    obtain ⟨vn, rfl, hn⟩ := hR4
    have z4 := hb4.size
    have hbel4 := hbel3.trans (hb4.mono (by omega))
    have ha4 := (ha3.below hb4).more z4
    have hs4 := (hs.below hb4).more z4
    obtain ⟨An, cn', hvn, hcn, _⟩ := hn.out
    obtain rfl : vn = .slice An 0 cn' := hvn
    have la := dropWhich_len src dst rs 3 0 hlen'
    have ls := dropWhich_len src dst rs 1 most hlen'
    generalize hA : (dropWhich src dst rs 3 0).1 = LA' at *
    generalize hAn : (dropWhich src dst rs 3 0).2 = kA at *
    generalize hS : (dropWhich src dst rs 1 most).1 = LS' at *
    generalize hSn : (dropWhich src dst rs 1 most).2 = kS at *
    subst p1
    repeat (first | (apply w_op; (first | (apply p_mvI; apply Eq.refl) | (apply p_mvB; apply Eq.refl) | (apply p_mvL; apply Eq.refl) | (apply p_mvT; apply Eq.refl) | (apply p_asI; apply Eq.refl) | (apply p_asL; apply Eq.refl) | (apply p_extract; apply Eq.refl; apply Eq.refl) | (apply p_lss; apply Eq.refl; apply Eq.refl) | (apply p_neq; apply Eq.refl; apply Eq.refl) | (apply p_len_sl; apply Eq.refl) | (apply p_pick_f; apply Eq.refl; apply Eq.refl)); apply Eq.refl) | (apply w_nil) | (apply c_seq) | (apply e_then) | (apply c_region) | (apply w_on; apply Eq.refl))
    refine w_bool 62 rfl (fun f => absurd (of_decide_eq_true f) (by omega)) (fun f => ?_)
    repeat (first | (apply w_op; (first | (apply p_mvI; apply Eq.refl) | (apply p_mvB; apply Eq.refl) | (apply p_mvL; apply Eq.refl) | (apply p_neq; apply Eq.refl; apply Eq.refl) | (apply p_len_sl; apply Eq.refl) | (apply p_pick_f; apply Eq.refl; apply Eq.refl) | (apply p_add64; apply Eq.refl; apply Eq.refl; omega)); apply Eq.refl) | (apply w_on; apply Eq.refl))
    refine w_bool 71 rfl (fun f => absurd p4 (by simpa using f)) (fun f => ?_)
    repeat (first | (apply w_op; (first | (apply p_mvI; apply Eq.refl) | (apply p_mvL; apply Eq.refl) | (apply p_len_sl; apply Eq.refl) | (apply p_sub64; apply Eq.refl; apply Eq.refl; omega)); apply Eq.refl) | (apply w_on; apply Eq.refl))
    refine w_op (p_cut_h rfl rfl (by omega)) rfl ?_
    repeat (apply w_on; apply Eq.refl)
    refine w_call cl11 (texts_ok _ _ LS' (LA'.take ((LA'.length : Int) - kS).toNat) _ w4.heap.size hs4 (ha4.head rfl (by omega)) (Nat.le_refl _) (by omega)) rfl ?_
    rintro v w5 ⟨hv, hb5⟩
    rw [decide_eq_true p5] at hv
    subst hv
    have hbel5 := hbel4.trans (hb5.mono (by omega))
    repeat (first | (apply w_op; (first | (apply p_mvI; apply Eq.refl) | (apply p_gtr; apply Eq.refl; apply Eq.refl) | (apply p_not; apply Eq.refl) | (apply p_pick_f; apply Eq.refl; apply Eq.refl)); apply Eq.refl) | (apply w_nil) | (apply c_seq) | (apply e_then) | (apply c_region) | (apply w_on; apply Eq.refl) | (apply c_cond_f; apply Eq.refl) | (apply c_skip))
    refine c_cond rfl (fun g => ?_) (fun g => ?_)
    · have g' := of_decide_eq_true g
      repeat (first | (apply w_op; (first | (apply p_mvI; apply Eq.refl) | (apply p_mvB; apply Eq.refl) | (apply p_mvL; apply Eq.refl) | (apply p_eql; apply Eq.refl; apply Eq.refl) | (apply p_len_sl; apply Eq.refl) | (apply p_min; apply Eq.refl; apply Eq.refl)); apply Eq.refl) | (apply c_seq) | (apply c_region))
      refine w_bool 91 rfl (fun f2 => ?_) (fun f2 => absurd (p6 g') (of_decide_eq_false f2))
      repeat (apply w_on; apply Eq.refl)
      refine w_call cl8 (awake_ok _) rfl ?_
      rintro v w6 ⟨rfl, hb6⟩
      repeat (first | (apply w_op; (first | (apply p_asB; apply Eq.refl) | (apply p_pick_t; apply Eq.refl; apply Eq.refl)); apply Eq.refl) | (apply w_nil) | (apply e_then) | (apply c_ret) | (apply e_then_ret))
      exact r_ret1 Try.results4 rfl ⟨rfl, hbel5.trans (hb6.mono hbel5.size)⟩
    · have g' := of_decide_eq_false g
      repeat (first | (apply w_op; (first | (apply p_mvI; apply Eq.refl) | (apply p_mvB; apply Eq.refl) | (apply p_eql; apply Eq.refl; apply Eq.refl)); apply Eq.refl) | (apply c_seq) | (apply e_then) | (apply c_region) | (apply c_skip))
      refine w_bool 96 rfl (fun f2 => ?_) (fun f2 => absurd (p7 g') (of_decide_eq_false f2))
      repeat (apply w_on; apply Eq.refl)
      refine w_call cl8 (awake_ok _) rfl ?_
      rintro v w6 ⟨rfl, hb6⟩
      repeat (first | (apply w_op; (first | (apply p_asB; apply Eq.refl) | (apply p_pick_t; apply Eq.refl; apply Eq.refl)); apply Eq.refl) | (apply w_nil) | (apply e_then) | (apply c_ret))
      exact r_ret1 Try.results4 rfl ⟨rfl, hbel5.trans (hb6.mono hbel5.size)⟩
end Go.Proofs.Ytjcbnohnilffoaa
