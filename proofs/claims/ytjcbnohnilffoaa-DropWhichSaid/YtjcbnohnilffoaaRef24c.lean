/- THE WALKS of the document's answer for deletions (remoraref24): order, may, Which, Kept. -/
import Derived.Test.YtjcbnohnilffoaaRef24b
import Derived.Test.YtjcbnohnilffoaaDrop3
set_option linter.unusedVariables false
set_option linter.unusedSimpArgs false
namespace Go.Proofs.Ytjcbnohnilffoaa
open Go.RowKit

theorem hole_get (o : List ByteArray) (x : ByteArray) {k : Nat} (hk : k ≤ o.length) (h0 : 0 < k) : ((o.take k ++ x :: o.drop k).map Value.string)[k - 1]? = some (.string (o.getD (k - 1) noB)) := by
  rw [List.getElem?_map, List.getElem?_append_left (by rw [List.length_take]; omega), List.getElem?_take, if_pos (by omega), List.getElem?_eq_getElem (by omega), getD_lt (by omega)]
  rfl
theorem hole_set (o : List ByteArray) (x y : ByteArray) {k : Nat} (hk : k ≤ o.length) : ((o.take k ++ x :: o.drop k).map Value.string).set k (.string y) = (o.take k ++ y :: o.drop k).map Value.string := by
  rw [← List.map_set, List.set_append_right _ _ (by rw [List.length_take]; omega), List.length_take, Nat.min_eq_left hk, Nat.sub_self, List.set_cons_zero]
theorem hole_down (o : List ByteArray) {k : Nat} (hk : k < o.length) : o.take (k + 1) ++ o[k] :: o.drop (k + 1) = o.take k ++ o[k] :: o.drop k := by
  rw [List.take_succ_eq_append_getElem hk, List.append_assoc, List.singleton_append, List.drop_eq_getElem_cons hk]

set_option maxRecDepth 100000 in
theorem order_ok (v : Value) (l : List ByteArray) (w : World) (B : Nat) (h : Strs w B v l) (hB : B ≤ w.heap.size) (hl : l.length ≤ 1000000) (hnd : l.Nodup) (hsz : ∀ s ∈ l, s.size ≤ 1099511627775) :
    Ret Try.prog 25 [v] w fun v' w' => ∃ o : List ByteArray, o.Perm l ∧ o.Pairwise Po ∧ w'.ownsRow w.heap.size 9 1 v' o.length (o.map .string) ∧ Below w.heap.size w w' := by
  obtain ⟨A, c, rfl, hc, hA⟩ := h.out
  refine calls_in Try.func25 rfl Try.ntmps25 rfl ?_
  repeat (first | (apply w_op; (first | (apply p_mvI; apply Eq.refl) | (apply p_mvL; apply Eq.refl) | (apply p_asL; apply Eq.refl) | (apply p_len_sl; apply Eq.refl)); apply Eq.refl) | (apply w_nil) | (apply c_seq) | (apply e_then) | (apply c_region) | (apply c_block))
  refine c_loop [9, 3] [5, 6, 10, 11, 12, 13, 14, 15, 16, 17, 18, 19, 20, 21, 22, 23, 24, 25, 26, 27, 28, 29, 30, 31, 32, 33, 34, 35, 36, 37, 38, 39, 40, 41, 42, 43, 44] (fun vs w3 => ∃ (i : Nat) (vo : Value) (o : List ByteArray), vs = [.int .i64 (i : Int), vo] ∧ i ≤ l.length ∧ o.Perm (l.take i) ∧ o.Pairwise Po ∧ w3.ownsRow w.heap.size 9 1 vo o.length (o.map .string) ∧ Below w.heap.size w w3)
    (fun vs _ => l.length - (intOf (vs.headD undef)).toNat) rfl
    ⟨0, _, [], rfl, Nat.zero_le _, List.Perm.refl _, List.Pairwise.nil, World.ownsRow_nil _ _ _ _, Below.refl _ _⟩ ?_
  rintro _ u w3 ⟨i, vo, o, rfl, hi, hperm, hsort, hown, hbel⟩
  have holen : o.length = i := by rw [hperm.length_eq, List.length_take]; omega
  have z3 := hbel.size
  repeat (first | (apply w_op; (apply p_lss; apply Eq.refl; apply Eq.refl); apply Eq.refl) | (apply w_nil) | (apply c_seq) | (apply e_then) | (apply c_region))
  first | refine c_ifd rfl (fun g => ?_) (fun g => ?_) | refine c_ifnd rfl (fun g => ?_) (fun g => ?_) | refine c_ifn rfl (fun g => ?_) (fun g => ?_) | refine c_cond rfl (fun g => ?_) (fun g => ?_)
  · have hi1 : i < l.length := by omega
    obtain ⟨ad, rfl, _, hcel⟩ := (h.below (hbel.mono hB)).at_ rfl hi1
    have hpn : l[i] ∉ o := fun hm => by
      have := hperm.mem_iff.1 hm
      obtain ⟨j, hj, e⟩ := List.mem_iff_getElem.1 this
      rw [List.length_take] at hj
      rw [List.getElem_take] at e
      have := (List.pairwise_iff_getElem.1 hnd) j i (by omega) hi1 (by omega)
      exact this e
    have hps := hsz _ (List.getElem_mem hi1)
    have hos : ∀ s ∈ o, s.size ≤ 1099511627775 := fun s hs => hsz s (List.mem_of_mem_take (hperm.mem_iff.1 hs))
    obtain ⟨Ao, co, hvo⟩ : ∃ Ao co, vo = .slice Ao o.length co := by
      rcases hown.2 with ⟨e, h0⟩ | ⟨g, cap, cur, e, _⟩
      · exact ⟨none, 0, by rw [e, h0]⟩
      · exact ⟨_, _, e⟩
    subst hvo
    repeat (first | (apply w_op; (first | (apply p_mvS; apply Eq.refl) | (apply p_mvL; apply Eq.refl) | (apply p_asI; apply Eq.refl) | (apply p_asS; apply Eq.refl) | (apply p_len_sl; apply Eq.refl) | (apply p_indexAddr; apply Eq.refl; apply Eq.refl; apply Eq.refl; omega) | (apply p_load0; apply Eq.refl; (first | assumption | (apply Cel.bel; assumption; assumption; apply Nat.zero_lt_succ)); (first | apply Eq.refl | assumption))); apply Eq.refl) | (apply w_nil) | (apply c_seq) | (apply e_then) | (apply c_region) | (apply c_block) | (apply c_skip))
    refine w_app1 (v1 := .string l[i]) rfl (fun _ => rfl) hown rfl rfl (by omega) rfl rfl (fun v4 w4 u4 hown4 hg4 hbl4 hs4 hnn4 => ?_)
    have hbel4 := below_own hg4 hbel (by omega) hown (Nat.le_refl _)
    clear hcel hown
    obtain ⟨g4, c4, _, rfl, hge4, _, _, _, _, _⟩ := own_blk hown4 (by omega)
    repeat (first | (apply w_op; (apply p_asL; apply Eq.refl); apply Eq.refl) | (apply w_nil) | (apply c_seq) | (apply e_then) | (apply c_block))
    refine c_loop [6] [19, 20, 21, 22, 23, 24, 25, 26, 27, 28, 29, 30, 31, 32, 33, 34, 35, 36, 37, 38, 39] (fun vs w5 => ∃ (k : Nat) (x : ByteArray), vs = [.int .i64 (k : Int)] ∧ k ≤ o.length ∧ (∀ b ∈ o.drop k, aheadB l[i] b = true) ∧ w5.ownsRow w.heap.size 9 1 (.slice (some ⟨g4, 0, none⟩) (o.length + 1) c4) (o.length + 1) ((o.take k ++ x :: o.drop k).map .string) ∧ Below w.heap.size w w5)
      (fun vs _ => (intOf (vs.headD undef)).toNat) rfl
      ⟨o.length, l[i], rfl, Nat.le_refl _, by simp, by rw [List.take_length, List.drop_length, List.map_append]; exact hown4, hbel4⟩ ?_
    clear hown4 hbel4 hg4 hbl4 hs4
    rintro _ u5 w5 ⟨k, x, rfl, hk, hah, hown5, hbel5⟩
    have z5 := hbel5.size
    repeat (first | (apply w_op; (first | (apply p_mvI; apply Eq.refl) | (apply p_mvB; apply Eq.refl) | (apply p_gtr; apply Eq.refl; apply Eq.refl)); apply Eq.refl) | (apply c_seq) | (apply c_region))
    apply w_andw (R := fun x => Below w5.heap.size w5 x); apply Eq.refl; apply Eq.refl; (repeat (first | apply Seg.pick | apply Seg.op | apply Seg.op0)); intro g2
    · have hk0 : 0 < k := by have := of_decide_eq_true g2; omega
      obtain ⟨g', c', e', hcel⟩ := own_at hown5 (i := k - 1) (by omega) (hole_get o x hk hk0)
      injection e' with e1 _ e3
      injection e1 with e1
      injection e1 with e1 _ _
      subst e1 e3
      rw [show k - 1 = ((k : Int) - 1).toNat by omega] at hcel
      have hsk : (o.getD (k - 1) noB).size ≤ 1099511627775 := by rw [getD_lt (by omega)]; exact hos _ (List.getElem_mem _)
      rw [show k - 1 = ((k : Int) - 1).toNat by omega] at hsk
      repeat (first | (apply w_op; (first | (apply p_mvI; apply Eq.refl) | (apply p_mvS; apply Eq.refl) | (apply p_mvL; apply Eq.refl) | (apply p_sub64; apply Eq.refl; apply Eq.refl; omega) | (apply p_indexAddr; apply Eq.refl; apply Eq.refl; apply Eq.refl; omega) | (apply p_load0; apply Eq.refl; (first | assumption | (apply Cel.bel; assumption; assumption; apply Nat.zero_lt_succ)); (first | apply Eq.refl | assumption))); apply Eq.refl) | (apply w_on; apply Eq.refl))
      refine w_callB cl40 (rahead_ok _ _ _ hps hsk) rfl (fun w6 hb6 => ?_)
      clear hcel
      repeat (first | (apply w_op; (apply p_pick_t; apply Eq.refl; apply Eq.refl); apply Eq.refl) | (apply w_nil) | (apply e_scw; (repeat (first | exact Over.base | exact Over.refl | refine Over.put rfl ?_ | refine Over.cnP rfl ?_ | refine Over.zpP rfl ?_)); apply Eq.refl; (first | assumption | apply Below.refl)))
    · intro g2'
      repeat (first | (apply w_op; (apply p_pick_f; apply Eq.refl; apply Eq.refl); apply Eq.refl) | (apply w_nil) | (apply w_off; apply Eq.refl; apply Eq.refl) | (apply e_scw; (repeat (first | exact Over.base | exact Over.refl | refine Over.put rfl ?_ | refine Over.cnP rfl ?_ | refine Over.zpP rfl ?_)); apply Eq.refl; (first | assumption | apply Below.refl)))
    intro u6 w6 hb6
    replace hbel5 := hbel5.trans (hb6.mono z5)
    replace hown5 := own_below hown5 hb6
    clear hb6
    have z6 := hbel5.size
    repeat (first | (apply w_nil) | (apply e_then))
    first | refine c_ifd rfl (fun g3 => ?_) (fun g3 => ?_) | refine c_ifnd rfl (fun g3 => ?_) (fun g3 => ?_) | refine c_ifn rfl (fun g3 => ?_) (fun g3 => ?_) | refine c_cond rfl (fun g3 => ?_) (fun g3 => ?_)
    · simp only [Bool.and_eq_true, decide_eq_true_eq] at g3
      obtain ⟨k', rfl⟩ : ∃ k', k = k' + 1 := ⟨k - 1, by omega⟩
      have hk' : k' < o.length := by omega
      obtain ⟨g', c', e', hcel⟩ := own_at hown5 (i := k') (by omega) (hole_get o x hk (by omega))
      injection e' with e1 _ e3
      injection e1 with e1
      injection e1 with e1 _ _
      subst e1 e3
      rw [show (((k' + 1 : Nat) : Int) - 1).toNat = k' by omega, getD_lt hk'] at g3
      rw [show (k' + 1 : Nat) - 1 = k' from rfl, getD_lt hk'] at hcel
      replace hcel : Cel w6 ((⟨g4, 0, none⟩ : Addr).add ((((k' + 1 : Nat) : Int) - 1).toNat * 1)) [Value.string o[k']] := by
        rw [show (((k' + 1 : Nat) : Int) - 1).toNat = k' by omega]; exact hcel
      repeat (first | (apply w_op; (first | (apply p_mvI; apply Eq.refl) | (apply p_mvL; apply Eq.refl) | (apply p_sub64; apply Eq.refl; apply Eq.refl; omega) | (apply p_indexAddr; apply Eq.refl; apply Eq.refl; apply Eq.refl; omega) | (apply p_load0; apply Eq.refl; (first | assumption | (apply Cel.bel; assumption; assumption; apply Nat.zero_lt_succ)); (first | apply Eq.refl | assumption))); apply Eq.refl) | (apply c_seq) | (apply e_then) | (apply c_region) | (apply c_block) | (apply c_skip))
      refine w_storeOwn (i := k' + 1) (v1 := .string o[k']) ⟨_, _, inferInstance⟩ hown5 (by omega) rfl rfl (by simp [addr_add_plain]) rfl rfl (fun w7 hg7 hz7 hown7 => ?_)
      have hbel7 := below_own hg7 hbel5 (by omega) hown5 (Nat.le_refl _)
      clear hcel hown5
      rw [hole_set _ _ _ hk] at hown7
      repeat (first | (apply w_op; (first | (apply p_mvI; apply Eq.refl) | (apply p_asI; apply Eq.refl) | (apply p_sub64; apply Eq.refl; apply Eq.refl; omega)); apply Eq.refl) | (apply w_nil) | (apply e_then) | (apply c_region) | (apply e_bk))
      refine e_lp (by repeat (first | exact Over.base | exact Over.refl | refine Over.put rfl ?_ | refine Over.cnP rfl ?_ | refine Over.zpP rfl ?_)) ?_
      refine ⟨⟨k', o[k'], ?_, by omega, ?_, ?_, hbel7⟩, ?_⟩
      · show [Value.int .i64 (((k' + 1 : Nat) : Int) - 1)] = _
        rw [show ((k' + 1 : Nat) : Int) - 1 = (k' : Int) by omega]
      · rw [List.drop_eq_getElem_cons hk']
        intro b hb
        rcases List.mem_cons.1 hb with rfl | hb
        · exact g3.2
        · exact hah b hb
      · rw [← hole_down o hk']; exact hown7
      · show (((k' + 1 : Nat) : Int) - 1).toNat < ((k' + 1 : Nat) : Int).toNat
        omega
    · have hst : ∀ k', k = k' + 1 → ∀ h : k' < o.length, aheadB l[i] o[k'] = false := by
        rintro k' rfl h
        rw [show (((k' + 1 : Nat) : Int) - 1).toNat = k' by omega, getD_lt h] at g3
        simp only [Bool.and_eq_true, decide_eq_true_eq, not_and, Bool.and_eq_false_iff, decide_eq_false_iff_not, Bool.not_eq_true] at g3
        rcases g3 with g3 | g3
        · omega
        · exact g3
      repeat (first | (apply w_op; (first | (apply p_mvI; apply Eq.refl) | (apply p_mvS; apply Eq.refl) | (apply p_mvL; apply Eq.refl) | (apply p_indexAddr; apply Eq.refl; apply Eq.refl; apply Eq.refl; omega)); apply Eq.refl) | (apply e_then) | (apply c_region) | (apply c_exit) | (apply e_then_exit) | (apply e_bk_same) | (apply e_lp_exit))
      refine w_storeOwn (i := k) (v1 := .string l[i]) ⟨_, _, inferInstance⟩ hown5 (by omega) rfl rfl (by simp [addr_add_plain]) rfl rfl (fun w7 hg7 hz7 hown7 => ?_)
      have hbel7 := below_own hg7 hbel5 (by omega) hown5 (Nat.le_refl _)
      clear hown5
      rw [hole_set _ _ _ hk] at hown7
      repeat (first | (apply w_op; (first | (apply p_mvI; apply Eq.refl) | (apply p_add64; apply Eq.refl; apply Eq.refl; omega)); apply Eq.refl) | (apply w_nil) | (apply e_then) | (apply c_region) | (apply e_bk))
      refine e_lp (by repeat (first | exact Over.base | exact Over.refl | refine Over.put rfl ?_ | refine Over.cnP rfl ?_ | refine Over.zpP rfl ?_)) ?_
      refine ⟨⟨i + 1, _, o.take k ++ l[i] :: o.drop k, rfl, by omega, ?_, ins_sorted hsort hpn hk hah hst, ?_, hbel7⟩, ?_⟩
      · rw [List.take_succ_eq_append_getElem hi1]
        refine List.Perm.trans ?_ ((hperm.cons l[i]).trans (List.perm_append_singleton _ _).symm)
        refine List.perm_middle.trans ?_
        rw [List.take_append_drop]
      · rw [List.length_append, List.length_cons, List.length_take, List.length_drop, Nat.min_eq_left hk, show k + (o.length - k + 1) = o.length + 1 by omega]
        exact hown7
      · show l.length - ((i : Int) + 1).toNat < l.length - ((i : Int)).toNat
        omega
  · obtain rfl : i = l.length := by omega
    rw [List.take_length] at hperm
    repeat (first | (apply w_op; (first | (apply p_move) | (apply p_assign)); apply Eq.refl) | (apply w_nil) | (apply c_seq) | (apply e_then) | (apply c_region) | (apply c_ret) | (apply c_exit) | (apply e_then_exit) | (apply e_bk_same) | (apply e_lp_exit))
    exact r_ret1 Try.results25 rfl ⟨o, hperm, hsort, hown, hbel⟩

theorem rmay24_ok (v1 v2 : Value) (src dst : List En) (w : World) (B : Nat) (h1 : Ens w B v1 src) (h2 : Ens w B v2 dst) (hB : B ≤ w.heap.size) (hl1 : src.length ≤ 1000000) (hl2 : dst.length ≤ 1000000) (hi1 : EnsIn src) (hi2 : EnsIn dst) :
    Ret Try.prog 23 [v1, v2] w fun v w' => v = .bool (!listsBad src dst) ∧ Below w.heap.size w w' := by
  obtain ⟨A1, c1, rfl, hc1, hA1⟩ := h1.out
  obtain ⟨A2, c2, rfl, hc2, hA2⟩ := h2.out
  refine calls_in Try.func23 rfl Try.ntmps23 rfl ?_
  repeat (first | (apply w_op; (first | (apply p_mvL; apply Eq.refl) | (apply p_asB; apply Eq.refl)); apply Eq.refl) | (apply w_nil) | (apply c_seq) | (apply e_then) | (apply c_region))
  refine w_callB cl36 (rflCheck_ok _ src _ B h1 hB hl1 hi1) rfl (fun w1 hb1 => ?_)
  have z1 := hb1.size
  repeat (apply w_op; (first | (apply p_mvB; apply Eq.refl) | (apply p_eql; apply Eq.refl; apply Eq.refl)); apply Eq.refl)
  apply w_andw (R := fun x => Below w1.heap.size w1 x); apply Eq.refl; apply Eq.refl; (repeat (first | apply Seg.pick | apply Seg.op | apply Seg.op0)); intro g
  · repeat (first | (apply w_op; (apply p_mvL; apply Eq.refl); apply Eq.refl) | (apply w_on; apply Eq.refl))
    refine w_callB cl36 (rflCheck_ok _ dst _ B (h2.below (hb1.mono hB)) (by omega) hl2 hi2) rfl (fun w2 hb2 => ?_)
    repeat (first | (apply w_op; (first | (apply p_eql; apply Eq.refl; apply Eq.refl) | (apply p_pick_t; apply Eq.refl; apply Eq.refl)); apply Eq.refl) | (apply w_nil) | (apply w_on; apply Eq.refl) | (apply e_scw; (repeat (first | exact Over.base | exact Over.refl | refine Over.put rfl ?_ | refine Over.cnP rfl ?_ | refine Over.zpP rfl ?_)); apply Eq.refl; (first | assumption | apply Below.refl)))
  · intro g'
    repeat (first | (apply w_op; (apply p_pick_f; apply Eq.refl; apply Eq.refl); apply Eq.refl) | (apply w_nil) | (apply w_off; apply Eq.refl; apply Eq.refl) | (apply e_scw; (repeat (first | exact Over.base | exact Over.refl | refine Over.put rfl ?_ | refine Over.cnP rfl ?_ | refine Over.zpP rfl ?_)); apply Eq.refl; (first | assumption | apply Below.refl)))
  intro u w3 hb3
  repeat (first | (apply w_op; (apply p_asB; apply Eq.refl); apply Eq.refl) | (apply w_nil) | (apply e_then) | (apply c_ret))
  exact r_ret1 Try.results23 rfl ⟨congrArg Value.bool (by simp [listsBad]), hb1.trans (hb3.mono z1)⟩

theorem rkept_ok (v1 v2 v3 : Value) (src dst : List En) (rs : List Rl) (p : ByteArray) (w : World) (B : Nat) (h1 : Ens w B v1 src) (h2 : Ens w B v2 dst) (h3 : Rls w B v3 rs) (hB : B ≤ w.heap.size) (hl1 : src.length ≤ 1000000) (hl2 : dst.length ≤ 1000000) (hl3 : rs.length ≤ 1000000)
    (hi1 : EnsIn src) (hi2 : EnsIn dst) (hi3 : RlsIn rs) :
    Ret Try.prog 13 [v1, v2, v3, .string p] w fun v w' => v = .tuple #[.int .i64 (dropKept src dst rs p).1, .bool (dropKept src dst rs p).2] ∧ Below w.heap.size w w' := by
  obtain ⟨A1, c1, rfl, hc1, hA1⟩ := h1.out
  obtain ⟨A2, c2, rfl, hc2, hA2⟩ := h2.out
  obtain ⟨A3, c3, rfl, hc3, hA3⟩ := h3.out
  refine calls_in Try.func13 rfl Try.ntmps13 rfl ?_
  repeat (first | (apply w_op; (first | (apply p_mvS; apply Eq.refl) | (apply p_mvL; apply Eq.refl) | (apply p_asI; apply Eq.refl) | (apply p_asB; apply Eq.refl)); apply Eq.refl) | (apply w_nil) | (apply c_seq) | (apply e_then) | (apply c_region))
  refine w_call cl26 (rfind_ok _ dst p _ B h2 hl2) rfl ?_
  rintro v w1 ⟨rfl, hv⟩
  cases hf : findF p dst 0 with
  | none =>
    rw [hf] at hv
    subst hv
    have hk : dropKept src dst rs p = (0, false) := by
      unfold dropKept
      split
      · rfl
      · rw [hf]
    repeat (first | (apply w_op; (first | (apply p_mvB; apply Eq.refl) | (apply p_mvT; apply Eq.refl) | (apply p_asI; apply Eq.refl) | (apply p_asB; apply Eq.refl) | (apply p_extract; apply Eq.refl; apply Eq.refl) | (apply p_not; apply Eq.refl) | (apply p_pick_t; apply Eq.refl; apply Eq.refl)); apply Eq.refl) | (apply w_nil) | (apply c_seq) | (apply e_then) | (apply c_region) | (apply w_off; apply Eq.refl; apply Eq.refl) | (apply c_cond_t; apply Eq.refl) | (apply c_ret) | (apply e_then_ret))
    exact r_ret2 Try.results13 rfl ⟨by rw [hk]; rfl, Below.refl _ _⟩
  | some k =>
    rw [hf] at hv
    subst hv
    obtain ⟨_, x, hx, _⟩ := findF_ge _ _ _ _ hf
    rw [Nat.sub_zero] at hx
    obtain ⟨hk, _⟩ := List.getElem?_eq_some_iff.1 hx
    repeat (first | (apply w_op; (first | (apply p_mvB; apply Eq.refl) | (apply p_mvL; apply Eq.refl) | (apply p_mvT; apply Eq.refl) | (apply p_asI; apply Eq.refl) | (apply p_asB; apply Eq.refl) | (apply p_extract; apply Eq.refl; apply Eq.refl) | (apply p_not; apply Eq.refl)); apply Eq.refl) | (apply w_nil) | (apply c_seq) | (apply e_then) | (apply c_region) | (apply w_on; apply Eq.refl))
    refine w_callB cl23 (rmay24_ok _ _ src dst _ B h1 h2 hB hl1 hl2 hi1 hi2) rfl (fun w2 hb2 => ?_)
    have z2 := hb2.size
    repeat (first | (apply w_op; (first | (apply p_not; apply Eq.refl) | (apply p_pick_f; apply Eq.refl; apply Eq.refl)); apply Eq.refl) | (apply w_nil) | (apply e_then) | (apply w_on; apply Eq.refl))
    first | refine c_ifd rfl (fun g => ?_) (fun g => ?_) | refine c_ifnd rfl (fun g => ?_) (fun g => ?_) | refine c_ifn rfl (fun g => ?_) (fun g => ?_) | refine c_cond rfl (fun g => ?_) (fun g => ?_)
    · have hb : listsBad src dst = true := by simpa using g
      have hk : dropKept src dst rs p = (0, false) := by rw [dropKept, if_pos hb]
      repeat (first | (apply w_op; (first | (apply p_asI; apply Eq.refl) | (apply p_asB; apply Eq.refl)); apply Eq.refl) | (apply w_nil) | (apply c_seq) | (apply e_then) | (apply c_region) | (apply c_ret) | (apply e_then_ret))
      exact r_ret2 Try.results13 rfl ⟨by rw [hk]; rfl, hb2⟩
    · have hb : listsBad src dst = false := by simpa using g
      obtain ⟨b1, b2⟩ := bad_split hb
      have hkk : dropKept src dst rs p = ((whyL src dst rs).getD k 0, true) := by rw [dropKept, if_neg (by simp [hb]), hf]
      repeat (first | (apply w_op; (apply p_mvL; apply Eq.refl); apply Eq.refl) | (apply c_seq) | (apply e_then) | (apply c_region) | (apply c_skip))
      refine w_call cl24 (goes_ok _ _ _ src dst rs _ B (h1.below (hb2.mono hB)) (h2.below (hb2.mono hB)) (h3.below (hb2.mono hB)) (by omega) hl1 hl2 hl3 (fl_dist b1) hi2 hi3 (fl_good b2) (fl_rise b2)) rfl ?_
      rintro v w3 ⟨b, rfl, hge, hrow, hb3⟩
      have hwl : (whyL src dst rs).length = dst.length := whyR_len _ _ _ _
      have hel := hrow.obj0.elem (zvs_get (l := whyL src dst rs) (j := k) (by omega))
      repeat (first | (apply w_op; (first | (apply p_mvI; apply Eq.refl) | (apply p_asI; apply Eq.refl) | (apply p_asB; apply Eq.refl) | (apply p_indexAddr; apply Eq.refl; apply Eq.refl; apply Eq.refl; omega) | (apply p_load0; apply Eq.refl; (first | assumption | (apply Cel.bel; assumption; assumption; apply Nat.zero_lt_succ)); (first | apply Eq.refl | assumption))); apply Eq.refl) | (apply w_nil) | (apply e_then) | (apply c_ret))
      refine r_ret2 Try.results13 rfl ⟨?_, hb2.trans (hb3.mono z2)⟩
      rw [hkk]
      simp only [getD_lt (show k < (whyL src dst rs).length by omega)]
      rfl
end Go.Proofs.Ytjcbnohnilffoaa
