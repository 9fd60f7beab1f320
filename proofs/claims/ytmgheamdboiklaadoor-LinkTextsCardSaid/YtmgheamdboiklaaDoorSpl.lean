/- THE WALKS of strings.Split at "/", HasPrefix, CutPrefix. -/
import Derived.Test.YtmgheamdboiklaaDoorPath
import Derived.Test.YtmgheamdboiklaaDoorSc
import Derived.Test.YtmgheamdboiklaaDoorTp
import Derived.Lib.IndexLaws
set_option linter.unusedVariables false
set_option linter.unusedSimpArgs false
namespace Go.Proofs.YtmgheamdboiklaaDoor
open Go.RowKit

theorem cnt75 (s : ByteArray) (c : UInt8) (w : World) : (callFunc 69 #[.string s, .int .u8 c.toNat]).run Tryd.prog w = .ok (.value (.int .i64 ((lsB s).count c : Nat))) w := by
  rw [run_callFunc_extern Tryd.func69 (by kernel_rfl) (by kernel_rfl) (by kernel_rfl) (e := Extern.BytealgCount.count) (by kernel_rfl)]
  rw [Lib.run_countString, byteArg]
  rfl
theorem cnt47 (s : ByteArray) (w : World) : (callFunc 69 #[.string s, .int .u8 47]).run Tryd.prog w = .ok (.value (.int .i64 ((lsB s).count 47 : Nat))) w := by
  have h := cnt75 s 47 w
  rwa [show (((47 : UInt8).toNat : Nat) : Int) = 47 from rfl] at h
theorem ixb47 (s : ByteArray) (w : World) : (callFunc 71 #[.string s, .int .u8 47]).run Tryd.prog w = .ok (.value (.int .i64 (Lib.indexByte (lsB s) 47))) w := by
  have h := ixb75 s 47 w
  rwa [show (((47 : UInt8).toNat : Nat) : Int) = 47 from rfl] at h
abbrev slB : ByteArray := { data := #[47] }
set_option maxRecDepth 100000 in
theorem count_ok (s : ByteArray) (w : World) : Ret Tryd.prog 59 [.string s, .string slB] w fun v w' => w' = w ∧ v = .int .i64 ((lsB s).count 47 : Nat) := by
  refine calls_in Tryd.func59 rfl Tryd.ntmps59 rfl ?_
  repeat (first | (apply w_op; (first | (apply p_mvS; apply Eq.refl) | (apply p_asI; apply Eq.refl) | (apply p_eql; apply Eq.refl; apply Eq.refl) | (apply p_len_str; apply Eq.refl)); apply Eq.refl) | (apply w_nil) | (apply c_seq) | (apply e_then) | (apply c_region) | (apply c_cond_t; apply Eq.refl) | (apply c_cond_f; apply Eq.refl) | (apply c_skip))
  refine w_op (p_index (s := slB) (j := 0) rfl rfl ⟨by decide, by decide⟩) rfl ?_
  refine w_op (p_extern (vs := [.string s, .int .u8 47]) (fun _ => rfl) rfl (cnt47 s _)) rfl ?_
  repeat (first | (apply w_op; (apply p_asI; apply Eq.refl); apply Eq.refl) | (apply w_nil) | (apply e_then) | (apply c_ret) | (apply e_then_ret))
  exact r_ret1 Tryd.results59 rfl ⟨rfl, rfl⟩
set_option maxRecDepth 100000 in
theorem index_lite_ok (s : ByteArray) (w : World) (hne : s ≠ slB) : Ret Tryd.prog 70 [.string s, .string slB] w fun v w' => w' = w ∧ v = .int .i64 (Lib.indexByte (lsB s) 47) := by
  refine calls_in Tryd.func70 rfl Tryd.ntmps70 rfl ?_
  repeat (first | (apply w_op; (first | (apply p_mvI; apply Eq.refl) | (apply p_mvS; apply Eq.refl) | (apply p_mvB; apply Eq.refl) | (apply p_asI; apply Eq.refl) | (apply p_asB; apply Eq.refl) | (apply p_eql; apply Eq.refl; apply Eq.refl) | (apply p_seql; apply Eq.refl; apply Eq.refl) | (apply p_len_str; apply Eq.refl) | (apply p_pick_f; apply Eq.refl; apply Eq.refl)); apply Eq.refl) | (apply w_nil) | (apply c_seq) | (apply e_then) | (apply c_region) | (apply w_on; apply Eq.refl) | (apply c_block))
  first | refine c_ifd rfl (fun g => ?_) (fun g => ?_) | refine c_ifnd rfl (fun g => ?_) (fun g => ?_) | refine c_ifn rfl (fun g => ?_) (fun g => ?_) | refine c_cond rfl (fun g => ?_) (fun g => ?_)
  · exact absurd g.symm hne
  repeat (first | (apply w_op; (first | (apply p_mvI; apply Eq.refl) | (apply p_mvS; apply Eq.refl) | (apply p_asB; apply Eq.refl) | (apply p_eql; apply Eq.refl; apply Eq.refl)); apply Eq.refl) | (apply w_nil) | (apply c_seq) | (apply e_then) | (apply c_region) | (apply c_cond_t; apply Eq.refl))
  refine w_op (p_index (s := slB) (j := 0) rfl rfl ⟨by decide, by decide⟩) rfl ?_
  refine w_callS cl61 (indexByte_lite_ok s 47 _) rfl ?_
  repeat (first | (apply w_op; (apply p_asI; apply Eq.refl); apply Eq.refl) | (apply w_nil) | (apply e_then) | (apply c_ret) | (apply e_then_ret) | (apply e_bk_ret))
  exact r_ret1 Tryd.results70 rfl ⟨rfl, rfl⟩
theorem index_lite_ok1 (w : World) : Ret Tryd.prog 70 [.string slB, .string slB] w fun v w' => w' = w ∧ v = .int .i64 (Lib.indexByte (lsB slB) 47) := by
  refine calls_in Tryd.func70 rfl Tryd.ntmps70 rfl ?_
  repeat (first | (apply w_op; (first | (apply p_mvI; apply Eq.refl) | (apply p_mvS; apply Eq.refl) | (apply p_mvB; apply Eq.refl) | (apply p_asI; apply Eq.refl) | (apply p_asB; apply Eq.refl) | (apply p_eql; apply Eq.refl; apply Eq.refl) | (apply p_seql; apply Eq.refl; apply Eq.refl) | (apply p_len_str; apply Eq.refl) | (apply p_pick_f; apply Eq.refl; apply Eq.refl)); apply Eq.refl) | (apply w_nil) | (apply c_seq) | (apply e_then) | (apply c_region) | (apply w_on; apply Eq.refl) | (apply c_block) | (apply c_cond_t; apply Eq.refl) | (apply c_ret) | (apply e_then_ret) | (apply e_bk_ret))
  exact r_ret1 Tryd.results70 rfl ⟨rfl, rfl⟩
theorem index_ok (s : ByteArray) (w : World) : Ret Tryd.prog 60 [.string s, .string slB] w fun v w' => w' = w ∧ v = .int .i64 (Lib.indexByte (lsB s) 47) := by
  refine calls_in Tryd.func60 rfl Tryd.ntmps60 rfl ?_
  repeat (first | (apply w_op; (first | (apply p_mvS; apply Eq.refl) | (apply p_asI; apply Eq.refl)); apply Eq.refl) | (apply w_nil) | (apply c_seq) | (apply e_then) | (apply c_region))
  by_cases hne : s = slB
  · subst hne
    refine w_callS cl70 (index_lite_ok1 _) rfl ?_
    repeat (first | (apply w_op; (apply p_asI; apply Eq.refl); apply Eq.refl) | (apply w_nil) | (apply e_then) | (apply c_ret))
    exact r_ret1 Tryd.results60 rfl ⟨rfl, rfl⟩
  · refine w_callS cl70 (index_lite_ok s _ hne) rfl ?_
    repeat (first | (apply w_op; (apply p_asI; apply Eq.refl); apply Eq.refl) | (apply w_nil) | (apply e_then) | (apply c_ret))
    exact r_ret1 Tryd.results60 rfl ⟨rfl, rfl⟩
def bz (m : Nat) : List Value := List.replicate m (.string { data := #[] })
theorem made_str (m : Nat) : (madeCells #[.string { data := #[] }] m).toList = bz m := by
  apply List.ext_getElem?
  intro j
  simp only [madeCells, bz]
  by_cases h : j < m
  · simp [h, Nat.mod_one]
  · simp [h]
theorem bz_set (l : List ByteArray) (m : Nat) (s : ByteArray) : (l.map Value.string ++ bz (m + 1)).set l.length (.string s) = (l ++ [s]).map Value.string ++ bz m := by
  rw [List.set_append_right _ _ (by simp)]
  simp [bz, List.replicate_succ]
theorem bz_get (l : List ByteArray) (m : Nat) : (l.map Value.string ++ bz (m + 1))[l.length]? = some (.string { data := #[] }) := by
  rw [List.getElem?_append_right (by simp)]
  simp [bz]
theorem cut_count : ∀ (l : List UInt8), (cutAt 47 l).length = l.count 47 + 1
  | [] => rfl
  | b :: l => by
    have ih := cut_count l
    rw [List.count_cons]
    by_cases h : b = 47
    · subst h
      have := cutAt_hit 47 [] l (by simp)
      simp only [List.nil_append] at this
      rw [this]
      simp [ih]
    · simp only [cutAt, if_neg h]
      cases hc : cutAt 47 l with
      | nil => exact absurd hc (cutAt_ne 47 l)
      | cons y r =>
        rw [hc] at ih
        simp [h] at ih ⊢
        omega
def cutB (s : ByteArray) : List ByteArray := (cutAt 47 (lsB s)).map mkB
theorem cutB_split {s : ByteArray} (h : s ≠ noB) : cutB s = split s := by
  unfold cutB split partsL
  rw [if_neg (fun e => h (ls_inj (by rw [e]; rfl)))]
theorem cutB_step {s : ByteArray} {o : Nat} (h : Lib.indexByte (lsB s) 47 = o) : o < s.size ∧ cutB s = s.extract 0 o :: cutB (s.extract (o + 1) s.size) ∧ (lsB s).count 47 = (lsB (s.extract (o + 1) s.size)).count 47 + 1 := by
  obtain ⟨h1, h2⟩ := Lib.indexByte_some h
  have hlt : o < (lsB s).length := (List.getElem?_eq_some_iff.1 h1).1
  have hget : (lsB s)[o] = 47 := (List.getElem?_eq_some_iff.1 h1).2
  have he : lsB s = (lsB s).take o ++ 47 :: (lsB s).drop (o + 1) := by
    conv => lhs; rw [← List.take_append_drop o (lsB s), List.drop_eq_getElem_cons hlt, hget]
  have hni : (47 : UInt8) ∉ (lsB s).take o := fun hm => by
    obtain ⟨k, hk, e⟩ := List.mem_iff_getElem.1 hm
    rw [List.length_take] at hk
    rw [List.getElem_take] at e
    exact h2 k (by omega) (by rw [List.getElem?_eq_getElem (by omega), e])
  have hx1 : lsB (s.extract 0 o) = (lsB s).take o := by rw [ls_extract]; simp
  have hx2 : lsB (s.extract (o + 1) s.size) = (lsB s).drop (o + 1) := by
    rw [ls_extract, List.take_of_length_le]
    rw [List.length_drop, ls_len]; omega
  refine ⟨by rw [← ls_len]; exact hlt, ?_, ?_⟩
  · unfold cutB
    conv => lhs; rw [he, cutAt_hit 47 _ _ hni]
    rw [List.map_cons, hx2, ← hx1, mk_ls]
  · rw [hx2]
    conv => lhs; rw [he]
    rw [List.count_append, List.count_cons, List.count_eq_zero.2 hni]
    simp
theorem cutB_last {s : ByteArray} (h : (lsB s).count 47 = 0) : cutB s = [s] := by
  unfold cutB
  rw [cutAt_none 47 _ (List.count_eq_zero.1 h)]
  simp [mk_ls]

set_option maxRecDepth 100000 in
theorem genSplit_ok (s : ByteArray) (w : World) (hs : s.size ≤ 1000000) : Ret Tryd.prog 43 [.string s, .string slB, .int .i64 0, .int .i64 (-1)] w fun v w' => Strs w' w'.heap.size v (cutB s) ∧ Below w.heap.size w w' := by
  obtain ⟨N, hN⟩ : ∃ N, (lsB s).count 47 = N := ⟨_, rfl⟩
  have hcl := cut_count (lsB s)
  have hNl : N ≤ s.size := by rw [← hN, ← ls_len]; exact List.count_le_length
  rw [hN] at hcl
  refine calls_in Tryd.func43 rfl Tryd.ntmps43 rfl ?_
  repeat (first | (apply w_op; (first | (apply p_mvI; apply Eq.refl) | (apply p_mvS; apply Eq.refl) | (apply p_asL; apply Eq.refl) | (apply p_lss; apply Eq.refl; apply Eq.refl) | (apply p_eql; apply Eq.refl; apply Eq.refl) | (apply p_seql; apply Eq.refl; apply Eq.refl)); apply Eq.refl) | (apply w_nil) | (apply c_seq) | (apply e_then) | (apply c_region) | (apply c_cond_t; apply Eq.refl) | (apply c_cond_f; apply Eq.refl) | (apply c_skip))
  refine w_callS cl59 (count_ok s _) rfl ?_
  rw [hN]
  repeat (first | (apply w_op; (first | (apply p_mvI; apply Eq.refl) | (apply p_mvS; apply Eq.refl) | (apply p_asI; apply Eq.refl) | (apply p_len_str; apply Eq.refl) | (apply p_add64; apply Eq.refl; apply Eq.refl; omega) | (apply p_min; apply Eq.refl; apply Eq.refl)); apply Eq.refl) | (apply w_nil) | (apply c_seq) | (apply e_then) | (apply c_region))
  rw [if_neg (show ¬ ((s.size : Int) + 1) < (N : Int) + 1 by omega)]
  skip
  refine w_make rfl rfl (by omega) (by omega) rfl (fun b w1 hn => ?_)
  have hb : Blk w1 b 9 (([] : List ByteArray).map Value.string ++ bz (N + 1)) := by
    have := hn.blk
    rw [show (Value.string { data := #[] }).cells = #[.string { data := #[] }] from rfl, made_str] at this
    rw [show (((N : Int) + 1).toNat * 1) = N + 1 by omega] at this
    simpa using this
  have hbel := hn.below (Below.refl _ _) (Nat.le_refl _)
  have hbw := hn.hb
  clear hn
  repeat (first | (apply w_op; (first | (apply p_mvI; apply Eq.refl) | (apply p_asI; apply Eq.refl) | (apply p_asL; apply Eq.refl) | (apply p_sub64; apply Eq.refl; apply Eq.refl; omega)); apply Eq.refl) | (apply w_nil) | (apply c_seq) | (apply e_then) | (apply c_region) | (apply c_block))
  refine c_loop [0, 10] [11, 34, 35, 36, 37, 38, 39, 40, 41, 42, 43, 44, 45, 46, 47, 48, 49, 50, 51, 52, 53, 54, 55, 56, 57] (fun vs w2 => ∃ (cur : ByteArray) (dn : List ByteArray), vs = [.string cur, .int .i64 (dn.length : Int)] ∧ cur.size ≤ s.size ∧ dn.length + (lsB cur).count 47 = N ∧ cutB s = dn ++ cutB cur ∧ Below w.heap.size w w2 ∧ Blk w2 b 9 (dn.map Value.string ++ bz ((lsB cur).count 47 + 1)))
    (fun vs _ => N - (intOf ((vs.drop 1).headD undef)).toNat) rfl
    ⟨s, [], rfl, Nat.le_refl _, by simp [hN], rfl, hbel, by rw [hN]; exact hb⟩ ?_
  clear hb hbel
  rintro _ u w2 ⟨cur, dn, rfl, hcs, hcnt, hcut, hbel, hb⟩
  have z2 := hbel.size
  repeat (first | (apply w_op; (first | (apply p_mvI; apply Eq.refl) | (apply p_lss; apply Eq.refl; apply Eq.refl)); apply Eq.refl) | (apply w_nil) | (apply c_seq) | (apply e_then) | (apply c_region))
  first | refine c_ifd rfl (fun g => ?_) (fun g => ?_) | refine c_ifnd rfl (fun g => ?_) (fun g => ?_) | refine c_ifn rfl (fun g => ?_) (fun g => ?_) | refine c_cond rfl (fun g => ?_) (fun g => ?_)
  · repeat (first | (apply w_op; (apply p_mvS; apply Eq.refl); apply Eq.refl) | (apply c_seq) | (apply e_then) | (apply c_region) | (apply c_block) | (apply c_skip))
    refine w_callS cl60 (index_ok cur _) rfl ?_
    have hge := Lib.indexByte_ge (lsB cur) 47
    have hnn : ¬ Lib.indexByte (lsB cur) 47 < 0 := fun h => by
      have := (indexByte_neg _ _).1 h
      have := List.count_eq_zero.2 this
      omega
    obtain ⟨o, ho⟩ : ∃ o : Nat, Lib.indexByte (lsB cur) 47 = o := ⟨(Lib.indexByte (lsB cur) 47).toNat, by omega⟩
    obtain ⟨s1, s2, s3⟩ := cutB_step ho
    rw [ho]
    repeat (first | (apply w_op; (first | (apply p_mvI; apply Eq.refl) | (apply p_mvS; apply Eq.refl) | (apply p_mvL; apply Eq.refl) | (apply p_asI; apply Eq.refl) | (apply p_lss; apply Eq.refl; apply Eq.refl) | (apply p_add64; apply Eq.refl; apply Eq.refl; omega) | (apply p_indexAddr; apply Eq.refl; apply Eq.refl; apply Eq.refl; omega) | (apply p_sub_h; apply Eq.refl; apply Eq.refl; omega)); apply Eq.refl) | (apply w_nil) | (apply c_seq) | (apply e_then) | (apply c_region) | (apply c_cond_f; apply Eq.refl) | (apply c_skip))
    obtain ⟨M, hM⟩ : ∃ M, (lsB (cur.extract (o + 1) cur.size)).count 47 = M := ⟨_, rfl⟩
    rw [s3, hM] at hb
    skip
    refine w_store (v := .string (cur.extract 0 o)) (b := b) (j := dn.length) (cs := dn.map Value.string ++ bz (M + 1 + 1)) (e := 9) ⟨_, _, inferInstance⟩ rfl (by simp [addr_add_plain]) (by show Value.string (cur.extract 0 ((o : Int) + 0).toNat) = _; rw [show ((o : Int) + 0).toNat = o by omega]) rfl hb (bz_get _ _) (fun w3 hp3 hb3 => ?_)
    rw [bz_set] at hb3
    repeat (first | (apply w_op; (first | (apply p_mvI; apply Eq.refl) | (apply p_mvS; apply Eq.refl) | (apply p_len_str; apply Eq.refl)); apply Eq.refl) | (apply w_nil) | (apply c_seq) | (apply e_then) | (apply c_region))
    rw [show ((slB : ByteArray).size : Int) = 1 from rfl]
    repeat (first | (apply w_op; (first | (apply p_mvI; apply Eq.refl) | (apply p_asI; apply Eq.refl) | (apply p_asS; apply Eq.refl) | (apply p_add64; apply Eq.refl; apply Eq.refl; omega) | (apply p_sub_l; apply Eq.refl; apply Eq.refl; omega)); apply Eq.refl) | (apply w_nil) | (apply e_then) | (apply c_region) | (apply e_bk))
    refine e_lp (by repeat (first | exact Over.base | exact Over.refl | refine Over.put rfl ?_ | refine Over.cnP rfl ?_ | refine Over.zpP rfl ?_)) ?_
    refine ⟨⟨cur.extract (o + 1) cur.size, dn ++ [cur.extract 0 o], ?_, ?_, ?_, ?_, hp3.below hbel z2 (by omega), ?_⟩, ?_⟩
    · show [Value.string (cur.extract ((o : Int) + 1).toNat cur.size), Value.int .i64 ((dn.length : Int) + 1)] = _
      rw [show ((o : Int) + 1).toNat = o + 1 by omega, List.length_append]
      rfl
    · have : (cur.extract (o + 1) cur.size).size ≤ cur.size := by rw [← ls_len, ← ls_len cur, ls_extract]; simp
      omega
    · rw [List.length_append, hM]; simp; omega
    · rw [hcut, s2]; simp
    · rw [hM]; exact hb3
    · show N - ((dn.length : Int) + 1).toNat < N - ((dn.length : Int)).toNat
      omega
  · have h0 : (lsB cur).count 47 = 0 := by omega
    have hlast := cutB_last h0
    rw [h0] at hb
    repeat (first | (apply w_op; (first | (apply p_mvI; apply Eq.refl) | (apply p_mvS; apply Eq.refl) | (apply p_mvL; apply Eq.refl) | (apply p_indexAddr; apply Eq.refl; apply Eq.refl; apply Eq.refl; omega)); apply Eq.refl) | (apply c_seq) | (apply e_then) | (apply c_region) | (apply c_exit) | (apply e_then_exit) | (apply e_bk_same) | (apply e_lp_exit))
    refine w_store (v := .string cur) (b := b) (j := dn.length) (cs := dn.map Value.string ++ bz (0 + 1)) (e := 9) ⟨_, _, inferInstance⟩ rfl (by simp [addr_add_plain]) rfl rfl hb (bz_get _ _) (fun w3 hp3 hb3 => ?_)
    rw [bz_set] at hb3
    have hbel3 := hp3.below hbel z2 (by omega)
    have hcutn : cutB s = dn ++ [cur] := by rw [hcut, hlast]
    repeat (first | (apply w_op; (first | (apply p_mvI; apply Eq.refl) | (apply p_mvL; apply Eq.refl) | (apply p_asL; apply Eq.refl) | (apply p_add64; apply Eq.refl; apply Eq.refl; omega) | (apply p_cut_h; apply Eq.refl; apply Eq.refl; omega)); apply Eq.refl) | (apply w_nil) | (apply c_seq) | (apply e_then) | (apply c_region) | (apply c_ret))
    refine r_ret1 Tryd.results43 rfl ⟨?_, hbel3⟩
    rw [hcutn]
    have hlt := hb3.lt
    have hdn : dn.length = N := by omega
    refine ⟨⟨some ⟨b, 0, none⟩, N + 1, ?_, ?_, fun _ => ⟨⟨b, 0, none⟩, rfl, hlt, fun i a hia => ?_⟩⟩⟩
    · show Value.slice (cutA (some ⟨b, 0, none⟩) 0 ((N : Int) + 1).toNat 1) (((dn.length : Int) + 1).toNat) ((N : Int) + 1).toNat = _
      rw [show ((N : Int) + 1).toNat = N + 1 by omega, show ((dn.length : Int) + 1).toNat = dn.length + 1 by omega, List.length_append]
      unfold cutA
      rw [if_neg (by omega)]
      rfl
    · rw [List.length_append]; show dn.length + 1 ≤ N + 1; omega
    · refine Cel.elem hb3.obj0 ?_
      have hi : i < (dn ++ [cur]).length := (List.getElem?_eq_some_iff.1 hia).1
      rw [List.getElem?_append_left (by rw [List.length_map]; exact hi), List.getElem?_map, hia]
      rfl
set_option maxRecDepth 100000 in
theorem ssplit_ok (s : ByteArray) (w : World) (hs : s.size ≤ 1000000) : Ret Tryd.prog 24 [.string s, .string slB] w fun v w' => Strs w' w'.heap.size v (cutB s) ∧ Below w.heap.size w w' := by
  refine calls_in Tryd.func24 rfl Tryd.ntmps24 rfl ?_
  repeat (first | (apply w_op; (first | (apply p_mvS; apply Eq.refl) | (apply p_asL; apply Eq.refl)); apply Eq.refl) | (apply w_nil) | (apply c_seq) | (apply e_then) | (apply c_region))
  refine w_call cl43 (genSplit_ok s _ hs) rfl ?_
  rintro v w1 ⟨h1, hb1⟩
  obtain ⟨A, c, rfl, _, _⟩ := h1.out
  repeat (first | (apply w_op; (apply p_asL; apply Eq.refl); apply Eq.refl) | (apply w_nil) | (apply e_then) | (apply c_ret))
  exact r_ret1 Tryd.results24 rfl ⟨h1, hb1⟩

/-! ### what a text begins with -/
def hasP (s p : ByteArray) : Bool := decide ((p.size : Int) ≤ (s.size : Int)) && decide (s.extract 0 p.size = p)
theorem hasPrefix_lite_ok (s p : ByteArray) (w : World) : Ret Tryd.prog 57 [.string s, .string p] w fun v w' => w' = w ∧ v = .bool (hasP s p) := by
  refine calls_in Tryd.func57 rfl Tryd.ntmps57 rfl ?_
  repeat (first | (apply w_op; (first | (apply p_mvS; apply Eq.refl) | (apply p_mvB; apply Eq.refl) | (apply p_asB; apply Eq.refl) | (apply p_geq; apply Eq.refl; apply Eq.refl) | (apply p_seql; apply Eq.refl; apply Eq.refl) | (apply p_len_str; apply Eq.refl) | (apply p_pick_t; apply Eq.refl; apply Eq.refl) | (apply p_pick_f; apply Eq.refl; apply Eq.refl) | (apply p_sub_h; apply Eq.refl; apply Eq.refl; omega)); apply Eq.refl) | (apply w_nil) | (apply c_seq) | (apply e_then) | (apply c_region) | (apply w_on; apply Eq.refl) | (apply w_off; apply Eq.refl; apply Eq.refl) | (apply c_ret) | (apply w_andd; apply Eq.refl; apply Eq.refl; (repeat (first | apply Seg.pick | apply Seg.op | apply Seg.op0)); apply Eq.refl; intro _) | (apply e_sc; (repeat (first | exact Over.base | exact Over.refl | refine Over.put rfl ?_ | refine Over.cnP rfl ?_ | refine Over.zpP rfl ?_)); apply Eq.refl) | (intro _))
  exact r_ret1 Tryd.results57 rfl ⟨rfl, rfl⟩
theorem hasPrefix_ok (s p : ByteArray) (w : World) : Ret Tryd.prog 65 [.string s, .string p] w fun v w' => w' = w ∧ v = .bool (hasP s p) := by
  refine calls_in Tryd.func65 rfl Tryd.ntmps65 rfl ?_
  repeat (first | (apply w_op; (first | (apply p_mvS; apply Eq.refl) | (apply p_asB; apply Eq.refl)); apply Eq.refl) | (apply w_nil) | (apply c_seq) | (apply e_then) | (apply c_region))
  refine w_callS cl57 (hasPrefix_lite_ok s p _) rfl ?_
  repeat (first | (apply w_op; (apply p_asB; apply Eq.refl); apply Eq.refl) | (apply w_nil) | (apply e_then) | (apply c_ret))
  exact r_ret1 Tryd.results65 rfl ⟨rfl, rfl⟩
theorem cutPrefix_lite_ok (s p : ByteArray) (w : World) : Ret Tryd.prog 42 [.string s, .string p] w fun v w' => w' = w ∧ v = .tuple #[.string (if hasP s p = true then s.extract p.size s.size else s), .bool (hasP s p)] := by
  refine calls_in Tryd.func42 rfl Tryd.ntmps42 rfl ?_
  repeat (first | (apply w_op; (first | (apply p_mvS; apply Eq.refl) | (apply p_asS; apply Eq.refl) | (apply p_asB; apply Eq.refl)); apply Eq.refl) | (apply w_nil) | (apply c_seq) | (apply e_then) | (apply c_region))
  refine w_callS cl57 (hasPrefix_lite_ok s p _) rfl ?_
  repeat (first | (apply w_op; (apply p_not; apply Eq.refl); apply Eq.refl) | (apply w_nil) | (apply e_then))
  first | refine c_ifd rfl (fun g => ?_) (fun g => ?_) | refine c_ifnd rfl (fun g => ?_) (fun g => ?_) | refine c_ifn rfl (fun g => ?_) (fun g => ?_) | refine c_cond rfl (fun g => ?_) (fun g => ?_)
  · repeat (first | (apply w_op; (first | (apply p_mvS; apply Eq.refl) | (apply p_asS; apply Eq.refl) | (apply p_asB; apply Eq.refl)); apply Eq.refl) | (apply w_nil) | (apply c_seq) | (apply e_then) | (apply c_region) | (apply c_ret) | (apply e_then_ret))
    exact r_ret2 Tryd.results42 rfl ⟨rfl, by rw [g]; rfl⟩
  · have hz : p.size ≤ s.size := by unfold hasP at g; simp at g; omega
    repeat (first | (apply w_op; (first | (apply p_mvS; apply Eq.refl) | (apply p_asS; apply Eq.refl) | (apply p_asB; apply Eq.refl) | (apply p_len_str; apply Eq.refl) | (apply p_sub_l; apply Eq.refl; apply Eq.refl; omega)); apply Eq.refl) | (apply w_nil) | (apply c_seq) | (apply e_then) | (apply c_region) | (apply c_skip) | (apply c_ret))
    exact r_ret2 Tryd.results42 rfl ⟨rfl, by rw [g]; rfl⟩
theorem cutPrefix_ok (s p : ByteArray) (w : World) : Ret Tryd.prog 23 [.string s, .string p] w fun v w' => w' = w ∧ v = .tuple #[.string (if hasP s p = true then s.extract p.size s.size else s), .bool (hasP s p)] := by
  refine calls_in Tryd.func23 rfl Tryd.ntmps23 rfl ?_
  repeat (first | (apply w_op; (first | (apply p_mvS; apply Eq.refl) | (apply p_asS; apply Eq.refl) | (apply p_asB; apply Eq.refl)); apply Eq.refl) | (apply w_nil) | (apply c_seq) | (apply e_then) | (apply c_region))
  refine w_callS cl42 (cutPrefix_lite_ok s p _) rfl ?_
  repeat (first | (apply w_op; (first | (apply p_asS; apply Eq.refl) | (apply p_asB; apply Eq.refl) | (apply p_extract; apply Eq.refl; apply Eq.refl)); apply Eq.refl) | (apply w_nil) | (apply e_then) | (apply c_ret))
  exact r_ret2 Tryd.results23 rfl ⟨rfl, rfl⟩
end Go.Proofs.YtmgheamdboiklaaDoor
