/- THE WALKS of the document's answer for patterns (remoraref14): Signs, Check, takes. -/
import Derived.Test.YtjcbnohnilffoaaRef14
import Derived.Test.YtjcbnohnilffoaaDrop2
set_option linter.unusedVariables false
set_option linter.unusedSimpArgs false
namespace Go.Proofs.Ytjcbnohnilffoaa
open Go.RowKit

def G.toR : G → Sgn
  | .lit c => ⟨0, c, false, noSet⟩
  | .one => ⟨1, 63, false, noSet⟩
  | .some_ => ⟨2, 42, false, noSet⟩
  | .all => ⟨3, 42, false, noSet⟩
  | .cls neg set => ⟨4, 0, neg, set⟩
def enGR (g : G) : List Value := enG g.toR
def RSignsV (w w' : World) (p : ByteArray) (v : Value) : Prop := ∃ u, v = .tuple #[u, .bool (globs (lsB p)).isSome] ∧ ∀ gs, globs (lsB p) = some gs → w'.ownsRow w.heap.size 105 259 u gs.length (gs.flatMap enGR)
set_option maxRecDepth 100000 in
theorem rsigns_ok (p : ByteArray) (w : World) (hs : p.size ≤ 100) : Ret Try.prog 87 [.string p] w fun v w' => RSignsV w w' p v ∧ Below w.heap.size w w' := by
  have hls := ls_len p
  refine calls_in Try.func87 rfl Try.ntmps87 rfl ?_
  repeat (first | (apply w_op; (first | (apply p_asI; apply Eq.refl) | (apply p_asB; apply Eq.refl) | (apply p_asL; apply Eq.refl)); apply Eq.refl) | (apply w_nil) | (apply c_seq) | (apply e_then) | (apply c_region) | (apply c_block))
  refine c_loop [4, 5] [2, 3, 6, 7, 8, 9, 10, 11, 12, 13, 14, 15, 16, 17, 18, 19, 20, 21, 22, 23, 24, 25, 26, 27, 28, 29, 30, 31, 32, 33, 34, 35, 36, 37, 38, 39, 40, 41, 42, 43, 44, 45, 46, 47, 48, 49, 50, 51, 52, 53, 54, 55, 56, 57, 58, 59, 60, 61, 62, 63, 64, 65, 66, 67, 68, 69] (fun vs w2 => ∃ (v : Value) (gs : List G) (i K : Nat), vs = [v, .int .i64 (i : Int)] ∧ i ≤ p.size ∧ (lsB p).length < i + K ∧ gs.length ≤ i ∧ gsF (lsB p) ((lsB p).length + 1) 0 = (gsF (lsB p) K i).map (gs ++ ·) ∧
    w2.ownsRow w.heap.size 105 259 v gs.length (gs.flatMap enGR) ∧ Below w.heap.size w w2) (fun vs _ => p.size - (intOf ((vs.drop 1).headD undef)).toNat) rfl
    ⟨.slice none 0 0, [], 0, (lsB p).length + 1, rfl, Nat.zero_le _, by omega, Nat.zero_le _, by cases gsF (lsB p) ((lsB p).length + 1) 0 <;> simp, World.ownsRow_nil _ _ _ _, Below.refl _ _⟩ ?_
  rintro _ u w2 ⟨v, gs, i, K, rfl, hi, hK, hgl, hinv, hown, hbel⟩
  have hsz2 := hbel.size
  obtain ⟨k, rfl⟩ : ∃ k, K = k + 1 := ⟨K - 1, by omega⟩
  repeat (first | (apply w_op; (first | (apply p_mvI; apply Eq.refl) | (apply p_mvS; apply Eq.refl) | (apply p_lss; apply Eq.refl; apply Eq.refl) | (apply p_len_str; apply Eq.refl)); apply Eq.refl) | (apply w_nil) | (apply c_seq) | (apply e_then) | (apply c_region))
  refine c_cond rfl (fun h1 => ?_) (fun h1 => ?_)
  · have h1' := of_decide_eq_true h1
    have hlt : i < p.size := by omega
    have hc := bAt_some (s := p) (i := i) hlt
    repeat (first | (apply w_op; (first | (apply p_mvI; apply Eq.refl) | (apply p_mvS; apply Eq.refl) | (apply p_asI; apply Eq.refl) | (apply p_index; apply Eq.refl; apply Eq.refl; omega)); apply Eq.refl) | (apply w_nil) | (apply c_seq) | (apply e_then) | (apply c_region) | (apply c_block) | (apply c_skip))
    obtain ⟨c, hcv⟩ : ∃ c, bAt p ((i : Int)).toNat = c := ⟨_, rfl⟩
    have hcv' : bAt p i = c := hcv
    rw [hcv']at hc
    refine w_op (p_build (cells := (enG ⟨0, c, false, noSet⟩).toArray) (by rw [← hcv]; exact rbuilt_lit _)) rfl ?_
    rw [hcv]
    refine w_alloc rfl (fun b7 w3 hn3 => ?_)
    obtain ⟨z7, hb7, hl7⟩ := hn3.zblk Try.prog
    refine w_storeW rfl rfl (enG_one _) (enG_size _) hb7 hl7 (fun w4 hp4 hb4 => ?_)
    have e7 := hn3.hb
    have s3 := hn3.size
    have s4 := hp4.size
    have hown4 : w4.ownsRow w.heap.size 105 259 v gs.length (gs.flatMap enGR) := own_grown hown (gNP hn3 hp4) (by cases v.ownBlock <;> simp)
    have hne7 : some b7 ≠ v.ownBlock := by
      intro e
      have := (hown.lt b7 e.symm).2
      omega
    have hbel4 : Below w.heap.size w w4 := hbel.grown (gNP hn3 hp4) hsz2 (fun j hj => by cases hj)
    have hb7lt : b7 < w4.heap.size := hb4.lt
    have hb4' : Blk w4 b7 105 (enG ⟨0, c, false, noSet⟩) := hb4
    clear hb4 hb7 hown
    repeat (first | (apply w_op; (first | (apply p_mvI; apply Eq.refl) | (apply p_asI; apply Eq.refl) | (apply p_eql; apply Eq.refl; apply Eq.refl) | (apply p_add64; apply Eq.refl; apply Eq.refl; omega)); apply Eq.refl) | (apply w_nil) | (apply c_seq) | (apply e_then) | (apply c_region))
    by_cases h92 : c = 92
    · subst h92
      repeat (first | (apply w_op; (first | (apply p_mvI; apply Eq.refl) | (apply p_mvS; apply Eq.refl) | (apply p_geq; apply Eq.refl; apply Eq.refl) | (apply p_len_str; apply Eq.refl)); apply Eq.refl) | (apply w_nil) | (apply c_seq) | (apply e_then) | (apply c_region) | (apply c_cond_t; apply Eq.refl))
      refine c_cond rfl (fun h2 => ?_) (fun h2 => ?_)
      · have h2' := of_decide_eq_true h2
        have hgo := gs_esc_none (k := k) hc (by rw [List.getElem?_eq_none (by omega)])
        have hnone : globs (lsB p) = none := by rw [globs, hinv, hgo]; rfl
        repeat (first | (apply w_op; (first | (apply p_asB; apply Eq.refl) | (apply p_asL; apply Eq.refl)); apply Eq.refl) | (apply w_nil) | (apply c_seq) | (apply e_then) | (apply c_region) | (apply c_ret) | (apply e_then_ret) | (apply e_bk_ret) | (apply e_lp_ret))
        refine r_ret2 Try.results87 rfl ⟨⟨.slice none 0 0, ?_, ?_⟩, hbel4⟩
        · show Value.tuple #[.slice none 0 0, .bool false] = _
          rw [show globs (lsB p) = none from hnone]; rfl
        · intro gs' e
          rw [show globs (lsB p) = none from hnone] at e
          cases e
      · have h2' := of_decide_eq_false h2
        have hd := bAt_some (s := p) (i := i + 1) (by omega)
        have hgo := gs_esc (k := k) hc hd
        repeat (first | (apply w_op; (first | (apply p_mvI; apply Eq.refl) | (apply p_mvS; apply Eq.refl) | (apply p_fieldAddr; apply Eq.refl) | (apply p_index; apply Eq.refl; apply Eq.refl; omega)); apply Eq.refl) | (apply c_seq) | (apply e_then) | (apply c_region) | (apply c_skip))
        refine w_store (v := .int .u8 (bAt p (i + 1)).toNat) (b := b7) (j := 1) (cs := enG ⟨0, 92, false, noSet⟩) (e := 105) ⟨_, _, inferInstance⟩ rfl (by simp [addr_add_plain]) (by rw [show ((i : Int) + 1).toNat = i + 1 from by omega]; rfl) rfl hb4' rfl (fun w5 hp5 hb5 => ?_)
        have hb5' : Blk w5 b7 105 (enGR (.lit (bAt p (i + 1)))) := hb5
        have hown5 := own_put hown4 hp5 hne7
        have hbel5 : Below w.heap.size w w5 := hp5.below hbel4 (by omega) (by omega)
        have s5 := hp5.size
        repeat (first | (apply w_op; (first | (apply p_mvI; apply Eq.refl) | (apply p_move) | (apply p_asI; apply Eq.refl) | (apply p_eql; apply Eq.refl; apply Eq.refl) | (apply p_add64; apply Eq.refl; apply Eq.refl; omega)); apply Eq.refl) | (apply w_nil) | (apply c_seq) | (apply e_then) | (apply c_region) | (apply c_cond_f; apply Eq.refl) | (apply c_skip))
        refine w_op (p_loadS rfl hb5'.obj0 (enG_len _)) rfl ?_
        refine w_app1 (v1 := .agg (enGR (.lit (bAt p (i + 1)))).toArray) rfl (fun _ => rfl) hown5 (enG_size _) (enG_one _) (by omega) rfl rfl (fun v9 w9 u9 hown9 hg9 hbl9 hs9 hnn9 => ?_)
        repeat (first | (apply w_op; (apply p_assign); apply Eq.refl) | (apply w_nil) | (apply e_bk))
        refine e_lp (by repeat (first | exact Over.base | exact Over.refl | refine Over.put rfl ?_ | refine Over.cnP rfl ?_ | refine Over.zpP rfl ?_)) ?_
        refine ⟨⟨v9, gs ++ [.lit (bAt p (i + 1))], i + 2, k, rfl, by omega, by omega, by simp; omega, gs_next hinv hgo, ?_, below_own hg9 hbel5 (by have := (hbel5).size; omega) hown5 (Nat.le_refl _)⟩, ?_⟩
        · rw [List.length_append, List.flatMap_append]
          simpa [Value.cells] using hown9
        · show p.size - (((i + 2 : Nat) : Int)).toNat < p.size - ((i : Int)).toNat
          omega
    · by_cases h63 : c = 63
      · subst h63
        have hgo := gs_one (k := k) hc
        repeat (first | (apply w_op; (first | (apply p_mvI; apply Eq.refl) | (apply p_fieldAddr; apply Eq.refl) | (apply p_eql; apply Eq.refl; apply Eq.refl)); apply Eq.refl) | (apply w_nil) | (apply c_seq) | (apply e_then) | (apply c_region) | (apply c_cond_t; apply Eq.refl) | (apply c_cond_f; apply Eq.refl) | (apply c_skip))
        refine w_store (v := .int .i64 1) (b := b7) (j := 0) (cs := enG ⟨0, 63, false, noSet⟩) (e := 105) ⟨_, _, inferInstance⟩ rfl (by simp [addr_add_plain]) rfl rfl hb4' rfl (fun w5 hp5 hb5 => ?_)
        have hb5' : Blk w5 b7 105 (enGR .one) := hb5
        have hown5 := own_put hown4 hp5 hne7
        have hbel5 : Below w.heap.size w w5 := hp5.below hbel4 (by omega) (by omega)
        have s5 := hp5.size
        repeat (first | (apply w_op; (first | (apply p_mvI; apply Eq.refl) | (apply p_move) | (apply p_eql; apply Eq.refl; apply Eq.refl)); apply Eq.refl) | (apply w_nil) | (apply c_seq) | (apply e_then) | (apply c_region) | (apply c_cond_f; apply Eq.refl) | (apply c_skip))
        refine w_op (p_loadS rfl hb5'.obj0 (enG_len _)) rfl ?_
        refine w_app1 (v1 := .agg (enGR (.one)).toArray) rfl (fun _ => rfl) hown5 (enG_size _) (enG_one _) (by omega) rfl rfl (fun v9 w9 u9 hown9 hg9 hbl9 hs9 hnn9 => ?_)
        repeat (first | (apply w_op; (apply p_assign); apply Eq.refl) | (apply w_nil) | (apply e_bk))
        refine e_lp (by repeat (first | exact Over.base | exact Over.refl | refine Over.put rfl ?_ | refine Over.cnP rfl ?_ | refine Over.zpP rfl ?_)) ?_
        refine ⟨⟨v9, gs ++ [.one], i + 1, k, rfl, by omega, by omega, by simp; omega, gs_next hinv hgo, ?_, below_own hg9 hbel5 (by have := (hbel5).size; omega) hown5 (Nat.le_refl _)⟩, ?_⟩
        · rw [List.length_append, List.flatMap_append]
          simpa [Value.cells] using hown9
        · show p.size - (((i + 1 : Nat) : Int)).toNat < p.size - ((i : Int)).toNat
          omega
      · by_cases h42 : c = 42
        · subst h42
          have hgo0 := gs_star (k := k) hc
          repeat (first | (apply w_op; (first | (apply p_mvI; apply Eq.refl) | (apply p_fieldAddr; apply Eq.refl) | (apply p_eql; apply Eq.refl; apply Eq.refl)); apply Eq.refl) | (apply w_nil) | (apply c_seq) | (apply e_then) | (apply c_region) | (apply c_cond_t; apply Eq.refl) | (apply c_cond_f; apply Eq.refl) | (apply c_skip))
          refine w_store (v := .int .i64 2) (b := b7) (j := 0) (cs := enG ⟨0, 42, false, noSet⟩) (e := 105) ⟨_, _, inferInstance⟩ rfl (by simp [addr_add_plain]) rfl rfl hb4' rfl (fun w5 hp5 hb5 => ?_)
          have hb5' : Blk w5 b7 105 (enG ⟨2, 42, false, noSet⟩) := hb5
          have hown5 := own_put hown4 hp5 hne7
          have hbel5 : Below w.heap.size w w5 := hp5.below hbel4 (by omega) (by omega)
          have s5 := hp5.size
          repeat (first | (apply w_nil) | (apply e_then) | (apply c_block))
          refine c_loop [5] [40, 41, 42, 43, 44, 45, 46, 47, 48, 49, 50, 51, 52] (fun vs w6 => ∃ j : Nat, vs = [.int .i64 ((j : Int) + 1)] ∧ i ≤ j ∧ j < p.size ∧ stars (lsB p) (lsB p).length i = stars (lsB p) (lsB p).length j ∧ Blk w6 b7 105 (enG ⟨if i < j then 3 else 2, 42, false, noSet⟩) ∧ w6.ownsRow w.heap.size 105 259 v gs.length (gs.flatMap enGR) ∧ Below w.heap.size w w6 ∧ b7 < w6.heap.size) (fun vs _ => p.size + 1 - (intOf (vs.headD undef)).toNat) rfl
            ⟨i, rfl, Nat.le_refl _, hlt, rfl, by rw [if_neg (by omega)]; exact hb5', hown5, hbel5, by omega⟩ ?_
          clear hb5' hb5 hown5 hbel5 hb4' hown4 hbel4
          rintro _ u6 w6 ⟨j, rfl, hj1, hj2, hst, hb6, hown6, hbel6, s6⟩
          repeat (first | (apply w_op; (first | (apply p_mvI; apply Eq.refl) | (apply p_mvS; apply Eq.refl) | (apply p_mvB; apply Eq.refl) | (apply p_lss; apply Eq.refl; apply Eq.refl) | (apply p_len_str; apply Eq.refl)); apply Eq.refl) | (apply c_seq) | (apply c_region))
          refine w_bool 44 rfl (fun g2 => ?_) (fun g2 => ?_)
          · have g2' := of_decide_eq_true g2
            repeat (first | (apply w_op; (first | (apply p_mvI; apply Eq.refl) | (apply p_mvS; apply Eq.refl) | (apply p_eql; apply Eq.refl; apply Eq.refl) | (apply p_pick_t; apply Eq.refl; apply Eq.refl) | (apply p_index; apply Eq.refl; apply Eq.refl; omega)); apply Eq.refl) | (apply w_nil) | (apply e_then) | (apply w_on; apply Eq.refl))
            refine c_cond rfl (fun g3 => ?_) (fun g3 => ?_)
            · have h42' : (lsB p)[j + 1]? = some 42 := by rw [bAt_some (by omega)]; congr 1; have := (byte_is (c := 42)).1 (of_decide_eq_true g3); rwa [show ((j : Int) + 1).toNat = j + 1 from by omega] at this
              repeat (first | (apply w_op; (apply p_fieldAddr; apply Eq.refl); apply Eq.refl) | (apply c_seq) | (apply e_then) | (apply c_region) | (apply c_block) | (apply c_skip))
              refine w_store (v := .int .i64 3) (b := b7) (j := 0) (cs := enG ⟨if i < j then 3 else 2, 42, false, noSet⟩) (e := 105) ⟨_, _, inferInstance⟩ rfl (by simp [addr_add_plain]) rfl rfl hb6 rfl (fun w7 hp7 hb7 => ?_)
              have s7 := hp7.size
              repeat (first | (apply w_op; (first | (apply p_mvI; apply Eq.refl) | (apply p_asI; apply Eq.refl) | (apply p_add64; apply Eq.refl; apply Eq.refl; omega)); apply Eq.refl) | (apply w_nil) | (apply e_then) | (apply c_region) | (apply e_bk))
              refine e_lp (by repeat (first | exact Over.base | exact Over.refl | refine Over.put rfl ?_ | refine Over.cnP rfl ?_ | refine Over.zpP rfl ?_)) ?_
              refine ⟨⟨j + 1, rfl, by omega, by omega, by rw [hst, stars_step h42'], ?_, own_put hown6 hp7 hne7, hp7.below hbel6 (by have := hbel6.size; omega) (by omega), by omega⟩, ?_⟩
              · rw [if_pos (by omega)]; exact hb7
              · show p.size + 1 - (((j : Int) + 1) + 1).toNat < p.size + 1 - ((j : Int) + 1).toNat
                omega
            · have h42' : (lsB p)[j + 1]? ≠ some 42 := by
                rw [bAt_some (by omega)]
                intro e
                have := (byte_is (c := 42)).2 (Option.some.inj e)
                rw [show ((j : Int) + 1).toNat = j + 1 from by omega] at g3
                exact of_decide_eq_false g3 this
              have hsj : stars (lsB p) (lsB p).length i = j := by rw [hst, stars_stop h42']
              rw [hsj] at hgo0
              by_cases hij : i < j
              · rw [if_pos hij] at hb6
                have hgo : gsF (lsB p) (k + 1) i = (gsF (lsB p) k (j + 1)).map (G.all :: ·) := by rw [hgo0, if_pos hij]
                have hb6' : Blk w6 b7 105 (enGR .all) := hb6
                repeat (first | (apply w_op; (first | (apply p_mvI; apply Eq.refl) | (apply p_move) | (apply p_eql; apply Eq.refl; apply Eq.refl)); apply Eq.refl) | (apply w_nil) | (apply c_seq) | (apply e_then) | (apply c_region) | (apply c_cond_f; apply Eq.refl) | (apply c_skip) | (apply c_exit) | (apply e_then_exit) | (apply e_bk_same) | (apply e_lp_exit))
                refine w_op (p_loadS rfl hb6'.obj0 (enG_len _)) rfl ?_
                refine w_app1 (v1 := .agg (enGR (.all)).toArray) rfl (fun _ => rfl) hown6 (enG_size _) (enG_one _) (by omega) rfl rfl (fun v9 w9 u9 hown9 hg9 hbl9 hs9 hnn9 => ?_)
                repeat (first | (apply w_op; (apply p_assign); apply Eq.refl) | (apply w_nil) | (apply e_bk))
                refine e_lp (by repeat (first | exact Over.base | exact Over.refl | refine Over.put rfl ?_ | refine Over.cnP rfl ?_ | refine Over.zpP rfl ?_)) ?_
                refine ⟨⟨v9, gs ++ [.all], j + 1, k, rfl, by omega, by omega, by simp; omega, gs_next hinv hgo, ?_, below_own hg9 hbel6 (by have := (hbel6).size; omega) hown6 (Nat.le_refl _)⟩, ?_⟩
                · rw [List.length_append, List.flatMap_append]
                  simpa [Value.cells] using hown9
                · show p.size - (((j + 1 : Nat) : Int)).toNat < p.size - ((i : Int)).toNat
                  omega
              · rw [if_neg hij] at hb6
                have hgo : gsF (lsB p) (k + 1) i = (gsF (lsB p) k (j + 1)).map (G.some_ :: ·) := by rw [hgo0, if_neg hij]
                have hb6' : Blk w6 b7 105 (enGR .some_) := hb6
                repeat (first | (apply w_op; (first | (apply p_mvI; apply Eq.refl) | (apply p_move) | (apply p_eql; apply Eq.refl; apply Eq.refl)); apply Eq.refl) | (apply w_nil) | (apply c_seq) | (apply e_then) | (apply c_region) | (apply c_cond_f; apply Eq.refl) | (apply c_skip) | (apply c_exit) | (apply e_then_exit) | (apply e_bk_same) | (apply e_lp_exit))
                refine w_op (p_loadS rfl hb6'.obj0 (enG_len _)) rfl ?_
                refine w_app1 (v1 := .agg (enGR (.some_)).toArray) rfl (fun _ => rfl) hown6 (enG_size _) (enG_one _) (by omega) rfl rfl (fun v9 w9 u9 hown9 hg9 hbl9 hs9 hnn9 => ?_)
                repeat (first | (apply w_op; (apply p_assign); apply Eq.refl) | (apply w_nil) | (apply e_bk))
                refine e_lp (by repeat (first | exact Over.base | exact Over.refl | refine Over.put rfl ?_ | refine Over.cnP rfl ?_ | refine Over.zpP rfl ?_)) ?_
                refine ⟨⟨v9, gs ++ [.some_], j + 1, k, rfl, by omega, by omega, by simp; omega, gs_next hinv hgo, ?_, below_own hg9 hbel6 (by have := (hbel6).size; omega) hown6 (Nat.le_refl _)⟩, ?_⟩
                · rw [List.length_append, List.flatMap_append]
                  simpa [Value.cells] using hown9
                · show p.size - (((j + 1 : Nat) : Int)).toNat < p.size - ((i : Int)).toNat
                  omega
          · have g2' := of_decide_eq_false g2
            have h42' : (lsB p)[j + 1]? ≠ some 42 := by rw [List.getElem?_eq_none (by omega)]; simp
            have hsj : stars (lsB p) (lsB p).length i = j := by rw [hst, stars_stop h42']
            rw [hsj] at hgo0
            by_cases hij : i < j
            · rw [if_pos hij] at hb6
              have hgo : gsF (lsB p) (k + 1) i = (gsF (lsB p) k (j + 1)).map (G.all :: ·) := by rw [hgo0, if_pos hij]
              have hb6' : Blk w6 b7 105 (enGR .all) := hb6
              repeat (first | (apply w_op; (first | (apply p_mvI; apply Eq.refl) | (apply p_move) | (apply p_eql; apply Eq.refl; apply Eq.refl) | (apply p_pick_f; apply Eq.refl; apply Eq.refl)); apply Eq.refl) | (apply w_nil) | (apply c_seq) | (apply e_then) | (apply c_region) | (apply w_off; apply Eq.refl; apply Eq.refl) | (apply c_cond_f; apply Eq.refl) | (apply c_skip) | (apply c_exit) | (apply e_then_exit) | (apply e_bk_same) | (apply e_lp_exit))
              refine w_op (p_loadS rfl hb6'.obj0 (enG_len _)) rfl ?_
              refine w_app1 (v1 := .agg (enGR (.all)).toArray) rfl (fun _ => rfl) hown6 (enG_size _) (enG_one _) (by omega) rfl rfl (fun v9 w9 u9 hown9 hg9 hbl9 hs9 hnn9 => ?_)
              repeat (first | (apply w_op; (apply p_assign); apply Eq.refl) | (apply w_nil) | (apply e_bk))
              refine e_lp (by repeat (first | exact Over.base | exact Over.refl | refine Over.put rfl ?_ | refine Over.cnP rfl ?_ | refine Over.zpP rfl ?_)) ?_
              refine ⟨⟨v9, gs ++ [.all], j + 1, k, rfl, by omega, by omega, by simp; omega, gs_next hinv hgo, ?_, below_own hg9 hbel6 (by have := (hbel6).size; omega) hown6 (Nat.le_refl _)⟩, ?_⟩
              · rw [List.length_append, List.flatMap_append]
                simpa [Value.cells] using hown9
              · show p.size - (((j + 1 : Nat) : Int)).toNat < p.size - ((i : Int)).toNat
                omega
            · rw [if_neg hij] at hb6
              have hgo : gsF (lsB p) (k + 1) i = (gsF (lsB p) k (j + 1)).map (G.some_ :: ·) := by rw [hgo0, if_neg hij]
              have hb6' : Blk w6 b7 105 (enGR .some_) := hb6
              repeat (first | (apply w_op; (first | (apply p_mvI; apply Eq.refl) | (apply p_move) | (apply p_eql; apply Eq.refl; apply Eq.refl) | (apply p_pick_f; apply Eq.refl; apply Eq.refl)); apply Eq.refl) | (apply w_nil) | (apply c_seq) | (apply e_then) | (apply c_region) | (apply w_off; apply Eq.refl; apply Eq.refl) | (apply c_cond_f; apply Eq.refl) | (apply c_skip) | (apply c_exit) | (apply e_then_exit) | (apply e_bk_same) | (apply e_lp_exit))
              refine w_op (p_loadS rfl hb6'.obj0 (enG_len _)) rfl ?_
              refine w_app1 (v1 := .agg (enGR (.some_)).toArray) rfl (fun _ => rfl) hown6 (enG_size _) (enG_one _) (by omega) rfl rfl (fun v9 w9 u9 hown9 hg9 hbl9 hs9 hnn9 => ?_)
              repeat (first | (apply w_op; (apply p_assign); apply Eq.refl) | (apply w_nil) | (apply e_bk))
              refine e_lp (by repeat (first | exact Over.base | exact Over.refl | refine Over.put rfl ?_ | refine Over.cnP rfl ?_ | refine Over.zpP rfl ?_)) ?_
              refine ⟨⟨v9, gs ++ [.some_], j + 1, k, rfl, by omega, by omega, by simp; omega, gs_next hinv hgo, ?_, below_own hg9 hbel6 (by have := (hbel6).size; omega) hown6 (Nat.le_refl _)⟩, ?_⟩
              · rw [List.length_append, List.flatMap_append]
                simpa [Value.cells] using hown9
              · show p.size - (((j + 1 : Nat) : Int)).toNat < p.size - ((i : Int)).toNat
                omega
        · by_cases h91 : c = 91
          · subst h91
            repeat (first | (apply w_op; (first | (apply p_mvI; apply Eq.refl) | (apply p_mvS; apply Eq.refl) | (apply p_eql; apply Eq.refl; apply Eq.refl)); apply Eq.refl) | (apply w_nil) | (apply c_seq) | (apply e_then) | (apply c_region) | (apply c_cond_t; apply Eq.refl) | (apply c_cond_f; apply Eq.refl) | (apply c_skip))
            refine w_call cl90 (rclass_ok p (i + 1) _ (by omega) (by omega)) rfl ?_
            rintro v5 w5 ⟨⟨x, nx, rfl, hx⟩, hb5⟩
            have s5 := hb5.size
            have hbel5 := hbel4.trans (hb5.mono (by omega))
            have hb75 := hb4'.below hb5 hb7lt
            have hown5 := own_below hown4 hb5
            repeat (apply w_op; (first | (apply p_mvT; apply Eq.refl) | (apply p_extract; apply Eq.refl; apply Eq.refl)); apply Eq.refl)
            refine w_alloc rfl (fun b8 w6 hn6 => ?_)
            obtain ⟨z8, hb8, hl8⟩ := hn6.zblk Try.prog
            refine w_storeW rfl rfl (enG_one _) (enG_size _) hb8 hl8 (fun w7 hp7 hb87 => ?_)
            have e8 := hn6.hb
            have s6 := hn6.size
            have s7 := hp7.size
            have hown7 := own_grown hown5 (gNP hn6 hp7) (by cases v.ownBlock <;> simp)
            have hb77 := hb75.grown (gNP hn6 hp7) (by simp)
            have hbel7 : Below w.heap.size w w7 := hbel5.grown (gNP hn6 hp7) (by omega) (fun j hj => by cases hj)
            cases hcl : classF (lsB p) (i + 1) with
            | none =>
              have hgo := gs_cls_none (k := k) hc hcl
              have hnone : globs (lsB p) = none := by rw [globs, hinv, hgo]; rfl
              repeat (first | (apply w_op; (first | (apply p_mvB; apply Eq.refl) | (apply p_asI; apply Eq.refl) | (apply p_asB; apply Eq.refl) | (apply p_asL; apply Eq.refl) | (apply p_not; apply Eq.refl)); apply Eq.refl) | (apply w_nil) | (apply c_seq) | (apply e_then) | (apply c_region) | (apply c_cond_t; apply Eq.refl) | (apply c_ret) | (apply e_then_ret) | (apply e_bk_ret) | (apply e_lp_ret))
              refine r_ret2 Try.results87 rfl ⟨⟨.slice none 0 0, ?_, ?_⟩, hbel7⟩
              · show Value.tuple #[.slice none 0 0, .bool false] = _
                rw [show globs (lsB p) = none from hnone]; rfl
              · intro gs' e
                rw [show globs (lsB p) = none from hnone] at e
                cases e
            | some y =>
              obtain ⟨neg, set, m⟩ := y
              obtain ⟨rfl, rfl⟩ := hx neg set m hcl
              have hgo := gs_cls (k := k) hc hcl
              have hml := classF_lt hcl
              repeat (first | (apply w_op; (first | (apply p_mvB; apply Eq.refl) | (apply p_asI; apply Eq.refl) | (apply p_asB; apply Eq.refl) | (apply p_not; apply Eq.refl)); apply Eq.refl) | (apply w_nil) | (apply c_seq) | (apply e_then) | (apply c_region) | (apply c_cond_f; apply Eq.refl) | (apply c_skip))
              refine w_op (p_loadS rfl hb87.obj0 (enG_len _)) rfl ?_
              refine w_storeW rfl rfl (enG_one _) (enG_size _) hb77 (enG_len _) (fun w8 hp8 hb78 => ?_)
              have hb78' : Blk w8 b7 105 (enGR (.cls neg set)) := hb78
              have hown8 := own_put hown7 hp8 hne7
              have hbel8 : Below w.heap.size w w8 := hp8.below hbel7 (by omega) (by omega)
              have s8 := hp8.size
              repeat (first | (apply w_op; (first | (apply p_mvI; apply Eq.refl) | (apply p_move) | (apply p_asI; apply Eq.refl)); apply Eq.refl) | (apply w_nil) | (apply e_then) | (apply c_region))
              refine w_op (p_loadS rfl hb78'.obj0 (enG_len _)) rfl ?_
              refine w_app1 (v1 := .agg (enGR (.cls neg set)).toArray) rfl (fun _ => rfl) hown8 (enG_size _) (enG_one _) (by omega) rfl rfl (fun v9 w9 u9 hown9 hg9 hbl9 hs9 hnn9 => ?_)
              repeat (first | (apply w_op; (apply p_assign); apply Eq.refl) | (apply w_nil) | (apply e_bk))
              refine e_lp (by repeat (first | exact Over.base | exact Over.refl | refine Over.put rfl ?_ | refine Over.cnP rfl ?_ | refine Over.zpP rfl ?_)) ?_
              refine ⟨⟨v9, gs ++ [.cls neg set], m, k, rfl, by omega, by omega, by simp; omega, gs_next hinv hgo, ?_, below_own hg9 hbel8 (by have := (hbel8).size; omega) hown8 (Nat.le_refl _)⟩, ?_⟩
              · rw [List.length_append, List.flatMap_append]
                simpa [Value.cells] using hown9
              · show p.size - (((m : Nat) : Int)).toNat < p.size - ((i : Int)).toNat
                omega
          · have hgo := gs_lit (k := k) hc h42 h63 h91 h92
            have hno : ∀ {d : UInt8}, c ≠ d → ¬ ((c.toNat : Int) = (d.toNat : Int)) := fun hd e => hd (byte_is.1 e)
            refine c_cond rfl (fun q => absurd (of_decide_eq_true q) (hno h92)) (fun _ => ?_)
            repeat (first | (apply w_op; (first | (apply p_mvI; apply Eq.refl) | (apply p_eql; apply Eq.refl; apply Eq.refl)); apply Eq.refl) | (apply w_nil) | (apply c_seq) | (apply e_then) | (apply c_region) | (apply c_skip))
            refine c_cond rfl (fun q => absurd (of_decide_eq_true q) (hno h63)) (fun _ => ?_)
            repeat (first | (apply w_op; (first | (apply p_mvI; apply Eq.refl) | (apply p_eql; apply Eq.refl; apply Eq.refl)); apply Eq.refl) | (apply w_nil) | (apply c_seq) | (apply e_then) | (apply c_region) | (apply c_skip))
            refine c_cond rfl (fun q => absurd (of_decide_eq_true q) (hno h42)) (fun _ => ?_)
            repeat (first | (apply w_op; (first | (apply p_mvI; apply Eq.refl) | (apply p_eql; apply Eq.refl; apply Eq.refl)); apply Eq.refl) | (apply w_nil) | (apply c_seq) | (apply e_then) | (apply c_region) | (apply c_skip))
            refine c_cond rfl (fun q => absurd (of_decide_eq_true q) (hno h91)) (fun _ => ?_)
            have hb5' : Blk w4 b7 105 (enGR (.lit c)) := hb4'
            repeat (first | (apply w_op; (apply p_move); apply Eq.refl) | (apply e_then) | (apply c_region) | (apply c_skip))
            refine w_op (p_loadS rfl hb5'.obj0 (enG_len _)) rfl ?_
            refine w_app1 (v1 := .agg (enGR (.lit c)).toArray) rfl (fun _ => rfl) hown4 (enG_size _) (enG_one _) (by omega) rfl rfl (fun v9 w9 u9 hown9 hg9 hbl9 hs9 hnn9 => ?_)
            repeat (first | (apply w_op; (apply p_assign); apply Eq.refl) | (apply w_nil) | (apply e_bk))
            refine e_lp (by repeat (first | exact Over.base | exact Over.refl | refine Over.put rfl ?_ | refine Over.cnP rfl ?_ | refine Over.zpP rfl ?_)) ?_
            refine ⟨⟨v9, gs ++ [.lit c], i + 1, k, rfl, by omega, by omega, by simp; omega, gs_next hinv hgo, ?_, below_own hg9 hbel4 (by have := (hbel4).size; omega) hown4 (Nat.le_refl _)⟩, ?_⟩
            · rw [List.length_append, List.flatMap_append]
              simpa [Value.cells] using hown9
            · show p.size - (((i + 1 : Nat) : Int)).toNat < p.size - ((i : Int)).toNat
              omega
  · have hge := of_decide_eq_false h1
    obtain rfl : i = p.size := by omega
    have hg0 := gs_end (k := k) (i := p.size) (l := lsB p) (by rw [List.getElem?_eq_none (by omega)])
    have hsome : globs (lsB p) = some gs := by rw [globs, hinv, hg0]; simp
    repeat (first | (apply w_op; (first | (apply p_move) | (apply p_asB; apply Eq.refl) | (apply p_assign)); apply Eq.refl) | (apply w_nil) | (apply c_seq) | (apply e_then) | (apply c_region) | (apply c_ret) | (apply c_exit) | (apply e_then_exit) | (apply e_bk_same) | (apply e_lp_exit))
    refine r_ret2 Try.results87 rfl ⟨⟨v, ?_, ?_⟩, hbel⟩
    · show Value.tuple #[v, .bool true] = _
      rw [hsome]; rfl
    · intro gs' e
      rw [hsome] at e
      injection e with e
      subst e
      exact hown
end Go.Proofs.Ytjcbnohnilffoaa
