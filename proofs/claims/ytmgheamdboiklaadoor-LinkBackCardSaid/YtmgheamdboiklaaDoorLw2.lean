/- THE WALKS of package link: links followed. -/
import Derived.Test.YtmgheamdboiklaaDoorLw
import Derived.Test.YtmgheamdboiklaaDoorTw5
import Derived.Test.YtmgheamdboiklaaDoorScr
set_option linter.unusedVariables false
set_option linter.unusedSimpArgs false
namespace Go.Proofs.YtmgheamdboiklaaDoor
open Go.RowKit

/-- v reads as the row, and lies not in block b -/
def RowV (w : World) (b : Nat) (v : Value) (row : List ByteArray) : Prop := Strs w w.heap.size v row ∧ ((∃ ad c, v = .slice (some ad) row.length c ∧ ad.block ≠ b) ∨ (v = .slice none 0 0 ∧ row = []))
structure WkS (w : World) (b bt : Nat) (k : Wk) : Prop where
  blk : ∃ v, Blk w b 57 [.pointer (some ⟨bt, 0, none⟩), .string k.at_, v, .int .i64 k.hops] ∧ RowV w b v k.row
theorem Sl.celsS {w : World} {v : Value} {B : Nat} {l : List ByteArray} {ad : Addr} {m c : Nat} (h : Strs w B v l) (hv : v = .slice (some ad) m c) : Cel w ad (l.map Value.string) := by
  refine Cel.mk fun j u hj => ?_
  rw [List.getElem?_map] at hj
  obtain ⟨b, hb, rfl⟩ := Option.map_eq_some_iff.1 hj
  obtain ⟨hlt, rfl⟩ := List.getElem?_eq_some_iff.1 hb
  obtain ⟨ad', e, _, hc⟩ := h.at_ hv hlt
  injection e with e
  subst e
  have := hc.cell (j := 0) rfl
  rwa [addr_add_zero, Nat.mul_one] at this
section
variable {w w' : World} {b bt : Nat} {v : Value} {row : List ByteArray}
theorem RowV.fr (h : RowV w b v row) (hf : Fr w w' (fun i => i = b)) : RowV w' b v row := by
  obtain ⟨h1, h2⟩ := h
  refine ⟨?_, h2⟩
  obtain ⟨A, c, hv, hc, hA⟩ := h1.out
  refine ⟨A, c, hv, hc, fun hl => ?_⟩
  obtain ⟨ad, e, hb, hi⟩ := hA hl
  refine ⟨ad, e, Nat.lt_of_lt_of_le hb hf.size, fun i a hia => ?_⟩
  have hne : ad.block ≠ b := by
    rcases h2 with ⟨ad', c', q, hq⟩ | ⟨q, q2⟩
    · rw [hv, e] at q
      injection q with q
      injection q with q
      exact q ▸ hq
    · rw [q2] at hl; simp at hl
  have hc := hi i a hia
  exact hf.cel hc (Nat.zero_lt_one) (by rw [addr_add_block]; exact hne)
theorem RowV.below (h : RowV w b v row) (hb : Below w.heap.size w w') : RowV w' b v row := h.fr (Fr.of_below hb)
theorem RowV.own {base : Nat} (h : w.ownsRow base 9 1 v row.length (row.flatMap enS)) (hb : b < base) : RowV w b v row := by
  refine ⟨Sl.of_own rfl (fun _ => rfl) h, ?_⟩
  rcases h.2 with ⟨e, h0⟩ | ⟨g, cap, cur, e, hg, _⟩
  · exact .inr ⟨e, List.eq_nil_of_length_eq_zero h0⟩
  · exact .inl ⟨⟨g, 0, none⟩, cap, e, by show g ≠ b; omega⟩
theorem WkS.fr {k : Wk} (h : WkS w b bt k) (hf : Fr w w' (fun i => False)) : WkS w' b bt k := by
  obtain ⟨v, h1, h2⟩ := h.blk
  exact ⟨v, hf.blk h1 (fun q => q), h2.fr (hf.mono fun i q => q.elim)⟩
theorem WkS.below {k : Wk} (h : WkS w b bt k) (hb : Below w.heap.size w w') : WkS w' b bt k := h.fr (Fr.of_below hb)
end
theorem RowV.cut {w : World} {b : Nat} {ad : Addr} {n c : Nat} {x : ByteArray} {r : List ByteArray} (h : RowV w b (.slice (some ad) n c) (x :: r)) : RowV w b (.slice (cutA (some ad) 1 c 1) (n - 1) (c - 1)) r := by
  have hc := h.1.cut rfl (k := 1) (by simp)
  refine ⟨hc, .inl ?_⟩
  have hn : n - 1 = r.length := by
    have := h.1.len_eq rfl
    simp at this; omega
  have hb : ad.block ≠ b := by
    rcases h.2 with ⟨ad', c', q, hq⟩ | ⟨_, q⟩
    · injection q with q
      injection q with q
      exact q ▸ hq
    · cases q
  unfold cutA
  split
  · exact ⟨ad, c - 1, by rw [hn], hb⟩
  · exact ⟨ad.add (1 * 1), c - 1, by rw [hn]; rfl, by rw [addr_add_block]; exact hb⟩
theorem Fr.of_grown {w w' : World} {S : Nat → Prop} {row : Option Nat} (h : w.grownBy w' row) (hr : ∀ g, row = some g → S g) : Fr w w' S :=
  ⟨h.os, h.tape, h.output, h.size, fun i hi hn => h.block i hi (fun e => hn (hr i e.symm))⟩
def upP (k : Wk) : Int × Wk := if k.at_ = noB then (16, k) else (0, { k with at_ := parent k.at_ })
def enterP (F : Ft) (k : Wk) (x : ByteArray) : Int × Wk :=
  if (F.stat (belowP k.at_ x)).2 ≠ 0 then (10, k)
  else if (F.stat (belowP k.at_ x)).1.kind ≠ 3 then (0, { k with at_ := belowP k.at_ x })
  else if k.hops = 16 then (15, k)
  else (0, ⟨if slashed (F.stat (belowP k.at_ x)).1.target = true then noB else k.at_, split (F.stat (belowP k.at_ x)).1.target ++ k.row, k.hops + 1⟩)
theorem hasP_slash (t : ByteArray) : hasP t slB = slashed t := by
  unfold hasP slashed
  have hsz : (slB : ByteArray).size = 1 := rfl
  rw [hsz, Bool.eq_iff_iff]
  simp only [Bool.and_eq_true, decide_eq_true_eq]
  constructor
  · rintro ⟨h1, h2⟩
    have h3 := congrArg lsB h2
    rw [ls_extract] at h3
    have h4 : ((lsB t).drop 0).take (1 - 0) = [47] := h3
    rw [List.drop_zero] at h4
    cases hl : lsB t with
    | nil => rw [hl] at h4; simp at h4
    | cons a r => rw [hl] at h4; simp at h4; rw [h4]; rfl
  · intro h
    cases hl : lsB t with
    | nil => rw [hl] at h; simp at h
    | cons a r =>
      rw [hl] at h
      simp at h
      subst h
      refine ⟨by have := ls_len t; rw [hl] at this; simp at this; omega, ls_inj ?_⟩
      rw [ls_extract, hl]
      rfl
section
variable {w : World} {S : Nat → Prop} {bt b : Nat} {F : Ft} {bk km : Int → Nat} {k : Wk}
theorem up_ok (hk : WkOk F k) (h : WkS w b bt k) (x : ByteArray) : Ret Tryd.prog 52 [.pointer (some ⟨b, 0, none⟩), .string x] w fun v w' => v = .int .i64 (upP k).1 ∧ WkS w' b bt (upP k).2 ∧ Fr w w' (fun i => i = b) := by
  obtain ⟨v, hb, hrow⟩ := h.blk
  have hbc := hb.obj0
  have hs := right_size' hk.at_
  refine calls_in Tryd.func52 rfl Tryd.ntmps52 rfl ?_
  repeat (first | (apply w_op; (first | (apply p_mvP; apply Eq.refl) | (apply p_asI; apply Eq.refl) | (apply p_nilCheck; apply Eq.refl) | (apply p_fieldAddr; apply Eq.refl) | (apply p_seql; apply Eq.refl; apply Eq.refl) | (apply p_loadF; apply Eq.refl; (first | assumption | (apply Cel.bel; assumption; assumption; apply Nat.zero_lt_succ)); (first | apply Eq.refl | assumption))); apply Eq.refl) | (apply w_nil) | (apply c_seq) | (apply e_then) | (apply c_region))
  first | refine c_ifd rfl (fun g => ?_) (fun g => ?_) | refine c_ifnd rfl (fun g => ?_) (fun g => ?_) | refine c_ifn rfl (fun g => ?_) (fun g => ?_) | refine c_cond rfl (fun g => ?_) (fun g => ?_)
  · have e : upP k = (16, k) := by rw [upP, if_pos g]
    repeat (first | (apply w_op; (apply p_asI; apply Eq.refl); apply Eq.refl) | (apply w_nil) | (apply c_seq) | (apply e_then) | (apply c_region) | (apply c_ret) | (apply e_then_ret))
    exact r_ret1 Tryd.results52 rfl (by rw [e]; exact ⟨rfl, h, Fr.refl⟩)
  · have e : upP k = (0, { k with at_ := parent k.at_ }) := by rw [upP, if_neg g]
    repeat (first | (apply w_op; (first | (apply p_mvP; apply Eq.refl) | (apply p_nilCheck; apply Eq.refl) | (apply p_fieldAddr; apply Eq.refl) | (apply p_loadF; apply Eq.refl; (first | assumption | (apply Cel.bel; assumption; assumption; apply Nat.zero_lt_succ)); (first | apply Eq.refl | assumption))); apply Eq.refl) | (apply c_seq) | (apply e_then) | (apply c_region) | (apply c_skip))
    refine w_callS cl17 (parent_ok _ _ hs) rfl ?_
    repeat (apply w_op; (first | (apply p_nilCheck; apply Eq.refl) | (apply p_fieldAddr; apply Eq.refl)); apply Eq.refl)
    refine w_store (v := .string (parent k.at_)) (b := b) (j := 1) (cs := _) (e := 57) ⟨_, _, inferInstance⟩ rfl (by simp [addr_add_plain]) rfl rfl hb rfl (fun w1 hp1 hb1 => ?_)
    have hf : Fr w w1 (fun i => i = b) := Fr.put hp1 rfl
    repeat (first | (apply w_op; (apply p_asI; apply Eq.refl); apply Eq.refl) | (apply w_nil) | (apply c_seq) | (apply e_then) | (apply c_region) | (apply c_ret))
    exact r_ret1 Tryd.results52 rfl (by rw [e]; exact ⟨rfl, ⟨v, hb1, hrow.fr hf⟩, hf⟩)
theorem below_size {at_ x : ByteArray} (h1 : at_.size ≤ 200) (h2 : x.size ≤ 1000) : (belowP at_ x).size ≤ 1099511627775 := by
  unfold belowP
  split
  · omega
  · have e : (at_ ++ ({ data := #[47] } : ByteArray) ++ x).size = at_.size + 1 + x.size := by
      rw [← ls_len, ls_append, ls_append, List.length_append, List.length_append, ls_len, ls_len]; rfl
    omega
set_option maxRecDepth 100000 in
theorem enter_ok (hP : PT w S bt F bk km) (hF : Wf F) (hk : WkOk F k) (h : WkS w b bt k) (hbS : ¬ S b) (hrow0 : k.row.length ≤ 1000000) (x : ByteArray) (hx : x.size ≤ 1000) : Ret Tryd.prog 51 [.pointer (some ⟨b, 0, none⟩), .string x] w
    fun v w' => v = .int .i64 (enterP F k x).1 ∧ WkS w' b bt (enterP F k x).2 ∧ Fr w w' (fun i => i = b) := by
  obtain ⟨v, hb, hrow⟩ := h.blk
  have hbc := hb.obj0
  have hs1 := right_size hk.at_
  have hsz := below_size hs1 hx
  have hblt := hb.lt
  refine calls_in Tryd.func51 rfl Tryd.ntmps51 rfl ?_
  repeat (first | (apply w_op; (first | (apply p_mvS; apply Eq.refl) | (apply p_mvP; apply Eq.refl) | (apply p_asI; apply Eq.refl) | (apply p_asS; apply Eq.refl) | (apply p_nilCheck; apply Eq.refl) | (apply p_fieldAddr; apply Eq.refl) | (apply p_sneq; apply Eq.refl; apply Eq.refl) | (apply p_loadF; apply Eq.refl; (first | assumption | (apply Cel.bel; assumption; assumption; apply Nat.zero_lt_succ)); (first | apply Eq.refl | assumption))); apply Eq.refl) | (apply w_nil) | (apply c_seq) | (apply e_then) | (apply c_region))
  refine c_cut1 [5] [14, 15, 16, 17, 18, 19, 20] (fun vs w1 => w1 = w ∧ vs = [.string (belowP k.at_ x)]) ?_ ?_
  · first | refine c_ifd rfl (fun g => ?_) (fun g => ?_) | refine c_ifnd rfl (fun g => ?_) (fun g => ?_) | refine c_ifn rfl (fun g => ?_) (fun g => ?_) | refine c_cond rfl (fun g => ?_) (fun g => ?_)
    · have e : belowP k.at_ x = k.at_ ++ { data := #[47] } ++ x := by rw [belowP, if_neg g]
      have e1 : (k.at_ ++ ({ data := #[47] } : ByteArray)).size = k.at_.size + 1 := by rw [← ls_len, ls_append, List.length_append, ls_len]; rfl
      repeat (first | (apply w_op; (first | (apply p_mvP; apply Eq.refl) | (apply p_nilCheck; apply Eq.refl) | (apply p_fieldAddr; apply Eq.refl) | (apply p_loadF; apply Eq.refl; (first | assumption | (apply Cel.bel; assumption; assumption; apply Nat.zero_lt_succ)); (first | apply Eq.refl | assumption))); apply Eq.refl) | (apply c_region))
      refine w_op (p_sadd (a := k.at_) (b := { data := #[47] }) rfl rfl (by show k.at_.size + 1 ≤ _; omega)) rfl ?_
      repeat (apply w_op; (apply p_mvS; apply Eq.refl); apply Eq.refl)
      refine w_op (p_sadd (a := k.at_ ++ { data := #[47] }) (b := x) rfl rfl (by omega)) rfl ?_
      repeat (first | (apply w_op; (apply p_asS; apply Eq.refl); apply Eq.refl) | (apply w_nil))
      refine e_ct (by repeat (first | exact Over.base | exact Over.refl | refine Over.put rfl ?_ | refine Over.cnP rfl ?_ | refine Over.zpP rfl ?_)) ?_
      exact ⟨rfl, by rw [e]; rfl⟩
    · have e : belowP k.at_ x = x := by rw [belowP, if_pos g]
      repeat (apply c_skip)
      refine e_ct (by repeat (first | exact Over.base | exact Over.refl | refine Over.put rfl ?_ | refine Over.cnP rfl ?_ | refine Over.zpP rfl ?_)) ?_
      exact ⟨rfl, by rw [e]; rfl⟩
  · rintro _ u1 w1 ⟨rfl, rfl⟩
    repeat (first | (apply w_op; (first | (apply p_mvS; apply Eq.refl) | (apply p_mvP; apply Eq.refl) | (apply p_nilCheck; apply Eq.refl) | (apply p_fieldAddr; apply Eq.refl) | (apply p_loadF; apply Eq.refl; (first | assumption | (apply Cel.bel; assumption; assumption; apply Nat.zero_lt_succ)); (first | apply Eq.refl | assumption))); apply Eq.refl) | (apply c_seq) | (apply c_region))
    refine w_callB cl18 (stat_ok hP hF _ hsz) rfl (fun w2 hb2 => ?_)
    have hbc2 := hbc.below hb2 hblt
    have hblk2 := hb.below hb2 hblt
    have hrow2 := hrow.below hb2
    obtain ⟨st, hst⟩ : ∃ st, (F.stat (belowP k.at_ x)).1 = st := ⟨_, rfl⟩
    obtain ⟨er, her⟩ : ∃ er, (F.stat (belowP k.at_ x)).2 = er := ⟨_, rfl⟩
    have z2 := hb2.size
    clear hbc
    repeat (apply w_op; (first | (apply p_mvT; apply Eq.refl) | (apply p_extract; apply Eq.refl; apply Eq.refl)); apply Eq.refl)
    refine w_alloc rfl (fun b6 w3 hn3 => ?_)
    obtain ⟨cs3, hb3, hl3⟩ := hn3.zblk Tryd.prog
    have e3 := hn3.hb
    have s3 := hn3.size
    refine w_storeW rfl rfl rfl rfl hb3 hl3 (fun w4 hp4 hb4 => ?_)
    have hbel4 := hp4.below (hn3.below hb2 z2) (by omega) (by omega)
    have hbel24 : Below w2.heap.size w2 w4 := hp4.below (hn3.below (Below.refl _ _) (Nat.le_refl _)) (by omega) (by omega)
    have s4 := hp4.size
    replace hbc2 := hbc2.below hbel24 (by show b < _; omega)
    have hblk4 := hblk2.below hbel24 (by omega)
    have hrow4 := hrow2.below hbel24
    have hc4 := hb4.obj0
    have hb6 : b ≠ b6 := by omega
    have hk4 : WkS w4 b bt k := ⟨v, hblk4, hrow4⟩
    clear hb3 hl3 hn3 hp4
    repeat (first | (apply w_op; (first | (apply p_mvI; apply Eq.refl) | (apply p_asI; apply Eq.refl) | (apply p_asB; apply Eq.refl) | (apply p_neq; apply Eq.refl; apply Eq.refl)); apply Eq.refl) | (apply w_nil) | (apply c_seq) | (apply e_then) | (apply c_region) | (apply c_block))
    first | refine c_ifd rfl (fun g => ?_) (fun g => ?_) | refine c_ifnd rfl (fun g => ?_) (fun g => ?_) | refine c_ifn rfl (fun g => ?_) (fun g => ?_) | refine c_cond rfl (fun g => ?_) (fun g => ?_)
    · have e : enterP F k x = (10, k) := by rw [enterP, if_pos g]
      repeat (first | (apply w_op; (apply p_asI; apply Eq.refl); apply Eq.refl) | (apply w_nil) | (apply c_seq) | (apply e_then) | (apply c_region) | (apply c_ret) | (apply e_then_ret) | (apply e_bk_ret))
      exact r_ret1 Tryd.results51 rfl (by rw [e]; exact ⟨rfl, hk4, Fr.of_below hbel4⟩)
    · have h0 : ¬ (F.stat (belowP k.at_ x)).2 ≠ 0 := by simp [g]
      repeat (first | (apply w_op; (first | (apply p_asB; apply Eq.refl) | (apply p_fieldAddr; apply Eq.refl) | (apply p_neq; apply Eq.refl; apply Eq.refl) | (apply p_loadF; apply Eq.refl; (first | assumption | (apply Cel.bel; assumption; assumption; apply Nat.zero_lt_succ)); (first | apply Eq.refl | assumption))); apply Eq.refl) | (apply w_nil) | (apply c_seq) | (apply e_then) | (apply c_region))
      first | refine c_ifd rfl (fun g2 => ?_) (fun g2 => ?_) | refine c_ifnd rfl (fun g2 => ?_) (fun g2 => ?_) | refine c_ifn rfl (fun g2 => ?_) (fun g2 => ?_) | refine c_cond rfl (fun g2 => ?_) (fun g2 => ?_)
      · have e : enterP F k x = (0, { k with at_ := belowP k.at_ x }) := by rw [enterP, if_neg h0, if_pos g2]
        repeat (first | (apply w_op; (first | (apply p_mvS; apply Eq.refl) | (apply p_mvP; apply Eq.refl) | (apply p_nilCheck; apply Eq.refl) | (apply p_fieldAddr; apply Eq.refl)); apply Eq.refl) | (apply c_seq) | (apply c_region))
        refine w_store (v := .string (belowP k.at_ x)) (b := b) (j := 1) (cs := _) (e := 57) ⟨_, _, inferInstance⟩ rfl (by simp [addr_add_plain]) rfl rfl hblk4 rfl (fun w5 hp5 hb5 => ?_)
        have hf : Fr w4 w5 (fun i => i = b) := Fr.put hp5 rfl
        repeat (first | (apply w_op; (apply p_asI; apply Eq.refl); apply Eq.refl) | (apply w_nil) | (apply c_seq) | (apply e_then) | (apply c_region) | (apply c_ret) | (apply e_then_ret) | (apply e_bk_ret))
        exact r_ret1 Tryd.results51 rfl (by rw [e]; exact ⟨rfl, ⟨v, hb5, hrow4.fr hf⟩, (Fr.of_below hbel4).trans hf (fun i hi => .inl hi)⟩)
      · have h1 : ¬ (F.stat (belowP k.at_ x)).1.kind ≠ 3 := by simp [g2]
        repeat (first | (apply w_op; (first | (apply p_mvP; apply Eq.refl) | (apply p_asB; apply Eq.refl) | (apply p_nilCheck; apply Eq.refl) | (apply p_fieldAddr; apply Eq.refl) | (apply p_eql; apply Eq.refl; apply Eq.refl) | (apply p_loadF; apply Eq.refl; (first | assumption | (apply Cel.bel; assumption; assumption; apply Nat.zero_lt_succ)); (first | apply Eq.refl | assumption))); apply Eq.refl) | (apply w_nil) | (apply c_seq) | (apply e_then) | (apply c_region))
        first | refine c_ifd rfl (fun g3 => ?_) (fun g3 => ?_) | refine c_ifnd rfl (fun g3 => ?_) (fun g3 => ?_) | refine c_ifn rfl (fun g3 => ?_) (fun g3 => ?_) | refine c_cond rfl (fun g3 => ?_) (fun g3 => ?_)
        · have e : enterP F k x = (15, k) := by rw [enterP, if_neg h0, if_neg h1, if_pos g3]
          repeat (first | (apply w_op; (apply p_asI; apply Eq.refl); apply Eq.refl) | (apply w_nil) | (apply c_seq) | (apply e_then) | (apply c_region) | (apply c_ret) | (apply e_then_ret) | (apply e_bk_ret))
          exact r_ret1 Tryd.results51 rfl (by rw [e]; exact ⟨rfl, hk4, Fr.of_below hbel4⟩)
        · obtain ⟨t, t1, t2, t3⟩ := stat_ok_some g
          have htg : (F.stat (belowP k.at_ x)).1.target = t.target := by rw [t2]; rfl
          have hts : t.target.size ≤ 200 := (hF.tgt _ (atL_mem t1)).1
          have hk3 : t.kind = 3 := by
            have : (F.stat (belowP k.at_ x)).1.kind = t.kind := by rw [t2]; rfl
            rw [← this]; exact g2
          have e : enterP F k x = (0, ⟨if slashed t.target = true then noB else k.at_, split t.target ++ k.row, k.hops + 1⟩) := by rw [enterP, if_neg h0, if_neg h1, if_neg g3, htg]
          have hh0 := hk.h0
          have hh1 := hk.h1
          have hsl := split_len t.target (m := 201) (by omega)
          rw [show ((F.stat (belowP k.at_ x)).1) = tellT F.L (belowP k.at_ x) t by rw [t2]] at hc4
          repeat (first | (apply w_op; (first | (apply p_mvP; apply Eq.refl) | (apply p_nilCheck; apply Eq.refl) | (apply p_fieldAddr; apply Eq.refl) | (apply p_add64; apply Eq.refl; apply Eq.refl; omega) | (apply p_loadF; apply Eq.refl; (first | assumption | (apply Cel.bel; assumption; assumption; apply Nat.zero_lt_succ)); (first | apply Eq.refl | assumption))); apply Eq.refl) | (apply c_seq) | (apply e_then) | (apply c_region) | (apply c_skip) | (apply e_bk))
          refine w_store (v := .int .i64 (k.hops + 1)) (b := b) (j := 3) (cs := _) (e := 57) ⟨_, _, inferInstance⟩ rfl (by simp [addr_add_plain]) rfl rfl hblk4 rfl (fun w5 hp5 hb5 => ?_)
          have hf5 : Fr w4 w5 (fun i => i = b) := Fr.put hp5 rfl
          have hc5 := hf5.cel hc4 (Nat.zero_lt_succ _) (fun q => hb6 q.symm)
          have hrow5 := hrow4.fr hf5
          have hbc5 := hb5.obj0
          have s5 := hp5.size
          clear hbc2 hc4 hblk4
          repeat (first | (apply w_nil) | (apply c_seq) | (apply e_then))
          refine c_mix (fun y => Cel y ⟨b6, 0, none⟩ (enSt (tellT F.L (belowP k.at_ x) t)) ∧ Cel y ⟨b, 0, none⟩ [.pointer (some ⟨bt, 0, none⟩), .string k.at_, v, .int .i64 (k.hops + 1)]) [0,1,2,4,5,6,7] [3,8,9,10,11] mixed (by kernel_rfl) ⟨hc5.drew, hbc5.drew⟩ ?_
          repeat (apply s_op; intro _ hC; (first | (apply p_mvP; apply Eq.refl) | (apply p_fieldAddr; apply Eq.refl)); apply Eq.refl)
          refine s_op (fun y hS => p_loadF (j := 9) (v := .string t.target) rfl hS.1 rfl) rfl ?_
          repeat (apply s_op; intro _ hC; (first | (apply p_mvP; apply Eq.refl) | (apply p_nilCheck; apply Eq.refl) | (apply p_fieldAddr; apply Eq.refl)); apply Eq.refl)
          refine s_op (fun y hS => p_loadF (j := 2) (v := v) rfl hS.2 rfl) rfl ?_
          skip
          refine s_nil (t_step ?_)
          refine w_call cl29 (split_ok t.target _ (by omega)) rfl ?_
          rintro v6 w6 ⟨hown6, hb6'⟩
          have z6 := hb6'.size
          have hz5 : w5.drew.heap.size = w5.heap.size := rfl
          have hc6 := hc5.drew.below hb6' (by show b6 < _; have := hb4.lt; omega)
          have hbc6 := hbc5.drew.below hb6' (by show b < _; omega)
          have hblk6 := hb5.drew.below hb6' (by omega)
          have hrow6 : RowV w6 b v k.row := (hrow5.fr (Fr.refl.drew)).below hb6'
          refine w_nil (e_ts ⟨hc6, hbc6⟩ (t_step ?_))
          have hmap : (split t.target).flatMap enS = (split t.target).map Value.string := (enS_map _).symm
          rw [hmap] at hown6
          have hbl := hb4.lt
          have hfr5 : Fr w1 w5.drew (fun i => i = b) := ((Fr.of_below hbel4).trans hf5 (fun i hi => .inl hi)).drew
          have fin : ∀ (v7 : Value) (w7 : World), w7.ownsRow w5.heap.size 9 1 v7 (split t.target ++ k.row).length ((split t.target ++ k.row).map Value.string) → w6.grownBy w7 v6.ownBlock → RowV w7 b v7 (split t.target ++ k.row) ∧ (Cel w7 ⟨b6, 0, none⟩ (enSt (tellT F.L (belowP k.at_ x) t)) ∧ Cel w7 ⟨b, 0, none⟩ [.pointer (some ⟨bt, 0, none⟩), .string k.at_, v, .int .i64 (k.hops + 1)]) ∧ Blk w7 b 57 [.pointer (some ⟨bt, 0, none⟩), .string k.at_, v, .int .i64 (k.hops + 1)] ∧ Fr w1 w7 (fun i => i = b) := fun v7 w7 ho hg => by
            have hne : ∀ i, i < w5.heap.size → some i ≠ v6.ownBlock := fun i hi e => by have := (hown6.lt i e.symm).1; omega
            refine ⟨RowV.own (base := w5.heap.size) (by rw [← enS_map]; exact ho) (by omega), ⟨hc6.grown hg (hne _ (by show b6 < _; omega)), hbc6.grown hg (hne _ (by show b < _; omega))⟩, hblk6.grown hg (hne _ (by omega)), ?_⟩
            refine (hfr5.trans (Fr.of_below (S := fun _ => False) hb6') (fun i hi => hi.elim)).trans (Fr.of_grown (S := fun i => w5.heap.size ≤ i) hg (fun g hg' => (hown6.lt g hg').1)) (fun i hi => .inr ?_)
            have := hbel4.size; omega
          rcases hrow6.2 with ⟨ad, c, rfl, hne⟩ | ⟨rfl, hnil⟩
          · refine w_append (v := v6) (m := k.row.length) (c := c) (ad := ad) (news := k.row.map Value.string) (by omega) rfl hown6 rfl (by simp) (hrow6.1.celsS rfl) (by simp [Value.oneCell']) (by omega) (by omega) (by omega) rfl (fun v7 w7 ho hg _ _ => ?_)
            obtain ⟨f1, f2, f3, f4⟩ := fin v7 w7 (by rw [List.length_append, List.map_append]; exact ho) hg
            have h71 := own_one ho
            refine w_nil (e_ts f2 (t_step ?_))
            refine w_op (p_nilCheck rfl) rfl (w_nil (e_ts f2 (t_step ?_)))
            refine w_op (p_fieldAddr rfl) rfl (w_nil (e_ts f2 (t_step ?_)))
            refine w_store (b := b) (j := 2) (cs := _) (e := 57) ⟨_, _, inferInstance⟩ rfl (by simp [addr_add_plain]) rfl h71 f3 rfl (fun w8 hp8 hb8 => w_nil (e_ts0 ?_))
            have hf8 : Fr _ w8 (fun i => i = b) := Fr.put hp8 rfl
            have hc8 := hf8.cel f2.1 (Nat.zero_lt_succ _) (fun q => hb6 q.symm)
            have hrow8 := f1.fr hf8
            have hfr8 := f4.trans hf8 (fun i hi => .inl hi)
            repeat (first | (apply w_op; (first | (apply p_fieldAddr; apply Eq.refl) | (apply p_loadF; apply Eq.refl; (first | assumption | (apply Cel.bel; assumption; assumption; apply Nat.zero_lt_succ)); (first | apply Eq.refl | assumption))); apply Eq.refl) | (apply c_seq) | (apply e_then) | (apply c_region))
            refine w_callS cl65 (hasPrefix_ok _ _ _) rfl ?_
            rw [hasP_slash]
            repeat (first | (apply w_nil) | (apply e_then))
            first | refine c_ifd rfl (fun gs => ?_) (fun gs => ?_) | refine c_ifnd rfl (fun gs => ?_) (fun gs => ?_) | refine c_ifn rfl (fun gs => ?_) (fun gs => ?_) | refine c_cond rfl (fun gs => ?_) (fun gs => ?_)
            · have gs' : slashed t.target = true := decide_eq_true gs
              repeat (first | (apply w_op; (first | (apply p_mvP; apply Eq.refl) | (apply p_nilCheck; apply Eq.refl) | (apply p_fieldAddr; apply Eq.refl)); apply Eq.refl) | (apply c_region))
              refine w_store (v := .string noB) (b := b) (j := 1) (cs := _) (e := 57) ⟨_, _, inferInstance⟩ rfl (by simp [addr_add_plain]) rfl rfl hb8 rfl (fun w9 hp9 hb9 => ?_)
              have hf9 : Fr w8 w9 (fun i => i = b) := Fr.put hp9 rfl
              repeat (first | (apply w_op; (apply p_asI; apply Eq.refl); apply Eq.refl) | (apply w_nil) | (apply c_seq) | (apply e_then) | (apply c_region) | (apply c_ret))
              exact r_ret1 Tryd.results51 rfl (by rw [e, if_pos gs']; exact ⟨rfl, ⟨_, hb9, hrow8.fr hf9⟩, hfr8.trans hf9 (fun i hi => .inl hi)⟩)
            · have gs' : ¬ slashed t.target = true := fun q => gs (of_decide_eq_true q)
              repeat (first | (apply w_op; (apply p_asI; apply Eq.refl); apply Eq.refl) | (apply w_nil) | (apply c_seq) | (apply e_then) | (apply c_region) | (apply c_skip) | (apply c_ret))
              exact r_ret1 Tryd.results51 rfl (by rw [e, if_neg gs']; exact ⟨rfl, ⟨_, hb8, hrow8⟩, hfr8⟩)
          · refine w_appendN (v := v6) rfl hown6 rfl rfl ?_
            obtain ⟨f1, f2, f3, f4⟩ := fin v6 w6 (by rw [hnil, List.append_nil]; exact hown6) ⟨rfl, rfl, rfl, Nat.le_refl _, fun _ _ _ => rfl⟩
            have h71 := own_one hown6
            refine w_nil (e_ts f2 (t_step ?_))
            refine w_op (p_nilCheck rfl) rfl (w_nil (e_ts f2 (t_step ?_)))
            refine w_op (p_fieldAddr rfl) rfl (w_nil (e_ts f2 (t_step ?_)))
            refine w_store (b := b) (j := 2) (cs := _) (e := 57) ⟨_, _, inferInstance⟩ rfl (by simp [addr_add_plain]) rfl h71 f3 rfl (fun w8 hp8 hb8 => w_nil (e_ts0 ?_))
            have hf8 : Fr _ w8 (fun i => i = b) := Fr.put hp8 rfl
            have hc8 := hf8.cel f2.1 (Nat.zero_lt_succ _) (fun q => hb6 q.symm)
            have hrow8 := f1.fr hf8
            have hfr8 := f4.trans hf8 (fun i hi => .inl hi)
            repeat (first | (apply w_op; (first | (apply p_fieldAddr; apply Eq.refl) | (apply p_loadF; apply Eq.refl; (first | assumption | (apply Cel.bel; assumption; assumption; apply Nat.zero_lt_succ)); (first | apply Eq.refl | assumption))); apply Eq.refl) | (apply c_seq) | (apply e_then) | (apply c_region))
            refine w_callS cl65 (hasPrefix_ok _ _ _) rfl ?_
            rw [hasP_slash]
            repeat (first | (apply w_nil) | (apply e_then))
            first | refine c_ifd rfl (fun gs => ?_) (fun gs => ?_) | refine c_ifnd rfl (fun gs => ?_) (fun gs => ?_) | refine c_ifn rfl (fun gs => ?_) (fun gs => ?_) | refine c_cond rfl (fun gs => ?_) (fun gs => ?_)
            · have gs' : slashed t.target = true := decide_eq_true gs
              repeat (first | (apply w_op; (first | (apply p_mvP; apply Eq.refl) | (apply p_nilCheck; apply Eq.refl) | (apply p_fieldAddr; apply Eq.refl)); apply Eq.refl) | (apply c_region))
              refine w_store (v := .string noB) (b := b) (j := 1) (cs := _) (e := 57) ⟨_, _, inferInstance⟩ rfl (by simp [addr_add_plain]) rfl rfl hb8 rfl (fun w9 hp9 hb9 => ?_)
              have hf9 : Fr w8 w9 (fun i => i = b) := Fr.put hp9 rfl
              repeat (first | (apply w_op; (apply p_asI; apply Eq.refl); apply Eq.refl) | (apply w_nil) | (apply c_seq) | (apply e_then) | (apply c_region) | (apply c_ret))
              exact r_ret1 Tryd.results51 rfl (by rw [e, if_pos gs']; exact ⟨rfl, ⟨_, hb9, hrow8.fr hf9⟩, hfr8.trans hf9 (fun i hi => .inl hi)⟩)
            · have gs' : ¬ slashed t.target = true := fun q => gs (of_decide_eq_true q)
              repeat (first | (apply w_op; (apply p_asI; apply Eq.refl); apply Eq.refl) | (apply w_nil) | (apply c_seq) | (apply e_then) | (apply c_region) | (apply c_skip) | (apply c_ret))
              exact r_ret1 Tryd.results51 rfl (by rw [e, if_neg gs']; exact ⟨rfl, ⟨_, hb8, hrow8⟩, hfr8⟩)
theorem step_enter (x : ByteArray) (r : List ByteArray) (hrow : k.row = x :: r) (h1 : ¬ ((F.stat k.at_).2 ≠ 0 ∨ (F.stat k.at_).1.kind ≠ 2)) (h2 : ¬ (x = noB ∨ x = dotB)) (h3 : ¬ x = ddotB) : stepP F k = enterP F ⟨k.at_, r, k.hops⟩ x := by
  unfold stepP enterP
  rw [hrow]
  simp only
  rw [if_neg h1, if_neg h2, if_neg h3]
theorem step_up (x : ByteArray) (r : List ByteArray) (hrow : k.row = x :: r) (h1 : ¬ ((F.stat k.at_).2 ≠ 0 ∨ (F.stat k.at_).1.kind ≠ 2)) (h2 : ¬ (x = noB ∨ x = dotB)) (h3 : x = ddotB) : stepP F k = upP ⟨k.at_, r, k.hops⟩ := by
  unfold stepP upP
  rw [hrow]
  simp only
  rw [if_neg h1, if_neg h2, if_pos h3]
set_option maxRecDepth 100000 in
theorem step_ok (hP : PT w S bt F bk km) (hF : Wf F) (hk : WkOk F k) (h : WkS w b bt k) (hbS : ¬ S b) (hne : k.row ≠ []) : Ret Tryd.prog 32 [.pointer (some ⟨b, 0, none⟩)] w
    fun v w' => v = .int .i64 (stepP F k).1 ∧ WkS w' b bt (stepP F k).2 ∧ Fr w w' (fun i => i = b) := by
  obtain ⟨v, hb, hrow⟩ := h.blk
  have hbc := hb.obj0
  have hs1 := right_size' hk.at_
  have hblt := hb.lt
  cases hkr : k.row with
  | nil => exact absurd hkr hne
  | cons x r =>
    have hx : x.size ≤ 1000 := hk.row x (by rw [hkr]; simp)
    rw [hkr] at hrow
    obtain ⟨ad, c, rfl, hadb⟩ : ∃ ad c, v = .slice (some ad) (r.length + 1) c ∧ ad.block ≠ b := by
      rcases hrow.2 with q | ⟨_, q⟩
      · exact q
      · cases q
    obtain ⟨ad', e', _, hx0⟩ := hrow.1.at_ rfl (i := 0) (by simp)
    injection e' with e'
    subst e'
    have hx0' : Cel w (ad.add ((0 : Int).toNat * 1)) [.string x] := hx0
    have hcap := hrow.1.cap_ge rfl
    refine calls_in Tryd.func32 rfl Tryd.ntmps32 rfl ?_
    repeat (first | (apply w_op; (first | (apply p_mvP; apply Eq.refl) | (apply p_asI; apply Eq.refl) | (apply p_asS; apply Eq.refl) | (apply p_nilCheck; apply Eq.refl) | (apply p_fieldAddr; apply Eq.refl) | (apply p_indexAddr; apply Eq.refl; apply Eq.refl; apply Eq.refl; omega) | (apply p_loadF; apply Eq.refl; (first | assumption | (apply Cel.bel; assumption; assumption; apply Nat.zero_lt_succ)); (first | apply Eq.refl | assumption)) | (apply p_cut_l; apply Eq.refl; apply Eq.refl; omega)); apply Eq.refl) | (apply w_nil) | (apply c_seq) | (apply e_then) | (apply c_region))
    refine w_store (b := b) (j := 2) (cs := _) (e := 57) ⟨_, _, inferInstance⟩ rfl (by simp [addr_add_plain]) rfl rfl hb rfl (fun w1 hp1 hb1 => ?_)
    have hf1 : Fr w w1 (fun i => i = b) := Fr.put hp1 rfl
    have hrow1 := (hrow.fr hf1).cut
    have hP1 := hP.fr hf1 (fun i hi q => hbS (q ▸ hi))
    have hbc1 := hb1.obj0
    obtain ⟨v1, hv1⟩ : ∃ v1, Value.slice (cutA (some ad) 1 c 1) (r.length + 1 - 1) (c - 1) = v1 := ⟨_, rfl⟩
    have hbc1' : Cel w1 ⟨b, 0, none⟩ [.pointer (some ⟨bt, 0, none⟩), .string k.at_, v1, .int .i64 k.hops] := by rw [← hv1]; exact hbc1
    have hb1' : Blk w1 b 57 [.pointer (some ⟨bt, 0, none⟩), .string k.at_, v1, .int .i64 k.hops] := by rw [← hv1]; exact hb1
    rw [hv1] at hrow1
    have s1 := hp1.size
    clear hbc hbc1 hb1 hx0
    repeat (first | (apply w_nil) | (apply c_seq) | (apply e_then))
    refine c_cut1 [4, 5] [21, 22, 23, 24, 25, 26, 27, 28, 29, 30, 31, 32] (fun vs w4 => ∃ b4, vs = [.pointer (some ⟨b4, 0, none⟩), .int .i64 (F.stat k.at_).2] ∧ Cel w4 ⟨b4, 0, none⟩ (enSt (F.stat k.at_).1) ∧ Below w1.heap.size w1 w4) ?_ ?_
    · refine c_scr (fun y => Cel y ⟨b, 0, none⟩ [.pointer (some ⟨bt, 0, none⟩), .string k.at_, v1, .int .i64 k.hops])
        (.pull 0 (.pull 1 (.pull 2 (.pull 3 (.pull 4 (.pull 5 (.pull 6 (.pull 7 (.both 8 12
          (.pull 9 (.pull 10 (.pull 11 (.only 12 (.only 13 (.only 14 .done))))))
          (.only 8 (.pull 9 (.pull 10 (.pull 11 (.only 13 (.only 14 .done))))))))))))))) mixed (by kernel_rfl) hbc1'.drew ?_
      repeat (apply x_pull; apply Eq.refl; intro _ hC; (first | (apply p_mvP; apply Eq.refl) | (apply p_nilCheck; apply Eq.refl) | (apply p_fieldAddr; apply Eq.refl) | (apply p_loadF; apply Eq.refl; (first | assumption | (apply Cel.bel; assumption; assumption; apply Nat.zero_lt_succ)); (first | apply Eq.refl | assumption))); apply Eq.refl)
      refine x_both rfl rfl rfl rfl ?_ ?_
      · refine w_callB cl18 (stat_ok hP1.drew hF _ hs1) rfl (fun w2 hb2 => ?_)
        have z2 := hb2.size
        have hz1 : w1.drew.heap.size = w1.heap.size := rfl
        have hc2 := hbc1'.drew.below hb2 (by show b < _; omega)
        refine w_nil (e_x hc2 ?_)
        repeat (apply x_pull; apply Eq.refl; intro _ hC; (first | (apply p_mvT; apply Eq.refl) | (apply p_extract; apply Eq.refl; apply Eq.refl)); apply Eq.refl)
        refine x_only rfl (w_alloc rfl (fun b4 w3 hn3 => ?_))
        obtain ⟨cs3, hb3, hl3⟩ := hn3.zblk Tryd.prog
        have e3 := hn3.hb
        have s3 := hn3.size
        refine w_nil (e_x (hc2.grown (hn3.grown none) (by simp)) ?_)
        refine x_only rfl (w_storeW rfl rfl rfl rfl hb3 hl3 (fun w4 hp4 hb4 => ?_))
        have hbel14 : Below w1.heap.size w1 w4 := hp4.below (hn3.below (⟨hb2.os, hb2.tape, hb2.output, hb2.size, hb2.block⟩ : Below w1.heap.size w1 w2) z2) (by omega) (by omega)
        refine w_nil (e_x (hbc1'.below hbel14 (by show b < _; omega)) ?_)
        refine x_only rfl (w_op (p_asI rfl) rfl (w_nil (e_x0 ?_)))
        refine e_ct (by repeat (first | exact Over.base | exact Over.refl | refine Over.put rfl ?_ | refine Over.cnP rfl ?_ | refine Over.zpP rfl ?_)) ?_
        exact ⟨b4, rfl, hb4.obj0, hbel14⟩
      · refine w_alloc rfl (fun b4 w3 hn3 => ?_)
        obtain ⟨cs3, hb3, hl3⟩ := hn3.zblk Tryd.prog
        have e3 : b4 = w1.heap.size := hn3.hb
        have s3 : w3.heap.size = w1.heap.size + 1 := hn3.size
        have hb13 : Below w1.heap.size w1 w3 := hn3.below (Below.refl _ _).drew (Nat.le_refl _)
        have hc3 := hbc1'.below hb13 (by show b < _; omega)
        refine w_nil (e_x hc3 ?_)
        refine x_only rfl (w_callB cl18 (stat_ok (hP1.below hb13) hF _ hs1) rfl (fun w2 hb2 => ?_))
        have z2 := hb2.size
        have hc2 := hc3.below hb2 (by show b < _; omega)
        have hb3' := hb3.below hb2 (by omega)
        refine w_nil (e_x hc2 ?_)
        repeat (apply x_pull; apply Eq.refl; intro _ hC; (first | (apply p_mvT; apply Eq.refl) | (apply p_extract; apply Eq.refl; apply Eq.refl)); apply Eq.refl)
        refine x_only rfl (w_storeW rfl rfl rfl rfl hb3' hl3 (fun w4 hp4 hb4 => ?_))
        have hbel14 : Below w1.heap.size w1 w4 := hp4.below (hb13.trans (hb2.mono (by omega))) (by omega) (by omega)
        refine w_nil (e_x (hbc1'.below hbel14 (by show b < _; omega)) ?_)
        refine x_only rfl (w_op (p_asI rfl) rfl (w_nil (e_x0 ?_)))
        refine e_ct (by repeat (first | exact Over.base | exact Over.refl | refine Over.put rfl ?_ | refine Over.cnP rfl ?_ | refine Over.zpP rfl ?_)) ?_
        exact ⟨b4, rfl, hb4.obj0, hbel14⟩
    rintro _ u4 w4 ⟨b4, rfl, hcs4, hbel14⟩
    have s4 := hbel14.size
    have hc4 := hbc1'.below hbel14 (by show b < _; omega)
    have hblk4 := hb1'.below hbel14 (by omega)
    have hrow4 := hrow1.below hbel14
    have hfr4 : Fr w w4 (fun i => i = b) := hf1.trans (Fr.of_below (S := fun _ => False) hbel14) (fun i hi => hi.elim)
    have hk1 : WkOk F ⟨k.at_, r, k.hops⟩ := ⟨hk.at_, fun y hy => hk.row y (by rw [hkr]; simp [hy]), by have q : ((x :: r).length : Int) ≤ 1000 + k.hops * 201 := hkr ▸ hk.len; rw [List.length_cons] at q; show (r.length : Int) ≤ 1000 + k.hops * 201; omega, hk.h0, hk.h1⟩
    have hks : WkS w4 b bt ⟨k.at_, r, k.hops⟩ := ⟨v1, hblk4, hrow4⟩
    have hP4 := hP.fr hfr4 (fun i hi q => hbS (q ▸ hi))
    have hrl : (⟨k.at_, r, k.hops⟩ : Wk).row.length ≤ 1000000 := by have := hk1.len; have := hk1.h1; have q : (r.length : Int) ≤ 1000 + k.hops * 201 := hk1.len; have q2 : k.hops ≤ 16 := hk1.h1; show r.length ≤ _; omega
    clear hbc1'
    repeat (first | (apply w_op; (first | (apply p_mvI; apply Eq.refl) | (apply p_mvB; apply Eq.refl) | (apply p_fieldAddr; apply Eq.refl) | (apply p_neq; apply Eq.refl; apply Eq.refl) | (apply p_pick_t; apply Eq.refl; apply Eq.refl) | (apply p_pick_f; apply Eq.refl; apply Eq.refl) | (apply p_loadF; apply Eq.refl; (first | assumption | (apply Cel.bel; assumption; assumption; apply Nat.zero_lt_succ)); (first | apply Eq.refl | assumption))); apply Eq.refl) | (apply w_nil) | (apply c_seq) | (apply e_then) | (apply c_region) | (apply w_on; apply Eq.refl) | (apply w_off; apply Eq.refl; apply Eq.refl) | (apply w_orn; apply Eq.refl; apply Eq.refl; (repeat (first | apply Seg.pick | apply Seg.op | apply Seg.op0)); apply Eq.refl; intro _) | (apply e_sc; (repeat (first | exact Over.base | exact Over.refl | refine Over.put rfl ?_ | refine Over.cnP rfl ?_ | refine Over.zpP rfl ?_)); apply Eq.refl) | (intro _))
    first | refine c_ifd rfl (fun g => ?_) (fun g => ?_) | refine c_ifnd rfl (fun g => ?_) (fun g => ?_) | refine c_ifn rfl (fun g => ?_) (fun g => ?_) | refine c_cond rfl (fun g => ?_) (fun g => ?_)
    · have hbad : (F.stat k.at_).2 ≠ 0 ∨ (F.stat k.at_).1.kind ≠ 2 := by simpa using g
      have e : stepP F k = (12, ⟨k.at_, r, k.hops⟩) := by unfold stepP; rw [hkr]; simp only; rw [if_pos hbad]
      repeat (first | (apply w_op; (apply p_asI; apply Eq.refl); apply Eq.refl) | (apply w_nil) | (apply c_seq) | (apply e_then) | (apply c_region) | (apply c_ret) | (apply e_then_ret))
      exact r_ret1 Tryd.results32 rfl (by rw [e]; exact ⟨rfl, hks, hfr4⟩)
    · have hgood : ¬ ((F.stat k.at_).2 ≠ 0 ∨ (F.stat k.at_).1.kind ≠ 2) := by simpa using g
      repeat (first | (apply w_op; (first | (apply p_mvS; apply Eq.refl) | (apply p_mvP; apply Eq.refl) | (apply p_asB; apply Eq.refl) | (apply p_asF; apply Eq.refl) | (apply p_seql; apply Eq.refl; apply Eq.refl) | (apply p_makeFunc)); apply Eq.refl) | (apply w_nil) | (apply c_seq) | (apply e_then) | (apply c_region) | (apply c_block) | (apply c_skip))
      first | refine c_ifd rfl (fun a => ?_) (fun a => ?_) | refine c_ifnd rfl (fun a => ?_) (fun a => ?_) | refine c_ifn rfl (fun a => ?_) (fun a => ?_) | refine c_cond rfl (fun a => ?_) (fun a => ?_)
      · have e : stepP F k = (0, ⟨k.at_, r, k.hops⟩) := by unfold stepP; rw [hkr]; simp only; rw [if_neg hgood, if_pos (.inl a)]
        repeat (first | (apply e_then) | (apply c_skip))
        first | refine c_ifd rfl (fun a2 => ?_) (fun a2 => ?_) | refine c_ifnd rfl (fun a2 => ?_) (fun a2 => ?_) | refine c_ifn rfl (fun a2 => ?_) (fun a2 => ?_) | refine c_cond rfl (fun a2 => ?_) (fun a2 => ?_)
        · repeat (first | (apply w_op; (apply p_asI; apply Eq.refl); apply Eq.refl) | (apply w_nil) | (apply c_seq) | (apply e_then) | (apply c_region) | (apply c_ret) | (apply e_then_ret) | (apply e_bk_ret))
          exact r_ret1 Tryd.results32 rfl (by rw [e]; exact ⟨rfl, hks, hfr4⟩)
        · exact absurd a a2
      · repeat (first | (apply w_op; (first | (apply p_asB; apply Eq.refl) | (apply p_seql; apply Eq.refl; apply Eq.refl)); apply Eq.refl) | (apply w_nil) | (apply e_then) | (apply c_region))
        first | refine c_ifd rfl (fun a2 => ?_) (fun a2 => ?_) | refine c_ifnd rfl (fun a2 => ?_) (fun a2 => ?_) | refine c_ifn rfl (fun a2 => ?_) (fun a2 => ?_) | refine c_cond rfl (fun a2 => ?_) (fun a2 => ?_)
        · have e : stepP F k = (0, ⟨k.at_, r, k.hops⟩) := by unfold stepP; rw [hkr]; simp only; rw [if_neg hgood, if_pos (.inr a2)]
          repeat (first | (apply w_op; (apply p_asI; apply Eq.refl); apply Eq.refl) | (apply w_nil) | (apply c_seq) | (apply e_then) | (apply c_region) | (apply c_ret) | (apply e_then_ret) | (apply e_bk_ret))
          exact r_ret1 Tryd.results32 rfl (by rw [e]; exact ⟨rfl, hks, hfr4⟩)
        · have hno : ¬ (x = noB ∨ x = dotB) := by rintro (q | q); exact a q; exact a2 q
          repeat (first | (apply w_op; (first | (apply p_asB; apply Eq.refl) | (apply p_seql; apply Eq.refl; apply Eq.refl)); apply Eq.refl) | (apply w_nil) | (apply c_seq) | (apply e_then) | (apply c_region))
          first | refine c_ifd rfl (fun a3 => ?_) (fun a3 => ?_) | refine c_ifnd rfl (fun a3 => ?_) (fun a3 => ?_) | refine c_ifn rfl (fun a3 => ?_) (fun a3 => ?_) | refine c_cond rfl (fun a3 => ?_) (fun a3 => ?_)
          · have e := step_up (F := F) (k := k) x r hkr hgood hno a3
            repeat (first | (apply w_op; (first | (apply p_mvS; apply Eq.refl) | (apply p_mvP; apply Eq.refl) | (apply p_mvF; apply Eq.refl) | (apply p_asF; apply Eq.refl) | (apply p_makeFunc)); apply Eq.refl) | (apply w_nil) | (apply c_seq) | (apply e_then) | (apply c_region) | (apply e_bk))
            refine w_callv (f := 52) (first := #[.pointer (some ⟨b, 0, none⟩)]) (captured := #[]) rfl cl52 (up_ok (F := F) hk1 hks x) rfl ?_
            rintro v5 w5 ⟨rfl, hk5, hf5⟩
            repeat (first | (apply w_op; (apply p_asI; apply Eq.refl); apply Eq.refl) | (apply w_nil) | (apply e_then) | (apply c_ret))
            exact r_ret1 Tryd.results32 rfl (by rw [e]; exact ⟨rfl, hk5, hfr4.trans hf5 (fun i hi => .inl hi)⟩)
          · have e := step_enter (F := F) (k := k) x r hkr hgood hno a3
            repeat (first | (apply w_op; (first | (apply p_mvS; apply Eq.refl) | (apply p_mvF; apply Eq.refl)); apply Eq.refl) | (apply c_seq) | (apply e_then) | (apply c_region) | (apply c_skip) | (apply e_bk))
            refine w_callv (f := 51) (first := #[.pointer (some ⟨b, 0, none⟩)]) (captured := #[]) rfl cl51 (enter_ok hP4 hF hk1 hks hbS hrl x hx) rfl ?_
            rintro v5 w5 ⟨rfl, hk5, hf5⟩
            repeat (first | (apply w_op; (apply p_asI; apply Eq.refl); apply Eq.refl) | (apply w_nil) | (apply e_then) | (apply c_ret))
            exact r_ret1 Tryd.results32 rfl (by rw [e]; exact ⟨rfl, hk5, hfr4.trans hf5 (fun i hi => .inl hi)⟩)
end
end Go.Proofs.YtmgheamdboiklaaDoor
