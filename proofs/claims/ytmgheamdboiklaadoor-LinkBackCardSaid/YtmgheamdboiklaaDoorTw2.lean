/- THE WALKS of package tree: what is told. -/
import Derived.Test.YtmgheamdboiklaaDoorTw
set_option linter.unusedVariables false
set_option linter.unusedSimpArgs false
namespace Go.Proofs.YtmgheamdboiklaaDoor
open Go.RowKit

section
variable {P : Program} {n : Nat} {l : List (Nat × Value)} {w : World}
theorem r_retC1 {fn : Func} {R : Value → World → Prop} {a t : Nat} {ad : Addr} {cs : Array Value} (hres : fn.results = #[.cell a t]) (ha : ev n l (.tmp a) = .pointer (some ad)) (hl : (loadVar t ad).run P w = .ok (.agg cs) w) (ht : Nat.blt a n = true) (k : R (.agg cs) w) : EW (Bd P fn R) n l [] .ret w := by
  unfold EW Bd
  have h1 : (fr n l ([] : List Deferred)).tmps.getD a undef = .pointer (some ad) := by
    rw [fr_getD a (by simpa using ht)]
    simp only [ev, ht, cond_true] at ha
    exact ha
  rw [Array.getD_eq_getD_getElem?] at h1
  refine bodyPost_ret (v := .agg cs) ?_ rfl ⟨_, rfl, k⟩
  simp [results, hres, h1, asAddr, hl]
theorem r_retC2 {fn : Func} {R : Value → World → Prop} {a t u : Nat} {ad : Addr} {cs : Array Value} (hres : fn.results = #[.cell a t, .tmp u]) (ha : ev n l (.tmp a) = .pointer (some ad)) (hl : (loadVar t ad).run P w = .ok (.agg cs) w) (ht : (Nat.blt a n && Nat.blt u n) = true) (k : R (.tuple #[.agg cs, lk l u]) w) : EW (Bd P fn R) n l [] .ret w := by
  unfold EW Bd
  simp only [Bool.and_eq_true] at ht
  have h1 : (fr n l ([] : List Deferred)).tmps.getD a undef = .pointer (some ad) := by
    rw [fr_getD a (by simpa using ht.1)]
    simp only [ev, ht.1, cond_true] at ha
    exact ha
  have h2 := fr_getD (l := l) (ds := ([] : List Deferred)) u (by simpa using ht.2)
  rw [Array.getD_eq_getD_getElem?] at h1 h2
  refine bodyPost_ret (v := .tuple #[.agg cs, lk l u]) ?_ rfl ⟨_, rfl, k⟩
  simp [results, hres, h1, h2, asAddr, hl]
end
theorem DatV.sl {w : World} {S : Nat → Prop} {dv : Value} {d : List UInt8} (h : DatV w S dv d) : ∃ A c, dv = .slice A d.length c := by
  rcases h.1.2 with ⟨e, h0⟩ | ⟨g, cap, cur, e, _⟩
  · exact ⟨none, 0, by rw [e, h0]⟩
  · exact ⟨_, _, e⟩
section
variable {w : World} {S : Nat → Prop} {bt : Nat} {F : Ft} {bk km : Int → Nat}
theorem there_ok_w (h : PT w S bt F bk km) (hF : Wf F) (p : ByteArray) (hs : p.size ≤ 1099511627775) : Ret Tryd.prog 34 [.pointer (some ⟨bt, 0, none⟩), .string p] w
    fun v w' => v = .tuple #[nptr bk (F.look p).1, F.dirV bk p, .int .i64 (F.thereE p)] ∧ Below w.heap.size w w' := by
  refine calls_in Tryd.func34 rfl Tryd.ntmps34 rfl ?_
  repeat (first | (apply w_op; (first | (apply p_mvS; apply Eq.refl) | (apply p_mvP; apply Eq.refl) | (apply p_asI; apply Eq.refl) | (apply p_asP; apply Eq.refl) | (apply p_peqnil; apply Eq.refl; apply Eq.refl)); apply Eq.refl) | (apply w_nil) | (apply c_seq) | (apply e_then) | (apply c_region) | (apply c_cond_f; apply Eq.refl) | (apply c_skip))
  refine w_callB cl39 (look_ok_w h hF p hs) rfl (fun w1 hb1 => ?_)
  generalize hn : (F.look p).1 = o at *
  generalize he : (F.look p).2 = e at *
  have hE : F.thereE p = if e = 0 ∧ o.isNone = true then 10 else e := by unfold Ft.thereE; rw [hn, he]
  obtain ⟨ov, hov, hoi⟩ : ∃ ov, nptr bk o = .pointer ov ∧ ov.isNone = o.isNone := by
    cases o with
    | none => exact ⟨none, rfl, rfl⟩
    | some t => exact ⟨_, rfl, rfl⟩
  rw [hov]
  repeat (first | (apply w_op; (first | (apply p_mvI; apply Eq.refl) | (apply p_mvB; apply Eq.refl) | (apply p_mvP; apply Eq.refl) | (apply p_mvT; apply Eq.refl) | (apply p_asI; apply Eq.refl) | (apply p_asP; apply Eq.refl) | (apply p_assign) | (apply p_extract; apply Eq.refl; apply Eq.refl) | (apply p_eql; apply Eq.refl; apply Eq.refl) | (apply p_pick_t; apply Eq.refl; apply Eq.refl) | (apply p_pick_f; apply Eq.refl; apply Eq.refl) | (apply p_peqnil; apply Eq.refl; apply Eq.refl)); apply Eq.refl) | (apply w_nil) | (apply c_seq) | (apply e_then) | (apply c_region) | (apply w_on; apply Eq.refl) | (apply w_off; apply Eq.refl; apply Eq.refl) | (apply w_andd; apply Eq.refl; apply Eq.refl; (repeat (first | apply Seg.pick | apply Seg.op | apply Seg.op0)); apply Eq.refl; intro _) | (apply e_sc; (repeat (first | exact Over.base | exact Over.refl | refine Over.put rfl ?_ | refine Over.cnP rfl ?_ | refine Over.zpP rfl ?_)); apply Eq.refl) | (intro _))
  first | refine c_ifd rfl (fun g => ?_) (fun g => ?_) | refine c_ifnd rfl (fun g => ?_) (fun g => ?_) | refine c_ifn rfl (fun g => ?_) (fun g => ?_) | refine c_cond rfl (fun g => ?_) (fun g => ?_)
  · repeat (first | (apply w_op; (first | (apply p_mvI; apply Eq.refl) | (apply p_mvP; apply Eq.refl) | (apply p_move) | (apply p_asI; apply Eq.refl) | (apply p_asP; apply Eq.refl) | (apply p_assign)); apply Eq.refl) | (apply w_nil) | (apply c_seq) | (apply e_then) | (apply c_region) | (apply c_ret))
    refine r_ret3 Tryd.results34 rfl ⟨?_, hb1⟩
    rw [hE, if_pos (by simp [hoi] at g; simpa using g)]
    rfl
  · repeat (first | (apply w_op; (first | (apply p_mvI; apply Eq.refl) | (apply p_mvP; apply Eq.refl) | (apply p_move) | (apply p_asI; apply Eq.refl) | (apply p_asP; apply Eq.refl) | (apply p_assign)); apply Eq.refl) | (apply w_nil) | (apply c_seq) | (apply e_then) | (apply c_region) | (apply c_skip) | (apply c_ret))
    refine r_ret3 Tryd.results34 rfl ⟨?_, hb1⟩
    rw [hE, if_neg (by rintro ⟨q1, q2⟩; simp [hoi, q1, q2] at g)]
    rfl
theorem there_nil (p : ByteArray) : Ret Tryd.prog 34 [.pointer none, .string p] w fun v w' => w' = w ∧ v = .tuple #[.pointer none, .pointer none, .int .i64 1] := by
  refine calls_in Tryd.func34 rfl Tryd.ntmps34 rfl ?_
  repeat (first | (apply w_op; (first | (apply p_mvP; apply Eq.refl) | (apply p_asI; apply Eq.refl) | (apply p_asP; apply Eq.refl) | (apply p_peqnil; apply Eq.refl; apply Eq.refl)); apply Eq.refl) | (apply w_nil) | (apply c_seq) | (apply e_then) | (apply c_region) | (apply c_cond_t; apply Eq.refl) | (apply c_ret) | (apply e_then_ret))
  exact r_ret3 Tryd.results34 rfl ⟨rfl, rfl⟩
theorem file_ok (h : PT w S bt F bk km) {p : ByteArray} {t : Tg} (ht : F.at_ p = some t) : Ret Tryd.prog 40 [.pointer (some ⟨bk t.ino, 0, none⟩)] w fun v w' => w' = w ∧ v = .int .i64 (fileE t) := by
  obtain ⟨dv, hc, _⟩ := h.cel ht
  have hcs : Cel w ((⟨bk t.ino, 0, none⟩ : Addr).add 0) (ndC t (cnt F.L t.ino) dv (kvO km t)) := by rw [addr_add_zero]; exact hc
  refine calls_in Tryd.func40 rfl Tryd.ntmps40 rfl ?_
  repeat (first | (apply w_op; (first | (apply p_mvP; apply Eq.refl) | (apply p_asI; apply Eq.refl) | (apply p_asB; apply Eq.refl) | (apply p_nilCheck; apply Eq.refl) | (apply p_fieldAddr; apply Eq.refl) | (apply p_eql; apply Eq.refl; apply Eq.refl) | (apply p_loadF; apply Eq.refl; (first | assumption | (apply Cel.bel; assumption; assumption; apply Nat.zero_lt_succ)); (first | apply Eq.refl | assumption))); apply Eq.refl) | (apply w_nil) | (apply c_seq) | (apply e_then) | (apply c_region) | (apply c_block))
  first | refine c_ifd rfl (fun g => ?_) (fun g => ?_) | refine c_ifnd rfl (fun g => ?_) (fun g => ?_) | refine c_ifn rfl (fun g => ?_) (fun g => ?_) | refine c_cond rfl (fun g => ?_) (fun g => ?_)
  · repeat (first | (apply w_op; (apply p_asI; apply Eq.refl); apply Eq.refl) | (apply w_nil) | (apply c_seq) | (apply e_then) | (apply c_region) | (apply c_ret) | (apply e_then_ret) | (apply e_bk_ret))
    exact r_ret1 Tryd.results40 rfl ⟨rfl, by rw [fileE, if_pos g]; rfl⟩
  · repeat (first | (apply w_op; (first | (apply p_asB; apply Eq.refl) | (apply p_eql; apply Eq.refl; apply Eq.refl)); apply Eq.refl) | (apply w_nil) | (apply c_seq) | (apply e_then) | (apply c_region))
    first | refine c_ifd rfl (fun g2 => ?_) (fun g2 => ?_) | refine c_ifnd rfl (fun g2 => ?_) (fun g2 => ?_) | refine c_ifn rfl (fun g2 => ?_) (fun g2 => ?_) | refine c_cond rfl (fun g2 => ?_) (fun g2 => ?_)
    · repeat (first | (apply w_op; (apply p_asI; apply Eq.refl); apply Eq.refl) | (apply w_nil) | (apply c_seq) | (apply e_then) | (apply c_region) | (apply c_ret) | (apply e_then_ret) | (apply e_bk_ret))
      exact r_ret1 Tryd.results40 rfl ⟨rfl, by rw [fileE, if_neg g, if_pos g2]; rfl⟩
    · repeat (first | (apply w_op; (apply p_asI; apply Eq.refl); apply Eq.refl) | (apply w_nil) | (apply c_seq) | (apply e_then) | (apply c_region) | (apply c_skip) | (apply c_ret) | (apply e_bk))
      exact r_ret1 Tryd.results40 rfl ⟨rfl, by rw [fileE, if_neg g, if_neg g2]; rfl⟩
theorem kidN_len (L : List Ent) (p : ByteArray) : (kidN L p).length = (kidsL L p).length := by simp [kidN]
set_option maxRecDepth 100000 in
theorem tell_ok (h : PT w S bt F bk km) (hF : Wf F) {p : ByteArray} {t : Tg} (ht : F.at_ p = some t) : Ret Tryd.prog 35 [.pointer (some ⟨bk t.ino, 0, none⟩)] w fun v w' => v = .agg (enSt (tellT F.L p t)).toArray ∧ Below w.heap.size w w' := by
  obtain ⟨dv, hc, hdv⟩ := h.cel ht
  obtain ⟨A, c, rfl⟩ := hdv.sl
  have hkd : t.kind = 1 ∨ t.kind = 2 ∨ t.kind = 3 := hF.kd _ (atL_mem ht)
  refine calls_in Tryd.func35 rfl Tryd.ntmps35 rfl ?_
  repeat (first | (apply c_seq) | (apply c_region))
  refine w_alloc rfl (fun b2 w2 hn2 => ?_)
  obtain ⟨cs2, hb2, hl2⟩ := hn2.zblk Tryd.prog
  have hbel := hn2.below (Below.refl _ _) (Nat.le_refl _)
  have e2 := hn2.hb
  replace hc := Cel.bel hbel hc (Nat.zero_lt_succ _)
  clear hn2
  have z2 := hbel.size
  have z2' := hb2.lt
  repeat (first | (apply w_op; (first | (apply p_mvP; apply Eq.refl) | (apply p_nilCheck; apply Eq.refl) | (apply p_fieldAddr; apply Eq.refl) | (apply p_loadFS; apply Eq.refl; (first | assumption | (apply Cel.bel; assumption; assumption; apply Nat.zero_lt_succ)); apply Eq.refl)); apply Eq.refl) | (apply w_nil) | (apply c_seq) | (apply e_then) | (apply c_region))
  refine w_alloc rfl (fun b3 w3 hn3 => ?_)
  obtain ⟨cs3, hb3, hl3⟩ := hn3.zblk Tryd.prog
  have e3 := hn3.hb
  replace hb2 := hb2.grown (hn3.grown none) (by simp)
  replace hc := hc.grown (hn3.grown none) (by simp)
  replace hbel := hn3.below hbel z2
  clear hn3
  refine w_storeW rfl rfl rfl rfl hb3 hl3 (fun w4 hp4 hb4 => ?_)
  replace hb2 := hb2.grown hp4.grown (fun e => by injection e with e; omega)
  replace hc := hc.grown hp4.grown (fun e => by injection e with e; have : bk t.ino = b3 := e; have := h.lt _ (h.sN _ (atL_mem ht)); simp at this; omega)
  replace hbel := hp4.below hbel (hbel.size) (by omega)
  have hPT := h.below hbel
  clear hp4 hb3 hl3
  have hb4c := hb4.obj0
  repeat (first | (apply w_op; (first | (apply p_asB; apply Eq.refl) | (apply p_fieldAddr; apply Eq.refl) | (apply p_eql; apply Eq.refl; apply Eq.refl) | (apply p_loadF; apply Eq.refl; (first | assumption | (apply Cel.bel; assumption; assumption; apply Nat.zero_lt_succ)); (first | apply Eq.refl | assumption))); apply Eq.refl) | (apply w_nil) | (apply c_seq) | (apply e_then) | (apply c_region) | (apply c_block))
  refine c_cutB [] [10, 11, 12, 13, 14, 15, 16, 17, 18, 19, 20, 21, 22, 23, 24, 25, 26, 27, 28, 29, 30, 31] (fun vs w5 => vs = [] ∧ Below w.heap.size w w5 ∧ Blk w5 b3 38 (enSt (tellT F.L p t)) ∧ Blk w5 b2 38 cs2) ?_ ?_
  · have z4 := hbel.size
    have hne32 : b2 ≠ b3 := by omega
    have fin : ∀ (sz : Int) (w5 : World), sz = (tellT F.L p t).size → Put w4 w5 b3 → Blk w5 b3 38 (enSt ⟨t.kind, t.ino, sz, cnt F.L t.ino, t.mt, t.target⟩) →
        Below w.heap.size w w5 ∧ Blk w5 b3 38 (enSt (tellT F.L p t)) ∧ Blk w5 b2 38 cs2 := fun sz w5 hsz hp hb => by
      refine ⟨hp.below hbel z4 (by omega), ?_, hb2.grown hp.grown (fun e => by injection e with e; exact hne32 e)⟩
      subst hsz; exact hb
    first | refine c_ifd rfl (fun g => ?_) (fun g => ?_) | refine c_ifnd rfl (fun g => ?_) (fun g => ?_) | refine c_ifn rfl (fun g => ?_) (fun g => ?_) | refine c_cond rfl (fun g => ?_) (fun g => ?_)
    · have g : t.kind = 1 := g
      repeat (first | (apply w_op; (first | (apply p_mvP; apply Eq.refl) | (apply p_nilCheck; apply Eq.refl) | (apply p_fieldAddr; apply Eq.refl) | (apply p_len_sl; apply Eq.refl) | (apply p_loadF; apply Eq.refl; (first | assumption | (apply Cel.bel; assumption; assumption; apply Nat.zero_lt_succ)); (first | apply Eq.refl | assumption))); apply Eq.refl) | (apply c_region))
      refine w_store (v := .int .i64 t.data.length) (b := b3) (j := 2) (cs := enSt ⟨t.kind, t.ino, 0, cnt F.L t.ino, t.mt, t.target⟩) (e := 38) ⟨_, _, inferInstance⟩ rfl (by simp [addr_add_plain]) rfl rfl hb4 rfl (fun w5 hp5 hb5 => ?_)
      repeat (first | (apply w_nil) | (apply e_bk))
      refine e_ct (by repeat (first | exact Over.base | exact Over.refl | refine Over.put rfl ?_ | refine Over.cnP rfl ?_ | refine Over.zpP rfl ?_)) ?_
      exact ⟨rfl, fin t.data.length _ (by simp [tellT, g]) hp5 hb5⟩
    · have g : ¬ t.kind = 1 := g
      repeat (first | (apply w_op; (first | (apply p_asB; apply Eq.refl) | (apply p_eql; apply Eq.refl; apply Eq.refl)); apply Eq.refl) | (apply w_nil) | (apply c_seq) | (apply e_then) | (apply c_region))
      first | refine c_ifd rfl (fun g2 => ?_) (fun g2 => ?_) | refine c_ifnd rfl (fun g2 => ?_) (fun g2 => ?_) | refine c_ifn rfl (fun g2 => ?_) (fun g2 => ?_) | refine c_cond rfl (fun g2 => ?_) (fun g2 => ?_)
      · have g2 : t.kind = 2 := g2
        have hm := hPT.map ht g2
        rw [show kvO km t = .map (some (km t.ino)) from if_pos g2] at hc
        repeat (first | (apply w_op; (first | (apply p_mvP; apply Eq.refl) | (apply p_nilCheck; apply Eq.refl) | (apply p_fieldAddr; apply Eq.refl) | (apply p_loadF; apply Eq.refl; (first | assumption | (apply Cel.bel; assumption; assumption; apply Nat.zero_lt_succ)); (first | apply Eq.refl | assumption))); apply Eq.refl) | (apply c_region))
        refine w_op (p_len_map rfl hm) rfl ?_
        repeat (apply w_op; (apply p_fieldAddr; apply Eq.refl); apply Eq.refl)
        refine w_store (v := .int .i64 (kidN F.L p).length) (b := b3) (j := 2) (cs := enSt ⟨t.kind, t.ino, 0, cnt F.L t.ino, t.mt, t.target⟩) (e := 38) ⟨_, _, inferInstance⟩ rfl (by simp [addr_add_plain]) rfl rfl hb4 rfl (fun w5 hp5 hb5 => ?_)
        repeat (first | (apply w_nil) | (apply e_bk))
        refine e_ct (by repeat (first | exact Over.base | exact Over.refl | refine Over.put rfl ?_ | refine Over.cnP rfl ?_ | refine Over.zpP rfl ?_)) ?_
        exact ⟨rfl, fin (kidN F.L p).length _ (by simp [tellT, g2, kidN_len]) hp5 hb5⟩
      · have g2 : ¬ t.kind = 2 := g2
        have g3 : t.kind = 3 := by omega
        repeat (first | (apply w_op; (first | (apply p_asB; apply Eq.refl) | (apply p_eql; apply Eq.refl; apply Eq.refl)); apply Eq.refl) | (apply w_nil) | (apply c_seq) | (apply e_then) | (apply c_region))
        refine c_cond_t (by show Value.bool (decide (t.kind = 3)) = _; rw [decide_eq_true g3]) ?_
        repeat (first | (apply w_op; (first | (apply p_fieldAddr; apply Eq.refl) | (apply p_len_str; apply Eq.refl) | (apply p_loadF; apply Eq.refl; (first | assumption | (apply Cel.bel; assumption; assumption; apply Nat.zero_lt_succ)); (first | apply Eq.refl | assumption))); apply Eq.refl) | (apply c_region))
        refine w_store (v := .int .i64 t.target.size) (b := b3) (j := 2) (cs := enSt ⟨t.kind, t.ino, 0, cnt F.L t.ino, t.mt, t.target⟩) (e := 38) ⟨_, _, inferInstance⟩ rfl (by simp [addr_add_plain]) rfl rfl hb4 rfl (fun w5 hp5 hb5 => ?_)
        repeat (first | (apply w_nil) | (apply e_bk))
        refine e_ct (by repeat (first | exact Over.base | exact Over.refl | refine Over.put rfl ?_ | refine Over.cnP rfl ?_ | refine Over.zpP rfl ?_)) ?_
        exact ⟨rfl, fin t.target.size _ (by simp [tellT, g3]) hp5 hb5⟩
  · rintro _ u w5 ⟨rfl, hbel5, hb5, hb25⟩
    have hb5c := hb5.obj0
    repeat (first | (apply w_op; (apply p_loadS; apply Eq.refl; (first | assumption | (apply Cel.bel; assumption; assumption; apply Nat.zero_lt_succ)); apply Eq.refl); apply Eq.refl) | (apply c_seq) | (apply c_region))
    refine w_storeW rfl rfl rfl rfl hb25 hl2 (fun w6 hp6 hb6 => ?_)
    repeat (first | (apply w_nil) | (apply e_then) | (apply c_ret))
    exact r_retC1 Tryd.results35 rfl (run_loadS hb6.obj0 rfl) rfl ⟨rfl, hp6.below hbel5 hbel5.size (by omega)⟩
theorem stat_ok (h : PT w S bt F bk km) (hF : Wf F) (p : ByteArray) (hs : p.size ≤ 1099511627775) : Ret Tryd.prog 18 [.pointer (some ⟨bt, 0, none⟩), .string p] w
    fun v w' => v = .tuple #[.agg (enSt (F.stat p).1).toArray, .int .i64 (F.stat p).2] ∧ Below w.heap.size w w' := by
  refine calls_in Tryd.func18 rfl Tryd.ntmps18 rfl ?_
  repeat (first | (apply c_seq) | (apply c_region))
  refine w_alloc rfl (fun b4 w1 hn1 => ?_)
  obtain ⟨cs1, hb1, hl1⟩ := hn1.zblk Tryd.prog
  have hbel := hn1.below (Below.refl _ _) (Nat.le_refl _)
  have e1 := hn1.hb
  have hP1 := h.below hbel
  clear hn1
  have z1 := hbel.size
  have z1' := hb1.lt
  repeat (first | (apply w_op; (first | (apply p_mvS; apply Eq.refl) | (apply p_mvP; apply Eq.refl) | (apply p_asI; apply Eq.refl)); apply Eq.refl) | (apply w_nil) | (apply c_seq) | (apply e_then) | (apply c_region))
  refine w_callB cl34 (there_ok_w hP1 hF p hs) rfl (fun w2 hb2 => ?_)
  replace hb1 := hb1.below hb2 z1'
  replace hbel := hbel.trans (hb2.mono z1)
  have hP2 := hP1.below hb2
  have z2 := hbel.size
  have z2' := hb1.lt
  clear hb2
  repeat (first | (apply w_op; (first | (apply p_mvI; apply Eq.refl) | (apply p_mvT; apply Eq.refl) | (apply p_asI; apply Eq.refl) | (apply p_assign) | (apply p_extract; apply Eq.refl; apply Eq.refl) | (apply p_neq; apply Eq.refl; apply Eq.refl)); apply Eq.refl) | (apply w_nil) | (apply c_seq) | (apply e_then) | (apply c_region))
  first | refine c_ifd rfl (fun g => ?_) (fun g => ?_) | refine c_ifnd rfl (fun g => ?_) (fun g => ?_) | refine c_ifn rfl (fun g => ?_) (fun g => ?_) | refine c_cond rfl (fun g => ?_) (fun g => ?_)
  · have hst : F.stat p = (St.zero, F.thereE p) := by rw [Ft.stat, if_pos g]
    repeat (first | (apply c_seq) | (apply c_region))
    refine w_op (p_build (by kernel_rfl : Tryd.prog.built 38 [] = some (enSt St.zero).toArray)) rfl ?_
    repeat (apply w_op; (apply p_mvI; apply Eq.refl); apply Eq.refl)
    refine w_storeW rfl rfl rfl rfl hb1 hl1 (fun w3 hp3 hb3 => ?_)
    repeat (first | (apply w_op; (apply p_asI; apply Eq.refl); apply Eq.refl) | (apply w_nil) | (apply e_then) | (apply c_ret) | (apply e_then_ret))
    exact r_retC2 Tryd.results18 rfl (run_loadS hb3.obj0 rfl) rfl ⟨by rw [hst]; rfl, hp3.below hbel z2 (by omega)⟩
  · obtain ⟨t, h1, h2, h3, h4⟩ := there_ok (by omega : F.thereE p = 0)
    have hst : F.stat p = (tellT F.L p t, 0) := by rw [Ft.stat, if_neg (by simp [g]), h1]
    rw [h1]
    repeat (first | (apply w_op; (apply p_mvP; apply Eq.refl); apply Eq.refl) | (apply c_seq) | (apply e_then) | (apply c_region) | (apply c_skip))
    refine w_callB cl35 (tell_ok hP2 hF h2) rfl (fun w3 hb3 => ?_)
    replace hb1 := hb1.below hb3 z2'
    replace hbel := hbel.trans (hb3.mono z2)
    skip
    refine w_storeW rfl rfl rfl rfl hb1 hl1 (fun w4 hp4 hb4 => ?_)
    repeat (first | (apply w_op; (apply p_asI; apply Eq.refl); apply Eq.refl) | (apply w_nil) | (apply e_then) | (apply c_ret))
    exact r_retC2 Tryd.results18 rfl (run_loadS hb4.obj0 rfl) rfl ⟨by rw [hst]; rfl, hp4.below hbel hbel.size (by omega)⟩
theorem fresh_ok_w (h : PT w S bt F bk km) (hF : Wf F) (p : ByteArray) (hs : p.size ≤ 1099511627775) : Ret Tryd.prog 37 [.pointer (some ⟨bt, 0, none⟩), .string p] w
    fun v w' => v = .tuple #[F.dirV bk p, .int .i64 (F.freshE p)] ∧ Below w.heap.size w w' := by
  refine calls_in Tryd.func37 rfl Tryd.ntmps37 rfl ?_
  repeat (first | (apply w_op; (first | (apply p_mvS; apply Eq.refl) | (apply p_mvP; apply Eq.refl) | (apply p_asI; apply Eq.refl) | (apply p_asP; apply Eq.refl)); apply Eq.refl) | (apply w_nil) | (apply c_seq) | (apply e_then) | (apply c_region))
  refine w_callB cl39 (look_ok_w h hF p hs) rfl (fun w1 hb1 => ?_)
  generalize hn : (F.look p).1 = o at *
  generalize he : (F.look p).2 = e at *
  have hE : F.freshE p = if e = 0 ∧ o.isSome = true then 11 else e := by unfold Ft.freshE; rw [hn, he]
  obtain ⟨ov, hov, hoi⟩ : ∃ ov, nptr bk o = .pointer ov ∧ ov.isNone = o.isNone := by
    cases o with
    | none => exact ⟨none, rfl, rfl⟩
    | some t => exact ⟨_, rfl, rfl⟩
  have hoi' : o.isSome = !ov.isNone := by rw [hoi]; simp
  rw [hov]
  repeat (first | (apply w_op; (first | (apply p_mvI; apply Eq.refl) | (apply p_mvB; apply Eq.refl) | (apply p_mvP; apply Eq.refl) | (apply p_mvT; apply Eq.refl) | (apply p_asI; apply Eq.refl) | (apply p_asP; apply Eq.refl) | (apply p_assign) | (apply p_extract; apply Eq.refl; apply Eq.refl) | (apply p_eql; apply Eq.refl; apply Eq.refl) | (apply p_pick_t; apply Eq.refl; apply Eq.refl) | (apply p_pick_f; apply Eq.refl; apply Eq.refl) | (apply p_pnenil; apply Eq.refl; apply Eq.refl)); apply Eq.refl) | (apply w_nil) | (apply c_seq) | (apply e_then) | (apply c_region) | (apply w_on; apply Eq.refl) | (apply w_off; apply Eq.refl; apply Eq.refl) | (apply w_andd; apply Eq.refl; apply Eq.refl; (repeat (first | apply Seg.pick | apply Seg.op | apply Seg.op0)); apply Eq.refl; intro _) | (apply e_sc; (repeat (first | exact Over.base | exact Over.refl | refine Over.put rfl ?_ | refine Over.cnP rfl ?_ | refine Over.zpP rfl ?_)); apply Eq.refl) | (intro _))
  first | refine c_ifd rfl (fun g => ?_) (fun g => ?_) | refine c_ifnd rfl (fun g => ?_) (fun g => ?_) | refine c_ifn rfl (fun g => ?_) (fun g => ?_) | refine c_cond rfl (fun g => ?_) (fun g => ?_)
  · repeat (first | (apply w_op; (first | (apply p_mvI; apply Eq.refl) | (apply p_move) | (apply p_asI; apply Eq.refl) | (apply p_assign)); apply Eq.refl) | (apply w_nil) | (apply c_seq) | (apply e_then) | (apply c_region) | (apply c_ret))
    refine r_ret2 Tryd.results37 rfl ⟨?_, hb1⟩
    rw [hE, if_pos (by simp only [Bool.and_eq_true, decide_eq_true_eq] at g; exact ⟨g.1, by rw [hoi']; exact g.2⟩)]
    rfl
  · repeat (first | (apply w_op; (first | (apply p_mvI; apply Eq.refl) | (apply p_move) | (apply p_asI; apply Eq.refl) | (apply p_assign)); apply Eq.refl) | (apply w_nil) | (apply c_seq) | (apply e_then) | (apply c_region) | (apply c_skip) | (apply c_ret))
    refine r_ret2 Tryd.results37 rfl ⟨?_, hb1⟩
    rw [hE, if_neg (by rintro ⟨q1, q2⟩; rw [hoi'] at q2; simp [q1, q2] at g)]
    rfl
theorem may_ok (w : World) (bt : Nat) (p : ByteArray) (m : Mt) (hs : p.size ≤ 1099511627775) : Ret Tryd.prog 36 [.pointer (some ⟨bt, 0, none⟩), .string p, .agg (enMt m).toArray] w
    fun v w' => v = .int .i64 (mayE p m) ∧ Below w.heap.size w w' := by
  refine calls_in Tryd.func36 rfl Tryd.ntmps36 rfl ?_
  refine c_seq (c_region (w_box rfl rfl (fun b w1 hn => ?_)))
  have hb : Cel w1 ⟨b, 0, none⟩ (enMt m) := hn.blk.obj0
  have hbel := hn.below (Below.refl _ _) (Nat.le_refl _)
  clear hn
  have z1 := hbel.size
  repeat (first | (apply w_op; (first | (apply p_mvS; apply Eq.refl) | (apply p_mvP; apply Eq.refl) | (apply p_asI; apply Eq.refl) | (apply p_peqnil; apply Eq.refl; apply Eq.refl)); apply Eq.refl) | (apply w_nil) | (apply c_seq) | (apply e_then) | (apply c_region) | (apply c_cond_f; apply Eq.refl) | (apply c_skip))
  refine w_callB cl14 (right_ok p _ hs) rfl (fun w2 hb2 => ?_)
  replace hb := Cel.bel hb2 hb (Nat.zero_lt_succ _)
  replace hbel := hbel.trans (hb2.mono z1)
  clear hb2
  have z2 := hbel.size
  repeat (first | (apply w_op; (apply p_not; apply Eq.refl); apply Eq.refl) | (apply w_nil) | (apply e_then))
  first | refine c_ifd rfl (fun g => ?_) (fun g => ?_) | refine c_ifnd rfl (fun g => ?_) (fun g => ?_) | refine c_ifn rfl (fun g => ?_) (fun g => ?_) | refine c_cond rfl (fun g => ?_) (fun g => ?_)
  · repeat (first | (apply w_op; (apply p_asI; apply Eq.refl); apply Eq.refl) | (apply w_nil) | (apply c_seq) | (apply e_then) | (apply c_region) | (apply c_ret) | (apply e_then_ret))
    exact r_ret1 Tryd.results36 rfl ⟨congrArg (Value.int .i64) (by rw [mayE, if_pos (by simpa using g)]), hbel⟩
  · repeat (first | (apply w_op; (apply p_loadS; apply Eq.refl; (first | assumption | (apply Cel.bel; assumption; assumption; apply Nat.zero_lt_succ)); apply Eq.refl); apply Eq.refl) | (apply c_seq) | (apply e_then) | (apply c_region) | (apply c_skip))
    refine w_callB cl54 (metaCheck_ok m _) rfl (fun w3 hb3 => ?_)
    replace hbel := hbel.trans (hb3.mono z2)
    repeat (first | (apply w_op; (apply p_neq; apply Eq.refl; apply Eq.refl); apply Eq.refl) | (apply w_nil) | (apply e_then))
    first | refine c_ifd rfl (fun g2 => ?_) (fun g2 => ?_) | refine c_ifnd rfl (fun g2 => ?_) (fun g2 => ?_) | refine c_ifn rfl (fun g2 => ?_) (fun g2 => ?_) | refine c_cond rfl (fun g2 => ?_) (fun g2 => ?_)
    · repeat (first | (apply w_op; (apply p_asI; apply Eq.refl); apply Eq.refl) | (apply w_nil) | (apply c_seq) | (apply e_then) | (apply c_region) | (apply c_ret) | (apply e_then_ret))
      exact r_ret1 Tryd.results36 rfl ⟨congrArg (Value.int .i64) (by rw [mayE, if_neg (by simpa using g), if_neg g2]), hbel⟩
    · repeat (first | (apply w_op; (apply p_asI; apply Eq.refl); apply Eq.refl) | (apply w_nil) | (apply c_seq) | (apply e_then) | (apply c_region) | (apply c_skip) | (apply c_ret))
      exact r_ret1 Tryd.results36 rfl ⟨congrArg (Value.int .i64) (by rw [mayE, if_neg (by simpa using g), if_pos g2]), hbel⟩
end
end Go.Proofs.YtmgheamdboiklaaDoor
