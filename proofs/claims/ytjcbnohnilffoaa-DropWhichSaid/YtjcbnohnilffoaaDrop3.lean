/- THE WALKS of package drop: below, Which, Kept. -/
import Derived.Test.YtjcbnohnilffoaaDrop2
import Derived.Test.YtjcbnohnilffoaaDefer
set_option linter.unusedVariables false
namespace Go.Proofs.Ytjcbnohnilffoaa
open Go.RowKit

/-! ### what is told -/
structure OutV (w : World) (bo : Nat) (vo : Value) (xs : List ByteArray) : Prop where
  blk : Blk w bo 28 [vo]
  own : w.ownsRow (bo + 1) 9 1 vo xs.length (xs.map .string)
structure Eff (w w' : World) (bo : Nat) (vo vo' : Value) : Prop where
  os : w'.os = w.os
  tape : w'.tape = w.tape
  output : w'.output = w.output
  size : w.heap.size ≤ w'.heap.size
  block : ∀ i, i < w.heap.size → i ≠ bo → some i ≠ vo.ownBlock → w'.heap[i]? = w.heap[i]?
  own : vo'.ownBlock = vo.ownBlock ∨ ∃ g, vo'.ownBlock = some g ∧ w.heap.size ≤ g
section
variable {w w' w'' : World} {bo : Nat} {vo vo' vo'' : Value} {xs : List ByteArray}
theorem Eff.trans (h : Eff w w' bo vo vo') (k : Eff w' w'' bo vo' vo'') : Eff w w'' bo vo vo'' := by
  refine ⟨k.os.trans h.os, k.tape.trans h.tape, k.output.trans h.output, Nat.le_trans h.size k.size, fun i hi hb ho => ?_, ?_⟩
  · rw [k.block i (Nat.lt_of_lt_of_le hi h.size) hb ?_, h.block i hi hb ho]
    rcases h.own with e | ⟨g, e, hg⟩
    · rw [e]; exact ho
    · rw [e]; intro q; injection q with q; omega
  · rcases k.own with e | ⟨g, e, hg⟩
    · rw [e]; exact h.own
    · exact .inr ⟨g, e, Nat.le_trans h.size hg⟩
theorem Eff.of_grown (h : w.grownBy w' none) : Eff w w' bo vo vo := ⟨h.os, h.tape, h.output, h.size, fun i hi _ _ => h.block i hi (by simp), .inl rfl⟩
theorem Eff.refl : Eff w w bo vo vo := ⟨rfl, rfl, rfl, Nat.le_refl _, fun _ _ _ _ => rfl, .inl rfl⟩
theorem Eff.below (h : Eff w w' bo vo vo') (ho : OutV w bo vo xs) : Below bo w w' := by
  have hlt := ho.blk.lt
  exact ⟨h.os, h.tape, h.output, h.size, fun i hi => h.block i (by omega) (by omega) (own_ne ho.own (by omega))⟩
theorem OutV.grown (h : OutV w bo vo xs) (hg : w.grownBy w' none) : OutV w' bo vo xs := ⟨h.blk.grown hg (by simp), own_grown h.own hg (by cases vo.ownBlock <;> simp)⟩
end

theorem tell_ok (p : ByteArray) (w : World) (bo : Nat) (vo : Value) (xs : List ByteArray) (h : OutV w bo vo xs) (hl : xs.length ≤ 1000000000) :
    Ret Try.prog 22 [.string p, .pointer (some ⟨bo, 0, none⟩)] w fun _ w' => ∃ vo', Eff w w' bo vo vo' ∧ OutV w' bo vo' (xs ++ [p]) := by
  have hblt := h.blk.lt
  refine calls_in Try.func22 rfl Try.ntmps22 rfl ?_
  repeat (apply c_region)
  refine w_op (p_load0 (v := vo) rfl h.blk.obj0 rfl) rfl ?_
  repeat (apply w_op; (apply p_mvS; apply Eq.refl); apply Eq.refl)
  refine w_app1 (v1 := .string p) (v := vo) rfl (fun _ => rfl) h.own rfl rfl (by omega) rfl rfl (fun v4 w4 u4 hown4 hg4 hbl4 hs4 hnn4 => ?_)
  have hb4 := h.blk.grown hg4 (own_ne h.own (by omega))
  refine w_store (v := v4) (b := bo) (j := 0) (cs := [vo]) (e := 28) ⟨_, _, inferInstance⟩ rfl rfl rfl ?_ hb4 rfl (fun w5 hp5 hb5 => ?_)
  · rcases hown4.2 with ⟨e, _⟩ | ⟨g, cap, cur, e, _⟩
    · rw [e]; rfl
    · rw [e]; rfl
  repeat (apply w_nil)
  refine r_end0 Try.results22 ⟨v4, ⟨hp5.grown.os.trans hg4.os, hp5.grown.tape.trans hg4.tape, hp5.grown.output.trans hg4.output, by have := hp5.size; omega, fun i hi hb ho => ?_, ?_⟩, ⟨hb5, ?_⟩⟩
  · rw [hp5.grown.block i (by omega) (fun e => by injection e with e; exact hb e), hg4.block i hi ho]
  · rcases hbl4 with e | ⟨g, e, hg⟩
    · exact .inl e
    · exact .inr ⟨g, e, hg⟩
  · have := own_put hown4 hp5 (own_ne hown4 (by omega))
    simpa [Value.cells] using this

/-! ### both sides, as they are read -/
structure St (w : World) (bo bx : Nat) (dst : List En) (why : List Int) : Prop where
  out : ∃ (A2 : Option Addr) (c2 bs bw bk n : Nat) (v3 : Value) (mk : ByteArray → Option Value), Cel w ⟨bx, 0, none⟩ [.map (some bs), .slice A2 dst.length c2, v3, .slice (some ⟨bw, 0, none⟩) dst.length dst.length, .map (some bk)] ∧ bx < bo ∧
    Ens w bo (.slice A2 dst.length c2) dst ∧ Blk w bw 3 (zvs why) ∧ bw < bo ∧ Mp w bk mk n ∧ bk < bo ∧ ∀ s, Sl enN 1 w bo (kv mk s) (kidsOf dst s)
theorem St.below {w w' : World} {bo bx : Nat} {dst : List En} {why : List Int} (h : St w bo bx dst why) (hb : Below bo w w') : St w' bo bx dst why := by
  obtain ⟨A2, c2, bs, bw, bk, n, v3, mk, h1, h2, h3, h4, h5, h6, h7, h8⟩ := h.out
  exact ⟨A2, c2, bs, bw, bk, n, v3, mk, h1.below hb h2, h2, h3.below hb, h4.below hb h5, h5, h6.below hb h7, h7, fun s => (h8 s).below hb⟩
theorem LA.st {w0 w : World} {bx bs bw bk base B : Nat} {A2 : Option Addr} {c2 : Nat} {v3 : Value} {ms mk : ByteArray → Option Value} {dst : List En} {why : List Int}
    (h : LA w0 w bx bs bw bk base [.map (some bs), .slice A2 dst.length c2, v3, .slice (some ⟨bw, 0, none⟩) dst.length dst.length, .map (some bk)] (zvs why) ms mk (kidsOf dst)) (hd : Ens w0 B (.slice A2 dst.length c2) dst) (hB : B ≤ w0.heap.size) : St w w.heap.size bx dst why := by
  obtain ⟨n, hk⟩ := h.hk
  have hlt := h.lt
  have hsz := h.hb.size
  refine ⟨A2, c2, bs, bw, bk, n, v3, mk, h.hx.obj0, by omega, (hd.below (h.hb.mono hB)).more (by omega), h.hw, by omega, hk, by omega, fun s => ?_⟩
  refine Sl.of_own (en := enN) ?_ (fun _ => rfl) (h.hr s)
  rw [ivs]
  induction kidsOf dst s <;> simp_all [enN]
def tellV (bo : Nat) : Value := .func (.func 22) #[] #[.pointer (some ⟨bo, 0, none⟩)]

theorem below1_ok (w : World) (bo bx i b3 b4 b5 : Nat) (dst : List En) (why : List Int) (vo : Value) (xs : List ByteArray) (hst : St w bo bx dst why) (hwl : why.length = dst.length) (ho : OutV w bo vo xs) (hi : i < dst.length) (hl : xs.length ≤ 1000000000)
    (h3 : Cel w ⟨b3, 0, none⟩ [.pointer (some ⟨bx, 0, none⟩)]) (h4 : Cel w ⟨b4, 0, none⟩ [.int .i64 (i : Int)]) (h5 : Cel w ⟨b5, 0, none⟩ [tellV bo]) :
    DRet Try.prog 35 [.pointer (some ⟨b3, 0, none⟩), .pointer (some ⟨b4, 0, none⟩), .pointer (some ⟨b5, 0, none⟩)] w fun _ w' => ∃ vo', Eff w w' bo vo vo' ∧ OutV w' bo vo' (xs ++ (if why[i]? = some 0 then [dst[i].path] else [])) := by
  obtain ⟨A2, c2, bs, bw, bk, n, v3, mk, hx, hxb, hd, hw, hwb, hm, hmb, hk⟩ := hst.out
  obtain ⟨ad, hA, hblk, hcel⟩ := hd.at_ rfl hi
  subst hA
  have hwi : (zvs why)[i]? = some (.int .i64 (why[i]'(by omega))) := by simp [zvs, hwl, hi]
  have hwi2 : why[i]? = some (why[i]'(by omega)) := List.getElem?_eq_getElem (by omega)
  obtain ⟨wi, hwe⟩ : ∃ wi, why[i]'(by omega) = wi := ⟨_, rfl⟩
  rw [hwe] at hwi hwi2
  refine dcalls_in Try.func35 rfl Try.ntmps35 rfl ?_
  repeat (apply c_seq)
  refine c_quiet (fun x => x = w.drew) mixed (by kernel_rfl) rfl ?_
  skip
  refine q_op (fun x hx' => p_load0 (v := .pointer (some ⟨bx, 0, none⟩)) rfl (hx' ▸ h3.drew) rfl) rfl ?_
  repeat (apply q_op; intro _ hC; (first | (apply p_nilCheck; apply Eq.refl) | (apply p_fieldAddr; apply Eq.refl)); apply Eq.refl)
  refine q_op (fun x hx' => p_loadF (j := 3) (v := .slice (some ⟨bw, 0, none⟩) dst.length dst.length) rfl (hx' ▸ hx.drew) rfl) rfl ?_
  refine q_op (fun x hx' => p_load0 (v := .int .i64 (i : Int)) rfl (hx' ▸ h4.drew) rfl) rfl ?_
  repeat (apply q_op; intro _ hC; (apply p_indexAddr; apply Eq.refl; apply Eq.refl; apply Eq.refl; omega); apply Eq.refl)
  refine q_op (fun x hx' => p_loadA (a' := (⟨bw, 0, none⟩ : Addr).add (((i : Int)).toNat * 1)) (v := .int .i64 wi) (j := i) rfl (by simp) (hx' ▸ hw.drew.obj0) hwi) rfl ?_
  repeat (apply q_op; intro _ hC; (apply p_eql; apply Eq.refl; apply Eq.refl); apply Eq.refl)
  refine q_nil (fun w1 hw1 => ?_)
  subst hw1
  repeat (apply e_then)
  refine c_cond rfl (fun q => ?_) (fun q => ?_)
  · have q' := of_decide_eq_true q
    rw [if_pos (by rw [hwi2, q'])]
    skip
    refine c_mix (fun x => x = w.drew.drew) [0,1,2,3,4,5,6,7,8] [9] mixed (by kernel_rfl) rfl ?_
    skip
    refine s_op (fun x hx' => p_load0 (v := tellV bo) rfl (hx' ▸ h5.drew.drew) rfl) rfl ?_
    refine s_op (fun x hx' => p_load0 (v := .pointer (some ⟨bx, 0, none⟩)) rfl (hx' ▸ h3.drew.drew) rfl) rfl ?_
    repeat (apply s_op; intro _ hC; (first | (apply p_nilCheck; apply Eq.refl) | (apply p_fieldAddr; apply Eq.refl)); apply Eq.refl)
    refine s_op (fun x hx' => p_loadF (j := 1) (v := .slice (some ad) dst.length c2) rfl (hx' ▸ hx.drew.drew) rfl) rfl ?_
    refine s_op (fun x hx' => p_load0 (v := .int .i64 (i : Int)) rfl (hx' ▸ h4.drew.drew) rfl) rfl ?_
    repeat (apply s_op; intro _ hC; (first | (apply p_fieldAddr; apply Eq.refl) | (apply p_indexAddr; apply Eq.refl; apply Eq.refl; apply Eq.refl; omega)); apply Eq.refl)
    refine s_op (fun x hx' => p_loadA (a' := (ad.add (((i : Int)).toNat * 11)).add 0) (v := .string dst[i].path) (j := 0) rfl (by simp) (hx' ▸ hcel.drew.drew) rfl) rfl ?_
    refine s_nil (t_step ?_)
    have ho2 := (ho.grown (gD w)).grown (gD w.drew)
    refine w_callv (f := 22) (first := #[]) (captured := #[.pointer (some ⟨bo, 0, none⟩)]) rfl cl22 (tell_ok dst[i].path _ bo vo xs ho2 hl) rfl ?_
    rintro v w3 ⟨vo', he3, ho3⟩
    refine w_nil (e_ts0 ?_)
    skip
    exact r_end0 Try.results35 ⟨vo', (Eff.of_grown (gD w)).trans ((Eff.of_grown (gD w.drew)).trans he3), ho3⟩
  · have q' := of_decide_eq_false q
    rw [if_neg (by rw [hwi2]; intro e; injection e with e; exact q' e), List.append_nil]
    repeat (apply c_skip)
    exact r_end0 Try.results35 ⟨vo, Eff.of_grown (gD w), ho.grown (gD w)⟩

structure Rise (dst : List En) : Prop where out : ∀ e ∈ dst, e.path ≠ noB ∧ e.path.size ≤ 200
theorem kid_more {dst : List En} (hr : Rise dst) {p : ByteArray} {k : Nat} (h : k ∈ kidsOf dst p) : ∃ hk : k < dst.length, p.size < (dst[k]'hk).path.size ∧ parent (dst[k]'hk).path = p := by
  obtain ⟨_, e, he, hp⟩ := kidsFrom_mem p dst 0 k h
  rw [Nat.sub_zero] at he
  obtain ⟨hk, rfl⟩ := List.getElem?_eq_some_iff.1 he
  refine ⟨hk, ?_, hp⟩
  rw [← hp]
  exact parent_lt (hr.out _ (List.getElem_mem hk)).1

set_option maxRecDepth 100000 in
theorem below_ok (dst : List En) (why : List Int) (bo bx : Nat) (hwl : why.length = dst.length) (hr : Rise dst) (hdl : dst.length ≤ 1000000) : ∀ (f i : Nat) (w : World) (vo : Value) (xs : List ByteArray) (hi : i < dst.length) (hst : St w bo bx dst why) (ho : OutV w bo vo xs) (hf : 200 < (dst[i]'hi).path.size + f) (hl : xs.length + (postF dst why f i).length ≤ 1000000000),
    Ret Try.prog 21 [.pointer (some ⟨bx, 0, none⟩), .int .i64 (i : Int), tellV bo] w fun _ w' => ∃ vo', Eff w w' bo vo vo' ∧ OutV w' bo vo' (xs ++ postF dst why f i) := by
  intro f
  induction f with
  | zero => intro i w vo xs hi hst ho hf hl; have := (hr.out _ (List.getElem_mem hi)).2; omega
  | succ f ih =>
    intro i w vo xs hi hst ho hf hl
    have hpost : postF dst why (f + 1) i = (kidsOf dst dst[i].path).flatMap (postF dst why f) ++ (if why[i]? = some 0 then [dst[i].path] else []) := by
      simp only [postF, List.getElem?_eq_getElem hi]
    rw [hpost, List.length_append] at hl
    have hbolt := ho.blk.lt
    refine calls_inD Try.func21 rfl Try.ntmps21 rfl ?_
    refine c_seq (c_region (w_box rfl rfl (fun b3 w1 hn1 => w_box rfl rfl (fun b4 w2 hn2 => w_box rfl rfl (fun b5 w3 hn3 => ?_)))))
    have z1 := hn1.size
    have z2 := hn2.size
    have z3 := hn3.size
    have e1 := hn1.hb
    have e2 := hn2.hb
    have e3 := hn3.hb
    have h3 : Cel w3 ⟨b3, 0, none⟩ [.pointer (some ⟨bx, 0, none⟩)] := (hn1.blk.obj0.grown (hn2.grown none) (by simp)).grown (hn3.grown none) (by simp)
    have h4 : Cel w3 ⟨b4, 0, none⟩ [.int .i64 (i : Int)] := hn2.blk.obj0.grown (hn3.grown none) (by simp)
    have h5 : Cel w3 ⟨b5, 0, none⟩ [tellV bo] := hn3.blk.obj0
    have he3 : Eff w w3 bo vo vo := (Eff.of_grown (hn1.grown none)).trans ((Eff.of_grown (hn2.grown none)).trans (Eff.of_grown (hn3.grown none)))
    have ho3 : OutV w3 bo vo xs := ((ho.grown (hn1.grown none)).grown (hn2.grown none)).grown (hn3.grown none)
    have hst3 := hst.below (he3.below ho)
    have hvo : ∀ j, vo.ownBlock = some j → j < w.heap.size := fun j hj => (ho.own.lt j hj).2
    clear hn1 hn2 hn3
    repeat (first | (apply w_op; (apply p_makeFunc); apply Eq.refl) | (apply w_nil) | (apply c_seq) | (apply e_then) | (apply c_region))
    refine w_defer (f := 35) (first := #[]) (captured := #[.pointer (some ⟨b3, 0, none⟩), .pointer (some ⟨b4, 0, none⟩), .pointer (some ⟨b5, 0, none⟩)]) rfl ?_
    obtain ⟨A2, c2, bs, bw, bk, n, v3, mk, hx, hxb, hd, hw, hwb, hm, hmb, hk⟩ := hst3.out
    obtain ⟨ad, hA, hblk, hcel⟩ := hd.at_ rfl hi
    subst hA
    obtain ⟨Ak, ck, hkv, hck, hAk⟩ := (hk dst[i].path).out
    repeat (first | (apply w_nil) | (apply c_seq) | (apply e_then))
    refine c_quiet (fun x => x = w3.drew) mixed (by kernel_rfl) rfl ?_
    refine q_op (fun x hx' => p_load0 (v := .pointer (some ⟨bx, 0, none⟩)) rfl (hx' ▸ h3.drew) rfl) rfl ?_
    repeat (apply q_op; intro _ hC; (first | (apply p_nilCheck; apply Eq.refl) | (apply p_fieldAddr; apply Eq.refl)); apply Eq.refl)
    refine q_op (fun x hx' => p_loadF (j := 4) (v := .map (some bk)) rfl (hx' ▸ hx.drew) rfl) rfl ?_
    refine q_op (fun x hx' => p_load0 (v := .pointer (some ⟨bx, 0, none⟩)) rfl (hx' ▸ h3.drew) rfl) rfl ?_
    repeat (apply q_op; intro _ hC; (first | (apply p_nilCheck; apply Eq.refl) | (apply p_fieldAddr; apply Eq.refl)); apply Eq.refl)
    refine q_op (fun x hx' => p_loadF (j := 1) (v := .slice (some ad) dst.length c2) rfl (hx' ▸ hx.drew) rfl) rfl ?_
    refine q_op (fun x hx' => p_load0 (v := .int .i64 (i : Int)) rfl (hx' ▸ h4.drew) rfl) rfl ?_
    repeat (apply q_op; intro _ hC; (first | (apply p_fieldAddr; apply Eq.refl) | (apply p_indexAddr; apply Eq.refl; apply Eq.refl; apply Eq.refl; omega)); apply Eq.refl)
    refine q_op (fun x hx' => p_loadA (a' := (ad.add (((i : Int)).toNat * 11)).add 0) (v := .string dst[i].path) (j := 0) rfl (by simp) (hx' ▸ hcel.drew) rfl) rfl ?_
    refine q_op (v := .slice Ak (kidsOf dst dst[i].path).length ck) (fun x hx' => p_lookupV (s := dst[i].path) rfl rfl (hx' ▸ hm.drew) hkv) rfl ?_
    repeat (apply q_op; intro _ hC; (first | (apply p_mvI; apply Eq.refl) | (apply p_len_sl; apply Eq.refl)); apply Eq.refl)
    refine q_nil (fun w4 hw4 => ?_)
    subst hw4
    have hklen : (kidsOf dst dst[i].path).length ≤ dst.length := kidsFrom_len _ _ _
    repeat (first | (apply e_then) | (apply c_block))
    refine c_loop [23] [7, 24, 25, 26, 27, 28, 29, 30, 31] (fun vs w5 => ∃ (k : Nat) (vo5 : Value), vs = [.int .i64 (k : Int)] ∧ k ≤ (kidsOf dst dst[i].path).length ∧ Eff w3 w5 bo vo vo5 ∧ OutV w5 bo vo5 (xs ++ ((kidsOf dst dst[i].path).take k).flatMap (postF dst why f))) (fun vs _ => (kidsOf dst dst[i].path).length - (intOf (vs.headD undef)).toNat) rfl
      ⟨0, vo, rfl, Nat.zero_le _, Eff.of_grown (gD w3), by simpa using ho3.grown (gD w3)⟩ ?_
    rintro _ u5 w5 ⟨k, vo5, rfl, hkl, he5, ho5⟩
    have hkeep : ∀ b, w.heap.size ≤ b → b < w3.heap.size → w5.heap[b]? = w3.heap[b]? := by
      intro b hb1 hb2
      refine he5.block b hb2 (by omega) ?_
      intro q
      have := hvo b q.symm
      omega
    have h35 : Cel w5 ⟨b3, 0, none⟩ [.pointer (some ⟨bx, 0, none⟩)] := h3.keep fun p hp => World.cell?_of_block (by rw [hp]; exact hkeep b3 (by omega) (by omega))
    have h45 : Cel w5 ⟨b4, 0, none⟩ [.int .i64 (i : Int)] := h4.keep fun p hp => World.cell?_of_block (by rw [hp]; exact hkeep b4 (by omega) (by omega))
    have h55 : Cel w5 ⟨b5, 0, none⟩ [tellV bo] := h5.keep fun p hp => World.cell?_of_block (by rw [hp]; exact hkeep b5 (by omega) (by omega))
    have hst5 := hst3.below (he5.below ho3)
    repeat (first | (apply w_op; (apply p_lss; apply Eq.refl; apply Eq.refl); apply Eq.refl) | (apply w_nil) | (apply c_seq) | (apply e_then) | (apply c_region))
    refine c_cond rfl (fun g => ?_) (fun g => ?_)
    · have hlt := of_decide_eq_true g
      have hk1 : k < (kidsOf dst dst[i].path).length := by omega
      have hk5 : Sl enN 1 w5 bo (.slice Ak (kidsOf dst dst[i].path).length ck) (kidsOf dst dst[i].path) := by
        have := (hk dst[i].path).below (he5.below ho3)
        rw [hkv] at this
        exact this
      obtain ⟨adk, rfl, hblkk, hcelk⟩ := hk5.at_ rfl hk1
      obtain ⟨hki, hksz, hkpar⟩ := kid_more hr (List.getElem_mem hk1)
      have htk : (kidsOf dst dst[i].path).take (k + 1) = (kidsOf dst dst[i].path).take k ++ [(kidsOf dst dst[i].path)[k]] := List.take_succ_eq_append_getElem hk1
      have hlen : (((kidsOf dst dst[i].path).take (k + 1)).flatMap (postF dst why f)).length ≤ ((kidsOf dst dst[i].path).flatMap (postF dst why f)).length := by
        conv => rhs; rw [← List.take_append_drop (k + 1) (kidsOf dst dst[i].path), List.flatMap_append, List.length_append]
        omega
      rw [htk, List.flatMap_append, List.length_append] at hlen
      simp only [List.flatMap_cons, List.flatMap_nil, List.append_nil] at hlen
      repeat (first | (apply w_op; (apply p_indexAddr; apply Eq.refl; apply Eq.refl; apply Eq.refl; omega); apply Eq.refl) | (apply c_seq) | (apply e_then) | (apply c_region) | (apply c_block) | (apply c_skip))
      refine w_op (p_load0 (v := .int .i64 ((kidsOf dst dst[i].path)[k] : Int)) rfl hcelk rfl) rfl ?_
      repeat (first | (apply w_op; (apply p_asI; apply Eq.refl); apply Eq.refl) | (apply w_nil) | (apply e_then) | (apply c_region))
      refine w_op (p_load0 (v := .pointer (some ⟨bx, 0, none⟩)) rfl h35 rfl) rfl ?_
      repeat (apply w_op; (apply p_mvI; apply Eq.refl); apply Eq.refl)
      refine w_op (p_load0 (v := tellV bo) rfl h55 rfl) rfl ?_
      refine w_call cl21 (ih (kidsOf dst dst[i].path)[k] w5 vo5 _ hki hst5 ho5 (by omega) (by rw [List.length_append]; omega)) rfl ?_
      rintro v w6 ⟨vo6, he6, ho6⟩
      repeat (first | (apply w_op; (first | (apply p_mvI; apply Eq.refl) | (apply p_add64; apply Eq.refl; apply Eq.refl; omega)); apply Eq.refl) | (apply w_nil) | (apply e_then) | (apply c_region) | (apply e_bk))
      refine e_lp (by repeat (first | exact Over.base | exact Over.refl | refine Over.put rfl ?_ | refine Over.cnP rfl ?_ | refine Over.zpP rfl ?_)) ?_
      refine ⟨⟨k + 1, vo6, rfl, by omega, he5.trans he6, ?_⟩, ?_⟩
      · rw [htk, List.flatMap_append]
        simpa using ho6
      · show (kidsOf dst dst[i].path).length - ((k : Int) + 1).toNat < (kidsOf dst dst[i].path).length - ((k : Int)).toNat
        omega
    · have hge := of_decide_eq_false g
      obtain rfl : k = (kidsOf dst dst[i].path).length := by omega
      rw [List.take_length] at ho5
      repeat (first | (apply c_exit) | (apply e_then_exit) | (apply e_bk_same) | (apply e_lp_exit))
      refine r_endD (f := 35) Try.results21 cl35 (below1_ok w5 bo bx i b3 b4 b5 dst why vo5 _ hst5 hwl ho5 hi (by rw [List.length_append]; omega) h35 h45 h55) ?_
      rintro v w6 ⟨vo6, he6, ho6⟩
      refine ⟨vo6, he3.trans (he5.trans he6), ?_⟩
      rw [hpost]
      simpa using ho6

/-! ### Which -/
def WhichR (l : List ByteArray) (n : Int) (v : Value) (w' : World) : Prop := ∃ vo, v = .tuple #[vo, .int .i64 n] ∧ Strs w' w'.heap.size vo l
theorem OutV.strs {w : World} {bo : Nat} {vo : Value} {xs : List ByteArray} (h : OutV w bo vo xs) : Strs w w.heap.size vo xs := Sl.of_own (enS_map _) (fun _ => rfl) h.own

set_option maxRecDepth 100000 in
theorem which_ok (v1 v2 v3 : Value) (src dst : List En) (rs : List Rl) (ocs : List Value) (del most : Int) (w : World) (B : Nat) (h1 : Ens w B v1 src) (h2 : Ens w B v2 dst) (h3 : Rls w B v3 rs) (hB : B ≤ w.heap.size) (hl1 : src.length ≤ 1000000) (hl2 : dst.length ≤ 1000000) (hl3 : rs.length ≤ 1000000)
    (hi1 : EnsIn src) (hi2 : EnsIn dst) (hi3 : RlsIn rs) (hlen : listsBad src dst = false → (dropAll src dst rs).length ≤ 1000000) (ho0 : ocs[0]? = some (.int .i64 del)) (ho1 : ocs[1]? = some (.int .i64 most)) : Ret Try.prog 9 [v1, v2, v3, .agg ocs.toArray] w fun v w' => WhichR (dropWhich src dst rs del most).1 (dropWhich src dst rs del most).2 v w' ∧ Below w.heap.size w w' := by
  obtain ⟨A2, c2, rfl, hc2, hA2⟩ := h2.out
  refine calls_in Try.func9 rfl Try.ntmps9 rfl ?_
  refine c_seq (c_region (w_box rfl rfl (fun b7 w1 hn1 => ?_)))
  have hob : Cel w1 ⟨b7, 0, none⟩ ocs := hn1.blk.obj0
  have hb1 := hn1.below (Below.refl _ _) (Nat.le_refl _)
  have z1 := hn1.size
  have e1 := hn1.hb
  repeat (first | (apply w_op; (first | (apply p_mvL; apply Eq.refl) | (apply p_move) | (apply p_asI; apply Eq.refl) | (apply p_asL; apply Eq.refl)); apply Eq.refl) | (apply w_nil) | (apply c_seq) | (apply e_then) | (apply c_region))
  refine w_call cl20 (look_ok v1 _ v3 src dst rs _ B (h1.below (hb1.mono hB)) (h2.below (hb1.mono hB)) (h3.below (hb1.mono hB)) (by omega) hl1 hl2 hl3 hi1 hi2 hi3) rfl ?_
  rintro v w2 ⟨hlook, hb2⟩
  have hbel2 := hb1.trans (hb2.mono hb1.size)
  have hob2 := hob.below hb2 (show b7 < _ by omega)
  have z2 := hb2.size
  unfold LookR at hlook
  by_cases hbad : listsBad src dst = true
  · rw [if_pos hbad] at hlook
    subst hlook
    repeat (first | (apply w_op; (first | (apply p_mvP; apply Eq.refl) | (apply p_asP; apply Eq.refl)); apply Eq.refl) | (apply w_nil) | (apply c_seq) | (apply e_then) | (apply c_region))
    refine w_op (p_peqnil (a := none) rfl rfl) rfl ?_
    repeat (first | (apply w_op; (first | (apply p_mvB; apply Eq.refl) | (apply p_asI; apply Eq.refl) | (apply p_asL; apply Eq.refl) | (apply p_pick_t; apply Eq.refl; apply Eq.refl)); apply Eq.refl) | (apply w_nil) | (apply c_seq) | (apply e_then) | (apply c_region) | (apply w_off; apply Eq.refl; apply Eq.refl) | (apply c_cond_t; apply Eq.refl) | (apply c_ret) | (apply e_then_ret))
    refine r_ret2 Try.results9 rfl ⟨?_, hbel2⟩
    rw [dropWhich, if_pos (.inl hbad)]
    exact ⟨_, rfl, Sl.nil _ _⟩
  · rw [if_neg hbad] at hlook
    obtain ⟨bx, bs, bw, bk, base, ms, mk, rfl, hLA⟩ := hlook
    have hst2 := hLA.st (h2.below (hb1.mono hB)) (by omega)
    have hbad' : listsBad src dst = false := by simpa using hbad
    have hokd : flErr dst = 0 := by
      unfold listsBad at hbad'
      simp at hbad'
      exact hbad'.2
    have hlen' := hlen hbad'
    have hrise : Rise dst := ⟨fun e he => by
      have := alone_path (fl_all hokd e he)
      exact ⟨this.2, right_size this.1⟩⟩
    repeat (first | (apply w_op; (first | (apply p_mvP; apply Eq.refl) | (apply p_asP; apply Eq.refl)); apply Eq.refl) | (apply w_nil) | (apply c_seq) | (apply e_then) | (apply c_region))
    refine w_op (p_peqnil (a := some ⟨bx, 0, none⟩) rfl rfl) rfl ?_
    repeat (first | (apply w_op; (first | (apply p_mvB; apply Eq.refl) | (apply p_fieldAddr; apply Eq.refl)); apply Eq.refl) | (apply w_on; apply Eq.refl))
    refine w_op (p_loadF (a := ⟨b7, 0, none⟩) (j := 0) (v := .int .i64 del) rfl hob2 ho0) rfl ?_
    repeat (first | (apply w_op; (first | (apply p_eql; apply Eq.refl; apply Eq.refl) | (apply p_pick_f; apply Eq.refl; apply Eq.refl)); apply Eq.refl) | (apply w_nil) | (apply e_then) | (apply w_on; apply Eq.refl))
    refine c_cond rfl (fun q => ?_) (fun q => ?_)
    · have q' := of_decide_eq_true q
      repeat (first | (apply w_op; (first | (apply p_asI; apply Eq.refl) | (apply p_asL; apply Eq.refl)); apply Eq.refl) | (apply w_nil) | (apply c_seq) | (apply e_then) | (apply c_region) | (apply c_ret) | (apply e_then_ret))
      refine r_ret2 Try.results9 rfl ⟨?_, hbel2⟩
      rw [dropWhich, if_pos (.inr q')]
      exact ⟨_, rfl, Sl.nil _ _⟩
    · have q' := of_decide_eq_false q
      have hdw : dropWhich src dst rs del most = if 0 < most ∧ most < ((dropAll src dst rs).length : Int) then ((dropAll src dst rs).take most.toNat, (dropAll src dst rs).length - most) else (dropAll src dst rs, 0) := by
        rw [dropWhich, if_neg (by rintro (e | e); exact hbad e; exact q' e)]
      repeat (first | (apply c_seq) | (apply e_then) | (apply c_region) | (apply c_skip))
      refine w_alloc rfl (fun bo w3 hn3 => ?_)
      have e3 := hn3.hb
      have z3 := hn3.size
      have ho3 : OutV w3 bo (.slice none 0 0) [] := ⟨hn3.blk, World.ownsRow_nil _ _ _ _⟩
      have hbel3 := hn3.below hbel2 (by omega)
      have hst3 : St w3 bo bx dst (whyL src dst rs) := by rw [e3]; exact hst2.below (hn3.below (Below.refl _ _) (Nat.le_refl _))
      have hob3 := hob2.grown (hn3.grown none) (by simp)
      have hbo7 : b7 < bo := by omega
      clear hn3
      obtain ⟨A2', c2', bs', bw', bk', n, v3', mk', hx, hxb, hd, hw, hwb, hm, hmb, hk⟩ := hst3.out
      obtain ⟨Ak, ck, hkv, hck, hAk⟩ := (hk noB).out
      repeat (first | (apply w_op; (first | (apply p_mvP; apply Eq.refl) | (apply p_nilCheck; apply Eq.refl) | (apply p_fieldAddr; apply Eq.refl)); apply Eq.refl) | (apply w_nil) | (apply c_seq) | (apply e_then) | (apply c_region))
      refine w_op (p_loadF (j := 4) (v := .map (some bk')) rfl hx rfl) rfl ?_
      refine w_op (v := .slice Ak (kidsOf dst noB).length ck) (p_lookupV (s := noB) rfl rfl hm hkv) rfl ?_
      have hklen : (kidsOf dst noB).length ≤ dst.length := kidsFrom_len _ _ _
      repeat (first | (apply w_op; (first | (apply p_mvI; apply Eq.refl) | (apply p_len_sl; apply Eq.refl)); apply Eq.refl) | (apply w_nil) | (apply e_then) | (apply c_block))
      refine c_loop [31] [13, 32, 33, 34, 35, 36, 37, 38, 39] (fun vs w5 => ∃ (k : Nat) (vo5 : Value), vs = [.int .i64 (k : Int)] ∧ k ≤ (kidsOf dst noB).length ∧ Eff w3 w5 bo (.slice none 0 0) vo5 ∧ OutV w5 bo vo5 (((kidsOf dst noB).take k).flatMap (postF dst (whyL src dst rs) 201))) (fun vs _ => (kidsOf dst noB).length - (intOf (vs.headD undef)).toNat) rfl
        ⟨0, _, rfl, Nat.zero_le _, Eff.refl, by simpa using ho3⟩ ?_
      rintro _ u5 w5 ⟨k, vo5, rfl, hkl, he5, ho5⟩
      have hst5 := hst3.below (he5.below ho3)
      repeat (first | (apply w_op; (apply p_lss; apply Eq.refl; apply Eq.refl); apply Eq.refl) | (apply w_nil) | (apply c_seq) | (apply e_then) | (apply c_region))
      refine c_cond rfl (fun g => ?_) (fun g => ?_)
      · have hlt := of_decide_eq_true g
        have hk1 : k < (kidsOf dst noB).length := by omega
        have hk5 : Sl enN 1 w5 bo (.slice Ak (kidsOf dst noB).length ck) (kidsOf dst noB) := by
          have := (hk noB).below (he5.below ho3)
          rw [hkv] at this
          exact this
        obtain ⟨adk, rfl, hblkk, hcelk⟩ := hk5.at_ rfl hk1
        obtain ⟨hki, hksz, hkpar⟩ := kid_more hrise (List.getElem_mem hk1)
        have htk : (kidsOf dst noB).take (k + 1) = (kidsOf dst noB).take k ++ [(kidsOf dst noB)[k]] := List.take_succ_eq_append_getElem hk1
        have hlen2 : (((kidsOf dst noB).take (k + 1)).flatMap (postF dst (whyL src dst rs) 201)).length ≤ ((kidsOf dst noB).flatMap (postF dst (whyL src dst rs) 201)).length := by
          conv => rhs; rw [← List.take_append_drop (k + 1) (kidsOf dst noB), List.flatMap_append, List.length_append]
          omega
        rw [htk, List.flatMap_append, List.length_append] at hlen2
        simp only [List.flatMap_cons, List.flatMap_nil, List.append_nil] at hlen2
        have hlen3 : ((kidsOf dst noB).flatMap (postF dst (whyL src dst rs) 201)).length ≤ 1000000 := hlen'
        repeat (first | (apply w_op; (apply p_indexAddr; apply Eq.refl; apply Eq.refl; apply Eq.refl; omega); apply Eq.refl) | (apply c_seq) | (apply e_then) | (apply c_region) | (apply c_block) | (apply c_skip))
        refine w_op (p_load0 (v := .int .i64 ((kidsOf dst noB)[k] : Int)) rfl hcelk rfl) rfl ?_
        repeat (first | (apply w_op; (first | (apply p_mvI; apply Eq.refl) | (apply p_mvP; apply Eq.refl) | (apply p_asI; apply Eq.refl) | (apply p_makeFunc)); apply Eq.refl) | (apply w_nil) | (apply e_then) | (apply c_region))
        refine w_call cl21 (below_ok dst (whyL src dst rs) bo bx (by rw [whyL, whyR_len]) hrise hl2 201 (kidsOf dst noB)[k] w5 vo5 _ hki hst5 ho5 (by omega) (by omega)) rfl ?_
        rintro v w6 ⟨vo6, he6, ho6⟩
        repeat (first | (apply w_op; (first | (apply p_mvI; apply Eq.refl) | (apply p_add64; apply Eq.refl; apply Eq.refl; omega)); apply Eq.refl) | (apply w_nil) | (apply e_then) | (apply c_region) | (apply e_bk))
        refine e_lp (by repeat (first | exact Over.base | exact Over.refl | refine Over.put rfl ?_ | refine Over.cnP rfl ?_ | refine Over.zpP rfl ?_)) ?_
        refine ⟨⟨k + 1, vo6, rfl, by omega, he5.trans he6, ?_⟩, ?_⟩
        · rw [htk, List.flatMap_append]
          simpa using ho6
        · show (kidsOf dst noB).length - ((k : Int) + 1).toNat < (kidsOf dst noB).length - ((k : Int)).toNat
          omega
      · have hge := of_decide_eq_false g
        obtain rfl : k = (kidsOf dst noB).length := by omega
        rw [List.take_length] at ho5
        have ho5' : OutV w5 bo vo5 (dropAll src dst rs) := ho5
        clear ho5
        have hbel5 : Below w.heap.size w w5 := hbel3.trans ((he5.below ho3).mono (by omega))
        have hob5 := hob3.below (he5.below ho3) hbo7
        have hbo5 := ho5'.blk.obj0
        obtain ⟨A5, c5, rfl, hc5, hA5⟩ := ho5'.strs.out
        have hmin : (if 0 < most then true else false) = decide (0 < most) := by by_cases h : 0 < most <;> simp [h]
        repeat (first | (apply w_op; (apply p_fieldAddr; apply Eq.refl); apply Eq.refl) | (apply c_seq) | (apply e_then) | (apply c_region) | (apply c_exit) | (apply e_then_exit) | (apply e_bk_same) | (apply e_lp_exit))
        refine w_op (p_loadF (a := ⟨b7, 0, none⟩) (j := 1) (v := .int .i64 most) rfl hob5 ho1) rfl ?_
        repeat (apply w_op; (first | (apply p_mvB; apply Eq.refl) | (apply p_gtr; apply Eq.refl; apply Eq.refl)); apply Eq.refl)
        refine w_cut1 [49] [43, 44, 45, 46, 47, 48] (fun vs w6 => w6 = w5 ∧ vs = [.bool (decide (0 < most ∧ most < ((dropAll src dst rs).length : Int)))]) ?_ ?_
        · refine w_bool 43 rfl (fun f1 => ?_) (fun f1 => ?_)
          · repeat (apply w_on; apply Eq.refl)
            refine w_op (p_load0 (v := .slice A5 (dropAll src dst rs).length c5) rfl hbo5 rfl) rfl ?_
            repeat (first | (apply w_op; (first | (apply p_fieldAddr; apply Eq.refl) | (apply p_len_sl; apply Eq.refl)); apply Eq.refl) | (apply w_on; apply Eq.refl))
            refine w_op (p_loadF (a := ⟨b7, 0, none⟩) (j := 1) (v := .int .i64 most) rfl hob5 ho1) rfl ?_
            repeat (first | (apply w_op; (first | (apply p_gtr; apply Eq.refl; apply Eq.refl) | (apply p_pick_t; apply Eq.refl; apply Eq.refl)); apply Eq.refl) | (apply w_nil) | (apply w_on; apply Eq.refl))
            refine e_ct (by repeat (first | exact Over.base | exact Over.refl | refine Over.put rfl ?_ | refine Over.cnP rfl ?_ | refine Over.zpP rfl ?_)) ?_
            refine ⟨rfl, ?_⟩
            show [Value.bool (decide (most < ((dropAll src dst rs).length : Int)))] = _
            simp [of_decide_eq_true f1]
          · repeat (first | (apply w_op; (apply p_pick_f; apply Eq.refl; apply Eq.refl); apply Eq.refl) | (apply w_nil) | (apply w_off; apply Eq.refl; apply Eq.refl))
            refine e_ct (by repeat (first | exact Over.base | exact Over.refl | refine Over.put rfl ?_ | refine Over.cnP rfl ?_ | refine Over.zpP rfl ?_)) ?_
            refine ⟨rfl, ?_⟩
            show [Value.bool false] = _
            simp [of_decide_eq_false f1]
        · rintro _ u6 w5 ⟨rfl, rfl⟩
          skip
          refine c_cond rfl (fun f1 => ?_) (fun f1 => ?_)
          · have f1' := of_decide_eq_true f1
            repeat (apply c_seq)
            refine c_quiet (fun x => x = w5.drew) mixed (by kernel_rfl) rfl ?_
            refine q_op (fun x hx' => p_load0 (v := .slice A5 (dropAll src dst rs).length c5) rfl (hx' ▸ hbo5.drew) rfl) rfl ?_
            repeat (apply q_op; intro _ hC; (apply p_fieldAddr; apply Eq.refl); apply Eq.refl)
            refine q_op (fun x hx' => p_loadF (a := ⟨b7, 0, none⟩) (j := 1) (v := .int .i64 most) rfl (hx' ▸ hob5.drew) ho1) rfl ?_
            repeat (apply q_op; intro _ hC; (apply p_fieldAddr; apply Eq.refl); apply Eq.refl)
            refine q_op (fun x hx' => p_loadF (a := ⟨b7, 0, none⟩) (j := 1) (v := .int .i64 most) rfl (hx' ▸ hob5.drew) ho1) rfl ?_
            refine q_op (fun x hx' => p_cut_hm rfl rfl rfl (by omega)) rfl ?_
            refine q_op (fun x hx' => p_load0 (v := .slice A5 (dropAll src dst rs).length c5) rfl (hx' ▸ hbo5.drew) rfl) rfl ?_
            repeat (apply q_op; intro _ hC; (first | (apply p_fieldAddr; apply Eq.refl) | (apply p_len_sl; apply Eq.refl)); apply Eq.refl)
            refine q_op (fun x hx' => p_loadF (a := ⟨b7, 0, none⟩) (j := 1) (v := .int .i64 most) rfl (hx' ▸ hob5.drew) ho1) rfl ?_
            repeat (apply q_op; intro _ hC; (first | (apply p_asI; apply Eq.refl) | (apply p_asL; apply Eq.refl) | (apply p_sub64; apply Eq.refl; apply Eq.refl; omega)); apply Eq.refl)
            refine q_nil (fun w6 hw6 => ?_)
            subst hw6
            repeat (first | (apply e_then) | (apply c_ret) | (apply e_then_ret))
            refine r_ret2 Try.results9 rfl ⟨?_, hbel5.drew⟩
            rw [hdw, if_pos f1']
            exact ⟨_, rfl, ho5'.strs.drew.head3 rfl (by omega)⟩
          · have f1' := of_decide_eq_false f1
            repeat (first | (apply c_seq) | (apply e_then) | (apply c_region) | (apply c_skip))
            refine w_op (p_load0 (v := .slice A5 (dropAll src dst rs).length c5) rfl hbo5 rfl) rfl ?_
            repeat (first | (apply w_op; (first | (apply p_asI; apply Eq.refl) | (apply p_asL; apply Eq.refl)); apply Eq.refl) | (apply w_nil) | (apply e_then) | (apply c_ret))
            refine r_ret2 Try.results9 rfl ⟨?_, hbel5⟩
            rw [hdw, if_neg f1']
            exact ⟨_, rfl, ho5'.strs⟩
end Go.Proofs.Ytjcbnohnilffoaa
