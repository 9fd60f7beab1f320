/- THE WALKS of package tree: Write, Append, Set. -/
import Derived.Test.YtmgheamdboiklaaDoorTw4
set_option linter.unusedVariables false
set_option linter.unusedSimpArgs false
namespace Go.Proofs.YtmgheamdboiklaaDoor
open Go.RowKit

section
variable {w : World} {S : Nat → Prop} {bt : Nat} {F : Ft} {bk km : Int → Nat}
theorem own_one {w : World} {base e sz n : Nat} {v : Value} {xs : List Value} (h : w.ownsRow base e sz v n xs) : v.oneCell' = true := by
  rcases h.2 with ⟨rfl, _⟩ | ⟨g, cap, cur, rfl, _⟩ <;> rfl
theorem write_ok (h : PT w S bt F bk km) (hF : Wf F) (p : ByteArray) (v : Value) (bs : List UInt8) (m : Mt) (B : Nat) (hbs : Bys w B v bs) (hB : B ≤ w.heap.size) (hSB : ∀ i, S i → B ≤ i) (hs : p.size ≤ 1099511627775) (hnx : F.next ≤ 1000000000) :
    Ret Tryd.prog 21 [.pointer (some ⟨bt, 0, none⟩), .string p, v, .agg (enMt m).toArray] w fun v w' => v = .int .i64 (F.write p bs m).1 ∧ TOp w w' S bt (F.write p bs m).2 := by
  obtain ⟨A, c, rfl, hc, _⟩ := hbs.out
  refine calls_in Tryd.func21 rfl Tryd.ntmps21 rfl ?_
  refine c_seq (c_region (w_box rfl rfl (fun b w1 hn => ?_)))
  have hb : Cel w1 ⟨b, 0, none⟩ (enMt m) := hn.blk.obj0
  have hbel := hn.below (Below.refl _ _) (Nat.le_refl _)
  have hbw := hn.hb
  have hlt := hn.blk.lt
  clear hn
  have z1 := hbel.size
  repeat (first | (apply w_op; (first | (apply p_mvS; apply Eq.refl) | (apply p_mvP; apply Eq.refl) | (apply p_asI; apply Eq.refl) | (apply p_loadS; apply Eq.refl; (first | assumption | (apply Cel.bel; assumption; assumption; apply Nat.zero_lt_succ)); apply Eq.refl)); apply Eq.refl) | (apply w_nil) | (apply c_seq) | (apply e_then) | (apply c_region))
  refine w_callB cl36 (may_ok _ bt p m hs) rfl (fun w2 hb2 => ?_)
  replace hb := Cel.bel hb2 hb (Nat.zero_lt_succ _)
  replace hbel := hbel.trans (hb2.mono z1)
  replace hlt := Nat.lt_of_lt_of_le hlt hb2.size
  clear hb2
  have z2 := hbel.size
  repeat (first | (apply w_op; (first | (apply p_mvI; apply Eq.refl) | (apply p_asI; apply Eq.refl) | (apply p_neq; apply Eq.refl; apply Eq.refl)); apply Eq.refl) | (apply w_nil) | (apply c_seq) | (apply e_then) | (apply c_region))
  first | refine c_ifd rfl (fun g => ?_) (fun g => ?_) | refine c_ifnd rfl (fun g => ?_) (fun g => ?_) | refine c_ifn rfl (fun g => ?_) (fun g => ?_) | refine c_cond rfl (fun g => ?_) (fun g => ?_)
  · have e : F.write p bs m = (mayE p m, F) := by rw [Ft.write, if_pos g]
    repeat (first | (apply w_op; (first | (apply p_mvI; apply Eq.refl) | (apply p_asI; apply Eq.refl)); apply Eq.refl) | (apply w_nil) | (apply c_seq) | (apply e_then) | (apply c_region) | (apply c_ret) | (apply e_then_ret))
    exact r_ret1 Tryd.results21 rfl (by rw [e]; exact ⟨rfl, TOp.same h hbel⟩)
  · have hP2 := h.below hbel
    repeat (first | (apply w_op; (first | (apply p_mvL; apply Eq.refl) | (apply p_gtr; apply Eq.refl; apply Eq.refl) | (apply p_len_sl; apply Eq.refl)); apply Eq.refl) | (apply w_nil) | (apply c_seq) | (apply e_then) | (apply c_region) | (apply c_skip))
    first | refine c_ifd rfl (fun g3 => ?_) (fun g3 => ?_) | refine c_ifnd rfl (fun g3 => ?_) (fun g3 => ?_) | refine c_ifn rfl (fun g3 => ?_) (fun g3 => ?_) | refine c_cond rfl (fun g3 => ?_) (fun g3 => ?_)
    · have e : F.write p bs m = (7, F) := by rw [Ft.write, if_neg (by simp [g]), if_pos (by omega)]
      repeat (first | (apply w_op; (apply p_asI; apply Eq.refl); apply Eq.refl) | (apply w_nil) | (apply c_seq) | (apply e_then) | (apply c_region) | (apply c_ret) | (apply e_then_ret))
      exact r_ret1 Tryd.results21 rfl (by rw [e]; exact ⟨rfl, TOp.same h hbel⟩)
    · repeat (first | (apply w_op; (first | (apply p_mvS; apply Eq.refl) | (apply p_mvP; apply Eq.refl)); apply Eq.refl) | (apply c_seq) | (apply e_then) | (apply c_region) | (apply c_skip))
      refine w_callB cl39 (look_ok_w hP2 hF p hs) rfl (fun w3 hb3 => ?_)
      replace hb := Cel.bel hb3 hb (Nat.zero_lt_succ _)
      replace hbel := hbel.trans (hb3.mono z2)
      replace hlt := Nat.lt_of_lt_of_le hlt hb3.size
      replace hP2 := hP2.below hb3
      clear hb3
      have z3 := hbel.size
      have hbB := hbel.mono hB
      repeat (first | (apply w_op; (first | (apply p_mvI; apply Eq.refl) | (apply p_mvT; apply Eq.refl) | (apply p_asI; apply Eq.refl) | (apply p_assign) | (apply p_extract; apply Eq.refl; apply Eq.refl) | (apply p_neq; apply Eq.refl; apply Eq.refl)); apply Eq.refl) | (apply w_nil) | (apply c_seq) | (apply e_then) | (apply c_region))
      first | refine c_ifd rfl (fun g4 => ?_) (fun g4 => ?_) | refine c_ifnd rfl (fun g4 => ?_) (fun g4 => ?_) | refine c_ifn rfl (fun g4 => ?_) (fun g4 => ?_) | refine c_cond rfl (fun g4 => ?_) (fun g4 => ?_)
      · have e : F.write p bs m = ((F.look p).2, F) := by rw [Ft.write, if_neg (by simp [g]), if_neg (by omega), if_pos g4]
        repeat (first | (apply w_op; (first | (apply p_mvI; apply Eq.refl) | (apply p_asI; apply Eq.refl)); apply Eq.refl) | (apply w_nil) | (apply c_seq) | (apply e_then) | (apply c_region) | (apply c_ret) | (apply e_then_ret))
        exact r_ret1 Tryd.results21 rfl (by rw [e]; exact ⟨rfl, TOp.same h hbel⟩)
      · obtain ⟨a1, a2, a3⟩ := look_ok g4
        have hbl : bs.length ≤ 65536 := by omega
        cases hn : (F.look p).1 with
        | none =>
          have hat : F.at_ p = none := by rw [← a2]; exact hn
          have hne : p ≠ noB := fun e => by
            obtain ⟨t, ht, _⟩ := hF.at_root
            rw [e, ht] at hat; cases hat
          obtain ⟨d, d1, d2⟩ := a3 hne
          have e : F.write p bs m = (0, F.add p ⟨1, 0, bs, noB, m⟩) := by rw [Ft.write, if_neg (by simp [g]), if_neg (by omega), if_neg (by simp [g4]), hn]
          have hw1 : Wf (F.add p ⟨1, 0, [], noB, ⟨0, 0, 0, 0, 0⟩⟩) := hF.add a1 hne hat d1 d2 (.inl rfl) ⟨by simp, fun q => absurd rfl q⟩ ⟨(by decide : (noB : ByteArray).size ≤ 200), by simp⟩
          have hdv : F.dirV bk p = .pointer (some ⟨bk d.ino, 0, none⟩) := by unfold Ft.dirV; rw [if_pos ⟨g4, hne⟩, d1]; rfl
          rw [hdv]
          repeat (first | (apply w_op; (first | (apply p_mvP; apply Eq.refl) | (apply p_peqnil; apply Eq.refl; apply Eq.refl)); apply Eq.refl) | (apply w_nil) | (apply c_seq) | (apply e_then) | (apply c_region) | (apply c_cond_t; apply Eq.refl) | (apply c_skip))
          refine w_op (p_build (by kernel_rfl : Tryd.prog.built 38 [(0, .int .i64 1)] = some (enSt ⟨1, 0, 0, 0, ⟨0, 0, 0, 0, 0⟩, noB⟩).toArray)) rfl ?_
          refine w_op (p_build (by kernel_rfl : Tryd.prog.built 68 [(0, .agg (enSt ⟨1, 0, 0, 0, ⟨0, 0, 0, 0, 0⟩, noB⟩).toArray)] = some (ndC ⟨1, 0, [], noB, ⟨0, 0, 0, 0, 0⟩⟩ 0 (.slice none 0 0) (.map none)).toArray)) rfl ?_
          refine w_box rfl rfl (fun nb w5 hn5 => ?_)
          have hnd : Blk w5 nb 68 (ndC ⟨1, 0, [], noB, ⟨0, 0, 0, 0, 0⟩⟩ 0 (.slice none 0 0) (.map none)) := hn5.blk
          have e5 := hn5.hb
          have s5 := hn5.size
          replace hb := hb.grown (hn5.grown none) (by simp)
          replace hbel := hn5.below hbel (by omega)
          replace hbB := hn5.below hbB (by omega)
          replace hP2 := hP2.keep (fun i hi => (hn5.grown none).block i (hP2.lt i hi) (by simp)) (hn5.grown none).size
          have hnS : ¬ S nb := fun q => by have := h.lt _ q; omega
          clear hn5
          repeat (first | (apply w_op; (first | (apply p_mvS; apply Eq.refl) | (apply p_mvP; apply Eq.refl) | (apply p_asP; apply Eq.refl)); apply Eq.refl) | (apply w_nil) | (apply e_then) | (apply c_region))
          refine w_call cl38 (put_ok hP2 hF a1 hne hat d1 d2 ⟨1, 0, [], noB, ⟨0, 0, 0, 0, 0⟩⟩ hw1 rfl (mb := 0) hnd hnS (fun q => absurd q (by show ¬ (1 : Int) = 2; decide)) hnx) rfl ?_
          rintro v w6 ⟨bk', km', rfl, hP6, hf6, hbk⟩
          have hat1 : (F.add p ⟨1, 0, [], noB, ⟨0, 0, 0, 0, 0⟩⟩).at_ p = some ⟨1, F.next, [], noB, ⟨0, 0, 0, 0, 0⟩⟩ := by rw [at_add hF hat, if_pos rfl]
          have hblt : b < w5.heap.size := by omega
          replace hb := hf6.cel hb (Nat.zero_lt_succ _) (by
            rintro (q | q)
            · have := h.lt _ q; simp at this; omega
            · have q' : b = nb := q; omega)
          have hb6 := hf6.below (B := B) (by omega) (fun i hi => by rcases hi with hi | hi; exact hSB i hi; omega)
          replace hbB := hbB.trans (hb6.mono (Nat.le_refl _))
          have z6 := hf6.size
          rw [show nb = bk' (⟨1, F.next, [], noB, ⟨0, 0, 0, 0, 0⟩⟩ : Tg).ino from hbk.symm]
          have hbne : b ≠ bk' (⟨1, F.next, [], noB, ⟨0, 0, 0, 0, 0⟩⟩ : Tg).ino := fun q => by
            have q' : b = nb := q.trans hbk
            omega
          have hcl := hP6.cel hat1
          obtain ⟨dv0, hnc, _⟩ := hcl
          repeat (first | (apply w_op; (first | (apply p_mvL; apply Eq.refl) | (apply p_mvP; apply Eq.refl)); apply Eq.refl) | (apply w_nil) | (apply c_seq) | (apply e_then) | (apply c_region))
          refine w_call cl41 (clone_ok _ bs _ B (hbs.below hbB) (by omega)) rfl ?_
          rintro dv w7 ⟨hown, hb7⟩
          have hP7 := hP6.below hb7
          obtain ⟨dv1, hN7, _⟩ := hP7.node _ (atL_mem hat1)
          replace hb := Cel.bel hb7 hb (Nat.zero_lt_succ _)
          repeat (apply w_op; (first | (apply p_nilCheck; apply Eq.refl) | (apply p_fieldAddr; apply Eq.refl)); apply Eq.refl)
          refine w_store (v := dv) (b := bk' (⟨1, F.next, [], noB, ⟨0, 0, 0, 0, 0⟩⟩ : Tg).ino) (j := 10) (cs := _) (e := 68) ⟨_, _, inferInstance⟩ rfl (by simp [addr_add_plain]) rfl (own_one hown) hN7 rfl (fun w8 hp8 hN8 => ?_)
          replace hb := hb.grown hp8.grown (fun e => by injection e with e; exact hbne e)
          repeat (first | (apply w_op; (first | (apply p_mvP; apply Eq.refl) | (apply p_nilCheck; apply Eq.refl) | (apply p_fieldAddr; apply Eq.refl) | (apply p_loadS; apply Eq.refl; (first | assumption | (apply Cel.bel; assumption; assumption; apply Nat.zero_lt_succ)); apply Eq.refl)); apply Eq.refl) | (apply w_nil) | (apply c_seq) | (apply e_then) | (apply c_region))
          refine w_storeS (b := bk' (⟨1, F.next, [], noB, ⟨0, 0, 0, 0, 0⟩⟩ : Tg).ino) (j := 4) (sz := 5) (vs := (enMt m).toArray) (by simp [ev, lk_cons, addr_add_plain]; rfl) rfl rfl rfl hN8 (show 4 + 5 ≤ 12 by decide) (fun w9 hp9 hN9 => ?_)
          have ht := write_tail hP6 hw1 hat1 rfl hown hb7 hp8 hp9 (m := m) hN9
          have hu := add_upd hF p ⟨1, 0, [], noB, ⟨0, 0, 0, 0, 0⟩⟩ (fun t => { t with data := bs, mt := m })
          rw [show (⟨1, F.next, [], noB, ⟨0, 0, 0, 0, 0⟩⟩ : Tg).ino = F.next from rfl, hu] at ht
          repeat (first | (apply w_op; (apply p_asI; apply Eq.refl); apply Eq.refl) | (apply w_nil) | (apply c_seq) | (apply e_then) | (apply c_region) | (apply c_ret))
          refine r_ret1 Tryd.results21 rfl ?_
          rw [e]
          refine ⟨rfl, ?_⟩
          obtain ⟨S', bk2, km2, q1, q2, q3⟩ := ht
          refine ⟨S', bk2, km2, q1, ((Fr.of_below hbel).trans hf6 (fun i hi => ?_)).trans q2 (fun i hi => ?_), fun i hi => ?_⟩
          · rcases hi with hi | rfl
            · exact .inl hi
            · right; omega
          · rcases hi with hi | rfl | ⟨q, _⟩
            · exact .inl hi
            · right; omega
            · exact absurd q (by show ¬ (1 : Int) = 2; decide)
          · rcases q3 i hi with (hi | rfl | ⟨q, _⟩) | hi
            · exact .inl hi
            · right; omega
            · exact absurd q (by show ¬ (1 : Int) = 2; decide)
            · right; omega
        | some t =>
          have hat : F.at_ p = some t := by rw [← a2]; exact hn
          have hlk : F.write p bs m = if fileE t ≠ 0 then (fileE t, F) else (0, F.upd t.ino fun t => { t with data := bs, mt := m }) := by rw [Ft.write, if_neg (by simp [g]), if_neg (by omega), if_neg (by simp [g4]), hn]
          repeat (first | (apply w_op; (first | (apply p_mvP; apply Eq.refl) | (apply p_peqnil; apply Eq.refl; apply Eq.refl)); apply Eq.refl) | (apply w_nil) | (apply c_seq) | (apply e_then) | (apply c_region) | (apply c_cond_f; apply Eq.refl) | (apply c_skip))
          refine w_callS cl40 (file_ok hP2 hat) rfl ?_
          repeat (first | (apply w_op; (first | (apply p_mvI; apply Eq.refl) | (apply p_asI; apply Eq.refl) | (apply p_neq; apply Eq.refl; apply Eq.refl)); apply Eq.refl) | (apply w_nil) | (apply c_seq) | (apply e_then) | (apply c_region))
          first | refine c_ifd rfl (fun g5 => ?_) (fun g5 => ?_) | refine c_ifnd rfl (fun g5 => ?_) (fun g5 => ?_) | refine c_ifn rfl (fun g5 => ?_) (fun g5 => ?_) | refine c_cond rfl (fun g5 => ?_) (fun g5 => ?_)
          · have e : F.write p bs m = (fileE t, F) := by rw [hlk, if_pos g5]
            repeat (first | (apply w_op; (first | (apply p_mvI; apply Eq.refl) | (apply p_asI; apply Eq.refl)); apply Eq.refl) | (apply w_nil) | (apply c_seq) | (apply e_then) | (apply c_region) | (apply c_ret) | (apply e_then_ret))
            exact r_ret1 Tryd.results21 rfl (by rw [e]; exact ⟨rfl, TOp.same h hbel⟩)
          · have e : F.write p bs m = (0, F.upd t.ino fun t => { t with data := bs, mt := m }) := by rw [hlk, if_neg (by simp [g5])]
            have hk1 := file_kind hF (atL_mem hat) g5
            have hbne : b ≠ bk t.ino := fun q => by
              have := h.lt _ (h.sN _ (atL_mem hat))
              have this : bk t.ino < w.heap.size := this
              omega
            have hcl := hP2.cel hat
            obtain ⟨dv0, hnc, _⟩ := hcl
            repeat (first | (apply w_op; (first | (apply p_mvL; apply Eq.refl) | (apply p_mvP; apply Eq.refl)); apply Eq.refl) | (apply c_seq) | (apply e_then) | (apply c_region) | (apply c_skip))
            refine w_call cl41 (clone_ok _ bs _ B (hbs.below hbB) (by omega)) rfl ?_
            rintro dv w7 ⟨hown, hb7⟩
            have hP7 := hP2.below hb7
            obtain ⟨dv1, hN7, _⟩ := hP7.node _ (atL_mem hat)
            replace hb := Cel.bel hb7 hb (Nat.zero_lt_succ _)
            repeat (apply w_op; (first | (apply p_nilCheck; apply Eq.refl) | (apply p_fieldAddr; apply Eq.refl)); apply Eq.refl)
            refine w_store (v := dv) (b := bk t.ino) (j := 10) (cs := _) (e := 68) ⟨_, _, inferInstance⟩ rfl (by simp [addr_add_plain]) rfl (own_one hown) hN7 rfl (fun w8 hp8 hN8 => ?_)
            replace hb := hb.grown hp8.grown (fun e => by injection e with e; exact hbne e)
            repeat (first | (apply w_op; (first | (apply p_mvP; apply Eq.refl) | (apply p_nilCheck; apply Eq.refl) | (apply p_fieldAddr; apply Eq.refl) | (apply p_loadS; apply Eq.refl; (first | assumption | (apply Cel.bel; assumption; assumption; apply Nat.zero_lt_succ)); apply Eq.refl)); apply Eq.refl) | (apply w_nil) | (apply c_seq) | (apply e_then) | (apply c_region))
            refine w_storeS (b := bk t.ino) (j := 4) (sz := 5) (vs := (enMt m).toArray) (by simp [ev, lk_cons, addr_add_plain]; rfl) rfl rfl rfl hN8 (show 4 + 5 ≤ 12 by decide) (fun w9 hp9 hN9 => ?_)
            have ht := write_tail hP2 hF hat hk1 hown hb7 hp8 hp9 (m := m) hN9
            repeat (first | (apply w_op; (apply p_asI; apply Eq.refl); apply Eq.refl) | (apply w_nil) | (apply c_seq) | (apply e_then) | (apply c_region) | (apply c_ret))
            refine r_ret1 Tryd.results21 rfl ?_
            rw [e]
            exact ⟨rfl, TOp.before hbel ht⟩
end
end Go.Proofs.YtmgheamdboiklaaDoor
