/- THE WALKS of package tree: Clone, Mkdir, Symlink, Write. -/
import Derived.Test.YtmgheamdboiklaaDoorTw3
import Derived.Test.YtmgheamdboiklaaDoorTr2
set_option linter.unusedVariables false
set_option linter.unusedSimpArgs false
namespace Go.Proofs.YtmgheamdboiklaaDoor
open Go.RowKit

def enU (b : UInt8) : List Value := [.int .u8 b.toNat]
abbrev Bys (w : World) (B : Nat) (v : Value) (l : List UInt8) : Prop := Sl enU 1 w B v l
theorem enU_map (l : List UInt8) : (l.map fun b => Value.int .u8 b.toNat) = l.flatMap enU := by induction l <;> simp_all [enU]
section
variable {P : Program} {ops : Array Oper} {Q : Exit → Act → World → Prop} {n : Nat} {l : List (Nat × Value)} {ds : List Deferred} {rest : List Oper} {w : World}
variable {ty : TypeId} {pos : String} {aft : Array Edge} {d : Nat} {ρ : Operand → Value}
theorem eqIn_sl_nil (d : Nat) {t e : TypeId} (a : Option Addr) (m c : Nat) (h : P.underlying t = some (.slice e)) : (Op.equalIn (d + 1) t (.slice a m c) (.slice none 0 0)).run P w = .ok a.isNone w := by
  cases a <;> simp [Op.equalIn, run_underlying h]
theorem p_sleqnil {t e t2 : TypeId} {x y : Operand} {a : Option Addr} {m c : Nat} [h : U P t (.slice e)] (hx : ρ x = .slice a m c) (hy : ρ y = .slice none 0 0) : Op1 P ρ (.binOp .eql t x y t2) ty w (.bool a.isNone) := by
  unfold Op1; intros; simp only [execOp, hx, hy, binOp]
  simp [eqGuard, Op.equal, Op.maxDepth, eqIn_sl_nil 9999 a m c h.out]
theorem Sl.cels {v : Value} {B : Nat} {bs : List UInt8} {ad : Addr} {m c : Nat} (h : Bys w B v bs) (hv : v = .slice (some ad) m c) : Cel w ad (bs.map fun b => Value.int .u8 b.toNat) := by
  refine Cel.mk fun j u hj => ?_
  rw [List.getElem?_map] at hj
  obtain ⟨b, hb, rfl⟩ := Option.map_eq_some_iff.1 hj
  obtain ⟨hlt, rfl⟩ := List.getElem?_eq_some_iff.1 hb
  obtain ⟨ad', e, _, hc⟩ := h.at_ hv hlt
  injection e with e
  subst e
  have := hc.cell (j := 0) rfl
  rwa [addr_add_zero, Nat.mul_one] at this
/-- 'append(s, x...)' where x is nil -/
theorem w_appendN {t e : TypeId} {s x : Operand} {base nn sz by_ : Nat} {z v : Value} {xs : List Value} [h : U P t (.slice e)] [hi : Inf P e sz by_ z] (hs : ev n l s = v) (hown : w.ownsRow base e sz v nn xs) (hx : ev n l x = .slice none 0 0) (hd : Nat.blt d n = true)
    (k : W P ops Q n ((d, v) :: l) ds rest w) : W P ops Q n l ds (⟨some d, .call { callee := .builtin .append, args := #[s, x], argTypes := #[t, t] }, ty, pos, aft, none⟩ :: rest) w := by
  obtain ⟨i, i1, i2, i3, i4⟩ := hi.out
  have hr := run_append_owned_none (P := P) (w := w) base t ty e i sz h.out i1 v nn xs hown
  refine w_op (v := v) ?_ hd k
  unfold Op1; intros
  simp only [execOp, resolve, invoke, builtin, Sem.run_bind, Sem.run_pure, Result.andThen_ok, List.map_toArray, List.map_cons, List.map_nil, hs, hx, hr]
end
theorem Bys.nil_of {w : World} {B : Nat} {v : Value} {bs : List UInt8} {m c : Nat} (h : Bys w B v bs) (hv : v = .slice none m c) : bs = [] := by
  cases bs with
  | nil => rfl
  | cons b r =>
    obtain ⟨ad, e, _⟩ := h.at_ hv (show 0 < (b :: r).length by simp)
    cases e
theorem clone_ok (v : Value) (bs : List UInt8) (w : World) (B : Nat) (h : Bys w B v bs) (hl : bs.length ≤ 1000000) :
    Ret Tryd.prog 41 [v] w fun v' w' => w'.ownsRow w.heap.size 5 1 v' bs.length (bs.map fun b => Value.int .u8 b.toNat) ∧ Below w.heap.size w w' := by
  obtain ⟨A, c, rfl, hc, hA⟩ := h.out
  refine calls_in Tryd.func41 rfl Tryd.ntmps41 rfl ?_
  repeat (first | (apply w_op; (first | (apply p_mvL; apply Eq.refl) | (apply p_asL; apply Eq.refl)); apply Eq.refl) | (apply w_nil) | (apply c_seq) | (apply e_then) | (apply c_region))
  refine w_op (p_sleqnil rfl rfl) rfl ?_
  cases A with
  | none =>
    obtain rfl := h.nil_of rfl
    repeat (first | (apply w_op; (apply p_asL; apply Eq.refl); apply Eq.refl) | (apply w_nil) | (apply c_seq) | (apply e_then) | (apply c_region) | (apply c_cond_t; apply Eq.refl) | (apply c_ret) | (apply e_then_ret))
    exact r_ret1 Tryd.results41 rfl ⟨World.ownsRow_nil _ _ _ _, Below.refl _ _⟩
  | some ad =>
    have hce := h.cels rfl
    repeat (first | (apply w_nil) | (apply c_seq) | (apply e_then) | (apply c_region) | (apply c_cond_f; apply Eq.refl) | (apply c_skip))
    refine w_buildSlice (vs := []) rfl rfl (fun v hv => by cases hv) (by omega) rfl (fun b w1 hn => ?_)
    have hown : w1.ownsRow w.heap.size 5 1 (.slice (some ⟨b, 0, none⟩) 0 0) 0 [] := by
      have := World.ownsRow_lit (base := w.heap.size) (e := 5) (size := 1) w #[] 0 (Nat.le_refl _) (Nat.zero_le _) rfl
      rw [hn.eq, hn.hb]; exact this
    have hbel := hn.below (Below.refl _ _) (Nat.le_refl _)
    have hce1 := hce.grown (hn.grown none) (by simp)
    clear hn hce
    repeat (apply w_op; (apply p_mvL; apply Eq.refl); apply Eq.refl)
    refine w_append (m := bs.length) (c := c) (ad := ad) (news := bs.map fun b => Value.int .u8 b.toNat) (by omega) rfl hown rfl (by simp) hce1 (by simp [Value.oneCell']) (by omega) (by omega) hbel.size rfl (fun v2 w2 ho hg _ _ => ?_)
    repeat (first | (apply w_op; (apply p_assign); apply Eq.refl) | (apply w_nil) | (apply e_then) | (apply c_ret))
    have ho' : w2.ownsRow w.heap.size 5 1 v2 bs.length (bs.map fun b => Value.int .u8 b.toNat) := by simpa using ho
    exact r_ret1 Tryd.results41 rfl ⟨ho', below_own hg hbel hbel.size hown (Nat.le_refl _)⟩
section
variable {w : World} {S : Nat → Prop} {bt : Nat} {F : Ft} {bk km : Int → Nat}
theorem nptr_some {t : Tg} : nptr bk (some t) = .pointer (some ⟨bk t.ino, 0, none⟩) := rfl
/-- the directory of a path that is free -/
theorem dirV_fresh {p : ByteArray} (hf : F.freshE p = 0) (hne : p ≠ noB) {d : Tg} (hd : F.at_ (parent p) = some d) : F.dirV bk p = .pointer (some ⟨bk d.ino, 0, none⟩) := by
  unfold Ft.dirV
  rw [if_pos ⟨(fresh_ok hf).2.2.2.1, hne⟩, hd]; rfl
theorem mkdir_ok (h : PT w S bt F bk km) (hF : Wf F) (p : ByteArray) (m : Mt) (hs : p.size ≤ 1099511627775) (hnx : F.next ≤ 1000000000) :
    Ret Tryd.prog 20 [.pointer (some ⟨bt, 0, none⟩), .string p, .agg (enMt m).toArray] w fun v w' => v = .int .i64 (F.mkdir p m).1 ∧ TOp w w' S bt (F.mkdir p m).2 := by
  have hwf := hF.mkdir p m
  refine calls_in Tryd.func20 rfl Tryd.ntmps20 rfl ?_
  refine c_seq (c_region (w_box rfl rfl (fun b w1 hn => ?_)))
  have hb : Cel w1 ⟨b, 0, none⟩ (enMt m) := hn.blk.obj0
  have hbel := hn.below (Below.refl _ _) (Nat.le_refl _)
  clear hn
  have z1 := hbel.size
  repeat (first | (apply w_op; (first | (apply p_mvS; apply Eq.refl) | (apply p_mvP; apply Eq.refl) | (apply p_asI; apply Eq.refl) | (apply p_loadS; apply Eq.refl; (first | assumption | (apply Cel.bel; assumption; assumption; apply Nat.zero_lt_succ)); apply Eq.refl)); apply Eq.refl) | (apply w_nil) | (apply c_seq) | (apply e_then) | (apply c_region))
  refine w_callB cl36 (may_ok _ bt p m hs) rfl (fun w2 hb2 => ?_)
  replace hb := Cel.bel hb2 hb (Nat.zero_lt_succ _)
  replace hbel := hbel.trans (hb2.mono z1)
  clear hb2
  have z2 := hbel.size
  repeat (first | (apply w_op; (first | (apply p_mvI; apply Eq.refl) | (apply p_asI; apply Eq.refl) | (apply p_neq; apply Eq.refl; apply Eq.refl)); apply Eq.refl) | (apply w_nil) | (apply c_seq) | (apply e_then) | (apply c_region))
  first | refine c_ifd rfl (fun g => ?_) (fun g => ?_) | refine c_ifnd rfl (fun g => ?_) (fun g => ?_) | refine c_ifn rfl (fun g => ?_) (fun g => ?_) | refine c_cond rfl (fun g => ?_) (fun g => ?_)
  · have e : F.mkdir p m = (mayE p m, F) := by rw [Ft.mkdir, if_pos g]
    repeat (first | (apply w_op; (first | (apply p_mvI; apply Eq.refl) | (apply p_asI; apply Eq.refl)); apply Eq.refl) | (apply w_nil) | (apply c_seq) | (apply e_then) | (apply c_region) | (apply c_ret) | (apply e_then_ret))
    exact r_ret1 Tryd.results20 rfl (by rw [e]; exact ⟨rfl, TOp.same h hbel⟩)
  · have hP2 := h.below hbel
    repeat (first | (apply w_op; (first | (apply p_mvS; apply Eq.refl) | (apply p_mvP; apply Eq.refl)); apply Eq.refl) | (apply c_seq) | (apply e_then) | (apply c_region) | (apply c_skip))
    refine w_callB cl37 (fresh_ok_w hP2 hF p hs) rfl (fun w3 hb3 => ?_)
    replace hb := Cel.bel hb3 hb (Nat.zero_lt_succ _)
    replace hbel := hbel.trans (hb3.mono z2)
    replace hP2 := hP2.below hb3
    clear hb3
    have z3 := hbel.size
    repeat (first | (apply w_op; (first | (apply p_mvI; apply Eq.refl) | (apply p_mvT; apply Eq.refl) | (apply p_asI; apply Eq.refl) | (apply p_assign) | (apply p_extract; apply Eq.refl; apply Eq.refl) | (apply p_neq; apply Eq.refl; apply Eq.refl)); apply Eq.refl) | (apply w_nil) | (apply c_seq) | (apply e_then) | (apply c_region))
    first | refine c_ifd rfl (fun g2 => ?_) (fun g2 => ?_) | refine c_ifnd rfl (fun g2 => ?_) (fun g2 => ?_) | refine c_ifn rfl (fun g2 => ?_) (fun g2 => ?_) | refine c_cond rfl (fun g2 => ?_) (fun g2 => ?_)
    · have e : F.mkdir p m = (F.freshE p, F) := by rw [Ft.mkdir, if_neg (by simp [g]), if_pos g2]
      repeat (first | (apply w_op; (first | (apply p_mvI; apply Eq.refl) | (apply p_asI; apply Eq.refl)); apply Eq.refl) | (apply w_nil) | (apply c_seq) | (apply e_then) | (apply c_region) | (apply c_ret) | (apply e_then_ret))
      exact r_ret1 Tryd.results20 rfl (by rw [e]; exact ⟨rfl, TOp.same h hbel⟩)
    · have e : F.mkdir p m = (0, F.add p ⟨2, 0, [], noB, m⟩) := by rw [Ft.mkdir, if_neg (by simp [g]), if_neg (by simp [g2])]
      rw [e] at hwf
      have hne := fresh_ne hF g2
      obtain ⟨a1, a2, _, _, a5⟩ := fresh_ok g2
      obtain ⟨d, d1, d2⟩ := a5 hne
      rw [dirV_fresh g2 hne d1]
      repeat (first | (apply w_op; (first | (apply p_mvS; apply Eq.refl) | (apply p_mvP; apply Eq.refl) | (apply p_loadS; apply Eq.refl; (first | assumption | (apply Cel.bel; assumption; assumption; apply Nat.zero_lt_succ)); apply Eq.refl)); apply Eq.refl) | (apply c_seq) | (apply e_then) | (apply c_region) | (apply c_skip))
      refine w_op (p_build (by kernel_rfl : Tryd.prog.built 38 [(0, .int .i64 2), (4, .agg (enMt m).toArray)] = some (enSt ⟨2, 0, 0, 0, m, noB⟩).toArray)) rfl ?_
      refine w_makeMap rfl (fun mb w4 hn4 => ?_)
      have hm := hn4.mk_
      have e4 := hn4.hb
      have s4 := hn4.size
      replace hbel := hn4.below hbel z3
      replace hP2 := hP2.keep (fun i hi => (hn4.grown none).block i (hP2.lt i hi) (by simp)) (hn4.grown none).size
      have hb3e : mb = w3.heap.size := e4
      have hmS : ¬ S mb := fun q => by have := h.lt _ q; omega
      clear hn4
      refine w_op (p_build (by kernel_rfl : Tryd.prog.built 68 [(0, .agg (enSt ⟨2, 0, 0, 0, m, noB⟩).toArray), (2, .map (some mb))] = some (ndC ⟨2, 0, [], noB, m⟩ 0 (.slice none 0 0) (.map (some mb))).toArray)) rfl ?_
      refine w_box rfl rfl (fun nb w5 hn5 => ?_)
      have hnd : Blk w5 nb 68 (ndC ⟨2, 0, [], noB, m⟩ 0 (.slice none 0 0) (.map (some mb))) := hn5.blk
      have e5 := hn5.hb
      have s5 := hn5.size
      replace hm := hm.grown (hn5.grown none) (by simp)
      replace hbel := hn5.below hbel (by omega)
      replace hP2 := hP2.keep (fun i hi => (hn5.grown none).block i (hP2.lt i hi) (by simp)) (hn5.grown none).size
      have hnS : ¬ S nb := fun q => by have := h.lt _ q; omega
      clear hn5
      refine w_call cl38 (put_ok hP2 hF a1 hne a2 d1 d2 ⟨2, 0, [], noB, m⟩ hwf rfl (mb := mb) hnd hnS (fun _ => ⟨hm, hmS⟩) hnx) rfl ?_
      rintro v w6 ⟨bk', km', rfl, hP6, hf6, _⟩
      repeat (first | (apply w_op; (apply p_asI; apply Eq.refl); apply Eq.refl) | (apply w_nil) | (apply c_seq) | (apply e_then) | (apply c_region) | (apply c_ret))
      refine r_ret1 Tryd.results20 rfl ?_
      rw [e]
      refine ⟨rfl, _, bk', km', hP6, (Fr.of_below hbel).trans hf6 (fun i hi => ?_), fun i hi => ?_⟩
      · rcases hi with hi | rfl
        · exact .inl hi
        · right; omega
      · rcases hi with hi | rfl | ⟨_, rfl⟩
        · exact .inl hi
        · right; omega
        · right; omega
theorem symlink_ok (h : PT w S bt F bk km) (hF : Wf F) (p tg : ByteArray) (m : Mt) (hs : p.size ≤ 1099511627775) (hs2 : tg.size ≤ 1099511627775) (hnx : F.next ≤ 1000000000) :
    Ret Tryd.prog 22 [.pointer (some ⟨bt, 0, none⟩), .string p, .string tg, .agg (enMt m).toArray] w fun v w' => v = .int .i64 (F.symlink p tg m).1 ∧ TOp w w' S bt (F.symlink p tg m).2 := by
  have hwf := hF.symlink p tg m
  refine calls_in Tryd.func22 rfl Tryd.ntmps22 rfl ?_
  refine c_seq (c_region (w_box rfl rfl (fun b w1 hn => ?_)))
  have hb : Cel w1 ⟨b, 0, none⟩ (enMt m) := hn.blk.obj0
  have hbel := hn.below (Below.refl _ _) (Nat.le_refl _)
  clear hn
  have z1 := hbel.size
  repeat (first | (apply w_op; (first | (apply p_mvS; apply Eq.refl) | (apply p_mvP; apply Eq.refl) | (apply p_asI; apply Eq.refl) | (apply p_loadS; apply Eq.refl; (first | assumption | (apply Cel.bel; assumption; assumption; apply Nat.zero_lt_succ)); apply Eq.refl)); apply Eq.refl) | (apply w_nil) | (apply c_seq) | (apply e_then) | (apply c_region))
  refine w_callB cl36 (may_ok _ bt p m hs) rfl (fun w2 hb2 => ?_)
  replace hb := Cel.bel hb2 hb (Nat.zero_lt_succ _)
  replace hbel := hbel.trans (hb2.mono z1)
  clear hb2
  have z2 := hbel.size
  repeat (first | (apply w_op; (first | (apply p_mvI; apply Eq.refl) | (apply p_asI; apply Eq.refl) | (apply p_neq; apply Eq.refl; apply Eq.refl)); apply Eq.refl) | (apply w_nil) | (apply c_seq) | (apply e_then) | (apply c_region))
  first | refine c_ifd rfl (fun g => ?_) (fun g => ?_) | refine c_ifnd rfl (fun g => ?_) (fun g => ?_) | refine c_ifn rfl (fun g => ?_) (fun g => ?_) | refine c_cond rfl (fun g => ?_) (fun g => ?_)
  · have e : F.symlink p tg m = (mayE p m, F) := by rw [Ft.symlink, if_pos g]
    repeat (first | (apply w_op; (first | (apply p_mvI; apply Eq.refl) | (apply p_asI; apply Eq.refl)); apply Eq.refl) | (apply w_nil) | (apply c_seq) | (apply e_then) | (apply c_region) | (apply c_ret) | (apply e_then_ret))
    exact r_ret1 Tryd.results22 rfl (by rw [e]; exact ⟨rfl, TOp.same h hbel⟩)
  · have hP2 := h.below hbel
    repeat (first | (apply w_op; (first | (apply p_mvS; apply Eq.refl) | (apply p_seql; apply Eq.refl; apply Eq.refl)); apply Eq.refl) | (apply w_nil) | (apply c_seq) | (apply e_then) | (apply c_region) | (apply c_skip))
    first | refine c_ifd rfl (fun g3 => ?_) (fun g3 => ?_) | refine c_ifnd rfl (fun g3 => ?_) (fun g3 => ?_) | refine c_ifn rfl (fun g3 => ?_) (fun g3 => ?_) | refine c_cond rfl (fun g3 => ?_) (fun g3 => ?_)
    · have e : F.symlink p tg m = (2, F) := by rw [Ft.symlink, if_neg (by simp [g]), if_pos g3]
      repeat (first | (apply w_op; (apply p_asI; apply Eq.refl); apply Eq.refl) | (apply w_nil) | (apply c_seq) | (apply e_then) | (apply c_region) | (apply c_ret) | (apply e_then_ret))
      exact r_ret1 Tryd.results22 rfl (by rw [e]; exact ⟨rfl, TOp.same h hbel⟩)
    · repeat (first | (apply w_op; (first | (apply p_mvS; apply Eq.refl) | (apply p_gtr; apply Eq.refl; apply Eq.refl) | (apply p_len_str; apply Eq.refl)); apply Eq.refl) | (apply w_nil) | (apply c_seq) | (apply e_then) | (apply c_region) | (apply c_skip))
      first | refine c_ifd rfl (fun g4 => ?_) (fun g4 => ?_) | refine c_ifnd rfl (fun g4 => ?_) (fun g4 => ?_) | refine c_ifn rfl (fun g4 => ?_) (fun g4 => ?_) | refine c_cond rfl (fun g4 => ?_) (fun g4 => ?_)
      · have e : F.symlink p tg m = (7, F) := by rw [Ft.symlink, if_neg (by simp [g]), if_neg g3, if_pos (by omega)]
        repeat (first | (apply w_op; (apply p_asI; apply Eq.refl); apply Eq.refl) | (apply w_nil) | (apply c_seq) | (apply e_then) | (apply c_region) | (apply c_ret) | (apply e_then_ret))
        exact r_ret1 Tryd.results22 rfl (by rw [e]; exact ⟨rfl, TOp.same h hbel⟩)
      · repeat (first | (apply w_op; (first | (apply p_mvS; apply Eq.refl) | (apply p_mvP; apply Eq.refl)); apply Eq.refl) | (apply c_seq) | (apply e_then) | (apply c_region) | (apply c_skip))
        refine w_callB cl37 (fresh_ok_w hP2 hF p hs) rfl (fun w3 hb3 => ?_)
        replace hb := Cel.bel hb3 hb (Nat.zero_lt_succ _)
        replace hbel := hbel.trans (hb3.mono z2)
        replace hP2 := hP2.below hb3
        clear hb3
        have z3 := hbel.size
        repeat (first | (apply w_op; (first | (apply p_mvI; apply Eq.refl) | (apply p_mvT; apply Eq.refl) | (apply p_asI; apply Eq.refl) | (apply p_assign) | (apply p_extract; apply Eq.refl; apply Eq.refl) | (apply p_neq; apply Eq.refl; apply Eq.refl)); apply Eq.refl) | (apply w_nil) | (apply c_seq) | (apply e_then) | (apply c_region))
        first | refine c_ifd rfl (fun g2 => ?_) (fun g2 => ?_) | refine c_ifnd rfl (fun g2 => ?_) (fun g2 => ?_) | refine c_ifn rfl (fun g2 => ?_) (fun g2 => ?_) | refine c_cond rfl (fun g2 => ?_) (fun g2 => ?_)
        · have e : F.symlink p tg m = (F.freshE p, F) := by rw [Ft.symlink, if_neg (by simp [g]), if_neg g3, if_neg (by omega), if_pos g2]
          repeat (first | (apply w_op; (first | (apply p_mvI; apply Eq.refl) | (apply p_asI; apply Eq.refl)); apply Eq.refl) | (apply w_nil) | (apply c_seq) | (apply e_then) | (apply c_region) | (apply c_ret) | (apply e_then_ret))
          exact r_ret1 Tryd.results22 rfl (by rw [e]; exact ⟨rfl, TOp.same h hbel⟩)
        · have e : F.symlink p tg m = (0, F.add p ⟨3, 0, [], tg, m⟩) := by rw [Ft.symlink, if_neg (by simp [g]), if_neg g3, if_neg (by omega), if_neg (by simp [g2])]
          rw [e] at hwf
          have hne := fresh_ne hF g2
          obtain ⟨a1, a2, _, _, a5⟩ := fresh_ok g2
          obtain ⟨d, d1, d2⟩ := a5 hne
          rw [dirV_fresh g2 hne d1]
          repeat (first | (apply w_op; (first | (apply p_mvS; apply Eq.refl) | (apply p_mvP; apply Eq.refl) | (apply p_loadS; apply Eq.refl; (first | assumption | (apply Cel.bel; assumption; assumption; apply Nat.zero_lt_succ)); apply Eq.refl)); apply Eq.refl) | (apply c_seq) | (apply e_then) | (apply c_region) | (apply c_skip))
          refine w_op (p_build (by kernel_rfl : Tryd.prog.built 38 [(0, .int .i64 3), (4, .agg (enMt m).toArray), (5, .string tg)] = some (enSt ⟨3, 0, 0, 0, m, tg⟩).toArray)) rfl ?_
          refine w_op (p_build (by kernel_rfl : Tryd.prog.built 68 [(0, .agg (enSt ⟨3, 0, 0, 0, m, tg⟩).toArray)] = some (ndC ⟨3, 0, [], tg, m⟩ 0 (.slice none 0 0) (.map none)).toArray)) rfl ?_
          refine w_box rfl rfl (fun nb w5 hn5 => ?_)
          have hnd : Blk w5 nb 68 (ndC ⟨3, 0, [], tg, m⟩ 0 (.slice none 0 0) (.map none)) := hn5.blk
          have e5 := hn5.hb
          have s5 := hn5.size
          replace hbel := hn5.below hbel (by omega)
          replace hP2 := hP2.keep (fun i hi => (hn5.grown none).block i (hP2.lt i hi) (by simp)) (hn5.grown none).size
          have hnS : ¬ S nb := fun q => by have := h.lt _ q; omega
          clear hn5
          refine w_call cl38 (put_ok hP2 hF a1 hne a2 d1 d2 ⟨3, 0, [], tg, m⟩ hwf rfl (mb := 0) hnd hnS (fun q => absurd q (by show ¬ (3 : Int) = 2; decide)) hnx) rfl ?_
          rintro v w6 ⟨bk', km', rfl, hP6, hf6, _⟩
          repeat (first | (apply w_op; (apply p_asI; apply Eq.refl); apply Eq.refl) | (apply w_nil) | (apply c_seq) | (apply e_then) | (apply c_region) | (apply c_ret))
          refine r_ret1 Tryd.results22 rfl ?_
          rw [e]
          refine ⟨rfl, _, bk', km', hP6, (Fr.of_below hbel).trans hf6 (fun i hi => ?_), fun i hi => ?_⟩
          · rcases hi with hi | rfl
            · exact .inl hi
            · right; omega
          · rcases hi with hi | rfl | ⟨q, _⟩
            · exact .inl hi
            · right; omega
            · exact absurd q (by show ¬ (3 : Int) = 2; decide)
theorem add_upd (hF : Wf F) (p : ByteArray) (t : Tg) (g : Tg → Tg) : (F.add p t).upd F.next g = ⟨F.L ++ [(p, g { t with ino := F.next })], F.next + 1⟩ := by
  unfold Ft.add Ft.upd
  simp only [List.map_append, List.map_cons, List.map_nil, if_true, Ft.mk.injEq, and_true]
  congr 1
  have key : ∀ L : List Ent, (∀ e ∈ L, e.2.ino < F.next) → L.map (fun e => (e.1, if e.2.ino = F.next then g e.2 else e.2)) = L := by
    intro L
    induction L with
    | nil => intro _; rfl
    | cons e L ih =>
      intro h
      have := h e (by simp)
      rw [List.map_cons, ih (fun x hx => h x (by simp [hx])), if_neg (by omega)]
  exact key F.L (fun e he => (hF.ino e he).2)
/-- a file's bytes and its Meta, written -/
theorem PT.setd (h : PT w S bt F bk km) (hF : Wf F) {p : ByteArray} {t : Tg} (ht : F.at_ p = some t) {w1 w2 w' : World} {g : Tg → Tg} (hk : ∀ t, (g t).kind = t.kind) (hi : ∀ t, (g t).ino = t.ino) {S' : Nat → Prop} (hS : ∀ i, S i → S' i)
    (hlt : ∀ i, S' i → i < w.heap.size) (hp : Put w w' (bk t.ino)) {dv : Value} (hb : Blk w' (bk t.ino) 68 (ndC (g t) (cnt F.L t.ino) dv (kvO km t))) (hd : DatV w S' dv (g t).data) : PT w' S' bt (F.upd t.ino g) bk km := by
  have h' : PT w S' bt F bk km := ⟨h.tree, fun e he => by obtain ⟨dv, h1, h2⟩ := h.node e he; exact ⟨dv, h1, h2.more hS⟩, h.kids, hS _ h.sT, fun e he => hS _ (h.sN e he), fun e he q => hS _ (h.sK e he q), hlt, h.injB, h.injK⟩
  exact h'.upd hF ht hk hi hp hb hd
theorem PT.wide (h : PT w S bt F bk km) {S' : Nat → Prop} (hS : ∀ i, S i → S' i) (hlt : ∀ i, S' i → i < w.heap.size) : PT w S' bt F bk km :=
  ⟨h.tree, fun e he => by obtain ⟨dv, h1, h2⟩ := h.node e he; exact ⟨dv, h1, h2.more hS⟩, h.kids, hS _ h.sT, fun e he => hS _ (h.sN e he), fun e he q => hS _ (h.sK e he q), hlt, h.injB, h.injK⟩
theorem Put.trans' {a b c : World} {i : Nat} (h : Put a b i) (k : Put b c i) : Put a c i := h.trans k
theorem ndC_set (t : Tg) (lk : Int) (dv kv dv' : Value) : (ndC t lk dv kv).set 10 dv' = ndC t lk dv' kv := rfl
theorem ndC_meta (t : Tg) (lk : Int) (dv kv : Value) (m : Mt) : (ndC t lk dv kv).take 4 ++ (enMt m).toArray.toList ++ (ndC t lk dv kv).drop (4 + 5) = ndC { t with mt := m } lk dv kv := rfl
/-- behind the choice of the node: its bytes and its Meta are written -/
theorem write_tail (h : PT w S bt F bk km) (hF : Wf F) {p : ByteArray} {t : Tg} (ht : F.at_ p = some t) (hk1 : t.kind = 1) {w1 w2 w3 : World} {bs : List UInt8} {m : Mt} {dv : Value}
    (hown : w1.ownsRow w.heap.size 5 1 dv bs.length (bs.map fun b => Value.int .u8 b.toNat)) (hb1 : Below w.heap.size w w1) (hp2 : Put w1 w2 (bk t.ino)) (hp3 : Put w2 w3 (bk t.ino))
    (hb3 : Blk w3 (bk t.ino) 68 (ndC { t with data := bs, mt := m } (cnt F.L t.ino) dv (kvO km t))) : TOp w w3 S bt (F.upd t.ino fun t => { t with data := bs, mt := m }) := by
  have hdlt : ∀ g, dv.ownBlock = some g → w.heap.size ≤ g ∧ g < w1.heap.size := fun g hg => by
    have := hown.lt g hg
    exact ⟨this.1, this.2⟩
  have hP1 := (h.below hb1).wide (S' := fun i => S i ∨ dv.ownBlock = some i) (fun i hi => .inl hi) (fun i hi => by
    rcases hi with hi | hi
    · have := h.lt i hi; have := hb1.size; omega
    · exact (hdlt i hi).2)
  have hd : DatV w1 (fun i => S i ∨ dv.ownBlock = some i) dv bs := ⟨own_le hown (Nat.zero_le _), fun g hg => .inr hg⟩
  refine ⟨_, bk, km, hP1.upd hF ht (g := fun t => { t with data := bs, mt := m }) (fun _ => rfl) (fun _ => rfl) (hp2.trans hp3) hb3 hd, ?_, fun i hi => ?_⟩
  · exact (Fr.of_below hb1).trans (Fr.put (S := fun i => i = bk t.ino) (hp2.trans hp3) rfl) (fun i hi => .inl (hi ▸ h.sN _ (atL_mem ht)))
  · rcases hi with hi | hi
    · exact .inl hi
    · exact .inr (hdlt i hi).1
end
end Go.Proofs.YtmgheamdboiklaaDoor
