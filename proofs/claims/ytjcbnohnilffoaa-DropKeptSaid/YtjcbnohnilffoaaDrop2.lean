/- THE WALKS of package drop: look. -/
import Derived.Test.YtjcbnohnilffoaaDrop
set_option linter.unusedVariables false
namespace Go.Proofs.Ytjcbnohnilffoaa
open Go.RowKit

theorem gB {w w' : World} (h : Below w.heap.size w w') : w.grownBy w' none := ⟨h.os, h.tape, h.output, h.size, fun i hi _ => h.block i hi⟩
theorem gNP {w w1 w2 : World} {b : Nat} {o : Obj} (hn : New w w1 b o) (hp : Put w1 w2 b) : w.grownBy w2 none := by
  have h1 := hn.grown none
  have hz := hn.size
  refine ⟨hp.grown.os.trans h1.os, hp.grown.tape.trans h1.tape, hp.grown.output.trans h1.output, by have := hp.size; omega, fun i hi _ => ?_⟩
  rw [hp.grown.block i (by omega) (fun e => by injection e with e; have := hn.hb; omega), h1.block i hi (by simp)]
theorem gD (w : World) : w.grownBy w.drew none := ⟨rfl, rfl, rfl, Nat.le_refl _, fun i _ _ => rfl⟩
def nilS : Value := .slice none 0 0
def kv (mk : ByteArray → Option Value) (s : ByteArray) : Value := (mk s).getD nilS
def ivs (l : List Nat) : List Value := l.map fun i : Nat => .int .i64 (i : Int)

structure LA (w0 w : World) (bx bs bw bk base : Nat) (cx ws : List Value) (ms mk : ByteArray → Option Value) (ks : ByteArray → List Nat) : Prop where
  hx : Blk w bx 55 cx
  hs : ∃ n, Mp w bs ms n
  hw : Blk w bw 3 ws
  hk : ∃ n, Mp w bk mk n
  hr : ∀ s, w.ownsRow base 3 1 (kv mk s) (ks s).length (ivs (ks s))
  hd : ∀ s s', s ≠ s' → (kv mk s).ownBlock = none ∨ (kv mk s).ownBlock ≠ (kv mk s').ownBlock
  lt : bx < base ∧ bs < base ∧ bw < base ∧ bk < base ∧ base ≤ w.heap.size
  ge : w0.heap.size ≤ bx ∧ w0.heap.size ≤ bs ∧ w0.heap.size ≤ bw ∧ w0.heap.size ≤ bk
  ne : bx ≠ bs ∧ bx ≠ bw ∧ bx ≠ bk ∧ bs ≠ bw ∧ bs ≠ bk ∧ bw ≠ bk
  hb : Below w0.heap.size w0 w
section
variable {w0 w w' : World} {bx bs bw bk base : Nat} {cx ws : List Value} {ms mk : ByteArray → Option Value} {ks : ByteArray → List Nat}
theorem own_not {w : World} {base e sz n b : Nat} {v : Value} {xs : List Value} (h : w.ownsRow base e sz v n xs) (hb : b < base) : v.ownBlock = none ∨ v.ownBlock ≠ some b := .inr fun e => own_ne h hb e.symm
theorem LA.grow (h : LA w0 w bx bs bw bk base cx ws ms mk ks) {row : Option Nat} (hg : w.grownBy w' row) (hr : ∀ j, row = some j → w0.heap.size ≤ j ∧ j < base ∧ j ≠ bx ∧ j ≠ bs ∧ j ≠ bw ∧ j ≠ bk) : LA w0 w' bx bs bw bk base cx ws ms mk ks := by
  have hlt := h.lt
  refine ⟨h.hx.grown hg fun e => (hr bx e.symm).2.2.1 rfl, ?_, h.hw.grown hg fun e => (hr bw e.symm).2.2.2.2.1 rfl, ?_, fun s => ?_, h.hd, ?_, h.ge, h.ne, ?_⟩
  · obtain ⟨n, hn⟩ := h.hs; exact ⟨n, hn.grown hg fun e => (hr bs e.symm).2.2.2.1 rfl⟩
  · obtain ⟨n, hn⟩ := h.hk; exact ⟨n, hn.grown hg fun e => (hr bk e.symm).2.2.2.2.2 rfl⟩
  · refine own_grown (h.hr s) hg ?_
    cases row with
    | none =>
      cases hob : (kv mk s).ownBlock with
      | none => exact .inl rfl
      | some j => exact .inr (by simp)
    | some j => exact own_not (h.hr s) (hr j rfl).2.1
  · have := hg.size; omega
  · exact h.hb.grown hg (by have := h.hb.size; omega) fun j hj => (hr j hj).1
theorem LA.setW (h : LA w0 w bx bs bw bk base cx ws ms mk ks) {ws' : List Value} (hp : Put w w' bw) (hb : Blk w' bw 3 ws') : LA w0 w' bx bs bw bk base cx ws' ms mk ks := by
  have hlt := h.lt
  have hn := h.ne
  have hge := h.ge
  have hsz := hp.size
  refine ⟨h.hx.grown hp.grown fun e => by injection e with e; omega, ?_, hb, ?_, fun s => own_grown (h.hr s) hp.grown (own_not (h.hr s) (by omega)), h.hd, by omega, h.ge, h.ne, h.hb.grown hp.grown (by have := h.hb.size; omega) fun j hj => by injection hj with hj; omega⟩
  · obtain ⟨n, hn'⟩ := h.hs; exact ⟨n, hn'.grown hp.grown fun e => by injection e with e; omega⟩
  · obtain ⟨n, hn'⟩ := h.hk; exact ⟨n, hn'.grown hp.grown fun e => by injection e with e; omega⟩
theorem LA.setS (h : LA w0 w bx bs bw bk base cx ws ms mk ks) {ms' : ByteArray → Option Value} (hp : Put w w' bs) (hm : ∃ n, Mp w' bs ms' n) : LA w0 w' bx bs bw bk base cx ws ms' mk ks := by
  have hlt := h.lt
  have hn := h.ne
  have hge := h.ge
  have hsz := hp.size
  refine ⟨h.hx.grown hp.grown fun e => by injection e with e; omega, hm, h.hw.grown hp.grown fun e => by injection e with e; omega, ?_, fun s => own_grown (h.hr s) hp.grown (own_not (h.hr s) (by omega)), h.hd, by omega, h.ge, h.ne, h.hb.grown hp.grown (by have := h.hb.size; omega) fun j hj => by injection hj with hj; omega⟩
  obtain ⟨n, hn'⟩ := h.hk; exact ⟨n, hn'.grown hp.grown fun e => by injection e with e; omega⟩
theorem LA.push {w1 w2 w3 : World} {bt : Nat} {o : Obj} {v2 : Value} (h : LA w0 w bx bs bw bk base cx ws ms mk ks) (up : ByteArray) (i : Nat) (hn : New w w1 bt o) (hg : w1.grownBy w2 (kv mk up).ownBlock)
    (hown : w2.ownsRow base 3 1 v2 ((ks up).length + 1) (ivs (ks up) ++ [.int .i64 (i : Int)])) (hob : v2.ownBlock = (kv mk up).ownBlock ∨ v2.ownBlock = some w1.heap.size) (hp : Put w2 w3 bk) (hm : ∃ n, Mp w3 bk (fun s => if s = up then some v2 else mk s) n) :
    LA w0 w3 bx bs bw bk base cx ws ms (fun s => if s = up then some v2 else mk s) (fun s => if s = up then ks s ++ [i] else ks s) := by
  have hlt := h.lt
  have hne := h.ne
  have hge := h.ge
  have hz1 := hn.size
  have hz2 := hg.size
  have hz3 := hp.size
  have h1 : LA w0 w1 bx bs bw bk base cx ws ms mk ks := h.grow (hn.grown none) (fun j hj => by cases hj)
  have hw0 := h.hb.size
  have hbb : ∀ b, b < base → some b ≠ (kv mk up).ownBlock := fun b hb => own_ne (h1.hr up) hb
  refine ⟨(h1.hx.grown hg (hbb _ hlt.1)).grown hp.grown fun e => by injection e with e; omega, ?_, (h1.hw.grown hg (hbb _ hlt.2.2.1)).grown hp.grown fun e => by injection e with e; omega, hm, fun s => ?_, fun s s' hss => ?_, by omega, h.ge, h.ne, ?_⟩
  · obtain ⟨n, hn'⟩ := h1.hs; exact ⟨n, (hn'.grown hg (hbb _ hlt.2.1)).grown hp.grown fun e => by injection e with e; omega⟩
  · by_cases e : s = up
    · subst e
      have : kv (fun s' => if s' = s then some v2 else mk s') s = v2 := by simp [kv]
      rw [this]
      simp only [if_true]
      refine own_grown (?_ : w2.ownsRow base 3 1 v2 (ks s ++ [i]).length (ivs (ks s ++ [i]))) hp.grown (own_not hown (by omega))
      simpa [ivs] using hown
    · have : kv (fun s' => if s' = up then some v2 else mk s') s = kv mk s := by simp [kv, e]
      rw [this]
      simp only [if_neg e]
      have h2 : w2.ownsRow base 3 1 (kv mk s) (ks s).length (ivs (ks s)) := own_grown (h1.hr s) hg (h.hd s up e)
      exact own_grown h2 hp.grown (own_not h2 (by omega))
  · have key : ∀ t, t ≠ up → (kv mk t).ownBlock = none ∨ (kv mk t).ownBlock ≠ v2.ownBlock := by
      intro t ht
      rcases hob with hob | hob
      · rw [hob]; exact h.hd t up ht
      · rw [hob]
        cases hq : (kv mk t).ownBlock with
        | none => exact .inl rfl
        | some j =>
          right
          intro e
          injection e with e
          have := ((h1.hr t).lt j hq).2
          omega
    by_cases e : s = up
    · subst e
      have h1' : kv (fun s' => if s' = s then some v2 else mk s') s = v2 := by simp [kv]
      have h2' : kv (fun s'' => if s'' = s then some v2 else mk s'') s' = kv mk s' := by simp only [kv]; rw [if_neg (fun q => hss q.symm)]
      rw [h1', h2']
      rcases key s' (Ne.symm hss) with q | q
      · cases hv : v2.ownBlock with
        | none => exact .inl rfl
        | some j => right; rw [q]; simp
      · exact .inr (Ne.symm q)
    · have h1' : kv (fun s' => if s' = up then some v2 else mk s') s = kv mk s := by simp [kv, e]
      rw [h1']
      by_cases e2 : s' = up
      · subst e2
        have : kv (fun s'' => if s'' = s' then some v2 else mk s'') s' = v2 := by simp [kv]
        rw [this]
        exact key s e
      · have : kv (fun s'' => if s'' = up then some v2 else mk s'') s' = kv mk s' := by simp [kv, e2]
        rw [this]
        exact h.hd s s' hss
  · exact ((h1.hb.grown hg (by omega) fun j hj => by have := ((h1.hr up).lt j hj).1; omega)).grown hp.grown (by omega) fun j hj => by injection hj with hj; omega
end

theorem cntGo_le (p : ByteArray) : ∀ (l : List En) (ws : List Int), cntGo p l ws ≤ l.length
  | [], _ => by simp [cntGo]
  | e :: r, [] => by simp [cntGo]
  | e :: r, w :: ws => by
    have := cntGo_le p r ws
    simp only [cntGo, List.length_cons]
    split <;> omega
def zs (m : Nat) : List Value := List.replicate m (.int .i64 0)
theorem made_zero (m : Nat) : (madeCells #[.int .i64 0] m).toList = zs m := by
  apply List.ext_getElem?
  intro j
  simp only [madeCells, zs]
  by_cases h : j < m
  · simp [h, Nat.mod_one]
  · simp [h]
def zvs (l : List Int) : List Value := l.map fun i => .int .i64 i
theorem zvs_len (l : List Int) : (zvs l).length = l.length := by simp [zvs]
theorem zs_len (m : Nat) : (zs m).length = m := by simp [zs]
theorem zs_set (k : Nat) (i : Int) (l : List Int) : (zs (k + 1) ++ zvs l).set k (.int .i64 i) = zs k ++ zvs (i :: l) := by
  rw [zs, List.replicate_succ', List.append_assoc, List.set_append_right _ _ (by simp)]
  simp [zs, zvs]
theorem zs_get (k : Nat) (i : Int) (l : List Int) : (zs k ++ zvs (i :: l))[k]? = some (.int .i64 i) := by
  rw [List.getElem?_append_right (by simp [zs])]
  simp [zs, zvs]
theorem zs_set2 (k : Nat) (i j : Int) (l : List Int) : (zs k ++ zvs (i :: l)).set k (.int .i64 j) = zs k ++ zvs (j :: l) := by
  rw [List.set_append_right _ _ (by simp [zs])]
  simp [zs, zvs]
theorem zs_get0 (k : Nat) (l : List Int) : (zs (k + 1) ++ zvs l)[k]? = some (.int .i64 0) := by
  rw [zs, List.replicate_succ', List.append_assoc, List.getElem?_append_right (by simp)]
  simp
theorem built_sides (a b : Nat) (A1 A2 A3 : Option Addr) (n1 n2 n3 c1 c2 c3 : Nat) : Try.prog.built 55 [(0, .map (some a)), (1, .slice A1 n1 c1), (2, .slice A2 n2 c2), (3, .slice A3 n3 c3), (4, .map (some b))] = some #[.map (some a), .slice A1 n1 c1, .slice A2 n2 c2, .slice A3 n3 c3, .map (some b)] := by kernel_rfl

def LookR (src dst : List En) (rs : List Rl) (v2 v3 : Value) (w : World) (v : Value) (w' : World) : Prop :=
  if listsBad src dst then v = .pointer none
  else ∃ (bx bs bw bk base : Nat) (ms mk : ByteArray → Option Value), v = .pointer (some ⟨bx, 0, none⟩) ∧
    LA w w' bx bs bw bk base [.map (some bs), v2, v3, .slice (some ⟨bw, 0, none⟩) dst.length dst.length, .map (some bk)] (zvs (whyL src dst rs)) ms mk (kidsOf dst)

set_option maxRecDepth 100000 in
theorem look_ok (v1 v2 v3 : Value) (src dst : List En) (rs : List Rl) (w : World) (B : Nat) (h1 : Ens w B v1 src) (h2 : Ens w B v2 dst) (h3 : Rls w B v3 rs) (hB : B ≤ w.heap.size) (hl1 : src.length ≤ 1000000) (hl2 : dst.length ≤ 1000000) (hl3 : rs.length ≤ 1000000)
    (hi1 : EnsIn src) (hi2 : EnsIn dst) (hi3 : RlsIn rs) : Ret Try.prog 20 [v1, v2, v3] w fun v w' => LookR src dst rs v2 v3 w v w' ∧ Below w.heap.size w w' := by
  obtain ⟨A1, c1, rfl, hc1, hA1⟩ := h1.out
  obtain ⟨A2, c2, rfl, hc2, hA2⟩ := h2.out
  obtain ⟨A3, c3, rfl, hc3, hA3⟩ := h3.out
  refine calls_in Try.func20 rfl Try.ntmps20 rfl ?_
  repeat (first | (apply w_op; (first | (apply p_mvL; apply Eq.refl) | (apply p_asP; apply Eq.refl)); apply Eq.refl) | (apply w_nil) | (apply c_seq) | (apply e_then) | (apply c_region))
  refine w_call cl14 (flCheck_ok _ src _ B h1 hB hl1 hi1) rfl ?_
  rintro v w1 ⟨rfl, hb1⟩
  repeat (apply w_op; (first | (apply p_mvB; apply Eq.refl) | (apply p_neq; apply Eq.refl; apply Eq.refl)); apply Eq.refl)
  refine w_bool 19 rfl (fun q => ?_) (fun q => ?_)
  · repeat (first | (apply w_op; (first | (apply p_asP; apply Eq.refl) | (apply p_pick_t; apply Eq.refl; apply Eq.refl)); apply Eq.refl) | (apply w_nil) | (apply c_seq) | (apply e_then) | (apply c_region) | (apply w_off; apply Eq.refl; apply Eq.refl) | (apply c_cond_t; apply Eq.refl) | (apply c_ret) | (apply e_then_ret))
    refine r_ret1 Try.results20 rfl ⟨?_, hb1⟩
    rw [LookR, if_pos (by simp [listsBad, q])]
    rfl
  · have h21 := h2.below (hb1.mono hB)
    have hz1 := hb1.size
    repeat (first | (apply w_op; (apply p_mvL; apply Eq.refl); apply Eq.refl) | (apply w_on; apply Eq.refl))
    refine w_call cl14 (flCheck_ok _ dst _ B h21 (by omega) hl2 hi2) rfl ?_
    rintro v w2 ⟨rfl, hb2⟩
    have hbel2 := hb1.trans (hb2.mono hz1)
    have hz2 := hbel2.size
    repeat (first | (apply w_op; (first | (apply p_neq; apply Eq.refl; apply Eq.refl) | (apply p_pick_f; apply Eq.refl; apply Eq.refl)); apply Eq.refl) | (apply w_nil) | (apply e_then) | (apply w_on; apply Eq.refl))
    refine c_cond rfl (fun q2 => ?_) (fun q2 => ?_)
    · repeat (first | (apply w_op; (apply p_asP; apply Eq.refl); apply Eq.refl) | (apply w_nil) | (apply c_seq) | (apply e_then) | (apply c_region) | (apply c_ret) | (apply e_then_ret))
      refine r_ret1 Try.results20 rfl ⟨?_, hbel2⟩
      rw [LookR, if_pos (by simp [listsBad, q2])]
      rfl
    · have hbad : listsBad src dst = false := by simp [listsBad, q, q2]
      have hok : flErr dst = 0 := by simpa using q2
      repeat (first | (apply c_seq) | (apply e_then) | (apply c_region) | (apply c_skip))
      refine w_makeMap rfl (fun bs w3 hn3 => ?_)
      repeat (apply w_op; (first | (apply p_mvL; apply Eq.refl) | (apply p_len_sl; apply Eq.refl)); apply Eq.refl)
      refine w_make rfl rfl (by omega) (by omega) rfl (fun bw w4 hn4 => ?_)
      refine w_makeMap rfl (fun bk w5 hn5 => ?_)
      refine w_op (p_build (built_sides bs bk _ _ _ _ _ _ _ _ _)) rfl ?_
      refine w_box rfl rfl (fun bx w6 hn6 => ?_)
      have z3 := hn3.size
      have z4 := hn4.size
      have z5 := hn5.size
      have z6 := hn6.size
      have e3 := hn3.hb
      have e4 := hn4.hb
      have e5 := hn5.hb
      have e6 := hn6.hb
      have hbw4 : Blk w4 bw 3 (zs dst.length) := by
        have := hn4.blk
        rw [show (Value.int .i64 0).cells = #[.int .i64 0] from rfl, made_zero] at this
        simpa using this
      have hLA : LA w w6 bx bs bw bk w6.heap.size [.map (some bs), .slice A2 dst.length c2, .slice A3 rs.length c3, .slice (some ⟨bw, 0, none⟩) dst.length dst.length, .map (some bk)] (zs dst.length) (srcV []) (fun _ => none) (fun _ => []) := by
        refine ⟨?_, ⟨0, ?_⟩, (hbw4.grown (hn5.grown none) (by simp)).grown (hn6.grown none) (by simp), ⟨0, hn5.mp.grown (hn6.grown none) (by simp)⟩, fun s => World.ownsRow_nil _ _ _ _, fun s s' _ => .inl rfl, by omega, by omega, by omega, ?_⟩
        · have := hn6.blk
          exact this
        · exact (((hn3.mp.fun_ (m' := srcV []) (fun s => rfl)).grown (hn4.grown none) (by simp)).grown (hn5.grown none) (by simp)).grown (hn6.grown none) (by simp)
        · exact hn6.below (hn5.below (hn4.below (hn3.below hbel2 (by omega)) (by omega)) (by omega)) (by omega)
      obtain ⟨cx, hcx⟩ : ∃ cx : List Value, cx = [.map (some bs), .slice A2 dst.length c2, .slice A3 rs.length c3, .slice (some ⟨bw, 0, none⟩) dst.length dst.length, .map (some bk)] := ⟨_, rfl⟩
      rw [← hcx] at hLA
      clear hbw4 hn3 hn4 hn5 hn6
      repeat (first | (apply w_op; (first | (apply p_mvI; apply Eq.refl) | (apply p_mvL; apply Eq.refl) | (apply p_asP; apply Eq.refl) | (apply p_len_sl; apply Eq.refl)); apply Eq.refl) | (apply w_nil) | (apply c_seq) | (apply e_then) | (apply c_region) | (apply c_block))
      refine c_loop [35] [9, 36, 37, 38, 39, 40, 41, 42, 43, 44, 45, 46] (fun vs w7 => ∃ k : Nat, vs = [.int .i64 (k : Int)] ∧ k ≤ src.length ∧ LA w w7 bx bs bw bk w6.heap.size cx (zs dst.length) (srcV (src.take k)) (fun _ => none) (fun _ => [])) (fun vs _ => src.length - (intOf (vs.headD undef)).toNat) rfl
        ⟨0, rfl, Nat.zero_le _, hLA⟩ ?_
      clear hLA
      rintro _ u7 w7 ⟨k, rfl, hk, hLA⟩
      have hs7 := h1.below (hLA.hb.mono hB)
      repeat (first | (apply w_op; (apply p_lss; apply Eq.refl; apply Eq.refl); apply Eq.refl) | (apply w_nil) | (apply c_seq) | (apply e_then) | (apply c_region))
      refine c_cond rfl (fun g => ?_) (fun g => ?_)
      · have hlt := of_decide_eq_true g
        have hk1 : k < src.length := by omega
        obtain ⟨ad, rfl, hblk, hcel⟩ := hs7.at_ rfl hk1
        repeat (first | (apply w_op; (apply p_indexAddr; apply Eq.refl; apply Eq.refl; apply Eq.refl; omega); apply Eq.refl) | (apply c_seq) | (apply e_then) | (apply c_region) | (apply c_block) | (apply c_skip))
        refine w_op (p_loadS rfl hcel rfl) rfl ?_
        refine w_alloc rfl (fun b9 w8 hn8 => ?_)
        obtain ⟨cs8, hb8, hl8⟩ := hn8.zblk Try.prog
        skip
        refine w_storeW rfl rfl rfl rfl hb8 hl8 (fun w9 hp9 hb9 => ?_)
        have hLA9 := hLA.grow (gNP hn8 hp9) (fun j hj => by cases hj)
        have hLAd := hLA9.grow (gD w9) (fun j hj => by cases hj)
        have hc9 := hb9.obj0
        obtain ⟨nm, hms⟩ := hLAd.hs
        repeat (first | (apply w_nil) | (apply e_then))
        refine c_mix (fun x => Blk x bx 55 cx ∧ Cel x ⟨b9, 0, none⟩ (enE src[k])) [0,1,2,3,4,5,6] [7] mixed (by kernel_rfl) ⟨hLAd.hx, hc9.drew⟩ ?_
        repeat (apply s_op; intro _ hC; (first | (apply p_mvP; apply Eq.refl) | (apply p_nilCheck; apply Eq.refl) | (apply p_fieldAddr; apply Eq.refl)); apply Eq.refl)
        refine s_op (fun x hS => p_loadF (j := 0) (v := .map (some bs)) rfl hS.1.obj0 (by rw [hcx]; rfl)) rfl ?_
        repeat (apply s_op; intro _ hC; (apply p_fieldAddr; apply Eq.refl); apply Eq.refl)
        refine s_op (fun x hS => p_loadF (j := 0) (v := .string src[k].path) rfl hS.2 rfl) rfl ?_
        refine s_op (fun x hS => p_loadS rfl hS.2 rfl) rfl ?_
        refine s_nil (t_step ?_)
        refine w_mapUpdate (v := .agg (enE src[k]).toArray) rfl rfl rfl hms (fun w10 hp10 hm10 => w_nil (e_ts0 ?_))
        repeat (first | (apply w_op; (first | (apply p_mvI; apply Eq.refl) | (apply p_add64; apply Eq.refl; apply Eq.refl; omega)); apply Eq.refl) | (apply w_nil) | (apply e_then) | (apply c_region) | (apply e_bk))
        refine e_lp (by repeat (first | exact Over.base | exact Over.refl | refine Over.put rfl ?_ | refine Over.cnP rfl ?_ | refine Over.zpP rfl ?_)) ?_
        refine ⟨⟨k + 1, rfl, by omega, hLAd.setS hp10 ⟨_, hm10.fun_ (m' := srcV (src.take (k + 1))) (fun s => ?_)⟩⟩, ?_⟩
        · rw [List.take_succ_eq_append_getElem hk1]
          unfold srcV
          rw [srcM_snoc]
          by_cases e : s = src[k].path
          · simp [e]
          · simp [e]
        · show src.length - ((k : Int) + 1).toNat < src.length - ((k : Int)).toNat
          omega
      · have hge := of_decide_eq_false g
        obtain rfl : k = src.length := by omega
        rw [List.take_length] at hLA
        repeat (first | (apply c_seq) | (apply e_then) | (apply c_region) | (apply c_exit) | (apply e_then_exit) | (apply e_bk_same) | (apply e_lp_exit))
        refine w_makeMap rfl (fun bm w8 hn8 => ?_)
        have hm8 := hn8.mp
        have em := hn8.hb
        have zm := hn8.size
        have zl := hLA.lt
        have hLA8 : LA w w8 bx bs bw bk w8.heap.size cx (zs dst.length) (srcV src) (fun _ => none) (fun s => kidsFrom s (dst.take 0) 0) := by
          have := hLA.grow (hn8.grown none) (fun j hj => by cases hj)
          exact ⟨this.hx, this.hs, this.hw, this.hk, fun s => World.ownsRow_nil _ _ _ _, fun s s' _ => .inl rfl, by omega, this.ge, this.ne, this.hb⟩
        clear hLA hn8
        have hmlt : bm < w8.heap.size := by omega
        have hmne : bm ≠ bx ∧ bm ≠ bs ∧ bm ≠ bw ∧ bm ≠ bk ∧ w.heap.size ≤ bm := by have := hLA8.hb.size; have := hLA8.ge; omega
        repeat (first | (apply w_op; (first | (apply p_mvI; apply Eq.refl) | (apply p_mvL; apply Eq.refl) | (apply p_asM; apply Eq.refl) | (apply p_len_sl; apply Eq.refl)); apply Eq.refl) | (apply w_nil) | (apply c_seq) | (apply e_then) | (apply c_region) | (apply c_block))
        refine c_loop [50] [11, 12, 13, 51, 52, 53, 54, 55, 56, 57, 58, 59, 60, 61, 62, 63, 64, 65, 66, 67, 68, 69, 70, 71, 72] (fun vs w9 => ∃ (k : Nat) (mk : ByteArray → Option Value), vs = [.int .i64 (k : Int)] ∧ k ≤ dst.length ∧ Mp w9 bm (fun _ => none) 0 ∧ LA w w9 bx bs bw bk w8.heap.size cx (zs dst.length) (srcV src) mk (fun s => kidsFrom s (dst.take k) 0)) (fun vs _ => dst.length - (intOf (vs.headD undef)).toNat) rfl
          ⟨0, _, rfl, Nat.zero_le _, hm8, hLA8⟩ ?_
        clear hLA8 hm8
        rintro _ u9 w9 ⟨k, mk, rfl, hk, hm9, hLA⟩
        have hs9 := h2.below (hLA.hb.mono hB)
        repeat (first | (apply w_op; (apply p_lss; apply Eq.refl; apply Eq.refl); apply Eq.refl) | (apply w_nil) | (apply c_seq) | (apply e_then) | (apply c_region))
        refine c_cond rfl (fun g => ?_) (fun g => ?_)
        · have hlt := of_decide_eq_true g
          have hk1 : k < dst.length := by omega
          obtain ⟨ad, rfl, hblk, hcel⟩ := hs9.at_ rfl hk1
          obtain ⟨hp1, _, _⟩ := hi2.out _ (List.getElem_mem hk1)
          repeat (first | (apply w_op; (first | (apply p_mvI; apply Eq.refl) | (apply p_indexAddr; apply Eq.refl; apply Eq.refl; apply Eq.refl; omega)); apply Eq.refl) | (apply c_seq) | (apply e_then) | (apply c_region) | (apply c_block) | (apply c_skip))
          refine w_op (p_loadS rfl hcel rfl) rfl ?_
          refine w_alloc rfl (fun b12 w10 hn10 => ?_)
          obtain ⟨cs10, hb10, hl10⟩ := hn10.zblk Try.prog
          repeat (apply w_op; (apply p_asI; apply Eq.refl); apply Eq.refl)
          refine w_storeW rfl rfl rfl rfl hb10 hl10 (fun w11 hp11 hb11 => ?_)
          have hLA11 := hLA.grow (gNP hn10 hp11) (fun j hj => by cases hj)
          have hm11 := hm9.grown (gNP hn10 hp11) (by simp)
          have hc11 := hb11.obj0
          repeat (first | (apply w_op; (apply p_fieldAddr; apply Eq.refl); apply Eq.refl) | (apply w_nil) | (apply c_seq) | (apply e_then) | (apply c_region))
          refine w_op (p_load0 (v := .string dst[k].path) rfl (by rw [addr_add_zero]; exact hc11) rfl) rfl ?_
          refine w_call cl29 (parent_ok _ _ hp1) rfl ?_
          rintro v w12 ⟨rfl, rfl⟩
          have hLAd := hLA11.grow (gD w12) (fun j hj => by cases hj)
          have hmd := hm11.grown (gD w12) (by simp)
          have hld := hLAd.lt
          have hlen := kidsFrom_len (parent dst[k].path) (dst.take k) 0
          rw [List.length_take] at hlen
          repeat (first | (apply w_op; (apply p_asS; apply Eq.refl); apply Eq.refl) | (apply w_nil) | (apply e_then))
          refine c_mix (fun x => Blk x bx 55 cx ∧ ∃ n, Mp x bk mk n) [0,1,2,3,4,5,6,7,8,9,10,11] [12,13,14] mixed (by kernel_rfl) ⟨hLAd.hx, hLAd.hk⟩ ?_
          repeat (apply s_op; intro _ hC; (first | (apply p_mvP; apply Eq.refl) | (apply p_nilCheck; apply Eq.refl) | (apply p_fieldAddr; apply Eq.refl)); apply Eq.refl)
          refine s_op (fun x hS => p_loadF (j := 4) (v := .map (some bk)) rfl hS.1.obj0 (by rw [hcx]; rfl)) rfl ?_
          repeat (apply s_op; intro _ hC; (first | (apply p_mvS; apply Eq.refl) | (apply p_mvP; apply Eq.refl) | (apply p_nilCheck; apply Eq.refl) | (apply p_fieldAddr; apply Eq.refl)); apply Eq.refl)
          refine s_op (fun x hS => p_loadF (j := 4) (v := .map (some bk)) rfl hS.1.obj0 (by rw [hcx]; rfl)) rfl ?_
          repeat (apply s_op; intro _ hC; (apply p_mvS; apply Eq.refl); apply Eq.refl)
          refine s_op (v := kv mk (parent dst[k].path)) (fun x hS => by obtain ⟨nk, hk'⟩ := hS.2; exact p_lookup rfl rfl hk') rfl ?_
          repeat (apply s_op; intro _ hC; (apply p_mvI; apply Eq.refl); apply Eq.refl)
          refine s_nil (t_step ?_)
          refine w_buildSlice (vs := [.int .i64 (k : Int)]) rfl rfl (by intro v hv; simp at hv; subst hv; rfl) (by omega) rfl (fun bt w13 hn13 => w_nil (e_ts ?_ (t_step ?_)))
          · exact ⟨hLAd.hx.grown (hn13.grown none) (by simp), by obtain ⟨nk, hk'⟩ := hLAd.hk; exact ⟨nk, hk'.grown (hn13.grown none) (by simp)⟩⟩
          have hown13 := own_new (hLAd.hr (parent dst[k].path)) hn13
          have z13 := hn13.size
          refine w_append (v := kv mk (parent dst[k].path)) (news := [.int .i64 (k : Int)]) (ad := ⟨bt, 0, none⟩) (m := 1) (c := 1) (by omega) rfl hown13 rfl rfl hn13.blk.obj0 rfl (by omega) (by omega) (by omega) rfl (fun v14 w14 ho14 hg14 hnil14 hbl14 => w_nil (e_ts ?_ (t_step ?_)))
          · exact ⟨(hLAd.hx.grown (hn13.grown none) (by simp)).grown hg14 (own_ne hown13 hld.1), by obtain ⟨nk, hk'⟩ := hLAd.hk; exact ⟨nk, (hk'.grown (hn13.grown none) (by simp)).grown hg14 (own_ne hown13 hld.2.2.2.1)⟩⟩
          obtain ⟨nk, hk'⟩ := hLAd.hk
          refine w_mapUpdate (v := v14) rfl rfl rfl ((hk'.grown (hn13.grown none) (by simp)).grown hg14 (own_ne hown13 hld.2.2.2.1)) (fun w15 hp15 hm15 => w_nil (e_ts0 ?_))
          have hLA15 := hLAd.push (parent dst[k].path) k hn13 hg14 ho14 hbl14 hp15 ⟨_, hm15⟩
          have hm15' := ((hmd.grown (hn13.grown none) (by simp)).grown hg14 (own_ne hown13 hmlt)).grown hp15.grown (fun e => by injection e with e; omega)
          repeat (first | (apply w_op; (first | (apply p_mvI; apply Eq.refl) | (apply p_add64; apply Eq.refl; apply Eq.refl; omega)); apply Eq.refl) | (apply w_nil) | (apply e_then) | (apply c_region) | (apply e_bk))
          refine e_lp (by repeat (first | exact Over.base | exact Over.refl | refine Over.put rfl ?_ | refine Over.cnP rfl ?_ | refine Over.zpP rfl ?_)) ?_
          refine ⟨⟨k + 1, fun s => if s = parent dst[k].path then some v14 else mk s, rfl, by omega, hm15', ?_⟩, ?_⟩
          · have e : (fun s => kidsFrom s (dst.take (k + 1)) 0) = (fun s => if s = parent dst[k].path then kidsFrom s (dst.take k) 0 ++ [k] else kidsFrom s (dst.take k) 0) := by
              funext s
              rw [List.take_succ_eq_append_getElem hk1, kidsFrom_snoc, List.length_take, Nat.min_eq_left (by omega), Nat.zero_add]
              by_cases e : s = parent dst[k].path
              · simp [e]
              · have : ¬ parent dst[k].path = s := fun q => e q.symm
                simp [e, this]
            rw [e]
            exact hLA15
          · show dst.length - ((k : Int) + 1).toNat < dst.length - ((k : Int)).toNat
            omega
        · have hge := of_decide_eq_false g
          obtain rfl : k = dst.length := by omega
          rw [List.take_length] at hLA
          repeat (first | (apply w_op; (first | (apply p_mvL; apply Eq.refl) | (apply p_asI; apply Eq.refl) | (apply p_len_sl; apply Eq.refl) | (apply p_sub64; apply Eq.refl; apply Eq.refl; omega)); apply Eq.refl) | (apply w_nil) | (apply c_seq) | (apply e_then) | (apply c_region) | (apply c_block) | (apply c_exit) | (apply e_then_exit) | (apply e_bk_same) | (apply e_lp_exit))
          refine c_loop [14] [15, 76, 77, 78, 79, 80, 81, 82, 83, 84, 85, 86, 87, 88, 89, 90, 91, 92, 93, 94, 95, 96, 97, 98, 99, 100, 101, 102, 103, 104, 105, 106, 107, 108, 109, 110, 111, 112, 113, 114, 115, 116, 117, 118, 119, 120, 121, 122, 123, 124, 125, 126, 127, 128, 129, 130, 131, 132, 133, 134, 135, 136, 137, 138, 139, 140, 141, 142, 143, 144, 145, 146, 147] (fun vs w10 => ∃ (k : Nat) (t : Int) (mm : ByteArray → Option Value) (nm : Nat), vs = [.int .i64 t] ∧ t = (k : Int) - 1 ∧ k ≤ dst.length ∧ Mp w10 bm mm nm ∧ (∀ s, (mm s).getD (.int .i64 0) = .int .i64 (cntGo s (dst.drop k) (whyR src rs (fun p => (kidsOf dst p).length) (dst.drop k)) : Int)) ∧
            LA w w10 bx bs bw bk w8.heap.size cx (zs k ++ zvs (whyR src rs (fun p => (kidsOf dst p).length) (dst.drop k))) (srcV src) mk (kidsOf dst)) (fun vs _ => (intOf (vs.headD undef) + 1).toNat) rfl
            ⟨dst.length, _, _, _, rfl, rfl, Nat.le_refl _, hm9, fun s => by rw [List.drop_length]; rfl, by rw [List.drop_length]; simp only [whyR, zvs, List.map_nil, List.append_nil]; exact hLA⟩ ?_
          clear hLA hm9
          rintro _ u10 w10 ⟨k, t, mm, nm, rfl, ht, hk, hm10, hmm, hLA⟩
          have hs10 := h2.below (hLA.hb.mono hB)
          repeat (first | (apply w_op; (first | (apply p_mvI; apply Eq.refl) | (apply p_geq; apply Eq.refl; apply Eq.refl)); apply Eq.refl) | (apply w_nil) | (apply c_seq) | (apply e_then) | (apply c_region))
          refine c_cond rfl (fun g => ?_) (fun g => ?_)
          · have g' := of_decide_eq_true g
            obtain ⟨k', rfl⟩ : ∃ k' : Nat, t = (k' : Int) := ⟨t.toNat, by omega⟩
            obtain rfl : k = k' + 1 := by omega
            have hk1 : k' < dst.length := by omega
            obtain ⟨ad, rfl, hblk, hcel⟩ := hs10.at_ rfl hk1
            obtain ⟨hp1, _, _⟩ := hi2.out _ (List.getElem_mem hk1)
            obtain ⟨WR, hWR⟩ : ∃ WR, WR = whyR src rs (fun p => (kidsOf dst p).length) (dst.drop (k' + 1)) := ⟨_, rfl⟩
            rw [← hWR] at hLA
            rw [← hWR] at hmm
            have hdrop : whyR src rs (fun p => (kidsOf dst p).length) (dst.drop k') = (if why0 src rs dst[k'] = 0 ∧ fullE (fun p => (kidsOf dst p).length) dst[k'] (dst.drop (k' + 1)) WR = true then 4 else why0 src rs dst[k']) :: WR := by
              rw [List.drop_eq_getElem_cons hk1, whyR, ← hWR]
            repeat (first | (apply w_op; (first | (apply p_mvI; apply Eq.refl) | (apply p_mvL; apply Eq.refl) | (apply p_indexAddr; apply Eq.refl; apply Eq.refl; apply Eq.refl; omega)); apply Eq.refl) | (apply c_seq) | (apply e_then) | (apply c_region) | (apply c_block) | (apply c_skip))
            refine w_op (p_loadS rfl hcel rfl) rfl ?_
            refine w_alloc rfl (fun b15 w11 hn11 => ?_)
            obtain ⟨cs11, hb11, hl11⟩ := hn11.zblk Try.prog
            skip
            refine w_storeW rfl rfl rfl rfl hb11 hl11 (fun w12 hp12 hb12 => ?_)
            have hLA12 := hLA.grow (gNP hn11 hp12) (fun j hj => by cases hj)
            have hm12 := hm10.grown (gNP hn11 hp12) (by simp)
            have hc12 := hb12.obj0
            have hz12 : b15 < w12.heap.size := hb12.lt
            have e15 : w8.heap.size ≤ b15 := by have := hLA.lt; have := hn11.hb; omega
            have hl12 := hLA12.lt
            have hw12 := hLA12.hb.size
            obtain ⟨ns, hms12⟩ := hLA12.hs
            repeat (first | (apply w_nil) | (apply c_seq) | (apply e_then))
            refine c_quietTail (fun x => Below w12.heap.size w12 x) 9 mixed (by kernel_rfl) (Below.refl _ _).drew ?_
            repeat (apply q_op; intro _ hC; (first | (apply p_mvP; apply Eq.refl) | (apply p_nilCheck; apply Eq.refl) | (apply p_fieldAddr; apply Eq.refl)); apply Eq.refl)
            refine q_op (fun x hx => p_loadF (j := 3) (v := .slice (some ⟨bw, 0, none⟩) dst.length dst.length) rfl (hLA12.hx.below hx (by omega)).obj0 (by rw [hcx]; rfl)) rfl ?_
            repeat (apply q_op; intro _ hC; (first | (apply p_mvI; apply Eq.refl) | (apply p_mvP; apply Eq.refl)); apply Eq.refl)
            refine q_op (fun x hx => p_loadS rfl (hc12.below hx hz12) rfl) rfl ?_
            refine q_call cl34 (.int .i64 (why0 src rs dst[k'])) (fun x hx => ?_) rfl ?_
            · have hxs := hx.size
              refine Ret.mono (first_ok ⟨bx, 0, none⟩ src rs dst[k'] bs ns _ _ _ _ x B (by have := (hLA12.hx.below hx (by omega)).obj0; rw [hcx] at this; exact this) (hms12.below hx (by omega)) (h3.below ((hLA12.hb.trans (hx.mono hw12)).mono hB)) (by omega) hi3 hl3 hp1) ?_
              rintro v' w' ⟨hv, hb'⟩
              exact ⟨hv, hx.trans (hb'.mono hx.size)⟩
            repeat (apply q_op; intro _ hC; (apply p_indexAddr; apply Eq.refl; apply Eq.refl; apply Eq.refl; omega); apply Eq.refl)
            refine q_tail (fun w13 hb13 => ?_)
            have hLA13 := hLA12.grow (gB hb13) (fun j hj => by cases hj)
            have hm13 := hm12.below hb13 (by omega)
            have hc13 := hc12.below hb13 hz12
            have hz13 := hb13.size
            refine w_store (v := .int .i64 (why0 src rs dst[k'])) (b := bw) (j := k') (cs := zs (k' + 1) ++ zvs WR) (e := 3) ⟨_, _, inferInstance⟩ rfl (by simp [addr_add_plain]) rfl rfl hLA13.hw (zs_get0 _ _) (fun w14 hp14 hb14 => ?_)
            rw [zs_set] at hb14
            have hLA14 := hLA13.setW hp14 hb14
            have hm14 := hm13.grown hp14.grown (fun e => by injection e with e; omega)
            have hc14 := hc13.grown hp14.grown (fun e => by injection e with e; have : b15 = bw := e; omega)
            have hl14 := hLA14.lt
            have hz14 : b15 < w14.heap.size := by have := hp14.size; omega
            clear hLA12 hLA13 hm12 hm13 hc12 hc13 hb14 hLA hm10
            obtain ⟨Ak, ck, hkv⟩ : ∃ Ak ck, kv mk dst[k'].path = .slice Ak (kidsOf dst dst[k'].path).length ck := by
              rcases (hLA14.hr dst[k'].path).2 with ⟨e, h0⟩ | ⟨g, cap, cur, e, _⟩
              · exact ⟨none, 0, by rw [e, h0]⟩
              · exact ⟨_, _, e⟩
            obtain ⟨nk, hmk14⟩ := hLA14.hk
            repeat (first | (apply w_nil) | (apply c_seq) | (apply e_then))
            refine c_cut1 [127] [84, 85, 86, 87, 88, 89, 90, 91, 92, 93, 94, 95, 96, 97, 98, 99, 100, 101, 102, 103, 104, 105, 106, 107, 108, 109, 110, 111, 112, 113, 114, 115, 116, 117, 118, 119, 120, 121, 122, 123, 124, 125, 126] (fun vs w15 => vs = [.bool (decide (why0 src rs dst[k'] = 0) && fullE (fun p => (kidsOf dst p).length) dst[k'] (dst.drop (k' + 1)) WR)] ∧ Below w14.heap.size w14 w15) ?_ ?_
            · refine c_quiet (fun x => Below w14.heap.size w14 x) mixed (by kernel_rfl) (Below.refl _ _).drew ?_
              repeat (apply q_op; intro _ hC; (first | (apply p_mvP; apply Eq.refl) | (apply p_nilCheck; apply Eq.refl) | (apply p_fieldAddr; apply Eq.refl)); apply Eq.refl)
              refine q_op (fun x hx => p_loadF (j := 3) (v := .slice (some ⟨bw, 0, none⟩) dst.length dst.length) rfl (hLA14.hx.below hx (by omega)).obj0 (by rw [hcx]; rfl)) rfl ?_
              repeat (apply q_op; intro _ hC; (first | (apply p_mvI; apply Eq.refl) | (apply p_indexAddr; apply Eq.refl; apply Eq.refl; apply Eq.refl; omega)); apply Eq.refl)
              refine q_op (fun x hx => p_loadA (a' := (⟨bw, 0, none⟩ : Addr).add (((k' : Int)).toNat * 1)) (v := .int .i64 (why0 src rs dst[k'])) (j := k') rfl (by simp) (hLA14.hw.below hx (by omega)).obj0 (zs_get _ _ _)) rfl ?_
              repeat (apply q_op; intro _ hC; (first | (apply p_mvB; apply Eq.refl) | (apply p_eql; apply Eq.refl; apply Eq.refl)); apply Eq.refl)
              refine q_bool 101 rfl (fun f1 => ?_) (fun f1 => ?_)
              · repeat (first | (apply q_op; intro _ hC; (apply p_fieldAddr; apply Eq.refl); apply Eq.refl) | (apply q_on; apply Eq.refl))
                refine q_op (fun x hx => p_loadF (j := 1) (v := .int .i64 dst[k'].kind) rfl (hc14.below hx hz14) rfl) rfl ?_
                repeat (first | (apply q_op; intro _ hC; (first | (apply p_mvB; apply Eq.refl) | (apply p_eql; apply Eq.refl; apply Eq.refl) | (apply p_pick_t; apply Eq.refl; apply Eq.refl)); apply Eq.refl) | (apply q_on; apply Eq.refl))
                refine q_bool 106 rfl (fun f2 => ?_) (fun f2 => ?_)
                · repeat (first | (apply q_op; intro _ hC; (first | (apply p_mvM; apply Eq.refl) | (apply p_fieldAddr; apply Eq.refl)); apply Eq.refl) | (apply q_on; apply Eq.refl))
                  refine q_op (fun x hx => p_loadF (j := 0) (v := .string dst[k'].path) rfl (hc14.below hx hz14) rfl) rfl ?_
                  repeat (apply q_on; apply Eq.refl)
                  refine q_op (v := .int .i64 (cntGo dst[k'].path (dst.drop (k' + 1)) WR : Int)) (fun x hx => by rw [← hmm]; exact p_lookup rfl rfl (hm14.below hx (by omega))) rfl ?_
                  repeat (first | (apply q_op; intro _ hC; (apply p_fieldAddr; apply Eq.refl); apply Eq.refl) | (apply q_on; apply Eq.refl))
                  refine q_op (fun x hx => p_loadF (j := 2) (v := .int .i64 dst[k'].size) rfl (hc14.below hx hz14) rfl) rfl ?_
                  repeat (first | (apply q_op; intro _ hC; (first | (apply p_mvB; apply Eq.refl) | (apply p_neq; apply Eq.refl; apply Eq.refl)); apply Eq.refl) | (apply q_on; apply Eq.refl))
                  refine q_bool 114 rfl (fun f3 => ?_) (fun f3 => ?_)
                  · repeat (first | (apply q_op; intro _ hC; (apply p_pick_t; apply Eq.refl; apply Eq.refl); apply Eq.refl) | (apply q_on; apply Eq.refl) | (apply q_off; apply Eq.refl; apply Eq.refl))
                    refine q_nil (fun w15 hb15 => ?_)
                    refine e_ct (by repeat (first | exact Over.base | exact Over.refl | refine Over.put rfl ?_ | refine Over.cnP rfl ?_ | refine Over.zpP rfl ?_)) ?_
                    refine ⟨?_, hb15⟩
                    rw [f1, fullE, isDir, f2, f3]; rfl
                  · repeat (first | (apply q_op; intro _ hC; (first | (apply p_mvP; apply Eq.refl) | (apply p_nilCheck; apply Eq.refl) | (apply p_fieldAddr; apply Eq.refl)); apply Eq.refl) | (apply q_on; apply Eq.refl))
                    refine q_op (fun x hx => p_loadF (j := 4) (v := .map (some bk)) rfl (hLA14.hx.below hx (by omega)).obj0 (by rw [hcx]; rfl)) rfl ?_
                    repeat (first | (apply q_op; intro _ hC; (apply p_fieldAddr; apply Eq.refl); apply Eq.refl) | (apply q_on; apply Eq.refl))
                    refine q_op (fun x hx => p_loadF (j := 0) (v := .string dst[k'].path) rfl (hc14.below hx hz14) rfl) rfl ?_
                    repeat (apply q_on; apply Eq.refl)
                    refine q_op (v := .slice Ak (kidsOf dst dst[k'].path).length ck) (fun x hx => p_lookupV (s := dst[k'].path) rfl rfl (hmk14.below (B := w14.heap.size) hx (by omega)) hkv) rfl ?_
                    repeat (first | (apply q_op; intro _ hC; (first | (apply p_fieldAddr; apply Eq.refl) | (apply p_len_sl; apply Eq.refl)); apply Eq.refl) | (apply q_on; apply Eq.refl))
                    refine q_op (fun x hx => p_loadF (j := 2) (v := .int .i64 dst[k'].size) rfl (hc14.below hx hz14) rfl) rfl ?_
                    repeat (first | (apply q_op; intro _ hC; (first | (apply p_neq; apply Eq.refl; apply Eq.refl) | (apply p_pick_t; apply Eq.refl; apply Eq.refl) | (apply p_pick_f; apply Eq.refl; apply Eq.refl)); apply Eq.refl) | (apply q_on; apply Eq.refl))
                    refine q_nil (fun w15 hb15 => ?_)
                    refine e_ct (by repeat (first | exact Over.base | exact Over.refl | refine Over.put rfl ?_ | refine Over.cnP rfl ?_ | refine Over.zpP rfl ?_)) ?_
                    refine ⟨?_, hb15⟩
                    rw [f1, fullE, isDir, f2, f3]; rfl
                · repeat (first | (apply q_op; intro _ hC; (apply p_pick_f; apply Eq.refl; apply Eq.refl); apply Eq.refl) | (apply q_off; apply Eq.refl; apply Eq.refl) | (apply q_off2; apply Eq.refl; apply Eq.refl))
                  refine q_nil (fun w15 hb15 => ?_)
                  refine e_ct (by repeat (first | exact Over.base | exact Over.refl | refine Over.put rfl ?_ | refine Over.cnP rfl ?_ | refine Over.zpP rfl ?_)) ?_
                  refine ⟨?_, hb15⟩
                  rw [f1, fullE, isDir, f2]; rfl
              · repeat (first | (apply q_op; intro _ hC; (first | (apply p_mvB; apply Eq.refl) | (apply p_pick_f; apply Eq.refl; apply Eq.refl)); apply Eq.refl) | (apply q_off; apply Eq.refl; apply Eq.refl) | (apply q_off2; apply Eq.refl; apply Eq.refl))
                refine q_nil (fun w15 hb15 => ?_)
                refine e_ct (by repeat (first | exact Over.base | exact Over.refl | refine Over.put rfl ?_ | refine Over.cnP rfl ?_ | refine Over.zpP rfl ?_)) ?_
                refine ⟨?_, hb15⟩
                rw [f1]; rfl
            · rintro _ u15 w15 ⟨rfl, hb15⟩
              have hLA15 := hLA14.grow (gB hb15) (fun j hj => by cases hj)
              have hm15 := hm14.below hb15 (by omega)
              have hc15 := hc14.below hb15 hz14
              have hz15 : b15 < w15.heap.size := Nat.lt_of_lt_of_le hz14 hb15.size
              have hl15 := hLA15.lt
              skip
              refine c_cut1 [] [128, 129, 130, 131, 132, 133] (fun vs w16 => vs = [] ∧ LA w w16 bx bs bw bk w8.heap.size cx (zs k' ++ zvs (whyR src rs (fun p => (kidsOf dst p).length) (dst.drop k'))) (srcV src) mk (kidsOf dst) ∧ Mp w16 bm mm nm ∧ Cel w16 ⟨b15, 0, none⟩ (enE dst[k']) ∧ b15 < w16.heap.size) ?_ ?_
              · refine c_cond rfl (fun q3 => ?_) (fun q3 => ?_)
                · have q3' : why0 src rs dst[k'] = 0 ∧ fullE (fun p => (kidsOf dst p).length) dst[k'] (dst.drop (k' + 1)) WR = true := by simpa using q3
                  repeat (first | (apply w_op; (first | (apply p_mvP; apply Eq.refl) | (apply p_nilCheck; apply Eq.refl) | (apply p_fieldAddr; apply Eq.refl)); apply Eq.refl) | (apply c_region))
                  refine w_op (p_loadF (j := 3) (v := .slice (some ⟨bw, 0, none⟩) dst.length dst.length) rfl hLA15.hx.obj0 (by rw [hcx]; rfl)) rfl ?_
                  repeat (apply w_op; (first | (apply p_mvI; apply Eq.refl) | (apply p_indexAddr; apply Eq.refl; apply Eq.refl; apply Eq.refl; omega)); apply Eq.refl)
                  refine w_store (v := .int .i64 4) (b := bw) (j := k') (cs := zs k' ++ zvs (why0 src rs dst[k'] :: WR)) (e := 3) ⟨_, _, inferInstance⟩ rfl (by simp [addr_add_plain]) rfl rfl hLA15.hw (zs_get _ _ _) (fun w16 hp16 hb16 => ?_)
                  rw [zs_set2] at hb16
                  repeat (apply w_nil)
                  refine e_ct (by repeat (first | exact Over.base | exact Over.refl | refine Over.put rfl ?_ | refine Over.cnP rfl ?_ | refine Over.zpP rfl ?_)) ?_
                  refine ⟨rfl, ?_, hm15.grown hp16.grown (fun e => by injection e with e; omega), hc15.grown hp16.grown (fun e => by injection e with e; have : b15 = bw := e; omega), by have := hp16.size; omega⟩
                  rw [hdrop, if_pos q3']
                  exact hLA15.setW hp16 hb16
                · have q3' : ¬ (why0 src rs dst[k'] = 0 ∧ fullE (fun p => (kidsOf dst p).length) dst[k'] (dst.drop (k' + 1)) WR = true) := by simpa using q3
                  repeat (apply c_skip)
                  refine e_ct (by repeat (first | exact Over.base | exact Over.refl | refine Over.put rfl ?_ | refine Over.cnP rfl ?_ | refine Over.zpP rfl ?_)) ?_
                  refine ⟨rfl, ?_, hm15, hc15, hz15⟩
                  rw [hdrop, if_neg q3']
                  exact hLA15
              · rintro _ u16 w16 ⟨rfl, hLA16, hm16, hc16, hz16⟩
                obtain ⟨wh, hwh⟩ : ∃ wh, whyR src rs (fun p => (kidsOf dst p).length) (dst.drop k') = wh :: WR := ⟨_, hdrop⟩
                have hl16 := hLA16.lt
                have hw16 := hLA16.hw
                rw [hwh] at hw16
                have hcnt : ∀ s, cntGo s (dst.drop k') (wh :: WR) = (if wh = 0 ∧ parent dst[k'].path = s then 1 else 0) + cntGo s (dst.drop (k' + 1)) WR := by
                  intro s
                  rw [List.drop_eq_getElem_cons hk1, cntGo]
                repeat (first | (apply w_op; (first | (apply p_mvP; apply Eq.refl) | (apply p_nilCheck; apply Eq.refl) | (apply p_fieldAddr; apply Eq.refl)); apply Eq.refl) | (apply c_seq) | (apply c_region))
                refine w_op (p_loadF (j := 3) (v := .slice (some ⟨bw, 0, none⟩) dst.length dst.length) rfl hLA16.hx.obj0 (by rw [hcx]; rfl)) rfl ?_
                repeat (apply w_op; (first | (apply p_mvI; apply Eq.refl) | (apply p_indexAddr; apply Eq.refl; apply Eq.refl; apply Eq.refl; omega)); apply Eq.refl)
                refine w_op (p_loadA (v := .int .i64 wh) (j := k') rfl (by simp) hw16.obj0 (zs_get _ _ _)) rfl ?_
                repeat (first | (apply w_op; (apply p_eql; apply Eq.refl; apply Eq.refl); apply Eq.refl) | (apply w_nil) | (apply e_then))
                refine c_cond rfl (fun q4 => ?_) (fun q4 => ?_)
                · have q4' := of_decide_eq_true q4
                  have hcle := cntGo_le (parent dst[k'].path) (dst.drop (k' + 1)) WR
                  rw [List.length_drop] at hcle
                  repeat (first | (apply w_op; (first | (apply p_mvM; apply Eq.refl) | (apply p_fieldAddr; apply Eq.refl)); apply Eq.refl) | (apply c_region))
                  refine w_op (p_load0 (v := .string dst[k'].path) rfl (by rw [addr_add_zero]; exact hc16) rfl) rfl ?_
                  refine w_call cl29 (parent_ok _ _ hp1) rfl ?_
                  rintro v w17 ⟨rfl, rfl⟩
                  refine w_op (v := .int .i64 (cntGo (parent dst[k'].path) (dst.drop (k' + 1)) WR : Int)) (by rw [← hmm]; exact p_lookup rfl rfl hm16) rfl ?_
                  repeat (apply w_op; (apply p_add64; apply Eq.refl; apply Eq.refl; omega); apply Eq.refl)
                  refine w_mapUpdate (v := .int .i64 ((cntGo (parent dst[k'].path) (dst.drop (k' + 1)) WR : Int) + 1)) rfl rfl rfl hm16 (fun w18 hp18 hm18 => ?_)
                  repeat (first | (apply w_op; (first | (apply p_mvI; apply Eq.refl) | (apply p_asI; apply Eq.refl) | (apply p_sub64; apply Eq.refl; apply Eq.refl; omega)); apply Eq.refl) | (apply w_nil) | (apply e_then) | (apply c_region) | (apply e_bk))
                  refine e_lp (by repeat (first | exact Over.base | exact Over.refl | refine Over.put rfl ?_ | refine Over.cnP rfl ?_ | refine Over.zpP rfl ?_)) ?_
                  refine ⟨⟨k', (k' : Int) - 1, _, _, rfl, rfl, by omega, hm18, fun s => ?_, hLA16.grow hp18.grown (fun j hj => by injection hj with hj; omega)⟩, ?_⟩
                  · rw [hwh, hcnt]
                    by_cases e : s = parent dst[k'].path
                    · subst e
                      simp [q4']
                      omega
                    · have e2 : ¬ parent dst[k'].path = s := fun q => e q.symm
                      simp only [if_neg e, e2, and_false, if_false, Nat.zero_add]
                      exact hmm s
                  · show ((k' : Int) - 1 + 1).toNat < ((k' : Int) + 1).toNat
                    omega
                · have q4' := of_decide_eq_false q4
                  repeat (first | (apply w_op; (first | (apply p_mvI; apply Eq.refl) | (apply p_asI; apply Eq.refl) | (apply p_sub64; apply Eq.refl; apply Eq.refl; omega)); apply Eq.refl) | (apply w_nil) | (apply e_then) | (apply c_region) | (apply c_skip) | (apply e_bk))
                  refine e_lp (by repeat (first | exact Over.base | exact Over.refl | refine Over.put rfl ?_ | refine Over.cnP rfl ?_ | refine Over.zpP rfl ?_)) ?_
                  refine ⟨⟨k', (k' : Int) - 1, _, _, rfl, rfl, by omega, hm16, fun s => ?_, hLA16⟩, ?_⟩
                  · rw [hwh, hcnt]
                    simp only [q4', false_and, if_false, Nat.zero_add]
                    exact hmm s
                  · show ((k' : Int) - 1 + 1).toNat < ((k' : Int) + 1).toNat
                    omega
          · have g' := of_decide_eq_false g
            obtain rfl : k = 0 := by omega
            repeat (first | (apply w_op; (first | (apply p_mvP; apply Eq.refl) | (apply p_asP; apply Eq.refl)); apply Eq.refl) | (apply w_nil) | (apply c_seq) | (apply e_then) | (apply c_region) | (apply c_ret) | (apply c_exit) | (apply e_then_exit) | (apply e_bk_same) | (apply e_lp_exit))
            refine r_ret1 Try.results20 rfl ⟨?_, hLA.hb⟩
            rw [LookR, hbad]
            refine ⟨bx, bs, bw, bk, w8.heap.size, srcV src, mk, rfl, ?_⟩
            rw [← hcx]
            have := hLA
            simp only [zs, List.replicate_zero, List.nil_append, List.drop_zero] at this
            exact this
end Go.Proofs.Ytjcbnohnilffoaa
