/- THE WALKS of package drop: first, look. -/
import Derived.Test.YtjcbnohnilffoaaFlist2
import Derived.Test.YtjcbnohnilffoaaDp
set_option linter.unusedVariables false
namespace Go.Proofs.Ytjcbnohnilffoaa
open Go.RowKit

def srcV (src : List En) : ByteArray → Option Value := fun s => (srcM src s).map fun e => .agg (enE e).toArray
def enN (i : Nat) : List Value := [.int .i64 (i : Int)]
def enZ (i : Int) : List Value := [.int .i64 i]

set_option maxRecDepth 100000 in
theorem first_ok (ad : Addr) (src : List En) (rs : List Rl) (e : En) (bs n : Nat) (vd vr vw vk : Value) (w : World) (B : Nat) (hx : Cel w ad [.map (some bs), vd, vr, vw, vk]) (hm : Mp w bs (srcV src) n) (hr : Rls w B vr rs) (hB : B ≤ w.heap.size) (hri : RlsIn rs) (hrl : rs.length ≤ 1000000) (hp : e.path.size ≤ 1099511627775) :
    Ret Try.prog 34 [.pointer (some ad), .agg (enE e).toArray] w fun v w' => v = .int .i64 (why0 src rs e) ∧ Below w.heap.size w w' := by
  have hadlt := hx.lt (by simp)
  have hmlt := hm.lt
  refine calls_in Try.func34 rfl Try.ntmps34 rfl ?_
  refine c_seq (c_region (w_box rfl rfl (fun b w1 hn => ?_)))
  have hb := hn.blk.obj0
  have hbel := hn.below (Below.refl _ _) (Nat.le_refl _)
  have hlt := hn.blk.lt
  have hz1 := hn.size
  have hwb := hn.hb
  have hx1 := hx.grown (hn.grown none) (by simp)
  have hm1 := hm.grown (hn.grown none) (by simp)
  obtain ⟨cs0, hcs⟩ : ∃ cs0 : List Value, cs0.length = 11 ∧ (srcV src e.path).getD (.agg #[.string { data := #[] }, .int .i64 0, .int .i64 0, .int .i64 0, .int .i64 0, .int .i64 0, .int .i64 0, .int .i64 0, .string { data := #[] }, .string { data := #[] }, .int .i64 0]) = .agg cs0.toArray ∧ cs0.all (·.oneCell') = true ∧ ∀ s, srcM src e.path = some s → cs0 = enE s := by
    unfold srcV
    cases hs : srcM src e.path with
    | none => exact ⟨_, by decide, rfl, rfl, fun s q => by cases q⟩
    | some s => exact ⟨enE s, rfl, rfl, rfl, fun s' q => by injection q with q; rw [q]⟩
  obtain ⟨hl0, hv0, ho0, hs0⟩ := hcs
  have hsome : (srcV src e.path).isSome = (srcM src e.path).isSome := by unfold srcV; cases srcM src e.path <;> rfl
  repeat (first | (apply w_op; (apply p_asI; apply Eq.refl); apply Eq.refl) | (apply w_nil) | (apply c_seq) | (apply e_then))
  refine c_mix (fun x => Cel x ad [.map (some bs), vd, vr, vw, vk] ∧ Mp x bs (srcV src) n ∧ Cel x ⟨b, 0, none⟩ (enE e)) [0,1,2,3,4,5,6,7,8,9] [10,11,12] mixed (by kernel_rfl) ⟨hx1.drew, hm1.drew, hb.drew⟩ ?_
  repeat (apply s_op; intro _ hC; (first | (apply p_mvP; apply Eq.refl) | (apply p_nilCheck; apply Eq.refl) | (apply p_fieldAddr; apply Eq.refl)); apply Eq.refl)
  refine s_op (fun x hS => p_loadF (j := 0) (v := .map (some bs)) rfl hS.1 rfl) rfl ?_
  repeat (apply s_op; intro _ hC; (apply p_fieldAddr; apply Eq.refl); apply Eq.refl)
  refine s_op (fun x hS => p_loadF (j := 0) (v := .string e.path) rfl hS.2.2 rfl) rfl ?_
  refine s_op (v := .tuple #[.agg cs0.toArray, .bool (srcM src e.path).isSome]) (fun x hS => by rw [← hv0, ← hsome]; exact p_lookup2 rfl rfl hS.2.1) rfl ?_
  repeat (apply s_op; intro _ hC; (first | (apply p_mvT; apply Eq.refl) | (apply p_extract; apply Eq.refl; apply Eq.refl)); apply Eq.refl)
  refine s_nil (t_step ?_)
  refine w_alloc rfl (fun b5 w5 hn5 => w_nil (e_ts ⟨hx1.drew.grown (hn5.grown none) (by simp), hm1.drew.grown (hn5.grown none) (by simp), hb.drew.grown (hn5.grown none) (by simp)⟩ (t_step ?_)))
  obtain ⟨cs5, hb5, hl5⟩ := hn5.zblk Try.prog
  have hz5 := hn5.size
  have hwb5 := hn5.hb
  have hzd : w1.drew.heap.size = w1.heap.size := rfl
  refine w_storeW rfl rfl (by simpa using ho0) (by simpa using hl0) hb5 hl5 (fun w6 hp6 hb6 => ?_)
  have hx6 := ((hx1.drew.grown (hn5.grown none) (by simp)).grown hp6.grown (fun q => by injection q; omega))
  have hm6 := ((hm1.drew.grown (hn5.grown none) (by simp)).grown hp6.grown (fun q => by injection q; omega))
  have hbb : b ≠ b5 := by omega
  have he6 := ((hb.drew.grown (hn5.grown none) (by simp)).grown hp6.grown (fun q => hbb (by injection q)))
  refine w_nil (e_ts ⟨hx6, hm6, he6⟩ (t_step ?_))
  have hz6 := hp6.size
  have hbel6 : Below w.heap.size w w6 := hp6.below (hn5.below hbel.drew (by omega)) (by omega) (by omega)
  have hc6 := hb6.obj0
  repeat (first | (apply w_op; (apply p_asB; apply Eq.refl); apply Eq.refl) | (apply w_nil))
  refine e_ts0 ?_
  repeat (first | (apply w_op; (apply p_fieldAddr; apply Eq.refl); apply Eq.refl) | (apply c_seq) | (apply e_then) | (apply c_region))
  refine w_op (p_loadF (j := 1) (v := .int .i64 e.kind) rfl he6 rfl) rfl ?_
  repeat (first | (apply w_op; (first | (apply p_mvB; apply Eq.refl) | (apply p_asB; apply Eq.refl) | (apply p_eql; apply Eq.refl; apply Eq.refl)); apply Eq.refl) | (apply w_nil) | (apply c_seq) | (apply e_then) | (apply c_region) | (apply c_block))
  refine w_cut1 [21] [24, 25, 26, 27, 28, 29] (fun vs w7 => w7 = w6 ∧ vs = [.bool (there src e)]) ?_ ?_
  · cases hs : srcM src e.path with
    | none =>
      repeat (first | (apply w_op; (first | (apply p_asB; apply Eq.refl) | (apply p_pick_f; apply Eq.refl; apply Eq.refl)); apply Eq.refl) | (apply w_nil) | (apply w_off; apply Eq.refl; apply Eq.refl))
      refine e_ct (by repeat (first | exact Over.base | exact Over.refl | refine Over.put rfl ?_ | refine Over.cnP rfl ?_ | refine Over.zpP rfl ?_)) ?_
      refine ⟨rfl, ?_⟩
      show [Value.bool false] = _
      rw [there, hs]
    | some s =>
      have hc6' : Cel w6 ⟨b5, 0, none⟩ (enE s) := by rw [← hs0 s hs]; simpa using hc6
      repeat (first | (apply w_op; (apply p_fieldAddr; apply Eq.refl); apply Eq.refl) | (apply w_on; apply Eq.refl))
      refine w_op (p_loadF (j := 1) (v := .int .i64 s.kind) rfl hc6' rfl) rfl ?_
      repeat (first | (apply w_op; (first | (apply p_mvB; apply Eq.refl) | (apply p_asB; apply Eq.refl) | (apply p_eql; apply Eq.refl; apply Eq.refl) | (apply p_pick_t; apply Eq.refl; apply Eq.refl) | (apply p_beql; apply Eq.refl; apply Eq.refl)); apply Eq.refl) | (apply w_nil) | (apply w_on; apply Eq.refl))
      refine e_ct (by repeat (first | exact Over.base | exact Over.refl | refine Over.put rfl ?_ | refine Over.cnP rfl ?_ | refine Over.zpP rfl ?_)) ?_
      refine ⟨rfl, ?_⟩
      show [Value.bool (decide (s.kind = 2) == decide (e.kind = 2))] = _
      rw [there, hs]; rfl
  · rintro _ u7 w6 ⟨rfl, rfl⟩
    skip
    refine c_cond rfl (fun q => ?_) (fun q => ?_)
    · repeat (first | (apply w_op; (apply p_asI; apply Eq.refl); apply Eq.refl) | (apply w_nil) | (apply c_seq) | (apply e_then) | (apply c_region) | (apply c_ret) | (apply e_then_ret) | (apply e_bk_ret))
      exact r_ret1 Try.results34 rfl ⟨congrArg (Value.int .i64) (by rw [why0, if_pos q]), hbel6⟩
    · have hw : why0 src rs e = whyB rs e := by rw [why0, if_neg (by simp [q])]
      have hr6 := hr.below (hbel6.mono hB)
      have hz60 := hbel6.size
      repeat (apply c_seq)
      refine c_cut1 [30] [31, 32, 33, 34, 35, 36, 37, 38] (fun vs w8 => vs = [.bool (rlHid rs e.path (isDir e))] ∧ Below w6.heap.size w6 w8) ?_ ?_
      · refine c_quiet (fun x => Below w6.heap.size w6 x) mixed (by kernel_rfl) (Below.refl _ _).drew ?_
        repeat (apply q_op; intro _ hC; (first | (apply p_mvP; apply Eq.refl) | (apply p_nilCheck; apply Eq.refl) | (apply p_fieldAddr; apply Eq.refl)); apply Eq.refl)
        refine q_op (fun x hx' => p_loadF (j := 2) (v := vr) rfl (hx6.below hx' (by omega)) rfl) rfl ?_
        repeat (apply q_op; intro _ hC; (apply p_fieldAddr; apply Eq.refl); apply Eq.refl)
        refine q_op (fun x hx' => p_loadF (j := 0) (v := .string e.path) rfl (he6.below hx' (show b < _ by omega)) rfl) rfl ?_
        repeat (apply q_op; intro _ hC; (apply p_mvB; apply Eq.refl); apply Eq.refl)
        refine q_call cl16 (.bool (rlHid rs e.path (isDir e))) (fun x hx' => ?_) rfl ?_
        · have hxs := hx'.size
          refine Ret.mono (rlHid_ok vr rs e.path (isDir e) x B (hr6.below (hx'.mono (by omega))) (by omega) hri hrl hp) ?_
          rintro v' w' ⟨hv, hb'⟩
          exact ⟨hv, hx'.trans (hb'.mono hx'.size)⟩
        repeat (apply q_op; intro _ hC; (apply p_asB; apply Eq.refl); apply Eq.refl)
        refine q_nil (fun w8 hb8 => ?_)
        refine e_ct (by repeat (first | exact Over.base | exact Over.refl | refine Over.put rfl ?_ | refine Over.cnP rfl ?_ | refine Over.zpP rfl ?_)) ?_
        exact ⟨rfl, hb8⟩
      · rintro _ u8 w8 ⟨rfl, hb8⟩
        have hbel8 := hbel6.trans (hb8.mono hbel6.size)
        have hx8 := hx6.below hb8 (by omega)
        have he8 := he6.below hb8 (show b < _ by omega)
        have hr8 := hr.below (hbel8.mono hB)
        have hz8 := hb8.size
        skip
        refine c_cond rfl (fun q2 => ?_) (fun q2 => ?_)
        · repeat (first | (apply w_op; (apply p_asI; apply Eq.refl); apply Eq.refl) | (apply w_nil) | (apply c_seq) | (apply e_then) | (apply c_region) | (apply c_ret) | (apply e_then_ret) | (apply e_bk_ret))
          exact r_ret1 Try.results34 rfl ⟨congrArg (Value.int .i64) (by rw [hw, whyB, if_pos q2]), hbel8⟩
        · repeat (apply c_seq)
          refine c_cut1 [39] [40, 41, 42, 43, 44, 45, 46, 47] (fun vs w9 => vs = [.bool (rlSafe rs e.path (isDir e))] ∧ Below w8.heap.size w8 w9) ?_ ?_
          · refine c_quiet (fun x => Below w8.heap.size w8 x) mixed (by kernel_rfl) (Below.refl _ _).drew ?_
            repeat (apply q_op; intro _ hC; (first | (apply p_mvP; apply Eq.refl) | (apply p_nilCheck; apply Eq.refl) | (apply p_fieldAddr; apply Eq.refl)); apply Eq.refl)
            refine q_op (fun x hx' => p_loadF (j := 2) (v := vr) rfl (hx8.below hx' (by omega)) rfl) rfl ?_
            repeat (apply q_op; intro _ hC; (apply p_fieldAddr; apply Eq.refl); apply Eq.refl)
            refine q_op (fun x hx' => p_loadF (j := 0) (v := .string e.path) rfl (he8.below hx' (show b < _ by omega)) rfl) rfl ?_
            repeat (apply q_op; intro _ hC; (apply p_mvB; apply Eq.refl); apply Eq.refl)
            refine q_call cl17 (.bool (rlSafe rs e.path (isDir e))) (fun x hx' => ?_) rfl ?_
            · have hxs := hx'.size
              refine Ret.mono (rlSafe_ok vr rs e.path (isDir e) x B (hr8.below (hx'.mono (by omega))) (by omega) hri hrl hp) ?_
              rintro v' w' ⟨hv, hb'⟩
              exact ⟨hv, hx'.trans (hb'.mono hx'.size)⟩
            repeat (apply q_op; intro _ hC; (apply p_asB; apply Eq.refl); apply Eq.refl)
            refine q_nil (fun w9 hb9 => ?_)
            refine e_ct (by repeat (first | exact Over.base | exact Over.refl | refine Over.put rfl ?_ | refine Over.cnP rfl ?_ | refine Over.zpP rfl ?_)) ?_
            exact ⟨rfl, hb9⟩
          · rintro _ u9 w9 ⟨rfl, hb9⟩
            have hbel9 := hbel8.trans (hb9.mono hbel8.size)
            skip
            refine c_cond rfl (fun q3 => ?_) (fun q3 => ?_)
            · repeat (first | (apply w_op; (apply p_asI; apply Eq.refl); apply Eq.refl) | (apply w_nil) | (apply c_seq) | (apply e_then) | (apply c_region) | (apply c_ret) | (apply e_then_ret) | (apply e_bk_ret))
              exact r_ret1 Try.results34 rfl ⟨congrArg (Value.int .i64) (by rw [hw, whyB, if_neg (by simp [q2]), if_pos q3]), hbel9⟩
            · repeat (first | (apply w_op; (apply p_asI; apply Eq.refl); apply Eq.refl) | (apply w_nil) | (apply c_seq) | (apply e_then) | (apply c_region) | (apply c_skip) | (apply c_ret) | (apply e_bk))
              exact r_ret1 Try.results34 rfl ⟨congrArg (Value.int .i64) (by rw [hw, whyB, if_neg (by simp [q2]), if_neg (by simp [q3])]), hbel9⟩
end Go.Proofs.Ytjcbnohnilffoaa
