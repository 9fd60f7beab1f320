/- THE WALKS of package meta. -/
import Derived.Test.YtmgheamdboiklaaDoorPath
import Derived.Test.YtmgheamdboiklaaDoorFl
set_option linter.unusedVariables false
set_option linter.unusedSimpArgs false
namespace Go.Proofs.YtmgheamdboiklaaDoor
open Go.RowKit

def enMt (m : Mt) : List Value := [.int .i64 m.mode, .int .i64 m.sec, .int .i64 m.nano, .int .i64 m.uid, .int .i64 m.gid]
def enE (e : En) : List Value := .string e.path :: .int .i64 e.kind :: .int .i64 e.size :: (enMt e.meta_ ++ [.string e.target, .string e.sum, .int .i64 e.group])
abbrev Ens (w : World) (B : Nat) (v : Value) (l : List En) : Prop := Sl enE 11 w B v l

theorem in_ok (x a b : Int) (w : World) : Ret Tryd.prog 66 [.int .i64 x, .int .i64 a, .int .i64 b] w fun v w' => w' = w ∧ v = .bool (inR x a b) := by
  refine calls_in Tryd.func66 rfl Tryd.ntmps66 rfl ?_
  repeat (first | (apply w_op; (first | (apply p_mvI; apply Eq.refl) | (apply p_mvB; apply Eq.refl) | (apply p_asB; apply Eq.refl) | (apply p_geq; apply Eq.refl; apply Eq.refl)); apply Eq.refl) | (apply w_nil) | (apply c_seq) | (apply e_then) | (apply c_region))
  refine w_bool 10 rfl (fun h => ?_) (fun h => ?_)
  · repeat (first | (apply w_op; (first | (apply p_mvI; apply Eq.refl) | (apply p_asB; apply Eq.refl) | (apply p_leq; apply Eq.refl; apply Eq.refl) | (apply p_pick_t; apply Eq.refl; apply Eq.refl)); apply Eq.refl) | (apply w_nil) | (apply e_then) | (apply w_on; apply Eq.refl) | (apply c_ret))
    exact r_ret1 Tryd.results66 rfl ⟨rfl, congrArg Value.bool (by rw [inR, h]; rfl)⟩
  · repeat (first | (apply w_op; (first | (apply p_asB; apply Eq.refl) | (apply p_pick_f; apply Eq.refl; apply Eq.refl)); apply Eq.refl) | (apply w_nil) | (apply e_then) | (apply w_off; apply Eq.refl; apply Eq.refl) | (apply c_ret))
    exact r_ret1 Tryd.results66 rfl ⟨rfl, congrArg Value.bool (by rw [inR, h]; rfl)⟩

theorem metaCheck_ok (m : Mt) (w : World) : Ret Tryd.prog 54 [.agg (enMt m).toArray] w fun v w' => v = .int .i64 (metaErr m) ∧ Below w.heap.size w w' := by
  refine calls_in Tryd.func54 rfl Tryd.ntmps54 rfl ?_
  refine c_seq (c_region (w_box rfl rfl (fun b w1 hn => ?_)))
  have hb := hn.blk.obj0
  have hbel := hn.below (Below.refl _ _) (Nat.le_refl _)
  repeat (first | (apply w_op; (first | (apply p_mvF; apply Eq.refl) | (apply p_asI; apply Eq.refl) | (apply p_asF; apply Eq.refl) | (apply p_fieldAddr; apply Eq.refl)); apply Eq.refl) | (apply w_nil) | (apply c_seq) | (apply e_then) | (apply c_region))
  refine w_op (p_load0 (v := .int .i64 m.mode) rfl (by rw [addr_add_zero]; exact hb) rfl) rfl ?_
  refine w_callv (first := #[]) (captured := #[]) rfl cl66 (in_ok _ _ _ _) rfl ?_
  rintro v w2 ⟨rfl, rfl⟩
  repeat (apply w_op; (apply p_mvB; apply Eq.refl); apply Eq.refl)
  refine w_bool 8 rfl (fun h1 => ?_) (fun h1 => ?_)
  · repeat (first | (apply w_op; (first | (apply p_mvF; apply Eq.refl) | (apply p_fieldAddr; apply Eq.refl)); apply Eq.refl) | (apply w_on; apply Eq.refl))
    refine w_op (p_loadF (j := 1) (v := .int .i64 m.sec) rfl hb rfl) rfl ?_
    repeat (apply w_on; apply Eq.refl)
    refine w_callv (first := #[]) (captured := #[]) rfl cl66 (in_ok _ _ _ _) rfl ?_
    rintro v w2 ⟨rfl, rfl⟩
    repeat (apply w_op; (first | (apply p_mvB; apply Eq.refl) | (apply p_pick_t; apply Eq.refl; apply Eq.refl)); apply Eq.refl)
    refine w_bool 14 rfl (fun h2 => ?_) (fun h2 => ?_)
    · repeat (first | (apply w_op; (first | (apply p_mvF; apply Eq.refl) | (apply p_fieldAddr; apply Eq.refl)); apply Eq.refl) | (apply w_on; apply Eq.refl))
      refine w_op (p_loadF (j := 2) (v := .int .i64 m.nano) rfl hb rfl) rfl ?_
      repeat (apply w_on; apply Eq.refl)
      refine w_callv (first := #[]) (captured := #[]) rfl cl66 (in_ok _ _ _ _) rfl ?_
      rintro v w2 ⟨rfl, rfl⟩
      repeat (apply w_op; (first | (apply p_mvB; apply Eq.refl) | (apply p_pick_t; apply Eq.refl; apply Eq.refl)); apply Eq.refl)
      refine w_bool 20 rfl (fun h3 => ?_) (fun h3 => ?_)
      · repeat (first | (apply w_op; (first | (apply p_mvF; apply Eq.refl) | (apply p_fieldAddr; apply Eq.refl)); apply Eq.refl) | (apply w_on; apply Eq.refl))
        refine w_op (p_loadF (j := 3) (v := .int .i64 m.uid) rfl hb rfl) rfl ?_
        repeat (apply w_on; apply Eq.refl)
        refine w_callv (first := #[]) (captured := #[]) rfl cl66 (in_ok _ _ _ _) rfl ?_
        rintro v w2 ⟨rfl, rfl⟩
        repeat (apply w_op; (first | (apply p_mvB; apply Eq.refl) | (apply p_pick_t; apply Eq.refl; apply Eq.refl)); apply Eq.refl)
        refine w_bool 26 rfl (fun h4 => ?_) (fun h4 => ?_)
        · repeat (first | (apply w_op; (first | (apply p_mvF; apply Eq.refl) | (apply p_fieldAddr; apply Eq.refl)); apply Eq.refl) | (apply w_on; apply Eq.refl))
          refine w_op (p_loadF (j := 4) (v := .int .i64 m.gid) rfl hb rfl) rfl ?_
          repeat (apply w_on; apply Eq.refl)
          refine w_callv (first := #[]) (captured := #[]) rfl cl66 (in_ok _ _ _ _) rfl ?_
          rintro v w2 ⟨rfl, rfl⟩
          repeat (first | (apply w_op; (apply p_pick_t; apply Eq.refl; apply Eq.refl); apply Eq.refl) | (apply w_nil) | (apply e_then))
          refine c_cond rfl (fun h5 => ?_) (fun h5 => ?_)
          · repeat (first | (apply w_op; (apply p_asI; apply Eq.refl); apply Eq.refl) | (apply w_nil) | (apply c_seq) | (apply e_then) | (apply c_region) | (apply c_ret) | (apply e_then_ret))
            exact r_ret1 Tryd.results54 rfl ⟨congrArg (Value.int .i64) (by rw [metaErr, metaOk, h1, h2, h3, h4, h5]; rfl), hbel⟩
          · repeat (first | (apply w_op; (apply p_asI; apply Eq.refl); apply Eq.refl) | (apply w_nil) | (apply c_seq) | (apply e_then) | (apply c_region) | (apply c_skip) | (apply c_ret))
            exact r_ret1 Tryd.results54 rfl ⟨congrArg (Value.int .i64) (by rw [metaErr, metaOk, h1, h2, h3, h4, h5]; rfl), hbel⟩
        · repeat (first | (apply w_op; (first | (apply p_asI; apply Eq.refl) | (apply p_pick_f; apply Eq.refl; apply Eq.refl)); apply Eq.refl) | (apply w_nil) | (apply c_seq) | (apply e_then) | (apply c_region) | (apply w_off; apply Eq.refl; apply Eq.refl) | (apply c_cond_f; apply Eq.refl) | (apply c_skip) | (apply c_ret))
          exact r_ret1 Tryd.results54 rfl ⟨congrArg (Value.int .i64) (by rw [metaErr, metaOk, h1, h2, h3, h4]; rfl), hbel⟩
      · repeat (first | (apply w_op; (first | (apply p_mvB; apply Eq.refl) | (apply p_asI; apply Eq.refl) | (apply p_pick_f; apply Eq.refl; apply Eq.refl)); apply Eq.refl) | (apply w_nil) | (apply c_seq) | (apply e_then) | (apply c_region) | (apply w_off; apply Eq.refl; apply Eq.refl) | (apply c_cond_f; apply Eq.refl) | (apply c_skip) | (apply c_ret))
        exact r_ret1 Tryd.results54 rfl ⟨congrArg (Value.int .i64) (by rw [metaErr, metaOk, h1, h2, h3]; rfl), hbel⟩
    · repeat (first | (apply w_op; (first | (apply p_mvB; apply Eq.refl) | (apply p_asI; apply Eq.refl) | (apply p_pick_f; apply Eq.refl; apply Eq.refl)); apply Eq.refl) | (apply w_nil) | (apply c_seq) | (apply e_then) | (apply c_region) | (apply w_off; apply Eq.refl; apply Eq.refl) | (apply c_cond_f; apply Eq.refl) | (apply c_skip) | (apply c_ret))
      exact r_ret1 Tryd.results54 rfl ⟨congrArg (Value.int .i64) (by rw [metaErr, metaOk, h1, h2]; rfl), hbel⟩
  · repeat (first | (apply w_op; (first | (apply p_mvB; apply Eq.refl) | (apply p_asI; apply Eq.refl) | (apply p_pick_f; apply Eq.refl; apply Eq.refl)); apply Eq.refl) | (apply w_nil) | (apply c_seq) | (apply e_then) | (apply c_region) | (apply w_off; apply Eq.refl; apply Eq.refl) | (apply c_cond_f; apply Eq.refl) | (apply c_skip) | (apply c_ret))
    exact r_ret1 Tryd.results54 rfl ⟨congrArg (Value.int .i64) (by rw [metaErr, metaOk, h1]; rfl), hbel⟩
end Go.Proofs.YtmgheamdboiklaaDoor
