/- THE WALKS of package link and of the document's answer: Safe, Munge, Plain. -/
import Derived.Test.YtmgheamdboiklaaDoorSpl
import Derived.Test.YtmgheamdboiklaaDoorLp
import Derived.Test.YtmgheamdboiklaaDoorRef13
set_option linter.unusedVariables false
set_option linter.unusedSimpArgs false
namespace Go.Proofs.YtmgheamdboiklaaDoor
open Go.RowKit

def scanB : List ByteArray → Int → Bool → Option Int
  | [], u, _ => some u
  | x :: r, u, nm => if x = noB ∨ x = dotB then scanB r u nm else if x = ddotB then (if nm = true then none else scanB r (u + 1) nm) else scanB r u true
def safeBad (p t : ByteArray) : Bool := decide (p = noB) || !right p || decide (t = noB) || slashed t
def safeB (p t : ByteArray) : Bool := if safeBad p t = true then false else match scanB (split t) 0 false with
  | none => false
  | some u => decide (u < ((split p).length : Int))
def mungeB (t : ByteArray) : ByteArray := harmB ++ t
def plainB (t : ByteArray) : ByteArray × Bool := if hasP t harmB = true then (t.extract 9 t.size, true) else (noB, false)
theorem slashed_at {t : ByteArray} (h : t ≠ noB) : slashed t = decide (((bAt t 0).toNat : Int) = 47) := by
  unfold slashed bAt
  have : lsB t = t.data.toList := rfl
  rw [this]
  cases hl : t.data.toList with
  | nil => exact absurd (ls_inj (by rw [this, hl]; rfl)) h
  | cons a r =>
    rw [Bool.eq_iff_iff]
    simp only [List.head?_cons, decide_eq_true_eq, Option.some.injEq]
    constructor
    · intro e; subst e; rfl
    · intro e
      have e1 : ((a.toNat : Nat) : Int) = 47 := by simpa using e
      have e2 : a.toNat = 47 := by omega
      exact UInt8.toNat_inj.1 e2
theorem size_pos {t : ByteArray} (h : t ≠ noB) : 0 < t.size := by
  rcases Nat.eq_zero_or_pos t.size with q | q
  · have h0 : lsB t = [] := List.eq_nil_of_length_eq_zero (by rw [ls_len]; exact q)
    exact absurd (ls_inj (by rw [h0]; rfl)) h
  · exact q
theorem depth_ok (p : ByteArray) (w : World) (hs : p.size ≤ 1099511627775) : Ret Tryd.prog 25 [.string p] w fun v w' => v = .int .i64 (split p).length ∧ Below w.heap.size w w' := by
  refine calls_in Tryd.func25 rfl Tryd.ntmps25 rfl ?_
  repeat (first | (apply w_op; (first | (apply p_mvS; apply Eq.refl) | (apply p_asI; apply Eq.refl)); apply Eq.refl) | (apply w_nil) | (apply c_seq) | (apply e_then) | (apply c_region))
  refine w_call cl29 (split_ok p _ hs) rfl ?_
  rintro v w1 ⟨hown, hb1⟩
  have hsl : Strs w1 w1.heap.size v (split p) := Sl.of_own rfl (fun _ => rfl) hown
  obtain ⟨A, c, rfl, hc, hA⟩ := hsl.out
  repeat (first | (apply w_op; (first | (apply p_asI; apply Eq.refl) | (apply p_len_sl; apply Eq.refl)); apply Eq.refl) | (apply w_nil) | (apply e_then) | (apply c_ret))
  exact r_ret1 Tryd.results25 rfl ⟨rfl, hb1⟩
theorem rdepth_ok (p : ByteArray) (w : World) (hs : p.size ≤ 1099511627775) : Ret Tryd.prog 28 [.string p] w fun v w' => v = .int .i64 (split p).length ∧ Below w.heap.size w w' := by
  refine calls_in Tryd.func28 rfl Tryd.ntmps28 rfl ?_
  repeat (first | (apply w_op; (first | (apply p_mvS; apply Eq.refl) | (apply p_asI; apply Eq.refl)); apply Eq.refl) | (apply w_nil) | (apply c_seq) | (apply e_then) | (apply c_region))
  refine w_call cl27 (rsplit_ok p _ hs) rfl ?_
  rintro v w1 ⟨hown, hb1⟩
  have hsl : Strs w1 w1.heap.size v (split p) := Sl.of_own rfl (fun _ => rfl) hown
  obtain ⟨A, c, rfl, hc, hA⟩ := hsl.out
  repeat (first | (apply w_op; (first | (apply p_asI; apply Eq.refl) | (apply p_len_sl; apply Eq.refl)); apply Eq.refl) | (apply w_nil) | (apply e_then) | (apply c_ret))
  exact r_ret1 Tryd.results28 rfl ⟨rfl, hb1⟩
theorem munge_ok (t : ByteArray) (w : World) (hs : t.size ≤ 1000000) : Ret Tryd.prog 11 [.string t] w fun v w' => w' = w ∧ v = .string (mungeB t) := by
  refine calls_in Tryd.func11 rfl Tryd.ntmps11 rfl ?_
  repeat (first | (apply w_op; (first | (apply p_mvS; apply Eq.refl) | (apply p_asS; apply Eq.refl)); apply Eq.refl) | (apply w_nil) | (apply c_seq) | (apply e_then) | (apply c_region))
  refine w_op (p_sadd (a := harmB) (b := t) rfl rfl (by show 9 + t.size ≤ _; omega)) rfl ?_
  repeat (first | (apply w_op; (apply p_asS; apply Eq.refl); apply Eq.refl) | (apply w_nil) | (apply e_then) | (apply c_ret))
  exact r_ret1 Tryd.results11 rfl ⟨rfl, rfl⟩
theorem rmunge_ok (t : ByteArray) (w : World) (hs : t.size ≤ 1000000) : Ret Tryd.prog 12 [.string t] w fun v w' => w' = w ∧ v = .string (mungeB t) := by
  refine calls_in Tryd.func12 rfl Tryd.ntmps12 rfl ?_
  repeat (first | (apply w_op; (first | (apply p_mvS; apply Eq.refl) | (apply p_asS; apply Eq.refl)); apply Eq.refl) | (apply w_nil) | (apply c_seq) | (apply e_then) | (apply c_region))
  refine w_op (p_sadd (a := harmB) (b := t) rfl rfl (by show 9 + t.size ≤ _; omega)) rfl ?_
  repeat (first | (apply w_op; (apply p_asS; apply Eq.refl); apply Eq.refl) | (apply w_nil) | (apply e_then) | (apply c_ret))
  exact r_ret1 Tryd.results12 rfl ⟨rfl, rfl⟩
theorem plain_ok (t : ByteArray) (w : World) : Ret Tryd.prog 7 [.string t] w fun v w' => w' = w ∧ v = .tuple #[.string (plainB t).1, .bool (plainB t).2] := by
  refine calls_in Tryd.func7 rfl Tryd.ntmps7 rfl ?_
  repeat (first | (apply w_op; (first | (apply p_mvS; apply Eq.refl) | (apply p_asS; apply Eq.refl) | (apply p_asB; apply Eq.refl)); apply Eq.refl) | (apply w_nil) | (apply c_seq) | (apply e_then) | (apply c_region))
  refine w_callS cl23 (cutPrefix_ok t harmB _) rfl ?_
  repeat (first | (apply w_op; (first | (apply p_mvB; apply Eq.refl) | (apply p_mvT; apply Eq.refl) | (apply p_asS; apply Eq.refl) | (apply p_asB; apply Eq.refl) | (apply p_extract; apply Eq.refl; apply Eq.refl) | (apply p_not; apply Eq.refl)); apply Eq.refl) | (apply w_nil) | (apply c_seq) | (apply e_then) | (apply c_region))
  first | refine c_ifd rfl (fun g => ?_) (fun g => ?_) | refine c_ifnd rfl (fun g => ?_) (fun g => ?_) | refine c_ifn rfl (fun g => ?_) (fun g => ?_) | refine c_cond rfl (fun g => ?_) (fun g => ?_)
  · have hp : plainB t = (noB, false) := by rw [plainB, if_neg (by simp [g])]
    repeat (first | (apply w_op; (first | (apply p_asS; apply Eq.refl) | (apply p_asB; apply Eq.refl)); apply Eq.refl) | (apply w_nil) | (apply c_seq) | (apply e_then) | (apply c_region) | (apply c_ret) | (apply e_then_ret))
    exact r_ret2 Tryd.results7 rfl ⟨rfl, by rw [hp]; rfl⟩
  · have hp : plainB t = (t.extract 9 t.size, true) := by rw [plainB, if_pos g]
    rw [if_pos g]
    repeat (first | (apply w_op; (first | (apply p_mvS; apply Eq.refl) | (apply p_asS; apply Eq.refl) | (apply p_asB; apply Eq.refl)); apply Eq.refl) | (apply w_nil) | (apply c_seq) | (apply e_then) | (apply c_region) | (apply c_skip) | (apply c_ret))
    exact r_ret2 Tryd.results7 rfl ⟨rfl, by rw [hp]; rfl⟩
theorem rplain_ok (t : ByteArray) (w : World) : Ret Tryd.prog 8 [.string t] w fun v w' => w' = w ∧ v = .tuple #[.string (plainB t).1, .bool (plainB t).2] := by
  have hh : hasP t harmB = (decide ((9 : Int) ≤ (t.size : Int)) && decide (t.extract 0 9 = harmB)) := rfl
  refine calls_in Tryd.func8 rfl Tryd.ntmps8 rfl ?_
  repeat (first | (apply w_op; (first | (apply p_mvS; apply Eq.refl) | (apply p_mvB; apply Eq.refl) | (apply p_asS; apply Eq.refl) | (apply p_asB; apply Eq.refl) | (apply p_lss; apply Eq.refl; apply Eq.refl) | (apply p_sneq; apply Eq.refl; apply Eq.refl) | (apply p_len_str; apply Eq.refl) | (apply p_pick_t; apply Eq.refl; apply Eq.refl) | (apply p_pick_f; apply Eq.refl; apply Eq.refl) | (apply p_sub_h; apply Eq.refl; apply Eq.refl; omega)); apply Eq.refl) | (apply w_nil) | (apply c_seq) | (apply e_then) | (apply c_region) | (apply w_on; apply Eq.refl) | (apply w_off; apply Eq.refl; apply Eq.refl) | (apply w_ord; apply Eq.refl; apply Eq.refl; (repeat (first | apply Seg.pick | apply Seg.op | apply Seg.op0)); apply Eq.refl; intro _) | (apply e_sc; (repeat (first | exact Over.base | exact Over.refl | refine Over.put rfl ?_ | refine Over.cnP rfl ?_ | refine Over.zpP rfl ?_)); apply Eq.refl) | (intro _))
  first | refine c_ifd rfl (fun g => ?_) (fun g => ?_) | refine c_ifnd rfl (fun g => ?_) (fun g => ?_) | refine c_ifn rfl (fun g => ?_) (fun g => ?_) | refine c_cond rfl (fun g => ?_) (fun g => ?_)
  · have hp : plainB t = (noB, false) := by
      rw [plainB, if_neg]
      rw [hh]
      simp only [Bool.or_eq_true, decide_eq_true_eq, Bool.not_eq_true', decide_eq_false_iff_not] at g
      simp only [Bool.and_eq_true, decide_eq_true_eq]
      rintro ⟨a, b⟩
      rcases g with g | g
      · omega
      · exact g b
    repeat (first | (apply w_op; (first | (apply p_asS; apply Eq.refl) | (apply p_asB; apply Eq.refl)); apply Eq.refl) | (apply w_nil) | (apply c_seq) | (apply e_then) | (apply c_region) | (apply c_ret) | (apply e_then_ret))
    exact r_ret2 Tryd.results8 rfl ⟨rfl, by rw [hp]; rfl⟩
  · have hp2 : hasP t harmB = true := by
      rw [hh]
      simp at g ⊢
      exact ⟨by omega, g.2⟩
    have hz : 9 ≤ t.size := by rw [hh] at hp2; simp at hp2; omega
    have hp : plainB t = (t.extract 9 t.size, true) := by rw [plainB, if_pos hp2]
    repeat (first | (apply w_op; (first | (apply p_mvS; apply Eq.refl) | (apply p_asS; apply Eq.refl) | (apply p_asB; apply Eq.refl) | (apply p_sub_l; apply Eq.refl; apply Eq.refl; omega)); apply Eq.refl) | (apply w_nil) | (apply c_seq) | (apply e_then) | (apply c_region) | (apply c_skip) | (apply c_ret))
    exact r_ret2 Tryd.results8 rfl ⟨rfl, by rw [hp]; rfl⟩

set_option maxRecDepth 100000 in
theorem safe_ok (p t : ByteArray) (w : World) (hp : p.size ≤ 1099511627775) (ht : t.size ≤ 1000000) : Ret Tryd.prog 9 [.string p, .string t] w fun v w' => v = .bool (safeB p t) ∧ Below w.heap.size w w' := by
  refine calls_in Tryd.func9 rfl Tryd.ntmps9 rfl ?_
  repeat (first | (apply w_op; (first | (apply p_mvS; apply Eq.refl) | (apply p_mvB; apply Eq.refl) | (apply p_asB; apply Eq.refl) | (apply p_seql; apply Eq.refl; apply Eq.refl)); apply Eq.refl) | (apply w_nil) | (apply c_seq) | (apply e_then) | (apply c_region))
  apply w_orw (R := fun x => Below w.heap.size w x); apply Eq.refl; apply Eq.refl; (repeat (first | apply Seg.pick | apply Seg.op | apply Seg.op0)); intro g
  · repeat (first | (apply w_op; (apply p_mvS; apply Eq.refl); apply Eq.refl) | (apply w_on; apply Eq.refl))
    refine w_callB cl14 (right_ok p _ hp) rfl (fun w1 hb1 => ?_)
    repeat (first | (apply w_op; (first | (apply p_not; apply Eq.refl) | (apply p_pick_f; apply Eq.refl; apply Eq.refl)); apply Eq.refl) | (apply w_nil) | (apply w_on; apply Eq.refl) | (apply e_scw; (repeat (first | exact Over.base | exact Over.refl | refine Over.put rfl ?_ | refine Over.cnP rfl ?_ | refine Over.zpP rfl ?_)); apply Eq.refl; (first | assumption | apply Below.refl)))
  · intro g'
    repeat (first | (apply w_op; (apply p_pick_t; apply Eq.refl; apply Eq.refl); apply Eq.refl) | (apply w_nil) | (apply w_off; apply Eq.refl; apply Eq.refl) | (apply e_scw; (repeat (first | exact Over.base | exact Over.refl | refine Over.put rfl ?_ | refine Over.cnP rfl ?_ | refine Over.zpP rfl ?_)); apply Eq.refl; (first | assumption | apply Below.refl)))
  intro u w1 hb1
  have z1 := hb1.size
  repeat (first | (apply w_op; (first | (apply p_mvS; apply Eq.refl) | (apply p_mvB; apply Eq.refl) | (apply p_seql; apply Eq.refl; apply Eq.refl) | (apply p_pick_t; apply Eq.refl; apply Eq.refl) | (apply p_pick_f; apply Eq.refl; apply Eq.refl)); apply Eq.refl) | (apply w_nil) | (apply w_on; apply Eq.refl) | (apply w_off; apply Eq.refl; apply Eq.refl) | (apply w_orA; apply Eq.refl; apply Eq.refl; (repeat (first | apply Seg.pick | apply Seg.op | apply Seg.op0)); apply Eq.refl; intro _) | (apply e_sc; (repeat (first | exact Over.base | exact Over.refl | refine Over.put rfl ?_ | refine Over.cnP rfl ?_ | refine Over.zpP rfl ?_)); apply Eq.refl) | (intro _))
  rename_i hq
  have hz := size_pos (t := t) (by simp at hq; exact hq.2)
  repeat (first | (apply w_op; (first | (apply p_eql; apply Eq.refl; apply Eq.refl) | (apply p_pick_t; apply Eq.refl; apply Eq.refl) | (apply p_pick_f; apply Eq.refl; apply Eq.refl) | (apply p_index; apply Eq.refl; apply Eq.refl; omega)); apply Eq.refl) | (apply w_nil) | (apply e_then) | (apply w_on; apply Eq.refl) | (apply w_off; apply Eq.refl; apply Eq.refl) | (apply e_sc; (repeat (first | exact Over.base | exact Over.refl | refine Over.put rfl ?_ | refine Over.cnP rfl ?_ | refine Over.zpP rfl ?_)); apply Eq.refl) | (intro _))
  first | refine c_ifd rfl (fun g2 => ?_) (fun g2 => ?_) | refine c_ifnd rfl (fun g2 => ?_) (fun g2 => ?_) | refine c_ifn rfl (fun g2 => ?_) (fun g2 => ?_) | refine c_cond rfl (fun g2 => ?_) (fun g2 => ?_)
  · have hbad : safeB p t = false := by
      have hb : safeBad p t = true := by
        unfold safeBad
        simp only [Bool.or_eq_true, decide_eq_true_eq, Bool.not_eq_true'] at g2 ⊢
        rcases g2 with g2 | g2
        · exact .inl g2
        · by_cases ht0 : t = noB
          · exact .inl (.inr ht0)
          · right; rw [slashed_at ht0]; simpa using g2
      rw [safeB, if_pos hb]
    repeat (first | (apply w_op; (apply p_asB; apply Eq.refl); apply Eq.refl) | (apply w_nil) | (apply c_seq) | (apply e_then) | (apply c_region) | (apply c_ret) | (apply e_then_ret))
    exact r_ret1 Tryd.results9 rfl ⟨by rw [hbad]; rfl, hb1⟩
  · simp only [Bool.or_eq_false_iff, decide_eq_false_iff_not, Bool.not_eq_false'] at g2
    obtain ⟨⟨⟨k1, k2⟩, k3⟩, k4⟩ := g2
    have hb : safeBad p t = false := by
      unfold safeBad
      rw [slashed_at k3]
      simp only [Bool.or_eq_false_iff, decide_eq_false_iff_not, Bool.not_eq_false']
      exact ⟨⟨⟨k1, k2⟩, k3⟩, k4⟩
    have hsafe : safeB p t = match scanB (split t) 0 false with | none => false | some u => decide (u < ((split p).length : Int)) := by rw [safeB, if_neg (by simp [hb])]
    have hsl1 := split_len t (m := 1000001) (by omega)
    repeat (first | (apply w_op; (first | (apply p_mvS; apply Eq.refl) | (apply p_asI; apply Eq.refl)); apply Eq.refl) | (apply w_nil) | (apply c_seq) | (apply e_then) | (apply c_region) | (apply c_skip))
    refine w_call cl24 (ssplit_ok t _ ht) rfl ?_
    rintro v w2 ⟨hsl, hb2⟩
    rw [cutB_split k3] at hsl
    obtain ⟨A, c, rfl, hc, hA⟩ := hsl.out
    have hbel := hb1.trans (hb2.mono z1)
    have z2 := hbel.size
    repeat (first | (apply w_op; (first | (apply p_mvI; apply Eq.refl) | (apply p_len_sl; apply Eq.refl)); apply Eq.refl) | (apply w_nil) | (apply e_then) | (apply c_block))
    refine c_loop [28, 6, 5] [4, 8, 29, 30, 31, 32, 33, 34, 35, 36, 37, 38, 39, 40, 41, 42, 43, 44] (fun vs w3 => w3 = w2 ∧ ∃ (i : Nat) (nm up : Int), vs = [.int .i64 (i : Int), .int .i64 nm, .int .i64 up] ∧ i ≤ (split t).length ∧ 0 ≤ nm ∧ nm ≤ i ∧ 0 ≤ up ∧ up ≤ i ∧ scanB (split t) 0 false = scanB ((split t).drop i) up (decide (0 < nm)))
      (fun vs _ => (split t).length - (intOf (vs.headD undef)).toNat) rfl
      ⟨rfl, 0, 0, 0, rfl, Nat.zero_le _, Int.le_refl _, Int.le_refl _, Int.le_refl _, Int.le_refl _, rfl⟩ ?_
    rintro _ u3 w3 ⟨rfl, i, nm, up, rfl, hi, n0, n1, u0, u1, hscan⟩
    repeat (first | (apply w_op; (apply p_lss; apply Eq.refl; apply Eq.refl); apply Eq.refl) | (apply w_nil) | (apply c_seq) | (apply e_then) | (apply c_region))
    first | refine c_ifd rfl (fun g => ?_) (fun g => ?_) | refine c_ifnd rfl (fun g => ?_) (fun g => ?_) | refine c_ifn rfl (fun g => ?_) (fun g => ?_) | refine c_cond rfl (fun g => ?_) (fun g => ?_)
    · have hi1 : i < (split t).length := by omega
      obtain ⟨ad, rfl, _, hcel⟩ := hsl.at_ rfl hi1
      rw [List.drop_eq_getElem_cons hi1] at hscan
      simp only [scanB] at hscan
      have hme : (split t).length - ((i : Int) + 1).toNat < (split t).length - ((i : Int)).toNat := by omega
      repeat (first | (apply w_op; (first | (apply p_mvS; apply Eq.refl) | (apply p_asS; apply Eq.refl) | (apply p_asB; apply Eq.refl) | (apply p_seql; apply Eq.refl; apply Eq.refl) | (apply p_indexAddr; apply Eq.refl; apply Eq.refl; apply Eq.refl; omega) | (apply p_load0; apply Eq.refl; (first | assumption | (apply Cel.bel; assumption; assumption; apply Nat.zero_lt_succ)); (first | apply Eq.refl | assumption))); apply Eq.refl) | (apply w_nil) | (apply c_seq) | (apply e_then) | (apply c_region) | (apply c_block) | (apply c_skip))
      first | refine c_ifd rfl (fun a => ?_) (fun a => ?_) | refine c_ifnd rfl (fun a => ?_) (fun a => ?_) | refine c_ifn rfl (fun a => ?_) (fun a => ?_) | refine c_cond rfl (fun a => ?_) (fun a => ?_)
      · rw [if_pos (.inl a)] at hscan
        repeat (first | (apply e_then) | (apply c_skip))
        first | refine c_ifd rfl (fun a2 => ?_) (fun a2 => ?_) | refine c_ifnd rfl (fun a2 => ?_) (fun a2 => ?_) | refine c_ifn rfl (fun a2 => ?_) (fun a2 => ?_) | refine c_cond rfl (fun a2 => ?_) (fun a2 => ?_)
        · repeat (first | (apply w_op; (first | (apply p_mvI; apply Eq.refl) | (apply p_add64; apply Eq.refl; apply Eq.refl; omega)); apply Eq.refl) | (apply w_nil) | (apply e_then) | (apply c_region) | (apply c_skip) | (apply e_bk))
          refine e_lp (by repeat (first | exact Over.base | exact Over.refl | refine Over.put rfl ?_ | refine Over.cnP rfl ?_ | refine Over.zpP rfl ?_)) ?_
          exact ⟨⟨rfl, i + 1, nm, up, rfl, by omega, n0, by omega, u0, by omega, hscan⟩, hme⟩
        · exact absurd a a2
      · repeat (first | (apply w_op; (first | (apply p_asB; apply Eq.refl) | (apply p_seql; apply Eq.refl; apply Eq.refl)); apply Eq.refl) | (apply w_nil) | (apply e_then) | (apply c_region))
        first | refine c_ifd rfl (fun b => ?_) (fun b => ?_) | refine c_ifnd rfl (fun b => ?_) (fun b => ?_) | refine c_ifn rfl (fun b => ?_) (fun b => ?_) | refine c_cond rfl (fun b => ?_) (fun b => ?_)
        · rw [if_pos (.inr b)] at hscan
          repeat (first | (apply w_op; (first | (apply p_mvI; apply Eq.refl) | (apply p_add64; apply Eq.refl; apply Eq.refl; omega)); apply Eq.refl) | (apply w_nil) | (apply e_then) | (apply c_region) | (apply c_skip) | (apply e_bk))
          refine e_lp (by repeat (first | exact Over.base | exact Over.refl | refine Over.put rfl ?_ | refine Over.cnP rfl ?_ | refine Over.zpP rfl ?_)) ?_
          exact ⟨⟨rfl, i + 1, nm, up, rfl, by omega, n0, by omega, u0, by omega, hscan⟩, hme⟩
        · rw [if_neg (by rintro (q | q); exact a q; exact b q)] at hscan
          repeat (first | (apply w_op; (first | (apply p_asB; apply Eq.refl) | (apply p_seql; apply Eq.refl; apply Eq.refl)); apply Eq.refl) | (apply w_nil) | (apply c_seq) | (apply e_then) | (apply c_region))
          first | refine c_ifd rfl (fun cc => ?_) (fun cc => ?_) | refine c_ifnd rfl (fun cc => ?_) (fun cc => ?_) | refine c_ifn rfl (fun cc => ?_) (fun cc => ?_) | refine c_cond rfl (fun cc => ?_) (fun cc => ?_)
          · rw [if_pos cc] at hscan
            repeat (first | (apply w_op; (first | (apply p_mvI; apply Eq.refl) | (apply p_asI; apply Eq.refl) | (apply p_gtr; apply Eq.refl; apply Eq.refl) | (apply p_add64; apply Eq.refl; apply Eq.refl; omega)); apply Eq.refl) | (apply w_nil) | (apply c_seq) | (apply e_then) | (apply c_region))
            first | refine c_ifd rfl (fun dd => ?_) (fun dd => ?_) | refine c_ifnd rfl (fun dd => ?_) (fun dd => ?_) | refine c_ifn rfl (fun dd => ?_) (fun dd => ?_) | refine c_cond rfl (fun dd => ?_) (fun dd => ?_)
            · rw [if_pos (by simpa using dd)] at hscan
              repeat (first | (apply w_op; (apply p_asB; apply Eq.refl); apply Eq.refl) | (apply w_nil) | (apply c_seq) | (apply e_then) | (apply c_region) | (apply c_ret) | (apply e_then_ret) | (apply e_bk_ret) | (apply e_lp_ret))
              exact r_ret1 Tryd.results9 rfl ⟨by rw [hsafe, hscan]; rfl, hbel⟩
            · rw [if_neg (by simpa using dd)] at hscan
              repeat (first | (apply w_op; (first | (apply p_mvI; apply Eq.refl) | (apply p_add64; apply Eq.refl; apply Eq.refl; omega)); apply Eq.refl) | (apply w_nil) | (apply e_then) | (apply c_region) | (apply c_skip) | (apply e_bk))
              refine e_lp (by repeat (first | exact Over.base | exact Over.refl | refine Over.put rfl ?_ | refine Over.cnP rfl ?_ | refine Over.zpP rfl ?_)) ?_
              exact ⟨⟨rfl, i + 1, nm, up + 1, rfl, by omega, n0, by omega, by omega, by omega, hscan⟩, hme⟩
          · rw [if_neg cc] at hscan
            repeat (first | (apply w_op; (first | (apply p_mvI; apply Eq.refl) | (apply p_asI; apply Eq.refl) | (apply p_add64; apply Eq.refl; apply Eq.refl; omega)); apply Eq.refl) | (apply w_nil) | (apply e_then) | (apply c_region) | (apply e_bk))
            refine e_lp (by repeat (first | exact Over.base | exact Over.refl | refine Over.put rfl ?_ | refine Over.cnP rfl ?_ | refine Over.zpP rfl ?_)) ?_
            exact ⟨⟨rfl, i + 1, nm + 1, up, rfl, by omega, by omega, by omega, u0, by omega, by rw [hscan, decide_eq_true (by omega)]⟩, hme⟩
    · obtain rfl : i = (split t).length := by omega
      rw [List.drop_length] at hscan
      simp only [scanB] at hscan
      have hpl := split_len p (m := 1099511627776) (by omega)
      repeat (first | (apply w_op; (first | (apply p_mvI; apply Eq.refl) | (apply p_mvS; apply Eq.refl)); apply Eq.refl) | (apply c_seq) | (apply e_then) | (apply c_region) | (apply c_exit) | (apply e_then_exit) | (apply e_bk_same) | (apply e_lp_exit))
      refine w_callB cl25 (depth_ok p _ hp) rfl (fun w4 hb4 => ?_)
      repeat (first | (apply w_op; (first | (apply p_asB; apply Eq.refl) | (apply p_leq; apply Eq.refl; apply Eq.refl) | (apply p_sub64; apply Eq.refl; apply Eq.refl; omega)); apply Eq.refl) | (apply w_nil) | (apply e_then) | (apply c_ret))
      refine r_ret1 Tryd.results9 rfl ⟨?_, hbel.trans (hb4.mono z2)⟩
      rw [hsafe, hscan]
      show Value.bool (decide (up ≤ ((split p).length : Int) - 1)) = Value.bool (decide (up < ((split p).length : Int)))
      congr 1
      rw [Bool.eq_iff_iff]
      simp only [decide_eq_true_eq]
      omega

set_option maxRecDepth 100000 in
theorem rsafe_ok (p t : ByteArray) (w : World) (hp : p.size ≤ 1099511627775) (ht : t.size ≤ 1000000) : Ret Tryd.prog 10 [.string p, .string t] w fun v w' => v = .bool (safeB p t) ∧ Below w.heap.size w w' := by
  refine calls_in Tryd.func10 rfl Tryd.ntmps10 rfl ?_
  repeat (first | (apply w_op; (first | (apply p_mvS; apply Eq.refl) | (apply p_asB; apply Eq.refl)); apply Eq.refl) | (apply w_nil) | (apply c_seq) | (apply e_then) | (apply c_region))
  refine w_callB cl26 (rright_ok p _ hp) rfl (fun w1 hb1 => ?_)
  have z1 := hb1.size
  repeat (first | (apply w_op; (first | (apply p_mvS; apply Eq.refl) | (apply p_mvB; apply Eq.refl) | (apply p_seql; apply Eq.refl; apply Eq.refl) | (apply p_not; apply Eq.refl) | (apply p_pick_t; apply Eq.refl; apply Eq.refl) | (apply p_pick_f; apply Eq.refl; apply Eq.refl)); apply Eq.refl) | (apply w_nil) | (apply w_on; apply Eq.refl) | (apply w_off; apply Eq.refl; apply Eq.refl) | (apply w_orA; apply Eq.refl; apply Eq.refl; (repeat (first | apply Seg.pick | apply Seg.op | apply Seg.op0)); apply Eq.refl; intro _) | (apply e_sc; (repeat (first | exact Over.base | exact Over.refl | refine Over.put rfl ?_ | refine Over.cnP rfl ?_ | refine Over.zpP rfl ?_)); apply Eq.refl) | (intro _))
  rename_i hq
  have hz := size_pos (t := t) (by simp at hq; exact hq.2)
  repeat (first | (apply w_op; (first | (apply p_eql; apply Eq.refl; apply Eq.refl) | (apply p_pick_t; apply Eq.refl; apply Eq.refl) | (apply p_pick_f; apply Eq.refl; apply Eq.refl) | (apply p_index; apply Eq.refl; apply Eq.refl; omega)); apply Eq.refl) | (apply w_nil) | (apply e_then) | (apply w_on; apply Eq.refl) | (apply w_off; apply Eq.refl; apply Eq.refl) | (apply e_sc; (repeat (first | exact Over.base | exact Over.refl | refine Over.put rfl ?_ | refine Over.cnP rfl ?_ | refine Over.zpP rfl ?_)); apply Eq.refl) | (intro _))
  first | refine c_ifd rfl (fun g2 => ?_) (fun g2 => ?_) | refine c_ifnd rfl (fun g2 => ?_) (fun g2 => ?_) | refine c_ifn rfl (fun g2 => ?_) (fun g2 => ?_) | refine c_cond rfl (fun g2 => ?_) (fun g2 => ?_)
  · have hbad : safeB p t = false := by
      have hb : safeBad p t = true := by
        unfold safeBad
        simp only [Bool.or_eq_true, decide_eq_true_eq, Bool.not_eq_true'] at g2 ⊢
        rcases g2 with g2 | g2
        · rcases g2 with (g2 | g2) | g2
          · exact .inl (.inl (.inr g2))
          · exact .inl (.inl (.inl g2))
          · exact .inl (.inr g2)
        · by_cases ht0 : t = noB
          · exact .inl (.inr ht0)
          · right; rw [slashed_at ht0]; simpa using g2
      rw [safeB, if_pos hb]
    repeat (first | (apply w_op; (apply p_asB; apply Eq.refl); apply Eq.refl) | (apply w_nil) | (apply c_seq) | (apply e_then) | (apply c_region) | (apply c_ret) | (apply e_then_ret))
    exact r_ret1 Tryd.results10 rfl ⟨by rw [hbad]; rfl, hb1⟩
  · simp only [Bool.or_eq_false_iff, decide_eq_false_iff_not, Bool.not_eq_false'] at g2
    obtain ⟨⟨⟨k2, k1⟩, k3⟩, k4⟩ := g2
    have hb : safeBad p t = false := by
      unfold safeBad
      rw [slashed_at k3]
      simp only [Bool.or_eq_false_iff, decide_eq_false_iff_not, Bool.not_eq_false']
      exact ⟨⟨⟨k1, k2⟩, k3⟩, k4⟩
    have hsafe : safeB p t = match scanB (split t) 0 false with | none => false | some u => decide (u < ((split p).length : Int)) := by rw [safeB, if_neg (by simp [hb])]
    have hsl1 := split_len t (m := 1000001) (by omega)
    repeat (first | (apply w_op; (first | (apply p_mvS; apply Eq.refl) | (apply p_asI; apply Eq.refl) | (apply p_asB; apply Eq.refl)); apply Eq.refl) | (apply w_nil) | (apply c_seq) | (apply e_then) | (apply c_region) | (apply c_skip))
    refine w_call cl27 (rsplit_ok t _ (by omega)) rfl ?_
    rintro v w2 ⟨hown, hb2⟩
    have hsl : Strs w2 w2.heap.size v (split t) := Sl.of_own rfl (fun _ => rfl) hown
    obtain ⟨A, c, rfl, hc, hA⟩ := hsl.out
    have hbel := hb1.trans (hb2.mono z1)
    have z2 := hbel.size
    repeat (first | (apply w_op; (first | (apply p_mvI; apply Eq.refl) | (apply p_len_sl; apply Eq.refl)); apply Eq.refl) | (apply w_nil) | (apply e_then) | (apply c_block))
    refine c_loop [28, 6, 5] [4, 8, 29, 30, 31, 32, 33, 34, 35, 36, 37, 38, 39, 40, 41, 42, 43] (fun vs w3 => w3 = w2 ∧ ∃ (i : Nat) (nm : Bool) (up : Int), vs = [.int .i64 (i : Int), .bool nm, .int .i64 up] ∧ i ≤ (split t).length ∧ 0 ≤ up ∧ up ≤ i ∧ scanB (split t) 0 false = scanB ((split t).drop i) up nm)
      (fun vs _ => (split t).length - (intOf (vs.headD undef)).toNat) rfl
      ⟨rfl, 0, false, 0, rfl, Nat.zero_le _, Int.le_refl _, Int.le_refl _, rfl⟩ ?_
    rintro _ u3 w3 ⟨rfl, i, nm, up, rfl, hi, u0, u1, hscan⟩
    repeat (first | (apply w_op; (apply p_lss; apply Eq.refl; apply Eq.refl); apply Eq.refl) | (apply w_nil) | (apply c_seq) | (apply e_then) | (apply c_region))
    first | refine c_ifd rfl (fun g => ?_) (fun g => ?_) | refine c_ifnd rfl (fun g => ?_) (fun g => ?_) | refine c_ifn rfl (fun g => ?_) (fun g => ?_) | refine c_cond rfl (fun g => ?_) (fun g => ?_)
    · have hi1 : i < (split t).length := by omega
      obtain ⟨ad, rfl, _, hcel⟩ := hsl.at_ rfl hi1
      rw [List.drop_eq_getElem_cons hi1] at hscan
      simp only [scanB] at hscan
      have hme : (split t).length - ((i : Int) + 1).toNat < (split t).length - ((i : Int)).toNat := by omega
      repeat (first | (apply w_op; (first | (apply p_mvS; apply Eq.refl) | (apply p_asS; apply Eq.refl) | (apply p_seql; apply Eq.refl; apply Eq.refl) | (apply p_indexAddr; apply Eq.refl; apply Eq.refl; apply Eq.refl; omega) | (apply p_load0; apply Eq.refl; (first | assumption | (apply Cel.bel; assumption; assumption; apply Nat.zero_lt_succ)); (first | apply Eq.refl | assumption))); apply Eq.refl) | (apply w_nil) | (apply c_seq) | (apply e_then) | (apply c_region) | (apply c_block) | (apply c_skip))
      first | refine c_ifd rfl (fun cc => ?_) (fun cc => ?_) | refine c_ifnd rfl (fun cc => ?_) (fun cc => ?_) | refine c_ifn rfl (fun cc => ?_) (fun cc => ?_) | refine c_cond rfl (fun cc => ?_) (fun cc => ?_)
      · have c1 : ¬ ((split t)[i] = noB ∨ (split t)[i] = dotB) := by
          rintro (q | q)
          · rw [cc] at q; exact absurd q (by decide)
          · rw [cc] at q; exact absurd q (by decide)
        rw [if_neg c1, if_pos cc] at hscan
        repeat (first | (apply w_op; (first | (apply p_mvI; apply Eq.refl) | (apply p_mvB; apply Eq.refl) | (apply p_asI; apply Eq.refl) | (apply p_add64; apply Eq.refl; apply Eq.refl; omega)); apply Eq.refl) | (apply w_nil) | (apply c_seq) | (apply e_then) | (apply c_region))
        first | refine c_ifd rfl (fun dd => ?_) (fun dd => ?_) | refine c_ifnd rfl (fun dd => ?_) (fun dd => ?_) | refine c_ifn rfl (fun dd => ?_) (fun dd => ?_) | refine c_cond rfl (fun dd => ?_) (fun dd => ?_)
        · rw [if_pos dd] at hscan
          repeat (first | (apply w_op; (apply p_asB; apply Eq.refl); apply Eq.refl) | (apply w_nil) | (apply c_seq) | (apply e_then) | (apply c_region) | (apply c_ret) | (apply e_then_ret) | (apply e_bk_ret) | (apply e_lp_ret))
          exact r_ret1 Tryd.results10 rfl ⟨by rw [hsafe, hscan]; rfl, hbel⟩
        · rw [if_neg (by simp [dd])] at hscan
          repeat (first | (apply w_op; (first | (apply p_mvI; apply Eq.refl) | (apply p_add64; apply Eq.refl; apply Eq.refl; omega)); apply Eq.refl) | (apply w_nil) | (apply e_then) | (apply c_region) | (apply c_skip) | (apply e_bk))
          refine e_lp (by repeat (first | exact Over.base | exact Over.refl | refine Over.put rfl ?_ | refine Over.cnP rfl ?_ | refine Over.zpP rfl ?_)) ?_
          exact ⟨⟨rfl, i + 1, nm, up + 1, rfl, by omega, by omega, by omega, hscan⟩, hme⟩
      · repeat (first | (apply w_op; (first | (apply p_mvS; apply Eq.refl) | (apply p_mvB; apply Eq.refl) | (apply p_sneq; apply Eq.refl; apply Eq.refl) | (apply p_pick_t; apply Eq.refl; apply Eq.refl) | (apply p_pick_f; apply Eq.refl; apply Eq.refl)); apply Eq.refl) | (apply w_nil) | (apply c_seq) | (apply e_then) | (apply c_region) | (apply w_on; apply Eq.refl) | (apply w_off; apply Eq.refl; apply Eq.refl) | (apply w_andn; apply Eq.refl; apply Eq.refl; (repeat (first | apply Seg.pick | apply Seg.op | apply Seg.op0)); apply Eq.refl; intro _) | (apply e_sc; (repeat (first | exact Over.base | exact Over.refl | refine Over.put rfl ?_ | refine Over.cnP rfl ?_ | refine Over.zpP rfl ?_)); apply Eq.refl) | (intro _))
        first | refine c_ifd rfl (fun a => ?_) (fun a => ?_) | refine c_ifnd rfl (fun a => ?_) (fun a => ?_) | refine c_ifn rfl (fun a => ?_) (fun a => ?_) | refine c_cond rfl (fun a => ?_) (fun a => ?_)
        · have c1 : ¬ ((split t)[i] = noB ∨ (split t)[i] = dotB) := by simpa using a
          rw [if_neg c1, if_neg cc] at hscan
          repeat (first | (apply w_op; (first | (apply p_mvI; apply Eq.refl) | (apply p_asB; apply Eq.refl) | (apply p_add64; apply Eq.refl; apply Eq.refl; omega)); apply Eq.refl) | (apply w_nil) | (apply e_then) | (apply c_region) | (apply e_bk))
          refine e_lp (by repeat (first | exact Over.base | exact Over.refl | refine Over.put rfl ?_ | refine Over.cnP rfl ?_ | refine Over.zpP rfl ?_)) ?_
          exact ⟨⟨rfl, i + 1, true, up, rfl, by omega, u0, by omega, hscan⟩, hme⟩
        · have c1 : (split t)[i] = noB ∨ (split t)[i] = dotB := by
            by_cases q : (split t)[i] = noB
            · exact .inl q
            · right; simpa [q] using a
          rw [if_pos c1] at hscan
          repeat (first | (apply w_op; (first | (apply p_mvI; apply Eq.refl) | (apply p_add64; apply Eq.refl; apply Eq.refl; omega)); apply Eq.refl) | (apply w_nil) | (apply e_then) | (apply c_region) | (apply c_skip) | (apply e_bk))
          refine e_lp (by repeat (first | exact Over.base | exact Over.refl | refine Over.put rfl ?_ | refine Over.cnP rfl ?_ | refine Over.zpP rfl ?_)) ?_
          exact ⟨⟨rfl, i + 1, nm, up, rfl, by omega, u0, by omega, hscan⟩, hme⟩
    · obtain rfl : i = (split t).length := by omega
      rw [List.drop_length] at hscan
      simp only [scanB] at hscan
      have hpl := split_len p (m := 1099511627776) (by omega)
      repeat (first | (apply w_op; (first | (apply p_mvI; apply Eq.refl) | (apply p_mvS; apply Eq.refl)); apply Eq.refl) | (apply c_seq) | (apply e_then) | (apply c_region) | (apply c_exit) | (apply e_then_exit) | (apply e_bk_same) | (apply e_lp_exit))
      refine w_callB cl28 (rdepth_ok p _ hp) rfl (fun w4 hb4 => ?_)
      repeat (first | (apply w_op; (first | (apply p_asB; apply Eq.refl) | (apply p_lss; apply Eq.refl; apply Eq.refl)); apply Eq.refl) | (apply w_nil) | (apply e_then) | (apply c_ret))
      refine r_ret1 Tryd.results10 rfl ⟨?_, hbel.trans (hb4.mono z2)⟩
      rw [hsafe, hscan]
      rfl
end Go.Proofs.YtmgheamdboiklaaDoor
