/- THE STEPS: a walk by one lemma an operation: frames as lists of (slot, value), worlds as variables. General: no program in it. Nothing is proved of a law here. -/
import Derived.WalkKit
import Derived.Deep.Quiet
import Derived.KernelRfl
namespace Go.Proofs.YtmgheamdboiklaaDoor
open Go.RowKit

/-! ### frames -/
def lk : List (Nat × Value) → Nat → Value
  | [], _ => undef
  | x :: r, i => bif Nat.beq x.1 i then x.2 else lk r i

def fr (n : Nat) (l : List (Nat × Value)) (ds : List Deferred) : Act := ⟨(Array.range n).map (lk l), ds⟩

def ev (n : Nat) (l : List (Nat × Value)) : Operand → Value
  | .tmp t => bif Nat.blt t n then lk l t else undef
  | .const v => v
  | .global g => .pointer (some ⟨g, 0, none⟩)
  | .func f => .func (.func f) #[] #[]

section
variable {n : Nat} {l l' : List (Nat × Value)} {ds : List Deferred}

theorem lk_cons (k : Nat) (v : Value) (i : Nat) : lk ((k, v) :: l) i = if k = i then v else lk l i := by
  simp only [lk]
  by_cases h : k = i
  · subst h; simp [Nat.beq_refl]
  · have : Nat.beq k i = false := by
      cases hb : Nat.beq k i with
      | false => rfl
      | true => exact absurd (Nat.eq_of_beq_eq_true hb) h
    simp [this, h]

theorem fr_getD (t : Nat) (h : t < n) : (fr n l ds).tmps.getD t undef = lk l t := by
  simp [fr, Array.getD, h]

theorem fr_eval : (fr n l ds).eval = ev n l := by
  funext x
  cases x with
  | tmp t =>
    simp only [Act.eval, ev]
    by_cases h : t < n
    · have hb : Nat.blt t n = true := by simpa using h
      rw [hb, fr_getD t h]; rfl
    · have hb : Nat.blt t n = false := by
        cases hc : Nat.blt t n with
        | false => rfl
        | true => exact absurd (by simpa using hc) h
      rw [hb]
      simp [fr, Array.getD, h]
  | const v => rfl
  | global g => rfl
  | func f => rfl

theorem fr_ext (h : ∀ i, i < n → lk l i = lk l' i) : fr n l ds = fr n l' ds := by
  simp only [fr, Act.mk.injEq, and_true]
  apply Array.ext
  · simp
  · intro i h1 h2
    simp at h1
    simp [h i h1]

theorem fr_put (d : Nat) (v : Value) (h : Nat.blt d n = true) : (fr n l ds).put (some d) v = fr n ((d, v) :: l) ds := by
  have hd : d < n := by simpa using h
  simp only [Act.put, fr, Act.mk.injEq, and_true]
  apply Array.ext
  · simp
  · intro i h1 h2
    simp at h1
    rw [Array.getElem_setIfInBounds (by simpa using h1)]
    simp only [Array.getElem_map, Array.getElem_range, lk_cons]
end

/-! ### the goals of a walk, closed to unfolding -/
@[irreducible] def W (P : Program) (ops : Array Oper) (Q : Exit → Act → World → Prop) (n : Nat) (l : List (Nat × Value)) (ds : List Deferred) (os : List Oper) (w : World) : Prop := wpList P ops Q os (fr n l ds) w
@[irreducible] def CW (P : Program) (Q : Exit → Act → World → Prop) (n : Nat) (l : List (Nat × Value)) (ds : List Deferred) (c : Code) (w : World) : Prop := c.wp P Q (fr n l ds) w
@[irreducible] def EW (Q : Exit → Act → World → Prop) (n : Nat) (l : List (Nat × Value)) (ds : List Deferred) (e : Exit) (w : World) : Prop := Q e (fr n l ds) w
@[irreducible] def Ret (P : Program) (f : FuncId) (args : List Value) (w : World) (R : Value → World → Prop) : Prop := Calls P f args.toArray w fun e w' => ∃ v, e = .returned v ∧ R v w'
/-- the operation yields a value and leaves the world alone -/
@[irreducible] def Op1 (P : Program) (ρ : Operand → Value) (op : Op) (ty : TypeId) (w : World) (v : Value) : Prop := ∀ dst pos aft g, (execOp ρ ⟨dst, op, ty, pos, aft, g⟩).run P w = .ok (.value v) w
/-- the operation yields a value and leaves world w' -/
@[irreducible] def Op2 (P : Program) (ρ : Operand → Value) (op : Op) (ty : TypeId) (w : World) (v : Value) (w' : World) : Prop := ∀ dst pos aft g, (execOp ρ ⟨dst, op, ty, pos, aft, g⟩).run P w = .ok (.value v) w'
/-- the operation yields nothing and leaves world w' -/
@[irreducible] def Op0 (P : Program) (ρ : Operand → Value) (op : Op) (ty : TypeId) (w : World) (w' : World) : Prop := ∀ dst pos aft g, (execOp ρ ⟨dst, op, ty, pos, aft, g⟩).run P w = .ok .skip w'

def asB : Value → Option Bool
  | .bool b => some b
  | _ => none
def yl (n : Nat) (l : List (Nat × Value)) (ops : Array Oper) (j : Nat) : Option Bool :=
  match ops[j]? with
  | some o => match o.dst with
    | some d => bif Nat.blt d n then asB (lk l d) else none
    | none => none
  | none => none

theorem yl_eq {n : Nat} {l : List (Nat × Value)} {ds : List Deferred} {ops : Array Oper} (j : Nat) : yielded ops (fr n l ds).tmps j = yl n l ops j := by
  unfold yielded yl
  cases ops[j]? with
  | none => simp
  | some o =>
    simp only [Option.bind_some]
    cases o.dst with
    | none => simp
    | some d =>
      simp only [Option.bind_some]
      by_cases h : d < n
      · have hb : Nat.blt d n = true := by simpa using h
        have : (fr n l ds).tmps[d]? = some (lk l d) := by simp [fr, h]
        rw [this, hb]
        simp only [cond_true]
        cases lk l d <;> rfl
      · have hb : Nat.blt d n = false := by
          cases hc : Nat.blt d n with
          | false => rfl
          | true => exact absurd (by simpa using hc) h
        have : (fr n l ds).tmps[d]? = none := by simp [fr, Nat.le_of_not_lt h]
        rw [this, hb]
        rfl

section
variable {P : Program} {ops : Array Oper} {Q : Exit → Act → World → Prop} {n : Nat} {l : List (Nat × Value)} {ds : List Deferred} {rest : List Oper} {w w' : World}
variable {op : Op} {ty : TypeId} {pos : String} {aft : Array Edge} {v : Value} {d : Nat}

theorem w_op (h : Op1 P (ev n l) op ty w v) (hd : Nat.blt d n = true) (k : W P ops Q n ((d, v) :: l) ds rest w) :
    W P ops Q n l ds (⟨some d, op, ty, pos, aft, none⟩ :: rest) w := by
  unfold W at *
  unfold Op1 at h
  refine wpList_plain rfl fun K hK => ?_
  unfold Oper.wp
  rw [fr_eval, h]
  simp only [Oper.upon]
  rw [fr_put d v hd]
  exact hK _ _ k

theorem w_op2 (h : Op2 P (ev n l) op ty w v w') (hd : Nat.blt d n = true) (k : W P ops Q n ((d, v) :: l) ds rest w') :
    W P ops Q n l ds (⟨some d, op, ty, pos, aft, none⟩ :: rest) w := by
  unfold W at *
  unfold Op2 at h
  refine wpList_plain rfl fun K hK => ?_
  unfold Oper.wp
  rw [fr_eval, h]
  simp only [Oper.upon]
  rw [fr_put d v hd]
  exact hK _ _ k

/-- a value that nobody keeps -/
theorem w_op2n (h : Op2 P (ev n l) op ty w v w') (k : W P ops Q n l ds rest w') :
    W P ops Q n l ds (⟨none, op, ty, pos, aft, none⟩ :: rest) w := by
  unfold W at *
  unfold Op2 at h
  refine wpList_plain rfl fun K hK => ?_
  unfold Oper.wp
  rw [fr_eval, h]
  exact hK _ _ k

theorem w_op0 (h : Op0 P (ev n l) op ty w w') (k : W P ops Q n l ds rest w') :
    W P ops Q n l ds (⟨none, op, ty, pos, aft, none⟩ :: rest) w := by
  unfold W at *
  unfold Op0 at h
  refine wpList_plain rfl fun K hK => ?_
  unfold Oper.wp
  rw [fr_eval, h]
  exact hK _ _ k

theorem w_on {dst : Option Tmp} {j : Nat} {b : Bool} (hy : yl n l ops j = some b) (k : W P ops Q n l ds (⟨dst, op, ty, pos, aft, none⟩ :: rest) w) :
    W P ops Q n l ds (⟨dst, op, ty, pos, aft, some (j, b)⟩ :: rest) w := by
  unfold W at *
  simp only [wpList, Region.wanted, yl_eq, hy, beq_self_eq_true, if_true] at *
  exact k

theorem w_off {j : Nat} {b : Bool} (hy : yl n l ops j = some (!b)) (hd : Nat.blt d n = true) (k : W P ops Q n ((d, undef) :: l) ds rest w) :
    W P ops Q n l ds (⟨some d, op, ty, pos, aft, some (j, b)⟩ :: rest) w := by
  unfold W at *
  have h : ((some (!b) : Option Bool) == some b) = false := by cases b <;> rfl
  simp only [wpList, Region.wanted, yl_eq, hy, h]
  rw [fr_put d undef hd]
  exact k

theorem w_off2 {j : Nat} {b : Bool} (hy : yl n l ops j = none) (hd : Nat.blt d n = true) (k : W P ops Q n ((d, undef) :: l) ds rest w) :
    W P ops Q n l ds (⟨some d, op, ty, pos, aft, some (j, b)⟩ :: rest) w := by
  unfold W at *
  have h : ((none : Option Bool) == some b) = false := by cases b <;> rfl
  simp only [wpList, Region.wanted, yl_eq, hy, h]
  rw [fr_put d undef hd]
  exact k

theorem w_nil (k : EW Q n l ds .normal w) : W P ops Q n l ds [] w := by
  unfold W; unfold EW at k; exact wpList_nil k

/-- a slot's Bool, decided -/
theorem w_bool (t : Nat) {b : Bool} {os : List Oper} (hv : lk l t = .bool b) (ht : b = true → W P ops Q n ((t, .bool true) :: l) ds os w) (hf : b = false → W P ops Q n ((t, .bool false) :: l) ds os w) :
    W P ops Q n l ds os w := by
  unfold W at *
  have he : fr n l ds = fr n ((t, .bool b) :: l) ds := by
    apply fr_ext
    intro i _
    rw [lk_cons]
    split
    · rename_i h; subst h; exact hv
    · rfl
  rw [he]
  cases b with
  | true => exact ht rfl
  | false => exact hf rfl

/-! ### code -/
def Th (P : Program) (y : Code) (Q : Exit → Act → World → Prop) : Exit → Act → World → Prop := Exit.then (fun a w => y.wp P Q a w) Q
def Bk (id : Nat) (Q : Exit → Act → World → Prop) : Exit → Act → World → Prop := Exit.inBlock id Q
def Bd (P : Program) (fn : Func) (R : Value → World → Prop) : Exit → Act → World → Prop := bodyPost P fn fun e w => ∃ v, e = .returned v ∧ R v w

theorem c_region {id : Nat} {os : List Oper} (k : W P os.toArray Q n l ds os w) : CW P Q n l ds (.region id os.toArray false) w := by
  unfold CW; unfold W at k; exact wp_region_lit k
theorem c_seq {x y : Code} (k : CW P (Th P y Q) n l ds x w) : CW P Q n l ds (x.seq y) w := by
  unfold CW at *; exact wp_seq k
theorem c_block {id : Nat} {c : Code} (k : CW P (Bk id Q) n l ds c w) : CW P Q n l ds (.block id c) w := by
  unfold CW at *; exact wp_block k
theorem c_skip (k : EW Q n l ds .normal w) : CW P Q n l ds .skip w := by
  unfold CW; unfold EW at k; exact wp_skip k
theorem c_exit {id : Nat} (k : EW Q n l ds (.exit id) w) : CW P Q n l ds (.exit id) w := by
  unfold CW; unfold EW at k; exact wp_exit k
theorem c_ret (k : EW Q n l ds .ret w) : CW P Q n l ds .ret w := by
  unfold CW; unfold EW at k; exact wp_ret k
theorem c_label {i : Nat} (k : EW Q n l ds .normal w) : CW P Q n l ds (.label i) w := by
  unfold CW; unfold EW at k; exact wp_label k
theorem c_cond {c : Operand} {x y : Code} {b : Bool} (hc : ev n l c = .bool b) (ht : b = true → CW P Q n l ds x w) (hf : b = false → CW P Q n l ds y w) : CW P Q n l ds (.cond c x y) w := by
  unfold CW at *; exact wp_cond_split (by rw [fr_eval]; exact hc) ht hf
theorem c_cond_t {c : Operand} {x y : Code} (hc : ev n l c = .bool true) (ht : CW P Q n l ds x w) : CW P Q n l ds (.cond c x y) w := by
  unfold CW at *; exact wp_cond_true (by rw [fr_eval]; exact hc) ht
theorem c_cond_f {c : Operand} {x y : Code} (hc : ev n l c = .bool false) (hf : CW P Q n l ds y w) : CW P Q n l ds (.cond c x y) w := by
  unfold CW at *; exact wp_cond_false (by rw [fr_eval]; exact hc) hf

theorem e_then {y : Code} (k : CW P Q n l ds y w) : EW (Th P y Q) n l ds .normal w := by
  unfold EW Th; unfold CW at k; exact k
theorem e_then_ret {y : Code} (k : EW Q n l ds .ret w) : EW (Th P y Q) n l ds .ret w := by
  unfold EW Th at *; exact k
theorem e_then_exit {y : Code} {i : Nat} (k : EW Q n l ds (.exit i) w) : EW (Th P y Q) n l ds (.exit i) w := by
  unfold EW Th at *; exact k
theorem e_bk {id : Nat} (k : EW Q n l ds .normal w) : EW (Bk id Q) n l ds .normal w := by
  unfold EW Bk at *; exact k
theorem e_bk_ret {id : Nat} (k : EW Q n l ds .ret w) : EW (Bk id Q) n l ds .ret w := by
  unfold EW Bk at *; exact k
theorem e_bk_same {id : Nat} (k : EW Q n l ds .normal w) : EW (Bk id Q) n l ds (.exit id) w := by
  unfold EW Bk at *; simp only [Exit.inBlock, if_true]; exact k
theorem e_bk_other {id i : Nat} (h : Nat.beq i id = false) (k : EW Q n l ds (.exit i) w) : EW (Bk id Q) n l ds (.exit i) w := by
  unfold EW Bk at *
  have : i ≠ id := fun e => by subst e; simp at h
  simp only [Exit.inBlock, if_neg this]; exact k

/-! ### loops and cuts -/
def zp : List Nat → List Value → List (Nat × Value)
  | [], _ => []
  | d :: ds, vs => (d, vs.headD undef) :: zp ds vs.tail
def cn (E : List Nat) (u : Nat → Value) (l : List (Nat × Value)) : List (Nat × Value) := E.foldr (fun d r => (d, u d) :: r) l
/-- beside the slots D and E nothing has turned -/
structure Over (D E : List Nat) (l l' : List (Nat × Value)) : Prop where
  out : ∀ i, (D.any (Nat.beq · i) || E.any (Nat.beq · i)) = false → lk l' i = lk l i

theorem Over.refl {D E : List Nat} : Over D E l l := ⟨fun _ _ => rfl⟩
theorem Over.put {D E : List Nat} {l' : List (Nat × Value)} {k : Nat} {u : Value} (hk : (D.any (Nat.beq · k) || E.any (Nat.beq · k)) = true) (h : Over D E l l') : Over D E l ((k, u) :: l') := ⟨fun i hi => by
  rw [lk_cons, if_neg, h.out i hi]
  intro e
  subst e
  rw [hk] at hi
  cases hi⟩
theorem lk_zp {D : List Nat} {r : List (Nat × Value)} : ∀ {vs : List Value} {i : Nat}, D.any (Nat.beq · i) = false → lk (zp D vs ++ r) i = lk r i := by
  induction D with
  | nil => intro vs i _; rfl
  | cons d D ih =>
    intro vs i h
    simp only [List.any_cons, Bool.or_eq_false_iff] at h
    show lk ((d, vs.headD undef) :: (zp D vs.tail ++ r)) i = _
    rw [lk_cons, if_neg, ih h.2]
    intro e
    subst e
    simp at h
theorem lk_cn {E : List Nat} {u : Nat → Value} {r : List (Nat × Value)} : ∀ {i : Nat}, E.any (Nat.beq · i) = false → lk (cn E u r) i = lk r i := by
  induction E with
  | nil => intro i _; rfl
  | cons d E ih =>
    intro i h
    simp only [List.any_cons, Bool.or_eq_false_iff] at h
    show lk ((d, u d) :: cn E u r) i = _
    rw [lk_cons, if_neg, ih h.2]
    intro e
    subst e
    simp at h
theorem Over.base {D E : List Nat} {vs : List Value} {u : Nat → Value} : Over D E l (zp D vs ++ cn E u l) := ⟨fun i hi => by
  simp only [Bool.or_eq_false_iff] at hi
  rw [lk_zp hi.1, lk_cn hi.2]⟩
theorem Over.cnP {D E E' : List Nat} {u : Nat → Value} {l l' : List (Nat × Value)} (hE : E'.all (fun k => D.any (Nat.beq · k) || E.any (Nat.beq · k)) = true) (h : Over D E l l') : Over D E l (cn E' u l') := ⟨fun i hi => by
  rw [lk_cn, h.out i hi]
  cases hc : E'.any (Nat.beq · i) with
  | false => rfl
  | true =>
    exfalso
    obtain ⟨k, hk, hki⟩ := List.any_eq_true.1 hc
    have := List.all_eq_true.1 hE k hk
    rw [Nat.eq_of_beq_eq_true hki, hi] at this
    cases this⟩
theorem Over.zpP {D E D' : List Nat} {vs : List Value} {l l' : List (Nat × Value)} (hE : D'.all (fun k => D.any (Nat.beq · k) || E.any (Nat.beq · k)) = true) (h : Over D E l l') : Over D E l (zp D' vs ++ l') := ⟨fun i hi => by
  rw [lk_zp, h.out i hi]
  cases hc : D'.any (Nat.beq · i) with
  | false => rfl
  | true =>
    exfalso
    obtain ⟨k, hk, hki⟩ := List.any_eq_true.1 hc
    have := List.all_eq_true.1 hE k hk
    rw [Nat.eq_of_beq_eq_true hki, hi] at this
    cases this⟩
theorem lk_zp_self {D : List Nat} {r l' : List (Nat × Value)} : ∀ {i : Nat}, D.any (Nat.beq · i) = true → lk (zp D (D.map (lk l')) ++ r) i = lk l' i := by
  induction D with
  | nil => intro i h; simp at h
  | cons d D ih =>
    intro i h
    show lk ((d, lk l' d) :: (zp D (D.map (lk l')) ++ r)) i = _
    rw [lk_cons]
    split
    · rename_i e; subst e; rfl
    · rename_i hne
      apply ih
      simp only [List.any_cons, Bool.or_eq_true] at h
      rcases h with h | h
      · exact absurd (Nat.eq_of_beq_eq_true h) hne
      · exact h
theorem lk_cn_self {E : List Nat} {u : Nat → Value} {r : List (Nat × Value)} : ∀ {i : Nat}, E.any (Nat.beq · i) = true → lk (cn E u r) i = u i := by
  induction E with
  | nil => intro i h; simp at h
  | cons d E ih =>
    intro i h
    show lk ((d, u d) :: cn E u r) i = _
    rw [lk_cons]
    split
    · rename_i e; subst e; rfl
    · rename_i hne
      apply ih
      simp only [List.any_cons, Bool.or_eq_true] at h
      rcases h with h | h
      · exact absurd (Nat.eq_of_beq_eq_true h) hne
      · exact h
theorem Over.form {D E : List Nat} {l' : List (Nat × Value)} (h : Over D E l l') : fr n l' ds = fr n (zp D (D.map (lk l')) ++ cn E (lk l') l) ds := by
  apply fr_ext
  intro i _
  cases hD : D.any (Nat.beq · i) with
  | true => rw [lk_zp_self hD]
  | false =>
    rw [lk_zp hD]
    cases hE : E.any (Nat.beq · i) with
    | true => rw [lk_cn_self hE]
    | false => rw [lk_cn hE, h.out i (by simp [hD, hE])]

/-- what a loop's round must come to -/
def Lp (n : Nat) (l : List (Nat × Value)) (ds : List Deferred) (D E : List Nat) (I : List Value → World → Prop) (μ : List Value → World → Nat) (m : Nat) (Q : Exit → Act → World → Prop) : Exit → Act → World → Prop :=
  Exit.then (fun a w => ∃ l', a = fr n l' ds ∧ Over D E l l' ∧ I (D.map (lk l')) w ∧ μ (D.map (lk l')) w < m) Q
theorem e_lp {D E : List Nat} {I : List Value → World → Prop} {μ : List Value → World → Nat} {m : Nat} {l' : List (Nat × Value)} (ho : Over D E l l') (h : I (D.map (lk l')) w ∧ μ (D.map (lk l')) w < m) :
    EW (Lp n l ds D E I μ m Q) n l' ds .normal w := by
  unfold EW Lp
  exact ⟨l', rfl, ho, h⟩
theorem e_lp_ret {D E : List Nat} {I : List Value → World → Prop} {μ : List Value → World → Nat} {m : Nat} {l' : List (Nat × Value)} (k : EW Q n l' ds .ret w) : EW (Lp n l ds D E I μ m Q) n l' ds .ret w := by
  unfold EW Lp at *; exact k
theorem e_lp_exit {D E : List Nat} {I : List Value → World → Prop} {μ : List Value → World → Nat} {m : Nat} {l' : List (Nat × Value)} {i : Nat} (k : EW Q n l' ds (.exit i) w) : EW (Lp n l ds D E I μ m Q) n l' ds (.exit i) w := by
  unfold EW Lp at *; exact k
theorem map_getD {D : List Nat} {q : List (Nat × Value)} (hD : D.all (Nat.blt · n) = true) : D.map (fun t => (fr n q ds).tmps.getD t undef) = D.map (lk q) := by
  apply List.map_congr_left
  intro t ht
  have := List.all_eq_true.1 hD t ht
  exact fr_getD t (by simpa using this)

theorem c_loop (D E : List Nat) (I : List Value → World → Prop) (μ : List Value → World → Nat) {body : Code} (hD : D.all (Nat.blt · n) = true) (h0 : I (D.map (lk l)) w)
    (hr : ∀ vs u w', I vs w' → CW P (Lp n l ds D E I μ (μ vs w') Q) n (zp D vs ++ cn E u l) ds body w') : CW P Q n l ds (.loop body) w := by
  unfold CW at *
  refine wp_loop (fun a w => ∃ l', a = fr n l' ds ∧ Over D E l l' ∧ I (D.map (lk l')) w)
    (fun a w => μ (D.map (fun t => a.tmps.getD t undef)) w) ⟨l, rfl, Over.refl, h0⟩ ?_
  rintro a w1 ⟨l1, rfl, ho, hI⟩
  have hk := hr (D.map (lk l1)) (lk l1) w1 hI
  rw [← ho.form] at hk
  refine wp_mono hk ?_
  intro e a2 w2 hq
  unfold Lp at hq
  cases e with
  | normal =>
    obtain ⟨l2, rfl, ho2, hI2, hm⟩ := hq
    refine ⟨⟨l2, rfl, ho2, hI2⟩, ?_⟩
    show μ (D.map fun t => (fr n l2 ds).tmps.getD t undef) w2 < μ (D.map fun t => (fr n l1 ds).tmps.getD t undef) w1
    rw [map_getD hD, map_getD hD]
    exact hm
  | exit id => exact hq
  | goto l => exact hq
  | ret => exact hq
  | panic c => exact hq
  | outgrown => exact hq

/-- a cut: what stands behind x is walked once, whichever way x went -/
def Ct (n : Nat) (l : List (Nat × Value)) (ds : List Deferred) (D E : List Nat) (R : List Value → World → Prop) (Q : Exit → Act → World → Prop) : Exit → Act → World → Prop :=
  Exit.then (fun a w => ∃ l', a = fr n l' ds ∧ Over D E l l' ∧ R (D.map (lk l')) w) Q
theorem e_ct {D E : List Nat} {R : List Value → World → Prop} {l' : List (Nat × Value)} (ho : Over D E l l') (h : R (D.map (lk l')) w) : EW (Ct n l ds D E R Q) n l' ds .normal w := by
  unfold EW Ct
  exact ⟨l', rfl, ho, h⟩
theorem e_ct_ret {D E : List Nat} {R : List Value → World → Prop} {l' : List (Nat × Value)} (k : EW Q n l' ds .ret w) : EW (Ct n l ds D E R Q) n l' ds .ret w := by
  unfold EW Ct at *; exact k
theorem e_ct_exit {D E : List Nat} {R : List Value → World → Prop} {l' : List (Nat × Value)} {i : Nat} (k : EW Q n l' ds (.exit i) w) : EW (Ct n l ds D E R Q) n l' ds (.exit i) w := by
  unfold EW Ct at *; exact k
theorem c_cut (D E : List Nat) (R : List Value → World → Prop) {x y : Code} (h1 : CW P (Ct n l ds D E R Q) n l ds x w)
    (h2 : ∀ vs u w', R vs w' → CW P Q n (zp D vs ++ cn E u l) ds y w') : CW P Q n l ds (x.seq y) w := by
  unfold CW at *
  refine wp_seq (wp_mono h1 ?_)
  intro e a2 w2 hq
  unfold Ct at hq
  cases e with
  | normal =>
    obtain ⟨l2, rfl, ho2, hR⟩ := hq
    have := h2 _ (lk l2) w2 hR
    rw [← ho2.form] at this
    exact this
  | exit id => exact hq
  | goto l => exact hq
  | ret => exact hq
  | panic c => exact hq
  | outgrown => exact hq

theorem w_mono {os : List Oper} {Q2 : Exit → Act → World → Prop} (hq : ∀ e a w, Q e a w → Q2 e a w) (k : W P ops Q n l ds os w) : W P ops Q2 n l ds os w := by
  unfold W at *
  have key : ∀ (os : List Oper) (a : Act) (w : World), wpList P ops Q os a w → wpList P ops Q2 os a w := by
    intro os
    induction os with
    | nil => intro a w h; exact hq _ _ _ h
    | cons o os ih =>
      intro a w h
      simp only [wpList] at h ⊢
      split
      · rename_i hw
        rw [if_pos hw] at h
        rcases h with h | ⟨h1, a0, w0, h2⟩
        · left
          unfold Oper.wp at *
          generalize (execOp a.eval o).run P w = r at *
          cases r with
          | ok x w1 =>
            cases x with
            | value v => exact ih _ _ h
            | skip => exact ih _ _ h
            | defer d => exact ih _ _ h
            | enter f args =>
              refine Calls.mono h ?_
              intro e w2 h2
              cases e with
              | returned v => exact ih _ _ h2
              | panicked c => exact hq _ _ _ h2
              | outgrown =>
                obtain ⟨a0, w0, h3⟩ := h2
                exact ⟨a0, w0, hq _ _ _ h3⟩
            | row r as => exact Rows.mono h fun v w2 h2 => ih _ _ h2
            | _ => exact h
          | halt x w1 =>
            cases x with
            | panic v => exact hq _ _ _ h
            | _ => exact h
        · right
          exact ⟨h1, a0, w0, hq _ _ _ h2⟩
      · rename_i hw
        rw [if_neg hw] at h
        exact ih _ _ h
  exact key os _ w k
theorem cw_mono {c : Code} {Q2 : Exit → Act → World → Prop} (hq : ∀ e a w, Q e a w → Q2 e a w) (k : CW P Q n l ds c w) : CW P Q2 n l ds c w := by
  unfold CW at *; exact wp_mono k hq
theorem th_mono {y : Code} {Q2 : Exit → Act → World → Prop} (hq : ∀ e a w, Q e a w → Q2 e a w) : ∀ e a w, Th P y Q e a w → Th P y Q2 e a w := by
  intro e a w h
  unfold Th at *
  cases e with
  | normal => exact wp_mono h hq
  | exit id => exact hq _ _ _ h
  | goto l => exact hq _ _ _ h
  | ret => exact hq _ _ _ h
  | panic c => exact hq _ _ _ h
  | outgrown => exact hq _ _ _ h
theorem bk_mono {id : Nat} {Q2 : Exit → Act → World → Prop} (hq : ∀ e a w, Q e a w → Q2 e a w) : ∀ e a w, Bk id Q e a w → Bk id Q2 e a w := by
  intro e a w h
  unfold Bk at *
  cases e with
  | normal => exact hq _ _ _ h
  | exit i =>
    simp only [Exit.inBlock] at *
    split
    · rename_i e; rw [if_pos e] at h; exact hq _ _ _ h
    · rename_i e; rw [if_neg e] at h; exact hq _ _ _ h
  | goto l => exact hq _ _ _ h
  | ret => exact hq _ _ _ h
  | panic c => exact hq _ _ _ h
  | outgrown => exact hq _ _ _ h
theorem ct_th {l0 : List (Nat × Value)} {D E : List Nat} {R : List Value → World → Prop} {y : Code} (h2 : ∀ vs u w', R vs w' → CW P Q n (zp D vs ++ cn E u l0) ds y w') : ∀ e a w, Ct n l0 ds D E R Q e a w → Th P y Q e a w := by
  intro e a w hq
  unfold Ct at hq
  unfold Th
  cases e with
  | normal =>
    obtain ⟨l2, rfl, ho2, hR⟩ := hq
    have := h2 _ (lk l2) w hR
    unfold CW at this
    rw [← ho2.form] at this
    exact this
  | exit id => exact hq
  | goto l => exact hq
  | ret => exact hq
  | panic c => exact hq
  | outgrown => exact hq
/-- cuts within a walk: what stands behind (one piece, or two, from here) is walked once -/
theorem w_cut1 (D E : List Nat) (R : List Value → World → Prop) {os : List Oper} {y : Code} (k : W P ops (Ct n l ds D E R Q) n l ds os w)
    (h2 : ∀ vs u w', R vs w' → CW P Q n (zp D vs ++ cn E u l) ds y w') : W P ops (Th P y Q) n l ds os w := w_mono (ct_th h2) k
theorem w_cut2 (D E : List Nat) (R : List Value → World → Prop) {os : List Oper} {x y : Code} (k : W P ops (Th P x (Ct n l ds D E R Q)) n l ds os w)
    (h2 : ∀ vs u w', R vs w' → CW P Q n (zp D vs ++ cn E u l) ds y w') : W P ops (Th P x (Th P y Q)) n l ds os w := w_mono (th_mono (ct_th h2)) k
theorem c_cut2 (D E : List Nat) (R : List Value → World → Prop) {c x y : Code} (k : CW P (Th P x (Ct n l ds D E R Q)) n l ds c w)
    (h2 : ∀ vs u w', R vs w' → CW P Q n (zp D vs ++ cn E u l) ds y w') : CW P (Th P x (Th P y Q)) n l ds c w := cw_mono (th_mono (ct_th h2)) k
theorem c_cut1 (D E : List Nat) (R : List Value → World → Prop) {c y : Code} (k : CW P (Ct n l ds D E R Q) n l ds c w)
    (h2 : ∀ vs u w', R vs w' → CW P Q n (zp D vs ++ cn E u l) ds y w') : CW P (Th P y Q) n l ds c w := cw_mono (ct_th h2) k

/-! ### calls -/
def ini : Nat → List Value → List (Nat × Value)
  | _, [] => []
  | i, v :: r => (i, v) :: ini (i + 1) r
theorem lk_ini : ∀ (vs : List Value) (k i : Nat), lk (ini k vs) i = if k ≤ i then vs.getD (i - k) undef else undef
  | [], k, i => by simp [ini, lk]
  | v :: r, k, i => by
    show lk ((k, v) :: ini (k + 1) r) i = _
    rw [lk_cons, lk_ini r (k + 1) i]
    by_cases h : k = i
    · subst h; simp
    · by_cases h2 : k ≤ i
      · have h3 : k + 1 ≤ i := by omega
        have h4 : i - k = (i - (k + 1)) + 1 := by omega
        rw [if_neg h, if_pos h3, if_pos h2, h4]
        simp
      · rw [if_neg h, if_neg (by omega), if_neg h2]

theorem calls_in {f : FuncId} {fn : Func} {c : Code} {args : List Value} {R : Value → World → Prop} (hf : P.funcs[f]? = some fn) (hb : fn.body = some c) (hn : fn.ntmps = n) (ha : Nat.ble args.length n = true)
    (k : CW P (Bd P fn R) n (ini 0 args) [] c w) : Ret P f args w R := by
  unfold Ret
  refine calls_of_wp hf hb ?_
  unfold CW at k
  have he : ({ tmps := args.toArray ++ Array.replicate (fn.ntmps - args.toArray.size) undef, defers := [] } : Act) = fr n (ini 0 args) [] := by
    have hl : args.length ≤ n := by simpa using ha
    simp only [fr, Act.mk.injEq, and_true]
    apply Array.ext
    · simp [hn]; omega
    · intro i h1 h2
      simp at h1 h2
      simp only [Array.getElem_map, Array.getElem_range, lk_ini]
      rw [Array.getElem_append]
      by_cases hi : i < args.length
      · simp [hi, List.getD]
      · simp [hi, List.getD]
  rw [he]
  exact k

theorem Ret.mono {f : FuncId} {args : List Value} {R R' : Value → World → Prop} (h : Ret P f args w R) (hr : ∀ v w', R v w' → R' v w') : Ret P f args w R' := by
  unfold Ret at *
  exact Calls.mono h fun e w' ⟨v, he, hR⟩ => ⟨v, he, hr _ _ hR⟩

def CallIn (P : Program) (f : FuncId) : Prop := ∀ (args : Array Value) (w : World), (callFunc f args).run P w = .ok (.enter f args) w

theorem run_call {f : FuncId} (hcall : CallIn P f) (ρ : Operand → Value) (as : Array Operand) (ats : Array TypeId) (ty : TypeId) (pos : String) (dst : Option Tmp) (aft : Array Edge) (g : Option (Nat × Bool)) (w : World) {fv : Operand} {first captured : Array Value} (hfv : ρ fv = .func (.func f) first captured) :
    (execOp ρ ⟨dst, .call { callee := .value fv, args := as, argTypes := ats }, ty, pos, aft, g⟩).run P w = .ok (.enter f (first ++ as.map ρ ++ captured)) w := by
  simp [execOp, resolve, Deferred.ofValue, invoke, hfv, hcall (first ++ (as.map ρ ++ captured)) w]

theorem w_call {f : FuncId} {as : Array Operand} {ats : Array TypeId} {R : Value → World → Prop} (hcall : CallIn P f) (hr : Ret P f (as.toList.map (ev n l)) w R) (hd : Nat.blt d n = true)
    (k : ∀ v w', R v w' → W P ops Q n ((d, v) :: l) ds rest w') :
    W P ops Q n l ds (⟨some d, .call { callee := .value (.func f), args := as, argTypes := ats }, ty, pos, aft, none⟩ :: rest) w := by
  unfold W at *
  unfold Ret at hr
  refine wpList_plain rfl fun K hK => ?_
  unfold Oper.wp
  rw [fr_eval, run_call hcall (ev n l) as ats ty pos (some d) aft none w (fv := .func f) (first := #[]) (captured := #[]) rfl]
  simp only [Oper.upon]
  have e : (#[] ++ as.map (ev n l) ++ #[] : Array Value) = (as.toList.map (ev n l)).toArray := by apply Array.ext'; simp
  rw [e]
  refine hr.mono ?_
  rintro e w2 ⟨v, rfl, hR⟩
  have := k v w2 hR
  show K _ _
  rw [fr_put d v hd]
  exact hK _ _ this

/-- a call of a function value (a closure), its captured places behind the arguments -/
theorem w_callv {f : FuncId} {fv : Operand} {first captured : Array Value} {as : Array Operand} {ats : Array TypeId} {R : Value → World → Prop} (hfv : ev n l fv = .func (.func f) first captured) (hcall : CallIn P f) (hr : Ret P f (first.toList ++ as.toList.map (ev n l) ++ captured.toList) w R) (hd : Nat.blt d n = true)
    (k : ∀ v w', R v w' → W P ops Q n ((d, v) :: l) ds rest w') :
    W P ops Q n l ds (⟨some d, .call { callee := .value fv, args := as, argTypes := ats }, ty, pos, aft, none⟩ :: rest) w := by
  unfold W at *
  unfold Ret at hr
  refine wpList_plain rfl fun K hK => ?_
  unfold Oper.wp
  rw [fr_eval, run_call hcall (ev n l) as ats ty pos (some d) aft none w hfv]
  simp only [Oper.upon]
  have e : (first ++ as.map (ev n l) ++ captured : Array Value) = (first.toList ++ as.toList.map (ev n l) ++ captured.toList).toArray := by apply Array.ext'; simp
  rw [e]
  refine hr.mono ?_
  rintro e w2 ⟨v, rfl, hR⟩
  have := k v w2 hR
  show K _ _
  rw [fr_put d v hd]
  exact hK _ _ this

/-! ### the end -/
theorem r_ret1 {fn : Func} {R : Value → World → Prop} {t : Tmp} (hres : fn.results = #[.tmp t]) (ht : Nat.blt t n = true) (k : R (lk l t) w) : EW (Bd P fn R) n l [] .ret w := by
  unfold EW Bd
  exact bodyPost_ret (results_tmp hres _ _ _) rfl ⟨_, rfl, by rw [fr_getD t (by simpa using ht)]; exact k⟩
theorem r_ret2 {fn : Func} {R : Value → World → Prop} {t u : Tmp} (hres : fn.results = #[.tmp t, .tmp u]) (ht : (Nat.blt t n && Nat.blt u n) = true) (k : R (.tuple #[lk l t, lk l u]) w) : EW (Bd P fn R) n l [] .ret w := by
  unfold EW Bd
  simp only [Bool.and_eq_true] at ht
  exact bodyPost_ret (results_tmp2 hres _ _ _) rfl ⟨_, rfl, by rw [fr_getD t (by simpa using ht.1), fr_getD u (by simpa using ht.2)]; exact k⟩
theorem results_tmp3' {fn : Func} {t u v : Tmp} (h : fn.results = #[.tmp t, .tmp u, .tmp v]) (tmps : Array Value) (P : Program) (w : World) :
    (results fn tmps).run P w = .ok (.tuple #[tmps.getD t undef, tmps.getD u undef, tmps.getD v undef]) w := by simp [results, h]
theorem r_ret3 {fn : Func} {R : Value → World → Prop} {t u x : Tmp} (hres : fn.results = #[.tmp t, .tmp u, .tmp x]) (ht : (Nat.blt t n && Nat.blt u n && Nat.blt x n) = true) (k : R (.tuple #[lk l t, lk l u, lk l x]) w) : EW (Bd P fn R) n l [] .ret w := by
  unfold EW Bd
  simp only [Bool.and_eq_true] at ht
  exact bodyPost_ret (results_tmp3' hres _ _ _) rfl ⟨_, rfl, by rw [fr_getD t (by simpa using ht.1.1), fr_getD u (by simpa using ht.1.2), fr_getD x (by simpa using ht.2)]; exact k⟩
/-- results of which the first lies in memory -/
theorem r_retC3 {fn : Func} {R : Value → World → Prop} {a t u x : Nat} {ad : Addr} {cs : Array Value} (hres : fn.results = #[.cell a t, .tmp u, .tmp x]) (ha : ev n l (.tmp a) = .pointer (some ad)) (hl : (loadVar t ad).run P w = .ok (.agg cs) w) (ht : (Nat.blt a n && Nat.blt u n && Nat.blt x n) = true) (k : R (.tuple #[.agg cs, lk l u, lk l x]) w) : EW (Bd P fn R) n l [] .ret w := by
  unfold EW Bd
  simp only [Bool.and_eq_true] at ht
  have h1 : (fr n l ([] : List Deferred)).tmps.getD a undef = .pointer (some ad) := by
    rw [fr_getD a (by simpa using ht.1.1)]
    simp only [ev, ht.1.1, cond_true] at ha
    exact ha
  have h2 := fr_getD (l := l) (ds := ([] : List Deferred)) u (by simpa using ht.1.2)
  have h3 := fr_getD (l := l) (ds := ([] : List Deferred)) x (by simpa using ht.2)
  rw [Array.getD_eq_getD_getElem?] at h1 h2 h3
  refine bodyPost_ret (v := .tuple #[.agg cs, lk l u, lk l x]) ?_ rfl ⟨_, rfl, k⟩
  simp [results, hres, h1, h2, h3, asAddr, hl]
theorem r_end0 {fn : Func} {R : Value → World → Prop} (hres : fn.results = #[]) (k : R (.tuple #[]) w) : EW (Bd P fn R) n l [] .normal w := by
  unfold EW Bd
  exact bodyPost_end (results_none hres _ _ _) rfl ⟨_, rfl, k⟩
theorem r_ret0 {fn : Func} {R : Value → World → Prop} (hres : fn.results = #[]) (k : R (.tuple #[]) w) : EW (Bd P fn R) n l [] .ret w := by
  unfold EW Bd
  exact bodyPost_ret (results_none hres _ _ _) rfl ⟨_, rfl, k⟩

/-! ### a region that draws its order and only reads: one walk, at a class C of worlds -/
@[irreducible] def WQ (P : Program) (ops : Array Oper) (C : World → Prop) (Q : Act → Prop) (n : Nat) (l : List (Nat × Value)) (ds : List Deferred) (os : List Oper) : Prop := wpQuiet P ops C Q os (fr n l ds)
def QQ (C : World → Prop) (Q : Exit → Act → World → Prop) : Act → Prop := fun a => ∀ w, C w → Q .normal a w
variable {C : World → Prop} {K : Act → Prop}
theorem c_quiet (C : World → Prop) {id : Nat} {os : List Oper} (hm : P.follows .mixedOrders = true) (hB : Region.lexB .any os.toArray = true) (hC : C w.drew) (k : WQ P os.toArray C (QQ C Q) n l ds os) :
    CW P Q n l ds (.region id os.toArray true) w := by
  unfold CW; unfold WQ QQ at k
  exact wp_region_quiet (C := C) hm hB hC (by simpa using k)
theorem q_nil (k : ∀ w, C w → EW Q n l ds .normal w) : WQ P ops C (QQ C Q) n l ds [] := by
  unfold WQ QQ; unfold EW at k
  exact wpQuiet_nil k
theorem q_op (h : ∀ w, C w → Op1 P (ev n l) op ty w v) (hd : Nat.blt d n = true) (k : WQ P ops C K n ((d, v) :: l) ds rest) :
    WQ P ops C K n l ds (⟨some d, op, ty, pos, aft, none⟩ :: rest) := by
  unfold WQ at *
  simp only [wpQuiet, Region.wanted, if_true]
  refine ⟨v, fun w hw => ?_, ?_⟩
  · have := h w hw
    unfold Op1 at this
    unfold Oper.quietAt
    rw [fr_eval, this]
    exact ⟨rfl, rfl⟩
  · rw [fr_put d v hd]; exact k
theorem q_call {f : FuncId} {as : Array Operand} {ats : Array TypeId} (hcall : CallIn P f) (v : Value) (hr : ∀ w, C w → Ret P f (as.toList.map (ev n l)) w fun v' w' => v' = v ∧ C w') (hd : Nat.blt d n = true)
    (k : WQ P ops C K n ((d, v) :: l) ds rest) :
    WQ P ops C K n l ds (⟨some d, .call { callee := .value (.func f), args := as, argTypes := ats }, ty, pos, aft, none⟩ :: rest) := by
  unfold WQ at *
  simp only [wpQuiet, Region.wanted, if_true]
  refine ⟨v, fun w hw => ?_, ?_⟩
  · have hr := hr w hw
    unfold Ret at hr
    unfold Oper.quietAt
    rw [fr_eval, run_call hcall (ev n l) as ats ty pos (some d) aft none w (fv := .func f) (first := #[]) (captured := #[]) rfl]
    have e : (#[] ++ as.map (ev n l) ++ #[] : Array Value) = (as.toList.map (ev n l)).toArray := by apply Array.ext'; simp
    rw [e]
    refine ⟨rfl, hr.mono ?_⟩
    rintro e w2 ⟨v', rfl, rfl, hC⟩
    exact ⟨rfl, hC⟩
  · rw [fr_put d v hd]; exact k
theorem q_on {dst : Option Tmp} {j : Nat} {b : Bool} (hy : yl n l ops j = some b) (k : WQ P ops C K n l ds (⟨dst, op, ty, pos, aft, none⟩ :: rest)) :
    WQ P ops C K n l ds (⟨dst, op, ty, pos, aft, some (j, b)⟩ :: rest) := by
  unfold WQ at *
  simp only [wpQuiet, Region.wanted, yl_eq, hy, beq_self_eq_true, if_true] at *
  exact k
theorem q_off {j : Nat} {b : Bool} (hy : yl n l ops j = some (!b)) (hd : Nat.blt d n = true) (k : WQ P ops C K n ((d, undef) :: l) ds rest) :
    WQ P ops C K n l ds (⟨some d, op, ty, pos, aft, some (j, b)⟩ :: rest) := by
  unfold WQ at *
  have h : ((some (!b) : Option Bool) == some b) = false := by cases b <;> rfl
  simp only [wpQuiet, Region.wanted, yl_eq, hy, h]
  rw [fr_put d undef hd]
  exact k
theorem q_off2 {j : Nat} {b : Bool} (hy : yl n l ops j = none) (hd : Nat.blt d n = true) (k : WQ P ops C K n ((d, undef) :: l) ds rest) :
    WQ P ops C K n l ds (⟨some d, op, ty, pos, aft, some (j, b)⟩ :: rest) := by
  unfold WQ at *
  have h : ((none : Option Bool) == some b) = false := by cases b <;> rfl
  simp only [wpQuiet, Region.wanted, yl_eq, hy, h]
  rw [fr_put d undef hd]
  exact k
theorem q_bool (t : Nat) {b : Bool} {os : List Oper} (hv : lk l t = .bool b) (ht : b = true → WQ P ops C K n ((t, .bool true) :: l) ds os) (hf : b = false → WQ P ops C K n ((t, .bool false) :: l) ds os) :
    WQ P ops C K n l ds os := by
  unfold WQ at *
  have he : fr n l ds = fr n ((t, .bool b) :: l) ds := by
    apply fr_ext
    intro i _
    rw [lk_cons]
    split
    · rename_i h; subst h; exact hv
    · rfl
  rw [he]
  cases b with
  | true => exact ht rfl
  | false => exact hf rfl
end
end Go.Proofs.YtmgheamdboiklaaDoor
