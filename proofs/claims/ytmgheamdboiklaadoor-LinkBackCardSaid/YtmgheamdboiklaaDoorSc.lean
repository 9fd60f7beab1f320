/- SHORT CIRCUITS, and regions that draw their order and only read: walked by themselves. General: no program in it. -/
import Derived.Test.YtmgheamdboiklaaDoorMem
import Derived.Test.YtmgheamdboiklaaDoorMix
set_option linter.unusedVariables false
set_option linter.unusedSimpArgs false
namespace Go.Proofs.YtmgheamdboiklaaDoor
open Go.RowKit

/-- os is pre, up to the choice that hangs on slot t, and rest; the choice's slot is d, the other slots written in pre are E -/
inductive Seg (t : Nat) : List Oper → List Oper → List Oper → List Nat → Nat → Prop
  | pick {d : Nat} {a b : Operand} {ty : TypeId} {pos : String} {aft : Array Edge} {g : Option (Nat × Bool)} {rest : List Oper} : Seg t (⟨some d, .pick (.tmp t) a b, ty, pos, aft, g⟩ :: rest) [⟨some d, .pick (.tmp t) a b, ty, pos, aft, g⟩] rest [] d
  | op {s d : Nat} {op : Op} {ty : TypeId} {pos : String} {aft : Array Edge} {g : Option (Nat × Bool)} {os pre rest : List Oper} {E : List Nat} : Seg t os pre rest E d → Seg t (⟨some s, op, ty, pos, aft, g⟩ :: os) (⟨some s, op, ty, pos, aft, g⟩ :: pre) rest (s :: E) d
  | op0 {d : Nat} {op : Op} {ty : TypeId} {pos : String} {aft : Array Edge} {g : Option (Nat × Bool)} {os pre rest : List Oper} {E : List Nat} : Seg t os pre rest E d → Seg t (⟨none, op, ty, pos, aft, g⟩ :: os) (⟨none, op, ty, pos, aft, g⟩ :: pre) rest E d
theorem Seg.eq {t : Nat} {os pre rest : List Oper} {E : List Nat} {d : Nat} (h : Seg t os pre rest E d) : os = pre ++ rest := by
  induction h with
  | pick => rfl
  | op _ ih => rw [ih]; rfl
  | op0 _ ih => rw [ih]; rfl
def gslot (ops : Array Oper) (j : Nat) : Option Nat := match ops[j]? with | some o => o.dst | none => none
theorem blt_eq {a b : Nat} (h : a < b) : Nat.blt a b = true := by simpa using h

def readsB : List Oper → Bool
  | [] => true
  | o :: os => (match o.op with
    | .call c => (match c.callee with | .builtin .len => true | .builtin .min => true | .builtin .max => true | .builtin .cap => true | _ => false)
    | .store .. => false
    | .alloc .. => false
    | .box .. => false
    | .buildSlice .. => false
    | .next .. => false
    | .range .. => false
    | .convert .. => false
    | _ => true) && readsB os

section
variable {P : Program} {ops : Array Oper} {Q : Exit → Act → World → Prop} {n : Nat} {l : List (Nat × Value)} {ds : List Deferred} {rest : List Oper} {w w' : World}
variable {op : Op} {ty : TypeId} {pos : String} {aft : Array Edge} {v : Value} {d : Nat}

/-- behind the first operations of a region: the others -/
def Md (P : Program) (ops : Array Oper) (Q : Exit → Act → World → Prop) (os : List Oper) : Exit → Act → World → Prop := fun e a w =>
  match e with
  | .normal => wpList P ops Q os a w
  | e => Q e a w
theorem wpList_cat {os2 : List Oper} (hg : LetsOut (Md P ops Q os2) → LetsOut Q) : ∀ (os : List Oper) (a : Act) (w : World), wpList P ops (Md P ops Q os2) os a w → wpList P ops Q (os ++ os2) a w := by
  intro os
  induction os with
  | nil => intro a w h; exact h
  | cons o os ih =>
    intro a w h
    simp only [wpList, List.cons_append] at h ⊢
    split
    · rename_i hw
      rw [if_pos hw] at h
      rcases h with h | ⟨h1, h2⟩
      · left
        unfold Oper.wp at *
        generalize (execOp a.eval o).run P w = r at *
        cases r with
        | ok x w1 =>
          cases x with
          | value v => exact ih _ _ h
          | skip => exact ih _ _ h
          | defer d => exact ih _ _ h
          | enter f args =>
            refine Calls.mono h ?_
            intro e w2 h2
            cases e with
            | returned v => exact ih _ _ h2
            | panicked c => exact h2
            | outgrown =>
              obtain ⟨a0, w0, h3⟩ := h2
              exact ⟨a0, w0, h3⟩
          | row r as => exact Rows.mono h fun v w2 h2 => ih _ _ h2
          | _ => exact h
        | halt x w1 =>
          cases x with
          | panic v => exact h
          | _ => exact h
      · right
        exact ⟨h1, hg h2⟩
    · rename_i hw
      rw [if_neg hw] at h
      exact ih _ _ h
theorem md_out {os2 : List Oper} : LetsOut (Md P ops Q os2) → LetsOut Q := by
  rintro ⟨a, w, h⟩
  exact ⟨a, w, h⟩

/-- what a short circuit must come to: the choice's value is x, the world is as before -/
@[irreducible] def Sc (n : Nat) (l : List (Nat × Value)) (ds : List Deferred) (d : Nat) (E : List Nat) (x : Bool) (w0 : World) : Exit → Act → World → Prop := fun e a w =>
  e = .normal ∧ w = w0 ∧ ∃ l', a = fr n l' ds ∧ Over [d] E l l' ∧ lk l' d = .bool x
theorem e_sc {l' : List (Nat × Value)} {E : List Nat} {x : Bool} (ho : Over [d] E l l') (hx : lk l' d = .bool x) : EW (Sc n l ds d E x w) n l' ds .normal w := by
  unfold EW Sc; exact ⟨rfl, rfl, l', rfl, ho, hx⟩
theorem w_slot (t : Nat) {b : Value} {os : List Oper} (hv : lk l t = b) (k : W P ops Q n ((t, b) :: l) ds os w) : W P ops Q n l ds os w := by
  unfold W at *
  have he : fr n l ds = fr n ((t, b) :: l) ds := by
    apply fr_ext
    intro i _
    rw [lk_cons]
    split
    · rename_i h; subst h; exact hv
    · rfl
  rw [he]; exact k
theorem w_sc {t : Nat} {x y : Bool} {E : List Nat} {os pre : List Oper} (hs : Seg t os pre rest E d) (h1 : W P ops (Sc n l ds d (t :: E) x w) n l ds pre w) (hxy : x = y)
    (h2 : ∀ u, W P ops Q n ((d, .bool y) :: cn (t :: E) u l) ds rest w) : W P ops Q n l ds os w := by
  subst hxy
  rw [hs.eq]
  have h3 : W P ops (Md P ops Q rest) n l ds pre w := by
    refine w_mono ?_ h1
    intro e a w' h
    unfold Sc at h
    obtain ⟨rfl, rfl, l', rfl, ho, hx⟩ := h
    have := h2 (lk l')
    unfold W at this
    show wpList P ops Q rest (fr n l' ds) w'
    rw [ho.form]
    show wpList P ops Q rest (fr n ((d, lk l' d) :: cn (t :: E) (lk l') l) ds) w'
    rw [hx]
    exact this
  unfold W at *
  exact wpList_cat md_out _ _ _ h3
theorem w_or {j t : Nat} {g x : Bool} {E : List Nat} {os pre : List Oper} {dst : Option Tmp} (hj : gslot ops j = some t) (hv : lk l t = .bool g) (hs : Seg t (⟨dst, op, ty, pos, aft, some (j, false)⟩ :: os) pre rest E d)
    (h1 : g = false → W P ops (Sc n l ds d (t :: E) x w) n ((t, .bool false) :: l) ds pre w) (h0 : g = true → W P ops (Sc n l ds d (t :: E) true w) n ((t, .bool true) :: l) ds pre w)
    (h2 : ∀ u, W P ops Q n ((d, .bool (g || x)) :: cn (t :: E) u l) ds rest w) : W P ops Q n l ds (⟨dst, op, ty, pos, aft, some (j, false)⟩ :: os) w := by
  cases hg : g with
  | false => subst hg; exact w_sc hs (w_slot t hv (h1 rfl)) (by simp) h2
  | true => subst hg; exact w_sc hs (w_slot t hv (h0 rfl)) (by simp) h2
theorem w_and {j t : Nat} {g x : Bool} {E : List Nat} {os pre : List Oper} {dst : Option Tmp} (hj : gslot ops j = some t) (hv : lk l t = .bool g) (hs : Seg t (⟨dst, op, ty, pos, aft, some (j, true)⟩ :: os) pre rest E d)
    (h1 : g = true → W P ops (Sc n l ds d (t :: E) x w) n ((t, .bool true) :: l) ds pre w) (h0 : g = false → W P ops (Sc n l ds d (t :: E) false w) n ((t, .bool false) :: l) ds pre w)
    (h2 : ∀ u, W P ops Q n ((d, .bool (g && x)) :: cn (t :: E) u l) ds rest w) : W P ops Q n l ds (⟨dst, op, ty, pos, aft, some (j, true)⟩ :: os) w := by
  cases hg : g with
  | false => subst hg; exact w_sc hs (w_slot t hv (h0 rfl)) (by simp) h2
  | true => subst hg; exact w_sc hs (w_slot t hv (h1 rfl)) (by simp) h2
theorem w_ord {j t : Nat} {p : Prop} {ip : Decidable p} {x : Bool} {E : List Nat} {os pre : List Oper} {dst : Option Tmp} (hj : gslot ops j = some t) (hv : lk l t = .bool (decide p)) (hs : Seg t (⟨dst, op, ty, pos, aft, some (j, false)⟩ :: os) pre rest E d) (hr : readsB pre = true)
    (h1 : ¬ p → W P ops (Sc n l ds d (t :: E) x w) n ((t, .bool false) :: l) ds pre w) (h0 : p → W P ops (Sc n l ds d (t :: E) true w) n ((t, .bool true) :: l) ds pre w)
    (h2 : ∀ u, W P ops Q n ((d, .bool (decide p || x)) :: cn (t :: E) u l) ds rest w) : W P ops Q n l ds (⟨dst, op, ty, pos, aft, some (j, false)⟩ :: os) w :=
  w_or hj hv hs (fun h => h1 (of_decide_eq_false h)) (fun h => h0 (of_decide_eq_true h)) h2
theorem w_andd {j t : Nat} {p : Prop} {ip : Decidable p} {x : Bool} {E : List Nat} {os pre : List Oper} {dst : Option Tmp} (hj : gslot ops j = some t) (hv : lk l t = .bool (decide p)) (hs : Seg t (⟨dst, op, ty, pos, aft, some (j, true)⟩ :: os) pre rest E d) (hr : readsB pre = true)
    (h1 : p → W P ops (Sc n l ds d (t :: E) x w) n ((t, .bool true) :: l) ds pre w) (h0 : ¬ p → W P ops (Sc n l ds d (t :: E) false w) n ((t, .bool false) :: l) ds pre w)
    (h2 : ∀ u, W P ops Q n ((d, .bool (decide p && x)) :: cn (t :: E) u l) ds rest w) : W P ops Q n l ds (⟨dst, op, ty, pos, aft, some (j, true)⟩ :: os) w :=
  w_and hj hv hs (fun h => h1 (of_decide_eq_true h)) (fun h => h0 (of_decide_eq_false h)) h2
theorem w_orn {j t : Nat} {p : Prop} {ip : Decidable p} {x : Bool} {E : List Nat} {os pre : List Oper} {dst : Option Tmp} (hj : gslot ops j = some t) (hv : lk l t = .bool (!decide p)) (hs : Seg t (⟨dst, op, ty, pos, aft, some (j, false)⟩ :: os) pre rest E d) (hr : readsB pre = true)
    (h1 : p → W P ops (Sc n l ds d (t :: E) x w) n ((t, .bool false) :: l) ds pre w) (h0 : ¬ p → W P ops (Sc n l ds d (t :: E) true w) n ((t, .bool true) :: l) ds pre w)
    (h2 : ∀ u, W P ops Q n ((d, .bool (!decide p || x)) :: cn (t :: E) u l) ds rest w) : W P ops Q n l ds (⟨dst, op, ty, pos, aft, some (j, false)⟩ :: os) w :=
  w_or hj hv hs (fun h => h1 (by simpa using h)) (fun h => h0 (by simpa using h)) h2
theorem w_andn {j t : Nat} {p : Prop} {ip : Decidable p} {x : Bool} {E : List Nat} {os pre : List Oper} {dst : Option Tmp} (hj : gslot ops j = some t) (hv : lk l t = .bool (!decide p)) (hs : Seg t (⟨dst, op, ty, pos, aft, some (j, true)⟩ :: os) pre rest E d) (hr : readsB pre = true)
    (h1 : ¬ p → W P ops (Sc n l ds d (t :: E) x w) n ((t, .bool true) :: l) ds pre w) (h0 : p → W P ops (Sc n l ds d (t :: E) false w) n ((t, .bool false) :: l) ds pre w)
    (h2 : ∀ u, W P ops Q n ((d, .bool (!decide p && x)) :: cn (t :: E) u l) ds rest w) : W P ops Q n l ds (⟨dst, op, ty, pos, aft, some (j, true)⟩ :: os) w :=
  w_and hj hv hs (fun h => h1 (by simpa using h)) (fun h => h0 (by simpa using h)) h2
theorem w_orA {j t : Nat} {g x : Bool} {E : List Nat} {os pre : List Oper} {dst : Option Tmp} (hj : gslot ops j = some t) (hv : lk l t = .bool g) (hs : Seg t (⟨dst, op, ty, pos, aft, some (j, false)⟩ :: os) pre rest E d) (hr : readsB pre = true)
    (h1 : g = false → W P ops (Sc n l ds d (t :: E) x w) n ((t, .bool false) :: l) ds pre w) (h0 : g = true → W P ops (Sc n l ds d (t :: E) true w) n ((t, .bool true) :: l) ds pre w)
    (h2 : ∀ u, W P ops Q n ((d, .bool (g || x)) :: cn (t :: E) u l) ds rest w) : W P ops Q n l ds (⟨dst, op, ty, pos, aft, some (j, false)⟩ :: os) w := w_or hj hv hs h1 h0 h2
theorem w_andA {j t : Nat} {g x : Bool} {E : List Nat} {os pre : List Oper} {dst : Option Tmp} (hj : gslot ops j = some t) (hv : lk l t = .bool g) (hs : Seg t (⟨dst, op, ty, pos, aft, some (j, true)⟩ :: os) pre rest E d) (hr : readsB pre = true)
    (h1 : g = true → W P ops (Sc n l ds d (t :: E) x w) n ((t, .bool true) :: l) ds pre w) (h0 : g = false → W P ops (Sc n l ds d (t :: E) false w) n ((t, .bool false) :: l) ds pre w)
    (h2 : ∀ u, W P ops Q n ((d, .bool (g && x)) :: cn (t :: E) u l) ds rest w) : W P ops Q n l ds (⟨dst, op, ty, pos, aft, some (j, true)⟩ :: os) w := w_and hj hv hs h1 h0 h2
/-- a short circuit in which worlds turn: R is kept -/
@[irreducible] def ScW (n : Nat) (l : List (Nat × Value)) (ds : List Deferred) (d : Nat) (E : List Nat) (x : Bool) (R : World → Prop) : Exit → Act → World → Prop := fun e a w =>
  e = .normal ∧ R w ∧ ∃ l', a = fr n l' ds ∧ Over [d] E l l' ∧ lk l' d = .bool x
theorem e_scw {l' : List (Nat × Value)} {E : List Nat} {x : Bool} {R : World → Prop} (ho : Over [d] E l l') (hx : lk l' d = .bool x) (hR : R w) : EW (ScW n l ds d E x R) n l' ds .normal w := by
  unfold EW ScW; exact ⟨rfl, hR, l', rfl, ho, hx⟩
theorem w_scw (R : World → Prop) {t : Nat} {x y : Bool} {E : List Nat} {os pre : List Oper} (hs : Seg t os pre rest E d) (h1 : W P ops (ScW n l ds d (t :: E) x R) n l ds pre w) (hxy : x = y)
    (h2 : ∀ u w', R w' → W P ops Q n ((d, .bool y) :: cn (t :: E) u l) ds rest w') : W P ops Q n l ds os w := by
  subst hxy
  rw [hs.eq]
  have h3 : W P ops (Md P ops Q rest) n l ds pre w := by
    refine w_mono ?_ h1
    intro e a w' h
    unfold ScW at h
    obtain ⟨rfl, hR, l', rfl, ho, hx⟩ := h
    have := h2 (lk l') w' hR
    unfold W at this
    show wpList P ops Q rest (fr n l' ds) w'
    rw [ho.form]
    show wpList P ops Q rest (fr n ((d, lk l' d) :: cn (t :: E) (lk l') l) ds) w'
    rw [hx]
    exact this
  unfold W at *
  exact wpList_cat md_out _ _ _ h3
theorem w_orw (R : World → Prop) {j t : Nat} {g x : Bool} {E : List Nat} {os pre : List Oper} {dst : Option Tmp} (hj : gslot ops j = some t) (hv : lk l t = .bool g) (hs : Seg t (⟨dst, op, ty, pos, aft, some (j, false)⟩ :: os) pre rest E d)
    (h1 : g = false → W P ops (ScW n l ds d (t :: E) x R) n ((t, .bool false) :: l) ds pre w) (h0 : g = true → W P ops (ScW n l ds d (t :: E) true R) n ((t, .bool true) :: l) ds pre w)
    (h2 : ∀ u w', R w' → W P ops Q n ((d, .bool (g || x)) :: cn (t :: E) u l) ds rest w') : W P ops Q n l ds (⟨dst, op, ty, pos, aft, some (j, false)⟩ :: os) w := by
  cases hg : g with
  | false => subst hg; exact w_scw R hs (w_slot t hv (h1 rfl)) (by simp) h2
  | true => subst hg; exact w_scw R hs (w_slot t hv (h0 rfl)) (by simp) h2
theorem w_andw (R : World → Prop) {j t : Nat} {g x : Bool} {E : List Nat} {os pre : List Oper} {dst : Option Tmp} (hj : gslot ops j = some t) (hv : lk l t = .bool g) (hs : Seg t (⟨dst, op, ty, pos, aft, some (j, true)⟩ :: os) pre rest E d)
    (h1 : g = true → W P ops (ScW n l ds d (t :: E) x R) n ((t, .bool true) :: l) ds pre w) (h0 : g = false → W P ops (ScW n l ds d (t :: E) false R) n ((t, .bool false) :: l) ds pre w)
    (h2 : ∀ u w', R w' → W P ops Q n ((d, .bool (g && x)) :: cn (t :: E) u l) ds rest w') : W P ops Q n l ds (⟨dst, op, ty, pos, aft, some (j, true)⟩ :: os) w := by
  cases hg : g with
  | false => subst hg; exact w_scw R hs (w_slot t hv (h0 rfl)) (by simp) h2
  | true => subst hg; exact w_scw R hs (w_slot t hv (h1 rfl)) (by simp) h2

/-! ### the same in a region that draws and only reads -/
variable {C : World → Prop} {K : Act → Prop}
theorem wpQuiet_cat {os2 : List Oper} : ∀ (os : List Oper) (a : Act), wpQuiet P ops C (fun a => wpQuiet P ops C K os2 a) os a → wpQuiet P ops C K (os ++ os2) a := by
  intro os
  induction os with
  | nil => intro a h; exact h
  | cons o os ih =>
    intro a h
    simp only [wpQuiet, List.cons_append] at h ⊢
    split
    · rename_i hw
      rw [if_pos hw] at h
      obtain ⟨v, h1, h2⟩ := h
      exact ⟨v, h1, ih _ h2⟩
    · rename_i hw
      rw [if_neg hw] at h
      exact ih _ h
theorem wq_mono {os : List Oper} {K2 : Act → Prop} (hq : ∀ a, K a → K2 a) (k : WQ P ops C K n l ds os) : WQ P ops C K2 n l ds os := by
  unfold WQ at *
  have key : ∀ (os : List Oper) (a : Act), wpQuiet P ops C K os a → wpQuiet P ops C K2 os a := by
    intro os
    induction os with
    | nil => intro a h; exact hq _ h
    | cons o os ih =>
      intro a h
      simp only [wpQuiet] at h ⊢
      split
      · rename_i hw
        rw [if_pos hw] at h
        obtain ⟨v, h1, h2⟩ := h
        exact ⟨v, h1, ih _ h2⟩
      · rename_i hw
        rw [if_neg hw] at h
        exact ih _ h
  exact key os _ k
@[irreducible] def ScQ (n : Nat) (l : List (Nat × Value)) (ds : List Deferred) (d : Nat) (E : List Nat) (x : Bool) : Act → Prop := fun a =>
  ∃ l', a = fr n l' ds ∧ Over [d] E l l' ∧ lk l' d = .bool x
theorem e_scq {l' : List (Nat × Value)} {E : List Nat} {x : Bool} (ho : Over [d] E l l') (hx : lk l' d = .bool x) : WQ P ops C (ScQ n l ds d E x) n l' ds [] := by
  unfold WQ ScQ; exact wpQuiet_nil ⟨l', rfl, ho, hx⟩
theorem q_slot (t : Nat) {b : Value} {os : List Oper} (hv : lk l t = b) (k : WQ P ops C K n ((t, b) :: l) ds os) : WQ P ops C K n l ds os := by
  unfold WQ at *
  have he : fr n l ds = fr n ((t, b) :: l) ds := by
    apply fr_ext
    intro i _
    rw [lk_cons]
    split
    · rename_i h; subst h; exact hv
    · rfl
  rw [he]; exact k
theorem q_sc {t : Nat} {x y : Bool} {E : List Nat} {os pre : List Oper} (hs : Seg t os pre rest E d) (h1 : WQ P ops C (ScQ n l ds d (t :: E) x) n l ds pre) (hxy : x = y)
    (h2 : ∀ u, WQ P ops C K n ((d, .bool y) :: cn (t :: E) u l) ds rest) : WQ P ops C K n l ds os := by
  subst hxy
  rw [hs.eq]
  have h3 : WQ P ops C (fun a => wpQuiet P ops C K rest a) n l ds pre := by
    refine wq_mono ?_ h1
    intro a h
    unfold ScQ at h
    obtain ⟨l', rfl, ho, hx⟩ := h
    have := h2 (lk l')
    unfold WQ at this
    show wpQuiet P ops C K rest (fr n l' ds)
    rw [ho.form]
    show wpQuiet P ops C K rest (fr n ((d, lk l' d) :: cn (t :: E) (lk l') l) ds)
    rw [hx]
    exact this
  unfold WQ at *
  exact wpQuiet_cat _ _ h3
theorem q_or {j t : Nat} {g x : Bool} {E : List Nat} {os pre : List Oper} {dst : Option Tmp} (hj : gslot ops j = some t) (hv : lk l t = .bool g) (hs : Seg t (⟨dst, op, ty, pos, aft, some (j, false)⟩ :: os) pre rest E d)
    (h1 : g = false → WQ P ops C (ScQ n l ds d (t :: E) x) n ((t, .bool false) :: l) ds pre) (h0 : g = true → WQ P ops C (ScQ n l ds d (t :: E) true) n ((t, .bool true) :: l) ds pre)
    (h2 : ∀ u, WQ P ops C K n ((d, .bool (g || x)) :: cn (t :: E) u l) ds rest) : WQ P ops C K n l ds (⟨dst, op, ty, pos, aft, some (j, false)⟩ :: os) := by
  cases hg : g with
  | false => subst hg; exact q_sc hs (q_slot t hv (h1 rfl)) (by simp) h2
  | true => subst hg; exact q_sc hs (q_slot t hv (h0 rfl)) (by simp) h2
theorem q_and {j t : Nat} {g x : Bool} {E : List Nat} {os pre : List Oper} {dst : Option Tmp} (hj : gslot ops j = some t) (hv : lk l t = .bool g) (hs : Seg t (⟨dst, op, ty, pos, aft, some (j, true)⟩ :: os) pre rest E d)
    (h1 : g = true → WQ P ops C (ScQ n l ds d (t :: E) x) n ((t, .bool true) :: l) ds pre) (h0 : g = false → WQ P ops C (ScQ n l ds d (t :: E) false) n ((t, .bool false) :: l) ds pre)
    (h2 : ∀ u, WQ P ops C K n ((d, .bool (g && x)) :: cn (t :: E) u l) ds rest) : WQ P ops C K n l ds (⟨dst, op, ty, pos, aft, some (j, true)⟩ :: os) := by
  cases hg : g with
  | false => subst hg; exact q_sc hs (q_slot t hv (h0 rfl)) (by simp) h2
  | true => subst hg; exact q_sc hs (q_slot t hv (h1 rfl)) (by simp) h2
theorem q_ord {j t : Nat} {p : Prop} {ip : Decidable p} {x : Bool} {E : List Nat} {os pre : List Oper} {dst : Option Tmp} (hj : gslot ops j = some t) (hv : lk l t = .bool (decide p)) (hs : Seg t (⟨dst, op, ty, pos, aft, some (j, false)⟩ :: os) pre rest E d) (hr : readsB pre = true)
    (h1 : ¬ p → WQ P ops C (ScQ n l ds d (t :: E) x) n ((t, .bool false) :: l) ds pre) (h0 : p → WQ P ops C (ScQ n l ds d (t :: E) true) n ((t, .bool true) :: l) ds pre)
    (h2 : ∀ u, WQ P ops C K n ((d, .bool (decide p || x)) :: cn (t :: E) u l) ds rest) : WQ P ops C K n l ds (⟨dst, op, ty, pos, aft, some (j, false)⟩ :: os) :=
  q_or hj hv hs (fun h => h1 (of_decide_eq_false h)) (fun h => h0 (of_decide_eq_true h)) h2
theorem q_andd {j t : Nat} {p : Prop} {ip : Decidable p} {x : Bool} {E : List Nat} {os pre : List Oper} {dst : Option Tmp} (hj : gslot ops j = some t) (hv : lk l t = .bool (decide p)) (hs : Seg t (⟨dst, op, ty, pos, aft, some (j, true)⟩ :: os) pre rest E d) (hr : readsB pre = true)
    (h1 : p → WQ P ops C (ScQ n l ds d (t :: E) x) n ((t, .bool true) :: l) ds pre) (h0 : ¬ p → WQ P ops C (ScQ n l ds d (t :: E) false) n ((t, .bool false) :: l) ds pre)
    (h2 : ∀ u, WQ P ops C K n ((d, .bool (decide p && x)) :: cn (t :: E) u l) ds rest) : WQ P ops C K n l ds (⟨dst, op, ty, pos, aft, some (j, true)⟩ :: os) :=
  q_and hj hv hs (fun h => h1 (of_decide_eq_true h)) (fun h => h0 (of_decide_eq_false h)) h2
theorem q_orn {j t : Nat} {p : Prop} {ip : Decidable p} {x : Bool} {E : List Nat} {os pre : List Oper} {dst : Option Tmp} (hj : gslot ops j = some t) (hv : lk l t = .bool (!decide p)) (hs : Seg t (⟨dst, op, ty, pos, aft, some (j, false)⟩ :: os) pre rest E d) (hr : readsB pre = true)
    (h1 : p → WQ P ops C (ScQ n l ds d (t :: E) x) n ((t, .bool false) :: l) ds pre) (h0 : ¬ p → WQ P ops C (ScQ n l ds d (t :: E) true) n ((t, .bool true) :: l) ds pre)
    (h2 : ∀ u, WQ P ops C K n ((d, .bool (!decide p || x)) :: cn (t :: E) u l) ds rest) : WQ P ops C K n l ds (⟨dst, op, ty, pos, aft, some (j, false)⟩ :: os) :=
  q_or hj hv hs (fun h => h1 (by simpa using h)) (fun h => h0 (by simpa using h)) h2
theorem q_andn {j t : Nat} {p : Prop} {ip : Decidable p} {x : Bool} {E : List Nat} {os pre : List Oper} {dst : Option Tmp} (hj : gslot ops j = some t) (hv : lk l t = .bool (!decide p)) (hs : Seg t (⟨dst, op, ty, pos, aft, some (j, true)⟩ :: os) pre rest E d) (hr : readsB pre = true)
    (h1 : ¬ p → WQ P ops C (ScQ n l ds d (t :: E) x) n ((t, .bool true) :: l) ds pre) (h0 : p → WQ P ops C (ScQ n l ds d (t :: E) false) n ((t, .bool false) :: l) ds pre)
    (h2 : ∀ u, WQ P ops C K n ((d, .bool (!decide p && x)) :: cn (t :: E) u l) ds rest) : WQ P ops C K n l ds (⟨dst, op, ty, pos, aft, some (j, true)⟩ :: os) :=
  q_and hj hv hs (fun h => h1 (by simpa using h)) (fun h => h0 (by simpa using h)) h2

theorem q_orA {j t : Nat} {g x : Bool} {E : List Nat} {os pre : List Oper} {dst : Option Tmp} (hj : gslot ops j = some t) (hv : lk l t = .bool g) (hs : Seg t (⟨dst, op, ty, pos, aft, some (j, false)⟩ :: os) pre rest E d) (hr : readsB pre = true)
    (h1 : g = false → WQ P ops C (ScQ n l ds d (t :: E) x) n ((t, .bool false) :: l) ds pre) (h0 : g = true → WQ P ops C (ScQ n l ds d (t :: E) true) n ((t, .bool true) :: l) ds pre)
    (h2 : ∀ u, WQ P ops C K n ((d, .bool (g || x)) :: cn (t :: E) u l) ds rest) : WQ P ops C K n l ds (⟨dst, op, ty, pos, aft, some (j, false)⟩ :: os) := q_or hj hv hs h1 h0 h2
theorem q_andA {j t : Nat} {g x : Bool} {E : List Nat} {os pre : List Oper} {dst : Option Tmp} (hj : gslot ops j = some t) (hv : lk l t = .bool g) (hs : Seg t (⟨dst, op, ty, pos, aft, some (j, true)⟩ :: os) pre rest E d) (hr : readsB pre = true)
    (h1 : g = true → WQ P ops C (ScQ n l ds d (t :: E) x) n ((t, .bool true) :: l) ds pre) (h0 : g = false → WQ P ops C (ScQ n l ds d (t :: E) false) n ((t, .bool false) :: l) ds pre)
    (h2 : ∀ u, WQ P ops C K n ((d, .bool (g && x)) :: cn (t :: E) u l) ds rest) : WQ P ops C K n l ds (⟨dst, op, ty, pos, aft, some (j, true)⟩ :: os) := q_and hj hv hs h1 h0 h2
/-! ### a region that draws and only reads, without calls: entered by itself -/
theorem c_read {id : Nat} {os : List Oper} (hm : P.follows .mixedOrders = true) (hr : readsB os = true) (hB : Region.lexB .any os.toArray = true) (k : WQ P os.toArray (fun x => x = w.drew) (QQ (fun x => x = w.drew) Q) n l ds os) :
    CW P Q n l ds (.region id os.toArray true) w := c_quiet (fun x => x = w.drew) hm hB rfl k
theorem r_op (h : Op1 P (ev n l) op ty w v) (hd : Nat.blt d n = true) (k : WQ P ops (fun x => x = w) K n ((d, v) :: l) ds rest) :
    WQ P ops (fun x => x = w) K n l ds (⟨some d, op, ty, pos, aft, none⟩ :: rest) := q_op (fun x hx => hx ▸ h) hd k
theorem r_nil (k : EW Q n l ds .normal w) : WQ P ops (fun x => x = w) (QQ (fun x => x = w) Q) n l ds [] := q_nil (fun x hx => hx ▸ k)

/-- a cut behind x, the first piece of what comes behind this region -/
theorem w_cut3 (D E : List Nat) (R : List Value → World → Prop) {os : List Oper} {x y : Code} (k : W P ops (Th P x (Ct n l ds D E R Q)) n l ds os w)
    (h2 : ∀ vs u w', R vs w' → CW P Q n (zp D vs ++ cn E u l) ds y w') : W P ops (Th P (x.seq y) Q) n l ds os w := by
  refine w_mono ?_ k
  intro e a w' h
  unfold Th at *
  cases e with
  | normal =>
    exact wp_seq (wp_mono h (ct_th h2))
  | exit id => exact h
  | goto l => exact h
  | ret => exact h
  | panic c => exact h
  | outgrown => exact h

theorem w_cut4 (D E : List Nat) (R : List Value → World → Prop) {os : List Oper} {x y z : Code} (k : W P ops (Th P x (Ct n l ds D E R (Th P z Q))) n l ds os w)
    (h2 : ∀ vs u w', R vs w' → CW P (Th P z Q) n (zp D vs ++ cn E u l) ds y w') : W P ops (Th P ((x.seq y).seq z) Q) n l ds os w := by
  have k2 := w_cut3 D E R k h2
  refine w_mono ?_ k2
  intro e a w' h
  unfold Th at *
  cases e with
  | normal => exact wp_seq h
  | exit id => exact h
  | goto l => exact h
  | ret => exact h
  | panic c => exact h
  | outgrown => exact h
/-! ### a region that draws, with calls that only make what is new -/
theorem Cel.bel {w x : World} {a : Addr} {cs : List Value} (hb : Below w.heap.size w x) (h : Cel w a cs) (hc : 0 < cs.length) : Cel x a cs := h.below hb (h.lt hc)
theorem Cel.elem {w : World} {a : Addr} {cs : List Value} {j : Nat} {v : Value} (h : Cel w a cs) (hj : cs[j]? = some v) : Cel w (a.add (j * 1)) [v] := Cel.mk fun i u hi => by
  cases i with
  | zero =>
    simp at hi
    subst hi
    rw [addr_add_zero, Nat.mul_one]
    exact h.cell hj
  | succ i => simp at hi
theorem c_quietB {id : Nat} {os : List Oper} (hm : P.follows .mixedOrders = true) (hB : Region.lexB .any os.toArray = true) (k : WQ P os.toArray (fun x => Below w.heap.size w x) (QQ (fun x => Below w.heap.size w x) Q) n l ds os) :
    CW P Q n l ds (.region id os.toArray true) w := c_quiet (fun x => Below w.heap.size w x) hm hB (Below.refl _ _).drew k
theorem q_callB {w0 : World} {f : FuncId} {as : Array Operand} {ats : Array TypeId} {v : Value} (hcall : CallIn P f) (hr : ∀ w, Below w0.heap.size w0 w → Ret P f (as.toList.map (ev n l)) w fun v' w' => v' = v ∧ Below w.heap.size w w') (hd : Nat.blt d n = true)
    (k : WQ P ops (fun x => Below w0.heap.size w0 x) K n ((d, v) :: l) ds rest) :
    WQ P ops (fun x => Below w0.heap.size w0 x) K n l ds (⟨some d, .call { callee := .value (.func f), args := as, argTypes := ats }, ty, pos, aft, none⟩ :: rest) :=
  q_call hcall v (fun w hw => (hr w hw).mono fun v' w' ⟨h1, h2⟩ => ⟨h1, hw.trans (h2.mono hw.size)⟩) hd k
theorem w_callB {f : FuncId} {as : Array Operand} {ats : Array TypeId} {v : Value} (hcall : CallIn P f) (hr : Ret P f (as.toList.map (ev n l)) w fun v' w' => v' = v ∧ Below w.heap.size w w') (hd : Nat.blt d n = true)
    (k : ∀ w', Below w.heap.size w w' → W P ops Q n ((d, v) :: l) ds rest w') :
    W P ops Q n l ds (⟨some d, .call { callee := .value (.func f), args := as, argTypes := ats }, ty, pos, aft, none⟩ :: rest) w :=
  w_call hcall hr hd (fun v' w' ⟨h1, h2⟩ => by subst h1; exact k w' h2)
theorem w_callS {f : FuncId} {as : Array Operand} {ats : Array TypeId} {v : Value} (hcall : CallIn P f) (hr : Ret P f (as.toList.map (ev n l)) w fun v' w' => w' = w ∧ v' = v) (hd : Nat.blt d n = true)
    (k : W P ops Q n ((d, v) :: l) ds rest w) :
    W P ops Q n l ds (⟨some d, .call { callee := .value (.func f), args := as, argTypes := ats }, ty, pos, aft, none⟩ :: rest) w :=
  w_call hcall hr hd (fun v' w' ⟨h1, h2⟩ => by subst h1 h2; exact k)

/-- an element, said without a proof (for what is said behind a short circuit) -/
theorem Sl.atd {α : Type} {en : α → List Value} {sz : Nat} {w : World} {B : Nat} {v : Value} {l : List α} (h : Sl en sz w B v l) {A : Option Addr} {n c : Nat} (hv : v = .slice A n c) {i : Nat} (hi : i < l.length) (x : α) : ∃ ad, A = some ad ∧ ad.block < B ∧ Cel w (ad.add (i * sz)) (en (l.getD i x)) := by
  obtain ⟨ad, h1, h2, h3⟩ := h.at_ hv hi
  exact ⟨ad, h1, h2, by rw [List.getD_eq_getElem?_getD, List.getElem?_eq_getElem hi]; exact h3⟩
theorem getD_lt {α : Type} {l : List α} {i : Nat} (hi : i < l.length) (x : α) : l.getD i x = l[i] := by rw [List.getD_eq_getElem?_getD, List.getElem?_eq_getElem hi]; rfl

/-! ### rows of the call's own: read and written in place -/
theorem own_blk {w : World} {base e nn sz : Nat} {v : Value} {xs : List Value} (h : w.ownsRow base e sz v nn xs) (hn : 0 < nn) : ∃ g cap cs, v = .slice (some ⟨g, 0, none⟩) nn cap ∧ base ≤ g ∧ Blk w g e cs ∧ nn ≤ cap ∧ cs.length = cap * sz ∧ cs.take (nn * sz) = xs ∧ cap ≤ maxLen := by
  obtain ⟨h1, h2⟩ := h
  rcases h2 with ⟨_, h0⟩ | ⟨g, cap, cur, rfl, hb, hg, hc, hm, hs, ht⟩
  · omega
  · refine ⟨g, cap, cur.toList, rfl, hb, ?_, hc, by simpa using hs, ht, hm⟩
    unfold Blk
    simpa using hg
theorem own_at {w : World} {base e nn : Nat} {v : Value} {xs : List Value} (h : w.ownsRow base e 1 v nn xs) {i : Nat} (hi : i < nn) {x : Value} (hx : xs[i]? = some x) : ∃ g cap, v = .slice (some ⟨g, 0, none⟩) nn cap ∧ Cel w ((⟨g, 0, none⟩ : Addr).add (i * 1)) [x] := by
  obtain ⟨g, cap, cs, hv, _, hb, hc, hl, ht, _⟩ := own_blk h (by omega)
  refine ⟨g, cap, hv, hb.obj0.elem ?_⟩
  rw [← ht, List.getElem?_take] at hx
  split at hx
  · exact hx
  · cases hx
theorem w_storeOwn {t e : TypeId} {a x : Operand} {base nn i : Nat} {v v1 : Value} {xs : List Value} [h : Na P t] (hsz : ∃ by_ z, Inf P t 1 by_ z) (hown : w.ownsRow base e 1 v nn xs) (hi : i < nn) {g cap : Nat} (hv : v = .slice (some ⟨g, 0, none⟩) nn cap)
    {ad : Addr} (ha : ev n l a = .pointer (some ad)) (had : ad = ⟨g, i, none⟩) (hx : ev n l x = v1) (h1 : v1.oneCell' = true)
    (k : ∀ w', w.grownBy w' v.ownBlock → w'.heap.size = w.heap.size → w'.ownsRow base e 1 v nn (xs.set i v1) → W P ops Q n l ds rest w') :
    W P ops Q n l ds (⟨none, .store t a x, ty, pos, aft, none⟩ :: rest) w := by
  obtain ⟨g', cap', cs, hv', hb, hblk, hc, hl, ht, hm⟩ := own_blk hown (by omega)
  rw [hv] at hv'
  injection hv' with e1 e2 e3
  injection e1 with e1
  injection e1 with e1 _ _
  subst e1 e3
  have hlen : i < cs.length := by rw [hl]; omega
  refine w_store (v := v1) (b := g) (j := i) (cs := cs) (old := cs[i]) hsz ha had hx h1 hblk (List.getElem?_eq_getElem hlen) (fun w' hp hb' => ?_)
  have hob : v.ownBlock = some g := by rw [hv]; rfl
  refine k w' (by rw [hob]; exact hp.grown) hp.size ⟨by rw [List.length_set]; exact hown.1, .inr ⟨g, cap, (cs.set i v1).toArray, hv, hb, ?_, hc, hm, by simpa using hl, ?_⟩⟩
  · unfold Blk at hb'; exact hb'
  · show (cs.set i v1).take (nn * 1) = xs.set i v1
    rw [List.take_set, ht]

/-- a cut behind a block -/
theorem c_cutB (D E : List Nat) (R : List Value → World → Prop) {id : Nat} {c y : Code} (k : CW P (Bk id (Ct n l ds D E R Q)) n l ds c w)
    (h2 : ∀ vs u w', R vs w' → CW P Q n (zp D vs ++ cn E u l) ds y w') : CW P (Bk id (Th P y Q)) n l ds c w := cw_mono (bk_mono (ct_th h2)) k

/-! ### branches -/
theorem c_ifd {c : Operand} {x y : Code} {p : Prop} {ip : Decidable p} (hc : ev n l c = .bool (decide p)) (ht : p → CW P Q n l ds x w) (hf : ¬ p → CW P Q n l ds y w) : CW P Q n l ds (.cond c x y) w :=
  c_cond hc (fun h => ht (of_decide_eq_true h)) (fun h => hf (of_decide_eq_false h))
theorem c_ifnd {c : Operand} {x y : Code} {p : Prop} {ip : Decidable p} (hc : ev n l c = .bool (!decide p)) (ht : ¬ p → CW P Q n l ds x w) (hf : p → CW P Q n l ds y w) : CW P Q n l ds (.cond c x y) w :=
  c_cond hc (fun h => ht (by simpa using h)) (fun h => hf (by simpa using h))
theorem c_ifn {c : Operand} {x y : Code} {b : Bool} (hc : ev n l c = .bool (!b)) (ht : b = false → CW P Q n l ds x w) (hf : b = true → CW P Q n l ds y w) : CW P Q n l ds (.cond c x y) w :=
  c_cond hc (fun h => ht (by simpa using h)) (fun h => hf (by simpa using h))
/-- a struct in a struct, loaded -/
theorem p_loadFS {ρ : Operand → Value} {t : TypeId} {x : Operand} {a : Addr} {j sz : Nat} {cs : List Value} [h : Ag P t sz] (hx : ρ x = .pointer (some (a.add j))) (ho : Cel w a cs) (hl : Nat.ble (j + sz) cs.length = true) : Op1 P ρ (.load t x) ty w (.agg ((cs.drop j).take sz).toArray) :=
  p_loadS hx (ho.sub j sz) (by simp at hl ⊢; omega)
end
end Go.Proofs.YtmgheamdboiklaaDoor
