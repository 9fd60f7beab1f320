/- REGIONS THAT DRAW THEIR ORDER AND WRITE: what only reads comes first, what writes behind it. General: no program in it. -/
import Derived.Test.YtmgheamdboiklaaDoorEng
import Derived.OrdersHeld
import Derived.StillTail
set_option linter.unusedVariables false
set_option linter.unusedSimpArgs false
namespace Go.Proofs.YtmgheamdboiklaaDoor
open Go.RowKit

section
variable {P : Program} {ops : Array Oper} {Q : Exit → Act → World → Prop} {md : Region.Mode} {S : World → Prop} {L : Nat}

/-! ### reads and writes that mix; L: the last one -/
def wpAnyM (P : Program) (md : Region.Mode) (ops : Array Oper) (Q : Exit → Act → World → Prop) (S : World → Prop) (L : Nat) : Nat → Array Bool → Act → World → Prop
  | 0, listed, a, w => Region.ready md ops listed = [] ∧ Q .normal a w
  | fuel + 1, listed, a, w =>
    (Region.ready md ops listed = [] → Q .normal a w) ∧
    ∀ i ∈ Region.ready md ops listed, wpOp P ops Q i (fun a' w' => (i = L ∨ S w') ∧ wpAnyM P md ops Q S L fuel (listed.setIfInBounds i true) a' w') a w
theorem wpAny_of_M : ∀ (fuel : Nat) (listed : Array Bool) (a : Act) (w : World), wpAnyM P md ops Q S L fuel listed a w → wpAny P md ops Q fuel listed a w
  | 0, _, _, _, h => h
  | fuel + 1, _, _, _, h => ⟨h.1, fun i hi => wpOp_mono (fun a' w' h' => wpAny_of_M fuel _ a' w' h'.2) (h.2 i hi)⟩

structure Shut (md : Region.Mode) (ops : Array Oper) (listed : Array Bool) : Prop where
  size : listed.size = ops.size
  closed : ∀ j oj, ops[j]? = some oj → listed.getD j false = true → ∀ e ∈ oj.after, Region.binds md e = true → listed.getD e.on false = true
theorem Shut.set {i : Nat} {listed : Array Bool} (inv : Shut md ops listed) (hi : i ∈ Region.ready md ops listed) : Shut md ops (listed.setIfInBounds i true) := by
  obtain ⟨_, oi, hoi, hall⟩ := mem_ready.1 hi
  refine ⟨by simp [inv.size], fun j oj hj hl e he hb => ?_⟩
  by_cases hij : i = j
  · subst hij
    have : oj = oi := Option.some.inj (hj.symm.trans hoi)
    subst this
    exact getD_set_true (hall e he hb)
  · rw [getD_set_ne false hij] at hl
    exact getD_set_true (inv.closed j oj hj hl e he hb)
theorem Shut.start : Shut md ops (Array.replicate ops.size false) := ⟨by simp, fun j oj hj hl => by rw [getD_replicate_false] at hl; cases hl⟩
theorem last_waits {listed : Array Bool} (hs : Region.sinkB md ops L = true) (hn : L + 1 = ops.size) (inv : Shut md ops listed) {i : Nat} (hi : i < L) (hun : listed.getD i true = false) : L ∉ Region.ready md ops listed := by
  intro hr
  have hc : Region.chainB md ops L = true := by
    refine List.all_eq_true.2 fun t ht => ?_
    have := List.mem_range.1 ht
    simp only [Bool.or_eq_true, decide_eq_true_eq]
    left; omega
  have inv' : HeadInv md ops L listed := ⟨inv.size, inv.closed, fun t ht ht' => by
    obtain rfl : t = L := by omega
    exact (mem_ready.1 hr).1⟩
  exact tail_waits hs hc (by omega) inv' _ i rfl hi hun L (Nat.le_refl _) hr

theorem wpAnyM_first {i : Nat} {oi : Oper} {v : Value} (hi : ops[i]? = some oi) (hsel : ∀ (j : Nat) (o : Oper) cs b, ops[j]? = some o → o.op ≠ .select cs b)
    (hQ : ∀ c a w, Q (.panic c) (a.put oi.dst v) w → Q (.panic c) a w) (hs : Region.sinkB md ops L = true) (hn : L + 1 = ops.size) (hiL : i < L) :
    ∀ (fuel : Nat) (listed : Array Bool) (a : Act) (w : World), Shut md ops listed →
      (∀ j oj, ops[j]? = some oj → j ≠ i → listed.getD j true = false → (∀ e ∈ oj.after, Region.binds md e = true → e.on ≠ i) → oi.apart ops oj = true) →
      i ∈ Region.ready md ops listed → YieldsIf P ops S oi v a → S w →
      wpAnyM P md ops Q S L fuel (listed.setIfInBounds i true) (a.put oi.dst v) w → wpAnyM P md ops Q S L (fuel + 1) listed a w := by
  intro fuel
  induction fuel with
  | zero =>
    intro listed a w inv _ hr hy hS H
    refine ⟨fun h => (by rw [h] at hr; cases hr), fun j hj => ?_⟩
    by_cases hji : j = i
    · subst hji; exact hy.wpOp hi hS ⟨.inr hS, H⟩
    · have := ready_mono hj hji
      rw [H.1] at this
      cases this
  | succ fuel ih =>
    intro listed a w inv hfree hr hy hS H
    refine ⟨fun h => (by rw [h] at hr; cases hr), fun j hj => ?_⟩
    by_cases hji : j = i
    · subst hji; exact hy.wpOp hi hS ⟨.inr hS, H⟩
    · have hjL : j ≠ L := fun e => by
        subst e
        exact last_waits hs hn inv hiL (mem_ready.1 hr).1 hj
      have h1 := H.2 j (ready_mono hj hji)
      obtain ⟨hjun, oj, hoj, hall⟩ := mem_ready.1 hj
      have hnot : ∀ e ∈ oj.after, Region.binds md e = true → e.on ≠ i := fun e he hb heq => by
        have h1 := hall e he hb
        have h0 := (mem_ready.1 hr).1
        rw [heq, getD_both h0] at h1
        cases h1
      have h2 := wpOp_putIf hoj (hfree j oj hoj hji hjun hnot) (fun cs b => hsel i oi cs b hi) (fun cs b => hsel j oj cs b hoj) hQ hy h1
      have hfree' : ∀ k ok, ops[k]? = some ok → k ≠ i → (listed.setIfInBounds j true).getD k true = false →
          (∀ e ∈ ok.after, Region.binds md e = true → e.on ≠ i) → oi.apart ops ok = true := fun k ok hk hki hun hno => by
        refine hfree k ok hk hki ?_ hno
        by_cases hjk : j = k
        · subst hjk; exact hjun
        · rw [getD_set_ne true hjk] at hun; exact hun
      refine wpOp_mono (fun a' w' h3 => ?_) h2
      have hS' : S w' := h3.2.1.resolve_left hjL
      refine ⟨.inr hS', ih (listed.setIfInBounds j true) a' w' (inv.set hj) hfree' (ready_mono hr (Ne.symm hji)) h3.1 hS' ?_⟩
      rw [Array.setIfInBounds_comm _ _ hji]
      exact h3.2.2

/-! ### the walk: heads, then tails -/
def wpS (P : Program) (ops : Array Oper) (S : World → Prop) (K : Act → Prop) : List Oper → Act → Prop
  | [], a => K a
  | o :: rest, a => if Region.wanted o (yielded ops a.tmps) then ∃ v, (∀ w, S w → (execOp a.eval o).run P w = .ok (.value v) w) ∧ wpS P ops S K rest (a.put o.dst v) else wpS P ops S K rest (a.put o.dst undef)
def stepO (P : Program) (ops : Array Oper) (o : Oper) (K : Act → World → Prop) (a : Act) (w : World) : Prop :=
  if Region.wanted o (yielded ops a.tmps) then o.wp P a w K (fun _ _ _ => False) else K (a.put o.dst undef) w
def wpTail (P : Program) (ops : Array Oper) (S : World → Prop) (Q : Exit → Act → World → Prop) : List Oper → Act → World → Prop
  | [], a, w => Q .normal a w
  | o :: rest, a, w => stepO P ops o (fun a' w' => (rest = [] ∨ S w') ∧ wpTail P ops S Q rest a' w') a w
def QN (Q : Exit → Act → World → Prop) : Exit → Act → World → Prop := fun e a w => e = .normal ∧ Q .normal a w

def pickOps (os : List Oper) (ix : List Nat) : List Oper := ix.map fun i => os.getD i default
def tailB (md : Region.Mode) (ops : Array Oper) : List Nat → Array Bool → Bool
  | [], listed => (Region.ready md ops listed).isEmpty
  | t :: r, listed => decide (Region.ready md ops listed = [t]) && decide (t < ops.size) && (decide (t + 1 = ops.size) || !r.isEmpty) && tailB md ops r (listed.setIfInBounds t true)
def headB (md : Region.Mode) (ops : Array Oper) (ts : List Nat) : List Nat → Array Bool → Bool
  | [], listed => tailB md ops ts listed
  | i :: r, listed => decide (i + 1 < ops.size) && (Region.ready md ops listed).contains i && Region.free md ops listed i && headB md ops ts r (listed.setIfInBounds i true)
def mixB (md : Region.Mode) (ops : Array Oper) (hs ts : List Nat) : Bool :=
  Region.noSelect ops && decide (0 < ops.size) && Region.sinkB md ops (ops.size - 1) && decide (hs.length + ts.length = ops.size) && headB md ops ts hs (Array.replicate ops.size false)

theorem getD_op {os : List Oper} {i : Nat} (h : i < os.length) : os.toArray[i]? = some (os.getD i default) := by simp [h]

theorem wpM_tail {os : List Oper} (hL : L + 1 = os.length) : ∀ (ts : List Nat) (listed : Array Bool) (a : Act) (w : World), tailB md os.toArray ts listed = true → wpTail P os.toArray S Q (pickOps os ts) a w → wpAnyM P md os.toArray (QN Q) S L ts.length listed a w
  | [], listed, a, w, hB, h => ⟨by simpa [tailB] using hB, rfl, h⟩
  | t :: r, listed, a, w, hB, h => by
    simp only [tailB, Bool.and_eq_true, decide_eq_true_eq] at hB
    obtain ⟨⟨⟨hr, hlt⟩, hlast⟩, hB'⟩ := hB
    refine ⟨fun h1 => (by rw [hr] at h1; cases h1), fun i hi => ?_⟩
    rw [hr] at hi
    obtain rfl : i = t := by simpa using hi
    have h0 : os.toArray[i]? = some (os.getD i default) := getD_op (by simpa using hlt)
    have hk : ∀ a' w', ((pickOps os r = [] ∨ S w') ∧ wpTail P os.toArray S Q (pickOps os r) a' w') → ((i = L ∨ S w') ∧ wpAnyM P md os.toArray (QN Q) S L r.length (listed.setIfInBounds i true) a' w') := by
      intro a' w' h2
      refine ⟨?_, wpM_tail hL r _ a' w' hB' h2.2⟩
      rcases h2.1 with h3 | h3
      · left
        have hre : r = [] := by simpa [pickOps] using h3
        subst hre
        simp at hlast
        omega
      · exact .inr h3
    have h' : stepO P os.toArray (os.getD i default) (fun a' w' => (pickOps os r = [] ∨ S w') ∧ wpTail P os.toArray S Q (pickOps os r) a' w') a w := h
    unfold wpOp
    simp only [h0]
    unfold stepO at h'
    split
    · rename_i hw
      rw [if_pos hw] at h'
      left
      unfold Oper.wp at *
      generalize (execOp a.eval (os.getD i default)).run P w = res at *
      cases res with
      | ok n w1 =>
        cases n <;> simp only [Oper.upon] at h' ⊢
        case value u => exact hk _ _ h'
        case skip => exact hk _ _ h'
        case defer d => exact hk _ _ h'
        case enter f args =>
          refine Calls.mono h' fun e w2 h2 => ?_
          cases e with
          | returned u => exact hk _ _ h2
          | panicked c => exact absurd h2 (by simp)
          | outgrown => obtain ⟨_, _, h3⟩ := h2; exact absurd h3 (by simp)
        case row row args => exact Rows.mono h' fun u w2 h2 => hk _ _ h2
        all_goals exact h'
      | halt x w1 =>
        cases x <;> simp only [Oper.upon] at h' ⊢ <;> exact h'
    · rename_i hw
      rw [if_neg hw] at h'
      exact hk _ _ h'

theorem wpM_head {os : List Oper} {ts : List Nat} (hL : L + 1 = os.length) (hsel : Region.noSelect os.toArray = true) (hs : Region.sinkB md os.toArray L = true) : ∀ (hi : List Nat) (listed : Array Bool) (a : Act) (w : World), Shut md os.toArray listed → S w →
    headB md os.toArray ts hi listed = true → wpS P os.toArray S (fun a' => wpTail P os.toArray S Q (pickOps os ts) a' w) (pickOps os hi) a → wpAnyM P md os.toArray (QN Q) S L (hi.length + ts.length) listed a w
  | [], listed, a, w, inv, hS, hB, h => by
    rw [List.length_nil, Nat.zero_add]
    exact wpM_tail hL ts listed a w hB h
  | i :: r, listed, a, w, inv, hS, hB, h => by
    simp only [headB, Bool.and_eq_true, decide_eq_true_eq] at hB
    obtain ⟨⟨⟨hlt, hr⟩, hf⟩, hB'⟩ := hB
    have hlt' : i + 1 < os.length := by simpa using hlt
    have h0 : os.toArray[i]? = some (os.getD i default) := getD_op (by omega)
    have hr' : i ∈ Region.ready md os.toArray listed := by simpa using hr
    have hst : ∃ v, YieldsIf P os.toArray S (os.getD i default) v a ∧ wpS P os.toArray S (fun a' => wpTail P os.toArray S Q (pickOps os ts) a' w) (pickOps os r) (a.put (os.getD i default).dst v) := by
      have h' : (if Region.wanted (os.getD i default) (yielded os.toArray a.tmps) then ∃ v, (∀ w, S w → (execOp a.eval (os.getD i default)).run P w = .ok (.value v) w) ∧ wpS P os.toArray S (fun a' => wpTail P os.toArray S Q (pickOps os ts) a' w) (pickOps os r) (a.put (os.getD i default).dst v) else wpS P os.toArray S (fun a' => wpTail P os.toArray S Q (pickOps os ts) a' w) (pickOps os r) (a.put (os.getD i default).dst undef)) := h
      by_cases hw : Region.wanted (os.getD i default) (yielded os.toArray a.tmps) = true
      · rw [if_pos hw] at h'
        obtain ⟨v, h1, h2⟩ := h'
        exact ⟨v, .inl ⟨hw, h1⟩, h2⟩
      · rw [if_neg hw] at h'
        exact ⟨undef, .inr ⟨by simpa using hw, rfl⟩, h'⟩
    obtain ⟨v, hy, hK⟩ := hst
    have := wpAnyM_first (Q := QN Q) h0 (Region.noSelect_spec hsel) (fun c a w h => absurd h.1 (by simp)) hs (by simpa using hL) (by omega) (r.length + ts.length) listed a w inv (Region.free_spec h0 hf) hr' hy hS
      (wpM_head hL hsel hs r _ _ w (inv.set hr') hS hB' hK)
    rwa [List.length_cons, show r.length + 1 + ts.length = r.length + ts.length + 1 from by omega]

/-! ### the goals of a walk -/
variable {n : Nat} {l l' : List (Nat × Value)} {ds : List Deferred} {rest : List Oper} {w w' : World}
variable {op : Op} {ty : TypeId} {pos : String} {aft : Array Edge} {v : Value} {d : Nat}
@[irreducible] def TL (P : Program) (ops : Array Oper) (S : World → Prop) (Q : Exit → Act → World → Prop) (n : Nat) (l : List (Nat × Value)) (ds : List Deferred) (os : List Oper) (w : World) : Prop := wpTail P ops S Q os (fr n l ds) w
@[irreducible] def WS (P : Program) (ops : Array Oper) (S : World → Prop) (K : Act → Prop) (n : Nat) (l : List (Nat × Value)) (ds : List Deferred) (os : List Oper) : Prop := wpS P ops S K os (fr n l ds)
def TSQ (P : Program) (ops : Array Oper) (S : World → Prop) (Q : Exit → Act → World → Prop) (rest : List Oper) : Exit → Act → World → Prop := fun e a w => e = .normal ∧ (rest = [] ∨ S w) ∧ wpTail P ops S Q rest a w
def KT (P : Program) (ops : Array Oper) (S : World → Prop) (Q : Exit → Act → World → Prop) (ts : List Oper) (w : World) : Act → Prop := fun a => wpTail P ops S Q ts a w

theorem c_mix (S : World → Prop) (hs ts : List Nat) {id : Nat} {os : List Oper} (hm : P.follows .mixedOrders = true) (hB : mixB .any os.toArray hs ts = true) (hS : S w.drew)
    (k : WS P os.toArray S (KT P os.toArray S Q (pickOps os ts) w.drew) n l ds (pickOps os hs)) : CW P Q n l ds (.region id os.toArray true) w := by
  unfold CW; unfold WS KT at k
  simp only [mixB, Bool.and_eq_true, decide_eq_true_eq] at hB
  obtain ⟨⟨⟨⟨h1, h2⟩, h3⟩, h4⟩, h5⟩ := hB
  have h2' : 0 < os.length := by simpa using h2
  have hsz : os.toArray.size = os.length := by simp
  have := wpM_head (L := os.length - 1) (Q := Q) (ts := ts) (by omega) h1 (by rwa [hsz] at h3) hs _ (fr n l ds) w.drew Shut.start hS h5 k
  rw [h4] at this
  refine wp_mono (wp_region_any hm (wpAny_of_M _ _ _ _ this)) ?_
  rintro e a w1 ⟨rfl, h⟩
  exact h

theorem s_nil {ts : List Oper} {w : World} (k : TL P ops S Q n l ds ts w) : WS P ops S (KT P ops S Q ts w) n l ds [] := by
  unfold WS KT; unfold TL at k; exact k
theorem s_op {K : Act → Prop} (h : ∀ w, S w → Op1 P (ev n l) op ty w v) (hd : Nat.blt d n = true) (k : WS P ops S K n ((d, v) :: l) ds rest) :
    WS P ops S K n l ds (⟨some d, op, ty, pos, aft, none⟩ :: rest) := by
  unfold WS at *
  simp only [wpS, Region.wanted, if_true]
  refine ⟨v, fun w hw => ?_, ?_⟩
  · have := h w hw
    unfold Op1 at this
    rw [fr_eval, this]
  · rw [fr_put d v hd]; exact k
theorem s_on {K : Act → Prop} {dst : Option Tmp} {j : Nat} {b : Bool} (hy : yl n l ops j = some b) (k : WS P ops S K n l ds (⟨dst, op, ty, pos, aft, none⟩ :: rest)) :
    WS P ops S K n l ds (⟨dst, op, ty, pos, aft, some (j, b)⟩ :: rest) := by
  unfold WS at *
  simp only [wpS, Region.wanted, yl_eq, hy, beq_self_eq_true, if_true] at *
  exact k
theorem s_off {K : Act → Prop} {j : Nat} {b : Bool} (hy : yl n l ops j = some (!b)) (hd : Nat.blt d n = true) (k : WS P ops S K n ((d, undef) :: l) ds rest) :
    WS P ops S K n l ds (⟨some d, op, ty, pos, aft, some (j, b)⟩ :: rest) := by
  unfold WS at *
  have h : ((some (!b) : Option Bool) == some b) = false := by cases b <;> rfl
  simp only [wpS, Region.wanted, yl_eq, hy, h]
  rw [fr_put d undef hd]
  exact k
theorem s_bool {K : Act → Prop} (t : Nat) {b : Bool} {os : List Oper} (hv : lk l t = .bool b) (ht : b = true → WS P ops S K n ((t, .bool true) :: l) ds os) (hf : b = false → WS P ops S K n ((t, .bool false) :: l) ds os) :
    WS P ops S K n l ds os := by
  unfold WS at *
  have he : fr n l ds = fr n ((t, .bool b) :: l) ds := by
    apply fr_ext
    intro i _
    rw [lk_cons]
    split
    · rename_i h; subst h; exact hv
    · rfl
  rw [he]
  cases b with
  | true => exact ht rfl
  | false => exact hf rfl

theorem t_nil (k : EW Q n l ds .normal w) : TL P ops S Q n l ds [] w := by
  unfold TL; unfold EW at k; exact k
theorem t_step {o : Oper} (k : W P ops (TSQ P ops S Q rest) n l ds [o] w) : TL P ops S Q n l ds (o :: rest) w := by
  unfold TL; unfold W at k
  simp only [wpList] at k
  show stepO P ops o _ _ _
  unfold stepO
  split
  · rename_i hw
    rw [if_pos hw] at k
    rcases k with k | ⟨_, a0, w0, h0⟩
    · unfold Oper.wp at *
      generalize (execOp (fr n l ds).eval o).run P w = res at *
      cases res with
      | ok nx w1 =>
        cases nx <;> simp only [Oper.upon] at k ⊢
        case value u => exact k.2
        case skip => exact k.2
        case defer d => exact k.2
        case enter f args =>
          refine Calls.mono k fun e w2 h2 => ?_
          cases e with
          | returned u => exact h2.2
          | panicked c => exact absurd h2.1 (by simp)
          | outgrown => obtain ⟨_, _, h3⟩ := h2; exact absurd h3.1 (by simp)
        case row row args => exact Rows.mono k fun u w2 h2 => h2.2
        all_goals exact k
      | halt x w1 =>
        cases x <;> simp only [Oper.upon] at k ⊢
        case panic u => exact absurd k.1 (by simp)
        all_goals exact k
    · exact absurd h0.1 (by simp)
  · rename_i hw
    rw [if_neg hw] at k
    exact k.2
theorem e_ts (hS : S w) (k : TL P ops S Q n l ds rest w) : EW (TSQ P ops S Q rest) n l ds .normal w := by
  unfold EW TSQ; unfold TL at k; exact ⟨rfl, .inr hS, k⟩
theorem e_ts0 (k : EW Q n l ds .normal w) : EW (TSQ P ops S Q []) n l ds .normal w := by
  unfold EW TSQ at *; exact ⟨rfl, .inl rfl, k⟩
end

/-! ### quiet heads (calls among them), then what writes, strictly behind -/
section
variable {P : Program} {ops : Array Oper} {md : Region.Mode} {C : World → Prop}
def wpAnyLQ (P : Program) (md : Region.Mode) (ops : Array Oper) (C : World → Prop) (n : Nat) (L : Array Bool → Act → Prop) : Nat → Array Bool → Act → Prop
  | 0, listed, a => L listed a
  | f + 1, listed, a =>
    Region.ready md ops listed ≠ [] ∧ ∀ i ∈ Region.ready md ops listed, i < n ∧ qOp P ops C i (wpAnyLQ P md ops C n L f (listed.setIfInBounds i true)) a
theorem wpAny_of_headQ {n g : Nat} {L : Array Bool → Act → Prop} {Q' : Exit → Act → World → Prop} (hL : ∀ listed a w, C w → L listed a → wpAny P md ops Q' g listed a w) :
    ∀ (f : Nat) (listed : Array Bool) (a : Act) (w : World), C w → wpAnyLQ P md ops C n L f listed a → wpAny P md ops Q' (f + g) listed a w
  | 0, listed, a, w, hC, h => by rw [Nat.zero_add]; exact hL _ _ _ hC h
  | f + 1, listed, a, w, hC, h => by
    rw [show f + 1 + g = (f + g) + 1 by omega]
    exact ⟨fun h0 => absurd h0 h.1, fun i hi => wpOp_of_qOp hC (fun a' w' hC' h' => wpAny_of_headQ hL f _ a' w' hC' h') (h.2 i hi).2⟩
theorem wpAnyLQ_first {n i : Nat} {oi : Oper} {v : Value} {L : Array Bool → Act → Prop} (hi : ops[i]? = some oi) (hsel : ∀ (j : Nat) (o : Oper) cs b, ops[j]? = some o → o.op ≠ .select cs b)
    (hs : Region.sinkB md ops n = true) (hc : Region.chainB md ops n = true) (hn : n < ops.size) (hin : i < n)
    (hdone : ∀ listed a, L listed a → ∀ j ∈ Region.ready md ops listed, n ≤ j) :
    ∀ (f : Nat) (listed : Array Bool) (a : Act), HeadInv md ops n listed →
      (∀ j oj, ops[j]? = some oj → j ≠ i → listed.getD j true = false → (∀ e ∈ oj.after, Region.binds md e = true → e.on ≠ i) → oi.apart ops oj = true) →
      i ∈ Region.ready md ops listed → YieldsIn P ops C oi v a →
      wpAnyLQ P md ops C n L f (listed.setIfInBounds i true) (a.put oi.dst v) → wpAnyLQ P md ops C n L (f + 1) listed a := by
  intro f
  induction f with
  | zero =>
    intro listed a inv _ hr hy H
    have hun := (mem_ready.1 hr).1
    refine ⟨fun h => (by rw [h] at hr; cases hr), fun j hj => ?_⟩
    have hjn : j < n := by
      rcases Nat.lt_or_ge j n with h | h
      · exact h
      · exact absurd hj (tail_waits hs hc hn inv _ i rfl hin hun j h)
    refine ⟨hjn, ?_⟩
    by_cases hji : j = i
    · subst hji; exact hy.qOp hi H
    · have := hdone _ _ H j (ready_mono hj hji)
      omega
  | succ f ih =>
    intro listed a inv hfree hr hy H
    have hun := (mem_ready.1 hr).1
    refine ⟨fun h => (by rw [h] at hr; cases hr), fun j hj => ?_⟩
    have hjn : j < n := by
      rcases Nat.lt_or_ge j n with h | h
      · exact h
      · exact absurd hj (tail_waits hs hc hn inv _ i rfl hin hun j h)
    refine ⟨hjn, ?_⟩
    by_cases hji : j = i
    · subst hji; exact hy.qOp hi H
    · have h1 := (H.2 j (ready_mono hj hji)).2
      obtain ⟨hjun, oj, hoj, hall⟩ := mem_ready.1 hj
      have hnot : ∀ e ∈ oj.after, Region.binds md e = true → e.on ≠ i := fun e he hb heq => by
        have h1 := hall e he hb
        rw [heq, getD_both hun] at h1
        cases h1
      have h2 := qOp_put hoj (hfree j oj hoj hji hjun hnot) (fun cs b => hsel i oi cs b hi) (fun cs b => hsel j oj cs b hoj) hy h1
      have hfree' : ∀ k ok, ops[k]? = some ok → k ≠ i → (listed.setIfInBounds j true).getD k true = false →
          (∀ e ∈ ok.after, Region.binds md e = true → e.on ≠ i) → oi.apart ops ok = true := fun k ok hk hki hun hno => by
        refine hfree k ok hk hki ?_ hno
        by_cases hjk : j = k
        · subst hjk; exact hjun
        · rw [getD_set_ne true hjk] at hun; exact hun
      refine qOp_mono (fun a' h3 => ih (listed.setIfInBounds j true) a' (inv.set hj hjn) hfree' (ready_mono hr (Ne.symm hji)) h3.1 ?_) h2
      rw [Array.setIfInBounds_comm _ _ hji]
      exact h3.2
theorem wpAnyLQ_lex {n g : Nat} {Lq : Act → Prop} (hsel : Region.noSelect ops = true) (hs : Region.sinkB md ops n = true) (hc : Region.chainB md ops n = true) (hn : n < ops.size) :
    ∀ (l : List Oper) (k : Nat) (listed : Array Bool) (a : Act), (∀ j, j < l.length → l[j]? = ops[k + j]?) → k + l.length = n → HeadInv md ops n listed →
    Region.lexHead md ops g l.length k listed = true → wpQuiet P ops C Lq l a →
    wpAnyLQ P md ops C n (fun listed' a' => Region.seqB md ops g n listed' = true ∧ Lq a') l.length listed a
  | [], k, listed, a, _, hk, _, hB, h => by
    have : k = n := by simpa using hk
    subst this
    exact ⟨by simpa [Region.lexHead] using hB, h⟩
  | o :: l, k, listed, a, hl, hk, inv, hB, h => by
    have h0 : ops[k]? = some o := by simpa using (hl 0 (by simp)).symm
    simp only [List.length_cons, Region.lexHead, Bool.and_eq_true] at hB
    obtain ⟨⟨hr, hf⟩, hB'⟩ := hB
    have hkn : k < n := by simp only [List.length_cons] at hk; omega
    have hr' : k ∈ Region.ready md ops listed := by simpa using hr
    have hst : qOp P ops C k (wpQuiet P ops C Lq l) a := by unfold qOp; simp only [h0]; exact h
    obtain ⟨v, hy, hK⟩ := yieldsIn_of_qOp h0 hst
    exact wpAnyLQ_first h0 (Region.noSelect_spec hsel) hs hc hn hkn (fun listed' a' hL => seqB_ready hL.1) l.length listed a inv (Region.free_spec h0 hf) hr' hy
      (wpAnyLQ_lex hsel hs hc hn l (k + 1) _ _ (fun j hj => by have := hl (j + 1) (by simp; omega); simpa [Nat.add_assoc, Nat.add_comm 1 j] using this) (by simp only [List.length_cons] at hk; omega) (inv.set hr' hkn) hB' hK)
variable {n : Nat} {l : List (Nat × Value)} {ds : List Deferred} {w : World} {Q : Exit → Act → World → Prop}
def QL (P : Program) (ops : Array Oper) (C : World → Prop) (Q : Exit → Act → World → Prop) (ts : List Oper) : Act → Prop := fun a => ∀ w, C w → wpList P ops Q ts a w
theorem c_quietTail (C : World → Prop) (m : Nat) {id : Nat} {os : List Oper} (hm : P.follows .mixedOrders = true) (hB : Region.lexTailB .any os.toArray m = true) (hC : C w.drew)
    (k : WQ P os.toArray C (QL P os.toArray C Q (os.drop m)) n l ds (os.take m)) : CW P Q n l ds (.region id os.toArray true) w := by
  unfold CW; unfold WQ at k
  simp only [Region.lexTailB, Bool.and_eq_true, decide_eq_true_eq] at hB
  obtain ⟨⟨⟨⟨hsel, hn⟩, hs⟩, hc⟩, hlex⟩ := hB
  have hn' : m < os.length := by simpa using hn
  have htl : (os.take m).length = m := by simp; omega
  have hdl : (os.drop m).length = os.toArray.size - m := by simp
  have inv0 : HeadInv .any os.toArray m (Array.replicate os.toArray.size false) :=
    ⟨by simp, fun j oj _ hl => (by rw [getD_replicate_false] at hl; cases hl), fun t _ ht => getD_in (by simpa using ht) (getD_replicate_false _ _)⟩
  have H := wpAnyLQ_lex (md := .any) (g := os.toArray.size - m) hsel hs hc hn (os.take m) 0 _ (fr n l ds) (fun j hj => by
    have hj' : j < m := by rw [htl] at hj; exact hj
    simp [hj']) (by simpa using htl) inv0 (by rw [htl]; exact hlex) k
  refine wp_region_any hm ?_
  have := wpAny_of_headQ (Q' := Q) (g := os.toArray.size - m) (fun listed a' w' hC' hL => by
    have := wpAny_of_seq (md := .any) (Q' := Q) (os.drop m) m listed a' w' (fun j => by simp [List.getElem?_drop]) (by rw [hdl]; exact hL.1) (hL.2 w' hC')
    rwa [hdl] at this) _ _ _ _ hC H
  rw [htl, show m + (os.toArray.size - m) = os.toArray.size by omega] at this
  exact this
theorem q_tail {ts : List Oper} (k : ∀ w, C w → W P ops Q n l ds ts w) : WQ P ops C (QL P ops C Q ts) n l ds [] := by
  unfold WQ QL; unfold W at k
  exact wpQuiet_nil k
end
end Go.Proofs.YtmgheamdboiklaaDoor
