/- DRAWN REGIONS BY A SCRIPT: what may be read first is read first; where two operations may come in either order both orders are walked. General: no program in it. -/
import Derived.Test.YtmgheamdboiklaaDoorSc
set_option linter.unusedVariables false
set_option linter.unusedSimpArgs false
namespace Go.Proofs.YtmgheamdboiklaaDoor
open Go.RowKit

inductive Scr
  | done
  | pull (i : Nat) (k : Scr)
  | only (i : Nat) (k : Scr)
  | both (i j : Nat) (ki kj : Scr)
def Scr.isDone : Scr → Bool
  | .done => true
  | _ => false
def Scr.len : Scr → Nat
  | .done => 0
  | .pull _ k => k.len + 1
  | .only _ k => k.len + 1
  | .both _ _ k _ => k.len + 1
def Scr.okB (md : Region.Mode) (ops : Array Oper) : Scr → Array Bool → Bool
  | .done, listed => (Region.ready md ops listed).isEmpty
  | .pull i k, listed => decide (i + 1 < ops.size) && (Region.ready md ops listed).contains i && Region.free md ops listed i && k.okB md ops (listed.setIfInBounds i true) && !k.isDone
  | .only i k, listed => decide (Region.ready md ops listed = [i]) && decide (i < ops.size) && (decide (i + 1 = ops.size) || !k.isDone) && k.okB md ops (listed.setIfInBounds i true)
  | .both i j ki kj, listed => decide (Region.ready md ops listed = [i, j]) && decide (i < ops.size) && decide (j < ops.size) && !ki.isDone && !kj.isDone && decide (ki.len = kj.len) && ki.okB md ops (listed.setIfInBounds i true) && kj.okB md ops (listed.setIfInBounds j true)
section
variable {P : Program} {ops : Array Oper} {Q : Exit → Act → World → Prop} {md : Region.Mode} {S : World → Prop} {L : Nat}
def wpScr (P : Program) (ops : Array Oper) (S : World → Prop) (Q : Exit → Act → World → Prop) : Scr → Act → World → Prop
  | .done, a, w => Q .normal a w
  | .pull i k, a, w => if Region.wanted (ops.toList.getD i default) (yielded ops a.tmps) then ∃ v, (∀ w, S w → (execOp a.eval (ops.toList.getD i default)).run P w = .ok (.value v) w) ∧ wpScr P ops S Q k (a.put (ops.toList.getD i default).dst v) w else wpScr P ops S Q k (a.put (ops.toList.getD i default).dst undef) w
  | .only i k, a, w => stepO P ops (ops.toList.getD i default) (fun a' w' => (k.isDone = true ∨ S w') ∧ wpScr P ops S Q k a' w') a w
  | .both i j ki kj, a, w => stepO P ops (ops.toList.getD i default) (fun a' w' => S w' ∧ wpScr P ops S Q ki a' w') a w ∧ stepO P ops (ops.toList.getD j default) (fun a' w' => S w' ∧ wpScr P ops S Q kj a' w') a w
theorem stepO_op {i : Nat} {o : Oper} {K K' : Act → World → Prop} {a : Act} {w : World} (h0 : ops[i]? = some o) (hk : ∀ a' w', K a' w' → K' a' w') (h : stepO P ops o K a w) : wpOp P ops (QN Q) i K' a w := by
  unfold wpOp
  simp only [h0]
  unfold stepO at h
  split
  · rename_i hw
    rw [if_pos hw] at h
    left
    unfold Oper.wp at *
    generalize (execOp a.eval o).run P w = res at *
    cases res with
    | ok n w1 =>
      cases n <;> simp only [Oper.upon] at h ⊢
      case value u => exact hk _ _ h
      case skip => exact hk _ _ h
      case defer d => exact hk _ _ h
      case enter f args =>
        refine Calls.mono h fun e w2 h2 => ?_
        cases e with
        | returned u => exact hk _ _ h2
        | panicked c => exact absurd h2 (by simp)
        | outgrown => obtain ⟨_, _, h3⟩ := h2; exact absurd h3 (by simp)
      case row row args => exact Rows.mono h fun u w2 h2 => hk _ _ h2
      all_goals exact h
    | halt x w1 =>
      cases x <;> simp only [Oper.upon] at h ⊢ <;> exact h
  · rename_i hw
    rw [if_neg hw] at h
    exact hk _ _ h
theorem getD_opA {i : Nat} (h : i < ops.size) : ops[i]? = some (ops.toList.getD i default) := by
  rw [← Array.getElem?_toList, List.getD_eq_getElem?_getD, List.getElem?_eq_getElem (by simpa using h)]
  rfl
theorem isDone_iff {k : Scr} : k.isDone = true ↔ k = .done := by cases k <;> simp [Scr.isDone]
theorem scr_sound (hL : L + 1 = ops.size) (hsel : Region.noSelect ops = true) (hs : Region.sinkB md ops L = true) : ∀ (sc : Scr) (listed : Array Bool) (a : Act) (w : World), Shut md ops listed → (sc.isDone = true ∨ S w) →
    sc.okB md ops listed = true → wpScr P ops S Q sc a w → wpAnyM P md ops (QN Q) S L sc.len listed a w
  | .done, listed, a, w, inv, hS, hB, h => ⟨by simpa [Scr.okB] using hB, rfl, h⟩
  | .pull i k, listed, a, w, inv, hS, hB, h => by
    simp only [Scr.okB, Bool.and_eq_true, decide_eq_true_eq] at hB
    obtain ⟨⟨⟨⟨hlt, hr⟩, hf⟩, hB'⟩, _⟩ := hB
    have hS' : S w := by rcases hS with q | q; cases q; exact q
    have h0 : ops[i]? = some (ops.toList.getD i default) := getD_opA (by omega)
    have hr' : i ∈ Region.ready md ops listed := by simpa using hr
    have hst : ∃ v, YieldsIf P ops S (ops.toList.getD i default) v a ∧ wpScr P ops S Q k (a.put (ops.toList.getD i default).dst v) w := by
      simp only [wpScr] at h
      by_cases hw : Region.wanted (ops.toList.getD i default) (yielded ops a.tmps) = true
      · rw [if_pos hw] at h
        obtain ⟨v, h1, h2⟩ := h
        exact ⟨v, .inl ⟨hw, h1⟩, h2⟩
      · rw [if_neg hw] at h
        exact ⟨undef, .inr ⟨by simpa using hw, rfl⟩, h⟩
    obtain ⟨v, hy, hK⟩ := hst
    exact wpAnyM_first (Q := QN Q) h0 (Region.noSelect_spec hsel) (fun c a w h => absurd h.1 (by simp)) hs hL (by omega) k.len listed a w inv (Region.free_spec h0 hf) hr' hy hS'
      (scr_sound hL hsel hs k _ _ w (inv.set hr') (.inr hS') hB' hK)
  | .only i k, listed, a, w, inv, hS, hB, h => by
    simp only [Scr.okB, Bool.and_eq_true, decide_eq_true_eq, Bool.or_eq_true, Bool.not_eq_true'] at hB
    obtain ⟨⟨⟨hr, hlt⟩, hlast⟩, hB'⟩ := hB
    have hr' : i ∈ Region.ready md ops listed := by rw [hr]; simp
    refine ⟨fun h1 => (by rw [hr] at h1; cases h1), fun j hj => ?_⟩
    rw [hr] at hj
    obtain rfl : j = i := by simpa using hj
    refine stepO_op (getD_opA hlt) (fun a' w' h2 => ?_) h
    refine ⟨?_, scr_sound hL hsel hs k _ a' w' (inv.set hr') h2.1 hB' h2.2⟩
    rcases h2.1 with h3 | h3
    · left
      rcases hlast with q | q
      · omega
      · rw [h3] at q; cases q
    · exact .inr h3
  | .both i j ki kj, listed, a, w, inv, hS, hB, h => by
    simp only [Scr.okB, Bool.and_eq_true, decide_eq_true_eq, Bool.not_eq_true'] at hB
    obtain ⟨⟨⟨⟨⟨⟨⟨hr, hli⟩, hlj⟩, di⟩, dj⟩, hlen⟩, hBi⟩, hBj⟩ := hB
    refine ⟨fun h1 => (by rw [hr] at h1; cases h1), fun m hm => ?_⟩
    have hm' := hm
    rw [hr] at hm
    rcases List.mem_cons.1 hm with rfl | hm
    · exact stepO_op (getD_opA hli) (fun a' w' h2 => ⟨.inr h2.1, scr_sound hL hsel hs ki _ a' w' (inv.set hm') (.inr h2.1) hBi h2.2⟩) h.1
    · obtain rfl : m = j := by simpa using hm
      refine stepO_op (getD_opA hlj) (fun a' w' h2 => ⟨.inr h2.1, ?_⟩) h.2
      have := scr_sound hL hsel hs kj _ a' w' (inv.set hm') (.inr h2.1) hBj h2.2
      rw [hlen]
      exact this
def scrTop (md : Region.Mode) (ops : Array Oper) (sc : Scr) : Bool :=
  Region.noSelect ops && decide (0 < ops.size) && Region.sinkB md ops (ops.size - 1) && decide (sc.len = ops.size) && sc.okB md ops (Array.replicate ops.size false)
variable {n : Nat} {l : List (Nat × Value)} {ds : List Deferred} {w w' : World}
variable {op : Op} {ty : TypeId} {pos : String} {aft : Array Edge} {v : Value} {d : Nat}
@[irreducible] def SG (P : Program) (ops : Array Oper) (S : World → Prop) (Q : Exit → Act → World → Prop) (n : Nat) (l : List (Nat × Value)) (ds : List Deferred) (sc : Scr) (w : World) : Prop := wpScr P ops S Q sc (fr n l ds) w
def XSQ (P : Program) (ops : Array Oper) (S : World → Prop) (Q : Exit → Act → World → Prop) (k : Scr) : Exit → Act → World → Prop := fun e a w => e = .normal ∧ (k.isDone = true ∨ S w) ∧ wpScr P ops S Q k a w
theorem c_scr (S : World → Prop) (sc : Scr) {id : Nat} {os : List Oper} (hm : P.follows .mixedOrders = true) (hB : scrTop .any os.toArray sc = true) (hS : S w.drew)
    (k : SG P os.toArray S Q n l ds sc w.drew) : CW P Q n l ds (.region id os.toArray true) w := by
  unfold CW; unfold SG at k
  simp only [scrTop, Bool.and_eq_true, decide_eq_true_eq] at hB
  obtain ⟨⟨⟨⟨h1, h2⟩, h3⟩, h4⟩, h5⟩ := hB
  have := scr_sound (L := os.toArray.size - 1) (Q := Q) (by omega) h1 h3 sc _ (fr n l ds) w.drew Shut.start (.inr hS) h5 k
  rw [h4] at this
  refine wp_mono (wp_region_any hm (wpAny_of_M _ _ _ _ this)) ?_
  rintro e a w1 ⟨rfl, h⟩
  exact h
theorem x_done (k : EW Q n l ds .normal w) : SG P ops S Q n l ds .done w := by
  unfold SG; unfold EW at k; exact k
theorem x_pull {os : List Oper} {i : Nat} {sc : Scr} (ho : os.getD i default = ⟨some d, op, ty, pos, aft, none⟩) (h : ∀ w, S w → Op1 P (ev n l) op ty w v) (hd : Nat.blt d n = true) (k : SG P os.toArray S Q n ((d, v) :: l) ds sc w) :
    SG P os.toArray S Q n l ds (.pull i sc) w := by
  unfold SG at *
  simp only [wpScr, ho, Region.wanted, if_true]
  refine ⟨v, fun w hw => ?_, ?_⟩
  · have := h w hw
    unfold Op1 at this
    rw [fr_eval, this]
  · rw [fr_put d v hd]; exact k
theorem step_W {K : Act → World → Prop} {o : Oper} (k : W P ops (fun e a w => e = .normal ∧ K a w) n l ds [o] w) : stepO P ops o K (fr n l ds) w := by
  unfold W at k
  simp only [wpList] at k
  unfold stepO
  split
  · rename_i hw
    rw [if_pos hw] at k
    rcases k with k | ⟨_, a0, w0, h0⟩
    · unfold Oper.wp at *
      generalize (execOp (fr n l ds).eval o).run P w = res at *
      cases res with
      | ok nx w1 =>
        cases nx <;> simp only [Oper.upon] at k ⊢
        case value u => exact k.2
        case skip => exact k.2
        case defer d => exact k.2
        case enter f args =>
          refine Calls.mono k fun e w2 h2 => ?_
          cases e with
          | returned u => exact h2.2
          | panicked c => exact absurd h2.1 (by simp)
          | outgrown => obtain ⟨_, _, h3⟩ := h2; exact absurd h3.1 (by simp)
        case row row args => exact Rows.mono k fun u w2 h2 => h2.2
        all_goals exact k
      | halt x w1 =>
        cases x <;> simp only [Oper.upon] at k ⊢
        case panic u => exact absurd k.1 (by simp)
        all_goals exact k
    · exact absurd h0.1 (by simp)
  · rename_i hw
    rw [if_neg hw] at k
    exact k.2
theorem x_only {os : List Oper} {i : Nat} {o : Oper} {sc : Scr} (ho : os.getD i default = o) (k : W P os.toArray (XSQ P os.toArray S Q sc) n l ds [o] w) : SG P os.toArray S Q n l ds (.only i sc) w := by
  unfold SG
  simp only [wpScr, ho]
  exact step_W k
theorem x_both {os : List Oper} {i j : Nat} {o o' : Oper} {ki kj : Scr} (ho : os.getD i default = o) (ho' : os.getD j default = o') (hi : ki.isDone = false) (hj : kj.isDone = false) (k1 : W P os.toArray (XSQ P os.toArray S Q ki) n l ds [o] w) (k2 : W P os.toArray (XSQ P os.toArray S Q kj) n l ds [o'] w) :
    SG P os.toArray S Q n l ds (.both i j ki kj) w := by
  unfold SG
  simp only [wpScr, ho, ho']
  refine ⟨step_W (w_mono ?_ k1), step_W (w_mono ?_ k2)⟩
  · rintro e a w ⟨h1, h2, h3⟩
    exact ⟨h1, h2.resolve_left (by rw [hi]; simp), h3⟩
  · rintro e a w ⟨h1, h2, h3⟩
    exact ⟨h1, h2.resolve_left (by rw [hj]; simp), h3⟩
theorem e_x {sc : Scr} (hS : S w) (k : SG P ops S Q n l ds sc w) : EW (XSQ P ops S Q sc) n l ds .normal w := by
  unfold EW XSQ; unfold SG at k; exact ⟨rfl, .inr hS, k⟩
theorem e_x0 (k : EW Q n l ds .normal w) : EW (XSQ P ops S Q .done) n l ds .normal w := by
  unfold EW XSQ at *; exact ⟨rfl, .inl rfl, k⟩
end
end Go.Proofs.YtmgheamdboiklaaDoor
