/- FUNCTIONS THAT DEFER a closure. General: no program in it. -/
import Derived.Test.YtjcbnohnilffoaaEng
import Derived.Defers
set_option linter.unusedVariables false
namespace Go.Proofs.Ytjcbnohnilffoaa
open Go.RowKit
section
variable {P : Program} {ops : Array Oper} {Q : Exit → Act → World → Prop} {n : Nat} {l : List (Nat × Value)} {ds : List Deferred} {rest : List Oper} {w : World}
variable {ty : TypeId} {pos : String} {aft : Array Edge}
def BdD (P : Program) (fn : Func) (R : Value → World → Prop) : Exit → Act → World → Prop := bodyPostD P fn fun e w => ∃ v, e = .returned v ∧ R v w
@[irreducible] def DRet (P : Program) (f : FuncId) (args : List Value) (w : World) (R : Value → World → Prop) : Prop := CallsD P f args.toArray .returning w fun e u' w' => u' = .returning ∧ ∃ v, e = .returned v ∧ R v w'
theorem ini_fr {fn : Func} {args : List Value} (hn : fn.ntmps = n) (ha : Nat.ble args.length n = true) : ({ tmps := args.toArray ++ Array.replicate (fn.ntmps - args.toArray.size) undef, defers := [] } : Act) = fr n (ini 0 args) [] := by
  have hl : args.length ≤ n := by simpa using ha
  simp only [fr, Act.mk.injEq, and_true]
  apply Array.ext
  · simp [hn]; omega
  · intro i h1 h2
    simp at h1 h2
    simp only [Array.getElem_map, Array.getElem_range, lk_ini]
    rw [Array.getElem_append]
    by_cases hi : i < args.length
    · simp [hi, List.getD]
    · simp [hi, List.getD]
theorem calls_inD {f : FuncId} {fn : Func} {c : Code} {args : List Value} {R : Value → World → Prop} (hf : P.funcs[f]? = some fn) (hb : fn.body = some c) (hn : fn.ntmps = n) (ha : Nat.ble args.length n = true)
    (k : CW P (BdD P fn R) n (ini 0 args) [] c w) : Ret P f args w R := by
  unfold Ret
  refine calls_of_wp_defers hf hb ?_
  unfold CW at k
  rw [ini_fr hn ha]
  exact k
theorem dcalls_in {f : FuncId} {fn : Func} {c : Code} {args : List Value} {R : Value → World → Prop} (hf : P.funcs[f]? = some fn) (hb : fn.body = some c) (hn : fn.ntmps = n) (ha : Nat.ble args.length n = true)
    (k : CW P (Bd P fn R) n (ini 0 args) [] c w) : DRet P f args w R := by
  unfold DRet
  unfold CW at k
  refine (callsD_of_wp hf hb (R := fun e w => ∃ v, e = .returned v ∧ R v w) ?_).mono fun e u' w' h => h
  rw [ini_fr hn ha]
  exact k
theorem w_defer {fv : Operand} {f : FuncId} {first captured : Array Value} {as : Array Operand} {ats : Array TypeId} (hfv : ev n l fv = .func (.func f) first captured)
    (k : W P ops Q n l (⟨.fn (.func f) captured, (first.toList ++ as.toList.map (ev n l)).toArray⟩ :: ds) rest w) : W P ops Q n l ds (⟨none, .defer { callee := .value fv, args := as, argTypes := ats }, ty, pos, aft, none⟩ :: rest) w := by
  have e : (first.toList ++ as.toList.map (ev n l)).toArray = first ++ as.map (ev n l) := by apply Array.ext'; simp
  rw [e] at k
  unfold W at *
  refine wpList_plain rfl fun K hK => ?_
  unfold Oper.wp
  rw [fr_eval]
  have : (execOp (ev n l) ⟨none, .defer { callee := .value fv, args := as, argTypes := ats }, ty, pos, aft, none⟩).run P w = .ok (.defer ⟨.fn (.func f) captured, first ++ as.map (ev n l)⟩) w := by
    simp [execOp, resolve, Deferred.ofValue, hfv]
  rw [this]
  exact hK _ _ k
theorem r_endD {fn : Func} {f : FuncId} {cap args : Array Value} {R R' : Value → World → Prop} (hres : fn.results = #[]) (hcall : CallIn P f) (h : DRet P f (args.toList ++ cap.toList) w R') (k : ∀ v w', R' v w' → R (.tuple #[]) w') : EW (BdD P fn R) n l [⟨.fn (.func f) cap, args⟩] .normal w := by
  unfold EW BdD
  show Leaves P fn _ _ _ _ _
  refine leaves_cons (f := f) (args := args ++ cap) (by simp) ?_ ?_
  · simp [invoke, hcall (args ++ cap) w]
  · unfold DRet at h
    have h' : CallsD P f (args ++ cap) .returning w fun e u' w' => u' = .returning ∧ ∃ v, e = .returned v ∧ R' v w' := by
      rw [show (args.toList ++ cap.toList).toArray = args ++ cap from by apply Array.ext'; simp] at h
      exact h
    refine h'.mono ?_
    rintro e u' w' ⟨rfl, v, rfl, hR⟩
    show Leaves P fn _ _ [] .returning w'
    exact ⟨_, results_none hres _ _ _, _, rfl, k v w' hR⟩
end
end Go.Proofs.Ytjcbnohnilffoaa
