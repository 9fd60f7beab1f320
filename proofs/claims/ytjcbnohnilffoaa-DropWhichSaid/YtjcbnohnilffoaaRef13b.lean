/- THE WALKS of the document's answer for paths (remoraref13): glue, Parent, Base. -/
import Derived.Test.YtjcbnohnilffoaaRef13
import Derived.Lib.AppendStr
import Derived.Laws.IdiomStrings
set_option linter.unusedVariables false
set_option linter.unusedSimpArgs false
namespace Go.Proofs.Ytjcbnohnilffoaa
open Go.RowKit

def u8s (l : List UInt8) : List Value := l.map fun b => Value.int .u8 b.toNat
theorem u8s_len (l : List UInt8) : (u8s l).length = l.length := by simp [u8s]
section
variable {P : Program} {ops : Array Oper} {Q : Exit → Act → World → Prop} {n : Nat} {l : List (Nat × Value)} {ds : List Deferred} {rest : List Oper} {w : World}
variable {ty : TypeId} {pos : String} {aft : Array Edge} {d : Nat}
/-- 'append(b, s...)' of a text -/
theorem w_appendT {t e u : TypeId} {s x : Operand} {base nn : Nat} {v : Value} {xs : List Value} {str : ByteArray} [h : U P t (.slice e)] [hu : U P u .string] [hi : Inf P e 1 1 (.int .u8 0)] (hs : ev n l s = v) (hown : w.ownsRow base e 1 v nn xs)
    (hx : ev n l x = .string str) (hb : nn + str.size ≤ 140737488355328) (hbase : base ≤ w.heap.size) (hd : Nat.blt d n = true)
    (k : ∀ v' w', w'.ownsRow base e 1 v' (nn + str.size) (xs ++ u8s (lsB str)) → w.grownBy w' v.ownBlock → W P ops Q n ((d, v') :: l) ds rest w') :
    W P ops Q n l ds (⟨some d, .call { callee := .builtin .append, args := #[s, x], argTypes := #[t, u] }, ty, pos, aft, none⟩ :: rest) w := by
  obtain ⟨i, i1, i2, i3, i4⟩ := hi.out
  obtain ⟨v', w', hr, h2, h3, _⟩ := Lib.run_append_own_string (P := P) (w := w) base t u ty e i h.out hu.out i1 i4 i2 i3 v nn xs hown str (by unfold maxLen; omega) hb hbase
  refine w_op2 (v := v') (w' := w') ?_ hd (k _ _ h2 h3)
  unfold Op2; intros
  simp only [execOp, resolve, invoke, builtin, Sem.run_bind, Sem.run_pure, Result.andThen_ok, List.map_toArray, List.map_cons, List.map_nil, hs, hx, hr]
theorem p_bytesStr {ρ : Operand → Value} {src dst e : TypeId} {x : Operand} {base : Nat} {v : Value} {bs : List UInt8} [hs : U P src (.slice e)] [he : U P e (.int .u8)] [hd : U P dst .string] (hx : ρ x = v) (hown : w.ownsRow base e 1 v bs.length (u8s bs)) :
    Op1 P ρ (.convert src dst x) ty w (.string (mkB bs)) := by
  unfold Op1; intros
  have hsl : Sl (fun b : UInt8 => [Value.int .u8 b.toNat]) 1 w w.heap.size v bs := Sl.of_own (by rw [u8s, flatMap_one]) (fun _ => rfl) hown
  obtain ⟨A, c, rfl, hc, hA⟩ := hsl.out
  rcases Nat.eq_zero_or_pos bs.length with h0 | h0
  · obtain rfl := List.eq_nil_of_length_eq_zero h0
    have := run_convert_bytes_string (P := P) w src dst e A 0 c hs.out he.out hd.out
    simp only [execOp, hx, Sem.run_bind]
    rw [show (Value.slice A ([] : List UInt8).length c) = .slice A 0 c from rfl, this]
    rcases hown.2 with ⟨e1, _⟩ | ⟨g, cap, cur, e1, _⟩
    · injection e1 with e1 e2 e3
      subst e1 e3
      simp [Conv.bytesToString, mkB]
      rfl
    · injection e1 with e1 e2 e3
      subst e1
      have h2 := run_bytesToString (P := P) w ⟨g, 0, none⟩ 0 c [] (by simp [loadCells, loadCellsFrom])
      rw [h2]
      rfl
  · obtain ⟨ad, rfl, _, hcel⟩ := hA h0
    have := run_convert_bytes_back (P := P) w src dst e ad c bs hs.out he.out hd.out (fun j hj => by
      have h1 := (hcel j _ (List.getElem?_eq_getElem hj)).cell (j := 0) rfl
      rw [addr_add_add] at h1
      simpa using h1)
    simp only [execOp, hx, Sem.run_bind, this, Result.andThen_ok, Sem.run_pure]
    rfl
end

theorem glue_snoc (c : UInt8) : ∀ (l : List (List UInt8)) (x : List UInt8), glueL c (l ++ [x]) = if l = [] then x else glueL c l ++ c :: x
  | [], x => rfl
  | [a], x => by simp [glueL]
  | a :: b :: l, x => by
    have := glue_snoc c (b :: l) x
    simp only [List.cons_append] at this ⊢
    simp only [glueL]
    rw [this]
    simp
def glueB (l : List ByteArray) : List UInt8 := glueL 47 (l.map lsB)
theorem glueB_snoc (l : List ByteArray) (x : ByteArray) : glueB (l ++ [x]) = if l = [] then lsB x else glueB l ++ 47 :: lsB x := by
  unfold glueB
  rw [List.map_append, List.map_cons, List.map_nil, glue_snoc]
  by_cases h : l = [] <;> simp [h]
theorem glueB_le (l : List ByteArray) (k : Nat) : (glueB (l.take k)).length ≤ (glueB l).length := by
  have key : ∀ (a b : List (List UInt8)), (glueL 47 a).length ≤ (glueL 47 (a ++ b)).length := by
    intro a b
    induction b generalizing a with
    | nil => simp
    | cons x b ih =>
      have := ih (a ++ [x])
      rw [List.append_assoc, List.singleton_append] at this
      refine Nat.le_trans ?_ this
      rw [glue_snoc]
      split
      · rename_i h; subst h; simp [glueL]
      · simp
  have h := key ((l.take k).map lsB) ((l.drop k).map lsB)
  rw [← List.map_append, List.take_append_drop] at h
  exact h

set_option maxRecDepth 100000 in
theorem glue_ok (v : Value) (l : List ByteArray) (w : World) (B : Nat) (h : Strs w B v l) (hB : B ≤ w.heap.size) (hl : l.length ≤ 1099511627776) (hsz : (glueB l).length ≤ 1099511627775) :
    Ret Try.prog 52 [v] w fun v w' => v = .string (mkB (glueB l)) ∧ Below w.heap.size w w' := by
  obtain ⟨A, c, rfl, hc, hA⟩ := h.out
  refine calls_in Try.func52 rfl Try.ntmps52 rfl ?_
  repeat (first | (apply w_op; (first | (apply p_asI; apply Eq.refl) | (apply p_asS; apply Eq.refl) | (apply p_asL; apply Eq.refl)); apply Eq.refl) | (apply w_nil) | (apply c_seq) | (apply e_then) | (apply c_region) | (apply c_block))
  refine c_loop [3, 4] [5, 6, 7, 8, 9, 10, 11, 12, 13, 14, 15, 16, 17, 18, 19, 20, 21] (fun vs w2 => ∃ (v : Value) (k : Nat), vs = [v, .int .i64 (k : Int)] ∧ k ≤ l.length ∧ w2.ownsRow w.heap.size 5 1 v (glueB (l.take k)).length (u8s (glueB (l.take k))) ∧ Below w.heap.size w w2) (fun vs _ => l.length - (intOf ((vs.drop 1).headD undef)).toNat) rfl
    ⟨.slice none 0 0, 0, rfl, Nat.zero_le _, World.ownsRow_nil _ _ _ _, Below.refl _ _⟩ ?_
  rintro _ u w2 ⟨v, k, rfl, hk, hown, hb2⟩
  have z2 := hb2.size
  have hs2 := h.below (hb2.mono hB)
  repeat (first | (apply w_op; (first | (apply p_mvI; apply Eq.refl) | (apply p_mvL; apply Eq.refl) | (apply p_lss; apply Eq.refl; apply Eq.refl) | (apply p_len_sl; apply Eq.refl)); apply Eq.refl) | (apply w_nil) | (apply c_seq) | (apply e_then) | (apply c_region))
  refine c_cond rfl (fun g => ?_) (fun g => ?_)
  · have hk1 : k < l.length := by have := of_decide_eq_true g; omega
    obtain ⟨ad, rfl, _, hcel⟩ := hs2.at_ rfl hk1
    have hle := glueB_le l (k + 1)
    have htk : glueB (l.take (k + 1)) = if l.take k = [] then lsB l[k] else glueB (l.take k) ++ 47 :: lsB l[k] := by rw [List.take_succ_eq_append_getElem hk1, glueB_snoc]
    have hlk := ls_len l[k]
    repeat (first | (apply w_op; (first | (apply p_mvI; apply Eq.refl) | (apply p_gtr; apply Eq.refl; apply Eq.refl)); apply Eq.refl) | (apply w_nil) | (apply c_seq) | (apply e_then) | (apply c_region) | (apply c_block) | (apply c_skip))
    refine c_cut1 [3] [13, 14, 15] (fun vs w3 => ∃ (v3 : Value) (xs : List UInt8), vs = [v3] ∧ xs ++ lsB l[k] = glueB (l.take (k + 1)) ∧ w3.ownsRow w.heap.size 5 1 v3 xs.length (u8s xs) ∧ Below w.heap.size w w3) ?_ ?_
    · refine c_cond rfl (fun q => ?_) (fun q => ?_)
      · have hk0 : 0 < k := by have := of_decide_eq_true q; omega
        have hne : ¬ l.take k = [] := by intro e; have h7 := congrArg List.length e; rw [List.length_take, List.length_nil] at h7; omega
        rw [if_neg hne] at htk
        have hlen : (glueB (l.take k)).length + 1 ≤ 1099511627775 := by
          have e := congrArg List.length htk
          rw [List.length_append, List.length_cons] at e
          omega
        repeat (first | (apply w_op; (apply p_move); apply Eq.refl) | (apply c_region))
        refine w_app1 (v1 := .int .u8 47) rfl (fun _ => rfl) hown rfl rfl (by omega) rfl rfl (fun v4 w4 u4 hown4 hg4 hbl4 hs4 hnn4 => ?_)
        repeat (first | (apply w_op; (apply p_assign); apply Eq.refl) | (apply w_nil))
        refine e_ct (by repeat (first | exact Over.base | exact Over.refl | refine Over.put rfl ?_ | refine Over.cnP rfl ?_ | refine Over.zpP rfl ?_)) ?_
        refine ⟨v4, glueB (l.take k) ++ [47], rfl, by rw [htk]; simp, ?_, below_own hg4 hb2 (by omega) hown (Nat.le_refl _)⟩
        simpa [u8s, Value.cells] using hown4
      · have hk0 : k = 0 := by have := of_decide_eq_false q; omega
        subst hk0
        repeat (apply c_skip)
        refine e_ct (by repeat (first | exact Over.base | exact Over.refl | refine Over.put rfl ?_ | refine Over.cnP rfl ?_ | refine Over.zpP rfl ?_)) ?_
        refine ⟨v, [], rfl, ?_, ?_, hb2⟩
        · rw [htk]; simp
        · exact hown
    · rintro _ u3 w3 ⟨v3, xs, rfl, hxs, hown3, hb3⟩
      have z3 := hb3.size
      have hs3 := h.below (hb3.mono hB)
      obtain ⟨ad', e', _, hcel3⟩ := hs3.at_ rfl hk1
      injection e' with e'
      subst e'
      have hlen : xs.length + l[k].size ≤ 1099511627775 := by
        have := congrArg List.length hxs
        rw [List.length_append, hlk] at this
        omega
      repeat (first | (apply w_op; (first | (apply p_mvI; apply Eq.refl) | (apply p_mvL; apply Eq.refl) | (apply p_move) | (apply p_indexAddr; apply Eq.refl; apply Eq.refl; apply Eq.refl; omega)); apply Eq.refl) | (apply c_region))
      refine w_op (p_load0 (v := .string l[k]) rfl hcel3 rfl) rfl ?_
      refine w_appendT rfl hown3 rfl (by omega) (by omega) rfl (fun v4 w4 hown4 hg4 => ?_)
      repeat (first | (apply w_op; (first | (apply p_mvI; apply Eq.refl) | (apply p_asI; apply Eq.refl) | (apply p_assign) | (apply p_add64; apply Eq.refl; apply Eq.refl; omega)); apply Eq.refl) | (apply w_nil) | (apply e_then) | (apply c_region) | (apply e_bk))
      refine e_lp (by repeat (first | exact Over.base | exact Over.refl | refine Over.put rfl ?_ | refine Over.cnP rfl ?_ | refine Over.zpP rfl ?_)) ?_
      refine ⟨⟨v4, k + 1, rfl, by omega, ?_, below_own hg4 hb3 (by omega) hown3 (Nat.le_refl _)⟩, ?_⟩
      · rw [← hxs, List.length_append, hlk]
        simpa [u8s] using hown4
      · show l.length - ((k : Int) + 1).toNat < l.length - ((k : Int)).toNat
        omega
  · have hge := of_decide_eq_false g
    obtain rfl : k = l.length := by omega
    rw [List.take_length] at hown
    repeat (first | (apply w_op; (apply p_move); apply Eq.refl) | (apply c_seq) | (apply e_then) | (apply c_region) | (apply c_exit) | (apply e_then_exit) | (apply e_bk_same) | (apply e_lp_exit))
    refine w_op (p_bytesStr rfl hown) rfl ?_
    repeat (first | (apply w_op; (apply p_asS; apply Eq.refl); apply Eq.refl) | (apply w_nil) | (apply e_then) | (apply c_ret))
    exact r_ret1 Try.results52 rfl ⟨rfl, hb2⟩

theorem parent_split (p : ByteArray) : ((split p).length < 2 → parent p = noB) ∧ (¬ (split p).length < 2 → parent p = mkB (glueB (split p).dropLast)) ∧ (split p = [] → base p = noB) ∧ (∀ h : split p ≠ [], base p = (split p).getLast h) := by
  by_cases hm : (47 : UInt8) ∈ lsB p
  · have hne : lsB p ≠ [] := fun e => by rw [e] at hm; cases hm
    obtain ⟨a, b, e, hb⟩ : ∃ a b, lsB p = a ++ 47 :: b ∧ (47 : UInt8) ∉ b := by
      have : ∀ l : List UInt8, (47 : UInt8) ∈ l → ∃ a b, l = a ++ 47 :: b ∧ (47 : UInt8) ∉ b := by
        intro l
        induction l with
        | nil => intro h; cases h
        | cons x l ih =>
          intro h
          by_cases h2 : (47 : UInt8) ∈ l
          · obtain ⟨a, b, e, hb⟩ := ih h2
            exact ⟨x :: a, b, by rw [e]; rfl, hb⟩
          · rcases List.mem_cons.1 h with h | h
            · exact ⟨[], l, by rw [← h]; rfl, h2⟩
            · exact absurd h h2
      exact this _ hm
    have hcut : ∀ (a b : List UInt8), (47 : UInt8) ∉ b → cutAt 47 (a ++ 47 :: b) = cutAt 47 a ++ [b] := by
      intro a b hb
      induction a with
      | nil =>
        have := cutAt_hit 47 [] b (by simp)
        simp only [List.nil_append] at this ⊢
        rw [this, cutAt_none 47 b hb]
        rfl
      | cons x a ih =>
        by_cases hx : x = 47
        · subst hx
          have h1 := cutAt_hit 47 [] (a ++ 47 :: b) (by simp)
          have h2 := cutAt_hit 47 [] a (by simp)
          simp only [List.nil_append] at h1 h2
          rw [List.cons_append, h1, h2, ih]
          rfl
        · simp only [List.cons_append, cutAt, if_neg hx, ih]
          cases hc : cutAt 47 a with
          | nil => exact absurd hc (cutAt_ne 47 a)
          | cons y r => simp
    have hs : split p = (cutAt 47 a).map mkB ++ [mkB b] := by
      unfold split partsL
      rw [if_neg hne, e, hcut a b hb]
      simp
    have hl : 1 ≤ (cutAt 47 a).length := List.length_pos_iff.2 (cutAt_ne 47 a)
    have hpar := parentL_some hb (a := a)
    refine ⟨fun h => by rw [hs] at h; simp at h; omega, fun _ => ?_, fun h => by rw [hs] at h; simp at h, fun h => ?_⟩
    · rw [hs, List.dropLast_concat, glueB, List.map_map]
      have : lsB ∘ mkB = id := by funext x; exact ls_mk x
      rw [this, List.map_id, glue_cut, parent, e, hpar.1]
    · have hlast : (split p).getLast h = mkB b := by simp [hs]
      rw [hlast, base, e, hpar.2]
  · have hpar := parentL_none hm
    have hs : split p = [p] ∨ split p = [] := by
      unfold split partsL
      split
      · exact .inr rfl
      · rw [cutAt_none 47 _ hm]; exact .inl (by simp [mk_ls])
    refine ⟨fun _ => by rw [parent, hpar.1]; rfl, fun h => by rcases hs with e | e <;> rw [e] at h <;> simp at h, fun h => ?_, fun h => ?_⟩
    · have : p = noB := split_inj (h.trans split_nil.symm)
      subst this
      rfl
    · rcases hs with e | e
      · simp only [e, List.getLast_singleton]
        rw [base, hpar.2, mk_ls]
      · exact absurd e h
theorem glueB_split (p : ByteArray) : glueB (split p) = lsB p := by
  unfold glueB split
  rw [List.map_map]
  have : lsB ∘ mkB = id := by funext x; exact ls_mk x
  rw [this, List.map_id]
  unfold partsL
  split
  · rename_i h; rw [h]; rfl
  · exact glue_cut 47 _

theorem rparent_ok (p : ByteArray) (w : World) (hs : p.size ≤ 1099511627775) : Ret Try.prog 39 [.string p] w fun v w' => v = .string (parent p) ∧ Below w.heap.size w w' := by
  obtain ⟨h1, h2, _, _⟩ := parent_split p
  refine calls_in Try.func39 rfl Try.ntmps39 rfl ?_
  repeat (first | (apply w_op; (first | (apply p_mvS; apply Eq.refl) | (apply p_asS; apply Eq.refl)); apply Eq.refl) | (apply w_nil) | (apply c_seq) | (apply e_then) | (apply c_region))
  refine w_call cl51 (rsplit_ok p _ hs) rfl ?_
  rintro v w1 ⟨hown, hb1⟩
  have hsl : Strs w1 w1.heap.size v (split p) := Sl.of_own rfl (fun _ => rfl) hown
  obtain ⟨A, c, rfl, hc, hA⟩ := hsl.out
  have hlen : (split p).length ≤ 1099511627776 := split_len p (by omega)
  repeat (first | (apply w_op; (first | (apply p_mvL; apply Eq.refl) | (apply p_asL; apply Eq.refl) | (apply p_lss; apply Eq.refl; apply Eq.refl) | (apply p_len_sl; apply Eq.refl)); apply Eq.refl) | (apply w_nil) | (apply c_seq) | (apply e_then) | (apply c_region))
  refine c_cond rfl (fun g => ?_) (fun g => ?_)
  · have g' := of_decide_eq_true g
    repeat (first | (apply w_op; (apply p_asS; apply Eq.refl); apply Eq.refl) | (apply w_nil) | (apply c_seq) | (apply e_then) | (apply c_region) | (apply c_ret) | (apply e_then_ret))
    refine r_ret1 Try.results39 rfl ⟨?_, hb1⟩
    rw [h1 (by omega)]; rfl
  · have g' := of_decide_eq_false g
    have hdl : (split p).dropLast = (split p).take ((split p).length - 1) := List.dropLast_eq_take
    repeat (first | (apply w_op; (first | (apply p_mvL; apply Eq.refl) | (apply p_len_sl; apply Eq.refl) | (apply p_sub64; apply Eq.refl; apply Eq.refl; omega)); apply Eq.refl) | (apply c_seq) | (apply e_then) | (apply c_region) | (apply c_skip))
    obtain ⟨Ac, hAc⟩ : ∃ Ac, cutA A 0 c 1 = Ac := ⟨_, rfl⟩
    have hh : Strs w1 w1.heap.size (.slice Ac ((split p).length - 1) c) ((split p).take ((split p).length - 1)) := by
      have := hsl.head rfl (k := (split p).length - 1) (by omega)
      rw [hAc] at this
      exact this
    refine w_op (v := .slice Ac ((split p).length - 1) c) (by rw [← hAc, show (split p).length - 1 = (((split p).length : Int) - 1).toNat by omega]; exact p_cut_h (hi := ((split p).length : Int) - 1) rfl rfl (by omega)) rfl ?_
    have hgl := glueB_le (split p) ((split p).length - 1)
    rw [glueB_split, ls_len] at hgl
    refine w_call cl52 (glue_ok _ _ _ _ hh (Nat.le_refl _) (by rw [List.length_take]; omega) (by omega)) rfl ?_
    rintro v w2 ⟨rfl, hb2⟩
    repeat (first | (apply w_op; (apply p_asS; apply Eq.refl); apply Eq.refl) | (apply w_nil) | (apply e_then) | (apply c_ret))
    refine r_ret1 Try.results39 rfl ⟨?_, hb1.trans (hb2.mono hb1.size)⟩
    rw [h2 (by omega), hdl]; rfl

theorem rbase_ok (p : ByteArray) (w : World) (hs : p.size ≤ 1099511627775) : Ret Try.prog 81 [.string p] w fun v w' => v = .string (base p) ∧ Below w.heap.size w w' := by
  obtain ⟨_, _, h3, h4⟩ := parent_split p
  refine calls_in Try.func81 rfl Try.ntmps81 rfl ?_
  repeat (first | (apply w_op; (first | (apply p_mvS; apply Eq.refl) | (apply p_asS; apply Eq.refl)); apply Eq.refl) | (apply w_nil) | (apply c_seq) | (apply e_then) | (apply c_region))
  refine w_call cl51 (rsplit_ok p _ hs) rfl ?_
  rintro v w1 ⟨hown, hb1⟩
  have hsl : Strs w1 w1.heap.size v (split p) := Sl.of_own rfl (fun _ => rfl) hown
  obtain ⟨A, c, rfl, hc, hA⟩ := hsl.out
  have hlen : (split p).length ≤ 1099511627776 := split_len p (by omega)
  repeat (first | (apply w_op; (first | (apply p_mvL; apply Eq.refl) | (apply p_asL; apply Eq.refl) | (apply p_eql; apply Eq.refl; apply Eq.refl) | (apply p_len_sl; apply Eq.refl)); apply Eq.refl) | (apply w_nil) | (apply c_seq) | (apply e_then) | (apply c_region))
  refine c_cond rfl (fun g => ?_) (fun g => ?_)
  · have g' := of_decide_eq_true g
    repeat (first | (apply w_op; (apply p_asS; apply Eq.refl); apply Eq.refl) | (apply w_nil) | (apply c_seq) | (apply e_then) | (apply c_region) | (apply c_ret) | (apply e_then_ret))
    refine r_ret1 Try.results81 rfl ⟨?_, hb1⟩
    rw [h3 (List.eq_nil_of_length_eq_zero (by omega))]; rfl
  · have g' := of_decide_eq_false g
    have hne : split p ≠ [] := fun e => g' (by rw [e]; rfl)
    have hk1 : (split p).length - 1 < (split p).length := by have := List.length_pos_iff.2 hne; omega
    obtain ⟨ad, rfl, _, hcel⟩ := hsl.at_ rfl hk1
    have hb := h4 hne
    rw [List.getLast_eq_getElem] at hb
    repeat (first | (apply w_op; (first | (apply p_mvL; apply Eq.refl) | (apply p_len_sl; apply Eq.refl) | (apply p_sub64; apply Eq.refl; apply Eq.refl; omega) | (apply p_indexAddr; apply Eq.refl; apply Eq.refl; apply Eq.refl; omega)); apply Eq.refl) | (apply c_seq) | (apply e_then) | (apply c_region) | (apply c_skip))
    refine w_op (p_load0 (v := .string (base p)) rfl (by rw [show (((split p).length : Int) - 1).toNat = (split p).length - 1 by omega]; exact hcel) (by rw [hb]; rfl)) rfl ?_
    repeat (first | (apply w_op; (apply p_asS; apply Eq.refl); apply Eq.refl) | (apply w_nil) | (apply e_then) | (apply c_ret))
    exact r_ret1 Try.results81 rfl ⟨rfl, hb1⟩
end Go.Proofs.Ytjcbnohnilffoaa
