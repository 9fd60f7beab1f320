/- MAPS with string keys, with their keys known: read, written, struck, counted, gone through. General: no program in it. -/
import Derived.Test.YtmgheamdboiklaaDoorMap
import Derived.Test.YtmgheamdboiklaaDoorSc
import Derived.Laws.NewFold
set_option linter.unusedVariables false
set_option linter.unusedSimpArgs false
namespace Go.Proofs.YtmgheamdboiklaaDoor
open Go.RowKit

def rmS (s : ByteArray) (ks : List ByteArray) : List ByteArray := ks.filter fun k => !decide (k = s)
theorem rmS_nodup {s : ByteArray} {ks : List ByteArray} (h : ks.Nodup) : (rmS s ks).Nodup := List.Pairwise.filter _ h
theorem rmS_none {s : ByteArray} {ks : List ByteArray} (h : s ∉ ks) : rmS s ks = ks := List.filter_eq_self.2 fun k hk => by
  have : k ≠ s := fun e => h (e ▸ hk)
  simp [this]
theorem rmS_head {s : ByteArray} {ks : List ByteArray} (h : (s :: ks).Nodup) : rmS s (s :: ks) = ks := by
  rw [rmS, List.filter_cons, if_neg (by simp)]
  exact rmS_none (List.nodup_cons.1 h).1
theorem rmS_perm {s : ByteArray} {ks ks' : List ByteArray} (h : ks.Perm ks') : (rmS s ks).Perm (rmS s ks') := h.filter _
theorem mem_rmS {s t : ByteArray} {ks : List ByteArray} : t ∈ rmS s ks ↔ t ∈ ks ∧ t ≠ s := by simp [rmS]
def keyS (v : Value) : ByteArray := match v with | .string s => s | _ => { data := #[] }
/-- block b is a map that reads as m; its keys are ks, each once -/
structure Mk (w : World) (b : Nat) (m : ByteArray → Option Value) (ks : List ByteArray) : Prop where
  out : ∃ (es : Array MapEntry) (clock : Nat), w.heap[b]? = some (.map es clock) ∧ StrKeys es.toList ∧ (∀ s, fnd es.toList s = m s) ∧ (es.toList.map (fun e => keyS e.key)).Perm ks ∧ ks.Nodup ∧
    (∀ e ∈ es.toList, e.born < clock) ∧ (es.toList.map (·.born)).Nodup
section
variable {w w' : World} {b : Nat} {m : ByteArray → Option Value} {ks : List ByteArray}
theorem Mk.mp (h : Mk w b m ks) : Mp w b m ks.length := by
  obtain ⟨es, c, h1, h2, h3, h4, _⟩ := h.out
  refine ⟨es, c, h1, h2, h3, ?_⟩
  have := h4.length_eq
  simp at this
  omega
theorem Mk.lt (h : Mk w b m ks) : b < w.heap.size := h.mp.lt
theorem Mk.keep (h : Mk w b m ks) (hk : w'.heap[b]? = w.heap[b]?) : Mk w' b m ks := by
  obtain ⟨es, c, h1, r⟩ := h.out
  exact ⟨es, c, hk.trans h1, r⟩
theorem Mk.grown (h : Mk w b m ks) {row : Option Nat} (hg : w.grownBy w' row) (hne : some b ≠ row) : Mk w' b m ks := h.keep (hg.block b h.lt hne)
theorem Mk.below {B : Nat} (h : Mk w b m ks) (hb : Below B w w') (hB : b < B) : Mk w' b m ks := h.keep (hb.block b hB)
theorem Mk.drew (h : Mk w b m ks) : Mk w.drew b m ks := h.keep rfl
theorem Mk.perm (h : Mk w b m ks) {ks' : List ByteArray} (hp : ks.Perm ks') : Mk w b m ks' := by
  obtain ⟨es, c, h1, h2, h3, h4, h5, r⟩ := h.out
  exact ⟨es, c, h1, h2, h3, h4.trans hp, hp.nodup_iff.1 h5, r⟩
theorem Mk.fun_ {m' : ByteArray → Option Value} (h : Mk w b m ks) (e : ∀ s, m s = m' s) : Mk w b m' ks := by
  obtain ⟨es, c, h1, h2, h3, r⟩ := h.out
  exact ⟨es, c, h1, h2, fun s => (h3 s).trans (e s), r⟩
theorem New.mk_ (h : New w w' b (.map #[] 0)) : Mk w' b (fun _ => none) [] := ⟨#[], 0, h.at_, by simp [StrKeys], fun s => rfl, by simp, by simp, by simp, by simp⟩
theorem fnd_some : ∀ {es : List MapEntry}, StrKeys es → ∀ {s : ByteArray}, (fnd es s).isSome = true ↔ s ∈ es.map (fun e => keyS e.key)
  | [], _, s => by simp [fnd]
  | e :: es, h, s => by
    obtain ⟨t, ht⟩ := h e (by simp)
    have ih := fnd_some (es := es) (fun x hx => h x (by simp [hx])) (s := s)
    by_cases hst : s = t
    · subst hst
      rw [fnd_hit ht]
      simp [ht, keyS]
    · rw [fnd_miss (by rw [ht]; intro e; injection e with e; exact hst e.symm), ih]
      simp [ht, keyS, hst]
theorem Mk.mem (h : Mk w b m ks) (s : ByteArray) : (m s).isSome = true ↔ s ∈ ks := by
  obtain ⟨es, c, h1, h2, h3, h4, _⟩ := h.out
  rw [← h3, fnd_some h2, h4.mem_iff]
theorem Mk.mem_none (h : Mk w b m ks) {s : ByteArray} (hs : m s = none) : s ∉ ks := fun hm => by
  have := (h.mem s).2 hm
  rw [hs] at this
  cases this
theorem keys_nodup {es : List MapEntry} (h : StrKeys es) (hn : (es.map (fun e => keyS e.key)).Nodup) : ∀ {x y : MapEntry}, x ∈ es → y ∈ es → x.key = y.key → x = y := by
  intro x y hx hy e
  obtain ⟨i, hi, rfl⟩ := List.mem_iff_getElem.1 hx
  obtain ⟨j, hj, rfl⟩ := List.mem_iff_getElem.1 hy
  have hp := List.pairwise_iff_getElem.1 hn
  rcases Nat.lt_trichotomy i j with q | q | q
  · exact (hp i j (by simpa using hi) (by simpa using hj) q (by simp [e])).elim
  · subst q; rfl
  · exact (hp j i (by simpa using hj) (by simpa using hi) q (by simp [e])).elim
theorem fnd_mem : ∀ {es : List MapEntry}, StrKeys es → (es.map (fun e => keyS e.key)).Nodup → ∀ {e : MapEntry} {s : ByteArray}, e ∈ es → e.key = .string s → fnd es s = some e.val
  | x :: es, h, hn, e, s, he, hk => by
    rw [List.map_cons, List.nodup_cons] at hn
    rcases List.mem_cons.1 he with rfl | he
    · exact fnd_hit hk
    · have hne : x.key ≠ .string s := by
        intro q
        apply hn.1
        rw [q]
        exact List.mem_map.2 ⟨e, he, by rw [hk]⟩
      rw [fnd_miss hne]
      exact fnd_mem (fun y hy => h y (by simp [hy])) hn.2 he hk
end

section
variable {P : Program} {ops : Array Oper} {Q : Exit → Act → World → Prop} {n : Nat} {l : List (Nat × Value)} {ds : List Deferred} {rest : List Oper} {w : World}
variable {ty : TypeId} {pos : String} {aft : Array Edge} {d : Nat}
/-- len of a map -/
theorem p_len_map {ρ : Operand → Value} {t k e : TypeId} {x : Operand} {b : Nat} {m : ByteArray → Option Value} {ks : List ByteArray} [ht : U P t (.map k e)] (hx : ρ x = .map (some b)) (h : Mk w b m ks) :
    Op1 P ρ (.call { callee := .builtin .len, args := #[x], argTypes := #[t] }) ty w (.int .i64 ks.length) := by
  obtain ⟨es, c, h1, h2, h3, h4, _⟩ := h.out
  have hl := h4.length_eq
  have hg : (getObj b).run P w = .ok (.map es c) w := by simp [getObj, Sem.run, h1]
  have hl' : es.size = ks.length := by simpa using hl
  unfold Op1; intros
  simp [execOp, resolve, invoke, builtin, hx, Builtin.len_, run_underlying ht.out, hg, hl', goInt]
theorem p_len_nilmap {ρ : Operand → Value} {t k e : TypeId} {x : Operand} [ht : U P t (.map k e)] (hx : ρ x = .map none) :
    Op1 P ρ (.call { callee := .builtin .len, args := #[x], argTypes := #[t] }) ty w (.int .i64 0) := by
  unfold Op1; intros
  simp [execOp, resolve, invoke, builtin, hx, Builtin.len_, run_underlying ht.out, goInt]
theorem p_lookup_nil {ρ : Operand → Value} {t k e : TypeId} {x y : Operand} {sz by_ : Nat} {z : Value} {s : ByteArray} [ht : U P t (.map k e)] [hk : U P k .string] [hi : Inf P e sz by_ z] (hx : ρ x = .map none) (hy : ρ y = .string s) :
    Op1 P ρ (.lookup t x y false) ty w z := by
  have e1 := run_checkKey' (P := P) (w := w) hk.out true s
  have e2 := run_findKey (P := P) (w := w) hk.out s (es := []) (r := none) rfl
  have e3 := hi.zero_ w
  unfold Op1; intros
  simp [execOp, hx, hy, Instr.lookup, run_underlying ht.out, e1, e2, e3]
theorem run_mapUpdateK {t k e : TypeId} {b : Nat} {m : ByteArray → Option Value} {ks : List ByteArray} {s : ByteArray} (v : Value) (ht : P.underlying t = some (.map k e)) (hk : P.underlying k = some .string) (h : Mk w b m ks) :
    ∃ w', (Instr.mapUpdate t (.map (some b)) (.string s) v).run P w = .ok () w' ∧ Put w w' b ∧ Mk w' b (fun s' => if s' = s then some v else m s') (if (m s).isSome = true then ks else s :: ks) := by
  have hlt := h.lt
  have hmem := h.mem s
  obtain ⟨es, c, hb, hs, hf, hp, hnd, hborn, hbn⟩ := h.out
  obtain ⟨r, h1, h2, h3⟩ := findNow_str s es.toList 0 hs
  have hg : (getObj b).run P w = .ok (.map es c) w := by simp [getObj, Sem.run, hb]
  have e1 := run_checkKey' (P := P) (w := w) hk false s
  have e2 := run_findKey (P := P) (w := w) hk s h1
  rw [hf] at h2
  cases r with
  | none =>
    have hns : s ∉ ks := fun q => by have := hmem.2 q; rw [h2] at this; cases this
    rw [h2, if_neg (by simp)]
    refine ⟨{ w with heap := w.heap.setIfInBounds b (.map (es.push ⟨.string s, v, c⟩) (c + 1)) }, ?_, put_setObj w b _, es.push ⟨.string s, v, c⟩, c + 1, by simp [hlt], ?_, ?_, ?_, ?_, ?_, ?_⟩
    · simp [Instr.mapUpdate, run_underlying ht, hg, e1, e2, run_setObj _ hb]
    · intro x hx
      simp at hx
      rcases hx with hx | hx
      · exact hs x (by simpa using hx)
      · subst hx; exact ⟨s, rfl⟩
    · intro s'
      rw [Array.toList_push, fnd_push _ _ _ _ (by rw [hf, h2]; rfl), hf]
    · rw [Array.toList_push, List.map_append]
      exact (List.perm_append_singleton _ _).trans (hp.cons _)
    · exact List.nodup_cons.2 ⟨hns, hnd⟩
    · intro x hx
      simp at hx
      rcases hx with hx | hx
      · have := hborn x (by simpa using hx); omega
      · subst hx; show c < c + 1; omega
    · rw [Array.toList_push, List.map_append]
      refine List.nodup_append.2 ⟨hbn, by simp, fun a ha b' hb' => ?_⟩
      simp at hb'
      subst hb'
      obtain ⟨x, hx, rfl⟩ := List.mem_map.1 ha
      have := hborn x hx
      omega
  | some q =>
    obtain ⟨j, v0⟩ := q
    obtain ⟨_, x, h5, h6, h7⟩ := h3 j v0 rfl
    simp only [Nat.sub_zero] at h5 h7
    rw [h2]
    simp only [Option.map_some, Option.isSome_some, if_true]
    have hj : es[j]? = some x := by simpa using h5
    have hkey : (((es[j]?).map (·.key)).getD (.string s)) = .string s := by rw [hj]; simp [h6]
    have hsame : (Instr.keyThatStays (.string s) (.string s)).run P w = .ok (.string s) w := MapKept.run_keyThatStays (d := .string) trivial
    have hmk : (es.toList.modify j fun e => { e with key := .string s, val := v }).map (·.key) = es.toList.map (·.key) := by
      apply List.ext_getElem?
      intro i
      rw [List.getElem?_map, List.getElem?_map, List.getElem?_modify]
      split
      · rename_i e; subst e; rw [h5]; simp [h6]
      · simp
    have hmb : (es.toList.modify j fun e => { e with key := .string s, val := v }).map (·.born) = es.toList.map (·.born) := by
      apply List.ext_getElem?
      intro i
      rw [List.getElem?_map, List.getElem?_map, List.getElem?_modify]
      split
      · rename_i e; subst e; rw [h5]; simp
      · simp
    have hmk2 : (es.toList.modify j fun e => { e with key := .string s, val := v }).map (fun e => keyS e.key) = es.toList.map (fun e => keyS e.key) := by
      have := congrArg (List.map keyS) hmk
      rw [List.map_map, List.map_map] at this
      exact this
    refine ⟨{ w with heap := w.heap.setIfInBounds b (.map (es.modify j fun e => { e with key := .string s, val := v }) c) }, ?_, put_setObj w b _, es.modify j fun e => { e with key := .string s, val := v }, c, by simp [hlt], ?_, ?_, ?_, hnd, ?_, ?_⟩
    · simp [Instr.mapUpdate, run_underlying ht, hg, e1, e2, hkey, hsame, run_setObj _ hb]
    · intro y hy
      rw [Array.toList_modify] at hy
      have : y.key ∈ es.toList.map (·.key) := by rw [← hmk]; exact List.mem_map.2 ⟨y, hy, rfl⟩
      obtain ⟨z, hz, e⟩ := List.mem_map.1 this
      obtain ⟨t, ht⟩ := hs z hz
      exact ⟨t, e ▸ ht⟩
    · intro s'
      rw [Array.toList_modify, fnd_set s v es.toList j x h5 h6 h7, hf]
    · rw [Array.toList_modify, hmk2]; exact hp
    · intro y hy
      rw [Array.toList_modify] at hy
      have : y.born ∈ es.toList.map (·.born) := by rw [← hmb]; exact List.mem_map.2 ⟨y, hy, rfl⟩
      obtain ⟨z, hz, e⟩ := List.mem_map.1 this
      have := hborn z hz
      omega
    · rw [Array.toList_modify, hmb]; exact hbn
theorem w_mapUpdateK {t k e : TypeId} {a y x : Operand} {b : Nat} {m : ByteArray → Option Value} {ks : List ByteArray} {s : ByteArray} {v : Value} [ht : U P t (.map k e)] [hk : U P k .string] (ha : ev n l a = .map (some b)) (hy : ev n l y = .string s) (hx : ev n l x = v) (h : Mk w b m ks)
    (k : ∀ w', Put w w' b → Mk w' b (fun s' => if s' = s then some v else m s') (if (m s).isSome = true then ks else s :: ks) → W P ops Q n l ds rest w') :
    W P ops Q n l ds (⟨none, .mapUpdate t a y x, ty, pos, aft, none⟩ :: rest) w := by
  obtain ⟨w', h1, h2, h3⟩ := run_mapUpdateK (P := P) (s := s) v ht.out hk.out h
  refine w_op0 (w' := w') ?_ (k w' h2 h3)
  unfold Op0; intros
  simp [execOp, ha, hy, hx, h1]
/-- delete -/
theorem w_delete {t k e ty2 : TypeId} {a y : Operand} {b : Nat} {m : ByteArray → Option Value} {ks : List ByteArray} {s : ByteArray} [ht : U P t (.map k e)] [hk : U P k .string] (ha : ev n l a = .map (some b)) (hy : ev n l y = .string s) (h : Mk w b m ks) (hd : Nat.blt d n = true)
    (k : ∀ w', Put w w' b → Mk w' b (fun s' => if s' = s then none else m s') (rmS s ks) → W P ops Q n ((d, .tuple #[]) :: l) ds rest w') :
    W P ops Q n l ds (⟨some d, .call { callee := .builtin .delete, args := #[a, y], argTypes := #[t, ty2] }, ty, pos, aft, none⟩ :: rest) w := by
  have hlt := h.lt
  have hmem := h.mem s
  obtain ⟨es, c, hb, hs, hf, hp, hnd, hborn, hbn⟩ := h.out
  obtain ⟨r, h1, h2, h3⟩ := findNow_str s es.toList 0 hs
  have hg : (getObj b).run P w = .ok (.map es c) w := by simp [getObj, Sem.run, hb]
  have e1 := run_checkKey' (P := P) (w := w) hk.out es.isEmpty s
  have e2 := run_findKey (P := P) (w := w) hk.out s h1
  rw [hf] at h2
  cases r with
  | none =>
    have hns : s ∉ ks := fun q => by have := hmem.2 q; rw [h2] at this; cases this
    refine w_op2 (v := .tuple #[]) (w' := { w with heap := w.heap.setIfInBounds b (.map es c) }) ?_ hd (k _ (put_setObj w b _) ?_)
    · unfold Op2; intros
      simp [execOp, resolve, invoke, builtin, ha, hy, Builtin.delete_, run_underlying ht.out, hg, e1, e2, run_setObj _ hb]
    · rw [rmS_none hns]
      refine ⟨es, c, by simp [hlt], hs, fun s' => ?_, hp, hnd, hborn, hbn⟩
      by_cases q : s' = s
      · subst q; rw [hf, h2]; simp
      · simp [q, hf]
  | some q =>
    obtain ⟨j, v0⟩ := q
    obtain ⟨_, x, h5, h6, h7⟩ := h3 j v0 rfl
    simp only [Nat.sub_zero] at h5 h7
    have hj : j < es.size := by have := (List.getElem?_eq_some_iff.1 h5).1; simpa using this
    have hel : es.toList = es.toList.take j ++ x :: es.toList.drop (j + 1) := by
      conv => lhs; rw [← List.take_append_drop j es.toList]
      congr 1
      obtain ⟨q1, q2⟩ := List.getElem?_eq_some_iff.1 h5
      rw [List.drop_eq_getElem_cons q1, q2]
    have herl : (es.eraseIdxIfInBounds j).toList = es.toList.take j ++ es.toList.drop (j + 1) := by
      rw [Array.eraseIdxIfInBounds, dif_pos hj, Array.toList_eraseIdx, List.eraseIdx_eq_take_drop_succ]
    have hkk : keyS x.key = s := by rw [h6]; rfl
    have hperm : (es.toList.map (fun e => keyS e.key)).Perm (s :: ((es.toList.take j ++ es.toList.drop (j + 1)).map (fun e => keyS e.key))) := by
      conv => lhs; rw [hel]
      rw [List.map_append, List.map_cons, hkk, List.map_append]
      exact List.perm_middle
    have hnd2 : (s :: ((es.toList.take j ++ es.toList.drop (j + 1)).map (fun e => keyS e.key))).Nodup := (hperm.symm.trans hp).nodup_iff.2 hnd
    have hsub : ∀ e ∈ es.toList.take j ++ es.toList.drop (j + 1), e ∈ es.toList := fun e he => by
      rcases List.mem_append.1 he with he | he
      · exact List.mem_of_mem_take he
      · exact List.mem_of_mem_drop he
    have hs2 : StrKeys (es.toList.take j ++ es.toList.drop (j + 1)) := fun e he => hs e (hsub e he)
    refine w_op2 (v := .tuple #[]) (w' := { w with heap := w.heap.setIfInBounds b (.map (es.eraseIdxIfInBounds j) c) }) ?_ hd (k _ (put_setObj w b _) ?_)
    · unfold Op2; intros
      simp [execOp, resolve, invoke, builtin, ha, hy, Builtin.delete_, run_underlying ht.out, hg, e1, e2, run_setObj _ hb]
    · refine ⟨es.eraseIdxIfInBounds j, c, by simp [hlt], by rw [herl]; exact hs2, fun s' => ?_, ?_, rmS_nodup hnd, ?_, ?_⟩
      · rw [herl]
        have hall := fnd_some hs2 (s := s')
        by_cases q : s' = s
        · subst q
          rw [if_pos rfl]
          cases hx : fnd (es.toList.take j ++ es.toList.drop (j + 1)) s' with
          | none => rfl
          | some u =>
            exfalso
            rw [hx] at hall
            exact (List.nodup_cons.1 hnd2).1 (hall.1 rfl)
        · rw [if_neg q, ← hf]
          have hn1 : (es.toList.map (fun e => keyS e.key)).Nodup := hp.nodup_iff.2 hnd
          cases hx : fnd es.toList s' with
          | none =>
            cases hy : fnd (es.toList.take j ++ es.toList.drop (j + 1)) s' with
            | none => rfl
            | some u =>
              exfalso
              rw [hy] at hall
              obtain ⟨e, he, hke⟩ := List.mem_map.1 (hall.1 rfl)
              have := (fnd_some hs (s := s')).2 (List.mem_map.2 ⟨e, hsub e he, hke⟩)
              rw [hx] at this
              cases this
          | some u =>
            have h8 := (fnd_some hs (s := s')).1 (by rw [hx]; rfl)
            obtain ⟨e, he, hke⟩ := List.mem_map.1 h8
            obtain ⟨t, ht⟩ := hs e he
            have hts : t = s' := by rw [ht] at hke; exact hke
            subst hts
            have he2 : e ∈ es.toList.take j ++ es.toList.drop (j + 1) := by
              rw [hel] at he
              rcases List.mem_append.1 he with he | he
              · exact List.mem_append.2 (.inl he)
              · rcases List.mem_cons.1 he with he | he
                · subst he; rw [h6] at ht; injection ht with ht; exact absurd ht.symm q
                · exact List.mem_append.2 (.inr he)
            rw [fnd_mem hs2 (List.nodup_cons.1 hnd2).2 he2 ht]
            rw [fnd_mem hs hn1 he ht] at hx
            rw [hx]
      · rw [herl]
        have := rmS_perm (s := s) (hperm.symm.trans hp)
        rw [rmS_head hnd2] at this
        exact this
      · intro e he
        rw [herl] at he
        exact hborn e (hsub e he)
      · rw [herl]
        have hb1 : (es.toList.map (·.born)) = (es.toList.take j).map (·.born) ++ x.born :: (es.toList.drop (j + 1)).map (·.born) := by
          conv => lhs; rw [hel]
          rw [List.map_append, List.map_cons]
        rw [hb1] at hbn
        rw [List.map_append]
        exact ((List.perm_middle.nodup_iff.1 hbn |> List.nodup_cons.1)).2

/-! ### a map gone through -/
/-- block r is an iterator over map b, whose keys yet to come are todo -/
structure Rg (w : World) (b r : Nat) (m : ByteArray → Option Value) (ks todo : List ByteArray) : Prop where
  out : ∃ (es : Array MapEntry) (clock : Nat) (seen : Array Nat), w.heap[b]? = some (.map es clock) ∧ StrKeys es.toList ∧ (∀ s, fnd es.toList s = m s) ∧ (es.toList.map (fun e => keyS e.key)).Perm ks ∧ ks.Nodup ∧
    (∀ e ∈ es.toList, e.born < clock) ∧ (es.toList.map (·.born)).Nodup ∧ w.heap[r]? = some (.mapIter (some b) clock seen clock) ∧
    ((es.toList.filter fun e => !seen.contains e.born).map (fun e => keyS e.key)).Perm todo
theorem Rg.keep {w' : World} {b r : Nat} {m : ByteArray → Option Value} {ks todo : List ByteArray} (h : Rg w b r m ks todo) (h1 : w'.heap[b]? = w.heap[b]?) (h2 : w'.heap[r]? = w.heap[r]?) : Rg w' b r m ks todo := by
  obtain ⟨es, c, seen, e1, e2, e3, e4, e5, e6, e7, e8, e9⟩ := h.out
  exact ⟨es, c, seen, h1.trans e1, e2, e3, e4, e5, e6, e7, h2.trans e8, e9⟩
theorem Rg.mk_ {b r : Nat} {m : ByteArray → Option Value} {ks todo : List ByteArray} (h : Rg w b r m ks todo) : Mk w b m ks := by
  obtain ⟨es, c, seen, e1, e2, e3, e4, e5, e6, e7, e8, e9⟩ := h.out
  exact ⟨es, c, e1, e2, e3, e4, e5, e6, e7⟩
theorem Rg.lt {b r : Nat} {m : ByteArray → Option Value} {ks todo : List ByteArray} (h : Rg w b r m ks todo) : b < w.heap.size ∧ r < w.heap.size := by
  obtain ⟨es, c, seen, e1, e2, e3, e4, e5, e6, e7, e8, e9⟩ := h.out
  exact ⟨(Array.getElem?_eq_some_iff.1 e1).1, (Array.getElem?_eq_some_iff.1 e8).1⟩
theorem Rg.grown {w' : World} {b r : Nat} {m : ByteArray → Option Value} {ks todo : List ByteArray} (h : Rg w b r m ks todo) {row : Option Nat} (hg : w.grownBy w' row) (h1 : some b ≠ row) (h2 : some r ≠ row) : Rg w' b r m ks todo := h.keep (hg.block b h.lt.1 h1) (hg.block r h.lt.2 h2)
theorem Rg.sub {b r : Nat} {m : ByteArray → Option Value} {ks todo : List ByteArray} (h : Rg w b r m ks todo) {s : ByteArray} (hs : s ∈ todo) : s ∈ ks := by
  obtain ⟨es, c, seen, e1, e2, e3, e4, e5, e6, e7, e8, e9⟩ := h.out
  obtain ⟨e, he, hk⟩ := List.mem_map.1 (e9.mem_iff.2 hs)
  exact e4.mem_iff.1 (List.mem_map.2 ⟨e, (List.mem_filter.1 he).1, hk⟩)
theorem w_range_map {t k e : TypeId} {x : Operand} {b : Nat} {m : ByteArray → Option Value} {ks : List ByteArray} [ht : U P t (.map k e)] (hx : ev n l x = .map (some b)) (h : Mk w b m ks) (hd : Nat.blt d n = true)
    (k : ∀ r w', r = w.heap.size → w.grownBy w' none → w'.heap.size = w.heap.size + 1 → Rg w' b r m ks ks → W P ops Q n ((d, .pointer (some ⟨r, 0, none⟩)) :: l) ds rest w') :
    W P ops Q n l ds (⟨some d, .range t x, ty, pos, aft, none⟩ :: rest) w := by
  have hlt := h.lt
  obtain ⟨es, c, hb, hs, hf, hp, hnd, hborn, hbn⟩ := h.out
  have hg : (getObj b).run P w = .ok (.map es c) w := by simp [getObj, Sem.run, hb]
  have hn : New w (w.alloc (.mapIter (some b) c #[] c)) w.heap.size (.mapIter (some b) c #[] c) := ⟨rfl, rfl⟩
  refine w_op2 (v := .pointer (some ⟨w.heap.size, 0, none⟩)) (w' := w.alloc (.mapIter (some b) c #[] c)) ?_ hd (k _ _ rfl (hn.grown none) hn.size ?_)
  · unfold Op2; intros; simp [execOp, hx, Instr.range, run_underlying ht.out, hg]
  · refine ⟨es, c, #[], ?_, hs, hf, hp, hnd, hborn, hbn, hn.at_, ?_⟩
    · rw [(hn.grown none).block b hlt (by simp)]; exact hb
    · have : (es.toList.filter fun e => !(#[] : Array Nat).contains e.born) = es.toList := List.filter_eq_self.2 (fun e _ => by simp)
      rw [this]; exact hp
theorem p_next_done {ρ : Operand → Value} {x : Operand} {b r : Nat} {m : ByteArray → Option Value} {ks : List ByteArray} (hx : ρ x = .pointer (some ⟨r, 0, none⟩)) (h : Rg w b r m ks []) : Op1 P ρ (.next x false) ty w (.tuple #[.bool false]) := by
  obtain ⟨es, c, seen, e1, e2, e3, e4, e5, e6, e7, e8, e9⟩ := h.out
  have hg1 : (getObj r).run P w = .ok (.mapIter (some b) c seen c) w := by simp [getObj, Sem.run, e8]
  have hg2 : (getObj b).run P w = .ok (.map es c) w := by simp [getObj, Sem.run, e1]
  have hleft : es.toList.filter (fun e => !seen.contains e.born) = [] := by
    have := e9.length_eq
    rw [List.length_map] at this
    exact List.eq_nil_of_length_eq_zero this
  have hl2 : es.filter (fun e => !seen.contains e.born) = #[] := by
    apply Array.ext'
    rw [Array.toList_filter]
    exact hleft
  have hbad : (!seen.isEmpty && !es.isEmpty && es.all (fun e => decide (e.born ≥ c))) = false := by
    cases hes : es.toList with
    | nil =>
      have : es = #[] := by apply Array.ext'; rw [hes]
      subst this; simp
    | cons e rest =>
      have hb := e6 e (by rw [hes]; simp)
      have : es.all (fun e => decide (e.born ≥ c)) = false := by
        rw [← Array.all_toList, hes, List.all_cons]
        have : ¬ e.born ≥ c := by omega
        simp [this]
      rw [this]; simp
  have hc0 : (Array.filter (fun x => decide (x.born < c)) (#[] : Array MapEntry)) = #[] := by simp
  have hc1 : (Array.filter (fun x => decide (x.born ≥ c)) (#[] : Array MapEntry)) = #[] := by simp
  have hrun : (Instr.next (.pointer (some ⟨r, 0, none⟩)) false ty).run P w = .ok (.tuple #[.bool false]) w := by
    unfold Instr.next
    simp only [Sem.run_bind, Sem.run_pure, hg1, hg2, Result.andThen_ok, hbad, Bool.false_eq_true, if_false, hl2, hc0, hc1]
    simp [run_choose_drew, Question.forced]
  unfold Op1; intros
  simp [execOp, hx, hrun]
theorem w_next_key {x : Operand} {b r : Nat} {m : ByteArray → Option Value} {ks todo : List ByteArray} (hx : ev n l x = .pointer (some ⟨r, 0, none⟩)) (h : Rg w b r m ks todo) (hne : todo ≠ []) (hd : Nat.blt d n = true)
    (k : ∀ s v w', s ∈ todo → m s = some v → Put w w' r → Rg w' b r m ks (rmS s todo) → W P ops Q n ((d, .tuple #[.bool true, .string s, v]) :: l) ds rest w') :
    W P ops Q n l ds (⟨some d, .next x false, ty, pos, aft, none⟩ :: rest) w := by
  have hrl := h.lt
  obtain ⟨es, c, seen, e1, e2, e3, e4, e5, e6, e7, e8, e9⟩ := h.out
  obtain ⟨left, hleft⟩ : ∃ left, left = es.filter (fun e => !seen.contains e.born) := ⟨_, rfl⟩
  have hll : left.toList = es.toList.filter (fun e => !seen.contains e.born) := by rw [hleft, Array.toList_filter]
  have hpos : 0 < left.size := by
    have := e9.length_eq
    rw [List.length_map, ← hll] at this
    have h2 := List.length_pos_iff.2 hne
    simp at this
    omega
  have hmem : ∀ e ∈ left.toList, e ∈ es.toList := fun e he => by rw [hll] at he; exact (List.mem_filter.1 he).1
  have hold : left.filter (fun x => decide (x.born < c)) = left := by
    apply Array.ext'
    rw [Array.toList_filter, List.filter_eq_self]
    intro e he
    exact decide_eq_true (e6 e (hmem e he))
  have hnew : left.filter (fun x => decide (x.born ≥ c)) = #[] := by
    apply Array.ext'
    rw [Array.toList_filter, List.filter_eq_nil_iff]
    intro e he
    have := e6 e (hmem e he)
    simp; omega
  have hbad : (!seen.isEmpty && !es.isEmpty && es.all (fun e => decide (e.born ≥ c))) = false := by
    cases hes : es.toList with
    | nil =>
      have : es = #[] := by apply Array.ext'; rw [hes]
      subst this; simp
    | cons e rest =>
      have hb := e6 e (by rw [hes]; simp)
      have : es.all (fun e => decide (e.born ≥ c)) = false := by
        rw [← Array.all_toList, hes, List.all_cons]
        have : ¬ e.born ≥ c := by omega
        simp [this]
      rw [this]; simp
  have hemp : left.isEmpty = false := by
    rw [Array.isEmpty_eq_false_iff]
    intro e
    subst e
    simp at hpos
  have hg1 : ∀ w1 : World, w1.heap = w.heap → (getObj r).run P w1 = .ok (.mapIter (some b) c seen c) w1 := fun w1 q => by simp [getObj, Sem.run, q, e8]
  have hg2 : (getObj b).run P w = .ok (.map es c) w := by simp [getObj, Sem.run, e1]
  have hset : ∀ (w1 : World) (o : Obj), w1.heap = w.heap → (setObj r o).run P w1 = .ok () { w1 with heap := w1.heap.setIfInBounds r o } := fun w1 o q => by simp [setObj, Sem.run, q, e8]
  obtain ⟨i, w1, hch, hi, hw1⟩ : ∃ i w1, (choose (.mapNext left.size)).run P w = .ok i w1 ∧ i < left.size ∧ (w1 = w ∨ w1 = w.drew) := by
    rw [run_choose_drew]
    by_cases q : left.size ≤ 1
    · exact ⟨0, w, by simp [Question.forced, q], hpos, .inl rfl⟩
    · exact ⟨_, w.drew, by rw [if_neg (by simp [Question.forced, q])], by simp [Question.cut]; exact Nat.mod_lt _ hpos, .inr rfl⟩
  have hh1 : w1.heap = w.heap := by rcases hw1 with q | q <;> subst q <;> rfl
  obtain ⟨s, hs⟩ := e2 _ (hmem left[i] (by simp))
  have hei : left[i] ∈ left.toList := by simp
  have hmv : m s = some left[i].val := by rw [← e3]; exact fnd_mem e2 (e4.nodup_iff.2 e5) (hmem _ hei) hs
  have hst : s ∈ todo := e9.mem_iff.1 (List.mem_map.2 ⟨left[i], by rw [← hll]; exact hei, by rw [hs]; rfl⟩)
  have hput : Put w { w1 with heap := w1.heap.setIfInBounds r (.mapIter (some b) c (seen.push left[i].born) c) } r := by
    rcases hw1 with q | q
    · subst q; exact put_setObj _ r _
    · subst q
      refine ⟨⟨rfl, rfl, rfl, by rw [Array.size_setIfInBounds]; exact Nat.le_refl _, fun k _ hk => ?_⟩, by rw [Array.size_setIfInBounds]; rfl⟩
      simp only [Array.getElem?_setIfInBounds]
      rw [if_neg (fun e => hk (by rw [e]))]
      rfl
  refine w_op2 (v := .tuple #[.bool true, .string s, left[i].val]) (w' := { w1 with heap := w1.heap.setIfInBounds r (.mapIter (some b) c (seen.push left[i].born) c) }) ?_ hd (k s _ _ hst hmv hput ?_)
  · have hgi : ∀ a : Array (Option MapEntry), a = left.map some → a[i]? = some (some left[i]) := fun a ha => by subst ha; simp [hi]
    have hrun : (Instr.next (.pointer (some ⟨r, 0, none⟩)) false ty).run P w = .ok (.tuple #[.bool true, .string s, left[i].val]) { w1 with heap := w1.heap.setIfInBounds r (.mapIter (some b) c (seen.push left[i].born) c) } := by
      unfold Instr.next
      simp only [Sem.run_bind, Sem.run_pure, hg1 w rfl, hg2, Result.andThen_ok, hbad, Bool.false_eq_true, if_false, ← hleft, hold, hnew, hemp, Array.append_empty, Array.empty_append, Array.size_map, hch]
      have hci : (left.map some)[i]? = some (some left[i]) := by simp [hi]
      simp only [hci, Sem.run_bind, Sem.run_pure, hset w1 _ hh1, Result.andThen_ok, hs]
    unfold Op2; intros
    simp [execOp, hx, hrun]
  · have hne2 : b ≠ r := by
      intro q
      subst q
      rw [e1] at e8
      cases e8
    refine ⟨es, c, seen.push left[i].born, ?_, e2, e3, e4, e5, e6, e7, ?_, ?_⟩
    · simp only [Array.getElem?_setIfInBounds, hh1]
      rw [if_neg (fun q => hne2 q.symm)]
      exact e1
    · simp only [Array.getElem?_setIfInBounds, hh1]
      simp [hrl.2]
    · have hfil : (es.toList.filter fun e => !(seen.push left[i].born).contains e.born) = left.toList.filter (fun e => !decide (e.born = left[i].born)) := by
        rw [hll, List.filter_filter]
        apply List.filter_congr
        intro e _
        simp only [Array.contains_push]
        by_cases q : e.born = left[i].born
        · simp [q]
        · simp [q]
      have hnb : (left.toList.map (·.born)).Nodup := by
        rw [hll]
        exact e7.sublist (List.Sublist.map _ List.filter_sublist)
      rw [hfil]
      rw [← hll] at e9
      have key : ∀ (L : List MapEntry) (x : MapEntry), x ∈ L → (L.map (·.born)).Nodup → keyS x.key = s → (L.map (fun e => keyS e.key)).Perm (s :: (L.filter (fun e => !decide (e.born = x.born))).map (fun e => keyS e.key)) := by
        intro L x hx hn hk
        induction L with
        | nil => cases hx
        | cons y L ih =>
          rw [List.map_cons, List.nodup_cons] at hn
          rcases List.mem_cons.1 hx with q | q
          · subst q
            have : L.filter (fun e => !decide (e.born = x.born)) = L := List.filter_eq_self.2 (fun e he => by
              have : e.born ≠ x.born := fun q => hn.1 (q ▸ List.mem_map.2 ⟨e, he, rfl⟩)
              simp [this])
            rw [List.filter_cons, if_neg (by simp), this, List.map_cons, hk]
          · have hyx : y.born ≠ x.born := fun e => hn.1 (e ▸ List.mem_map.2 ⟨x, q, rfl⟩)
            rw [List.filter_cons, if_pos (by simp [hyx]), List.map_cons, List.map_cons]
            exact ((ih q hn.2).cons _).trans (List.Perm.swap _ _ _)
      have := key left.toList left[i] hei hnb (by rw [hs]; rfl)
      have h2 := rmS_perm (s := s) (this.symm.trans e9)
      rw [rmS_head] at h2
      · exact h2
      · refine this.nodup_iff.1 ?_
        rw [hll]
        exact (e4.nodup_iff.2 e5).sublist (List.Sublist.map _ List.filter_sublist)
end
end Go.Proofs.YtmgheamdboiklaaDoor
