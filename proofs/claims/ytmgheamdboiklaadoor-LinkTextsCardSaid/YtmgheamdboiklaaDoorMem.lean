/- SLICES AS LISTS; texts gone through. General: no program in it. -/
import Derived.Test.YtmgheamdboiklaaDoorPl
set_option linter.unusedVariables false
set_option linter.unusedSimpArgs false
namespace Go.Proofs.YtmgheamdboiklaaDoor
open Go.RowKit

/-! ### a slice that reads as a list -/
/-- v is a slice whose elements, of sz cells each, read as l; they lie below block B -/
structure Sl {α : Type} (en : α → List Value) (sz : Nat) (w : World) (B : Nat) (v : Value) (l : List α) : Prop where
  out : ∃ A c, v = .slice A l.length c ∧ l.length ≤ c ∧ (0 < l.length → ∃ ad, A = some ad ∧ ad.block < B ∧ ∀ i a, l[i]? = some a → Cel w (ad.add (i * sz)) (en a))
section
variable {α : Type} {en : α → List Value} {sz : Nat} {w w' : World} {B B' : Nat} {v : Value} {l : List α}
theorem Sl.keep (h : Sl en sz w B v l) (hk : ∀ p : Addr, p.block < B → w'.cell? p = w.cell? p) : Sl en sz w' B v l := by
  obtain ⟨A, c, hv, hc, hA⟩ := h.out
  refine ⟨A, c, hv, hc, fun hl => ?_⟩
  obtain ⟨ad, e, hb, hi⟩ := hA hl
  exact ⟨ad, e, hb, fun i a hia => (hi i a hia).keep fun p hp => hk p (by rw [hp, addr_add_block]; exact hb)⟩
theorem Sl.below (h : Sl en sz w B v l) (hb : Below B w w') : Sl en sz w' B v l := h.keep fun _ hp => hb.cell hp
theorem Sl.more (h : Sl en sz w B v l) (hB : B ≤ B') : Sl en sz w B' v l := by
  obtain ⟨A, c, hv, hc, hA⟩ := h.out
  refine ⟨A, c, hv, hc, fun hl => ?_⟩
  obtain ⟨ad, e, hb, hi⟩ := hA hl
  exact ⟨ad, e, Nat.lt_of_lt_of_le hb hB, hi⟩
theorem Sl.drew (h : Sl en sz w B v l) : Sl en sz w.drew B v l := h.keep fun _ _ => rfl
theorem Sl.nil (w : World) (B : Nat) : Sl en sz w B (.slice none 0 0) [] := ⟨⟨none, 0, rfl, Nat.le_refl _, fun h => absurd h (by simp)⟩⟩
/-- an owned row reads as a list -/
theorem Sl.of_own {base e : Nat} {xs : List Value} (hx : xs = l.flatMap en) (hen : ∀ a, (en a).length = sz) (h : w.ownsRow base e sz v l.length xs) : Sl en sz w w.heap.size v l := by
  subst hx
  obtain ⟨h1, h2⟩ := h
  rcases h2 with ⟨rfl, h0⟩ | ⟨g, cap, cur, rfl, hbg, hg, hn, hcm, hcs, ht⟩
  · refine ⟨none, 0, by rw [h0], by omega, fun hl => by omega⟩
  · refine ⟨some ⟨g, 0, none⟩, cap, rfl, hn, fun _ => ⟨_, rfl, (Array.getElem?_eq_some_iff.1 hg).1, fun i a hia => ?_⟩⟩
    refine Cel.mk fun j u hj => ?_
    rw [addr_add_add, addr_add_plain, cell_of_row w g _ cur e (0, 0) hg]
    have hi : i < l.length := (List.getElem?_eq_some_iff.1 hia).1
    have hjs : j < sz := by have := (List.getElem?_eq_some_iff.1 hj).1; rwa [hen] at this
    have key : ∀ (l : List α) (i : Nat), l[i]? = some a → (l.flatMap en)[i * sz + j]? = some u := by
      intro l
      induction l with
      | nil => intro i h; simp at h
      | cons b l ih =>
        intro i h
        rw [List.flatMap_cons]
        cases i with
        | zero =>
          simp at h
          subst h
          rw [List.getElem?_append_left (by rw [hen]; omega)]
          simpa using hj
        | succ i =>
          simp at h
          rw [List.getElem?_append_right (by rw [hen, Nat.succ_mul]; omega), hen]
          rw [show (i + 1) * sz + j - sz = i * sz + j from by rw [Nat.succ_mul]; omega]
          exact ih i h
    have h3 := key l i hia
    rw [← ht, List.getElem?_take] at h3
    split at h3
    · simpa using h3
    · cases h3
theorem flatMap_one {f : α → Value} : l.flatMap (fun a => [f a]) = l.map f := by induction l <;> simp_all
theorem Sl.len_eq (h : Sl en sz w B v l) {A : Option Addr} {n c : Nat} (hv : v = .slice A n c) : n = l.length := by
  obtain ⟨A', c', hv', _⟩ := h.out
  rw [hv] at hv'
  injection hv'
theorem Sl.at_ (h : Sl en sz w B v l) {A : Option Addr} {n c : Nat} (hv : v = .slice A n c) {i : Nat} (hi : i < l.length) : ∃ ad, A = some ad ∧ ad.block < B ∧ Cel w (ad.add (i * sz)) (en l[i]) := by
  obtain ⟨A', c', hv', _, hA⟩ := h.out
  rw [hv] at hv'
  injection hv' with e1 e2 e3
  subst e1
  obtain ⟨ad, e, hb, hi'⟩ := hA (by omega)
  exact ⟨ad, e, hb, hi' i _ (List.getElem?_eq_getElem hi)⟩
/-- v[k:] -/
theorem Sl.cut (h : Sl en sz w B v l) {A : Option Addr} {n c : Nat} (hv : v = .slice A n c) {k : Nat} (hk : k ≤ l.length) : Sl en sz w B (.slice (cutA A k c sz) (n - k) (c - k)) (l.drop k) := by
  obtain ⟨A', c', hv', hc, hA⟩ := h.out
  rw [hv] at hv'
  injection hv' with e1 e2 e3
  subst e1 e2 e3
  refine ⟨cutA A k c sz, c - k, by simp, by simp; omega, fun hl => ?_⟩
  simp at hl
  obtain ⟨ad, rfl, hb, hi⟩ := hA (by omega)
  refine ⟨ad.add (k * sz), by simp [cutA, show ¬ c = k by omega], by rw [addr_add_block]; exact hb, fun i a hia => ?_⟩
  rw [List.getElem?_drop] at hia
  have := hi _ _ hia
  rwa [addr_add_add, ← Nat.add_mul]
/-- v[:k] -/
theorem Sl.head (h : Sl en sz w B v l) {A : Option Addr} {n c : Nat} (hv : v = .slice A n c) {k : Nat} (hk : k ≤ l.length) : Sl en sz w B (.slice (cutA A 0 c sz) k c) (l.take k) := by
  obtain ⟨A', c', hv', hc, hA⟩ := h.out
  rw [hv] at hv'
  injection hv' with e1 e2 e3
  subst e1 e2 e3
  refine ⟨cutA A 0 c sz, c, by simp [Nat.min_eq_left hk], by simp; omega, fun hl => ?_⟩
  simp at hl
  obtain ⟨ad, rfl, hb, hi⟩ := hA (by omega)
  refine ⟨ad, ?_, hb, fun i a hia => ?_⟩
  · unfold cutA
    split
    · rfl
    · simp [addr_add_zero]
  · rw [List.getElem?_take] at hia
    split at hia
    · exact hi _ _ hia
    · cases hia
theorem Sl.head3 (h : Sl en sz w B v l) {A : Option Addr} {n c : Nat} (hv : v = .slice A n c) {k : Nat} (hk : k ≤ l.length) : Sl en sz w B (.slice (cutA A 0 k sz) k k) (l.take k) := by
  obtain ⟨A', c', hv', hc, hA⟩ := h.out
  rw [hv] at hv'
  injection hv' with e1 e2 e3
  subst e1 e2 e3
  refine ⟨cutA A 0 k sz, k, by simp [Nat.min_eq_left hk], by simp; omega, fun hl => ?_⟩
  simp at hl
  obtain ⟨ad, rfl, hb, hi⟩ := hA (by omega)
  refine ⟨ad, ?_, hb, fun i a hia => ?_⟩
  · unfold cutA
    split
    · rfl
    · simp [addr_add_zero]
  · rw [List.getElem?_take] at hia
    split at hia
    · exact hi _ _ hia
    · cases hia
theorem Sl.cap_ge (h : Sl en sz w B v l) {A : Option Addr} {n c : Nat} (hv : v = .slice A n c) : n ≤ c := by
  obtain ⟨A', c', hv', hc, _⟩ := h.out
  rw [hv] at hv'
  injection hv' with e1 e2 e3
  omega
end
theorem own_le {w : World} {base base' e sz n : Nat} {v : Value} {xs : List Value} (h : w.ownsRow base e sz v n xs) (hb : base' ≤ base) : w.ownsRow base' e sz v n xs := by
  obtain ⟨h1, h2⟩ := h
  refine ⟨h1, ?_⟩
  rcases h2 with h2 | ⟨g, cap, cur, hv, hg, r⟩
  · exact .inl h2
  · exact .inr ⟨g, cap, cur, hv, by omega, r⟩
theorem own_ne {w : World} {base e sz n b : Nat} {v : Value} {xs : List Value} (h : w.ownsRow base e sz v n xs) (hb : b < base) : some b ≠ v.ownBlock := fun e => by
  have := (h.lt b e.symm).1
  omega
theorem own_below {w w' : World} {base e sz n : Nat} {v : Value} {xs : List Value} (h : w.ownsRow base e sz v n xs) (hb : Below w.heap.size w w') : w'.ownsRow base e sz v n xs :=
  h.kept (row := none) ⟨hb.os, hb.tape, hb.output, hb.size, fun i hi _ => hb.block i hi⟩ (by cases v.ownBlock <;> simp)
theorem own_put {w w' : World} {base e sz n b : Nat} {v : Value} {xs : List Value} (h : w.ownsRow base e sz v n xs) (hp : Put w w' b) (hb : some b ≠ v.ownBlock) : w'.ownsRow base e sz v n xs :=
  h.kept hp.grown (.inr fun e => hb e.symm)
theorem own_new {w w' : World} {base e sz n b : Nat} {v : Value} {xs : List Value} {o : Obj} (h : w.ownsRow base e sz v n xs) (hn : New w w' b o) : w'.ownsRow base e sz v n xs := by
  rw [hn.eq]; exact h.alloc o
theorem own_grown {w w' : World} {base e sz n : Nat} {v : Value} {xs : List Value} {row : Option Nat} (h : w.ownsRow base e sz v n xs) (hg : w.grownBy w' row) (hb : v.ownBlock = none ∨ v.ownBlock ≠ row) : w'.ownsRow base e sz v n xs := h.kept hg hb
theorem below_own {w w' a : World} {B base e sz n : Nat} {v : Value} {xs : List Value} (hg : w.grownBy w' v.ownBlock) (hb : Below B a w) (hB : B ≤ w.heap.size) (h : w.ownsRow base e sz v n xs) (hbase : B ≤ base) : Below B a w' :=
  hb.grown hg hB (fun k hk => by have := (h.lt k hk).1; omega)
def enS (s : ByteArray) : List Value := [.string s]
abbrev Strs (w : World) (B : Nat) (v : Value) (l : List ByteArray) : Prop := Sl enS 1 w B v l
theorem enS_map (l : List ByteArray) : l.map Value.string = l.flatMap enS := by induction l <;> simp_all [enS]
def enI (k : IntKind) (i : Int) : List Value := [.int k i]
def enB (b : Bool) : List Value := [.bool b]

/-! ### a string gone through by its runes -/
structure Iter (w : World) (b : Nat) (s : ByteArray) (pos : Nat) : Prop where at_ : w.heap[b]? = some (.stringIter s pos)
theorem Iter.below {w w' : World} {b : Nat} {s : ByteArray} {pos B : Nat} (h : Iter w b s pos) (hb : Below B w w') (hB : b < B) : Iter w' b s pos := ⟨(hb.block b hB).trans h.at_⟩
theorem Iter.lt {w : World} {b : Nat} {s : ByteArray} {pos : Nat} (h : Iter w b s pos) : b < w.heap.size := (Array.getElem?_eq_some_iff.1 h.at_).1
theorem Iter.grown {w w' : World} {b : Nat} {s : ByteArray} {pos : Nat} (h : Iter w b s pos) {row : Option Nat} (hg : w.grownBy w' row) (hne : some b ≠ row) : Iter w' b s pos := ⟨(hg.block b h.lt hne).trans h.at_⟩
section
variable {P : Program} {ops : Array Oper} {Q : Exit → Act → World → Prop} {n : Nat} {l : List (Nat × Value)} {ds : List Deferred} {rest : List Oper} {w : World}
variable {ty : TypeId} {pos : String} {aft : Array Edge} {d : Nat}
theorem w_range_str {t : TypeId} {x : Operand} {s : ByteArray} [h : U P t .string] (hx : ev n l x = .string s) (hd : Nat.blt d n = true)
    (k : ∀ b w', New w w' b (.stringIter s 0) → W P ops Q n ((d, .pointer (some ⟨b, 0, none⟩)) :: l) ds rest w') :
    W P ops Q n l ds (⟨some d, .range t x, ty, pos, aft, none⟩ :: rest) w := by
  refine w_op2 (v := .pointer (some ⟨w.heap.size, 0, none⟩)) (w' := w.alloc (.stringIter s 0)) ?_ hd (k _ _ ⟨rfl, rfl⟩)
  have := h.out
  unfold Op2; intros; simp [execOp, hx, Instr.range, run_underlying this]
theorem w_next_more {x : Operand} {b : Nat} {s : ByteArray} {q : Nat} (hx : ev n l x = .pointer (some ⟨b, 0, none⟩)) (hi : Iter w b s q) (hq : q < s.size) (hd : Nat.blt d n = true)
    (k : ∀ w', Put w w' b → Iter w' b s (q + (Utf8.decode s q).2) → W P ops Q n ((d, .tuple #[.bool true, .int .i64 q, .int .i32 (Utf8.decode s q).1]) :: l) ds rest w') :
    W P ops Q n l ds (⟨some d, .next x true, ty, pos, aft, none⟩ :: rest) w := by
  have hh := hi.at_
  have hlt := hi.lt
  refine w_op2 (v := .tuple #[.bool true, .int .i64 q, .int .i32 (Utf8.decode s q).1]) (w' := { w with heap := w.heap.setIfInBounds b (.stringIter s (q + (Utf8.decode s q).2)) }) ?_ hd (k _ ⟨⟨rfl, rfl, rfl, by simp, fun k _ hk => ?_⟩, by simp⟩ ⟨?_⟩)
  · have hg : (getObj b).run P w = .ok (.stringIter s q) w := by simp [getObj, Sem.run, hh]
    have hs : ∀ o, (setObj b o).run P w = .ok () { w with heap := w.heap.setIfInBounds b o } := fun o => by simp [setObj, Sem.run, hh]
    unfold Op2; intros; simp [execOp, hx, Instr.next, hg, hs, hq, goInt]
  · simp only [Array.getElem?_setIfInBounds]
    rw [if_neg (fun e => hk (by rw [e]))]
  · simp [hlt]
theorem p_next_over {ρ : Operand → Value} {x : Operand} {b : Nat} {s : ByteArray} {q : Nat} (hx : ρ x = .pointer (some ⟨b, 0, none⟩)) (hi : Iter w b s q) (hq : ¬ q < s.size) : Op1 P ρ (.next x true) ty w (.tuple #[.bool false]) := by
  have hh := hi.at_
  have hg : (getObj b).run P w = .ok (.stringIter s q) w := by simp [getObj, Sem.run, hh]
  unfold Op1; intros; simp [execOp, hx, Instr.next, hg, hq]
/-- 'append(s, x)' of one element -/
theorem w_app1 {t e : TypeId} {s x : Operand} {base nn sz by_ d1 d2 : Nat} {z v v1 : Value} {xs : List Value} {ty2 : TypeId} {pos2 : String} {aft2 : Array Edge} [h : U P t (.slice e)] [hi : Inf P e sz by_ z]
    (hx : ev n l x = v1) (hs : ∀ u, ev n ((d1, u) :: l) s = v) (hown : w.ownsRow base e sz v nn xs) (hv : v1.cells.size = sz) (h1 : v1.cells.toList.all (·.oneCell') = true)
    (hb : 0 < sz ∧ sz ≤ 16777216 ∧ (nn + 1) * by_ ≤ 140737488355328 ∧ nn + 1 ≤ 1099511627776 ∧ base ≤ w.heap.size) (hd1 : Nat.blt d1 n = true) (hd2 : Nat.blt d2 n = true)
    (k : ∀ v' w' u, w'.ownsRow base e sz v' (nn + 1) (xs ++ v1.cells.toList) → w.grownBy w' v.ownBlock → (v'.ownBlock = v.ownBlock ∨ ∃ g, v'.ownBlock = some g ∧ w.heap.size ≤ g) → w.heap.size < w'.heap.size → v' ≠ .slice none 0 0 → W P ops Q n ((d2, v') :: (d1, u) :: l) ds rest w') :
    W P ops Q n l ds (⟨some d1, .buildSlice t 1 #[(0, x)], ty, pos, aft, none⟩ :: ⟨some d2, .call { callee := .builtin .append, args := #[s, .tmp d1], argTypes := #[t, t] }, ty2, pos2, aft2, none⟩ :: rest) w := by
  refine w_buildSlice (vs := [v1]) (by simp [hx]) rfl (by simpa using hv) (by omega) hd1 fun b w1 hn => ?_
  have hown1 := own_new hown hn
  refine w_append (news := v1.cells.toList) hb.1 (hs _) hown1 (ad := ⟨b, 0, none⟩) (m := 1) (c := 1) (by simp [ev, hd1, lk_cons]) (by simp [hv]) ?_ h1 (by have := hb.2.2.1; simpa using this) hb.2.2.2.1 (by rw [hn.size]; omega) hd2 fun v2 w2 ho hg hnil hbl => ?_
  · have := hn.blk.obj0
    simpa using this
  · refine k v2 w2 _ ho ⟨hg.os.trans (hn.grown none).os, hg.tape.trans (hn.grown none).tape, hg.output.trans (hn.grown none).output, ?_, fun i hi' hne => ?_⟩ ?_ ?_ ?_
    · have := hn.size; have := hg.size; omega
    · have h2 := hn.size
      rw [hg.block i (by omega) hne, hn.eq]
      exact Below.heap_alloc w _ i hi'
    · rcases hbl with hbl | hbl
      · exact .inl hbl
      · exact .inr ⟨_, hbl, by rw [hn.size]; omega⟩
    · have := hn.size; have := hg.size; omega
    · intro e
      have := (hnil.1 e).2
      omega
end
def iterPos (w : World) (b : Nat) : Nat := match w.heap[b]? with | some (.stringIter _ p) => p | _ => 0
theorem Iter.pos {w : World} {b : Nat} {s : ByteArray} {q : Nat} (h : Iter w b s q) : iterPos w b = q := by simp [iterPos, h.at_]
theorem New.iter {w w' : World} {b : Nat} {s : ByteArray} {q : Nat} (h : New w w' b (.stringIter s q)) : Iter w' b s q := ⟨h.at_⟩
end Go.Proofs.YtmgheamdboiklaaDoor
