/- THE TREE IN MEMORY: how a tree lies there, and what becomes of it when a part is written. -/
import Derived.Test.YtmgheamdboiklaaDoorTr
import Derived.Test.YtmgheamdboiklaaDoorMk
import Derived.Test.YtmgheamdboiklaaDoorPath
import Derived.Test.YtmgheamdboiklaaDoorMeta
set_option linter.unusedVariables false
set_option linter.unusedSimpArgs false
namespace Go.Proofs.YtmgheamdboiklaaDoor
open Go.RowKit

section
variable {P : Program} {ρ : Operand → Value} {ty : TypeId} {w : World}
theorem eqIn_map_nil (d : Nat) {t k e : TypeId} (a : Option Nat) (h : P.underlying t = some (.map k e)) : (Op.equalIn (d + 1) t (.map a) (.map none)).run P w = .ok a.isNone w := by
  cases a <;> simp [Op.equalIn, run_underlying h]
theorem p_meqnil {t k e t2 : TypeId} {x y : Operand} {a : Option Nat} [h : U P t (.map k e)] (hx : ρ x = .map a) (hy : ρ y = .map none) : Op1 P ρ (.binOp .eql t x y t2) ty w (.bool a.isNone) := by
  unfold Op1; intros; simp only [execOp, hx, hy, binOp]
  simp [eqGuard, Op.equal, Op.maxDepth, eqIn_map_nil 9999 a h.out]
theorem p_mnenil {t k e t2 : TypeId} {x y : Operand} {a : Option Nat} [h : U P t (.map k e)] (hx : ρ x = .map a) (hy : ρ y = .map none) : Op1 P ρ (.binOp .neq t x y t2) ty w (.bool (!a.isNone)) := by
  unfold Op1; intros; simp only [execOp, hx, hy, binOp]
  simp [eqGuard, Op.equal, Op.maxDepth, eqIn_map_nil 9999 a h.out]
end

/-! ### what is left as it was -/
/-- beside the blocks of S nothing that was there has turned -/
structure Fr (w w' : World) (S : Nat → Prop) : Prop where
  os : w'.os = w.os
  tape : w'.tape = w.tape
  output : w'.output = w.output
  size : w.heap.size ≤ w'.heap.size
  block : ∀ i, i < w.heap.size → ¬ S i → w'.heap[i]? = w.heap[i]?
section
variable {w w1 w2 : World} {S S1 : Nat → Prop}
theorem Fr.refl : Fr w w S := ⟨rfl, rfl, rfl, Nat.le_refl _, fun _ _ _ => rfl⟩
theorem Fr.trans (h : Fr w w1 S) (k : Fr w1 w2 S1) (hs : ∀ i, S1 i → S i ∨ w.heap.size ≤ i) : Fr w w2 S :=
  ⟨k.os.trans h.os, k.tape.trans h.tape, k.output.trans h.output, Nat.le_trans h.size k.size, fun i hi hn => (k.block i (Nat.lt_of_lt_of_le hi h.size) (fun q => by
    rcases hs i q with q | q
    · exact hn q
    · omega)).trans (h.block i hi hn)⟩
theorem Fr.of_below (h : Below w.heap.size w w1) : Fr w w1 S := ⟨h.os, h.tape, h.output, h.size, fun i hi _ => h.block i hi⟩
theorem Fr.below {B : Nat} (h : Fr w w1 S) (hB : B ≤ w.heap.size) (hs : ∀ i, S i → B ≤ i) : Below B w w1 := ⟨h.os, h.tape, h.output, by have := h.size; omega, fun i hi => h.block i (by omega) (fun q => by have := hs i q; omega)⟩
theorem Fr.put {b : Nat} (h : Put w w1 b) (hb : S b) : Fr w w1 S := ⟨h.grown.os, h.grown.tape, h.grown.output, h.grown.size, fun i hi hn => h.grown.block i hi (fun e => by injection e with e; exact hn (e ▸ hb))⟩
theorem Fr.put_new {b : Nat} (h : Put w1 w2 b) (h0 : Fr w w1 S) (hb : S b ∨ w.heap.size ≤ b) : Fr w w2 S := h0.trans (Fr.put (S := fun i => i = b) h rfl) (fun i q => q ▸ hb)
theorem Fr.new {b : Nat} {o : Obj} (h : New w w1 b o) : Fr w w1 S := ⟨(h.grown none).os, (h.grown none).tape, (h.grown none).output, (h.grown none).size, fun i hi _ => (h.grown none).block i hi (by simp)⟩
theorem Fr.drew (h : Fr w w1 S) : Fr w w1.drew S := ⟨h.os, h.tape, h.output, h.size, h.block⟩
theorem Fr.mono (h : Fr w w1 S) (hs : ∀ i, S i → S1 i) : Fr w w1 S1 := ⟨h.os, h.tape, h.output, h.size, fun i hi hn => h.block i hi (fun q => hn (hs i q))⟩
theorem Fr.cel {a : Addr} {cs : List Value} (h : Fr w w1 S) (hc : Cel w a cs) (h0 : 0 < cs.length) (hs : ¬ S a.block) : Cel w1 a cs := hc.keep fun p hp => by
  have hlt := hc.lt h0
  have := h.block p.block (by rw [hp]; exact hlt) (by rw [hp]; exact hs)
  simp only [World.cell?, this]
theorem Fr.blk {b t : Nat} {cs : List Value} (h : Fr w w1 S) (hb : Blk w b t cs) (hs : ¬ S b) : Blk w1 b t cs := hb.keep (h.block b hb.lt hs)
theorem Fr.own {base e sz n : Nat} {v : Value} {xs : List Value} (h : Fr w w1 S) (ho : w.ownsRow base e sz v n xs) (hs : ∀ g, v.ownBlock = some g → ¬ S g) : w1.ownsRow base e sz v n xs := by
  obtain ⟨h1, h2⟩ := ho
  refine ⟨h1, ?_⟩
  rcases h2 with h2 | ⟨g, cap, cur, hv, hg, hh, r⟩
  · exact .inl h2
  · refine .inr ⟨g, cap, cur, hv, hg, ?_, r⟩
    rw [h.block g (Array.getElem?_eq_some_iff.1 hh).1 (hs g (by rw [hv]; rfl))]
    exact hh
end

/-! ### how a tree lies in memory -/
def nptr (bk : Int → Nat) (o : Option Tg) : Value := match o with
  | none => .pointer none
  | some t => .pointer (some ⟨bk t.ino, 0, none⟩)
def kvO (km : Int → Nat) (t : Tg) : Value := if t.kind = 2 then .map (some (km t.ino)) else .map none
def enSt (s : St) : List Value := .int .i64 s.kind :: .int .i64 s.ino :: .int .i64 s.size :: .int .i64 s.links :: (enMt s.mt ++ [.string s.target])
def ndC (t : Tg) (lk : Int) (dv kv : Value) : List Value := enSt ⟨t.kind, t.ino, 0, lk, t.mt, t.target⟩ ++ [dv, kv]
def kidM (L : List Ent) (bk : Int → Nat) (p x : ByteArray) : Option Value := (kidAt L p x).map fun t => .pointer (some ⟨bk t.ino, 0, none⟩)
theorem nptr_kid (L : List Ent) (bk : Int → Nat) (p x : ByteArray) : (kidM L bk p x).getD (.pointer none) = nptr bk (kidAt L p x) := by
  unfold kidM nptr
  cases kidAt L p x <;> rfl
/-- the bytes of a file: in a block of S -/
def DatV (w : World) (S : Nat → Prop) (dv : Value) (d : List UInt8) : Prop := w.ownsRow 0 5 1 dv d.length (d.map fun b => Value.int .u8 b.toNat) ∧ ∀ g, dv.ownBlock = some g → S g
structure PT (w : World) (S : Nat → Prop) (bt : Nat) (F : Ft) (bk km : Int → Nat) : Prop where
  tree : Blk w bt 65 [.pointer (some ⟨bk 1, 0, none⟩), .int .i64 F.next]
  node : ∀ e ∈ F.L, ∃ dv, Blk w (bk e.2.ino) 68 (ndC e.2 (cnt F.L e.2.ino) dv (kvO km e.2)) ∧ DatV w S dv e.2.data
  kids : ∀ e ∈ F.L, e.2.kind = 2 → Mk w (km e.2.ino) (kidM F.L bk e.1) (kidN F.L e.1)
  sT : S bt
  sN : ∀ e ∈ F.L, S (bk e.2.ino)
  sK : ∀ e ∈ F.L, e.2.kind = 2 → S (km e.2.ino)
  lt : ∀ i, S i → i < w.heap.size
  injB : ∀ e ∈ F.L, ∀ e' ∈ F.L, bk e.2.ino = bk e'.2.ino → e.2.ino = e'.2.ino
  injK : ∀ e ∈ F.L, ∀ e' ∈ F.L, e.2.kind = 2 → e'.2.kind = 2 → km e.2.ino = km e'.2.ino → e.2.ino = e'.2.ino
section
variable {w w' : World} {S S' : Nat → Prop} {bt : Nat} {F : Ft} {bk km : Int → Nat} {dv : Value} {d : List UInt8}
theorem own_keep {base e sz n : Nat} {v : Value} {xs : List Value} (h : w.ownsRow base e sz v n xs) (hk : ∀ g, v.ownBlock = some g → w'.heap[g]? = w.heap[g]?) : w'.ownsRow base e sz v n xs := by
  obtain ⟨h1, h2⟩ := h
  refine ⟨h1, ?_⟩
  rcases h2 with h2 | ⟨g, cap, cur, hv, hg, hh, r⟩
  · exact .inl h2
  · exact .inr ⟨g, cap, cur, hv, hg, (hk g (by rw [hv]; rfl)).trans hh, r⟩
theorem DatV.keep (h : DatV w S dv d) (hk : ∀ i, S i → w'.heap[i]? = w.heap[i]?) : DatV w' S dv d := ⟨own_keep h.1 fun g hg => hk g (h.2 g hg), h.2⟩
theorem DatV.more (h : DatV w S dv d) (hs : ∀ i, S i → S' i) : DatV w S' dv d := ⟨h.1, fun g hg => hs g (h.2 g hg)⟩
/-- bytes are in no block of another kind -/
theorem DatV.ne (h : DatV w S dv d) {b : Nat} (hb : ∀ (cs : Array Value) fz, w.heap[b]? ≠ some (.cells cs 5 fz)) : ∀ g, dv.ownBlock = some g → g ≠ b := by
  intro g hg e
  subst e
  rcases h.1.2 with ⟨hv, _⟩ | ⟨g', cap, cur, hv, _, hh, _⟩
  · rw [hv] at hg; cases hg
  · rw [hv] at hg
    injection hg with hg
    have : g' = g := hg
    subst this
    exact hb _ _ hh
theorem DatV.nil : DatV w S (.slice none 0 0) [] := ⟨World.ownsRow_nil _ _ _ _, fun g h => by cases h⟩
theorem PT.keep (h : PT w S bt F bk km) (hk : ∀ i, S i → w'.heap[i]? = w.heap[i]?) (hz : w.heap.size ≤ w'.heap.size) : PT w' S bt F bk km where
  tree := h.tree.keep (hk _ h.sT)
  node := fun e he => by
    obtain ⟨dv, h1, h2⟩ := h.node e he
    exact ⟨dv, h1.keep (hk _ (h.sN e he)), h2.keep hk⟩
  kids := fun e he h2 => (h.kids e he h2).keep (hk _ (h.sK e he h2))
  sT := h.sT
  sN := h.sN
  sK := h.sK
  lt := fun i hi => Nat.lt_of_lt_of_le (h.lt i hi) hz
  injB := h.injB
  injK := h.injK
theorem PT.below (h : PT w S bt F bk km) (hb : Below w.heap.size w w') : PT w' S bt F bk km := h.keep (fun i hi => hb.block i (h.lt i hi)) hb.size
theorem PT.fr {S1 : Nat → Prop} (h : PT w S bt F bk km) (hf : Fr w w' S1) (hd : ∀ i, S i → ¬ S1 i) : PT w' S bt F bk km := h.keep (fun i hi => hf.block i (h.lt i hi) (hd i hi)) hf.size
theorem PT.drew (h : PT w S bt F bk km) : PT w.drew S bt F bk km := h.keep (fun _ _ => rfl) (Nat.le_refl _)
theorem PT.root (h : PT w S bt F bk km) (hF : Wf F) : nptr bk (F.at_ noB) = .pointer (some ⟨bk 1, 0, none⟩) := by
  obtain ⟨t, h1, _, h3⟩ := hF.at_root
  rw [h1, nptr, h3]
theorem PT.cel (h : PT w S bt F bk km) {p : ByteArray} {t : Tg} (ht : F.at_ p = some t) : ∃ dv, Cel w ⟨bk t.ino, 0, none⟩ (ndC t (cnt F.L t.ino) dv (kvO km t)) ∧ DatV w S dv t.data := by
  obtain ⟨dv, h1, h2⟩ := h.node _ (atL_mem ht)
  exact ⟨dv, h1.obj0, h2⟩
theorem PT.map (h : PT w S bt F bk km) {p : ByteArray} {t : Tg} (ht : F.at_ p = some t) (hk : t.kind = 2) : Mk w (km t.ino) (kidM F.L bk p) (kidN F.L p) := h.kids _ (atL_mem ht) hk
/-- the tree's own number -/
theorem PT.tcel (h : PT w S bt F bk km) : Cel w ⟨bt, 0, none⟩ [.pointer (some ⟨bk 1, 0, none⟩), .int .i64 F.next] := h.tree.obj0
end
theorem type_apart : 65 ≠ 68 ∧ 68 ≠ 5 ∧ 65 ≠ 5 := by decide
theorem Blk.ty {w : World} {b t t' : Nat} {cs cs' : List Value} (h : Blk w b t cs) (h' : Blk w b t' cs') : t = t' := by
  unfold Blk at *
  rw [h] at h'
  injection h' with h'
  injection h'
theorem Blk.nomap {w : World} {b b' t : Nat} {cs : List Value} {m : ByteArray → Option Value} {ks : List ByteArray} (h : Blk w b t cs) (h' : Mk w b' m ks) : b ≠ b' := by
  rintro rfl
  unfold Blk at h
  obtain ⟨es, c, h1, _⟩ := h'.out
  rw [h] at h1
  cases h1
theorem Blk.nodat {w : World} {b t : Nat} {cs : List Value} (h : Blk w b t cs) (ht : t ≠ 5) : ∀ (cs : Array Value) fz, w.heap[b]? ≠ some (.cells cs 5 fz) := by
  intro cs' fz e
  unfold Blk at h
  rw [h] at e
  injection e with e
  injection e with _ e _
  exact ht e
theorem Mk.nodat {w : World} {b : Nat} {m : ByteArray → Option Value} {ks : List ByteArray} (h : Mk w b m ks) : ∀ (cs : Array Value) fz, w.heap[b]? ≠ some (.cells cs 5 fz) := by
  intro cs fz e
  obtain ⟨es, c, h1, _⟩ := h.out
  rw [h1] at e
  cases e

/-! ### a part written -/
section
variable {w w' : World} {S : Nat → Prop} {bt : Nat} {F : Ft} {bk km : Int → Nat}
/-- a thing's own cells -/
theorem PT.upd (h : PT w S bt F bk km) (hF : Wf F) {p : ByteArray} {t : Tg} (ht : F.at_ p = some t) {g : Tg → Tg} (hk : ∀ t, (g t).kind = t.kind) (hi : ∀ t, (g t).ino = t.ino)
    (hp : Put w w' (bk t.ino)) {dv : Value} (hb : Blk w' (bk t.ino) 68 (ndC (g t) (cnt F.L t.ino) dv (kvO km t))) (hd : DatV w S dv (g t).data) : PT w' S bt (F.upd t.ino g) bk km := by
  obtain ⟨ta1, ta2, ta3⟩ := type_apart
  have htm : (p, t) ∈ F.L := atL_mem ht
  obtain ⟨dv0, hb0, hd0⟩ := h.node _ htm
  have hnt : bt ≠ bk t.ino := fun e => ta1 ((e ▸ h.tree).ty hb0)
  have hmem : ∀ e, e ∈ (F.upd t.ino g).L → ∃ e0 ∈ F.L, e = (e0.1, if e0.2.ino = t.ino then g e0.2 else e0.2) := fun e he => by
    obtain ⟨e0, h1, rfl⟩ := List.mem_map.1 he
    exact ⟨e0, h1, rfl⟩
  have hkd : ∀ x : Tg, (if x.ino = t.ino then g x else x).kind = x.kind := fun x => by split; exact hk x; rfl
  have hin : ∀ x : Tg, (if x.ino = t.ino then g x else x).ino = x.ino := fun x => by split; exact hi x; rfl
  have hcnt : ∀ k, cnt (F.upd t.ino g).L k = cnt F.L k := fun k => by
    unfold cnt Ft.upd
    rw [List.countP_map]
    apply List.countP_congr
    intro e _
    simp only [Function.comp, hin]
  have hkids : ∀ q, kidsL (F.upd t.ino g).L q = (kidsL F.L q).map fun e => (e.1, if e.2.ino = t.ino then g e.2 else e.2) := fun q => by
    unfold kidsL Ft.upd
    rw [List.filter_map]
    rfl
  have hkn : ∀ q, kidN (F.upd t.ino g).L q = kidN F.L q := fun q => by
    unfold kidN
    rw [hkids, List.map_map]
    rfl
  have hkm : ∀ q x, kidM (F.upd t.ino g).L bk q x = kidM F.L bk q x := fun q x => by
    unfold kidM kidAt Ft.upd
    rw [List.find?_map]
    have : ((fun e => isKid q e && decide (base e.1 = x)) ∘ fun e : Ent => ((e.1, if e.2.ino = t.ino then g e.2 else e.2) : Ent)) = fun e => isKid q e && decide (base e.1 = x) := rfl
    rw [this]
    cases List.find? (fun e => isKid q e && decide (base e.1 = x)) F.L with
    | none => rfl
    | some e => simp [hin]
  have hblk : ∀ i, i < w.heap.size → i ≠ bk t.ino → w'.heap[i]? = w.heap[i]? := fun i hi hne => hp.grown.block i hi (fun e => by injection e with e; exact hne e)
  have hnd := hb0.nodat ta2
  have hdk : ∀ {dv : Value} {d : List UInt8}, DatV w S dv d → DatV w' S dv d := fun {dv d} hd => ⟨own_keep hd.1 fun g hg => hblk g (h.lt g (hd.2 g hg)) (hd.ne hnd g hg), hd.2⟩
  refine ⟨?_, ?_, ?_, h.sT, ?_, ?_, fun i hi => by rw [hp.size]; exact h.lt i hi, ?_, ?_⟩
  · exact h.tree.keep (hblk _ (h.lt _ h.sT) hnt)
  · intro e he
    obtain ⟨e0, h0, rfl⟩ := hmem e he
    simp only [hin, hcnt]
    by_cases q : e0.2.ino = t.ino
    · have hee := (hF.one e0 h0 _ htm q).1
      have hee' : e0.2 = t := hee
      simp only [q, if_true]
      rw [hee']
      refine ⟨dv, ?_, hdk hd⟩
      have : kvO km (g t) = kvO km t := by unfold kvO; rw [hk, hi]
      rw [this]
      exact hb
    · simp only [q, if_false]
      obtain ⟨dv1, hb1, hd1⟩ := h.node e0 h0
      refine ⟨dv1, hb1.keep (hblk _ hb1.lt (fun e => q (h.injB e0 h0 _ htm e))), hdk hd1⟩
  · intro e he h2
    obtain ⟨e0, h0, rfl⟩ := hmem e he
    simp only [hin, hkd] at h2 ⊢
    have hm := h.kids e0 h0 h2
    have := hm.keep (w' := w') (hblk _ hm.lt (fun e => (hb0.nomap hm) e.symm))
    rw [hkn]
    exact this.fun_ (fun x => (hkm _ x).symm)
  · intro e he
    obtain ⟨e0, h0, rfl⟩ := hmem e he
    simp only [hin]; exact h.sN e0 h0
  · intro e he h2
    obtain ⟨e0, h0, rfl⟩ := hmem e he
    simp only [hin, hkd] at h2 ⊢; exact h.sK e0 h0 h2
  · intro e he e' he' q
    obtain ⟨e0, h0, rfl⟩ := hmem e he
    obtain ⟨e1, h1, rfl⟩ := hmem e' he'
    simp only [hin] at q ⊢; exact h.injB e0 h0 e1 h1 q
  · intro e he e' he' k1 k2 q
    obtain ⟨e0, h0, rfl⟩ := hmem e he
    obtain ⟨e1, h1, rfl⟩ := hmem e' he'
    simp only [hin, hkd] at k1 k2 q ⊢; exact h.injK e0 h0 e1 h1 k1 k2 q
end
end Go.Proofs.YtmgheamdboiklaaDoor
