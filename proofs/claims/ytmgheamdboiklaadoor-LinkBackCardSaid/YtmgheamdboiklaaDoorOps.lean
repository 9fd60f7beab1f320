/- THE STEPS, part two: what each operation yields. General: no program in it. -/
import Derived.Test.YtmgheamdboiklaaDoorEng
import Derived.Maps.AppendAt
import Derived.Laws.MakeOwn
import Derived.Laws.Tables
set_option linter.unusedVariables false
set_option linter.unusedSimpArgs false
namespace Go.Proofs.YtmgheamdboiklaaDoor
open Go.RowKit

/-! ### what is known of the program's types -/
class U (P : Program) (t : TypeId) (d : outParam TypeDesc) : Prop where out : P.underlying t = some d
class Na (P : Program) (t : TypeId) : Prop where out : ∀ w, (isAgg t).run P w = .ok false w
class Ag (P : Program) (t : TypeId) (sz : outParam Nat) : Prop where
  out : ∀ w, (isAgg t).run P w = .ok true w
  size : ∀ w, (sizeOf t).run P w = .ok sz w
class Inf (P : Program) (t : TypeId) (sz by_ : outParam Nat) (z : outParam Value) : Prop where
  out : ∃ i, P.info? t = some i ∧ i.size = sz ∧ i.bytes = by_ ∧ i.zero = some z
  zsize : z.cells.size = sz
class Fd (P : Program) (s : TypeId) (i : Nat) (off : outParam Nat) : Prop where out : ∀ w a, (Instr.fieldAt s (.pointer (some a)) i).run P w = .ok (.pointer (some (a.add off))) w
class Fv (P : Program) (s : TypeId) (i : Nat) (off : outParam Nat) : Prop where out : ∀ w cs v, cs[off]? = some v → (Instr.field s (.agg cs) i).run P w = .ok v w
class Fs (P : Program) (s : TypeId) (i : Nat) (off sz : outParam Nat) : Prop where out : ∀ w cs, (Instr.field s (.agg cs) i).run P w = .ok (.agg (cs.extract off (off + sz))) w
class Cl (P : Program) (f : FuncId) : Prop where out : CallIn P f
section
variable {P : Program}
theorem Inf.sizeOf_ {t : TypeId} {sz b : Nat} {z : Value} [h : Inf P t sz b z] (w : World) : (sizeOf t).run P w = .ok sz w := by
  obtain ⟨i, h1, h2, _⟩ := h.out
  subst h2
  simp [sizeOf, typeInfo, h1]
theorem Inf.zero_ {t : TypeId} {sz b : Nat} {z : Value} [h : Inf P t sz b z] (w : World) : (zeroValue t).run P w = .ok z w := by
  obtain ⟨i, h1, _, _, h4⟩ := h.out
  simp [zeroValue, typeInfo, h1, h4]
theorem fd_mk {s i : Nat} {fs : Array Field} {f : Field} {sz b : Nat} {z : Value} (hu : P.underlying s = some (.struct fs)) (hf : fs[i]? = some f) (hi : Inf P f.type sz b z) (hsz : sz ≠ 0) : Fd P s i f.offset :=
  ⟨fun w a => by simp [Instr.fieldAt, run_underlying hu, hf, Instr.sureAddr, fieldPlace, hi.sizeOf_, hsz]⟩
theorem fv_mk {s i : Nat} {fs : Array Field} {f : Field} (hu : P.underlying s = some (.struct fs)) (hf : fs[i]? = some f) (hi : Na P f.type) : Fv P s i f.offset :=
  ⟨fun w cs v hv => by simp [Instr.field, run_underlying hu, hf, asAgg, part, hi.out, hv]⟩
theorem fs_mk {s i : Nat} {fs : Array Field} {f : Field} {sz : Nat} (hu : P.underlying s = some (.struct fs)) (hf : fs[i]? = some f) (hi : Ag P f.type sz) : Fs P s i f.offset sz :=
  ⟨fun w cs => by simp [Instr.field, run_underlying hu, hf, asAgg, part, hi.out, hi.size]⟩
end

/-! ### addresses and cells -/
theorem addr_add_add (a : Addr) (i j : Nat) : (a.add i).add j = a.add (i + j) := by
  unfold Addr.add
  by_cases hi : i = 0 <;> by_cases hj : j = 0 <;> simp [hi, hj, Nat.add_assoc]
theorem addr_add_zero (a : Addr) : a.add 0 = a := by simp [Addr.add]
theorem addr_add_block (a : Addr) (n : Nat) : (a.add n).block = a.block := by unfold Addr.add; split <;> rfl
theorem addr_add_plain (g i j : Nat) : (⟨g, i, none⟩ : Addr).add j = ⟨g, i + j, none⟩ := by unfold Addr.add; split <;> simp_all

/-- the cells at an address -/
@[irreducible] def Cel (w : World) (ad : Addr) (cs : List Value) : Prop := ∀ j v, cs[j]? = some v → w.cell? (ad.add j) = some v
/-- a block known whole -/
@[irreducible] def Blk (w : World) (b : Nat) (t : TypeId) (cs : List Value) : Prop := w.heap[b]? = some (.cells cs.toArray t (0, 0))
/-- w' is w with one new block -/
structure New (w w' : World) (b : Nat) (o : Obj) : Prop where
  eq : w' = w.alloc o
  hb : b = w.heap.size
/-- only block b has turned -/
structure Put (w w' : World) (b : Nat) : Prop where
  grown : w.grownBy w' (some b)
  size : w'.heap.size = w.heap.size

section
variable {w w' : World} {ad : Addr} {cs : List Value} {b B : Nat} {t : TypeId}
theorem Cel.cell (h : Cel w ad cs) {j : Nat} {v : Value} (hj : cs[j]? = some v) : w.cell? (ad.add j) = some v := by unfold Cel at h; exact h j v hj
theorem Cel.mk (h : ∀ j v, cs[j]? = some v → w.cell? (ad.add j) = some v) : Cel w ad cs := by unfold Cel; exact h
theorem Cel.keep (h : Cel w ad cs) (hk : ∀ p : Addr, p.block = ad.block → w'.cell? p = w.cell? p) : Cel w' ad cs :=
  Cel.mk fun j v hj => (hk _ (addr_add_block ad j)).trans (h.cell hj)
theorem Cel.below (h : Cel w ad cs) (hb : Below B w w') (hB : ad.block < B) : Cel w' ad cs := h.keep fun p hp => hb.cell (by rw [hp]; exact hB)
theorem Cel.sub (h : Cel w ad cs) (k m : Nat) : Cel w (ad.add k) ((cs.drop k).take m) := Cel.mk fun j v hj => by
  rw [addr_add_add]
  refine h.cell ?_
  rw [List.getElem?_take] at hj
  split at hj
  · rwa [List.getElem?_drop] at hj
  · cases hj
theorem Cel.lt (h : Cel w ad cs) (hc : 0 < cs.length) : ad.block < w.heap.size := by
  have := World.block_lt_of_cell? w _ (h.cell (List.getElem?_eq_getElem hc))
  rwa [addr_add_block] at this
theorem Blk.obj (h : Blk w b t cs) (i : Nat) : Cel w ⟨b, i, none⟩ (cs.drop i) := by
  unfold Blk at h
  refine Cel.mk fun j v hj => ?_
  rw [addr_add_plain, cell_of_row w b (i + j) cs.toArray t (0, 0) h]
  rw [List.getElem?_drop] at hj
  simpa using hj
theorem Blk.obj0 (h : Blk w b t cs) : Cel w ⟨b, 0, none⟩ cs := by simpa using h.obj 0
theorem Blk.lt (h : Blk w b t cs) : b < w.heap.size := by
  unfold Blk at h
  exact (Array.getElem?_eq_some_iff.1 h).1
theorem Blk.keep (h : Blk w b t cs) (hk : w'.heap[b]? = w.heap[b]?) : Blk w' b t cs := by unfold Blk at *; rw [hk]; exact h
theorem Blk.below (h : Blk w b t cs) (hb : Below B w w') (hB : b < B) : Blk w' b t cs := h.keep (hb.block b hB)
theorem Blk.frozen (h : Blk w b t cs) (i : Nat) (s : Option Nat) : w.frozen? ⟨b, i, s⟩ = false := by
  unfold Blk at h
  simp [World.frozen?, h]
theorem Blk.grown (h : Blk w b t cs) {row : Option Nat} (hg : w.grownBy w' row) (hne : some b ≠ row) : Blk w' b t cs := h.keep (hg.block b h.lt hne)
theorem Cel.grown (h : Cel w ad cs) {row : Option Nat} (hg : w.grownBy w' row) (hne : some ad.block ≠ row) : Cel w' ad cs := by
  refine Cel.mk fun j v hj => ?_
  exact hg.cell (h.cell hj) (by rw [addr_add_block]; exact hne)
theorem New.grown {o : Obj} (h : New w w' b o) (row : Option Nat) : w.grownBy w' row := by rw [h.eq]; exact World.grownBy_alloc w o row
theorem New.blk {cs : Array Value} (h : New w w' b (.cells cs t (0, 0))) : Blk w' b t cs.toList := by
  unfold Blk
  rw [h.eq, h.hb]
  exact heap_alloc_new w _
theorem New.size {o : Obj} (h : New w w' b o) : w'.heap.size = w.heap.size + 1 := by rw [h.eq]; simp
theorem New.at_ {o : Obj} (h : New w w' b o) : w'.heap[b]? = some o := by rw [h.eq, h.hb]; exact heap_alloc_new w _
theorem New.below {o : Obj} {a : World} (h : New w w' b o) (hb : Below B a w) (hB : B ≤ w.heap.size) : Below B a w' := by rw [h.eq]; exact hb.alloc hB o
theorem Put.trans {w'' : World} (h : Put w w' b) (k : Put w' w'' b) : Put w w'' b :=
  ⟨⟨k.grown.os.trans h.grown.os, k.grown.tape.trans h.grown.tape, k.grown.output.trans h.grown.output, Nat.le_trans h.grown.size k.grown.size, fun i hi hne => (k.grown.block i (Nat.lt_of_lt_of_le hi h.grown.size) hne).trans (h.grown.block i hi hne)⟩, k.size.trans h.size⟩
theorem Put.refl (w : World) (b : Nat) : Put w w b := ⟨⟨rfl, rfl, rfl, Nat.le_refl _, fun _ _ _ => rfl⟩, rfl⟩
theorem Put.below {a : World} (h : Put w w' b) (hb : Below B a w) (hB : B ≤ w.heap.size) (hbB : B ≤ b) : Below B a w' := hb.grown h.grown hB (fun k hk => by cases hk; exact hbB)
theorem Blk.set_ (h : Blk w b t cs) (j : Nat) (v : Value) : Blk (w.setCell ⟨b, j, none⟩ v) b t (cs.set j v) := by
  unfold Blk at *
  simp [World.setCell, Array.getElem?_modify, h]
theorem put_setCell (w : World) (b j : Nat) (v : Value) : Put w (w.setCell ⟨b, j, none⟩ v) b :=
  ⟨⟨rfl, rfl, rfl, by simp, fun k _ hk => Below.heap_setCell w _ v k (fun e => hk (by rw [e]))⟩, by simp⟩
theorem below_of_grown {row : Option Nat} {a : World} (h : w.grownBy w' row) (hb : Below B a w) (hB : B ≤ w.heap.size) (hr : ∀ k, row = some k → B ≤ k) : Below B a w' := hb.grown h hB hr
theorem below_drew' {a : World} (h : Below B a w) : Below B a w.drew := ⟨h.os, h.tape, h.output, h.size, h.block⟩
theorem Cel.drew (h : Cel w ad cs) : Cel w.drew ad cs := Cel.mk fun j v hj => h.cell hj
theorem Blk.drew (h : Blk w b t cs) : Blk w.drew b t cs := by unfold Blk at *; exact h
end

theorem New.zblk {t sz by_ : Nat} {z : Value} {w w' : World} {b : Nat} (hn : New w w' b (.cells z.cells t)) (P : Program) [h : Inf P t sz by_ z] : ∃ cs, Blk w' b t cs ∧ cs.length = sz := ⟨_, hn.blk, by rw [Array.length_toList]; exact h.zsize⟩
theorem run_loadS {P : Program} {w : World} {t sz : Nat} {a : Addr} {cs : List Value} [h : Ag P t sz] (ho : Cel w a cs) (hl : cs.length = sz) : (loadVar t a).run P w = .ok (.agg cs.toArray) w := by
  subst hl
  simp [loadVar, h.out, h.size, run_loadCells_list w a cs (fun j v hj => ho.cell hj)]

/-! ### strings -/
def bAt (s : ByteArray) (i : Nat) : UInt8 := s.data.toList.getD i 0
theorem str_beq (a b : ByteArray) : (a.toList == b.toList) = decide (a = b) := by
  rw [ByteArray.toList_eq, ByteArray.toList_eq]
  by_cases h : a = b
  · subst h; simp
  · have h2 : (a.data.toList == b.data.toList) = false := by
      cases hb : (a.data.toList == b.data.toList) with
      | false => rfl
      | true =>
        have := eq_of_beq hb
        exact absurd (by cases a; cases b; simp_all) h
    rw [h2]
    simp [h]

/-! ### operations that leave the world alone -/
section
variable {P : Program} {ρ : Operand → Value} {ty : TypeId} {w : World}
theorem p_move {x : Operand} : Op1 P ρ (.move x) ty w (ρ x) := by unfold Op1; intros; rfl
theorem p_assign {x : Operand} : Op1 P ρ (.assign x) ty w (ρ x) := by unfold Op1; intros; rfl
section
variable {x : Operand}
theorem p_mvI {k : IntKind} {a : Int} (hx : ρ x = .int k a) : Op1 P ρ (.move x) ty w (.int k a) := hx ▸ p_move
theorem p_asI {k : IntKind} {a : Int} (hx : ρ x = .int k a) : Op1 P ρ (.assign x) ty w (.int k a) := hx ▸ p_assign
theorem p_mvB {b : Bool} (hx : ρ x = .bool b) : Op1 P ρ (.move x) ty w (.bool b) := hx ▸ p_move
theorem p_asB {b : Bool} (hx : ρ x = .bool b) : Op1 P ρ (.assign x) ty w (.bool b) := hx ▸ p_assign
theorem p_mvS {s : ByteArray} (hx : ρ x = .string s) : Op1 P ρ (.move x) ty w (.string s) := hx ▸ p_move
theorem p_asS {s : ByteArray} (hx : ρ x = .string s) : Op1 P ρ (.assign x) ty w (.string s) := hx ▸ p_assign
theorem p_mvP {a : Option Addr} (hx : ρ x = .pointer a) : Op1 P ρ (.move x) ty w (.pointer a) := hx ▸ p_move
theorem p_asP {a : Option Addr} (hx : ρ x = .pointer a) : Op1 P ρ (.assign x) ty w (.pointer a) := hx ▸ p_assign
theorem p_mvL {a : Option Addr} {m c : Nat} (hx : ρ x = .slice a m c) : Op1 P ρ (.move x) ty w (.slice a m c) := hx ▸ p_move
theorem p_asL {a : Option Addr} {m c : Nat} (hx : ρ x = .slice a m c) : Op1 P ρ (.assign x) ty w (.slice a m c) := hx ▸ p_assign
theorem p_mvM {r : Option Nat} (hx : ρ x = .map r) : Op1 P ρ (.move x) ty w (.map r) := hx ▸ p_move
theorem p_asM {r : Option Nat} (hx : ρ x = .map r) : Op1 P ρ (.assign x) ty w (.map r) := hx ▸ p_assign
theorem p_mvA {cs : Array Value} (hx : ρ x = .agg cs) : Op1 P ρ (.move x) ty w (.agg cs) := hx ▸ p_move
theorem p_asA {cs : Array Value} (hx : ρ x = .agg cs) : Op1 P ρ (.assign x) ty w (.agg cs) := hx ▸ p_assign
theorem p_mvT {vs : Array Value} (hx : ρ x = .tuple vs) : Op1 P ρ (.move x) ty w (.tuple vs) := hx ▸ p_move
theorem p_asT {vs : Array Value} (hx : ρ x = .tuple vs) : Op1 P ρ (.assign x) ty w (.tuple vs) := hx ▸ p_assign
theorem p_mvF {f : Fn} {a b : Array Value} (hx : ρ x = .func f a b) : Op1 P ρ (.move x) ty w (.func f a b) := hx ▸ p_move
theorem p_asF {f : Fn} {a b : Array Value} (hx : ρ x = .func f a b) : Op1 P ρ (.assign x) ty w (.func f a b) := hx ▸ p_assign
end
theorem p_pick {c a b : Operand} {t x y : Bool} (hc : ρ c = .bool t) (ha : ρ a = .bool x) (hb : ρ b = .bool y) : Op1 P ρ (.pick c a b) ty w (.bool (if t then x else y)) := by
  unfold Op1; intros; cases t <;> simp [execOp, hc, ha, hb, asBool]
theorem p_pick_t {c a b : Operand} {x : Bool} (hc : ρ c = .bool true) (ha : ρ a = .bool x) : Op1 P ρ (.pick c a b) ty w (.bool x) := by
  unfold Op1; intros; simp [execOp, hc, ha, asBool]
theorem p_pick_f {c a b : Operand} {x : Bool} (hc : ρ c = .bool false) (hb : ρ b = .bool x) : Op1 P ρ (.pick c a b) ty w (.bool x) := by
  unfold Op1; intros; simp [execOp, hc, hb, asBool]
theorem p_nilCheck {x : Operand} {a : Addr} (hx : ρ x = .pointer (some a)) : Op1 P ρ (.nilCheck x) ty w (.pointer (some a)) := by
  unfold Op1; intros; simp [execOp, hx]
theorem p_extract {x : Operand} {vs : Array Value} {i : Nat} {v : Value} (hx : ρ x = .tuple vs) (hv : vs[i]? = some v) : Op1 P ρ (.extract x i) ty w v := by
  unfold Op1; intros; simp [execOp, hx, Instr.extract, hv]
theorem p_fieldAddr {s : TypeId} {x : Operand} {i off : Nat} {a : Addr} [h : Fd P s i off] (hx : ρ x = .pointer (some a)) : Op1 P ρ (.fieldAddr s x i) ty w (.pointer (some (a.add off))) := by
  unfold Op1; intros; simp [execOp, hx, h.out]
theorem p_field {s : TypeId} {x : Operand} {i off : Nat} {cs : Array Value} {v : Value} [h : Fv P s i off] (hx : ρ x = .agg cs) (hv : cs[off]? = some v) : Op1 P ρ (.field s x i) ty w v := by
  unfold Op1; intros; simp [execOp, hx, h.out _ _ _ hv]
theorem p_fieldS {s : TypeId} {x : Operand} {i off sz : Nat} {cs : Array Value} [h : Fs P s i off sz] (hx : ρ x = .agg cs) : Op1 P ρ (.field s x i) ty w (.agg (cs.extract off (off + sz))) := by
  unfold Op1; intros; simp [execOp, hx, h.out]
theorem p_indexAddr {t e : TypeId} {x i : Operand} {sz by_ : Nat} {z : Value} {a : Addr} {A : Option Addr} {len cap : Nat} {k : IntKind} {j : Int} [h : U P t (.slice e)] [hi : Inf P e sz by_ z] (hx : ρ x = .slice A len cap) (hA : A = some a)
    (hy : ρ i = .int k j) (h0 : 0 ≤ j ∧ j < len) : Op1 P ρ (.indexAddr t x i) ty w (.pointer (some (a.add (j.toNat * sz)))) := by
  subst hA
  have := h.out
  unfold Op1; intros; simp [execOp, hx, hy, Instr.indexAt, asIntOf, run_underlying this, h0, hi.sizeOf_]
/-- .. in an array that lies in memory -/
theorem p_indexAddrA {t e : TypeId} {x i : Operand} {sz by_ : Nat} {z : Value} {a : Addr} {len : Nat} {k : IntKind} {j : Int} [h : U P t (.array len e)] [hi : Inf P e sz by_ z] (hx : ρ x = .pointer (some a))
    (hy : ρ i = .int k j) (h0 : 0 ≤ j ∧ j < len) : Op1 P ρ (.indexAddr t x i) ty w (.pointer (some (a.add (j.toNat * sz)))) := by
  have := h.out
  unfold Op1; intros; simp [execOp, hx, hy, Instr.indexAt, asIntOf, run_underlying this, h0, hi.sizeOf_, Instr.sureAddr]
theorem p_index {t : TypeId} {x i : Operand} {s : ByteArray} {k : IntKind} {j : Int} [h : U P t .string] (hx : ρ x = .string s) (hy : ρ i = .int k j) (h0 : 0 ≤ j ∧ j < s.size) :
    Op1 P ρ (.index t x i) ty w (.int .u8 (bAt s j.toNat).toNat) := by
  have := h.out
  have hlt : j.toNat < s.size := by omega
  have hl : s.data.toList.length = s.size := by cases s; rfl
  have e : s[j.toNat]? = some (bAt s j.toNat) := by
    rw [getElem?_pos s j.toNat hlt]
    congr 1
    unfold bAt
    rw [List.getD, List.getElem?_eq_getElem (by omega)]
    rfl
  have e2 : (if 0 ≤ j then s[j.toNat]? else none) = some (bAt s j.toNat) := by rw [if_pos h0.1]; exact e
  unfold Op1; intros; simp only [execOp, hx, hy, Instr.index, asIntOf, Sem.run_bind, Sem.run_pure, Result.andThen_ok, run_underlying this, e2]
/-- an element of an array that is a value -/
theorem p_indexA {t e : TypeId} {x i : Operand} {len : Nat} {cs : Array Value} {k : IntKind} {j : Int} {v : Value} {by_ : Nat} {z : Value} [h : U P t (.array len e)] [hi : Inf P e 1 by_ z] [hn : Na P e] (hx : ρ x = .agg cs) (hy : ρ i = .int k j) (h0 : 0 ≤ j ∧ j < len) (hv : cs[j.toNat]? = some v) :
    Op1 P ρ (.index t x i) ty w v := by
  have := h.out
  unfold Op1; intros; simp [execOp, hx, hy, Instr.index, asIntOf, run_underlying this, h0, hi.sizeOf_, part, hn.out, hv]
theorem p_load {t : TypeId} {x : Operand} {a : Addr} {v : Value} [h : Na P t] (hx : ρ x = .pointer (some a)) (hc : w.cell? a = some v) : Op1 P ρ (.load t x) ty w v := by
  unfold Op1; intros; simp [execOp, hx, Instr.loadAt, Instr.sureAddr, loadVar, h.out, hc]
theorem p_loadF {t : TypeId} {x : Operand} {a : Addr} {j : Nat} {cs : List Value} {v : Value} [Na P t] (hx : ρ x = .pointer (some (a.add j))) (ho : Cel w a cs) (hj : cs[j]? = some v) : Op1 P ρ (.load t x) ty w v :=
  p_load hx (ho.cell hj)
theorem p_load0 {t : TypeId} {x : Operand} {a : Addr} {cs : List Value} {v : Value} [Na P t] (hx : ρ x = .pointer (some a)) (ho : Cel w a cs) (hj : cs[0]? = some v) : Op1 P ρ (.load t x) ty w v :=
  p_load hx (by have := ho.cell hj; rwa [addr_add_zero] at this)
theorem p_loadA {t : TypeId} {x : Operand} {a' a : Addr} {j : Nat} {cs : List Value} {v : Value} [Na P t] (hx : ρ x = .pointer (some a')) (ha : a' = a.add j) (ho : Cel w a cs) (hj : cs[j]? = some v) : Op1 P ρ (.load t x) ty w v :=
  p_load hx (by rw [ha]; exact ho.cell hj)
theorem p_loadS {t : TypeId} {x : Operand} {a : Addr} {sz : Nat} {cs : List Value} [h : Ag P t sz] (hx : ρ x = .pointer (some a)) (ho : Cel w a cs) (hl : cs.length = sz) : Op1 P ρ (.load t x) ty w (.agg cs.toArray) := by
  subst hl
  unfold Op1; intros; simp [execOp, hx, Instr.loadAt, Instr.sureAddr, loadVar, h.out, h.size, run_loadCells_list w a cs (fun j v hj => ho.cell hj)]
theorem p_len_str {t : TypeId} {x : Operand} {s : ByteArray} [h : U P t .string] (hx : ρ x = .string s) : Op1 P ρ (.call { callee := .builtin .len, args := #[x], argTypes := #[t] }) ty w (.int .i64 s.size) := by
  have := h.out
  unfold Op1; intros; simp [execOp, resolve, invoke, builtin, hx, Builtin.len_, run_underlying this, goInt]
theorem p_len_sl {t e : TypeId} {x : Operand} {A : Option Addr} {len cap : Nat} [h : U P t (.slice e)] (hx : ρ x = .slice A len cap) : Op1 P ρ (.call { callee := .builtin .len, args := #[x], argTypes := #[t] }) ty w (.int .i64 len) := by
  have := h.out
  unfold Op1; intros; simp [execOp, resolve, invoke, builtin, hx, Builtin.len_, run_underlying this, goInt]
theorem p_min {t t' : TypeId} {x y : Operand} {k k' : IntKind} {a b : Int} (hx : ρ x = .int k a) (hy : ρ y = .int k' b) : Op1 P ρ (.call { callee := .builtin .min, args := #[x, y], argTypes := #[t, t'] }) ty w (.int k (if b < a then b else a)) := by
  unfold Op1; intros; simp [execOp, resolve, invoke, builtin, hx, hy, Builtin.min_, Builtin.min2]
theorem p_max {t t' : TypeId} {x y : Operand} {k k' : IntKind} {a b : Int} (hx : ρ x = .int k a) (hy : ρ y = .int k' b) : Op1 P ρ (.call { callee := .builtin .max, args := #[x, y], argTypes := #[t, t'] }) ty w (.int k (if a < b then b else a)) := by
  unfold Op1; intros; simp [execOp, resolve, invoke, builtin, hx, hy, Builtin.max_, Builtin.max2]
theorem p_not {t : TypeId} {x : Operand} {b : Bool} (hx : ρ x = .bool b) : Op1 P ρ (.unOp .not t x) ty w (.bool (!b)) := by
  unfold Op1; intros; simp [execOp, hx, Op.unary]
theorem p_conv {src dst : TypeId} {dsc : TypeDesc} {x : Operand} {k k' : IntKind} {a c : Int} [hs : U P src dsc] [hd : U P dst (.int k)] (hx : ρ x = .int k' a) (hc : k.wrap a = c) : Op1 P ρ (.convert src dst x) ty w (.int k c) := by
  have h1 := hs.out
  have h2 := hd.out
  unfold Op1; intros; simp [execOp, hx, convert, run_underlying h1, run_underlying h2, Conv.intToInt, hc]
theorem p_makeFunc {f : Fn} {first captured : Array Operand} : Op1 P ρ (.makeFunc f first captured) ty w (.func f (first.toList.map ρ).toArray (captured.toList.map ρ).toArray) := by
  have e1 : (first.toList.map ρ).toArray = first.map ρ := by apply Array.ext'; simp
  have e2 : (captured.toList.map ρ).toArray = captured.map ρ := by apply Array.ext'; simp
  rw [e1, e2]
  unfold Op1; intros; rfl

section
variable {t t2 : TypeId} {x y : Operand} {k : IntKind} {a b c : Int}
theorem p_add (hx : ρ x = .int k a) (hy : ρ y = .int k b) (hc : k.wrap (a + b) = c) : Op1 P ρ (.binOp .add t x y t2) ty w (.int k c) := by
  unfold Op1; intros; simp [execOp, hx, hy, eqGuard, binOp, Op.intArith, hc]
theorem p_sub (hx : ρ x = .int k a) (hy : ρ y = .int k b) (hc : k.wrap (a - b) = c) : Op1 P ρ (.binOp .sub t x y t2) ty w (.int k c) := by
  unfold Op1; intros; simp [execOp, hx, hy, eqGuard, binOp, Op.intArith, hc]
theorem p_mul (hx : ρ x = .int k a) (hy : ρ y = .int k b) (hc : k.wrap (a * b) = c) : Op1 P ρ (.binOp .mul t x y t2) ty w (.int k c) := by
  unfold Op1; intros; simp [execOp, hx, hy, eqGuard, binOp, Op.intArith, hc]
theorem in64 (h : -9223372036854775808 ≤ c ∧ c ≤ 9223372036854775807) : IntKind.i64.wrap c = c := by rw [IntKind.wrap_i64]; omega
theorem p_add64 (hx : ρ x = .int .i64 a) (hy : ρ y = .int .i64 b) (h : -9223372036854775808 ≤ a + b ∧ a + b ≤ 9223372036854775807) : Op1 P ρ (.binOp .add t x y t2) ty w (.int .i64 (a + b)) := p_add hx hy (in64 h)
theorem p_sub64 (hx : ρ x = .int .i64 a) (hy : ρ y = .int .i64 b) (h : -9223372036854775808 ≤ a - b ∧ a - b ≤ 9223372036854775807) : Op1 P ρ (.binOp .sub t x y t2) ty w (.int .i64 (a - b)) := p_sub hx hy (in64 h)
theorem p_lss (hx : ρ x = .int k a) (hy : ρ y = .int k b) : Op1 P ρ (.binOp .lss t x y t2) ty w (.bool (decide (a < b))) := by
  unfold Op1; intros; simp [execOp, hx, hy, eqGuard, binOp, Op.intCmp]
theorem p_leq (hx : ρ x = .int k a) (hy : ρ y = .int k b) : Op1 P ρ (.binOp .leq t x y t2) ty w (.bool (decide (a ≤ b))) := by
  unfold Op1; intros; simp [execOp, hx, hy, eqGuard, binOp, Op.intCmp]
theorem p_gtr (hx : ρ x = .int k a) (hy : ρ y = .int k b) : Op1 P ρ (.binOp .gtr t x y t2) ty w (.bool (decide (b < a))) := by
  unfold Op1; intros; simp [execOp, hx, hy, eqGuard, binOp, Op.intCmp]
theorem p_geq (hx : ρ x = .int k a) (hy : ρ y = .int k b) : Op1 P ρ (.binOp .geq t x y t2) ty w (.bool (decide (b ≤ a))) := by
  unfold Op1; intros; simp [execOp, hx, hy, eqGuard, binOp, Op.intCmp]
theorem p_eql (hx : ρ x = .int k a) (hy : ρ y = .int k b) : Op1 P ρ (.binOp .eql t x y t2) ty w (.bool (decide (a = b))) := by
  unfold Op1; intros; simp [execOp, hx, hy, eqGuard, binOp, Op.intCmp]; rfl
theorem p_neq (hx : ρ x = .int k a) (hy : ρ y = .int k b) : Op1 P ρ (.binOp .neq t x y t2) ty w (.bool (!decide (a = b))) := by
  unfold Op1; intros; simp [execOp, hx, hy, eqGuard, binOp, Op.intCmp]; rfl
end
section
variable {t t2 : TypeId} {x y : Operand} {a b : ByteArray}
theorem p_seql (hx : ρ x = .string a) (hy : ρ y = .string b) : Op1 P ρ (.binOp .eql t x y t2) ty w (.bool (decide (a = b))) := by
  unfold Op1; intros; simp [execOp, hx, hy, eqGuard, binOp, Op.stringOp, str_beq]
theorem p_sneq (hx : ρ x = .string a) (hy : ρ y = .string b) : Op1 P ρ (.binOp .neq t x y t2) ty w (.bool (!decide (a = b))) := by
  unfold Op1; intros; simp [execOp, hx, hy, eqGuard, binOp, Op.stringOp, str_beq]
theorem p_slss (hx : ρ x = .string a) (hy : ρ y = .string b) : Op1 P ρ (.binOp .lss t x y t2) ty w (.bool (Op.bytesLess a.data.toList b.data.toList)) := by
  unfold Op1; intros; simp [execOp, hx, hy, eqGuard, binOp, Op.stringOp, ByteArray.toList_eq]
theorem p_sgtr (hx : ρ x = .string a) (hy : ρ y = .string b) : Op1 P ρ (.binOp .gtr t x y t2) ty w (.bool (!(Op.bytesLess a.data.toList b.data.toList || decide (a = b)))) := by
  unfold Op1; intros; rw [← str_beq]; simp [execOp, hx, hy, eqGuard, binOp, Op.stringOp, ByteArray.toList_eq]
theorem p_sadd (hx : ρ x = .string a) (hy : ρ y = .string b) (h : a.size + b.size ≤ 9223372036854775807) : Op1 P ρ (.binOp .add t x y t2) ty w (.string (a ++ b)) := by
  have hh : ¬ ((9223372036854775807 : Int) < (a.size : Int) + (b.size : Int)) := by omega
  unfold Op1; intros; simp [execOp, hx, hy, eqGuard, binOp, Op.stringOp, IntKind.max, IntKind.signed, IntKind.bits, hh]
end
section
variable {t t2 : TypeId} {x : Operand} {b c : Bool} {y : Operand}
theorem eqIn_bool (d : Nat) (b c : Bool) (h : P.underlying t = some .bool) : (Op.equalIn (d + 1) t (.bool b) (.bool c)).run P w = .ok (b == c) w := by
  simp [Op.equalIn, run_underlying h]
theorem p_beql (hx : ρ x = .bool b) (hy : ρ y = .bool c) [h : U P t .bool] : Op1 P ρ (.binOp .eql t x y t2) ty w (.bool (b == c)) := by
  unfold Op1; intros; simp only [execOp, hx, hy, binOp]
  simp [eqGuard, Op.equal, Op.maxDepth, eqIn_bool 9999 b c h.out]
theorem p_bneq (hx : ρ x = .bool b) (hy : ρ y = .bool c) [h : U P t .bool] : Op1 P ρ (.binOp .neq t x y t2) ty w (.bool (!(b == c))) := by
  unfold Op1; intros; simp only [execOp, hx, hy, binOp]
  simp [eqGuard, Op.equal, Op.maxDepth, eqIn_bool 9999 b c h.out]
end
section
variable {t : TypeId} {x : Operand} {s : ByteArray} {kl kh : IntKind} {lo hi : Int} {l h : Operand}
theorem p_sub_lh [hu : U P t .string] (hx : ρ x = .string s) (hl : ρ l = .int kl lo) (hh : ρ h = .int kh hi) (hb : 0 ≤ lo ∧ lo ≤ hi ∧ hi ≤ s.size) : Op1 P ρ (.slice t x (some l) (some h) none) ty w (.string (s.extract lo.toNat hi.toNat)) := by
  have := hu.out
  obtain ⟨h0, h1, h2⟩ := hb
  have e : (hi.toNat : Int) = hi := Int.toNat_of_nonneg (by omega)
  unfold Op1; intros; simp [execOp, hx, hl, hh, Instr.sliceAt, Instr.slice, run_underlying this, Instr.sliceBounds, Instr.sliceBound, asIntOf, h0, h1, h2, e, (by omega : 0 ≤ hi)]
theorem p_sub_l [hu : U P t .string] (hx : ρ x = .string s) (hl : ρ l = .int kl lo) (hb : 0 ≤ lo ∧ lo ≤ s.size) : Op1 P ρ (.slice t x (some l) none none) ty w (.string (s.extract lo.toNat s.size)) := by
  have := hu.out
  unfold Op1; intros; simp [execOp, hx, hl, Instr.sliceAt, Instr.slice, run_underlying this, Instr.sliceBounds, Instr.sliceBound, asIntOf, hb]
theorem p_sub_h [hu : U P t .string] (hx : ρ x = .string s) (hh : ρ h = .int kh hi) (hb : 0 ≤ hi ∧ hi ≤ s.size) : Op1 P ρ (.slice t x none (some h) none) ty w (.string (s.extract 0 hi.toNat)) := by
  have := hu.out
  unfold Op1; intros; simp [execOp, hx, hh, Instr.sliceAt, Instr.slice, run_underlying this, Instr.sliceBounds, Instr.sliceBound, asIntOf, hb]
end
section
variable {t e : TypeId} {x : Operand} {A : Option Addr} {len cap : Nat} {kl kh km : IntKind} {lo hi mx : Int} {l h m : Operand} {sz by_ : Nat} {z : Value}
def cutA (A : Option Addr) (l m s : Nat) : Option Addr := if m = l then A else A.map (·.add (l * s))
theorem p_cut_l [hu : U P t (.slice e)] [hi : Inf P e sz by_ z] (hx : ρ x = .slice A len cap) (hl : ρ l = .int kl lo) (hb : 0 ≤ lo ∧ lo ≤ len) : Op1 P ρ (.slice t x (some l) none none) ty w (.slice (cutA A lo.toNat cap sz) (len - lo.toNat) (cap - lo.toNat)) := by
  have := hu.out
  unfold Op1; intros; simp [execOp, hx, hl, Instr.sliceAt, Instr.slice, run_underlying this, Instr.sliceBounds, Instr.sliceBound, asIntOf, hb, hi.sizeOf_, cutA]
theorem p_cut_h [hu : U P t (.slice e)] [hf : Inf P e sz by_ z] (hx : ρ x = .slice A len cap) (hh : ρ h = .int kh hi) (hb : 0 ≤ hi ∧ hi ≤ cap) : Op1 P ρ (.slice t x none (some h) none) ty w (.slice (cutA A 0 cap sz) hi.toNat cap) := by
  have := hu.out
  unfold Op1; intros; simp [execOp, hx, hh, Instr.sliceAt, Instr.slice, run_underlying this, Instr.sliceBounds, Instr.sliceBound, asIntOf, hb, hf.sizeOf_, cutA]
theorem p_cut_lh [hu : U P t (.slice e)] [hf : Inf P e sz by_ z] (hx : ρ x = .slice A len cap) (hl : ρ l = .int kl lo) (hh : ρ h = .int kh hi) (hb : 0 ≤ lo ∧ lo ≤ hi ∧ hi ≤ cap) : Op1 P ρ (.slice t x (some l) (some h) none) ty w (.slice (cutA A lo.toNat cap sz) (hi.toNat - lo.toNat) (cap - lo.toNat)) := by
  have := hu.out
  obtain ⟨h0, h1, h2⟩ := hb
  have e : (hi.toNat : Int) = hi := Int.toNat_of_nonneg (by omega)
  unfold Op1; intros; simp [execOp, hx, hl, hh, Instr.sliceAt, Instr.slice, run_underlying this, Instr.sliceBounds, Instr.sliceBound, asIntOf, h0, h1, h2, e, (by omega : 0 ≤ hi), hf.sizeOf_, cutA]
theorem p_cut_hm [hu : U P t (.slice e)] [hf : Inf P e sz by_ z] (hx : ρ x = .slice A len cap) (hh : ρ h = .int kh hi) (hm : ρ m = .int km mx) (hb : 0 ≤ hi ∧ hi ≤ mx ∧ mx ≤ cap) : Op1 P ρ (.slice t x none (some h) (some m)) ty w (.slice (cutA A 0 mx.toNat sz) hi.toNat mx.toNat) := by
  have := hu.out
  obtain ⟨h0, h1, h2⟩ := hb
  have e : (mx.toNat : Int) = mx := Int.toNat_of_nonneg (by omega)
  unfold Op1; intros; simp [execOp, hx, hh, hm, Instr.sliceAt, Instr.slice, run_underlying this, Instr.sliceBounds, Instr.sliceBound, asIntOf, h0, h1, h2, e, (by omega : 0 ≤ mx), hf.sizeOf_, cutA]
end
/-- a call of a function without a body, which the model answers at once -/
theorem p_extern {f : FuncId} {as : Array Operand} {ats : Array TypeId} {v : Value} {vs : List Value} (hρ : ∀ f, ρ (.func f) = .func (.func f) #[] #[]) (ha : as.toList.map ρ = vs) (h : (callFunc f vs.toArray).run P w = .ok (.value v) w) : Op1 P ρ (.call { callee := .value (.func f), args := as, argTypes := ats }) ty w v := by
  unfold Op1; intros
  have e : as.map ρ = vs.toArray := by rw [← ha]; apply Array.ext'; simp
  have hf' : ρ (.func f) = .func (.func f) #[] #[] := hρ f
  simp [execOp, resolve, Deferred.ofValue, invoke, hf', e, h]
/-- a struct built -/
theorem p_build {t : TypeId} {parts : Array (Nat × Operand)} {cells : Array Value} (h : P.built t (parts.toList.map fun (i, x) => (i, ρ x)) = some cells) : Op1 P ρ (.build t parts) ty w (.agg cells) := by
  unfold Op1; intros
  have := run_build (P := P) w t (parts.map fun (i, x) => (i, ρ x)) cells (by simpa using h)
  simp [execOp, this]
theorem eqIn_nil_r (d : Nat) {t e : TypeId} (a : Option Addr) (h : P.underlying t = some (.pointer e)) : (Op.equalIn (d + 1) t (.pointer a) (.pointer none)).run P w = .ok a.isNone w := by
  cases a <;> simp [Op.equalIn, run_underlying h]
theorem eqIn_nil_l (d : Nat) {t e : TypeId} (a : Option Addr) (h : P.underlying t = some (.pointer e)) : (Op.equalIn (d + 1) t (.pointer none) (.pointer a)).run P w = .ok a.isNone w := by
  cases a <;> simp [Op.equalIn, run_underlying h]
section
variable {t e t2 : TypeId} {x y : Operand} {a : Option Addr}
/-- a pointer against nil -/
theorem p_peqnil [h : U P t (.pointer e)] (hx : ρ x = .pointer a) (hy : ρ y = .pointer none) : Op1 P ρ (.binOp .eql t x y t2) ty w (.bool a.isNone) := by
  unfold Op1; intros; simp only [execOp, hx, hy, binOp]
  simp [eqGuard, Op.equal, Op.maxDepth, eqIn_nil_r 9999 a h.out]
theorem p_pnenil [h : U P t (.pointer e)] (hx : ρ x = .pointer a) (hy : ρ y = .pointer none) : Op1 P ρ (.binOp .neq t x y t2) ty w (.bool (!a.isNone)) := by
  unfold Op1; intros; simp only [execOp, hx, hy, binOp]
  simp [eqGuard, Op.equal, Op.maxDepth, eqIn_nil_r 9999 a h.out]
end
end

/-! ### operations that turn the world -/
section
variable {P : Program} {ops : Array Oper} {Q : Exit → Act → World → Prop} {n : Nat} {l : List (Nat × Value)} {ds : List Deferred} {rest : List Oper} {w : World}
variable {ty : TypeId} {pos : String} {aft : Array Edge} {d : Nat}
theorem w_box {t : TypeId} {x : Operand} {v : Value} (hx : ev n l x = v) (hd : Nat.blt d n = true)
    (k : ∀ b w', New w w' b (.cells v.cells t) → W P ops Q n ((d, .pointer (some ⟨b, 0, none⟩)) :: l) ds rest w') :
    W P ops Q n l ds (⟨some d, .box t x, ty, pos, aft, none⟩ :: rest) w := by
  refine w_op2 (v := .pointer (some ⟨w.heap.size, 0, none⟩)) (w' := w.alloc (.cells v.cells t)) ?_ hd (k _ _ ⟨rfl, rfl⟩)
  unfold Op2; intros; simp [execOp, hx, Instr.box, newVar, newRow]
theorem w_alloc {t : TypeId} {sz by_ : Nat} {z : Value} [h : Inf P t sz by_ z] (hd : Nat.blt d n = true)
    (k : ∀ b w', New w w' b (.cells z.cells t) → W P ops Q n ((d, .pointer (some ⟨b, 0, none⟩)) :: l) ds rest w') :
    W P ops Q n l ds (⟨some d, .alloc t, ty, pos, aft, none⟩ :: rest) w := by
  refine w_op2 (v := .pointer (some ⟨w.heap.size, 0, none⟩)) (w' := w.alloc (.cells z.cells t)) ?_ hd (k _ _ ⟨rfl, rfl⟩)
  unfold Op2; intros; simp [execOp, Instr.alloc, h.zero_, newVar, newRow]
theorem w_store {t e : TypeId} {a x : Operand} {b j : Nat} {v old : Value} {cs : List Value} [h : Na P t] (hsz : ∃ by_ z, Inf P t 1 by_ z) {ad : Addr} (ha : ev n l a = .pointer (some ad)) (had : ad = ⟨b, j, none⟩) (hx : ev n l x = v) (hv : v.oneCell' = true) (hb : Blk w b e cs) (hj : cs[j]? = some old)
    (k : ∀ w', Put w w' b → Blk w' b e (cs.set j v) → W P ops Q n l ds rest w') :
    W P ops Q n l ds (⟨none, .store t a x, ty, pos, aft, none⟩ :: rest) w := by
  subst had
  obtain ⟨by_, z, hi⟩ := hsz
  refine w_op0 (w' := w.setCell ⟨b, j, none⟩ v) ?_ (k _ (put_setCell w b j v) (hb.set_ j v))
  have hc := (hb.obj0).cell hj
  rw [addr_add_plain] at hc
  simp only [Nat.zero_add] at hc
  have hcells : v.cells = #[v] := by cases v <;> first | rfl | simp [Value.oneCell'] at hv
  unfold Op0; intros
  simp [execOp, ha, hx, Instr.storeAt, Instr.sureAddr, storeVar, hcells, hi.sizeOf_, storeCells, addr_add_zero, run_store P w _ v _ hv, stored, hc, hb.frozen]
/-- a whole variable of several cells is written -/
theorem w_storeS {t e : TypeId} {a x : Operand} {b j sz : Nat} {vs : Array Value} {cs : List Value} [h : Ag P t sz] (ha : ev n l a = .pointer (some ⟨b, j, none⟩)) (hx : ev n l x = .agg vs) (hv : vs.toList.all (·.oneCell') = true) (hsz : vs.size = sz) (hb : Blk w b e cs) (hj : j + sz ≤ cs.length)
    (k : ∀ w', Put w w' b → Blk w' b e (cs.take j ++ vs.toList ++ cs.drop (j + sz)) → W P ops Q n l ds rest w') :
    W P ops Q n l ds (⟨none, .store t a x, ty, pos, aft, none⟩ :: rest) w := by
  subst hsz
  have hbb := hb
  unfold Blk at hbb
  have hst := run_storeCells_at P b j e vs.toList 0 cs.toArray w hbb (by simpa using hj) (fun u hu => List.all_eq_true.1 hv u hu)
  simp only [Nat.add_zero] at hst
  refine w_op0 (w' := w.setRow b (cs.take j ++ vs.toList ++ cs.drop (j + vs.size)).toArray) ?_ (k _ ?_ ?_)
  · unfold Op0; intros
    have e1 : (⟨b, j, none⟩ : Addr) = ⟨b, j, none⟩ := rfl
    simp only [execOp, ha, hx, Instr.storeAt, Instr.sureAddr, storeVar]
    simp [Value.cells, h.size]
    have hst' := hst
    simp at hst'
    simp [hst']
  · exact ⟨⟨rfl, rfl, rfl, by simp, fun k _ hk => setRow_other w b k _ (fun e => hk (by rw [e]))⟩, by simp⟩
  · unfold Blk; exact setRow_heap w b _ _ e _ hbb
theorem w_storeW {t e : TypeId} {a x : Operand} {b sz : Nat} {vs : Array Value} {cs : List Value} [h : Ag P t sz] (ha : ev n l a = .pointer (some ⟨b, 0, none⟩)) (hx : ev n l x = .agg vs) (hv : vs.toList.all (·.oneCell') = true) (hsz : vs.size = sz) (hb : Blk w b e cs) (hl : cs.length = sz)
    (k : ∀ w', Put w w' b → Blk w' b e vs.toList → W P ops Q n l ds rest w') :
    W P ops Q n l ds (⟨none, .store t a x, ty, pos, aft, none⟩ :: rest) w := by
  refine w_storeS ha hx hv hsz hb (by omega) fun w' hp hbl => k w' hp ?_
  rw [List.take_zero, List.nil_append, List.drop_of_length_le (by omega), List.append_nil] at hbl
  exact hbl
theorem fill_cover {sz : Nat} : ∀ (vs : List Value) (k m : Nat) (cur : Array Value), (∀ v ∈ vs, v.cells.size = sz) → m = k + vs.length → cur.size = m * sz →
    Instr.fill (fun i => some (i * sz, sz)) cur ((List.range' k vs.length).zip vs) = some (cur.toList.take (k * sz) ++ vs.flatMap (·.cells.toList)).toArray
  | [], k, m, cur, _, hm, hs => by
    simp at hm
    subst hm
    simp only [List.length_nil, List.range'_zero, List.zip_nil_left, Instr.fill, List.flatMap_nil, List.append_nil]
    rw [List.take_of_length_le (by simp [hs])]
  | v :: vs, k, m, cur, hv, hm, hs => by
    have hvs := hv v (by simp)
    simp only [List.length_cons, List.range'_succ, List.zip_cons_cons, Instr.fill]
    have hfit : k * sz + v.cells.size ≤ cur.size := by
      rw [hvs, hs, hm, List.length_cons]
      calc k * sz + sz = (k + 1) * sz := by rw [Nat.succ_mul]
        _ ≤ (k + (vs.length + 1)) * sz := Nat.mul_le_mul_right _ (by omega)
    have hng : ¬ (cur.size < k * sz + v.cells.size) := by omega
    simp only [hvs, ne_eq, not_true_eq_false, decide_false, Bool.false_or, gt_iff_lt, decide_eq_true_eq]
    rw [hvs] at hng
    rw [if_neg hng]
    have key : ∀ (cells : List Value) (off j : Nat) (c : Array Value), off + j + cells.length ≤ c.size →
        ((cells.zipIdx j).foldl (fun cs (x, q) => cs.setIfInBounds (off + q) x) c) = (c.toList.take (off + j) ++ cells ++ c.toList.drop (off + j + cells.length)).toArray := by
      intro cells
      induction cells with
      | nil => intro off j c _; simp
      | cons x cells ih =>
        intro off j c hc
        simp only [List.length_cons] at hc
        simp only [List.zipIdx_cons, List.foldl_cons]
        rw [ih off (j + 1) _ (by simp; omega)]
        apply congrArg List.toArray
        simp only [Array.toList_setIfInBounds, List.length_cons]
        have hlt : off + j < c.toList.length := by simp; omega
        rw [show off + (j + 1) = off + j + 1 from by omega, List.take_succ_eq_append_getElem (by simpa using hlt), List.take_set_of_le (Nat.le_refl _), List.getElem_set_self, List.drop_set_of_lt (by omega)]
        simp [show off + j + 1 + cells.length = off + j + (cells.length + 1) from by omega]
    have hz : v.cells.zipIdx.foldl (fun cs (x : Value × Nat) => cs.setIfInBounds (k * sz + x.2) x.1) cur = (cur.toList.take (k * sz) ++ v.cells.toList ++ cur.toList.drop (k * sz + sz)).toArray := by
      have := key v.cells.toList (k * sz) 0 cur (by simpa using hfit)
      rw [← Array.foldl_toList, Array.toList_zipIdx]
      simpa [hvs] using this
    rw [hz, fill_cover vs (k + 1) m _ (fun u hu => hv u (by simp [hu])) (by rw [hm, List.length_cons]; omega)]
    · congr 1
      apply congrArg List.toArray
      simp only [List.flatMap_cons]
      rw [← List.append_assoc]
      congr 1
      have hl : (cur.toList.take (k * sz) ++ v.cells.toList).length = (k + 1) * sz := by
        simp only [List.length_append, List.length_take, Array.length_toList, hvs, Nat.succ_mul]
        omega
      rw [← hl, List.take_left]
    · simp only [List.size_toArray, List.length_append, List.length_take, List.length_drop, Array.length_toList, hvs]
      rw [hvs] at hfit
      omega
/-- a slice literal whose places are all given, in order -/
theorem w_buildSlice {t e : TypeId} {m sz by_ : Nat} {z : Value} {parts : Array (Nat × Operand)} {vs : List Value} [h : U P t (.slice e)] [hi : Inf P e sz by_ z] (hp : parts.toList.map (fun p => (p.1, ev n l p.2)) = (List.range' 0 vs.length).zip vs) (hm : m = vs.length) (hv : ∀ v ∈ vs, v.cells.size = sz) (hle : m * sz ≤ 16777216) (hd : Nat.blt d n = true)
    (k : ∀ b w', New w w' b (.cells (vs.flatMap (·.cells.toList)).toArray e) → W P ops Q n ((d, .slice (some ⟨b, 0, none⟩) m m) :: l) ds rest w') :
    W P ops Q n l ds (⟨some d, .buildSlice t m parts, ty, pos, aft, none⟩ :: rest) w := by
  subst hm
  refine w_op2 (v := .slice (some ⟨w.heap.size, 0, none⟩) vs.length vs.length) (w' := w.alloc (.cells (vs.flatMap (·.cells.toList)).toArray e)) ?_ hd (k _ _ ⟨rfl, rfl⟩)
  have hu := h.out
  have hle' : ¬ (16777216 < vs.length * sz) := by omega
  unfold Op2; intros
  have hp' : (parts.map fun x => (x.1, ev n l x.2)).toList = (List.range' 0 vs.length).zip vs := by simpa using hp
  by_cases h0 : vs.length * sz = 0
  · have hf := fill_cover (sz := sz) vs 0 vs.length #[] hv (by simp) (by simp [h0])
    simp [execOp, Instr.buildSlice, run_underlying hu, hi.sizeOf_, hle', h0, newRow]
    simp at hp' hf
    have er : Array.map (fun _ => (default : Value)) (Array.range 0) = #[] := by apply Array.ext <;> simp
    simp [hp', er, hf]
  · have hf := fill_cover (sz := sz) vs 0 vs.length ((Array.range (vs.length * sz)).map (z.cells[· % z.cells.size]!)) hv (by simp) (by simp)
    simp [execOp, Instr.buildSlice, run_underlying hu, hi.sizeOf_, hi.zero_, hle', h0, newRow]
    simp at hp' hf
    simp [hp', hf]
theorem w_append {t e : TypeId} {s x : Operand} {base m nn c sz by_ : Nat} {z v : Value} {ad : Addr} {xs news : List Value} [h : U P t (.slice e)] [hi : Inf P e sz by_ z] (hsz : 0 < sz) (hs : ev n l s = v) (hown : w.ownsRow base e sz v nn xs)
    (hx : ev n l x = .slice (some ad) m c) (hl : news.length = m * sz) (hnews : Cel w ad news) (h1 : news.all (·.oneCell') = true) (hb : (nn + m) * by_ ≤ 140737488355328) (hmx : nn + m ≤ 1099511627776) (hbase : base ≤ w.heap.size) (hd : Nat.blt d n = true)
    (k : ∀ v' w', w'.ownsRow base e sz v' (nn + m) (xs ++ news) → w.grownBy w' v.ownBlock → (v' = .slice none 0 0 ↔ v = .slice none 0 0 ∧ m = 0) → (v'.ownBlock = v.ownBlock ∨ v'.ownBlock = some w.heap.size) → W P ops Q n ((d, v') :: l) ds rest w') :
    W P ops Q n l ds (⟨some d, .call { callee := .builtin .append, args := #[s, x], argTypes := #[t, t] }, ty, pos, aft, none⟩ :: rest) w := by
  obtain ⟨i, i1, i2, i3, i4⟩ := hi.out
  obtain ⟨v', w', hr, h2, h3, h4, h5⟩ := run_append_own_at (P := P) w base t ty e i z sz by_ h.out i1 i4 i2 i3 hi.zsize hsz v nn xs hown ad m c news hl (fun j u hj => hnews.cell hj) (fun u hu => List.all_eq_true.1 h1 u hu) (by unfold maxLen; omega) hb hbase
  refine w_op2 (v := v') (w' := w') ?_ hd (k _ _ h2 h3 h4 h5)
  unfold Op2; intros
  simp only [execOp, resolve, invoke, builtin, Sem.run_bind, Sem.run_pure, Result.andThen_ok, List.map_toArray, List.map_cons, List.map_nil, hs, hx, hr]
theorem w_make {t e : TypeId} {a b : Operand} {sz by_ : Nat} {z : Value} {kl kc : IntKind} {c : Int} [h : U P t (.slice e)] [hi : Inf P e sz by_ z] (ha : ev n l a = .int kl c) (hb : ev n l b = .int kc c) (h0 : 0 ≤ c ∧ c ≤ 1099511627776) (hbytes : (by_ : Int) * c ≤ 281474976710656) (hd : Nat.blt d n = true)
    (k : ∀ b w', New w w' b (.cells (madeCells z.cells (c.toNat * sz)) e) → W P ops Q n ((d, .slice (some ⟨b, 0, none⟩) c.toNat c.toNat) :: l) ds rest w') :
    W P ops Q n l ds (⟨some d, .makeSlice t a b, ty, pos, aft, none⟩ :: rest) w := by
  obtain ⟨i, i1, i2, i3, i4⟩ := hi.out
  have hr := run_make (P := P) w t e i z h.out i1 i4 kl kc c c h0.1 (Int.le_refl _) (by rw [i3]; exact hbytes) (by omega)
  rw [i2] at hr
  refine w_op2 (v := .slice (some ⟨w.heap.size, 0, none⟩) c.toNat c.toNat) (w' := w.alloc (.cells (madeCells z.cells (c.toNat * sz)) e)) ?_ hd (k _ _ ⟨rfl, rfl⟩)
  unfold Op2; intros
  simp [execOp, ha, hb, hr]
theorem w_makeMap {t : TypeId} (hd : Nat.blt d n = true) (k : ∀ b w', New w w' b (.map #[] 0) → W P ops Q n ((d, .map (some b)) :: l) ds rest w') :
    W P ops Q n l ds (⟨some d, .makeMap t none, ty, pos, aft, none⟩ :: rest) w := by
  refine w_op2 (v := .map (some w.heap.size)) (w' := w.alloc (.map #[] 0)) ?_ hd (k _ _ ⟨rfl, rfl⟩)
  unfold Op2; intros; simp [execOp, Instr.makeMap]
end
end Go.Proofs.YtmgheamdboiklaaDoor
