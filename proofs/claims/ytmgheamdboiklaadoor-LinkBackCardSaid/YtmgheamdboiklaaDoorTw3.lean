/- THE WALKS of package tree: what is made. -/
import Derived.Test.YtmgheamdboiklaaDoorTw2
set_option linter.unusedVariables false
set_option linter.unusedSimpArgs false
namespace Go.Proofs.YtmgheamdboiklaaDoor
open Go.RowKit

/-- the tree lies there anew, as F'; beside its blocks nothing that was there has turned -/
def TOp (w w' : World) (S : Nat → Prop) (bt : Nat) (F' : Ft) : Prop := ∃ S' bk' km', PT w' S' bt F' bk' km' ∧ Fr w w' S ∧ ∀ i, S' i → S i ∨ w.heap.size ≤ i
section
variable {w w' w'' : World} {S : Nat → Prop} {bt : Nat} {F F' : Ft} {bk km : Int → Nat}
theorem TOp.same (h : PT w S bt F bk km) (hb : Below w.heap.size w w') : TOp w w' S bt F := ⟨S, bk, km, h.below hb, Fr.of_below hb, fun i hi => .inl hi⟩
theorem TOp.before (hb : Below w.heap.size w w') (h : TOp w' w'' S bt F') : TOp w w'' S bt F' := by
  obtain ⟨S', bk', km', h1, h2, h3⟩ := h
  refine ⟨S', bk', km', h1, (Fr.of_below hb).trans h2 (fun i hi => .inl hi), fun i hi => ?_⟩
  rcases h3 i hi with q | q
  · exact .inl q
  · have := hb.size; exact .inr (by omega)
theorem TOp.after (h : TOp w w' S bt F') (hb : Below w'.heap.size w' w'') : TOp w w'' S bt F' := by
  obtain ⟨S', bk', km', h1, h2, h3⟩ := h
  exact ⟨S', bk', km', h1.below hb, h2.trans (Fr.of_below (S := fun _ => False) hb) (fun i hi => hi.elim), h3⟩
end
theorem new_tree_ok (w : World) : Ret Tryd.prog 19 [] w fun v w' => ∃ bt S bk km, v = .pointer (some ⟨bt, 0, none⟩) ∧ PT w' S bt ftNew bk km ∧ Below w.heap.size w w' ∧ ∀ i, S i → w.heap.size ≤ i := by
  refine calls_in Tryd.func19 rfl Tryd.ntmps19 rfl ?_
  repeat (first | (apply w_op; (apply p_asP; apply Eq.refl); apply Eq.refl) | (apply w_nil) | (apply c_seq) | (apply e_then) | (apply c_region))
  refine w_op (p_build (by kernel_rfl : Tryd.prog.built 65 [(1, .int .i64 2)] = some #[.pointer none, .int .i64 2])) rfl ?_
  refine w_box rfl rfl (fun bt w1 hn1 => ?_)
  have ht : Blk w1 bt 65 [.pointer none, .int .i64 2] := hn1.blk
  have hbel := hn1.below (Below.refl _ _) (Nat.le_refl _)
  have e1 := hn1.hb
  have s1 := hn1.size
  clear hn1
  repeat (first | (apply w_op; (first | (apply p_mvP; apply Eq.refl) | (apply p_asP; apply Eq.refl)); apply Eq.refl) | (apply w_nil) | (apply c_seq) | (apply e_then) | (apply c_region))
  refine w_op (p_build (by kernel_rfl : Tryd.prog.built 36 [(0, .int .i64 493)] = some (enMt ⟨493, 0, 0, 0, 0⟩).toArray)) rfl ?_
  refine w_op (p_build (by kernel_rfl : Tryd.prog.built 38 [(0, .int .i64 2), (1, .int .i64 1), (3, .int .i64 1), (4, .agg (enMt ⟨493, 0, 0, 0, 0⟩).toArray)] = some (enSt ⟨2, 1, 0, 1, ⟨493, 0, 0, 0, 0⟩, noB⟩).toArray)) rfl ?_
  refine w_makeMap rfl (fun mb w2 hn2 => ?_)
  have hm := hn2.mk_
  have e2 := hn2.hb
  have s2 := hn2.size
  replace ht := ht.grown (hn2.grown none) (by simp)
  replace hbel := hn2.below hbel (by omega)
  clear hn2
  refine w_op (p_build (by kernel_rfl : Tryd.prog.built 68 [(0, .agg (enSt ⟨2, 1, 0, 1, ⟨493, 0, 0, 0, 0⟩, noB⟩).toArray), (2, .map (some mb))] = some (ndC ⟨2, 1, [], noB, ⟨493, 0, 0, 0, 0⟩⟩ 1 (.slice none 0 0) (.map (some mb))).toArray)) rfl ?_
  refine w_box rfl rfl (fun nb w3 hn3 => ?_)
  have hnd : Blk w3 nb 68 (ndC ⟨2, 1, [], noB, ⟨493, 0, 0, 0, 0⟩⟩ 1 (.slice none 0 0) (.map (some mb))) := hn3.blk
  have e3 := hn3.hb
  have s3 := hn3.size
  replace ht := ht.grown (hn3.grown none) (by simp)
  replace hm := hm.grown (hn3.grown none) (by simp)
  replace hbel := hn3.below hbel (by omega)
  clear hn3
  repeat (apply w_op; (first | (apply p_nilCheck; apply Eq.refl) | (apply p_fieldAddr; apply Eq.refl)); apply Eq.refl)
  refine w_store (v := .pointer (some ⟨nb, 0, none⟩)) (b := bt) (j := 0) (cs := [.pointer none, .int .i64 2]) (e := 65) ⟨_, _, inferInstance⟩ rfl (by simp [addr_add_plain]) rfl rfl ht rfl (fun w4 hp4 ht4 => ?_)
  have s4 := hp4.size
  replace hm := hm.grown hp4.grown (fun e => by injection e with e; omega)
  replace hnd := hnd.grown hp4.grown (fun e => by injection e with e; omega)
  replace hbel := hp4.below hbel (by omega) (by omega)
  repeat (first | (apply w_op; (first | (apply p_mvP; apply Eq.refl) | (apply p_asP; apply Eq.refl)); apply Eq.refl) | (apply w_nil) | (apply c_seq) | (apply e_then) | (apply c_region) | (apply c_ret))
  refine r_ret1 Tryd.results19 rfl ⟨bt, fun i => i = bt ∨ i = mb ∨ i = nb, fun _ => nb, fun _ => mb, rfl, ?_, hbel, ?_⟩
  · have hL : ∀ e ∈ ftNew.L, e = (noB, ⟨2, 1, [], noB, ⟨493, 0, 0, 0, 0⟩⟩) := fun e he => by simpa [ftNew] using he
    refine ⟨ht4, fun e he => ?_, fun e he _ => ?_, .inl rfl, fun _ _ => .inr (.inr rfl), fun _ _ _ => .inr (.inl rfl), fun i hi => ?_, fun e he e' he' _ => ?_, fun e he e' he' _ _ _ => ?_⟩
    · rw [hL e he]
      exact ⟨.slice none 0 0, hnd, DatV.nil⟩
    · rw [hL e he]
      exact hm.to_kid Wf.new (fun x => rfl)
    · rcases hi with rfl | rfl | rfl <;> omega
    · rw [hL e he, hL e' he']
    · rw [hL e he, hL e' he']
  · intro i hi
    rcases hi with rfl | rfl | rfl <;> omega

section
variable {w : World} {S : Nat → Prop} {bt : Nat} {F : Ft} {bk km : Int → Nat}
theorem put_ok (h : PT w S bt F bk km) (hF : Wf F) {p : ByteArray} (hr : right p = true) (hne : p ≠ noB) (hat : F.at_ p = none) {d : Tg} (hd : F.at_ (parent p) = some d) (hdk : d.kind = 2) (t : Tg) (hF' : Wf (F.add p t)) (ht0 : t.data = [])
    {nb mb : Nat} {lk : Int} (hN : Blk w nb 68 (ndC t lk (.slice none 0 0) (if t.kind = 2 then .map (some mb) else .map none))) (hnb : ¬ S nb) (hK : t.kind = 2 → Mk w mb (fun _ => none) [] ∧ ¬ S mb) (hnx : F.next ≤ 1000000000) :
    Ret Tryd.prog 38 [.pointer (some ⟨bt, 0, none⟩), .pointer (some ⟨bk d.ino, 0, none⟩), .string p, .pointer (some ⟨nb, 0, none⟩)] w
    fun v w' => ∃ bk' km', v = .tuple #[] ∧ PT w' (fun i => S i ∨ i = nb ∨ (t.kind = 2 ∧ i = mb)) bt (F.add p t) bk' km' ∧ Fr w w' (fun i => S i ∨ i = nb) ∧ bk' F.next = nb := by
  obtain ⟨ta1, ta2, ta3⟩ := type_apart
  have hs := right_size' hr
  have hn1 : 1 ≤ F.next := by
    obtain ⟨r, h1, _, h3⟩ := hF.at_root
    have : r.ino < F.next := (hF.ino _ (atL_mem h1)).2
    omega
  have htc := h.tcel
  have hne1 : bt ≠ nb := fun e => hnb (e ▸ h.sT)
  have hmd := h.map hd hdk
  obtain ⟨dvd, hdc, _⟩ := h.cel hd
  have hbd : bk d.ino ≠ nb := fun e => hnb (e ▸ h.sN _ (atL_mem hd))
  have hbd2 : bk d.ino ≠ bt := fun e => by obtain ⟨_, hx, _⟩ := h.node _ (atL_mem hd); exact ta1 ((e ▸ h.tree : Blk w (bk d.ino) _ _).ty hx)
  have hkm1 : km d.ino ≠ nb := fun e => hnb (e ▸ h.sK _ (atL_mem hd) hdk)
  have hkm2 : km d.ino ≠ bt := fun e => h.tree.nomap hmd e.symm
  rw [show kvO km d = .map (some (km d.ino)) from if_pos hdk] at hdc
  refine calls_in Tryd.func38 rfl Tryd.ntmps38 rfl ?_
  repeat (first | (apply w_op; (first | (apply p_mvP; apply Eq.refl) | (apply p_nilCheck; apply Eq.refl) | (apply p_fieldAddr; apply Eq.refl) | (apply p_loadF; apply Eq.refl; (first | assumption | (apply Cel.bel; assumption; assumption; apply Nat.zero_lt_succ)); (first | apply Eq.refl | assumption))); apply Eq.refl) | (apply c_seq) | (apply c_region))
  refine w_store (v := .int .i64 F.next) (b := nb) (j := 1) (cs := _) (e := 68) ⟨_, _, inferInstance⟩ rfl (by simp [addr_add_plain]) rfl rfl hN rfl (fun w1 hp1 hN1 => ?_)
  replace htc := htc.grown hp1.grown (fun e => by injection e with e; exact hne1 e)
  replace hdc := hdc.grown hp1.grown (fun e => by injection e with e; exact hbd e)
  have hT1 := h.tree.grown hp1.grown (fun e => by injection e with e; exact hne1 e)
  replace hmd := hmd.grown hp1.grown (fun e => by injection e with e; exact hkm1 e)
  have hf1 : Fr w w1 (fun i => S i ∨ i = nb) := Fr.put hp1 (.inr rfl)
  repeat (first | (apply w_op; (first | (apply p_mvP; apply Eq.refl) | (apply p_nilCheck; apply Eq.refl) | (apply p_fieldAddr; apply Eq.refl)); apply Eq.refl) | (apply w_nil) | (apply c_seq) | (apply e_then) | (apply c_region))
  refine w_store (v := .int .i64 1) (b := nb) (j := 3) (cs := _) (e := 68) ⟨_, _, inferInstance⟩ rfl (by simp [addr_add_plain]) rfl rfl hN1 rfl (fun w2 hp2 hN2 => ?_)
  replace htc := htc.grown hp2.grown (fun e => by injection e with e; exact hne1 e)
  replace hdc := hdc.grown hp2.grown (fun e => by injection e with e; exact hbd e)
  have hT2 := hT1.grown hp2.grown (fun e => by injection e with e; exact hne1 e)
  replace hmd := hmd.grown hp2.grown (fun e => by injection e with e; exact hkm1 e)
  have hf2 : Fr w w2 (fun i => S i ∨ i = nb) := hf1.trans (Fr.put (S := fun i => i = nb) hp2 rfl) (fun i hi => .inl (.inr hi))
  clear hT1 hN1
  repeat (first | (apply w_op; (first | (apply p_mvP; apply Eq.refl) | (apply p_nilCheck; apply Eq.refl) | (apply p_fieldAddr; apply Eq.refl) | (apply p_add64; apply Eq.refl; apply Eq.refl; omega) | (apply p_loadF; apply Eq.refl; (first | assumption | (apply Cel.bel; assumption; assumption; apply Nat.zero_lt_succ)); (first | apply Eq.refl | assumption))); apply Eq.refl) | (apply w_nil) | (apply c_seq) | (apply e_then) | (apply c_region))
  refine w_store (v := .int .i64 (F.next + 1)) (b := bt) (j := 1) (cs := _) (e := 65) ⟨_, _, inferInstance⟩ rfl (by simp [addr_add_plain]) rfl rfl hT2 rfl (fun w3 hp3 hT3 => ?_)
  replace hdc := hdc.grown hp3.grown (fun e => by injection e with e; exact hbd2 e)
  have hN3 := hN2.grown hp3.grown (fun e => by injection e with e; exact hne1 e.symm)
  replace hmd := hmd.grown hp3.grown (fun e => by injection e with e; exact hkm2 e)
  have hf3 : Fr w w3 (fun i => S i ∨ i = nb) := hf2.trans (Fr.put (S := fun i => i = bt) hp3 rfl) (fun i hi => .inl (.inl (hi ▸ h.sT)))
  clear hT2 hN2 htc
  replace hdc := hdc.drew
  replace hmd := hmd.drew
  repeat (first | (apply w_nil) | (apply e_then))
  refine c_quietTail (fun x => x = w3.drew) 7 mixed (by kernel_rfl) rfl ?_
  repeat (apply r_op; (first | (apply p_mvS; apply Eq.refl) | (apply p_mvP; apply Eq.refl) | (apply p_nilCheck; apply Eq.refl) | (apply p_fieldAddr; apply Eq.refl) | (apply p_loadF; apply Eq.refl; (first | assumption | (apply Cel.bel; assumption; assumption; apply Nat.zero_lt_succ)); (first | apply Eq.refl | assumption))); apply Eq.refl)
  refine q_call cl55 (.string (base p)) (fun x hx => (base_ok p x hs).mono fun v' w' ⟨e1, e2⟩ => ⟨e2, e1 ▸ hx⟩) rfl ?_
  repeat (apply r_op; (apply p_mvP; apply Eq.refl); apply Eq.refl)
  refine q_tail (fun w4 hw4 => ?_)
  subst hw4
  refine w_mapUpdateK (s := base p) (v := .pointer (some ⟨nb, 0, none⟩)) rfl rfl rfl hmd (fun w4 hp4 hm4 => ?_)
  have hf4 : Fr w w4 (fun i => S i ∨ i = nb) := hf3.drew.trans (Fr.put (S := fun i => i = km d.ino) hp4 rfl) (fun i hi => .inl (.inl (hi ▸ h.sK _ (atL_mem hd) hdk)))
  have hnk : (kidM F.L bk (parent p) (base p)) = none := by unfold kidM; rw [kid_none hF hr hne hat]; rfl
  rw [hnk] at hm4
  have hT4 := hT3.drew.grown hp4.grown (fun e => by injection e with e; exact hkm2 e.symm)
  have hN4 := hN3.drew.grown hp4.grown (fun e => by injection e with e; exact hkm1 e.symm)
  repeat (apply w_nil)
  refine r_end0 Tryd.results38 ⟨fun i => if i = F.next then nb else bk i, fun i => if i = F.next then mb else km i, rfl, ?_, hf4, if_pos rfl⟩
  refine h.add (S' := fun i => S i ∨ i = nb ∨ (t.kind = 2 ∧ i = mb)) (nb := nb) (mb := mb) (dv := .slice none 0 0) hF hr hne hat hd hdk hF' hT4 hN4 (by rw [ht0]; exact DatV.nil) hm4 (fun q => ?_) (fun i hi h1 h2 => ?_) (fun i hi => .inl hi) ⟨.inr (.inl rfl), hnb⟩ (fun i hi => ?_)
  · obtain ⟨q1, q2⟩ := hK q
    refine ⟨?_, .inr (.inr ⟨q, rfl⟩), q2⟩
    have hmb : mb ≠ nb := fun e => (hN.nomap (e ▸ q1)) rfl
    have k1 := q1.grown hp1.grown (fun e => by injection e with e; exact hmb e)
    have k2 := k1.grown hp2.grown (fun e => by injection e with e; exact hmb e)
    have k3 := k2.grown hp3.grown (fun e => by injection e with e; exact q2 (e ▸ h.sT))
    exact k3.drew.grown hp4.grown (fun e => by injection e with e; exact q2 (e ▸ h.sK _ (atL_mem hd) hdk))
  · have hi0 := h.lt i hi
    have hin : i ≠ nb := fun e => hnb (e ▸ hi)
    have b1 := hp1.grown.block i hi0 (fun e => by injection e with e; exact hin e)
    have b2 := hp2.grown.block i (by have := hp1.size; omega) (fun e => by injection e with e; exact hin e)
    have b3 := hp3.grown.block i (by have := hp1.size; have := hp2.size; omega) (fun e => by injection e with e; exact h1 e)
    have b4 := hp4.grown.block i (by have := hp1.size; have := hp2.size; have := hp3.size; show i < w3.heap.size; omega) (fun e => by injection e with e; exact h2 e)
    exact (b4.trans (show w3.drew.heap[i]? = w3.heap[i]? from rfl)).trans (b3.trans (b2.trans b1))
  · have z := hf4.size
    rcases hi with hi | rfl | ⟨q, rfl⟩
    · have := h.lt i hi; omega
    · have := hN.lt; omega
    · have := (hK q).1.lt; omega
end
end Go.Proofs.YtmgheamdboiklaaDoor
