/- PLAIN: the order of going; what the document's answer counts of a directory. No program in it. -/
import Derived.Test.YtmgheamdboiklaaDoorOrd3
set_option linter.unusedVariables false
set_option linter.unusedSimpArgs false
namespace Go.Proofs.YtmgheamdboiklaaDoor

/-! ### the order of going -/
def aheadB (a b : ByteArray) : Bool := under a b || (!under b a && less a b)
inductive PoLt : List ByteArray → List ByteArray → Prop
  | nil {a x} : PoLt (a :: x) []
  | head {a b x y} : sLt a b = true → PoLt (a :: x) (b :: y)
  | tail {a x y} : PoLt x y → PoLt (a :: x) (a :: y)
theorem PoLt.irrefl : ∀ {x : List ByteArray}, ¬ PoLt x x
  | _, .head h => by rw [sLt_irrefl] at h; cases h
  | _, .tail h => h.irrefl
theorem PoLt.trans : ∀ {x y z : List ByteArray}, PoLt x y → PoLt y z → PoLt x z
  | _, _, _, .head _, .nil => .nil
  | _, _, _, .tail _, .nil => .nil
  | _, _, _, .head h, .head k => .head (sLt_trans h k)
  | _, _, _, .head h, .tail _ => .head h
  | _, _, _, .tail _, .head k => .head k
  | _, _, _, .tail h, .tail k => .tail (h.trans k)
theorem PoLt.total : ∀ (x y : List ByteArray), PoLt x y ∨ x = y ∨ PoLt y x
  | [], [] => .inr (.inl rfl)
  | _ :: _, [] => .inl .nil
  | [], _ :: _ => .inr (.inr .nil)
  | a :: x, b :: y => by
    cases h1 : sLt a b with
    | true => exact .inl (.head h1)
    | false =>
      cases h2 : sLt b a with
      | true => exact .inr (.inr (.head h2))
      | false =>
        obtain rfl := sLt_total h1 h2
        rcases PoLt.total x y with h | rfl | h
        · exact .inl (.tail h)
        · exact .inr (.inl rfl)
        · exact .inr (.inr (.tail h))
theorem ahead_po : ∀ {x y : List ByteArray}, x ≠ y → ((y <+: x) ∨ (¬ (x <+: y) ∧ LtP x y) ↔ PoLt x y)
  | [], [], h => absurd rfl h
  | [], b :: y, _ => by
    constructor
    · rintro (h | ⟨h, _⟩)
      · have := h.length_le; simp at this
      · exact absurd (List.nil_prefix) h
    · intro h; cases h
  | a :: x, [], _ => ⟨fun _ => .nil, fun _ => .inl List.nil_prefix⟩
  | a :: x, b :: y, h => by
    by_cases e : a = b
    · subst e
      have ih := ahead_po (x := x) (y := y) (fun e => h (by rw [e]))
      have hc : ∀ u v : List ByteArray, (a :: u <+: a :: v) ↔ (u <+: v) := fun u v => by simp [List.prefix_cons_iff]
      rw [hc, hc]
      constructor
      · rintro (k | ⟨k, m⟩)
        · exact .tail (ih.1 (.inl k))
        · cases m with
          | head m => rw [sLt_irrefl] at m; cases m
          | tail m => exact .tail (ih.1 (.inr ⟨k, m⟩))
      · intro k
        cases k with
        | head m => rw [sLt_irrefl] at m; cases m
        | tail m =>
          rcases ih.2 m with m | ⟨m, n⟩
          · exact .inl m
          · exact .inr ⟨m, .tail n⟩
    · have hp : ∀ u v : List ByteArray, ¬ (b :: u <+: a :: v) := fun u v k => by
        obtain ⟨t, ht⟩ := k
        injection ht with h1 _
        exact e h1.symm
      have hp2 : ∀ u v : List ByteArray, ¬ (a :: u <+: b :: v) := fun u v k => by
        obtain ⟨t, ht⟩ := k
        injection ht with h1 _
        exact e h1
      constructor
      · rintro (k | ⟨_, m⟩)
        · exact absurd k (hp _ _)
        · cases m with
          | head m => exact .head m
          | tail m => exact absurd rfl e
      · intro k
        cases k with
        | head m => exact .inr ⟨hp2 _ _, .head m⟩
        | tail m => exact absurd rfl e
def Po (a b : ByteArray) : Prop := PoLt (split a) (split b)
theorem Po.trans {a b c : ByteArray} (h : Po a b) (k : Po b c) : Po a c := PoLt.trans h k
theorem Po.irrefl {a : ByteArray} : ¬ Po a a := PoLt.irrefl
theorem Po.total {a b : ByteArray} (h : a ≠ b) : Po a b ∨ Po b a := by
  rcases PoLt.total (split a) (split b) with k | k | k
  · exact .inl k
  · exact absurd (split_inj k) h
  · exact .inr k
theorem ahead_iff {a b : ByteArray} (h : a ≠ b) : aheadB a b = true ↔ Po a b := by
  unfold Po
  rw [← ahead_po (fun e => h (split_inj e))]
  unfold aheadB
  rw [Bool.or_eq_true, Bool.and_eq_true, under_iff, less_iff, Bool.not_eq_true', ← Bool.not_eq_true, under_iff]
  rfl
theorem po_sorted_unique {l m : List ByteArray} (h1 : l.Pairwise Po) (h2 : m.Pairwise Po) (hp : l.Perm m) : l = m := by
  refine List.Perm.eq_of_pairwise (le := Po) (fun a b _ _ h k => absurd (h.trans k) Po.irrefl) h1 h2 hp
theorem ins_sorted {o : List ByteArray} {p : ByteArray} {k : Nat} (ho : o.Pairwise Po) (hp : p ∉ o) (hkl : k ≤ o.length) (h1 : ∀ b ∈ o.drop k, aheadB p b = true) (h2 : ∀ k', k = k' + 1 → ∀ h : k' < o.length, aheadB p o[k'] = false) : (o.take k ++ p :: o.drop k).Pairwise Po := by
  have hs := ho
  rw [← List.take_append_drop k o, List.pairwise_append] at hs
  obtain ⟨s1, s2, s3⟩ := hs
  have hd : ∀ b ∈ o.drop k, Po p b := fun b hb => (ahead_iff (fun e => hp (by rw [e]; exact List.mem_of_mem_drop hb))).1 (h1 b hb)
  have ht : ∀ a ∈ o.take k, Po a p := by
    intro a ha
    obtain ⟨i, hi, e⟩ := List.mem_iff_getElem.1 ha
    have hi2 := hi
    rw [List.length_take] at hi2
    obtain ⟨k', rfl⟩ : ∃ k', k = k' + 1 := ⟨k - 1, by omega⟩
    have hk' : k' < o.length := by omega
    have hne : p ≠ o[k'] := fun e => hp (by rw [e]; exact List.getElem_mem hk')
    have hl : Po o[k'] p := by
      rcases Po.total hne with h | h
      · have := h2 k' rfl hk'
        rw [(ahead_iff hne).2 h] at this
        cases this
      · exact h
    by_cases hik : i = k'
    · subst hik; rw [← e, List.getElem_take]; exact hl
    · have := List.pairwise_iff_getElem.1 ho i k' (by omega) hk' (by omega)
      rw [← e, List.getElem_take]
      exact this.trans hl
  refine List.pairwise_append.2 ⟨s1, List.pairwise_cons.2 ⟨hd, s2⟩, fun a ha b hb => ?_⟩
  rcases List.mem_cons.1 hb with rfl | hb
  · exact ht a ha
  · exact s3 a ha b hb

/-! ### what lies below a directory follows it -/
theorem ltp_between : ∀ {x y z : List ByteArray}, LtP x y → LtP y z → x <+: z → x <+: y
  | [], _, _, _, _, _ => List.nil_prefix
  | a :: x, y, z, h, k, hp => by
    obtain ⟨t, rfl⟩ := hp
    cases h with
    | head h1 =>
      cases k with
      | head k1 => have := sLt_trans h1 k1; rw [sLt_irrefl] at this; cases this
      | tail k1 => rw [sLt_irrefl] at h1; cases h1
    | tail h1 =>
      cases k with
      | head k1 => rw [sLt_irrefl] at k1; cases k1
      | tail k1 =>
        obtain ⟨s, hs⟩ := ltp_between h1 k1 ⟨t, rfl⟩
        exact ⟨s, by rw [← hs]; rfl⟩
theorem abv_between {a b c : ByteArray} (h : PLt a b) (k : PLt b c) (hp : Abv a c) : Abv a b := ltp_between h k hp
theorem ltp_prefix : ∀ {x y : List ByteArray}, x <+: y → x ≠ y → LtP x y
  | [], [], _, h => absurd rfl h
  | [], _ :: _, _, _ => .nil
  | a :: x, y, hp, h => by
    obtain ⟨t, rfl⟩ := hp
    exact .tail (ltp_prefix ⟨t, rfl⟩ (fun e => h (congrArg (a :: ·) e)))
theorem kid_behind {x p : ByteArray} (hr : right x = true) (hne : x ≠ noB) (h : parent x = p) : PLt p x ∧ Abv p x := by
  have ha := parent_abv hr
  rw [h] at ha
  refine ⟨ltp_prefix ha (fun e => ?_), ha⟩
  have := parent_len hr hne
  rw [h, e] at this
  omega

def kidc (p : ByteArray) : List En → Nat
  | [] => 0
  | e :: r => (if parent e.path = p then 1 else 0) + kidc p r
def nz (p : ByteArray) : List En → List Int → Bool
  | e :: r, w :: ws => (decide (parent e.path = p) && !decide (w = 0)) || nz p r ws
  | _, _ => false
theorem kidc_snoc (p : ByteArray) (x : En) : ∀ (l : List En), kidc p (l ++ [x]) = kidc p l + (if parent x.path = p then 1 else 0)
  | [] => by simp [kidc]
  | e :: l => by simp only [List.cons_append, kidc, kidc_snoc p x l]; omega
theorem nz_snoc (p : ByteArray) (x : En) (w : Int) : ∀ (l : List En) (ws : List Int), l.length = ws.length → nz p (l ++ [x]) (ws ++ [w]) = (nz p l ws || (decide (parent x.path = p) && !decide (w = 0)))
  | [], [], _ => by simp [nz]
  | [], _ :: _, h => by simp at h
  | _ :: _, [], h => by simp at h
  | e :: l, v :: ws, h => by
    simp only [List.cons_append, nz, nz_snoc p x w l ws (by simpa using h), Bool.or_assoc]
theorem kidc_le (p : ByteArray) : ∀ (l : List En), kidc p l ≤ l.length
  | [] => Nat.le_refl _
  | e :: l => by
    have := kidc_le p l
    simp only [kidc, List.length_cons]
    split <;> omega
theorem kidc_app (p : ByteArray) : ∀ (l m : List En), kidc p (l ++ m) = kidc p l + kidc p m
  | [], m => by simp [kidc]
  | e :: l, m => by simp only [List.cons_append, kidc, kidc_app p l m]; omega
theorem kidc_none {p : ByteArray} : ∀ {l : List En}, (∀ e ∈ l, parent e.path ≠ p) → kidc p l = 0
  | [], _ => rfl
  | e :: l, h => by
    simp only [kidc]
    rw [if_neg (h e (by simp)), kidc_none (fun x hx => h x (by simp [hx]))]
theorem kidc_len (p : ByteArray) : ∀ (l : List En) (k : Nat), (kidsFrom p l k).length = kidc p l
  | [], k => rfl
  | e :: l, k => by
    simp only [kidsFrom, kidc]
    split
    · simp [kidc_len p l (k + 1)]; omega
    · simp [kidc_len p l (k + 1)]
theorem cnt_nz (p : ByteArray) : ∀ (l : List En) (ws : List Int), l.length = ws.length → cntGo p l ws ≤ kidc p l ∧ (nz p l ws = true ↔ cntGo p l ws < kidc p l)
  | [], [], _ => by simp [cntGo, kidc, nz]
  | [], _ :: _, h => by simp at h
  | _ :: _, [], h => by simp at h
  | e :: l, w :: ws, h => by
    obtain ⟨h1, h2⟩ := cnt_nz p l ws (by simpa using h)
    simp only [cntGo, kidc, nz]
    by_cases a : parent e.path = p
    · by_cases b : w = 0
      · simp [a, b, h2]; omega
      · simp [a, b]; omega
    · simp [a, h2]; omega
theorem nz_none {p : ByteArray} : ∀ {l : List En} {ws : List Int}, (∀ e ∈ l, parent e.path ≠ p) → nz p l ws = false
  | [], _, _ => by simp [nz]
  | _ :: _, [], _ => rfl
  | e :: l, w :: ws, h => by
    simp only [nz]
    rw [decide_eq_false (h e (by simp)), nz_none (fun x hx => h x (by simp [hx]))]
    rfl
theorem nz_app (p : ByteArray) : ∀ (l m : List En) (ws vs : List Int), l.length = ws.length → nz p (l ++ m) (ws ++ vs) = (nz p l ws || nz p m vs)
  | [], m, [], vs, _ => by simp [nz]
  | [], _, _ :: _, _, h => by simp at h
  | _ :: _, _, [], _, h => by simp at h
  | e :: l, m, w :: ws, vs, h => by
    simp only [List.cons_append, nz, nz_app p l m ws vs (by simpa using h), Bool.or_assoc]
/-- the entries of r are gone through up to m: there they end, or come to one that is not below e -/
theorem goes_full {dst : List En} (g : Good dst) (hr : dst.Pairwise (fun a b => PLt a.path b.path)) {i m : Nat} (hi : i < dst.length) (ws : List Int) (hw : ws.length = (dst.drop (i + 1)).length)
    (hm : m ≤ (dst.drop (i + 1)).length) (hend : ∀ h : m < (dst.drop (i + 1)).length, under (dst.drop (i + 1))[m].path dst[i].path = false) (hk : dst[i].kind = 2) :
    fullE (fun p => (kidsOf dst p).length) dst[i] (dst.drop (i + 1)) ws = (nz dst[i].path ((dst.drop (i + 1)).take m) (ws.take m) || !decide ((kidc dst[i].path ((dst.drop (i + 1)).take m) : Int) = dst[i].size)) := by
  have hpw := List.pairwise_iff_getElem.1 hr
  -- behind m there is no kid
  have hafter : ∀ e ∈ (dst.drop (i + 1)).drop m, parent e.path ≠ dst[i].path := by
    intro e he hpar
    obtain ⟨j, hj, ej⟩ := List.mem_iff_getElem.1 he
    have hj2 : i + 1 + (m + j) < dst.length := by simp at hj; omega
    have ee : e = dst[i + 1 + (m + j)] := by rw [← ej]; simp [Nat.add_assoc]
    obtain ⟨g1, g2⟩ := g.own e (by rw [ee]; exact List.getElem_mem _)
    have hm1 : m < (dst.drop (i + 1)).length := by simp; omega
    have hu := hend hm1
    have ha := (kid_behind g1 g2 hpar).2
    rw [List.getElem_drop] at hu
    have hm2 : i + 1 + m < dst.length := by omega
    have hum : Abv dst[i].path dst[i + 1 + m].path := by
      by_cases h0 : j = 0
      · subst h0; rw [ee] at ha; exact ha
      · have p1 := hpw i (i + 1 + m) hi hm2 (by omega)
        have p2 := hpw (i + 1 + m) (i + 1 + (m + j)) hm2 hj2 (by omega)
        rw [ee] at ha
        exact abv_between p1 p2 ha
    rw [under_iff.2 hum] at hu
    cases hu
  have hbefore : ∀ e ∈ dst.take (i + 1), parent e.path ≠ dst[i].path := by
    intro e he hpar
    obtain ⟨j, hj, ej⟩ := List.mem_iff_getElem.1 he
    have hj2 : j < dst.length := by simp at hj; omega
    have ee : e = dst[j] := by rw [← ej]; simp
    obtain ⟨g1, g2⟩ := g.own e (by rw [ee]; exact List.getElem_mem _)
    have hp := (kid_behind g1 g2 hpar).1
    rw [ee] at hp
    by_cases hij : j = i
    · subst hij; exact PLt.irrefl hp
    · exact PLt.irrefl (hp.trans (hpw j i hj2 hi (by simp at hj; omega)))
  have hsplit : dst.drop (i + 1) = (dst.drop (i + 1)).take m ++ (dst.drop (i + 1)).drop m := (List.take_append_drop m _).symm
  have hkid : (kidsOf dst dst[i].path).length = kidc dst[i].path ((dst.drop (i + 1)).take m) := by
    unfold kidsOf
    rw [kidc_len]
    have h1 : kidc dst[i].path dst = kidc dst[i].path (dst.take (i + 1)) + (kidc dst[i].path ((dst.drop (i + 1)).take m) + kidc dst[i].path ((dst.drop (i + 1)).drop m)) := by
      rw [← kidc_app, ← hsplit, ← kidc_app, List.take_append_drop]
    rw [h1, kidc_none hbefore, kidc_none hafter]
    omega
  have hkid2 : kidc dst[i].path (dst.drop (i + 1)) = kidc dst[i].path ((dst.drop (i + 1)).take m) := by
    conv => lhs; rw [hsplit]
    rw [kidc_app, kidc_none hafter, Nat.add_zero]
  have hnz : nz dst[i].path (dst.drop (i + 1)) ws = nz dst[i].path ((dst.drop (i + 1)).take m) (ws.take m) := by
    conv => lhs; rw [hsplit, ← List.take_append_drop m ws]
    rw [nz_app _ _ _ _ _ (by rw [List.length_take, List.length_take, hw]), nz_none hafter, Bool.or_false]
  obtain ⟨c1, c2⟩ := cnt_nz dst[i].path (dst.drop (i + 1)) ws hw.symm
  rw [hnz] at c2
  rw [hkid2] at c1 c2
  unfold fullE isDir
  rw [decide_eq_true hk, Bool.true_and]
  simp only [hkid]
  generalize hK : kidc dst[i].path ((dst.drop (i + 1)).take m) = K at *
  generalize hC : cntGo dst[i].path (dst.drop (i + 1)) ws = C at *
  generalize nz dst[i].path ((dst.drop (i + 1)).take m) (ws.take m) = b at *
  by_cases hKs : (K : Int) = dst[i].size
  · cases b with
    | true => have := c2.1 rfl; simp; left; omega
    | false =>
      have : ¬ C < K := fun h => by have := c2.2 h; cases this
      simp
      omega
  · simp [hKs]

/-! ### what goes, in the order of going -/
theorem sib_po {dst : List En} (g : Good dst) {p x y : ByteArray} {k k' : Nat} (hk : k ∈ kidsOf dst p) (hk' : k' ∈ kidsOf dst p) (hlt : PLt (pth dst k) (pth dst k')) (h1 : Abv (pth dst k) x) (h2 : Abv (pth dst k') y) : Po x y := by
  obtain ⟨a1, a2, a3, a4⟩ := kid_facts g hk
  obtain ⟨b1, b2, b3, b4⟩ := kid_facts g hk'
  have key : ∀ (c u v s t : List ByteArray), u.length = c.length + 1 → v.length = c.length + 1 → c <+: u → c <+: v → LtP u v → PoLt (u ++ s) (v ++ t) := by
    intro c
    induction c with
    | nil =>
      intro u v s t hu hv _ _ h
      match u, v, hu, hv with
      | [a], [b], _, _ =>
        cases h with
        | head h => exact .head h
        | tail h => cases h
    | cons a c ih =>
      intro u v s t hu hv pu pv h
      obtain ⟨u', rfl⟩ := pu
      obtain ⟨v', rfl⟩ := pv
      cases h with
      | head h => rw [sLt_irrefl] at h; cases h
      | tail h => exact .tail (ih _ _ s t (by simpa using hu) (by simpa using hv) ⟨u', rfl⟩ ⟨v', rfl⟩ h)
  obtain ⟨s, hs⟩ := h1
  obtain ⟨t, ht⟩ := h2
  unfold Po
  rw [← hs, ← ht]
  have l1 := parent_len a3 a4
  have l2 := parent_len b3 b4
  have q1 := parent_abv a3
  have q2 := parent_abv b3
  rw [a2] at l1 q1
  rw [b2] at l2 q2
  exact key (split p) _ _ s t l1.symm l2.symm q1 q2 hlt
theorem po_above {x y : ByteArray} (h : Abv y x) (hne : x ≠ y) : Po x y := by
  refine (ahead_iff hne).1 ?_
  unfold aheadB
  rw [under_iff.2 h]
  rfl
theorem kidsFrom_rise (p : ByteArray) : ∀ (l : List En) (k : Nat), (kidsFrom p l k).Pairwise (· < ·)
  | [], k => by simp [kidsFrom]
  | e :: l, k => by
    simp only [kidsFrom]
    split
    · refine List.pairwise_cons.2 ⟨fun j hj => ?_, kidsFrom_rise p l (k + 1)⟩
      have := (kidsFrom_mem _ _ _ _ hj).1
      omega
    · exact kidsFrom_rise p l (k + 1)
def PoI (dst : List En) (x y : Nat) : Prop := Po (pth dst x) (pth dst y)
theorem level_po {dst : List En} (g : Good dst) (hr : dst.Pairwise (fun a b => PLt a.path b.path)) (f : Nat) (hf : ∀ k, (idxF dst f k).Pairwise (PoI dst)) (p : ByteArray) : ((kidsOf dst p).flatMap (idxF dst f)).Pairwise (PoI dst) := by
  have key : ∀ s : List Nat, (∀ k ∈ s, k ∈ kidsOf dst p) → s.Pairwise (· < ·) → (s.flatMap (idxF dst f)).Pairwise (PoI dst) := by
    intro s
    induction s with
    | nil => intro _ _; simp
    | cons k s ih =>
      intro hs hp
      obtain ⟨hp1, hp2⟩ := List.pairwise_cons.1 hp
      rw [List.flatMap_cons]
      refine List.pairwise_append.2 ⟨hf k, ih (fun j hj => hs j (by simp [hj])) hp2, fun x hx y hy => ?_⟩
      obtain ⟨k', hk', hy'⟩ := List.mem_flatMap.1 hy
      have u1 := (idx_under g f k x hx).2.2
      have u2 := (idx_under g f k' y hy').2.2
      have m1 := hs k (by simp)
      have m2 := hs k' (by simp [hk'])
      have d1 := (kid_facts g m1).1
      have d2 := (kid_facts g m2).1
      refine sib_po g m1 m2 ?_ u1 u2
      rw [pth_at d1, pth_at d2]
      exact List.pairwise_iff_getElem.1 hr k k' d1 d2 (hp1 k' hk')
  exact key _ (fun k hk => hk) (kidsFrom_rise p dst 0)
theorem idx_po {dst : List En} (g : Good dst) (hr : dst.Pairwise (fun a b => PLt a.path b.path)) : ∀ (f i : Nat), (idxF dst f i).Pairwise (PoI dst)
  | 0, i => by simp [idxF]
  | f + 1, i => by
    unfold idxF
    by_cases hi : i < dst.length
    · rw [if_pos hi, kidsAt_eq hi]
      refine List.pairwise_append.2 ⟨level_po g hr f (idx_po g hr f) _, by simp, fun x hx y hy => ?_⟩
      simp at hy
      subst hy
      obtain ⟨k, hk, hx'⟩ := List.mem_flatMap.1 hx
      obtain ⟨h1, h2, h3⟩ := idx_under g f k x hx'
      obtain ⟨_, k2, k3, k4⟩ := kid_facts g hk
      have l1 := parent_len k3 k4
      have q1 := parent_abv k3
      rw [k2] at l1 q1
      refine po_above (q1.trans h3) (fun e => ?_)
      have l2 := h3.length_le
      rw [e] at l2
      omega
    · rw [if_neg hi, kidsAt_no hi]
      simp
theorem gone_po {dst : List En} (g : Good dst) (hr : dst.Pairwise (fun a b => PLt a.path b.path)) (why : List Int) : (postAll dst why).Pairwise Po := by
  rw [gone_map g why, List.pairwise_map]
  exact (level_po g hr 201 (idx_po g hr 201) noB).filter _
/-- the paths of what goes, as they stand in the list -/
def goList : List En → List Int → List ByteArray
  | e :: l, w :: ws => if w = 0 then e.path :: goList l ws else goList l ws
  | _, _ => []
theorem goList_snoc (e : En) (w : Int) : ∀ (l : List En) (ws : List Int), l.length = ws.length → goList (l ++ [e]) (ws ++ [w]) = goList l ws ++ (if w = 0 then [e.path] else [])
  | [], [], _ => by simp [goList]
  | [], _ :: _, h => by simp at h
  | _ :: _, [], h => by simp at h
  | x :: l, v :: ws, h => by
    simp only [List.cons_append, goList, goList_snoc e w l ws (by simpa using h)]
    split <;> simp
theorem goList_ix : ∀ (l : List En) (ws : List Int), l.length = ws.length → goList l ws = ((List.range l.length).filter fun i => decide (ws[i]? = some 0)).map (pth l)
  | [], [], _ => by simp [goList]
  | [], _ :: _, h => by simp at h
  | _ :: _, [], h => by simp at h
  | x :: l, v :: ws, h => by
    have ih := goList_ix l ws (by simpa using h)
    have h2 : ((List.range l.length).map Nat.succ).filter (fun i => decide ((v :: ws)[i]? = some 0)) = ((List.range l.length).filter fun i => decide (ws[i]? = some 0)).map Nat.succ := by
      rw [List.filter_map]
      congr 1
    have h3 : pth (x :: l) ∘ Nat.succ = pth l := by
      funext i
      simp [pth]
    rw [List.length_cons, List.range_succ_eq_map, List.filter_cons, h2]
    simp only [goList, List.getElem?_cons_zero]
    by_cases hv : v = 0
    · simp [hv, ih, h3, pth]
    · simp [hv, ih, h3]
theorem goList_perm {dst : List En} (g : Good dst) {why : List Int} (hw : dst.length = why.length) : (goList dst why).Perm (postAll dst why) := by
  rw [goList_ix _ _ hw, gone_map g why]
  refine List.Perm.map _ ?_
  refine (List.perm_ext_iff_of_nodup (List.Pairwise.filter _ List.nodup_range) ((idxAll_nodup g).filter _)).2 fun i => ?_
  simp only [List.mem_filter, List.mem_range]
  constructor
  · rintro ⟨h1, h2⟩
    exact ⟨idxAll_all g _ i h1 (Nat.le_refl _), h2⟩
  · rintro ⟨h1, h2⟩
    exact ⟨idxAll_lt g h1, h2⟩
theorem goList_nodup {dst : List En} (g : Good dst) (hr : dst.Pairwise (fun a b => PLt a.path b.path)) {why : List Int} (hw : dst.length = why.length) : (goList dst why).Nodup := by
  refine (goList_perm g hw).nodup_iff.2 ?_
  exact (gone_po g hr why).imp fun h e => by subst e; exact Po.irrefl h
theorem goList_len : ∀ (l : List En) (ws : List Int), (goList l ws).length ≤ l.length
  | [], _ => by simp [goList]
  | _ :: _, [] => by simp [goList]
  | e :: l, w :: ws => by
    have := goList_len l ws
    simp only [goList]
    split <;> simp <;> omega
end Go.Proofs.YtmgheamdboiklaaDoor
