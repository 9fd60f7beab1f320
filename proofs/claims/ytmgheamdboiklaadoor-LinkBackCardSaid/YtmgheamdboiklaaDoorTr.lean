/- PLAIN: a tree of things by their paths; the calls on it. No program in it. -/
import Derived.Test.YtmgheamdboiklaaDoorTp
set_option linter.unusedVariables false
set_option linter.unusedSimpArgs false
namespace Go.Proofs.YtmgheamdboiklaaDoor

structure Tg where
  kind : Int
  ino : Int
  data : List UInt8
  target : ByteArray
  mt : Mt
abbrev Ent := ByteArray × Tg
structure Ft where
  L : List Ent
  next : Int
def atL (L : List Ent) (p : ByteArray) : Option Tg := (L.find? fun e => decide (e.1 = p)).map (·.2)
theorem atL_cons (e : Ent) (L : List Ent) (p : ByteArray) : atL (e :: L) p = if e.1 = p then some e.2 else atL L p := by
  unfold atL
  rw [List.find?_cons]
  by_cases h : e.1 = p <;> simp [h]
theorem atL_mem {p : ByteArray} {t : Tg} : ∀ {L : List Ent}, atL L p = some t → (p, t) ∈ L
  | e :: L, h => by
    rw [atL_cons] at h
    split at h
    · rename_i q; injection h with h; subst q h; exact List.mem_cons_self
    · exact List.mem_cons_of_mem _ (atL_mem h)
theorem atL_none {p : ByteArray} : ∀ {L : List Ent}, atL L p = none ↔ ∀ e ∈ L, e.1 ≠ p
  | [] => by simp [atL]
  | e :: L => by
    rw [atL_cons]
    by_cases h : e.1 = p
    · simp [h]
    · rw [if_neg h, atL_none]; simp [h]
theorem atL_of {L : List Ent} (hn : (L.map (·.1)).Nodup) {p : ByteArray} {t : Tg} (h : (p, t) ∈ L) : atL L p = some t := by
  induction L with
  | nil => cases h
  | cons e L ih =>
    rw [List.map_cons, List.nodup_cons] at hn
    rw [atL_cons]
    rcases List.mem_cons.1 h with h | h
    · subst h; simp
    · rw [if_neg, ih hn.2 h]
      intro q
      exact hn.1 (q ▸ List.mem_map.2 ⟨_, h, rfl⟩)
theorem atL_snoc (L : List Ent) (q p : ByteArray) (t : Tg) (hq : ∀ e ∈ L, e.1 ≠ q) : atL (L ++ [(q, t)]) p = if p = q then some t else atL L p := by
  induction L with
  | nil =>
    show atL [(q, t)] p = _
    rw [atL_cons]
    by_cases h : p = q
    · simp [h]
    · have h' : ¬ q = p := fun e => h e.symm
      simp [h, h', atL]
  | cons e L ih =>
    have h1 := hq e (by simp)
    have h2 := ih (fun x hx => hq x (by simp [hx]))
    show atL (e :: (L ++ [(q, t)])) p = _
    rw [atL_cons, atL_cons, h2]
    by_cases h : p = q
    · subst h; simp [h1]
    · simp [h]
theorem atL_map (g : Tg → Tg) (p : ByteArray) : ∀ (L : List Ent), atL (L.map fun e => (e.1, g e.2)) p = (atL L p).map g
  | [] => rfl
  | e :: L => by
    rw [List.map_cons, atL_cons, atL_cons, atL_map g p L]
    split <;> simp
theorem atL_del (q p : ByteArray) : ∀ (L : List Ent), atL (L.filter fun e => !decide (e.1 = q)) p = if p = q then none else atL L p
  | [] => by simp [atL]
  | e :: L => by
    rw [List.filter_cons]
    have ih := atL_del q p L
    by_cases h : e.1 = q
    · rw [if_neg (by simp [h]), ih]
      by_cases k : p = q
      · simp [k]
      · rw [if_neg k, if_neg k, atL_cons, if_neg (fun x : e.1 = p => k (x.symm.trans h))]
    · rw [if_pos (by simp [h]), atL_cons, ih, atL_cons]
      by_cases k : p = q
      · subst k; simp [h]
      · simp [k]

/-! ### what is in a directory -/
def isKid (p : ByteArray) (e : Ent) : Bool := !decide (e.1 = noB) && decide (parent e.1 = p)
def kidsL (L : List Ent) (p : ByteArray) : List Ent := L.filter (isKid p)
def kidN (L : List Ent) (p : ByteArray) : List ByteArray := (kidsL L p).map fun e => base e.1
def kidAt (L : List Ent) (p x : ByteArray) : Option Tg := (L.find? fun e => isKid p e && decide (base e.1 = x)).map (·.2)
def cnt (L : List Ent) (k : Int) : Nat := L.countP fun e => decide (e.2.ino = k)
theorem kidAt_at {L : List Ent} (hr : ∀ e ∈ L, right e.1 = true) {q : ByteArray} (hq : right q = true) (hne : q ≠ noB) : kidAt L (parent q) (base q) = atL L q := by
  unfold kidAt atL
  congr 1
  induction L with
  | nil => rfl
  | cons e L ih =>
    have ih' := ih fun x hx => hr x (by simp [hx])
    rw [List.find?_cons, List.find?_cons, ih']
    have : (isKid (parent q) e && decide (base e.1 = base q)) = decide (e.1 = q) := by
      rw [Bool.eq_iff_iff]
      simp only [isKid, Bool.and_eq_true, Bool.not_eq_true', decide_eq_false_iff_not, decide_eq_true_eq]
      constructor
      · rintro ⟨⟨h1, h2⟩, h3⟩
        exact pb_inj (hr e (by simp)) hq h1 hne h2 h3
      · intro h; rw [h]; exact ⟨⟨hne, rfl⟩, rfl⟩
    rw [this]
theorem kidAt_some {L : List Ent} {p x : ByteArray} {t : Tg} (h : kidAt L p x = some t) : ∃ q, (q, t) ∈ L ∧ q ≠ noB ∧ parent q = p ∧ base q = x := by
  unfold kidAt at h
  obtain ⟨e, he, rfl⟩ := Option.map_eq_some_iff.1 h
  have h1 := List.find?_some he
  simp only [isKid, Bool.and_eq_true, Bool.not_eq_true', decide_eq_false_iff_not, decide_eq_true_eq] at h1
  exact ⟨e.1, List.mem_of_find?_eq_some he, h1.1.1, h1.1.2, h1.2⟩

/-! ### the calls -/
def ftNew : Ft := ⟨[(noB, ⟨2, 1, [], noB, ⟨493, 0, 0, 0, 0⟩⟩)], 2⟩
def Ft.at_ (F : Ft) (p : ByteArray) : Option Tg := atL F.L p
def Ft.look (F : Ft) (p : ByteArray) : Option Tg × Int :=
  if right p = false then (none, 9)
  else if p = noB then (F.at_ noB, 0)
  else match F.at_ (parent p) with
    | none => (none, 10)
    | some d => if d.kind = 2 then (F.at_ p, 0) else (none, 12)
def Ft.thereE (F : Ft) (p : ByteArray) : Int := if (F.look p).2 = 0 ∧ (F.look p).1.isNone = true then 10 else (F.look p).2
def fileE (t : Tg) : Int := if t.kind = 2 then 13 else if t.kind = 3 then 17 else 0
def mayE (p : ByteArray) (m : Mt) : Int := if right p = false then 9 else if metaErr m = 0 then 0 else 2
def Ft.freshE (F : Ft) (p : ByteArray) : Int := if (F.look p).2 = 0 ∧ (F.look p).1.isSome = true then 11 else (F.look p).2
def Ft.add (F : Ft) (p : ByteArray) (t : Tg) : Ft := ⟨F.L ++ [(p, { t with ino := F.next })], F.next + 1⟩
def Ft.upd (F : Ft) (k : Int) (g : Tg → Tg) : Ft := ⟨F.L.map fun e => (e.1, if e.2.ino = k then g e.2 else e.2), F.next⟩
def Ft.del (F : Ft) (p : ByteArray) : Ft := ⟨F.L.filter fun e => !decide (e.1 = p), F.next⟩
def Ft.mkdir (F : Ft) (p : ByteArray) (m : Mt) : Int × Ft :=
  if mayE p m ≠ 0 then (mayE p m, F) else if F.freshE p ≠ 0 then (F.freshE p, F) else (0, F.add p ⟨2, 0, [], noB, m⟩)
def Ft.symlink (F : Ft) (p t : ByteArray) (m : Mt) : Int × Ft :=
  if mayE p m ≠ 0 then (mayE p m, F) else if t = noB then (2, F) else if 200 < t.size then (7, F) else if F.freshE p ≠ 0 then (F.freshE p, F) else (0, F.add p ⟨3, 0, [], t, m⟩)
def Ft.write (F : Ft) (p : ByteArray) (b : List UInt8) (m : Mt) : Int × Ft :=
  if mayE p m ≠ 0 then (mayE p m, F) else if 65536 < b.length then (7, F) else if (F.look p).2 ≠ 0 then ((F.look p).2, F)
  else match (F.look p).1 with
    | none => (0, F.add p ⟨1, 0, b, noB, m⟩)
    | some n => if fileE n ≠ 0 then (fileE n, F) else (0, F.upd n.ino fun t => { t with data := b, mt := m })
def Ft.append (F : Ft) (p : ByteArray) (b : List UInt8) : Int × Ft :=
  if F.thereE p ≠ 0 then (F.thereE p, F)
  else match (F.look p).1 with
    | none => (10, F)
    | some n => if fileE n ≠ 0 then (fileE n, F) else if 65536 < n.data.length + b.length then (7, F) else (0, F.upd n.ino fun t => { t with data := t.data ++ b })
def Ft.link (F : Ft) (old p : ByteArray) : Int × Ft :=
  if right old = false ∨ right p = false then (9, F) else if F.thereE old ≠ 0 then (F.thereE old, F)
  else match (F.look old).1 with
    | none => (10, F)
    | some n => if fileE n ≠ 0 then (fileE n, F) else if F.freshE p ≠ 0 then (F.freshE p, F) else (0, ⟨F.L ++ [(p, n)], F.next⟩)
def Ft.set (F : Ft) (p : ByteArray) (m : Mt) : Int × Ft :=
  if mayE p m ≠ 0 then (mayE p m, F) else if F.thereE p ≠ 0 then (F.thereE p, F)
  else match (F.look p).1 with
    | none => (10, F)
    | some n => (0, F.upd n.ino fun t => { t with mt := m })
def Ft.remove (F : Ft) (p : ByteArray) : Int × Ft :=
  if right p = false then (9, F) else if p = noB then (2, F) else if F.thereE p ≠ 0 then (F.thereE p, F)
  else if (kidsL F.L p).length ≠ 0 then (14, F) else (0, F.del p)
/-- a path that lies below old, now below p -/
def moveP (old p x : ByteArray) : ByteArray := if under x old = true then p ++ x.extract old.size x.size else x
def Ft.rename (F : Ft) (old p : ByteArray) : Int × Ft :=
  if right old = false ∨ right p = false then (9, F) else if old = noB ∨ p = noB then (2, F) else if F.thereE old ≠ 0 then (F.thereE old, F)
  else match (F.look old).1 with
    | none => (10, F)
    | some n =>
      if n.kind = 2 ∧ p ≠ old ∧ under p old = true then (2, F) else if (F.look p).2 ≠ 0 then ((F.look p).2, F)
      else if n.kind = 2 then
        if (F.look p).1.isSome = true then (11, F)
        else if (F.L.all fun e => right (moveP old p e.1)) = false then (7, F)
        else (0, ⟨F.L.map fun e => (moveP old p e.1, e.2), F.next⟩)
      else match (F.look p).1 with
        | some t => if t.kind = 2 then (13, F) else if t.ino = n.ino then (0, F) else (0, ⟨(F.del p).L.map fun e => (if e.1 = old then p else e.1, e.2), F.next⟩)
        | none => (0, ⟨F.L.map fun e => (if e.1 = old then p else e.1, e.2), F.next⟩)
structure St where
  kind : Int
  ino : Int
  size : Int
  links : Int
  mt : Mt
  target : ByteArray
def St.zero : St := ⟨0, 0, 0, 0, ⟨0, 0, 0, 0, 0⟩, noB⟩
def tellT (L : List Ent) (p : ByteArray) (t : Tg) : St :=
  ⟨t.kind, t.ino, if t.kind = 2 then (kidsL L p).length else if t.kind = 3 then t.target.size else t.data.length, cnt L t.ino, t.mt, t.target⟩
def Ft.stat (F : Ft) (p : ByteArray) : St × Int :=
  if F.thereE p ≠ 0 then (St.zero, F.thereE p) else match (F.look p).1 with
    | none => (St.zero, 10)
    | some t => (tellT F.L p t, 0)
structure Ac where
  do_ : Int
  path : ByteArray
  to : ByteArray
  data : List UInt8
  mt : Mt
def Ft.act (F : Ft) (a : Ac) : Int × Ft :=
  if a.do_ = 0 then F.mkdir a.path a.mt else if a.do_ = 1 then F.write a.path a.data a.mt else if a.do_ = 2 then F.symlink a.path a.to a.mt
  else if a.do_ = 3 then F.link a.path a.to else if a.do_ = 4 then F.remove a.path else if a.do_ = 5 then F.rename a.path a.to
  else if a.do_ = 6 then F.set a.path a.mt else if a.do_ = 7 then F.append a.path a.data else (0, F)
def buildF (l : List Ac) : Ft := l.foldl (fun F a => (F.act a).2) ftNew

/-! ### a tree that stands -/
structure Wf (F : Ft) : Prop where
  root : ∃ t r, F.L = (noB, t) :: r ∧ t.kind = 2 ∧ t.ino = 1
  nd : (F.L.map (·.1)).Nodup
  rt : ∀ e ∈ F.L, right e.1 = true
  up : ∀ e ∈ F.L, e.1 ≠ noB → ∃ d, (parent e.1, d) ∈ F.L ∧ d.kind = 2
  kd : ∀ e ∈ F.L, e.2.kind = 1 ∨ e.2.kind = 2 ∨ e.2.kind = 3
  one : ∀ e ∈ F.L, ∀ e' ∈ F.L, e.2.ino = e'.2.ino → e.2 = e'.2 ∧ (e.1 = e'.1 ∨ e.2.kind = 1)
  ino : ∀ e ∈ F.L, 1 ≤ e.2.ino ∧ e.2.ino < F.next
  dat : ∀ e ∈ F.L, e.2.data.length ≤ 65536 ∧ (e.2.kind ≠ 1 → e.2.data = [])
  tgt : ∀ e ∈ F.L, e.2.target.size ≤ 200 ∧ (e.2.kind = 3 ↔ e.2.target ≠ noB)
theorem Wf.new : Wf ftNew where
  root := ⟨_, [], rfl, rfl, rfl⟩
  nd := by simp [ftNew]
  rt := fun e he => by simp [ftNew] at he; subst he; rfl
  up := fun e he hne => by simp [ftNew] at he; subst he; exact absurd rfl hne
  kd := fun e he => by simp [ftNew] at he; subst he; exact .inr (.inl rfl)
  one := fun e he e' he' _ => by simp [ftNew] at he he'; subst he he'; exact ⟨rfl, .inl rfl⟩
  ino := fun e he => by simp [ftNew] at he; subst he; exact ⟨by decide, by decide⟩
  dat := fun e he => by simp [ftNew] at he; subst he; exact ⟨by simp, fun _ => rfl⟩
  tgt := fun e he => by simp [ftNew] at he; subst he; exact ⟨by decide, by simp⟩
section
variable {F : Ft}
theorem Wf.at_root (h : Wf F) : ∃ t, F.at_ noB = some t ∧ t.kind = 2 ∧ t.ino = 1 := by
  obtain ⟨t, r, e, h1, h2⟩ := h.root
  exact ⟨t, by rw [Ft.at_, e, atL_cons, if_pos rfl], h1, h2⟩
theorem Wf.at_of (h : Wf F) {p : ByteArray} {t : Tg} (hm : (p, t) ∈ F.L) : F.at_ p = some t := atL_of h.nd hm
theorem Wf.at_mem (h : Wf F) {p : ByteArray} {t : Tg} (hm : F.at_ p = some t) : (p, t) ∈ F.L := atL_mem hm
theorem Wf.at_up (h : Wf F) {p : ByteArray} {t : Tg} (hm : F.at_ p = some t) (hne : p ≠ noB) : ∃ d, F.at_ (parent p) = some d ∧ d.kind = 2 := by
  obtain ⟨d, h1, h2⟩ := h.up _ (atL_mem hm) hne
  exact ⟨d, h.at_of h1, h2⟩
theorem Wf.kid (h : Wf F) {q : ByteArray} (hq : right q = true) (hne : q ≠ noB) : kidAt F.L (parent q) (base q) = F.at_ q := kidAt_at h.rt hq hne
/-- what fits a lookup -/
theorem look_ok {F : Ft} {p : ByteArray} (h : (F.look p).2 = 0) : right p = true ∧ (F.look p).1 = F.at_ p ∧ (p ≠ noB → ∃ d, F.at_ (parent p) = some d ∧ d.kind = 2) := by
  unfold Ft.look at *
  split at h
  · exact absurd h (by decide)
  · rename_i h1
    simp at h1
    split at h
    · rename_i h2
      subst h2
      exact ⟨h1, by rw [if_neg (by simp [h1]), if_pos rfl], fun q => absurd rfl q⟩
    · rename_i h2
      split at h
      · exact absurd h (by decide)
      · rename_i d hd
        split at h
        · rename_i hk
          refine ⟨h1, ?_, fun _ => ⟨d, hd, hk⟩⟩
          rw [if_neg (by simp [h1]), if_neg h2]
          simp [hd, hk]
        · exact absurd h (by decide)
theorem look_nodir {F : Ft} {p : ByteArray} (hr : right p = true) (hne : p ≠ noB) (h : F.at_ (parent p) = none) : F.look p = (none, 10) := by
  unfold Ft.look; rw [if_neg (by simp [hr]), if_neg hne]; simp [h]
theorem look_file {F : Ft} {p : ByteArray} {d : Tg} (hr : right p = true) (hne : p ≠ noB) (h : F.at_ (parent p) = some d) (hk : d.kind ≠ 2) : F.look p = (none, 12) := by
  unfold Ft.look; rw [if_neg (by simp [hr]), if_neg hne]; simp [h, hk]
theorem look_at {F : Ft} {p : ByteArray} {d : Tg} (hr : right p = true) (hne : p ≠ noB) (h : F.at_ (parent p) = some d) (hk : d.kind = 2) : F.look p = (F.at_ p, 0) := by
  unfold Ft.look; rw [if_neg (by simp [hr]), if_neg hne]; simp [h, hk]
theorem there_ok {F : Ft} {p : ByteArray} (h : F.thereE p = 0) : ∃ t, (F.look p).1 = some t ∧ F.at_ p = some t ∧ (F.look p).2 = 0 ∧ right p = true := by
  unfold Ft.thereE at h
  split at h
  · exact absurd h (by decide)
  · rename_i hn
    obtain ⟨h1, h2, h3⟩ := look_ok h
    cases hl : (F.look p).1 with
    | none => exact absurd ⟨h, by rw [hl]; rfl⟩ hn
    | some t => exact ⟨t, rfl, by rw [← h2, hl], h, h1⟩
theorem fresh_ok {F : Ft} {p : ByteArray} (h : F.freshE p = 0) : right p = true ∧ F.at_ p = none ∧ (F.look p).1 = none ∧ (F.look p).2 = 0 ∧ (p ≠ noB → ∃ d, F.at_ (parent p) = some d ∧ d.kind = 2) := by
  unfold Ft.freshE at h
  split at h
  · exact absurd h (by decide)
  · rename_i hn
    obtain ⟨h1, h2, h3⟩ := look_ok h
    cases hl : (F.look p).1 with
    | none => exact ⟨h1, by rw [← h2, hl], rfl, h, h3⟩
    | some t => exact absurd ⟨h, by rw [hl]; rfl⟩ hn
theorem fresh_ne {F : Ft} (h : Wf F) {p : ByteArray} (hf : F.freshE p = 0) : p ≠ noB := fun e => by
  obtain ⟨t, ht, _⟩ := h.at_root
  have := (fresh_ok hf).2.1
  rw [e, ht] at this
  cases this
theorem file_kind (h : Wf F) {e : Ent} (he : e ∈ F.L) (hf : fileE e.2 = 0) : e.2.kind = 1 := by
  unfold fileE at hf
  rcases h.kd e he with k | k | k
  · exact k
  · rw [if_pos k] at hf; exact absurd hf (by decide)
  · rw [if_neg (by rw [k]; decide), if_pos k] at hf; exact absurd hf (by decide)
end
/-- a new thing -/
theorem Wf.add {F : Ft} (h : Wf F) {p : ByteArray} {t : Tg} (hr : right p = true) (hne : p ≠ noB) (hat : F.at_ p = none) {d : Tg} (hd : F.at_ (parent p) = some d) (hdk : d.kind = 2)
    (hk : t.kind = 1 ∨ t.kind = 2 ∨ t.kind = 3) (hdat : t.data.length ≤ 65536 ∧ (t.kind ≠ 1 → t.data = [])) (htg : t.target.size ≤ 200 ∧ (t.kind = 3 ↔ t.target ≠ noB)) : Wf (F.add p t) := by
  have hnot := atL_none.1 hat
  have hmem : ∀ e, e ∈ (F.add p t).L ↔ e ∈ F.L ∨ e = (p, { t with ino := F.next }) := fun e => by simp [Ft.add]
  have hnx : 1 ≤ F.next := by
    obtain ⟨t, r, e, h1, h2⟩ := h.root
    have := (h.ino (noB, t) (by rw [e]; simp)).2
    have : t.ino < F.next := this
    omega
  refine ⟨?_, ?_, ?_, ?_, ?_, ?_, ?_, ?_, ?_⟩
  · obtain ⟨t, r, e, h1, h2⟩ := h.root
    exact ⟨t, r ++ [_], by rw [Ft.add, e]; rfl, h1, h2⟩
  · show ((F.L ++ [(p, ({ t with ino := F.next } : Tg))]).map (fun e : Ent => e.1)).Nodup
    rw [List.map_append]
    refine List.nodup_append.2 ⟨h.nd, by simp, fun a ha b hb => ?_⟩
    obtain ⟨e, he, rfl⟩ := List.mem_map.1 ha
    have hb' : b = p := by simpa using hb
    subst hb'
    exact hnot e he
  · intro e he
    rcases (hmem e).1 he with he | rfl
    · exact h.rt e he
    · exact hr
  · intro e he hne'
    rcases (hmem e).1 he with he | rfl
    · obtain ⟨x, h1, h2⟩ := h.up e he hne'
      exact ⟨x, (hmem _).2 (.inl h1), h2⟩
    · exact ⟨d, (hmem _).2 (.inl (atL_mem hd)), hdk⟩
  · intro e he
    rcases (hmem e).1 he with he | rfl
    · exact h.kd e he
    · exact hk
  · intro e he e' he' q
    rcases (hmem e).1 he with he | rfl
    · rcases (hmem e').1 he' with he' | rfl
      · exact h.one e he e' he' q
      · have := (h.ino e he).2
        have q' : e.2.ino = F.next := q
        omega
    · rcases (hmem e').1 he' with he' | rfl
      · have := (h.ino e' he').2
        have q' : F.next = e'.2.ino := q
        omega
      · exact ⟨rfl, .inl rfl⟩
  · intro e he
    rcases (hmem e).1 he with he | rfl
    · have := h.ino e he
      exact ⟨this.1, by show e.2.ino < F.next + 1; omega⟩
    · exact ⟨hnx, by show F.next < F.next + 1; omega⟩
  · intro e he
    rcases (hmem e).1 he with he | rfl
    · exact h.dat e he
    · exact hdat
  · intro e he
    rcases (hmem e).1 he with he | rfl
    · exact h.tgt e he
    · exact htg
/-- a thing turned -/
theorem Wf.upd {F : Ft} (h : Wf F) (k : Int) (g : Tg → Tg) (hk : ∀ t, (g t).kind = t.kind) (hi : ∀ t, (g t).ino = t.ino) (ht : ∀ t, (g t).target = t.target)
    (hd : ∀ e ∈ F.L, e.2.ino = k → (g e.2).data.length ≤ 65536 ∧ (e.2.kind ≠ 1 → (g e.2).data = [])) : Wf (F.upd k g) := by
  have hmem : ∀ e, e ∈ (F.upd k g).L → ∃ e0 ∈ F.L, e = (e0.1, if e0.2.ino = k then g e0.2 else e0.2) := fun e he => by
    obtain ⟨e0, h1, rfl⟩ := List.mem_map.1 he
    exact ⟨e0, h1, rfl⟩
  have hkd : ∀ t : Tg, (if t.ino = k then g t else t).kind = t.kind := fun t => by split; exact hk t; rfl
  have hin : ∀ t : Tg, (if t.ino = k then g t else t).ino = t.ino := fun t => by split; exact hi t; rfl
  have htg : ∀ t : Tg, (if t.ino = k then g t else t).target = t.target := fun t => by split; exact ht t; rfl
  have hpath : (F.upd k g).L.map (·.1) = F.L.map (·.1) := by simp [Ft.upd]
  refine ⟨?_, by rw [hpath]; exact h.nd, ?_, ?_, ?_, ?_, ?_, ?_, ?_⟩
  · obtain ⟨t, r, e, h1, h2⟩ := h.root
    exact ⟨_, _, by rw [Ft.upd, e]; rfl, by rw [hkd]; exact h1, by rw [hin]; exact h2⟩
  · intro e he
    obtain ⟨e0, h0, rfl⟩ := hmem e he
    exact h.rt e0 h0
  · intro e he hne
    obtain ⟨e0, h0, rfl⟩ := hmem e he
    obtain ⟨d, h1, h2⟩ := h.up e0 h0 hne
    exact ⟨_, List.mem_map.2 ⟨_, h1, rfl⟩, by rw [hkd]; exact h2⟩
  · intro e he
    obtain ⟨e0, h0, rfl⟩ := hmem e he
    rw [hkd]; exact h.kd e0 h0
  · intro e he e' he' q
    obtain ⟨e0, h0, rfl⟩ := hmem e he
    obtain ⟨e1, h1, rfl⟩ := hmem e' he'
    simp only [hin] at q
    obtain ⟨a, b⟩ := h.one e0 h0 e1 h1 q
    refine ⟨by simp only [a], ?_⟩
    rcases b with b | b
    · exact .inl b
    · exact .inr (by rw [hkd]; exact b)
  · intro e he
    obtain ⟨e0, h0, rfl⟩ := hmem e he
    simp only [hin]
    exact h.ino e0 h0
  · intro e he
    obtain ⟨e0, h0, rfl⟩ := hmem e he
    simp only [hkd]
    by_cases q : e0.2.ino = k
    · simp only [q, if_true]; exact hd e0 h0 q
    · simp only [q, if_false]; exact h.dat e0 h0
  · intro e he
    obtain ⟨e0, h0, rfl⟩ := hmem e he
    simp only [hkd, htg]
    exact h.tgt e0 h0
/-- another name of a file -/
theorem Wf.name {F : Ft} (h : Wf F) {p q : ByteArray} {t : Tg} (ht : F.at_ q = some t) (hk : t.kind = 1) (hr : right p = true) (hne : p ≠ noB) (hat : F.at_ p = none) {d : Tg} (hd : F.at_ (parent p) = some d) (hdk : d.kind = 2) : Wf ⟨F.L ++ [(p, t)], F.next⟩ := by
  have hnot := atL_none.1 hat
  have htm : (q, t) ∈ F.L := atL_mem ht
  have hmem : ∀ e, e ∈ F.L ++ [(p, t)] ↔ e ∈ F.L ∨ e = (p, t) := fun e => by simp
  refine ⟨?_, ?_, ?_, ?_, ?_, ?_, ?_, ?_, ?_⟩
  · obtain ⟨t0, r, e, h1, h2⟩ := h.root
    exact ⟨t0, r ++ [_], by simp only [e]; rfl, h1, h2⟩
  · simp only [List.map_append]
    refine List.nodup_append.2 ⟨h.nd, by simp, fun a ha b hb => ?_⟩
    obtain ⟨e, he, rfl⟩ := List.mem_map.1 ha
    have hb' : b = p := by simpa using hb
    subst hb'
    exact hnot e he
  · intro e he
    rcases (hmem e).1 he with he | rfl
    · exact h.rt e he
    · exact hr
  · intro e he hne'
    rcases (hmem e).1 he with he | rfl
    · obtain ⟨x, h1, h2⟩ := h.up e he hne'
      exact ⟨x, (hmem _).2 (.inl h1), h2⟩
    · exact ⟨d, (hmem _).2 (.inl (atL_mem hd)), hdk⟩
  · intro e he
    rcases (hmem e).1 he with he | rfl
    · exact h.kd e he
    · exact .inl hk
  · intro e he e' he' q'
    rcases (hmem e).1 he with he | rfl
    · rcases (hmem e').1 he' with he' | rfl
      · exact h.one e he e' he' q'
      · have := (h.one e he (q, t) htm q').1
        exact ⟨this, .inr (by rw [this]; exact hk)⟩
    · rcases (hmem e').1 he' with he' | rfl
      · have := (h.one (q, t) htm e' he' q').1
        exact ⟨this, .inr hk⟩
      · exact ⟨rfl, .inl rfl⟩
  · intro e he
    rcases (hmem e).1 he with he | rfl
    · exact h.ino e he
    · exact h.ino (q, t) htm
  · intro e he
    rcases (hmem e).1 he with he | rfl
    · exact h.dat e he
    · exact h.dat (q, t) htm
  · intro e he
    rcases (hmem e).1 he with he | rfl
    · exact h.tgt e he
    · exact h.tgt (q, t) htm
/-- a name less -/
theorem Wf.del {F : Ft} (h : Wf F) {p : ByteArray} (hne : p ≠ noB) (hk : ∀ e ∈ F.L, e.1 ≠ noB → parent e.1 ≠ p) : Wf (F.del p) := by
  have hmem : ∀ e, e ∈ (F.del p).L ↔ e ∈ F.L ∧ e.1 ≠ p := fun e => by simp [Ft.del]
  refine ⟨?_, ?_, fun e he => h.rt e ((hmem e).1 he).1, ?_, fun e he => h.kd e ((hmem e).1 he).1, fun e he e' he' q => h.one e ((hmem e).1 he).1 e' ((hmem e').1 he').1 q, fun e he => h.ino e ((hmem e).1 he).1, fun e he => h.dat e ((hmem e).1 he).1, fun e he => h.tgt e ((hmem e).1 he).1⟩
  · obtain ⟨t, r, e, h1, h2⟩ := h.root
    refine ⟨t, r.filter fun e => !decide (e.1 = p), ?_, h1, h2⟩
    rw [Ft.del, e, List.filter_cons, if_pos (by have hne' : ¬ noB = p := fun q => hne q.symm; simp [hne'])]
  · exact h.nd.sublist (List.Sublist.map _ List.filter_sublist)
  · intro e he hne'
    obtain ⟨h1, h2⟩ := (hmem e).1 he
    obtain ⟨d, h3, h4⟩ := h.up e h1 hne'
    exact ⟨d, (hmem _).2 ⟨h3, hk e h1 hne'⟩, h4⟩
end Go.Proofs.YtmgheamdboiklaaDoor
