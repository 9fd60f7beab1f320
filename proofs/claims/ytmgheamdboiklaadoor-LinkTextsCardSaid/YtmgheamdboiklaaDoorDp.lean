/- PLAIN: what goes of a list. No program in it. -/
import Derived.Test.YtmgheamdboiklaaDoorFl
namespace Go.Proofs.YtmgheamdboiklaaDoor

def srcM (src : List En) : ByteArray → Option En := src.foldl (fun m e s => if s = e.path then some e else m s) (fun _ => none)
theorem srcM_snoc (l : List En) (e : En) (s : ByteArray) : srcM (l ++ [e]) s = if s = e.path then some e else srcM l s := by simp [srcM, List.foldl_append]
def isDir (e : En) : Bool := decide (e.kind = 2)
def whyB (rs : List Rl) (e : En) : Int := if rlHid rs e.path (isDir e) then 2 else if rlSafe rs e.path (isDir e) then 3 else 0
def there (src : List En) (e : En) : Bool := match srcM src e.path with | some s => isDir s == isDir e | none => false
def why0 (src : List En) (rs : List Rl) (e : En) : Int := if there src e then 1 else whyB rs e
def cntGo (p : ByteArray) : List En → List Int → Nat
  | e :: r, w :: ws => (if w = 0 ∧ parent e.path = p then 1 else 0) + cntGo p r ws
  | _, _ => 0
def fullE (kidn : ByteArray → Nat) (e : En) (r : List En) (ws : List Int) : Bool := isDir e && (!decide ((cntGo e.path r ws : Int) = e.size) || !decide ((kidn e.path : Int) = e.size))
def whyR (src : List En) (rs : List Rl) (kidn : ByteArray → Nat) : List En → List Int
  | [] => []
  | e :: r => (if why0 src rs e = 0 ∧ fullE kidn e r (whyR src rs kidn r) = true then 4 else why0 src rs e) :: whyR src rs kidn r
theorem whyR_len (src : List En) (rs : List Rl) (kidn : ByteArray → Nat) : ∀ l, (whyR src rs kidn l).length = l.length
  | [] => rfl
  | e :: r => by simp [whyR, whyR_len src rs kidn r]
def kidsFrom (p : ByteArray) : List En → Nat → List Nat
  | [], _ => []
  | e :: r, k => if parent e.path = p then k :: kidsFrom p r (k + 1) else kidsFrom p r (k + 1)
def kidsOf (dst : List En) (p : ByteArray) : List Nat := kidsFrom p dst 0
theorem kidsFrom_snoc (p : ByteArray) (e : En) : ∀ (l : List En) (k : Nat), kidsFrom p (l ++ [e]) k = kidsFrom p l k ++ (if parent e.path = p then [k + l.length] else [])
  | [], k => by simp [kidsFrom]
  | x :: l, k => by
    simp only [List.cons_append, kidsFrom, kidsFrom_snoc p e l (k + 1), List.length_cons]
    rw [show k + 1 + l.length = k + (l.length + 1) by omega]
    split <;> simp
theorem kidsFrom_mem (p : ByteArray) : ∀ (l : List En) (k i : Nat), i ∈ kidsFrom p l k → k ≤ i ∧ ∃ e, l[i - k]? = some e ∧ parent e.path = p
  | [], k, i, h => by simp [kidsFrom] at h
  | x :: l, k, i, h => by
    have key : i ∈ kidsFrom p l (k + 1) → k ≤ i ∧ ∃ e, (x :: l)[i - k]? = some e ∧ parent e.path = p := by
      intro h
      obtain ⟨h1, e, h2, h3⟩ := kidsFrom_mem p l (k + 1) i h
      exact ⟨by omega, e, by rw [show i - k = (i - (k + 1)) + 1 by omega]; simpa using h2, h3⟩
    simp only [kidsFrom] at h
    split at h
    · rename_i hp
      rcases List.mem_cons.1 h with h | h
      · subst h; exact ⟨Nat.le_refl _, x, by simp, hp⟩
      · exact key h
    · exact key h
theorem kidsFrom_len (p : ByteArray) : ∀ (l : List En) (k : Nat), (kidsFrom p l k).length ≤ l.length
  | [], k => by simp [kidsFrom]
  | x :: l, k => by
    have := kidsFrom_len p l (k + 1)
    simp only [kidsFrom]
    split
    · simp; omega
    · simp; omega
def whyL (src dst : List En) (rs : List Rl) : List Int := whyR src rs (fun p => (kidsOf dst p).length) dst
def postF (dst : List En) (why : List Int) : Nat → Nat → List ByteArray
  | 0, _ => []
  | f + 1, i => match dst[i]? with
    | none => []
    | some e => (kidsOf dst e.path).flatMap (postF dst why f) ++ (if why[i]? = some 0 then [e.path] else [])
def postAll (dst : List En) (why : List Int) : List ByteArray := (kidsOf dst noB).flatMap (postF dst why 201)
def dropAll (src dst : List En) (rs : List Rl) : List ByteArray := postAll dst (whyL src dst rs)
def listsBad (src dst : List En) : Bool := !decide (flErr src = 0) || !decide (flErr dst = 0)
def dropWhich (src dst : List En) (rs : List Rl) (del most : Int) : List ByteArray × Int :=
  if listsBad src dst = true ∨ del = 0 then ([], 0)
  else if 0 < most ∧ most < ((dropAll src dst rs).length : Int) then ((dropAll src dst rs).take most.toNat, (dropAll src dst rs).length - most)
  else (dropAll src dst rs, 0)
def dropKept (src dst : List En) (rs : List Rl) (p : ByteArray) : Int × Bool :=
  if listsBad src dst = true then (0, false)
  else match findF p dst 0 with
    | none => (0, false)
    | some i => ((whyL src dst rs).getD i 0, true)
theorem fchk_all : ∀ (l : List En) (prev : Option En) (dirs : ByteArray → Bool) (last : Int), fchk prev dirs last l = 0 → ∀ e ∈ l, aloneErr e = 0 := by
  intro l
  induction l with
  | nil => intro prev dirs last h e he; cases he
  | cons x r ih =>
    intro prev dirs last h e he
    unfold fchk at h
    split at h
    · rename_i h0; exact absurd h h0
    · rename_i h0
      rcases List.mem_cons.1 he with he | he
      · subst he; omega
      · repeat' split at h
        all_goals first | (exact absurd h (by decide)) | exact ih _ _ _ h e he
theorem fl_all {l : List En} (h : flErr l = 0) : ∀ e ∈ l, aloneErr e = 0 := fchk_all l _ _ _ h
theorem right_size {p : ByteArray} (h : right p = true) : p.size ≤ 200 := by
  unfold right at h
  simp at h
  omega
end Go.Proofs.YtmgheamdboiklaaDoor
