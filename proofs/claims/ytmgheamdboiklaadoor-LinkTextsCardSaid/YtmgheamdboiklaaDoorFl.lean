/- PLAIN: entries, lists of entries. No program in it. -/
import Derived.Test.YtmgheamdboiklaaDoorRl
namespace Go.Proofs.YtmgheamdboiklaaDoor

structure Mt where
  mode : Int
  sec : Int
  nano : Int
  uid : Int
  gid : Int
structure En where
  path : ByteArray
  kind : Int
  size : Int
  meta_ : Mt
  target : ByteArray
  sum : ByteArray
  group : Int
abbrev noB : ByteArray := { data := #[] }
def inR (x a b : Int) : Bool := decide (a ≤ x) && decide (x ≤ b)
def metaOk (m : Mt) : Bool := inR m.mode 0 4095 && inR m.sec (-1099511627776) 1099511627776 && inR m.nano 0 999999999 && inR m.uid 0 2147483647 && inR m.gid 0 2147483647
def metaErr (m : Mt) : Int := if metaOk m then 0 else 2
def mostOf (e : En) : Int := if e.kind = 2 then 2147483647 else 65536
def bad1 (e : En) : Bool := !decide (metaErr e.meta_ = 0) || decide (e.size < 0) || decide (mostOf e < e.size) || (!decide (e.kind = 3) && !decide (e.target = noB))
def bad2 (e : En) : Bool := decide (e.kind = 3) && (decide (e.target = noB) || decide (200 < (e.target.size : Int)) || !decide (e.size = (e.target.size : Int)))
def bad3 (e : En) : Bool := (!decide (e.sum = noB) && (!decide (e.kind = 1) || !decide ((e.sum.size : Int) = 32))) || (!decide (e.group = 0) && (!decide (e.kind = 1) || decide (e.group < 0)))
def kindBad (e : En) : Bool := !decide (e.kind = 1) && !decide (e.kind = 3) && !decide (e.kind = 2)
def aloneErr (e : En) : Int :=
  if right e.path = false ∨ e.path = noB then 9 else if kindBad e then 17 else if bad1 e then 2 else if bad2 e then 2 else if bad3 e then 2 else 0
theorem alone_group {e : En} (h : aloneErr e = 0) : 0 ≤ e.group := by
  unfold aloneErr at h
  repeat' split at h
  all_goals first | (exact absurd h (by decide)) | skip
  rename_i h3
  unfold bad3 at h3
  simp at h3
  omega
theorem alone_path {e : En} (h : aloneErr e = 0) : right e.path = true ∧ e.path ≠ noB := by
  unfold aloneErr at h
  split at h
  · exact absurd h (by decide)
  · rename_i h1
    simp at h1
    exact h1
def fchk (prev : Option En) (dirs : ByteArray → Bool) (last : Int) : List En → Int
  | [] => 0
  | x :: r =>
    if aloneErr x ≠ 0 then aloneErr x
    else if prev.any (fun p => decide (x.path = p.path)) then 11
    else if prev.any (fun p => less x.path p.path) then 3
    else if dirs (parent x.path) = false then 12
    else if last + 1 < x.group then 5
    else fchk (some x) (fun s => dirs s || (decide (x.kind = 2) && decide (s = x.path))) (if last < x.group then x.group else last) r
def flErr (l : List En) : Int := fchk none (fun s => decide (s = noB)) 0 l
def findF (p : ByteArray) : List En → Nat → Option Nat
  | [], _ => none
  | x :: r, k => if x.path = p then some k else findF p r (k + 1)
theorem findF_ge (p : ByteArray) : ∀ (l : List En) (k i : Nat), findF p l k = some i → k ≤ i ∧ ∃ e, l[i - k]? = some e ∧ e.path = p := by
  intro l
  induction l with
  | nil => intro k i h; cases h
  | cons x r ih =>
    intro k i h
    unfold findF at h
    split at h
    · rename_i hx
      injection h with h
      subst h
      exact ⟨Nat.le_refl _, x, by simp, hx⟩
    · obtain ⟨h1, e, h2, h3⟩ := ih (k + 1) i h
      exact ⟨by omega, e, by rw [show i - k = (i - (k + 1)) + 1 by omega]; simpa using h2, h3⟩
structure EnsIn (l : List En) : Prop where
  out : ∀ e ∈ l, e.path.size ≤ 1099511627775 ∧ e.target.size ≤ 1099511627775 ∧ e.sum.size ≤ 1099511627775
end Go.Proofs.YtmgheamdboiklaaDoor
