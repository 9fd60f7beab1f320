/- PLAIN: rules: what they say of a path. No program in it. -/
import Derived.Test.YtmgheamdboiklaaDoorGl
import Derived.Test.YtmgheamdboiklaaDoorPl
namespace Go.Proofs.YtmgheamdboiklaaDoor

structure Rl where
  act : Int
  pat : ByteArray
  dir : Bool
  whole : Bool
def globErr (p : ByteArray) : Int := if p.size ≤ 100 then (if patOk p then 0 else 5) else 7
def patBad (p : ByteArray) : Bool := decide (p = { data := #[] }) || decide (bAt p 0 = 47) || decide (bAt p (p.size - 1) = 47) || decide ((10 : UInt8) ∈ lsB p)
def rlErr (r : Rl) : Int := if r.act ≤ 0 ∨ 4 < r.act then 2 else if patBad r.pat then 5 else globErr r.pat
def rlWhole (r : Rl) : Bool := r.whole || decide ((47 : UInt8) ∈ lsB r.pat)
def rlMatch (r : Rl) (n : ByteArray) (d : Bool) : Bool :=
  if rlErr r ≠ 0 ∨ n = { data := #[] } ∨ right n = false ∨ (r.dir = true ∧ d = false) then false
  else if rlWhole r then glob r.pat n else glob r.pat (base n)
def rlAct (all : Bool) (n : ByteArray) (d : Bool) : List Rl → Int
  | [] => 0
  | r :: t => if (all || decide (r.act = 1) || decide (r.act = 2)) && rlMatch r n d then r.act else rlAct all n d t
def hidF (rs : List Rl) : Nat → ByteArray → Bool → Bool
  | 0, _, _ => false
  | k + 1, n, d => if n = { data := #[] } then false else if rlAct false n d rs = 2 then true else hidF rs k (parent n) true
def rlHid (rs : List Rl) (n : ByteArray) (d : Bool) : Bool := right n && hidF rs (n.size + 1) n d
def rlSafe (rs : List Rl) (n : ByteArray) (d : Bool) : Bool := decide (rlAct true n d rs = 3)

theorem parent_lt {s : ByteArray} (h : s ≠ { data := #[] }) : (parent s).size < s.size := by
  have h1 : lsB s ≠ [] := fun e => h (ls_inj (by rw [e]; rfl))
  have h3 : 0 < (lsB s).length := List.length_pos_iff.2 h1
  rw [parent, mk_size, parentL, ← ls_len s]
  simp only [List.length_reverse, List.length_drop]
  have h2 := (List.dropWhile_sublist (fun x : UInt8 => decide (x ≠ 47)) (l := (lsB s).reverse)).length_le
  simp only [List.length_reverse] at h2
  omega
theorem hidF_more (rs : List Rl) : ∀ (k : Nat) (n : ByteArray) (d : Bool), n.size < k → ∀ m, k ≤ m → hidF rs m n d = hidF rs k n d := by
  intro k
  induction k with
  | zero => intro n d h; omega
  | succ k ih =>
    intro n d h m hm
    obtain ⟨m, rfl⟩ : ∃ j, m = j + 1 := ⟨m - 1, by omega⟩
    simp only [hidF]
    by_cases e : n = { data := #[] }
    · rw [if_pos e, if_pos e]
    · rw [if_neg e, if_neg e]
      have := parent_lt e
      rw [ih (parent n) true (by omega) m (by omega)]
theorem hid_go (rs : List Rl) {n : ByteArray} (d : Bool) (h : n ≠ { data := #[] }) : hidF rs (n.size + 1) n d = if rlAct false n d rs = 2 then true else hidF rs ((parent n).size + 1) (parent n) true := by
  have := parent_lt h
  have e := hidF_more rs ((parent n).size + 1) (parent n) true (by omega) n.size (by omega)
  rw [← e]
  show (if n = _ then _ else _) = _
  rw [if_neg h]
theorem hid_stop (rs : List Rl) (d : Bool) (k : Nat) : hidF rs k { data := #[] } d = false := by
  cases k with
  | zero => rfl
  | succ k => simp [hidF]
end Go.Proofs.YtmgheamdboiklaaDoor
