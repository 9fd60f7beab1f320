/-
  No cell of these rows narrows 'for every input' (looked for: loops, veiled, ifaces, maps, wideKeys, modest, calm, conditions, laid).
  DERIVED. THE GIVEN ROWS OF THIS SEAT. 4 by the template 'for every input the law returns true; each argument reads behind the call as it read before'; 0 by the template 'total and deterministic' (their statements: YtjcbnohnilffoaaTotals.lean).
  GIVEN WITH THE SEED: the statements are not yours to turn. If you find one false, say at which input.
  Laid BY PROGRAM, IN A SANDBOX (cutbox-rows.mjs): the forced cells as the released guide's own fill.sh prints them over the translation 279f372edd5e064e… (all of the seat's roots in one cut). By AI agents, Wed Nov 11 2026. No macro, syntax, notation, axiom, sorry.
-/
import Derived.Test.YtjcbnohnilffoaaChecked
import GoSem.Claim
import GoSem.ClaimJoined
import GoSem.ClaimMapViews
import Derived.JoinedTies
import Derived.KernelRfl
namespace Go.Proofs.Ytjcbnohnilffoaa
/- THE CELL 'sum', in the pinned program and in every row, IS THE sha256 OF THE DUMP (.gsa) THAT YtjcbnohnilffoaaProg.lean LOADS. Nothing in Lean hashes anything: it is a label: what it is worth is what the hold of that sum in a sandbox is worth. -/
noncomputable def Try.pinned : Pinned := { name := "ytjcbnohnilffoaa", sum := "279f372edd5e064eb776245083ded9982677a90e58086acdc49f76edaf7dd3cb", checked := Try.checked }
namespace Rows
def none {H : Type} : Left H := { results := [], args := [] }

/-- 'remoralaw24.DropWhich': WHATEVER THE INPUT: true; the input reads as it did. -/
def dropWhichSpec : ChangeSpec := { name := "dropWhich", fn := fun _ => fun
  | [d1, d2, d3, d4] => { results := [.lit (.bool true)], args := [d1, d2, d3, d4] }
  | _ => none }
def dropWhichRow : OpenClaim := { program := "ytjcbnohnilffoaa", sum := "279f372edd5e064eb776245083ded9982677a90e58086acdc49f76edaf7dd3cb", func := "remora/remoralaw24.DropWhich", spec := "dropWhich", inPlace := ["internal/bytealg.IndexByteString", "internal/bytealg.IndexString"], unfollowed := true, recurses := true, named := ["internal/bytealg.MaxLen"], apart := false }
def DropWhichSaid : Prop := dropWhichRow.holds Try.pinned (OpenSpec.ofChange dropWhichSpec)

/-- ITS FALSE NEIGHBOUR: 'it returns false'. Refute it at one input. -/
def dropWhichWrong : ChangeSpec := { name := "dropWhich", fn := fun _ => fun
  | [d1, d2, d3, d4] => { results := [.lit (.bool false)], args := [d1, d2, d3, d4] }
  | _ => none }
def DropWhichWrongFalsely : Prop := dropWhichRow.holds Try.pinned (OpenSpec.ofChange dropWhichWrong)

/-- 'remoralaw24.DropMost': WHATEVER THE INPUT: true; the input reads as it did. -/
def dropMostSpec : ChangeSpec := { name := "dropMost", fn := fun _ => fun
  | [d1, d2, d3, d4] => { results := [.lit (.bool true)], args := [d1, d2, d3, d4] }
  | _ => none }
def dropMostRow : OpenClaim := { program := "ytjcbnohnilffoaa", sum := "279f372edd5e064eb776245083ded9982677a90e58086acdc49f76edaf7dd3cb", func := "remora/remoralaw24.DropMost", spec := "dropMost", inPlace := ["internal/bytealg.IndexByteString", "internal/bytealg.IndexString"], unfollowed := true, recurses := true, named := ["internal/bytealg.MaxLen"], apart := false }
def DropMostSaid : Prop := dropMostRow.holds Try.pinned (OpenSpec.ofChange dropMostSpec)

/-- ITS FALSE NEIGHBOUR: 'it returns false'. Refute it at one input. -/
def dropMostWrong : ChangeSpec := { name := "dropMost", fn := fun _ => fun
  | [d1, d2, d3, d4] => { results := [.lit (.bool false)], args := [d1, d2, d3, d4] }
  | _ => none }
def DropMostWrongFalsely : Prop := dropMostRow.holds Try.pinned (OpenSpec.ofChange dropMostWrong)

/-- 'remoralaw24.DropKept': WHATEVER THE INPUT: true; the input reads as it did. -/
def dropKeptSpec : ChangeSpec := { name := "dropKept", fn := fun _ => fun
  | [d1, d2, d3, d4] => { results := [.lit (.bool true)], args := [d1, d2, d3, d4] }
  | _ => none }
def dropKeptRow : OpenClaim := { program := "ytjcbnohnilffoaa", sum := "279f372edd5e064eb776245083ded9982677a90e58086acdc49f76edaf7dd3cb", func := "remora/remoralaw24.DropKept", spec := "dropKept", inPlace := ["internal/bytealg.IndexByteString", "internal/bytealg.IndexString"], unfollowed := true, recurses := true, named := ["internal/bytealg.MaxLen"], apart := false }
def DropKeptSaid : Prop := dropKeptRow.holds Try.pinned (OpenSpec.ofChange dropKeptSpec)

/-- ITS FALSE NEIGHBOUR: 'it returns false'. Refute it at one input. -/
def dropKeptWrong : ChangeSpec := { name := "dropKept", fn := fun _ => fun
  | [d1, d2, d3, d4] => { results := [.lit (.bool false)], args := [d1, d2, d3, d4] }
  | _ => none }
def DropKeptWrongFalsely : Prop := dropKeptRow.holds Try.pinned (OpenSpec.ofChange dropKeptWrong)

/-- 'remoralaw24.DropRight': WHATEVER THE INPUT: true; the input reads as it did. -/
def dropRightSpec : ChangeSpec := { name := "dropRight", fn := fun _ => fun
  | [d1, d2, d3] => { results := [.lit (.bool true)], args := [d1, d2, d3] }
  | _ => none }
def dropRightRow : OpenClaim := { program := "ytjcbnohnilffoaa", sum := "279f372edd5e064eb776245083ded9982677a90e58086acdc49f76edaf7dd3cb", func := "remora/remoralaw24.DropRight", spec := "dropRight", inPlace := ["internal/bytealg.IndexByteString", "internal/bytealg.IndexString"], unfollowed := true, recurses := true, named := ["internal/bytealg.MaxLen"], apart := false }
def DropRightSaid : Prop := dropRightRow.holds Try.pinned (OpenSpec.ofChange dropRightSpec)

/-- ITS FALSE NEIGHBOUR: 'it returns false'. Refute it at one input. -/
def dropRightWrong : ChangeSpec := { name := "dropRight", fn := fun _ => fun
  | [d1, d2, d3] => { results := [.lit (.bool false)], args := [d1, d2, d3] }
  | _ => none }
def DropRightWrongFalsely : Prop := dropRightRow.holds Try.pinned (OpenSpec.ofChange dropRightWrong)

/- THE SECOND FORM. 'bulk': how many values and letters a reading holds, each counted each time it is reached (what is shared counts as often as it is met; a slice's spare places count too). A statement '..UptoSaid' is the law's where the arguments, and the package variables that the reading takes, are together of bulk at most 1048576: NARROWER than '..Said'. Prove '..Said' where nothing that the law and all that it calls make is longer than what came in: it says more and counts as full. Else prove '..UptoSaid'. A law counts once. -/
mutual
def uptoBulk {H : Type} : DataW H → Nat
  | .lit (.string bytes) => bytes.length + 1
  | .lit _ => 1
  | .nil => 1
  | .ptr d => uptoBulk d + 1
  | .slice elems spare => uptoBulkAll elems + uptoBulkAll spare + 1
  | .agg parts => uptoBulkAll parts + 1
  | .iface _ d => uptoBulk d + 1
  | .map entries => uptoBulkEntries entries + 1
  | .held _ => 1
def uptoBulkAll {H : Type} : List (DataW H) → Nat
  | [] => 0
  | d :: r => uptoBulk d + uptoBulkAll r
def uptoBulkEntries {H : Type} : List (Lit × DataW H) → Nat
  | [] => 0
  | x :: r => uptoBulkEntry x + uptoBulkEntries r
def uptoBulkEntry {H : Type} : Lit × DataW H → Nat
  | (.string bytes, d) => bytes.length + uptoBulk d + 1
  | (_, d) => uptoBulk d + 1
 end
def uptoSmall : (H : Type) → List (DataW H) → Bool := fun _ ds => decide (uptoBulkAll ds ≤ 1048576)
def OpenSpec.upto (s : _root_.Go.ChangeSpec) : _root_.Go.OpenSpec := { _root_.Go.OpenSpec.ofChange s with cond := some uptoSmall }

/-- 'remoralaw24.DropWhich', WHERE WHAT IT READS IS OF BULK AT MOST 1048576: true; the input reads as it did. -/
def dropWhichUptoRow : OpenClaim := { program := "ytjcbnohnilffoaa", sum := "279f372edd5e064eb776245083ded9982677a90e58086acdc49f76edaf7dd3cb", func := "remora/remoralaw24.DropWhich", spec := "dropWhich", inPlace := ["internal/bytealg.IndexByteString", "internal/bytealg.IndexString"], unfollowed := true, recurses := true, named := ["internal/bytealg.MaxLen"], apart := false, narrowed := true }
def DropWhichUptoSaid : Prop := dropWhichUptoRow.holds Try.pinned (OpenSpec.upto dropWhichSpec)

/-- 'remoralaw24.DropMost', WHERE WHAT IT READS IS OF BULK AT MOST 1048576: true; the input reads as it did. -/
def dropMostUptoRow : OpenClaim := { program := "ytjcbnohnilffoaa", sum := "279f372edd5e064eb776245083ded9982677a90e58086acdc49f76edaf7dd3cb", func := "remora/remoralaw24.DropMost", spec := "dropMost", inPlace := ["internal/bytealg.IndexByteString", "internal/bytealg.IndexString"], unfollowed := true, recurses := true, named := ["internal/bytealg.MaxLen"], apart := false, narrowed := true }
def DropMostUptoSaid : Prop := dropMostUptoRow.holds Try.pinned (OpenSpec.upto dropMostSpec)

/-- 'remoralaw24.DropKept', WHERE WHAT IT READS IS OF BULK AT MOST 1048576: true; the input reads as it did. -/
def dropKeptUptoRow : OpenClaim := { program := "ytjcbnohnilffoaa", sum := "279f372edd5e064eb776245083ded9982677a90e58086acdc49f76edaf7dd3cb", func := "remora/remoralaw24.DropKept", spec := "dropKept", inPlace := ["internal/bytealg.IndexByteString", "internal/bytealg.IndexString"], unfollowed := true, recurses := true, named := ["internal/bytealg.MaxLen"], apart := false, narrowed := true }
def DropKeptUptoSaid : Prop := dropKeptUptoRow.holds Try.pinned (OpenSpec.upto dropKeptSpec)

/-- 'remoralaw24.DropRight', WHERE WHAT IT READS IS OF BULK AT MOST 1048576: true; the input reads as it did. -/
def dropRightUptoRow : OpenClaim := { program := "ytjcbnohnilffoaa", sum := "279f372edd5e064eb776245083ded9982677a90e58086acdc49f76edaf7dd3cb", func := "remora/remoralaw24.DropRight", spec := "dropRight", inPlace := ["internal/bytealg.IndexByteString", "internal/bytealg.IndexString"], unfollowed := true, recurses := true, named := ["internal/bytealg.MaxLen"], apart := false, narrowed := true }
def DropRightUptoSaid : Prop := dropRightUptoRow.holds Try.pinned (OpenSpec.upto dropRightSpec)

end Rows
end Go.Proofs.Ytjcbnohnilffoaa
