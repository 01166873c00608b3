/-
  No cell of these rows narrows 'for every input' (looked for: loops, veiled, ifaces, maps, wideKeys, modest, calm, conditions, laid).
  DERIVED. THE GIVEN ROWS OF THIS SEAT. 3 by the template 'for every input the law returns true; each argument reads behind the call as it read before'; 0 by the template 'total and deterministic' (their statements: YtkbmhghellimcaaTotals.lean).
  GIVEN WITH THE SEED: the statements are not yours to turn. If you find one false, say at which input.
  Laid BY PROGRAM, IN A SANDBOX (cutbox-rows.mjs): the forced cells as the released guide's own fill.sh prints them over the translation 14d8f0c2b39ece16… (all of the seat's roots in one cut). By AI agents, Wed Nov 11 2026. No macro, syntax, notation, axiom, sorry.
-/
import Derived.Test.YtkbmhghellimcaaChecked
import GoSem.Claim
import GoSem.ClaimJoined
import GoSem.ClaimMapViews
import Derived.JoinedTies
import Derived.KernelRfl
namespace Go.Proofs.Ytkbmhghellimcaa
/- THE CELL 'sum', in the pinned program and in every row, IS THE sha256 OF THE DUMP (.gsa) THAT YtkbmhghellimcaaProg.lean LOADS. Nothing in Lean hashes anything: it is a label: what it is worth is what the hold of that sum in a sandbox is worth. -/
noncomputable def Try.pinned : Pinned := { name := "ytkbmhghellimcaa", sum := "14d8f0c2b39ece16696f45296573670959ac78c817c6cc68237052aa22fe057d", checked := Try.checked }
namespace Rows
def none {H : Type} : Left H := { results := [], args := [] }

/-- 'outriderlaw14.FileSeals': WHATEVER THE INPUT: true; the input reads as it did. -/
def fileSealsSpec : ChangeSpec := { name := "fileSeals", fn := fun _ => fun
  | [d1, d2] => { results := [.lit (.bool true)], args := [d1, d2] }
  | _ => none }
def fileSealsRow : OpenClaim := { program := "ytkbmhghellimcaa", sum := "14d8f0c2b39ece16696f45296573670959ac78c817c6cc68237052aa22fe057d", func := "outrider/outriderlaw14.FileSeals", spec := "fileSeals", inPlace := ["internal/abi.NoEscape", "internal/bytealg.MakeNoZero", "maps.clone"], unfollowed := true, recurses := true, apart := false }
def FileSealsSaid : Prop := fileSealsRow.holds Try.pinned (OpenSpec.ofChange fileSealsSpec)

/-- ITS FALSE NEIGHBOUR: 'it returns false'. Refute it at one input. -/
def fileSealsWrong : ChangeSpec := { name := "fileSeals", fn := fun _ => fun
  | [d1, d2] => { results := [.lit (.bool false)], args := [d1, d2] }
  | _ => none }
def FileSealsWrongFalsely : Prop := fileSealsRow.holds Try.pinned (OpenSpec.ofChange fileSealsWrong)

/-- 'outriderlaw14.FileOthers': WHATEVER THE INPUT: true; the input reads as it did. -/
def fileOthersSpec : ChangeSpec := { name := "fileOthers", fn := fun _ => fun
  | [d] => { results := [.lit (.bool true)], args := [d] }
  | _ => none }
def fileOthersRow : OpenClaim := { program := "ytkbmhghellimcaa", sum := "14d8f0c2b39ece16696f45296573670959ac78c817c6cc68237052aa22fe057d", func := "outrider/outriderlaw14.FileOthers", spec := "fileOthers", inPlace := ["internal/abi.NoEscape", "internal/bytealg.MakeNoZero", "maps.clone"], unfollowed := true, recurses := true, apart := false }
def FileOthersSaid : Prop := fileOthersRow.holds Try.pinned (OpenSpec.ofChange fileOthersSpec)

/-- ITS FALSE NEIGHBOUR: 'it returns false'. Refute it at one input. -/
def fileOthersWrong : ChangeSpec := { name := "fileOthers", fn := fun _ => fun
  | [d] => { results := [.lit (.bool false)], args := [d] }
  | _ => none }
def FileOthersWrongFalsely : Prop := fileOthersRow.holds Try.pinned (OpenSpec.ofChange fileOthersWrong)

/-- 'outriderlaw14.FileWhole': WHATEVER THE INPUT: true; the input reads as it did. -/
def fileWholeSpec : ChangeSpec := { name := "fileWhole", fn := fun _ => fun
  | [d1, d2, d3] => { results := [.lit (.bool true)], args := [d1, d2, d3] }
  | _ => none }
def fileWholeRow : OpenClaim := { program := "ytkbmhghellimcaa", sum := "14d8f0c2b39ece16696f45296573670959ac78c817c6cc68237052aa22fe057d", func := "outrider/outriderlaw14.FileWhole", spec := "fileWhole", inPlace := ["internal/abi.NoEscape", "internal/bytealg.MakeNoZero", "maps.clone"], unfollowed := true, recurses := true, apart := false }
def FileWholeSaid : Prop := fileWholeRow.holds Try.pinned (OpenSpec.ofChange fileWholeSpec)

/-- ITS FALSE NEIGHBOUR: 'it returns false'. Refute it at one input. -/
def fileWholeWrong : ChangeSpec := { name := "fileWhole", fn := fun _ => fun
  | [d1, d2, d3] => { results := [.lit (.bool false)], args := [d1, d2, d3] }
  | _ => none }
def FileWholeWrongFalsely : Prop := fileWholeRow.holds Try.pinned (OpenSpec.ofChange fileWholeWrong)

/- THE SECOND FORM. 'bulk': how many values and letters a reading holds, each counted each time it is reached (what is shared counts as often as it is met; a slice's spare places count too). A statement '..UptoSaid' is the law's where the arguments, and the package variables that the reading takes, are together of bulk at most 1048576: NARROWER than '..Said'. Prove '..Said' where nothing that the law and all that it calls make is longer than what came in: it says more and counts as full. Else prove '..UptoSaid'. A law counts once. -/
mutual
def uptoBulk {H : Type} : DataW H → Nat
  | .lit (.string bytes) => bytes.length + 1
  | .lit _ => 1
  | .nil => 1
  | .ptr d => uptoBulk d + 1
  | .slice elems spare => uptoBulkAll elems + uptoBulkAll spare + 1
  | .agg parts => uptoBulkAll parts + 1
  | .iface _ d => uptoBulk d + 1
  | .map entries => uptoBulkEntries entries + 1
  | .held _ => 1
def uptoBulkAll {H : Type} : List (DataW H) → Nat
  | [] => 0
  | d :: r => uptoBulk d + uptoBulkAll r
def uptoBulkEntries {H : Type} : List (Lit × DataW H) → Nat
  | [] => 0
  | x :: r => uptoBulkEntry x + uptoBulkEntries r
def uptoBulkEntry {H : Type} : Lit × DataW H → Nat
  | (.string bytes, d) => bytes.length + uptoBulk d + 1
  | (_, d) => uptoBulk d + 1
 end
def uptoSmall : (H : Type) → List (DataW H) → Bool := fun _ ds => decide (uptoBulkAll ds ≤ 1048576)
def OpenSpec.upto (s : _root_.Go.ChangeSpec) : _root_.Go.OpenSpec := { _root_.Go.OpenSpec.ofChange s with cond := some uptoSmall }

/-- 'outriderlaw14.FileSeals', WHERE WHAT IT READS IS OF BULK AT MOST 1048576: true; the input reads as it did. -/
def fileSealsUptoRow : OpenClaim := { program := "ytkbmhghellimcaa", sum := "14d8f0c2b39ece16696f45296573670959ac78c817c6cc68237052aa22fe057d", func := "outrider/outriderlaw14.FileSeals", spec := "fileSeals", inPlace := ["internal/abi.NoEscape", "internal/bytealg.MakeNoZero", "maps.clone"], unfollowed := true, recurses := true, apart := false, narrowed := true }
def FileSealsUptoSaid : Prop := fileSealsUptoRow.holds Try.pinned (OpenSpec.upto fileSealsSpec)

/-- 'outriderlaw14.FileOthers', WHERE WHAT IT READS IS OF BULK AT MOST 1048576: true; the input reads as it did. -/
def fileOthersUptoRow : OpenClaim := { program := "ytkbmhghellimcaa", sum := "14d8f0c2b39ece16696f45296573670959ac78c817c6cc68237052aa22fe057d", func := "outrider/outriderlaw14.FileOthers", spec := "fileOthers", inPlace := ["internal/abi.NoEscape", "internal/bytealg.MakeNoZero", "maps.clone"], unfollowed := true, recurses := true, apart := false, narrowed := true }
def FileOthersUptoSaid : Prop := fileOthersUptoRow.holds Try.pinned (OpenSpec.upto fileOthersSpec)

/-- 'outriderlaw14.FileWhole', WHERE WHAT IT READS IS OF BULK AT MOST 1048576: true; the input reads as it did. -/
def fileWholeUptoRow : OpenClaim := { program := "ytkbmhghellimcaa", sum := "14d8f0c2b39ece16696f45296573670959ac78c817c6cc68237052aa22fe057d", func := "outrider/outriderlaw14.FileWhole", spec := "fileWhole", inPlace := ["internal/abi.NoEscape", "internal/bytealg.MakeNoZero", "maps.clone"], unfollowed := true, recurses := true, apart := false, narrowed := true }
def FileWholeUptoSaid : Prop := fileWholeUptoRow.holds Try.pinned (OpenSpec.upto fileWholeSpec)

end Rows
end Go.Proofs.Ytkbmhghellimcaa
