/- The disk as plain data: what each of its acts does. -/
import Derived.Test.YtkbmhghellimcaaDska
namespace Go.Proofs.Ytkbmhghellimcaa
open Go.RowKit

structure TurnS where
  kind : Nat
  src : Str
  dst : Str
  n : Nat
structure DiskS where
  room : Nat
  now : List Str
  sure : List Str
  names : Names
  last : Names
  pending : List TurnS
  steps : Nat
  fuse : Int
  down : Bool

def doT (l : Names) (t : TurnS) : Names :=
  if t.kind = 1 then putN t.dst t.n l
  else match findN t.src l with
    | none => l
    | some n => if t.kind = 2 then putN t.dst n (delN t.src l) else delN t.src l
def turnedD (D : DiskS) (t : TurnS) : DiskS := { D with names := doT D.names t, pending := D.pending ++ [t] }
def usedD (D : DiskS) : Nat := (D.names.map fun p => (D.now.getD p.2 []).length).sum
def stepE (D : DiskS) : Nat := if D.fuse = 0 then 15 else 0
def stepD (D : DiskS) : DiskS := if D.fuse = 0 then { D with down := true } else { D with fuse := if 0 < D.fuse then D.fuse - 1 else D.fuse, steps := D.steps + 1 }
def nameB (s : Str) : Bool := !s.isEmpty && decide (s.length ≤ 32)
def newD (room : Nat) : DiskS := ⟨room, [], [], [], [], [], 0, -1, false⟩

/-- The error of a Write; then what it makes of a disk. -/
def writeE (D : DiskS) (s t : Str) : Nat :=
  if D.down then 15
  else if nameB s = false then 2
  else match findN s D.names with
    | none => if 16 ≤ D.names.length then 17 else if D.room < usedD D + t.length then 16 else stepE D
    | some n => if D.room + (D.now.getD n []).length < usedD D + t.length then 16 else stepE D
def writeD (D : DiskS) (s t : Str) : DiskS :=
  if D.down then D
  else if nameB s = false then D
  else match findN s D.names with
    | none => if 16 ≤ D.names.length then D else if D.room < usedD D + t.length then D else if D.fuse = 0 then stepD D else
        turnedD { stepD D with now := D.now ++ [t], sure := D.sure ++ [[]] } ⟨1, [], s, D.now.length⟩
    | some n => if D.room + (D.now.getD n []).length < usedD D + t.length then D else if D.fuse = 0 then stepD D else { stepD D with now := D.now.set n t }

def thereE (D : DiskS) (s : Str) : Nat := if D.down then 15 else if (findN s D.names).isNone then 12 else 0
def syncE (D : DiskS) (s : Str) : Nat := if thereE D s = 0 then stepE D else thereE D s
def syncD (D : DiskS) (s : Str) : DiskS :=
  if thereE D s = 0 then
    if D.fuse = 0 then stepD D else match findN s D.names with
      | some n => { stepD D with sure := D.sure.set n (D.now.getD n []) }
      | none => D
  else D
def renameE (D : DiskS) (s t : Str) : Nat := if thereE D s = 0 then (if nameB t = false then 2 else if s = t then 0 else stepE D) else thereE D s
def renameD (D : DiskS) (s t : Str) : DiskS :=
  if thereE D s = 0 then (if nameB t = false then D else if s = t then D else if D.fuse = 0 then stepD D else turnedD (stepD D) ⟨2, s, t, 0⟩) else D
def removeE (D : DiskS) (s : Str) : Nat := if thereE D s = 0 then stepE D else thereE D s
def removeD (D : DiskS) (s : Str) : DiskS := if thereE D s = 0 then (if D.fuse = 0 then stepD D else turnedD (stepD D) ⟨3, s, [], 0⟩) else D
def syncDirE (D : DiskS) : Nat := if D.down then 15 else stepE D
def syncDirD (D : DiskS) : DiskS := if D.down then D else if D.fuse = 0 then stepD D else { stepD D with last := D.names, pending := [] }
def readE (D : DiskS) (s : Str) : Nat := thereE D s
def readT (D : DiskS) (s : Str) : Str := if thereE D s = 0 then (match findN s D.names with | some n => D.now.getD n [] | none => []) else []
def namesD (D : DiskS) : List Str := if D.down then [] else D.names.map (·.1)

/-- What a file has behind a loss of power. -/
def bitN (m k : Nat) : Bool := m.testBit k
def keptB (now sure : Str) (mask i : Nat) : UInt8 := if bitN mask (i / 64 % 63) then now.getD i 0 else sure.getD i 0
def keptT (now sure : Str) (mask : Nat) : Str := (List.range (if bitN mask 63 then now.length else sure.length)).map (keptB now sure mask)

/-- The turns that last, of those pending; i: the number of the first. -/
def lastT (l : Names) : List TurnS → List Bool → Names
  | [], _ => l
  | _, [] => l
  | t :: ts, b :: bs => lastT (if b then doT l t else l) ts bs
structure Cr where
  now : List Str
  sure : List Str
  seen : List Nat
  masks : List Nat
def crashOne (c : Cr) (n : Nat) : Cr :=
  if c.seen.contains n then c else
    let t := keptT (c.now.getD n []) (c.sure.getD n []) (c.masks.headD 0)
    ⟨c.now.set n t, c.sure.set n t, n :: c.seen, c.masks.tail⟩
def crashD (D : DiskS) (names : List Bool) (sectors : List Nat) : DiskS :=
  let l := lastT D.last D.pending names
  let c := (l.map (·.2)).foldl crashOne ⟨D.now, D.sure, [], sectors⟩
  { D with now := c.now, sure := c.sure, names := l, last := l, pending := [], fuse := -1, down := false }

/-- Every number is a file's. -/
structure DiskS.Ok (D : DiskS) : Prop where
  len : D.sure.length = D.now.length
  names : ∀ p ∈ D.names, p.2 < D.now.length
  last : ∀ p ∈ D.last, p.2 < D.now.length
  pend : ∀ t ∈ D.pending, t.kind = 1 → t.n < D.now.length
  kinds : ∀ t ∈ D.pending, t.kind = 1 ∨ t.kind = 2 ∨ t.kind = 3
  plen : ∀ t ∈ D.pending, t.src.length ≤ maxLen ∧ t.dst.length ≤ maxLen
end Go.Proofs.Ytkbmhghellimcaa
