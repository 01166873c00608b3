/- The disk as plain data: names that rise, each with its file's number; and such a list as a map that the world holds. -/
import Derived.Maps.Range
import Derived.Sort.KeysCollected
namespace Go.Proofs.Ytkbmhghellimcaa
open Go.RowKit

abbrev Str := List UInt8
abbrev Names := List (Str × Nat)

def insN (x : Str × Nat) : Names → Names
  | [] => [x]
  | y :: r => if bytesBefore x.1 y.1 = true then x :: y :: r else y :: insN x r
def delN (s : Str) (l : Names) : Names := l.filter (fun p => !(p.1 == s))
def putN (s : Str) (n : Nat) (l : Names) : Names := insN (s, n) (delN s l)
def findN (s : Str) (l : Names) : Option Nat := (l.find? (fun p => p.1 == s)).map (·.2)

/-- The datum of a map of names; R says what stands at a number. -/
def mapD (f : Nat → Value) (l : Names) : DataW Value := .map (l.map fun p => (.string p.1, .held (f p.2)))
/-- How an element reads: as itself. -/
def raw (v : Value) : Option (DataW Value × List MemPlace) := some (.held v, [])
theorem raw_inv {v : Value} {z : DataW Value × List MemPlace} (h : raw v = some z) : z = (.held v, []) := (Option.some.inj h).symm

theorem map_insN (f : Nat → Value) (x : Str × Nat) : ∀ l : Names, (insN x l).map (fun p => (Lit.string p.1, DataW.held (f p.2))) = DataW.insert (.string x.1, .held (f x.2)) (l.map fun p => (.string p.1, .held (f p.2)))
  | [] => rfl
  | y :: r => by
    unfold insN
    rw [List.map_cons, DataW.insert]
    show List.map _ (if bytesBefore x.1 y.1 = true then x :: y :: r else y :: insN x r) = (if bytesBefore x.1 y.1 = true then _ else _)
    split
    · rfl
    · rw [List.map_cons, map_insN f x r]
theorem map_delN (f : Nat → Value) (s : Str) (l : Names) : (delN s l).map (fun p => (Lit.string p.1, DataW.held (f p.2))) = (l.map fun p => (Lit.string p.1, DataW.held (f p.2))).filter (fun p => !p.1.sameKey (.string s)) := by
  unfold delN
  rw [List.filter_map]
  rfl
theorem put_mapD (f : Nat → Value) (s : Str) (n : Nat) (l : Names) : (mapD f l).put (.string s) (.held (f n)) = mapD f (putN s n l) := by
  show DataW.map _ = DataW.map _
  rw [putN, map_insN, map_delN]
theorem del_mapD (f : Nat → Value) (s : Str) (l : Names) : (mapD f l).del (.string s) = mapD f (delN s l) := by
  show DataW.map _ = DataW.map _
  rw [map_delN]
theorem find_mapD (f : Nat → Value) (s : Str) : ∀ l : Names, (l.map fun p => (Lit.string p.1, DataW.held (f p.2))).find? (fun p => p.1.sameKey (.string s)) = (l.find? (fun p => p.1 == s)).map (fun p => (.string p.1, .held (f p.2)))
  | [] => rfl
  | y :: r => by
    rw [List.map_cons, List.find?_cons, List.find?_cons, find_mapD f s r]
    show (match y.1 == s with | true => _ | false => _) = _
    cases y.1 == s <;> rfl
theorem atKey_mapD (f : Nat → Value) (s : Str) (l : Names) (z : DataW Value) : (mapD f l).atKey (.string s) z = match findN s l with | some n => .held (f n) | none => z := by
  unfold mapD DataW.atKey findN
  dsimp only
  rw [find_mapD]
  cases l.find? (fun p => p.1 == s) <;> rfl
theorem has_mapD (f : Nat → Value) (s : Str) (l : Names) : Maps.has (mapD f l) (.string s) = (findN s l).isSome := by
  rw [mapD, Maps.has_eq, List.any_map, findN, Option.isSome_map, List.isSome_find?]
  rfl
theorem size_mapD (f : Nat → Value) (l : Names) : Maps.size (mapD f l) = l.length := by simp [mapD, Maps.size]
theorem mapD_congr {f g : Nat → Value} {l : Names} (h : ∀ p ∈ l, f p.2 = g p.2) : mapD f l = mapD g l := by
  unfold mapD
  congr 1
  exact List.map_congr_left (fun p hp => by rw [h p hp])
end Go.Proofs.Ytkbmhghellimcaa
