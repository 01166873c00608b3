/- The walks of an act's text, of file.Clean. -/
import Derived.Test.YtkbmhghellimcaaSave
namespace Go.Proofs.Ytkbmhghellimcaa
open Go.RowKit
attribute [local go_sem] size_str get_str

/-- An act of chapter 14, its text. -/
structure ActS where
  a : Str
  by_ : Str
  n : Nat
  b : UInt8
  clean : Bool
  fuse : Int
def actC (x : ActS) : Array Value := #[str x.a, str x.by_, .int .u16 x.n, .int .u8 x.b.toNat, .bool x.clean, .int .i8 x.fuse]
def actT (x : ActS) : Str := List.replicate (x.n % 3000) x.b
def actRow (n j : Nat) (b : UInt8) : Array Value := (List.replicate j (Value.int .u8 (b.toNat : Int)) ++ List.replicate (n - j) (Value.int .u8 0)).toArray
theorem actRow_set (n j : Nat) (b : UInt8) (h : j < n) : (actRow n j b).setIfInBounds j (.int .u8 (b.toNat : Int)) = actRow n (j + 1) b := by
  unfold actRow
  rw [List.replicate_succ', show n - j = (n - (j + 1)) + 1 by omega, List.replicate_succ]
  simp [List.set_append]
set_option maxRecDepth 100000 in
set_option maxHeartbeats 800000 in
theorem acttext_any (w : World) (x : ActS) (hn : x.n < 65536) :
    Calls Try.prog 13 #[.agg (actC x)] w fun e w' => e = .returned (str (actT x)) ∧ Below w.heap.size w w' := by
  obtain ⟨xa, xb, xn, b, xc, xf⟩ := x
  unfold actC actT
  simp only at hn ⊢
  have hmk : ∀ W : World, (Instr.makeSlice 68 (.int .u16 ((xn : Int) % 3000)) (.int .u16 ((xn : Int) % 3000))).run Try.prog W = .ok (.slice (some ⟨W.heap.size, 0, none⟩) (xn % 3000) (xn % 3000)) (W.alloc (.cells (actRow (xn % 3000) 0 b) 5)) := fun W => by
    obtain ⟨i, hi, h0, h1, h2⟩ := info_parts (show (Try.prog.info? 5).map (fun i => (i.zero, i.size, i.bytes)) = some (some (.int .u8 0), 1, 1) by kernel_rfl)
    have hr := run_make (P := Try.prog) W 68 5 i (.int .u8 0) Try.underlying68 hi h0 .u16 .u16 ((xn : Int) % 3000) ((xn : Int) % 3000) (by omega) (by omega) (by rw [h2]; omega) (by omega)
    rw [hr, show ((xn : Int) % 3000).toNat = xn % 3000 by omega, show (Value.int .u8 0).cells = #[Value.int .u8 0] from rfl, h1, Nat.mul_one, toList_made]
    simp [actRow]
  obtain ⟨n, hne⟩ : ∃ n, n = xn % 3000 := ⟨_, rfl⟩
  have hn3 : n < 3000 := by omega
  rw [← hne] at hmk ⊢
  have Hne := Lib.hid hne
  clear hne
  have hb8 : b.toNat < 256 := b.toNat_lt
  go_enter Try.func13, Try.ntmps13
  go_wp2
  clear hmk
  go_loopw [11, 4] (fun i _ wr => ∃ j : Nat, j ≤ n ∧ i = .int .i64 j ∧ Blk wr (w.heap.size + 1) 5 (actRow n j b) ∧ wr.cell? ⟨w.heap.size, 3, none⟩ = some (.int .u8 (b.toNat : Int)) ∧ Below w.heap.size w wr) (fun i _ _ => n - (intOf i).toNat)
  case atStart => exact ⟨0, Nat.zero_le _, rfl, Blk.new' (by simp) _ _, by simp, ((Below.refl _ _).alloc (Nat.le_refl _) _).alloc (by simp) _⟩
  case round =>
    obtain ⟨j, hj, rfl, hbk, hc3, hbl⟩ := hrel
    by_cases hlt : j < n
    · obtain ⟨u, hc⟩ := hbk.at j (by simp [actRow]; omega)
      have hf := hbk.free j
      go_wp2
      go_roundw
      case rel =>
        refine ⟨j + 1, by omega, by go_num, ?_, ?_, hbl.setCell (by simp) _⟩
        · rw [← actRow_set n j b hlt]
          exact hbk.set j _
        · exact (World.cell?_of_block (w := wr) (Below.heap_setCell wr ⟨w.heap.size + 1, j, none⟩ _ w.heap.size (by simp))).trans hc3
      case measure => simp [intOf]; omega
    · obtain rfl : j = n := by omega
      have hcv := hbk.string (P := Try.prog) 68 9 5 Try.underlying68 Try.underlying5 Try.underlying9 (List.replicate j b) j j (by simp) (fun i hi => by
        have hi' : i < j := by simpa using hi
        simp [actRow, hi'])
      go_wp2
      go_ret
      exact ⟨rfl, hbl⟩
end Go.Proofs.Ytkbmhghellimcaa
