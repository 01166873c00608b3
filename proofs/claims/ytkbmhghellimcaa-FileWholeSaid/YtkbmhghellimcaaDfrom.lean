/- The contracts of a disk for a caller that has made it: all of it lies from block B on. -/
import Derived.Test.YtkbmhghellimcaaCrash
namespace Go.Proofs.Ytkbmhghellimcaa
open Go.RowKit

/-- At p there is a disk; none of it lies in K; of w0 nothing in K has turned. -/
def DFrom (K : Nat → Prop) (w0 w : World) (p : Nat) (D : DiskS) : Prop := ∃ L : Lay, L.p = p ∧ DiskAt w L D ∧ (∀ b, L.foot b → ¬ K b) ∧ Only (fun b => ¬ K b) w0 w ∧ ∀ b, K b → b < w.heap.size
/-- Numbers that no act of a few can pass. -/
structure Fine (D : DiskS) : Prop where
  steps : D.steps < 100000000
  names : D.names.length < 100000
  last : D.last.length < 900
  pend : D.pending.length < 900
  used : usedD D < 1000000
  now : Short D.now
  sure : Short D.sure

section
variable {K : Nat → Prop} {p : Nat} {w0 w w' : World} {D D' : DiskS}
theorem DFrom.of_left {L : Lay} (hp : L.p = p) (hf : ∀ b, L.foot b → ¬ K b) (hb : Only (fun b => ¬ K b) w0 w) (hK : ∀ b, K b → b < w.heap.size) (h : Left w L D' w') : DFrom K w0 w' p D' := by
  obtain ⟨L', hp', h1, ho, hf'⟩ := h
  exact ⟨L', hp'.trans hp, h1, fun b hb' hk => by rcases hf' b hb' with e | e; exact hf b e hk; have := hK b hk; omega, hb.trans ho (fun i e => .inl (hf i e)), fun b hk => Nat.lt_of_lt_of_le (hK b hk) ho.size⟩
theorem DFrom.of_same {L : Lay} (hp : L.p = p) (hf : ∀ b, L.foot b → ¬ K b) (hb : Only (fun b => ¬ K b) w0 w) (hK : ∀ b, K b → b < w.heap.size) (h : DiskAt w' L D') (ho : Only L.foot w w') : DFrom K w0 w' p D' := DFrom.of_left hp hf hb hK (Left.of h ho)
/-- Other memory is made. -/
theorem DFrom.below (h : DFrom K w0 w p D) (hb : Below w.heap.size w w') : DFrom K w0 w' p D := by
  obtain ⟨L, hp, h1, hf, hb0, hK⟩ := h
  exact ⟨L, hp, h1.below hb (Nat.le_refl _), hf, hb0.below hb hb0.size, fun b hk => Nat.lt_of_lt_of_le (hK b hk) hb.size⟩
theorem DFrom.alloc (h : DFrom K w0 w p D) (o : Obj) : DFrom K w0 (w.alloc o) p D := h.below ((Below.refl _ _).alloc (Nat.le_refl _) _)
theorem DFrom.drew (h : DFrom K w0 w p D) : DFrom K w0 w.drew p D := h.below (Below.refl _ _).drew
/-- What is none of the disk's is written. -/
theorem DFrom.wrote (h : DFrom K w0 w p D) {S : Nat → Prop} (ho : Only S w w') (hS : ∀ b, S b → K b) : ∃ L : Lay, L.p = p ∧ DiskAt w' L D ∧ ∀ b, L.foot b → ¬ K b := by
  obtain ⟨L, hp, h1, hf, hb0, hK⟩ := h
  exact ⟨L, hp, h1.kept ho (fun b hb e => hf b hb (hS b e)), hf⟩
/-- From here on: of w nothing in K turns. -/
theorem DFrom.now (h : DFrom K w0 w p D) : DFrom K w w p D := by
  obtain ⟨L, hp, h1, hf, hb0, hK⟩ := h
  exact ⟨L, hp, h1, hf, Only.refl _ _, hK⟩
theorem DFrom.only (h : DFrom K w0 w p D) : Only (fun b => ¬ K b) w0 w := by
  obtain ⟨L, hp, h1, hf, hb0, hK⟩ := h
  exact hb0
theorem DFrom.write (h : DFrom K w0 w p D) {S : Nat → Prop} (ho : Only S w w') (hS : ∀ b, S b → K b) : DFrom K w' w' p D := by
  obtain ⟨L, hp, h1, hf, hb0, hK⟩ := h
  exact ⟨L, hp, h1.kept ho (fun b hb e => hf b hb (hS b e)), hf, Only.refl _ _, fun b hk => Nat.lt_of_lt_of_le (hK b hk) ho.size⟩
/-- A new block is guarded too. -/
theorem DFrom.guard (h : DFrom K w0 w p D) (o : Obj) : DFrom (fun b => K b ∨ b = w.heap.size) (w.alloc o) (w.alloc o) p D := by
  obtain ⟨L, hp, h1, hf, hb0, hK⟩ := h
  have hb : Below w.heap.size w (w.alloc o) := (Below.refl _ _).alloc (Nat.le_refl _) _
  refine ⟨L, hp, h1.below hb (Nat.le_refl _), fun b hb' e => ?_, Only.refl _ _, fun b hk => ?_⟩
  · rcases e with e | e
    · exact hf b hb' e
    · have := h1.foot_lt b hb'; omega
  · rw [size_alloc']
    rcases hk with hk | hk
    · have := hK b hk; omega
    · omega
theorem DFrom.weaken (h : DFrom K w0 w p D) {K' : Nat → Prop} (hk : ∀ b, K' b → K b) : DFrom K' w w p D := by
  obtain ⟨L, hp, h1, hf, hb0, hK⟩ := h
  exact ⟨L, hp, h1, fun b hb e => hf b hb (hk b e), Only.refl _ _, fun b e => hK b (hk b e)⟩

theorem new_from (w0 w : World) (K : Nat → Prop) (n : Nat) (hn : n ≤ 65536) (hb : Only (fun b => ¬ K b) w0 w) (hK : ∀ b, K b → b < w.heap.size) :
    Calls Try.prog 11 #[.int .i64 n] w fun e w' => ∃ p, e = .returned (.tuple #[.pointer (some ⟨p, 0, none⟩), .int .i64 0]) ∧ DFrom K w0 w' p (newD n) :=
  (new_any w n hn).mono fun e w' ⟨L, he, h, hbl, hf⟩ => ⟨L.p, he, L, rfl, h, fun b hb' hk => (by have := hf b hb'; have := hK b hk; omega), hb.below hbl hb.size, fun b hk => Nat.lt_of_lt_of_le (hK b hk) hbl.size⟩
theorem write_from (h : DFrom K w0 w p D) (s t : Str) (hs : s.length ≤ maxLen) (ht : t.length < 1000000) (hF : Fine D) :
    Calls Try.prog 30 #[.pointer (some ⟨p, 0, none⟩), str s, str t] w fun e w' => e = .returned (.int .i64 (writeE D s t)) ∧ DFrom K w0 w' p (writeD D s t) := by
  obtain ⟨L, rfl, h1, hf, hb0, hB⟩ := h
  exact (write_any w L D s t h1 hs ht hF.used (by have := hF.steps; omega) (by have := hF.names; omega) (by have := hF.pend; omega) (fun W => strclone_any t W ht)).mono fun e w' ⟨he, hl⟩ => ⟨he, DFrom.of_left rfl hf hb0 hB hl⟩
theorem sync_from (h : DFrom K w0 w p D) (s : Str) (hs : s.length ≤ maxLen) (hF : Fine D) :
    Calls Try.prog 31 #[.pointer (some ⟨p, 0, none⟩), str s] w fun e w' => e = .returned (.int .i64 (syncE D s)) ∧ DFrom K w0 w' p (syncD D s) := by
  obtain ⟨L, rfl, h1, hf, hb0, hB⟩ := h
  exact (sync_any w L D s h1 hs (by have := hF.steps; omega)).mono fun e w' ⟨he, hl, ho⟩ => ⟨he, DFrom.of_same rfl hf hb0 hB hl ho⟩
theorem rename_from (h : DFrom K w0 w p D) (s t : Str) (hs : s.length ≤ maxLen) (ht : t.length ≤ maxLen) (hF : Fine D) :
    Calls Try.prog 32 #[.pointer (some ⟨p, 0, none⟩), str s, str t] w fun e w' => e = .returned (.int .i64 (renameE D s t)) ∧ DFrom K w0 w' p (renameD D s t) := by
  obtain ⟨L, rfl, h1, hf, hb0, hB⟩ := h
  exact (rename_any w L D s t h1 hs ht (by have := hF.steps; omega) (by have := hF.names; omega) (by have := hF.pend; omega)).mono fun e w' ⟨he, hl⟩ => ⟨he, DFrom.of_left rfl hf hb0 hB hl⟩
theorem remove_from (h : DFrom K w0 w p D) (s : Str) (hs : s.length ≤ maxLen) (hF : Fine D) :
    Calls Try.prog 41 #[.pointer (some ⟨p, 0, none⟩), str s] w fun e w' => e = .returned (.int .i64 (removeE D s)) ∧ DFrom K w0 w' p (removeD D s) := by
  obtain ⟨L, rfl, h1, hf, hb0, hB⟩ := h
  exact (remove_any w L D s h1 hs (by have := hF.steps; omega) (by have := hF.names; omega) (by have := hF.pend; omega)).mono fun e w' ⟨he, hl⟩ => ⟨he, DFrom.of_left rfl hf hb0 hB hl⟩
theorem syncdir_from (h : DFrom K w0 w p D) (hF : Fine D) :
    Calls Try.prog 33 #[.pointer (some ⟨p, 0, none⟩)] w fun e w' => e = .returned (.int .i64 (syncDirE D)) ∧ DFrom K w0 w' p (syncDirD D) := by
  obtain ⟨L, rfl, h1, hf, hb0, hB⟩ := h
  exact (syncdir_any clone_ok w L D h1 (by have := hF.steps; omega)).mono fun e w' ⟨he, hl⟩ => ⟨he, DFrom.of_left rfl hf hb0 hB hl⟩
theorem read_from (h : DFrom K w0 w p D) (s : Str) (hs : s.length ≤ maxLen) :
    Calls Try.prog 34 #[.pointer (some ⟨p, 0, none⟩), str s] w fun e w' => e = .returned (.tuple #[str (readT D s), .int .i64 (readE D s)]) ∧ w = w' := by
  obtain ⟨L, rfl, h1, hf, hb0, hB⟩ := h
  exact read_any w L D s h1 hs
theorem names_from (h : DFrom K w0 w p D) (hF : Fine D) :
    Calls Try.prog 15 #[.pointer (some ⟨p, 0, none⟩)] w fun e w' => ∃ v, e = .returned v ∧ w'.ownsRow w.heap.size 9 1 v (namesD D).length ((namesD D).map str) ∧ Below w.heap.size w w' ∧ DFrom K w0 w' p D := by
  have h' := h
  obtain ⟨L, rfl, h1, hf, hb0, hB⟩ := h
  exact (names_any w L D h1 (by have := hF.names; omega)).mono fun e w' ⟨v, he, hr, _, hb⟩ => ⟨v, he, hr, hb, h'.below hb⟩
theorem fuse_from (h : DFrom K w0 w p D) (n : Int) (hn : -1000000 ≤ n) (hn2 : n < 1000000) :
    Calls Try.prog 16 #[.pointer (some ⟨p, 0, none⟩), .int .i64 n] w fun e w' => e = .returned (.tuple #[]) ∧ DFrom K w0 w' p (fuseD D n) := by
  obtain ⟨L, rfl, h1, hf, hb0, hB⟩ := h
  exact (fuse_any w L D n h1 hn hn2).mono fun e w' ⟨he, hl, ho⟩ => ⟨he, DFrom.of_same rfl hf hb0 hB hl ho⟩
theorem down_from (h : DFrom K w0 w p D) :
    Calls Try.prog 17 #[.pointer (some ⟨p, 0, none⟩)] w fun e w' => e = .returned (.bool D.down) ∧ w = w' := by
  obtain ⟨L, rfl, h1, hf, hb0, hB⟩ := h
  exact down_any w L D h1
theorem crash_from (h : DFrom K w0 w p D) (An As : Option Addr) (cn cs : Nat) (bn : List Bool) (sn : List Nat) (hbn : Lst w An (bn.map Value.bool)) (hsn : Lst w As (sn.map (fun n : Nat => Value.int .u64 (n : Int))))
    (hcn : bn.length ≤ cn) (hcs : sn.length ≤ cs) (hs64 : ∀ n ∈ sn, n < 18446744073709551616) (hbl : bn.length ≤ 9223372036854775807) (hsl : sn.length ≤ 9223372036854775807) (hfn : bn ≠ [] → ∀ a, An = some a → K a.block) (hfs : sn ≠ [] → ∀ a, As = some a → K a.block) (hF : Fine D) :
    Calls Try.prog 18 #[.pointer (some ⟨p, 0, none⟩), .slice An bn.length cn, .slice As sn.length cs] w fun e w' => e = .returned (.tuple #[]) ∧ DFrom K w0 w' p (crashD D bn sn) := by
  obtain ⟨L, rfl, h1, hf, hb0, hB⟩ := h
  exact (crash_any w L D h1 An As cn cs bn sn hbn hsn hcn hcs hs64 hbl hsl (fun hne a ha hS => hf _ hS (hfn hne a ha)) (fun hne a ha hS => hf _ hS (hfs hne a ha)) (by have := hF.pend; omega) (by have := hF.last; omega) hF.now hF.sure).mono fun e w' ⟨he, hl⟩ => ⟨he, DFrom.of_left rfl hf hb0 hB hl⟩
theorem DFrom.toBelow {B : Nat} (h : DFrom (· < B) w0 w p D) (hB : B ≤ w0.heap.size) : Below B w0 w := by
  obtain ⟨L, hp, h1, hf, hb0, hK⟩ := h
  exact hb0.toBelow hB (fun k hk e => e hk)
end
end Go.Proofs.Ytkbmhghellimcaa
