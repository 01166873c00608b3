/- The plain law of FileWhole; what a Clean makes of a disk. -/
import Derived.Test.YtkbmhghellimcaaFoLaw
import Derived.Test.YtkbmhghellimcaaDfrom
namespace Go.Proofs.Ytkbmhghellimcaa
open Go.RowKit

/-- Clean's error, and what it makes of a disk. -/
def cleanR (D : DiskS) (some_ : Bool) : List Str → Nat × DiskS
  | [] => if some_ then (syncDirE D, syncDirD D) else (0, D)
  | s :: r => if removeE D s = 0 then cleanR (removeD D s) true r else if removeE D s = 12 then cleanR (removeD D s) some_ r else (removeE D s, removeD D s)
def CleanFine (D : DiskS) : List Str → Prop
  | [] => Fine D
  | s :: r => Fine D ∧ CleanFine (removeD D s) r

def mainS : Str := [109, 97, 105, 110]
def nm (q s : Option Nat) : Names := (match q with | none => [] | some n => [(mainS, n)]) ++ (match s with | none => [] | some n => [(spareS, n)])
structure MH (k : Nat) (D : DiskS) (q s : Option Nat) (tx : Str) : Prop where
  up : D.down = false
  pend : D.pending = []
  room : D.room = 65536
  len : D.sure.length = D.now.length
  names : D.names = nm q s
  last : D.last = nm q s
  main : ∀ n, q = some n → n < D.now.length ∧ D.now.getD n [] = sealL tx ∧ D.sure.getD n [] = sealL tx
  small : tx.length < 3000
  steps : D.steps ≤ k
  now : ∀ t ∈ D.now, t.length ≤ 3028
  sure : ∀ t ∈ D.sure, t.length ≤ 3028

theorem len_nm (q s : Option Nat) : (nm q s).length ≤ 2 := by
  cases q <;> cases s <;> simp [nm]
theorem find_main (q s : Option Nat) : findN mainS (nm q s) = q := by
  cases q <;> cases s <;> simp [nm, findN, mainS, spareS]
theorem find_spare (q s : Option Nat) : findN spareS (nm q s) = s := by
  cases q <;> cases s <;> simp [nm, findN, mainS, spareS]
theorem put_spare (q : Option Nat) (m : Nat) : putN spareS m (nm q none) = nm q (some m) := by
  cases q <;> rfl
theorem del_spare (q s : Option Nat) : delN spareS (nm q s) = nm q none := by
  cases q <;> cases s <;> rfl
theorem put_main (q : Option Nat) (m : Nat) : putN mainS m (nm q none) = nm (some m) none := by
  cases q <;> rfl

theorem kept_same (x : Str) (mask : Nat) : keptT x x mask = x := by
  unfold keptT keptB
  simp only [ite_self]
  apply List.ext_getElem
  · simp
  · intro i h1 h2
    simp [h2]
theorem kept_len (x y : Str) (mask m : Nat) (hx : x.length ≤ m) (hy : y.length ≤ m) : (keptT x y mask).length ≤ m := by
  unfold keptT
  split <;> simpa
structure CI (n : Nat) (x : Str) (L : Nat) (c : Cr) : Prop where
  ln : c.now.length = L
  ls : c.sure.length = L
  bn : ∀ t ∈ c.now, t.length ≤ 3028
  bs : ∀ t ∈ c.sure, t.length ≤ 3028
  hn : c.now.getD n [] = x
  hs : c.sure.getD n [] = x
theorem getD_set_eq (l : List Str) (k n : Nat) (t x : Str) (h : l.getD n [] = x) (ht : k = n → t = x) : (l.set k t).getD n [] = x := by
  by_cases e : k = n
  · subst e
    rw [List.getD_eq_getElem?_getD]
    by_cases hk : k < l.length
    · simp [hk, ht rfl]
    · rw [List.getElem?_eq_none (by simpa using hk)]
      rw [List.getD_eq_getElem?_getD, List.getElem?_eq_none (by simpa using hk)] at h
      exact h
  · rw [List.getD_eq_getElem?_getD, List.getElem?_set_ne e, ← List.getD_eq_getElem?_getD]
    exact h
theorem CI.one {n L : Nat} {x : Str} {c : Cr} (h : CI n x L c) (k : Nat) : CI n x L (crashOne c k) := by
  unfold crashOne
  split
  · exact h
  · have hl := kept_len _ _ (c.masks.headD 0) 3028 (getD_le h.bn k) (getD_le h.bs k)
    have hk : k = n → keptT (c.now.getD k []) (c.sure.getD k []) (c.masks.headD 0) = x := by
      rintro rfl
      rw [h.hn, h.hs, kept_same]
    exact ⟨by simpa using h.ln, by simpa using h.ls, mem_set_le h.bn hl _, mem_set_le h.bs hl _, getD_set_eq _ _ _ _ _ h.hn hk, getD_set_eq _ _ _ _ _ h.hs hk⟩
theorem CI.all {n L : Nat} {x : Str} : ∀ (l : List Nat) {c : Cr}, CI n x L c → CI n x L (l.foldl crashOne c)
  | [], _, h => h
  | k :: r, _, h => CI.all r (h.one k)

section
variable {k : Nat} {D : DiskS} {q s : Option Nat} {tx : Str}
theorem MH.bd (h : MH k D q s tx) : Bd (k + 2) 3028 D where
  steps := by have := h.steps; omega
  names := by rw [h.names]; have := len_nm q s; omega
  last := by rw [h.last]; have := len_nm q s; omega
  pend := by rw [h.pend]; simp
  now := h.now
  sure := h.sure
theorem MH.fuse (h : MH k D q s tx) (f : Int) : MH k (fuseD D f) q s tx := ⟨h.up, h.pend, h.room, h.len, h.names, h.last, h.main, h.small, h.steps, h.now, h.sure⟩
theorem MH.goes (h : MH k D q none tx) (text : Str) (ht : text.length < 3000) : Goes D mainS spareS text where
  up := h.up
  len := h.len
  okN := by decide
  okB := by decide
  ne := by decide
  okT := by omega
  new := by rw [h.names, find_spare]
  few := by rw [h.names]; have := len_nm q none; omega
  room := by
    have h1 := used_le h.now
    have h2 := length_seal text
    have h3 := len_nm q none
    rw [h.names] at h1
    have h4 : (nm q none).length * 3028 ≤ 2 * 3028 := Nat.mul_le_mul_right _ h3
    rw [h.room]
    omega
/-- A crash of a disk that may stand behind a Save. -/
theorem crash_mid {P : DiskS} (q' s' : Option Nat) (tx' : Str) (bits : List Bool) (masks : List Nat) (hl : lastT P.last P.pending bits = nm q' s') (hroom : P.room = 65536) (hlen : P.sure.length = P.now.length)
    (hm : ∀ n, q' = some n → n < P.now.length ∧ P.now.getD n [] = sealL tx' ∧ P.sure.getD n [] = sealL tx') (hs : tx'.length < 3000) (hst : P.steps ≤ k) (hn : ∀ t ∈ P.now, t.length ≤ 3028) (hsu : ∀ t ∈ P.sure, t.length ≤ 3028) :
    MH k (crashD P bits masks) q' s' tx' := by
  have key : ∀ n x, P.now.getD n [] = x → P.sure.getD n [] = x → CI n x P.now.length (((lastT P.last P.pending bits).map (·.2)).foldl crashOne ⟨P.now, P.sure, [], masks⟩) := fun n x h1 h2 => CI.all _ ⟨rfl, hlen, hn, hsu, h1, h2⟩
  have out : ∀ x : Str, P.now.getD P.now.length [] = [] := fun x => by simp
  have any := key P.now.length [] (by simp) (by rw [← hlen]; simp)
  refine ⟨rfl, rfl, hroom, ?_, hl, hl, fun n e => ?_, hs, hst, any.bn, any.bs⟩
  · exact any.ls.trans any.ln.symm
  · obtain ⟨h1, h2, h3⟩ := hm n e
    have := key n _ h2 h3
    exact ⟨by rw [show (crashD P bits masks).now.length = P.now.length from this.ln]; exact h1, this.hn, this.hs⟩
theorem last_nil (l : Names) (bits : List Bool) : lastT l [] bits = l := by unfold lastT; rfl
theorem last_one (q : Option Nat) (m : Nat) (bits : List Bool) : lastT (nm q none) [⟨1, [], spareS, m⟩] bits = nm q none ∨ lastT (nm q none) [⟨1, [], spareS, m⟩] bits = nm q (some m) := by
  match bits with
  | [] => exact .inl rfl
  | false :: r => exact .inl (last_nil _ r)
  | true :: r => exact .inr ((last_nil _ r).trans (put_spare q m))
theorem last_two (q : Option Nat) (m : Nat) (bits : List Bool) : lastT (nm q none) [⟨1, [], spareS, m⟩, ⟨2, spareS, mainS, 0⟩] bits = nm q none ∨ lastT (nm q none) [⟨1, [], spareS, m⟩, ⟨2, spareS, mainS, 0⟩] bits = nm q (some m) ∨ lastT (nm q none) [⟨1, [], spareS, m⟩, ⟨2, spareS, mainS, 0⟩] bits = nm (some m) none := by
  have e1 : doT (nm q none) ⟨1, [], spareS, m⟩ = nm q (some m) := put_spare q m
  have e2 : doT (nm q none) ⟨2, spareS, mainS, 0⟩ = nm q none := by
    simp only [doT, find_spare]
    rfl
  have e3 : doT (nm q (some m)) ⟨2, spareS, mainS, 0⟩ = nm (some m) none := by
    simp only [doT, find_spare, del_spare, put_main]
    rfl
  match bits with
  | [] => exact .inl rfl
  | [b] =>
    cases b
    · exact .inl rfl
    · exact .inr (.inl e1)
  | b :: c :: r =>
    cases b <;> cases c
    · exact .inl (last_nil _ r)
    · exact .inl ((last_nil _ r).trans e2)
    · exact .inr (.inl ((last_nil _ r).trans e1))
    · refine .inr (.inr ?_)
      have e : lastT (nm q none) [⟨1, [], spareS, m⟩, ⟨2, spareS, mainS, 0⟩] (true :: true :: r) = lastT (doT (doT (nm q none) ⟨1, [], spareS, m⟩) ⟨2, spareS, mainS, 0⟩) [] r := rfl
      rw [e, last_nil, e1, e3]
/-- What a Save leaves; what a crash behind it leaves. -/
theorem MH.save (h : MH k D q none tx) (text : Str) (ht : text.length < 3000) :
    ((saveE D mainS spareS text = 0 ∧ (saveD D mainS spareS text).down = false ∧ ∃ n, MH (k + 4) (saveD D mainS spareS text) (some n) none text) ∨ (saveE D mainS spareS text = 15 ∧ (saveD D mainS spareS text).down = true)) ∧
    ∀ bits masks, ∃ q' s' tx', MH (k + 4) (crashD (saveD D mainS spareS text) bits masks) q' s' tx' ∧ ((∃ n, q' = some n ∧ tx' = text) ∨ (saveE D mainS spareS text = 15 ∧ q' = q ∧ tx' = tx)) := by
  have hG := h.goes text ht
  have hx : (sealL text).length ≤ 3028 := by have := length_seal text; omega
  have hn1 := mem_append_le h.now hx
  have hs1 := mem_append_le h.sure hx
  have hs0 := mem_append_le (x := ([] : Str)) h.sure (Nat.zero_le _)
  have hst := h.steps
  have hold : ∀ y : Str, ∀ n, q = some n → n < (D.now ++ [sealL text]).length ∧ (D.now ++ [sealL text]).getD n [] = sealL tx ∧ (D.sure ++ [y]).getD n [] = sealL tx := fun y n e => by
    obtain ⟨h1, h2, h3⟩ := h.main n e
    refine ⟨by simp; omega, ?_, ?_⟩
    · rw [List.getD_eq_getElem?_getD, List.getElem?_append_left h1, ← List.getD_eq_getElem?_getD, h2]
    · rw [List.getD_eq_getElem?_getD, List.getElem?_append_left (by rw [h.len]; exact h1), ← List.getD_eq_getElem?_getD, h3]
  have hnew : ∀ n, some D.now.length = some n → n < (D.now ++ [sealL text]).length ∧ (D.now ++ [sealL text]).getD n [] = sealL text ∧ (D.sure ++ [sealL text]).getD n [] = sealL text := fun n e => by
    obtain rfl : D.now.length = n := by simpa using e
    refine ⟨by simp, by simp, ?_⟩
    rw [← h.len]
    simp
  have hll : ∀ y : Str, (D.sure ++ [y]).length = (D.now ++ [sealL text]).length := fun y => by simp [h.len]
  have hp : putN spareS D.now.length D.names = nm q (some D.now.length) := by rw [h.names, put_spare]
  have hp2 : putN mainS D.now.length (delN spareS (putN spareS D.now.length D.names)) = nm (some D.now.length) none := by rw [hp, del_spare, put_main]
  rcases hG.cases with ⟨_, hE, hV⟩ | ⟨_, _, hE, hV⟩ | ⟨_, _, _, hE, hV⟩ | ⟨_, _, _, _, hE, hV⟩ | ⟨_, _, _, _, hE, hV⟩
  · rw [hV, hE]
    refine ⟨.inr ⟨rfl, rfl⟩, fun bits masks => ⟨q, none, tx, crash_mid q none tx bits masks ?_ h.room h.len h.main h.small (Nat.le_trans hst (by omega)) h.now h.sure, .inr ⟨rfl, rfl, rfl⟩⟩⟩
    show lastT D.last D.pending bits = _
    rw [h.last, h.pend, last_nil]
  · rw [hV, hE]
    refine ⟨.inr ⟨rfl, rfl⟩, fun bits masks => ?_⟩
    have hl := last_one q D.now.length bits
    have e : ∀ s', lastT (nm q none) [⟨1, [], spareS, D.now.length⟩] bits = nm q s' → lastT { S1 D spareS (sealL text) with down := true }.last { S1 D spareS (sealL text) with down := true }.pending bits = nm q s' := fun s' e => by
      show lastT D.last (D.pending ++ _) bits = _
      rw [h.last, h.pend]
      exact e
    rcases hl with hl | hl
    · exact ⟨q, none, tx, crash_mid q none tx bits masks (e _ hl) h.room (hll _) (hold _) h.small (by show D.steps + 1 ≤ _; omega) hn1 hs0, .inr ⟨rfl, rfl, rfl⟩⟩
    · exact ⟨q, _, tx, crash_mid q _ tx bits masks (e _ hl) h.room (hll _) (hold _) h.small (by show D.steps + 1 ≤ _; omega) hn1 hs0, .inr ⟨rfl, rfl, rfl⟩⟩
  · rw [hV, hE]
    refine ⟨.inr ⟨rfl, rfl⟩, fun bits masks => ?_⟩
    have hl := last_one q D.now.length bits
    have e : ∀ s', lastT (nm q none) [⟨1, [], spareS, D.now.length⟩] bits = nm q s' → lastT { S2 D spareS (sealL text) with down := true }.last { S2 D spareS (sealL text) with down := true }.pending bits = nm q s' := fun s' e => by
      show lastT D.last (D.pending ++ _) bits = _
      rw [h.last, h.pend]
      exact e
    rcases hl with hl | hl
    · exact ⟨q, none, tx, crash_mid q none tx bits masks (e _ hl) h.room (hll _) (hold _) h.small (by show D.steps + 1 + 1 ≤ _; omega) hn1 hs1, .inr ⟨rfl, rfl, rfl⟩⟩
    · exact ⟨q, _, tx, crash_mid q _ tx bits masks (e _ hl) h.room (hll _) (hold _) h.small (by show D.steps + 1 + 1 ≤ _; omega) hn1 hs1, .inr ⟨rfl, rfl, rfl⟩⟩
  · rw [hV, hE]
    refine ⟨.inr ⟨rfl, rfl⟩, fun bits masks => ?_⟩
    have hl := last_two q D.now.length bits
    have e : ∀ q' s', lastT (nm q none) [⟨1, [], spareS, D.now.length⟩, ⟨2, spareS, mainS, 0⟩] bits = nm q' s' → lastT { S3 D mainS spareS (sealL text) with down := true }.last { S3 D mainS spareS (sealL text) with down := true }.pending bits = nm q' s' := fun q' s' e => by
      show lastT D.last (D.pending ++ _ ++ _) bits = _
      rw [h.last, h.pend]
      exact e
    rcases hl with hl | hl | hl
    · exact ⟨q, none, tx, crash_mid q none tx bits masks (e _ _ hl) h.room (hll _) (hold _) h.small (by show D.steps + 1 + 1 + 1 ≤ _; omega) hn1 hs1, .inr ⟨rfl, rfl, rfl⟩⟩
    · exact ⟨q, _, tx, crash_mid q _ tx bits masks (e _ _ hl) h.room (hll _) (hold _) h.small (by show D.steps + 1 + 1 + 1 ≤ _; omega) hn1 hs1, .inr ⟨rfl, rfl, rfl⟩⟩
    · exact ⟨_, _, text, crash_mid _ _ text bits masks (e _ _ hl) h.room (hll _) hnew ht (by show D.steps + 1 + 1 + 1 ≤ _; omega) hn1 hs1, .inl ⟨_, rfl, rfl⟩⟩
  · rw [hV, hE]
    refine ⟨.inl ⟨rfl, h.up, D.now.length, ⟨h.up, rfl, h.room, hll _, hp2, hp2, hnew, ht, by show D.steps + 1 + 1 + 1 + 1 ≤ _; omega, hn1, hs1⟩⟩, fun bits masks => ⟨_, _, text, crash_mid _ none text bits masks ?_ h.room (hll _) hnew ht (by show D.steps + 1 + 1 + 1 + 1 ≤ _; omega) hn1 hs1, .inl ⟨_, rfl, rfl⟩⟩⟩
    show lastT _ [] bits = _
    rw [last_nil]
    exact hp2
theorem MH.load (h : MH k D q s tx) : loadR D mainS = if q.isSome then .tuple #[str tx, .int .i64 0] else .tuple #[.string { data := #[] }, .int .i64 12] := by
  have hf : findN mainS D.names = q := by rw [h.names, find_main]
  cases q with
  | none =>
    have h3 : thereE D mainS = 12 := by simp [thereE, h.up, hf]
    unfold loadR readE
    rw [h3]
    rfl
  | some n =>
    have h3 : thereE D mainS = 0 := by simp [thereE, h.up, hf]
    obtain ⟨_, h2, _⟩ := h.main n rfl
    unfold loadR readE readT
    rw [h3, if_pos rfl, if_pos rfl, hf]
    simp only
    rw [h2, openR_seal _ (by have := h.small; omega)]
    rfl
theorem MH.readT (h : MH k D q s tx) (n : Str) : (readT D n).length < 50000 := by
  unfold Go.Proofs.Ytkbmhghellimcaa.readT
  split
  · split
    · have := getD_le h.now (m := 3028)
      rename_i n _
      have := this n
      omega
    · simp
  · simp
theorem MH.clean (h : MH k D q s tx) (hf : D.fuse = -1) : (cleanR D false [spareS]).1 = 0 ∧ MH (k + 2) (cleanR D false [spareS]).2 q none tx := by
  have hfi : findN spareS D.names = s := by rw [h.names, find_spare]
  have hz : ¬ D.fuse = 0 := by rw [hf]; decide
  cases s with
  | none =>
    have h3 : thereE D spareS = 12 := by simp [thereE, h.up, hfi]
    have e1 : removeE D spareS = 12 := by simp [removeE, h3]
    have e2 : removeD D spareS = D := by simp [removeD, h3]
    simp only [cleanR, e1, e2, Nat.reduceEqDiff, if_false, if_true, Bool.false_eq_true]
    exact ⟨trivial, ⟨h.up, h.pend, h.room, h.len, h.names, h.last, h.main, h.small, Nat.le_trans h.steps (by omega), h.now, h.sure⟩⟩
  | some m =>
    have h3 : thereE D spareS = 0 := by simp [thereE, h.up, hfi]
    have e1 : removeE D spareS = 0 := by simp [removeE, h3, stepE, hf]
    have e2 : removeD D spareS = turnedD (stepD D) ⟨3, spareS, [], 0⟩ := by
      unfold removeD
      rw [if_pos h3, if_neg hz]
    have hd : doT D.names ⟨3, spareS, [], 0⟩ = nm q none := by
      simp only [doT, hfi, Nat.reduceEqDiff, if_false]
      rw [h.names, del_spare]
    have e3 : stepD D = { D with fuse := dec D.fuse, steps := D.steps + 1 } := stepD_go hz
    have hd1 : dec D.fuse = -1 := by rw [hf]; decide
    rw [e3, hd1] at e2
    have hg : ∀ E : DiskS, E = removeD D spareS → (syncDirE E = 0 ∧ syncDirD E = { D with names := nm q none, last := nm q none, pending := [], steps := D.steps + 1 + 1, fuse := -1 }) := by
      rintro E rfl
      rw [e2]
      have hu : (turnedD { D with fuse := -1, steps := D.steps + 1 } ⟨3, spareS, [], 0⟩).down = false := h.up
      have hfz : ¬ (turnedD { D with fuse := -1, steps := D.steps + 1 } ⟨3, spareS, [], 0⟩).fuse = 0 := by
        show ¬ (-1 : Int) = 0
        decide
      refine ⟨?_, ?_⟩
      · unfold syncDirE stepE
        rw [if_neg (by rw [hu]; decide), if_neg hfz]
      · unfold syncDirD
        rw [if_neg (by rw [hu]; decide), if_neg hfz, stepD_go hfz]
        simp only [turnedD, hd]
        rfl
    obtain ⟨g1, g2⟩ := hg _ rfl
    simp only [cleanR, e1, if_true, g1, g2]
    exact ⟨trivial, ⟨h.up, rfl, h.room, h.len, rfl, rfl, h.main, h.small, by have := h.steps; simp only; omega, h.now, h.sure⟩⟩
theorem MH.cleanFine (h : MH k D q s tx) (hk : k ≤ 300) : CleanFine D [spareS] := by
  have h1 := h.bd
  have h2 := h1.remove spareS
  exact ⟨h1.fine (by omega) (by decide) (by omega), h2.fine (by omega) (by decide) (by omega)⟩
theorem wh_start : MH 0 (newD 65536) none none [] where
  up := rfl
  pend := rfl
  room := rfl
  len := rfl
  names := rfl
  last := rfl
  main n e := by simp at e
  small := by simp
  steps := Nat.le_refl _
  now := by simp [newD]
  sure := by simp [newD]
end
end Go.Proofs.Ytkbmhghellimcaa
