/- The plain law of FileOthers. -/
import Derived.Test.YtkbmhghellimcaaSvLaw
import Derived.Test.YtkbmhghellimcaaOpLaw
namespace Go.Proofs.Ytkbmhghellimcaa
open Go.RowKit

def all3 : List Str := [[97], [98], [99]]
def spareS : Str := [115, 112, 97, 114, 101]
def key3 (i : Nat) : Str := all3.getD i []
structure FO (j : Nat) (D : DiskS) (th : List Bool) (tx : List Str) : Prop where
  lth : th.length = 3
  ltx : tx.length = 3
  up : D.down = false
  fuse : D.fuse = -1
  pend : D.pending = []
  room : D.room = 65536
  len : D.sure.length = D.now.length
  keys : Keys D.names
  found : ∀ i, i < 3 → th.getD i false = true → ∃ q, findN (key3 i) D.names = some q ∧ D.now.getD q [] = sealL (tx.getD i [])
  absent : ∀ i, i < 3 → th.getD i false = false → findN (key3 i) D.names = none
  only : ∀ p ∈ D.names, p.1 ∈ all3
  lt : ∀ p ∈ D.names, p.2 < D.now.length
  cnt : D.names.length = (th.filter id).length
  small : ∀ i, (tx.getD i []).length < 3000
  bd : Bd (4 * j) 3028 D
theorem key3_mem (i : Nat) (h : i < 3) : key3 i ∈ all3 := by
  match i, h with
  | 0, _ | 1, _ | 2, _ => decide
theorem key3_inj (i k : Nat) (hi : i < 3) (hk : k < 3) (h : key3 i = key3 k) : i = k := by
  have h1 : i = 0 ∨ i = 1 ∨ i = 2 := by omega
  have h2 : k = 0 ∨ k = 1 ∨ k = 2 := by omega
  rcases h1 with rfl | rfl | rfl <;> rcases h2 with rfl | rfl | rfl <;> first | rfl | exact absurd h (by decide)
theorem key3_spare (i : Nat) (h : i < 3) : key3 i ≠ spareS := by
  match i, h with
  | 0, _ | 1, _ | 2, _ => decide
theorem fo_start : FO 0 (newD 65536) [false, false, false] [[], [], []] where
  lth := rfl
  ltx := rfl
  up := rfl
  fuse := rfl
  pend := rfl
  room := rfl
  len := rfl
  keys := List.Pairwise.nil
  found i hi h := by
    match i, hi with
    | 0, _ | 1, _ | 2, _ => simp at h
  absent i hi h := rfl
  only p hp := by simp [newD] at hp
  lt p hp := by simp [newD] at hp
  cnt := rfl
  small i := by
    match i with
    | 0 | 1 | 2 => simp
    | i + 3 => simp
  bd := ⟨by simp [newD], by simp [newD], by simp [newD], by simp [newD], by simp [newD], by simp [newD]⟩
theorem cnt_set : ∀ (th : List Bool) (k : Nat), k < th.length → ((th.set k true).filter id).length = (th.filter id).length + (if th.getD k false then 0 else 1)
  | [], k, h => by simp at h
  | b :: th, 0, _ => by cases b <;> simp
  | b :: th, k + 1, h => by
    have ih := cnt_set th k (by simpa using h)
    cases b
    · simpa using ih
    · simp at ih ⊢; omega
section
variable {j : Nat} {D : DiskS} {th : List Bool} {tx : List Str}
theorem FO.spare (h : FO j D th tx) : findN spareS D.names = none := by
  cases hf : findN spareS D.names with
  | none => rfl
  | some q => exact absurd (h.only _ (find_mem' hf)) (by show spareS ∉ all3; decide)
theorem FO.few (h : FO j D th tx) : D.names.length ≤ 3 := len_keys h.keys h.only
theorem FO.goes (h : FO j D th tx) (k : Nat) (hk : k < 3) (text : Str) (ht : text.length < 3000) : Goes D (key3 k) spareS text where
  up := h.up
  len := h.len
  okN := by
    match k, hk with
    | 0, _ | 1, _ | 2, _ => decide
  okB := by decide
  ne := key3_spare k hk
  okT := by omega
  new := h.spare
  few := by have := h.few; omega
  room := by
    rw [h.room]
    have h1 := used_le h.bd.now
    have h2 := h.few
    have h3 := length_seal text
    have h4 : D.names.length * 3028 ≤ 3 * 3028 := Nat.mul_le_mul_right _ h2
    omega
theorem FO.step (h : FO j D th tx) (k : Nat) (hk : k < 3) (text : Str) (ht : text.length < 3000) : saveE D (key3 k) spareS text = 0 ∧ FO (j + 1) (saveD D (key3 k) spareS text) (th.set k true) (tx.set k text) := by
  have hg := h.goes k hk text ht
  have hf := h.fuse
  have hd : dec D.fuse = -1 := by rw [hf]; decide
  have hbd := h.bd.save (key3 k) spareS text (by omega)
  rcases hg.cases with ⟨h0, _⟩ | ⟨_, h0, _⟩ | ⟨_, _, h0, _⟩ | ⟨_, _, _, h0, _⟩ | ⟨_, _, _, _, hE, hV⟩
  · rw [hf] at h0; exact absurd h0 (by decide)
  · rw [hd] at h0; exact absurd h0 (by decide)
  · rw [hd] at h0; exact absurd h0 (by decide)
  · rw [hd] at h0; exact absurd h0 (by decide)
  · refine ⟨hE, ?_⟩
    have hns : ∀ s, findN s (putN (key3 k) D.now.length (delN spareS (putN spareS D.now.length D.names))) = if s = key3 k then some D.now.length else if s = spareS then none else findN s D.names := by
      intro s
      rw [findN_putN]
      by_cases e : s = key3 k
      · rw [if_pos e, if_pos e]
      · rw [if_neg e, if_neg e]
        by_cases e2 : s = spareS
        · rw [if_pos e2, e2, findN_delN_same]
        · rw [if_neg e2, findN_delN_other e2, findN_putN, if_neg e2]
    have hk1 : Keys (delN spareS (putN spareS D.now.length D.names)) := (h.keys.put _ _).del _
    rw [hV] at hbd ⊢
    exact {
      lth := by simp [h.lth]
      ltx := by simp [h.ltx]
      up := h.up
      fuse := by
        show dec (dec (dec (dec D.fuse))) = -1
        rw [hd]
        decide
      pend := rfl
      room := h.room
      len := by show (D.sure ++ [_]).length = (D.now ++ [_]).length; simp [h.len]
      keys := hk1.put _ _
      found := fun i hi hth => by
        show ∃ q, findN (key3 i) (putN (key3 k) D.now.length (delN spareS (putN spareS D.now.length D.names))) = some q ∧ (D.now ++ [sealL text]).getD q [] = sealL ((tx.set k text).getD i [])
        rw [hns]
        by_cases e : i = k
        · subst e
          rw [if_pos rfl]
          exact ⟨_, rfl, by simp [h.ltx, hi]⟩
        · have hne : key3 i ≠ key3 k := fun e2 => e (key3_inj i k hi hk e2)
          rw [if_neg hne, if_neg (key3_spare i hi)]
          have hth' : th.getD i false = true := by
            rw [List.getD_eq_getElem?_getD, List.getElem?_set_ne (fun e2 => e e2.symm), ← List.getD_eq_getElem?_getD] at hth
            exact hth
          obtain ⟨q, h1, h2⟩ := h.found i hi hth'
          have hq : q < D.now.length := h.lt _ (find_mem' h1)
          refine ⟨q, h1, ?_⟩
          rw [List.getD_eq_getElem?_getD, List.getElem?_append_left hq, ← List.getD_eq_getElem?_getD, h2, List.getD_eq_getElem?_getD (l := tx.set k text), List.getElem?_set_ne (fun e2 => e e2.symm), ← List.getD_eq_getElem?_getD]
      absent := fun i hi hth => by
        show findN (key3 i) (putN (key3 k) D.now.length (delN spareS (putN spareS D.now.length D.names))) = none
        rw [hns]
        by_cases e : i = k
        · subst e
          simp [h.lth, hi] at hth
        · have hne : key3 i ≠ key3 k := fun e2 => e (key3_inj i k hi hk e2)
          rw [if_neg hne, if_neg (key3_spare i hi)]
          rw [List.getD_eq_getElem?_getD, List.getElem?_set_ne (fun e2 => e e2.symm), ← List.getD_eq_getElem?_getD] at hth
          exact h.absent i hi hth
      only := fun p hp => by
        have hp' : p ∈ putN (key3 k) D.now.length (delN spareS (putN spareS D.now.length D.names)) := hp
        rcases mem_putN hp' with rfl | hp'
        · exact key3_mem k hk
        · obtain ⟨h1, h2⟩ := List.mem_filter.1 hp'
          rcases mem_putN h1 with rfl | h1
          · simp at h2
          · exact h.only p h1
      lt := fun p hp => by
        have hp' : p ∈ putN (key3 k) D.now.length (delN spareS (putN spareS D.now.length D.names)) := hp
        show p.2 < (D.now ++ [sealL text]).length
        rw [List.length_append, List.length_singleton]
        rcases mem_putN hp' with rfl | hp'
        · simp
        · obtain ⟨h1, h2⟩ := List.mem_filter.1 hp'
          rcases mem_putN h1 with rfl | h1
          · simp
          · have := h.lt p h1; omega
      cnt := by
        show (putN (key3 k) D.now.length (delN spareS (putN spareS D.now.length D.names))).length = _
        rw [cnt_set th k (by rw [h.lth]; exact hk), len_putN hk1]
        have l1 := len_delN (s := spareS) (h.keys.put spareS D.now.length)
        have l2 := len_putN (s := spareS) (n := D.now.length) h.keys
        rw [h.spare] at l2
        rw [findN_putN, if_pos rfl] at l1
        have e3 : findN (key3 k) (delN spareS (putN spareS D.now.length D.names)) = findN (key3 k) D.names := by
          rw [findN_delN_other (key3_spare k hk), findN_putN, if_neg (key3_spare k hk)]
        rw [e3]
        simp at l1 l2
        have hb : (findN (key3 k) D.names).isSome = th.getD k false := by
          cases hth : th.getD k false with
          | true => obtain ⟨q, h1, _⟩ := h.found k hk hth; rw [h1]; rfl
          | false => rw [h.absent k hk hth]; rfl
        rw [hb]
        have := h.cnt
        omega
      small := fun i => by
        by_cases e : i = k
        · subst e
          by_cases hi : i < tx.length
          · simp [hi]; omega
          · rw [List.set_eq_of_length_le (by omega)]; exact h.small i
        · rw [List.getD_eq_getElem?_getD, List.getElem?_set_ne (fun e2 => e e2.symm), ← List.getD_eq_getElem?_getD]
          exact h.small i
      bd := hbd }
/-- What a Load finds. -/
theorem FO.load (h : FO j D th tx) (i : Nat) (hi : i < 3) (ht : th.getD i false = true) : loadR D (key3 i) = .tuple #[str (tx.getD i []), .int .i64 0] := by
  obtain ⟨q, h1, h2⟩ := h.found i hi ht
  have h3 : thereE D (key3 i) = 0 := by simp [thereE, h.up, h1]
  unfold loadR readE readT
  rw [h3, if_pos rfl, if_pos rfl, h1]
  simp only
  rw [h2, openR_seal _ (by have := h.small i; omega)]
theorem FO.load_spare (h : FO j D th tx) : loadR D spareS = .tuple #[.string { data := #[] }, .int .i64 12] := by
  have h3 : thereE D spareS = 12 := by simp [thereE, h.up, h.spare]
  unfold loadR readE
  rw [h3]
  rfl
theorem FO.names (h : FO j D th tx) : (namesD D).length = (th.filter id).length := by
  unfold namesD
  rw [h.up]
  simp [h.cnt]
theorem FO.readT (h : FO j D th tx) (s : Str) : (readT D s).length < 50000 := by
  unfold Go.Proofs.Ytkbmhghellimcaa.readT
  split
  · split
    · have := getD_le h.bd.now (m := 3028)
      rename_i n _
      have := this n
      omega
    · simp
  · simp
end
end Go.Proofs.Ytkbmhghellimcaa
