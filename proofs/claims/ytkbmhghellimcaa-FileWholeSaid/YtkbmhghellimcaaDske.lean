/- The walk of (*Disk).Used: a sum over a map. -/
import Derived.Test.YtkbmhghellimcaaDskd
namespace Go.Proofs.Ytkbmhghellimcaa
open Go.RowKit
open Go.Maps (Keyed)
attribute [local go_sem] size_str get_str

def sumBut (now : List Str) (left : Lit → Bool) : Names → Nat
  | [] => 0
  | p :: r => (if left (.string p.1) then 0 else (now.getD p.2 []).length) + sumBut now left r
theorem sum_none (now : List Str) (left : Lit → Bool) : ∀ l : Names, (∀ p ∈ l, left (.string p.1) = true) → sumBut now left l = 0
  | [], _ => rfl
  | p :: r, h => by
    rw [sumBut, if_pos (h p (by simp)), sum_none now left r (fun q hq => h q (by simp [hq]))]
theorem sum_all (now : List Str) (left : Lit → Bool) (h : ∀ kl, left kl = false) : ∀ l : Names, sumBut now left l = (l.map fun p => (now.getD p.2 []).length).sum
  | [] => rfl
  | p :: r => by
    rw [sumBut, if_neg (by rw [h]; decide), sum_all now left h r]
    simp
theorem sum_same (now : List Str) (left : Lit → Bool) (x : Str) : ∀ l : Names, (∀ p ∈ l, p.1 ≠ x) → sumBut now (fun z => left z && !z.sameKey (.string x)) l = sumBut now left l
  | [], _ => rfl
  | p :: r, h => by
    have hne : (Lit.string p.1).sameKey (.string x) = false := by
      show (p.1 == x) = false
      rw [beq_eq_false_iff_ne]
      exact h p (by simp)
    rw [sumBut, sumBut, sum_same now left x r (fun q hq => h q (by simp [hq])), hne]
    simp
theorem sum_step (now : List Str) (left : Lit → Bool) (x : Str) (i : Nat) (hl : left (.string x) = true) : ∀ l : Names, l.Pairwise (fun p q => p.1 ≠ q.1) → findN x l = some i → sumBut now (fun z => left z && !z.sameKey (.string x)) l = sumBut now left l + (now.getD i []).length
  | [], _, h => by simp [findN] at h
  | p :: r, hp, h => by
    obtain ⟨h1, h2⟩ := List.pairwise_cons.1 hp
    by_cases e : p.1 = x
    · have hi : p.2 = i := by
        simp [findN, e] at h
        exact h
      subst e
      have hs : (Lit.string p.1).sameKey (.string p.1) = true := by show (p.1 == p.1) = true; simp
      rw [sumBut, sumBut, sum_same now left p.1 r (fun q hq => (h1 q hq).symm), hs, hl, hi]
      simp
      omega
    · have hne : (Lit.string p.1).sameKey (.string x) = false := by show (p.1 == x) = false; simpa using e
      have hf : findN x r = some i := by
        simpa [findN, e] using h
      rw [sumBut, sumBut, sum_step now left x i hl r h2 hf, hne]
      simp
      omega
theorem sum_le (now : List Str) (left : Lit → Bool) : ∀ l : Names, sumBut now left l ≤ (l.map fun p => (now.getD p.2 []).length).sum
  | [] => Nat.le_refl _
  | p :: r => by
    have := sum_le now left r
    rw [sumBut]
    simp only [List.map_cons, List.sum_cons]
    split <;> omega
theorem names_pairwise {w : World} {b n : Nat} {f : Nat → Value} {l : Names} (h : w.ownsMap Try.prog 9 raw b n (mapD f l)) : l.Pairwise (fun p q => p.1 ≠ q.1) := by
  obtain ⟨es, he, hp, _⟩ := h.entries keyed
  have : es = l.map (fun p => (Lit.string p.1, DataW.held (f p.2))) := by injection he with he; exact he.symm
  rw [this, List.pairwise_map] at hp
  exact hp.imp (fun {p q} hne e => hne (by rw [e]))

set_option maxRecDepth 100000 in
set_option maxHeartbeats 800000 in
theorem used_any (w : World) (L : Lay) (D : DiskS) (h : DiskAt w L D) (hu : usedD D < 1000000000) :
    Calls Try.prog 51 #[.pointer (some ⟨L.p, 0, none⟩)] w fun e w' => e = .returned (.int .i64 (usedD D)) ∧ Only (fun _ => False) w w' := by
  have c1 : w.cell? ⟨L.p, 1, none⟩ = some (.map (some L.mn)) := h.blk.cell 1
  have HN := Lib.hid h.names
  have HK : Hid (∀ i, i < L.bs.length → Blk w (L.bs.getD i 0) 79 #[str (D.now.getD i []), str (D.sure.getD i [])]) := Lib.hid h.nodes
  have HI : Hid (∀ x i, findN x D.names = some i → i < L.bs.length) := Lib.hid (fun x i hf => by obtain ⟨p, hp, rfl⟩ := find_mem hf; have := h.ok.names p hp; rw [h.nlen]; exact this)
  have HP := Lib.hid (names_pairwise h.names)
  have HU := Lib.hid hu
  have HE := Lib.hid (show usedD D = (D.names.map fun p => (D.now.getD p.2 []).length).sum from rfl)
  obtain ⟨NW, hNW⟩ : ∃ x, x = D.now := ⟨_, rfl⟩
  obtain ⟨SU, hSU⟩ : ∃ x, x = D.sure := ⟨_, rfl⟩
  obtain ⟨NM, hNM⟩ : ∃ x, x = D.names := ⟨_, rfl⟩
  rw [← hNW, ← hSU] at HK
  rw [← hNW, ← hNM] at HE
  rw [← hNM] at HI HP HN
  obtain ⟨U, hU⟩ : ∃ x, x = usedD D := ⟨_, rfl⟩
  rw [← hU] at HE HU ⊢
  clear h hu hNW hNM hU hSU
  go_enter Try.func51, Try.ntmps51
  go_wp2_with (at_range; refine wpList_range_own _ rfl _ 61 rfl 9 73 keyed Try.underlying61 _ L.mn _ _ rfl HN.out ?_; intro w0 hrg0 hg0 hs0)
  go_frame
  have ho0 : Only (fun _ => False) w w0 := (Only.refl _ _).grown hg0 (fun _ e => by cases e)
  have HS0 := Lib.hid hs0
  clear hs0 hg0 c1
  go_loopw [3, 5] (fun u _ wr => ∃ left cnt, u = .int .i64 (sumBut NW left NM) ∧ wr.ranges Try.prog 9 raw L.mn w.heap.size NM.length (mapD (nodeV L.bs) NM) left cnt ∧ Only (fun _ => False) w wr) (fun _ _ wr => wr.rangeLeft L.mn w.heap.size)
  case atStart =>
    refine ⟨_, _, ?_, hrg0, ho0⟩
    rw [sum_none]
    · rfl
    · intro p hp
      rw [has_mapD]
      unfold findN
      rw [Option.isSome_map, List.find?_isSome]
      exact ⟨p, hp, by simp⟩
  case round =>
    clear hrg0 ho0
    obtain ⟨left, cnt, rfl, hrg, ho⟩ := hrel
    have hsl := sum_le NW left NM
    rw [← HE.out] at hsl
    have hU9 := HU.out
    have hU0 : (0 : Int) ≤ (sumBut NW left NM : Int) := Int.natCast_nonneg _
    have hU1 : (sumBut NW left NM : Int) < 1000000000 := by omega
    go_wp2_with (at_next; refine wpList_next_ranges _ rfl _ rfl 9 keyed raw encStr id (fun key kl hk => by obtain ⟨x, hx, _⟩ := Maps.keyOf_str Try.underlying9 hk; exact ⟨x, hx⟩) (fun v y _ => ⟨v, rfl⟩) L.mn w.heap.size _ _ _ _ rfl hrg ?_ ?_)
    · intro _ hl0
      go_wp2
      go_ret
      refine ⟨?_, ho⟩
      rw [sum_all _ _ hl0, ← HE.out]
      rfl
    · intro x c kl yd yp w1 cnt1 hkey hlk hv hat hrg1 hlt hg1 hs1 hen
      obtain ⟨x', ex, rfl, _⟩ := Maps.keyOf_str Try.underlying9 hkey
      obtain rfl : x = x' := encStr_inj ex
      clear hs1 ex
      obtain ⟨rfl, rfl⟩ : yd = .held c ∧ yp = [] := by simpa [raw, eq_comm] using hv
      have hat2 := hat (.held (.pointer none))
      have hhas : Maps.has (mapD (nodeV L.bs) NM) (.string x) = true := Maps.has_true_of_atKey hat
      rw [has_mapD] at hhas
      obtain ⟨i, hfi⟩ := Option.isSome_iff_exists.1 hhas
      rw [atKey_mapD, hfi] at hat2
      obtain rfl : nodeV L.bs i = c := by simpa using hat2
      have hi := HI.out x i hfi
      have hsum := sum_step NW left x i hlk NM HP.out hfi
      have hsl2 := sum_le NW (fun z => left z && !z.sameKey (.string x)) NM
      rw [← HE.out] at hsl2
      have ho1 : Only (fun _ => False) w w1 := ho.grown hg1 (fun k hk => .inr (by injection hk with hk; omega))
      have hnode := (HK.out i hi).only ho1 id
      have cN : w1.cell? ⟨L.bs.getD i 0, 0, none⟩ = some (str (NW.getD i [])) := hnode.cell 0
      have hb2 : (sumBut NW left NM : Int) + ((NW.getD i []).length : Int) < 1000000000 := by omega
      clear hnode
      generalize NW.getD i [] = tx at hsum cN hb2
      have HSum := Lib.hid hsum
      clear hsum hsl2 hat hat2 hhas hv hkey
      have hnv : nodeV L.bs i = .pointer (some ⟨L.bs.getD i 0, 0, none⟩) := rfl
      rw [hnv] at hen ⊢
      clear hnv
      generalize L.bs.getD i 0 = nb at hen cN ⊢
      go_wp2
      go_roundw
      case rel =>
        refine ⟨_, _, ?_, hrg1, ho1⟩
        rw [HSum.out]
        simp
      case measure =>
        rw [hrg1.left_eq, hrg.left_eq]
        exact hlt
end Go.Proofs.Ytkbmhghellimcaa
