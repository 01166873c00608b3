/- The walk of FileWhole. -/
import Derived.Test.YtkbmhghellimcaaCleanW
import Derived.Test.YtkbmhghellimcaaArgsl
namespace Go.Proofs.Ytkbmhghellimcaa
open Go.RowKit
attribute [local go_sem] size_str get_str

theorem Lst.below {w w' : World} {A : Option Addr} {xs : List Value} (h : Lst w A xs) (hb : Below w.heap.size w w') : Lst w' A xs := h.only (S := fun _ => False) (Only.of_below hb) (fun _ _ => id)
theorem Lst.lt {w : World} {A : Option Addr} {xs : List Value} (h : Lst w A xs) (hx : xs ≠ []) : ∀ a, A = some a → a.block < w.heap.size := fun a ha => by
  rcases h with h | ⟨b, o, rfl, hb, _⟩
  · exact absurd h hx
  · obtain rfl := Option.some.inj ha
    exact hb
/-- What a crash is given: the row's, or nothing. -/
structure Given {α : Type} (w : World) (f : α → Value) (A : Option Addr) (c : Nat) (xs : List α) : Prop where
  at_ : Lst w A (xs.map f)
  cap : xs.length ≤ c
  len : xs.length ≤ 9223372036854775807
theorem Given.nil {α : Type} (w : World) (f : α → Value) : Given w f none 0 [] := ⟨.inl rfl, Nat.le_refl _, by simp⟩
theorem Given.row {α : Type} {w : World} {f : α → Value} {r : RowS α} (h : RowOk w f r) : Given w f r.A r.c r.xs := ⟨h.at_, h.cap, by have := h.len; unfold maxLen at this; exact this⟩
theorem row_at {α : Type} {w : World} {A : Option Addr} {l : List (RowS α)} (h : Lst w A (l.map rowV)) {k : Nat} (hk : k < l.length) : ∃ b o, A = some ⟨b, o, none⟩ ∧ w.cell? ⟨b, o + k, none⟩ = some (.slice l[k].A l[k].xs.length l[k].c) := h.at_ (by simp [hk, rowV])
theorem crash_given {K : Nat → Prop} {p : Nat} {w0 w wb : World} {D : DiskS} (h : DFrom K w0 wb p D) {An As : Option Addr} {cn cs : Nat} {bn : List Bool} {sn : List Nat} (gn : Given w Value.bool An cn bn) (gs : Given w u64V As cs sn) (hs64 : ∀ n ∈ sn, n < 18446744073709551616) (hb : Below w.heap.size w wb) (hK : ∀ b, b < w.heap.size → K b) (hF : Fine D) :
    Calls Try.prog 18 #[.pointer (some ⟨p, 0, none⟩), .slice An bn.length cn, .slice As sn.length cs] wb fun e w' => e = .returned (.tuple #[]) ∧ DFrom K w0 w' p (crashD D bn sn) :=
  crash_from h An As cn cs bn sn (gn.at_.below hb) (gs.at_.below hb) gn.cap gs.cap hs64 gn.len gs.len (fun hne a ha => hK _ (gn.at_.lt (by simpa using hne) a ha)) (fun hne a ha => hK _ (gs.at_.lt (by simpa using hne) a ha)) hF

set_option maxRecDepth 100000 in
set_option maxHeartbeats 3200000 in
theorem whole_walk (w : World) (v : Value) (xs : List ActS) (hx : Acts w v xs) (hok : ∀ y ∈ xs, ActOk y) (hxl : xs.length ≤ maxLen)
    (rn : RowS (RowS Bool)) (hrn : RowOk w rowV rn) (hbn : ∀ y ∈ rn.xs, RowOk w Value.bool y) (rs : RowS (RowS Nat)) (hrs : RowOk w rowV rs) (hbs : ∀ y ∈ rs.xs, RowOk w u64V y ∧ ∀ n ∈ y.xs, n < 18446744073709551616) :
    Calls Try.prog 5 #[v, rowV rn, rowV rs] w fun e w' => e = .returned (.bool true) ∧ Below w.heap.size w w' := by
  obtain ⟨A, c, hv, hc, hA⟩ := id hx
  have HX := Lib.hid hx
  have HOK := Lib.hid hok
  have Hv := Lib.hid hv
  have hlen : xs.length ≤ 9223372036854775807 := by unfold maxLen at hxl; exact hxl
  have hlenN : rn.xs.length ≤ 9223372036854775807 := by have := hrn.len; unfold maxLen at this; exact this
  have hlenS : rs.xs.length ≤ 9223372036854775807 := by have := hrs.len; unfold maxLen at this; exact this
  have HRN := Lib.hid hrn
  have HBN := Lib.hid hbn
  have HRS := Lib.hid hrs
  have HBS := Lib.hid hbs
  rw [hv]
  clear hx hok hv hA hxl hrn hbn hrs hbs
  obtain ⟨nxs, nA, nc⟩ := rn
  obtain ⟨sxs, sA, sc⟩ := rs
  simp only at HRN HBN HRS HBS hlenN hlenS
  show Calls _ _ #[_, .slice nA nxs.length nc, .slice sA sxs.length sc] _ _
  by_cases c1 : xs.length ≤ 8
  case neg =>
    have c1' : (8 : Int) < xs.length := by omega
    clear c1
    go_enter Try.func5, Try.ntmps5
    go_wp2_with (go_at_call 6; refine (awake14 _).mono ?_; rintro e w1 ⟨rfl, hb1⟩)
    go_ret
    exact ⟨rfl, hb1⟩
  by_cases c2 : nxs.length ≤ 8
  case neg =>
    have c1' : (xs.length : Int) ≤ 8 := by omega
    have c2' : (8 : Int) < nxs.length := by omega
    clear c1 c2
    go_enter Try.func5, Try.ntmps5
    go_wp2_with (go_at_call 6; refine (awake14 _).mono ?_; rintro e w1 ⟨rfl, hb1⟩)
    go_ret
    exact ⟨rfl, hb1⟩
  by_cases c3 : sxs.length ≤ 8
  case neg =>
    have c1' : (xs.length : Int) ≤ 8 := by omega
    have c2' : (nxs.length : Int) ≤ 8 := by omega
    have c3' : (8 : Int) < sxs.length := by omega
    clear c1 c2 c3
    go_enter Try.func5, Try.ntmps5
    go_wp2_with (go_at_call 6; refine (awake14 _).mono ?_; rintro e w1 ⟨rfl, hb1⟩)
    go_ret
    exact ⟨rfl, hb1⟩
  have c1' : (xs.length : Int) ≤ 8 := by omega
  have c2' : (nxs.length : Int) ≤ 8 := by omega
  have c3' : (sxs.length : Int) ≤ 8 := by omega
  clear hlen hlenN hlenS c2 c3
  go_enter Try.func5, Try.ntmps5
  go_wp2_with (go_at_call 6; refine (awake14 _).mono ?_; rintro e w1 ⟨rfl, hb1⟩)
  refine (new_from w1 w1 (· < w.heap.size) 65536 (by decide) (Only.refl _ _) (fun b h => by have := hb1.size; omega)).mono ?_
  rintro e w2 ⟨p, rfl, h2⟩
  go_wp2
  have hb2 : Below w.heap.size w w2 := hb1.trans (h2.toBelow hb1.size)
  have h2 := h2.now
  clear hb1
  go_loopw [40, 9, 10] (fun ix nw th wr => ∃ (j : Nat) (D : DiskS) (q : Option Nat) (tx : Str), j ≤ xs.length ∧ ix = .int .i64 j ∧ nw = str tx ∧ th = .bool q.isSome ∧ (q = none → tx = []) ∧ MH (6 * j) D q none tx ∧ DFrom (· < w.heap.size) wr wr p D ∧ Below w.heap.size w wr) (fun ix _ _ _ => xs.length - (intOf ix).toNat)
  case atStart => exact ⟨0, _, none, [], Nat.zero_le _, rfl, rfl, rfl, fun _ => rfl, wh_start, h2, hb2⟩
  case round =>
    clear h2 hb2
    obtain ⟨j, D, q, tx, hj, rfl, rfl, rfl, hq0, hMH, hD, hbl⟩ := hrel
    obtain ⟨bq, hbq⟩ : ∃ b, q.isSome = b := ⟨_, rfl⟩
    rw [hbq]
    have HBQ := Lib.hid hbq
    clear hbq
    by_cases hjl : j < xs.length
    · obtain ⟨a, c', hva, _, hca⟩ := HX.out.at_ hbl hjl
      rw [Hv.out] at hva
      obtain ⟨rfl, rfl⟩ : A = some a ∧ c = c' := by simpa using hva
      have hxo := HOK.out xs[j] (List.getElem_mem _)
      obtain ⟨x, hxe⟩ : ∃ x, xs[j] = x := ⟨_, rfl⟩
      rw [hxe] at hca hxo
      have p0 : wr.cell? (a.add (j * 6)) = some (str x.a) := hca 0 _ rfl
      have p1 : wr.cell? ⟨(a.add (j * 6)).block, (a.add (j * 6)).off + 1, none⟩ = some (str x.by_) := (addr_next _ _ 1 (by decide)) ▸ hca 1 _ rfl
      have p2 : wr.cell? ⟨(a.add (j * 6)).block, (a.add (j * 6)).off + 2, none⟩ = some (.int .u16 x.n) := (addr_next _ _ 2 (by decide)) ▸ hca 2 _ rfl
      have p3 : wr.cell? ⟨(a.add (j * 6)).block, (a.add (j * 6)).off + 3, none⟩ = some (.int .u8 x.b.toNat) := (addr_next _ _ 3 (by decide)) ▸ hca 3 _ rfl
      have p4 : wr.cell? ⟨(a.add (j * 6)).block, (a.add (j * 6)).off + 4, none⟩ = some (.bool x.clean) := (addr_next _ _ 4 (by decide)) ▸ hca 4 _ rfl
      have p5 : wr.cell? ⟨(a.add (j * 6)).block, (a.add (j * 6)).off + 5, none⟩ = some (.int .i8 x.fuse) := (addr_next _ _ 5 (by decide)) ▸ hca 5 _ rfl
      clear hva hca hxe
      have htl : (actT x).length < 3000 := by
        simp only [actT, List.length_replicate]
        omega
      have hm1 := hMH.fuse x.fuse
      have HSv := Lib.hid (hm1.save (actT x) htl)
      have HSF := Lib.hid (hm1.bd.saveFine mainS spareS (actT x) (by omega) (by omega) (by omega) (by omega))
      have HPF := Lib.hid ((hm1.bd.save mainS spareS (actT x) (by omega)).fine (by omega) (by omega) (by omega))
      have HQ0 := Lib.hid hq0
      have HXO := Lib.hid hxo
      have f1 := hxo.f1
      have f2 := hxo.f2
      have HA := Lib.hid (show #[str x.a, str x.by_, .int .u16 x.n, .int .u8 x.b.toNat, .bool x.clean, .int .i8 x.fuse] = actC x from rfl)
      have HD6 := Lib.hid (hD.guard (.cells #[str x.a, str x.by_, .int .u16 x.n, .int .u8 x.b.toNat, .bool x.clean, .int .i8 x.fuse] 40))
      have B6 := Blk.new wr 40 #[str x.a, str x.by_, .int .u16 x.n, .int .u8 x.b.toNat, .bool x.clean, .int .i8 x.fuse]
      have b6 := Lib.hid (hbl.alloc hbl.size (.cells #[str x.a, str x.by_, .int .u16 x.n, .int .u8 x.b.toNat, .bool x.clean, .int .i8 x.fuse] 40))
      clear hq0 hMH hm1 hD hbl hxo
      have q5 : (wr.alloc (.cells #[str x.a, str x.by_, .int .u16 x.n, .int .u8 x.b.toNat, .bool x.clean, .int .i8 x.fuse] 40)).cell? ⟨wr.heap.size, 5, none⟩ = some (.int .i8 x.fuse) := B6.cell 5
      go_wp2_with fail
      refine (fuse_from HD6.out x.fuse (by omega) (by omega)).mono ?_
      rintro e w7 ⟨rfl, hd7⟩
      have B7 := B6.only hd7.only (fun e => e (.inr rfl))
      have q0 : w7.cell? ⟨wr.heap.size, 0, none⟩ = some (str x.a) := B7.cell 0
      have q1 : w7.cell? ⟨wr.heap.size, 1, none⟩ = some (str x.by_) := B7.cell 1
      have q2 : w7.cell? ⟨wr.heap.size, 2, none⟩ = some (.int .u16 x.n) := B7.cell 2
      have q3 : w7.cell? ⟨wr.heap.size, 3, none⟩ = some (.int .u8 x.b.toNat) := B7.cell 3
      have q4 : w7.cell? ⟨wr.heap.size, 4, none⟩ = some (.bool x.clean) := B7.cell 4
      have q5' : w7.cell? ⟨wr.heap.size, 5, none⟩ = some (.int .i8 x.fuse) := B7.cell 5
      have HD7 := Lib.hid hd7
      clear p0 p1 p2 p3 p4 p5 q5 hd7 HD6
      go_wp2_with fail
      rw [HA.out]
      refine (acttext_any _ x HXO.out.n).mono ?_
      rintro e w8 ⟨rfl, hb8⟩
      have HD8 := Lib.hid (HD7.out.below hb8)
      have B8 := B7.below hb8 B7.lt
      clear q0 q1 q2 q3 q4 q5' hb8 B7 HD7
      go_wp2_with fail
      refine (save_from HD8.out mainS spareS (actT x) (by decide) (by decide) (by omega) HSF.out).mono ?_
      rintro e w9 ⟨rfl, hd9⟩
      have HO9 := Lib.hid hd9.only
      have B9 := B6.only hd9.only (fun e => e (.inr rfl))
      have HD9 := Lib.hid hd9
      have q4 : w9.cell? ⟨wr.heap.size, 4, none⟩ = some (.bool x.clean) := B9.cell 4
      clear hd9 HD8 B8 HSF
      have bw9 := Lib.hid (Below.only_trans b6.out HO9.out b6.out.size (fun i hi => Nat.le_of_not_lt (fun hc => hi (.inl hc))))
      obtain ⟨hS1, hS2⟩ := HSv.out
      clear HSv HXO HA HO9 f1 f2 B9 B6
      generalize saveE (fuseD D x.fuse) mainS spareS (actT x) = E at hS1 hS2 ⊢
      generalize saveD (fuseD D x.fuse) mainS spareS (actT x) = D1 at hS1 hS2 HPF HD9 ⊢
      generalize actT x = text at hS1 hS2 htl ⊢
      have HCr := Lib.hid hS2
      clear hS2
      rcases hS1 with ⟨rfl, hdn, n0, hM⟩ | ⟨rfl, hdn⟩
      · have HDn := Lib.hid (down_from HD9.out)
        rw [hdn] at HDn
        have HM := Lib.hid hM
        clear hdn hM HQ0
        go_wp2_with fail
        refine HDn.out.mono ?_
        rintro e w10 ⟨rfl, rfl⟩
        clear HDn
        cases hcl : x.clean with
        | false =>
          rw [hcl] at q4
          clear hcl
          go_wp2_with fail
          have HZ := HD9
          refine (fuse_from HZ.out (-1) (by decide) (by decide)).mono ?_; rintro e wa ⟨rfl, ha⟩; have HMa := Lib.hid (HM.out.fuse (-1)); have HL := Lib.hid (load_from ha mainS (by decide) (HMa.out.readT _)); rw [HMa.out.load] at HL; have HCl := Lib.hid (HMa.out.clean rfl); have HCF := Lib.hid (HMa.out.cleanFine (by omega)); clear ha
          simp only [Option.isSome_some, if_true] at HL
          go_wp2_with fail
          refine HL.out.mono ?_; rintro e wb ⟨rfl, _, hb⟩; have HB := Lib.hid hb; clear hb HL
          go_wp2_with fail
          refine (clean_from (l := [spareS]) ((HB.out.guard (.cells #[.string { data := #[115, 112, 97, 114, 101] }] 9))) _ _ (.inr ⟨_, _, rfl, by simp, fun j u hj => by (match j, hj with | 0, hj => (obtain rfl := Option.some.inj hj; exact (Blk.new wb 9 #[.string { data := #[115, 112, 97, 114, 101] }]).cell 0))⟩) (by decide) (fun a ha => by (obtain rfl := Option.some.inj ha; exact .inr rfl)) (by decide) (by decide) HCF.out).mono ?_; rw [HCl.out.1]; rintro e wc ⟨rfl, hc⟩; have HC := Lib.hid hc; clear hc
          go_wp2
          go_roundw
          case rel => exact ⟨j + 1, _, some n0, text, by omega, by go_num, rfl, rfl, (fun h => by cases h), (by rw [show 6 * (j + 1) = 6 * j + 4 + 2 by omega]; exact HCl.out.2), HC.out.weaken (fun b e => .inl (.inl e)), (by have g1 := Below.only_trans b6.out HB.out.only b6.out.size (fun i hi => Nat.le_of_not_lt (fun hc => hi (.inl hc))); have g2 := g1.alloc g1.size (.cells #[.string { data := #[115, 112, 97, 114, 101] }] 9); exact Below.only_trans g2 HC.out.only g2.size (fun i hi => Nat.le_of_not_lt (fun hc => hi (.inl (.inl hc)))))⟩
          case measure => simp [intOf]; omega
        | true =>
          rw [hcl] at q4
          clear hcl HM
          by_cases hn : j < nxs.length
          · obtain ⟨nb, no, rfl, hnc⟩ := row_at HRN.out.at_ hn; have hnc9 := (bw9.out.cell (World.block_lt_of_cell? w _ hnc)).trans hnc; have Gn := Given.row (HBN.out _ (List.getElem_mem hn)); obtain ⟨y, hy⟩ : ∃ y, nxs[j] = y := ⟨_, rfl⟩; rw [hy] at hnc9 Gn; obtain ⟨bxs, bA, bc⟩ := y; simp only at hnc9 Gn; have Gn := Lib.hid Gn; clear hnc hy
            by_cases hs : j < sxs.length
            · obtain ⟨sb, so, rfl, hsc⟩ := row_at HRS.out.at_ hs; have hsc9 := (bw9.out.cell (World.block_lt_of_cell? w _ hsc)).trans hsc; have Gs := Given.row (HBS.out _ (List.getElem_mem hs)).1; have H64 := (HBS.out _ (List.getElem_mem hs)).2; obtain ⟨y, hy⟩ : ∃ y, sxs[j] = y := ⟨_, rfl⟩; rw [hy] at hsc9 Gs H64; obtain ⟨mxs, mA, mc⟩ := y; simp only at hsc9 Gs H64; have Gs := Lib.hid Gs; have H64 := Lib.hid H64; clear hsc hy
              go_wp2_with fail
              obtain ⟨q', s', tx', hM, hcase⟩ := HCr.out bxs mxs
              refine (crash_given HD9.out Gn.out Gs.out H64.out bw9.out (fun b h => .inl h) HPF.out).mono ?_; rintro e wd ⟨rfl, hd⟩; have HZ := Lib.hid hd; clear hd Gn Gs H64
              have HM := Lib.hid hM
              clear hM HCr HPF HD9 q4 hnc9 hsc9
              rcases hcase with ⟨n1, rfl, rfl⟩ | ⟨h, _⟩
              · go_wp2_with fail
                refine (fuse_from HZ.out (-1) (by decide) (by decide)).mono ?_; rintro e wa ⟨rfl, ha⟩; have HMa := Lib.hid (HM.out.fuse (-1)); have HL := Lib.hid (load_from ha mainS (by decide) (HMa.out.readT _)); rw [HMa.out.load] at HL; have HCl := Lib.hid (HMa.out.clean rfl); have HCF := Lib.hid (HMa.out.cleanFine (by omega)); clear ha
                simp only [Option.isSome_some, if_true] at HL
                go_wp2_with fail
                refine HL.out.mono ?_; rintro e wb ⟨rfl, _, hb⟩; have HB := Lib.hid hb; clear hb HL
                go_wp2_with fail
                refine (clean_from (l := [spareS]) ((HB.out.guard (.cells #[.string { data := #[115, 112, 97, 114, 101] }] 9))) _ _ (.inr ⟨_, _, rfl, by simp, fun j u hj => by (match j, hj with | 0, hj => (obtain rfl := Option.some.inj hj; exact (Blk.new wb 9 #[.string { data := #[115, 112, 97, 114, 101] }]).cell 0))⟩) (by decide) (fun a ha => by (obtain rfl := Option.some.inj ha; exact .inr rfl)) (by decide) (by decide) HCF.out).mono ?_; rw [HCl.out.1]; rintro e wc ⟨rfl, hc⟩; have HC := Lib.hid hc; clear hc
                go_wp2
                go_roundw
                case rel => exact ⟨j + 1, _, (some n1), _, by omega, by go_num, rfl, rfl, (fun h => by first | rfl | cases h), (by rw [show 6 * (j + 1) = 6 * j + 4 + 2 by omega]; exact HCl.out.2), HC.out.weaken (fun b e => .inl (.inl e)), (by have g1 := Below.only_trans b6.out HB.out.only b6.out.size (fun i hi => Nat.le_of_not_lt (fun hc => hi (.inl hc))); have g2 := g1.alloc g1.size (.cells #[.string { data := #[115, 112, 97, 114, 101] }] 9); exact Below.only_trans g2 HC.out.only g2.size (fun i hi => Nat.le_of_not_lt (fun hc => hi (.inl (.inl hc)))))⟩
                case measure => simp [intOf]; omega
              · exact absurd h (by decide)
            · have Gs := Lib.hid (Given.nil w u64V); have H64 : Hid (∀ n ∈ ([] : List Nat), n < 18446744073709551616) := Lib.hid (by simp)
              go_wp2_with fail
              obtain ⟨q', s', tx', hM, hcase⟩ := HCr.out bxs []
              refine (crash_given HD9.out Gn.out Gs.out H64.out bw9.out (fun b h => .inl h) HPF.out).mono ?_; rintro e wd ⟨rfl, hd⟩; have HZ := Lib.hid hd; clear hd Gn Gs H64
              have HM := Lib.hid hM
              clear hM HCr HPF HD9 q4 hnc9
              rcases hcase with ⟨n1, rfl, rfl⟩ | ⟨h, _⟩
              · go_wp2_with fail
                refine (fuse_from HZ.out (-1) (by decide) (by decide)).mono ?_; rintro e wa ⟨rfl, ha⟩; have HMa := Lib.hid (HM.out.fuse (-1)); have HL := Lib.hid (load_from ha mainS (by decide) (HMa.out.readT _)); rw [HMa.out.load] at HL; have HCl := Lib.hid (HMa.out.clean rfl); have HCF := Lib.hid (HMa.out.cleanFine (by omega)); clear ha
                simp only [Option.isSome_some, if_true] at HL
                go_wp2_with fail
                refine HL.out.mono ?_; rintro e wb ⟨rfl, _, hb⟩; have HB := Lib.hid hb; clear hb HL
                go_wp2_with fail
                refine (clean_from (l := [spareS]) ((HB.out.guard (.cells #[.string { data := #[115, 112, 97, 114, 101] }] 9))) _ _ (.inr ⟨_, _, rfl, by simp, fun j u hj => by (match j, hj with | 0, hj => (obtain rfl := Option.some.inj hj; exact (Blk.new wb 9 #[.string { data := #[115, 112, 97, 114, 101] }]).cell 0))⟩) (by decide) (fun a ha => by (obtain rfl := Option.some.inj ha; exact .inr rfl)) (by decide) (by decide) HCF.out).mono ?_; rw [HCl.out.1]; rintro e wc ⟨rfl, hc⟩; have HC := Lib.hid hc; clear hc
                go_wp2
                go_roundw
                case rel => exact ⟨j + 1, _, (some n1), _, by omega, by go_num, rfl, rfl, (fun h => by first | rfl | cases h), (by rw [show 6 * (j + 1) = 6 * j + 4 + 2 by omega]; exact HCl.out.2), HC.out.weaken (fun b e => .inl (.inl e)), (by have g1 := Below.only_trans b6.out HB.out.only b6.out.size (fun i hi => Nat.le_of_not_lt (fun hc => hi (.inl hc))); have g2 := g1.alloc g1.size (.cells #[.string { data := #[115, 112, 97, 114, 101] }] 9); exact Below.only_trans g2 HC.out.only g2.size (fun i hi => Nat.le_of_not_lt (fun hc => hi (.inl (.inl hc)))))⟩
                case measure => simp [intOf]; omega
              · exact absurd h (by decide)
          · have Gn := Lib.hid (Given.nil w Value.bool)
            by_cases hs : j < sxs.length
            · obtain ⟨sb, so, rfl, hsc⟩ := row_at HRS.out.at_ hs; have hsc9 := (bw9.out.cell (World.block_lt_of_cell? w _ hsc)).trans hsc; have Gs := Given.row (HBS.out _ (List.getElem_mem hs)).1; have H64 := (HBS.out _ (List.getElem_mem hs)).2; obtain ⟨y, hy⟩ : ∃ y, sxs[j] = y := ⟨_, rfl⟩; rw [hy] at hsc9 Gs H64; obtain ⟨mxs, mA, mc⟩ := y; simp only at hsc9 Gs H64; have Gs := Lib.hid Gs; have H64 := Lib.hid H64; clear hsc hy
              go_wp2_with fail
              obtain ⟨q', s', tx', hM, hcase⟩ := HCr.out [] mxs
              refine (crash_given HD9.out Gn.out Gs.out H64.out bw9.out (fun b h => .inl h) HPF.out).mono ?_; rintro e wd ⟨rfl, hd⟩; have HZ := Lib.hid hd; clear hd Gn Gs H64
              have HM := Lib.hid hM
              clear hM HCr HPF HD9 q4 hsc9
              rcases hcase with ⟨n1, rfl, rfl⟩ | ⟨h, _⟩
              · go_wp2_with fail
                refine (fuse_from HZ.out (-1) (by decide) (by decide)).mono ?_; rintro e wa ⟨rfl, ha⟩; have HMa := Lib.hid (HM.out.fuse (-1)); have HL := Lib.hid (load_from ha mainS (by decide) (HMa.out.readT _)); rw [HMa.out.load] at HL; have HCl := Lib.hid (HMa.out.clean rfl); have HCF := Lib.hid (HMa.out.cleanFine (by omega)); clear ha
                simp only [Option.isSome_some, if_true] at HL
                go_wp2_with fail
                refine HL.out.mono ?_; rintro e wb ⟨rfl, _, hb⟩; have HB := Lib.hid hb; clear hb HL
                go_wp2_with fail
                refine (clean_from (l := [spareS]) ((HB.out.guard (.cells #[.string { data := #[115, 112, 97, 114, 101] }] 9))) _ _ (.inr ⟨_, _, rfl, by simp, fun j u hj => by (match j, hj with | 0, hj => (obtain rfl := Option.some.inj hj; exact (Blk.new wb 9 #[.string { data := #[115, 112, 97, 114, 101] }]).cell 0))⟩) (by decide) (fun a ha => by (obtain rfl := Option.some.inj ha; exact .inr rfl)) (by decide) (by decide) HCF.out).mono ?_; rw [HCl.out.1]; rintro e wc ⟨rfl, hc⟩; have HC := Lib.hid hc; clear hc
                go_wp2
                go_roundw
                case rel => exact ⟨j + 1, _, (some n1), _, by omega, by go_num, rfl, rfl, (fun h => by first | rfl | cases h), (by rw [show 6 * (j + 1) = 6 * j + 4 + 2 by omega]; exact HCl.out.2), HC.out.weaken (fun b e => .inl (.inl e)), (by have g1 := Below.only_trans b6.out HB.out.only b6.out.size (fun i hi => Nat.le_of_not_lt (fun hc => hi (.inl hc))); have g2 := g1.alloc g1.size (.cells #[.string { data := #[115, 112, 97, 114, 101] }] 9); exact Below.only_trans g2 HC.out.only g2.size (fun i hi => Nat.le_of_not_lt (fun hc => hi (.inl (.inl hc)))))⟩
                case measure => simp [intOf]; omega
              · exact absurd h (by decide)
            · have Gs := Lib.hid (Given.nil w u64V); have H64 : Hid (∀ n ∈ ([] : List Nat), n < 18446744073709551616) := Lib.hid (by simp)
              go_wp2_with fail
              obtain ⟨q', s', tx', hM, hcase⟩ := HCr.out [] []
              refine (crash_given HD9.out Gn.out Gs.out H64.out bw9.out (fun b h => .inl h) HPF.out).mono ?_; rintro e wd ⟨rfl, hd⟩; have HZ := Lib.hid hd; clear hd Gn Gs H64
              have HM := Lib.hid hM
              clear hM HCr HPF HD9 q4
              rcases hcase with ⟨n1, rfl, rfl⟩ | ⟨h, _⟩
              · go_wp2_with fail
                refine (fuse_from HZ.out (-1) (by decide) (by decide)).mono ?_; rintro e wa ⟨rfl, ha⟩; have HMa := Lib.hid (HM.out.fuse (-1)); have HL := Lib.hid (load_from ha mainS (by decide) (HMa.out.readT _)); rw [HMa.out.load] at HL; have HCl := Lib.hid (HMa.out.clean rfl); have HCF := Lib.hid (HMa.out.cleanFine (by omega)); clear ha
                simp only [Option.isSome_some, if_true] at HL
                go_wp2_with fail
                refine HL.out.mono ?_; rintro e wb ⟨rfl, _, hb⟩; have HB := Lib.hid hb; clear hb HL
                go_wp2_with fail
                refine (clean_from (l := [spareS]) ((HB.out.guard (.cells #[.string { data := #[115, 112, 97, 114, 101] }] 9))) _ _ (.inr ⟨_, _, rfl, by simp, fun j u hj => by (match j, hj with | 0, hj => (obtain rfl := Option.some.inj hj; exact (Blk.new wb 9 #[.string { data := #[115, 112, 97, 114, 101] }]).cell 0))⟩) (by decide) (fun a ha => by (obtain rfl := Option.some.inj ha; exact .inr rfl)) (by decide) (by decide) HCF.out).mono ?_; rw [HCl.out.1]; rintro e wc ⟨rfl, hc⟩; have HC := Lib.hid hc; clear hc
                go_wp2
                go_roundw
                case rel => exact ⟨j + 1, _, (some n1), _, by omega, by go_num, rfl, rfl, (fun h => by first | rfl | cases h), (by rw [show 6 * (j + 1) = 6 * j + 4 + 2 by omega]; exact HCl.out.2), HC.out.weaken (fun b e => .inl (.inl e)), (by have g1 := Below.only_trans b6.out HB.out.only b6.out.size (fun i hi => Nat.le_of_not_lt (fun hc => hi (.inl hc))); have g2 := g1.alloc g1.size (.cells #[.string { data := #[115, 112, 97, 114, 101] }] 9); exact Below.only_trans g2 HC.out.only g2.size (fun i hi => Nat.le_of_not_lt (fun hc => hi (.inl (.inl hc)))))⟩
                case measure => simp [intOf]; omega
              · exact absurd h (by decide)
      · have HDn := Lib.hid (down_from HD9.out)
        rw [hdn] at HDn
        clear hdn
        go_wp2_with fail
        refine HDn.out.mono ?_
        rintro e w10 ⟨rfl, rfl⟩
        clear HDn
        by_cases hn : j < nxs.length
        · obtain ⟨nb, no, rfl, hnc⟩ := row_at HRN.out.at_ hn; have hnc9 := (bw9.out.cell (World.block_lt_of_cell? w _ hnc)).trans hnc; have Gn := Given.row (HBN.out _ (List.getElem_mem hn)); obtain ⟨y, hy⟩ : ∃ y, nxs[j] = y := ⟨_, rfl⟩; rw [hy] at hnc9 Gn; obtain ⟨bxs, bA, bc⟩ := y; simp only at hnc9 Gn; have Gn := Lib.hid Gn; clear hnc hy
          by_cases hs : j < sxs.length
          · obtain ⟨sb, so, rfl, hsc⟩ := row_at HRS.out.at_ hs; have hsc9 := (bw9.out.cell (World.block_lt_of_cell? w _ hsc)).trans hsc; have Gs := Given.row (HBS.out _ (List.getElem_mem hs)).1; have H64 := (HBS.out _ (List.getElem_mem hs)).2; obtain ⟨y, hy⟩ : ∃ y, sxs[j] = y := ⟨_, rfl⟩; rw [hy] at hsc9 Gs H64; obtain ⟨mxs, mA, mc⟩ := y; simp only at hsc9 Gs H64; have Gs := Lib.hid Gs; have H64 := Lib.hid H64; clear hsc hy
            go_wp2_with fail
            obtain ⟨q', s', tx', hM, hcase⟩ := HCr.out bxs mxs
            refine (crash_given HD9.out Gn.out Gs.out H64.out bw9.out (fun b h => .inl h) HPF.out).mono ?_; rintro e wd ⟨rfl, hd⟩; have HZ := Lib.hid hd; clear hd Gn Gs H64
            have HM := Lib.hid hM
            clear hM HCr HPF HD9 q4 hnc9 hsc9
            rcases hcase with ⟨n1, rfl, rfl⟩ | ⟨_, rfl, rfl⟩
            · clear HQ0 HBQ
              go_wp2_with fail
              refine (fuse_from HZ.out (-1) (by decide) (by decide)).mono ?_; rintro e wa ⟨rfl, ha⟩; have HMa := Lib.hid (HM.out.fuse (-1)); have HL := Lib.hid (load_from ha mainS (by decide) (HMa.out.readT _)); rw [HMa.out.load] at HL; have HCl := Lib.hid (HMa.out.clean rfl); have HCF := Lib.hid (HMa.out.cleanFine (by omega)); clear ha
              simp only [Option.isSome_some, if_true] at HL
              go_wp2_with fail
              refine HL.out.mono ?_; rintro e wb ⟨rfl, _, hb⟩; have HB := Lib.hid hb; clear hb HL
              go_wp2_with fail
              refine (clean_from (l := [spareS]) ((HB.out.guard (.cells #[.string { data := #[115, 112, 97, 114, 101] }] 9))) _ _ (.inr ⟨_, _, rfl, by simp, fun j u hj => by (match j, hj with | 0, hj => (obtain rfl := Option.some.inj hj; exact (Blk.new wb 9 #[.string { data := #[115, 112, 97, 114, 101] }]).cell 0))⟩) (by decide) (fun a ha => by (obtain rfl := Option.some.inj ha; exact .inr rfl)) (by decide) (by decide) HCF.out).mono ?_; rw [HCl.out.1]; rintro e wc ⟨rfl, hc⟩; have HC := Lib.hid hc; clear hc
              go_wp2
              go_roundw
              case rel => exact ⟨j + 1, _, (some n1), _, by omega, by go_num, rfl, rfl, (fun h => by first | rfl | cases h), (by rw [show 6 * (j + 1) = 6 * j + 4 + 2 by omega]; exact HCl.out.2), HC.out.weaken (fun b e => .inl (.inl e)), (by have g1 := Below.only_trans b6.out HB.out.only b6.out.size (fun i hi => Nat.le_of_not_lt (fun hc => hi (.inl hc))); have g2 := g1.alloc g1.size (.cells #[.string { data := #[115, 112, 97, 114, 101] }] 9); exact Below.only_trans g2 HC.out.only g2.size (fun i hi => Nat.le_of_not_lt (fun hc => hi (.inl (.inl hc)))))⟩
              case measure => simp [intOf]; omega
            · cases q' with
              | none =>
                obtain rfl : bq = false := by simpa using HBQ.out.symm
                obtain rfl := HQ0.out rfl
                clear HQ0 HBQ
                go_wp2_with fail
                refine (fuse_from HZ.out (-1) (by decide) (by decide)).mono ?_; rintro e wa ⟨rfl, ha⟩; have HMa := Lib.hid (HM.out.fuse (-1)); have HL := Lib.hid (load_from ha mainS (by decide) (HMa.out.readT _)); rw [HMa.out.load] at HL; have HCl := Lib.hid (HMa.out.clean rfl); have HCF := Lib.hid (HMa.out.cleanFine (by omega)); clear ha
                simp only [Option.isSome_none, Bool.false_eq_true, if_false] at HL
                go_wp2_with fail
                refine HL.out.mono ?_; rintro e wb ⟨rfl, _, hb⟩; have HB := Lib.hid hb; clear hb HL
                go_wp2_with fail
                refine (clean_from (l := [spareS]) ((HB.out.guard (.cells #[.string { data := #[115, 112, 97, 114, 101] }] 9))) _ _ (.inr ⟨_, _, rfl, by simp, fun j u hj => by (match j, hj with | 0, hj => (obtain rfl := Option.some.inj hj; exact (Blk.new wb 9 #[.string { data := #[115, 112, 97, 114, 101] }]).cell 0))⟩) (by decide) (fun a ha => by (obtain rfl := Option.some.inj ha; exact .inr rfl)) (by decide) (by decide) HCF.out).mono ?_; rw [HCl.out.1]; rintro e wc ⟨rfl, hc⟩; have HC := Lib.hid hc; clear hc
                go_wp2
                go_roundw
                case rel => exact ⟨j + 1, _, none, _, by omega, by go_num, rfl, rfl, (fun h => by first | rfl | cases h), (by rw [show 6 * (j + 1) = 6 * j + 4 + 2 by omega]; exact HCl.out.2), HC.out.weaken (fun b e => .inl (.inl e)), (by have g1 := Below.only_trans b6.out HB.out.only b6.out.size (fun i hi => Nat.le_of_not_lt (fun hc => hi (.inl hc))); have g2 := g1.alloc g1.size (.cells #[.string { data := #[115, 112, 97, 114, 101] }] 9); exact Below.only_trans g2 HC.out.only g2.size (fun i hi => Nat.le_of_not_lt (fun hc => hi (.inl (.inl hc)))))⟩
                case measure => simp [intOf]; omega
              | some n =>
                obtain rfl : bq = true := by simpa using HBQ.out.symm
                clear HQ0 HBQ
                by_cases hte : tx' = text
                · subst hte
                  go_wp2_with fail
                  refine (fuse_from HZ.out (-1) (by decide) (by decide)).mono ?_; rintro e wa ⟨rfl, ha⟩; have HMa := Lib.hid (HM.out.fuse (-1)); have HL := Lib.hid (load_from ha mainS (by decide) (HMa.out.readT _)); rw [HMa.out.load] at HL; have HCl := Lib.hid (HMa.out.clean rfl); have HCF := Lib.hid (HMa.out.cleanFine (by omega)); clear ha
                  simp only [Option.isSome_some, if_true] at HL
                  go_wp2_with fail
                  refine HL.out.mono ?_; rintro e wb ⟨rfl, _, hb⟩; have HB := Lib.hid hb; clear hb HL
                  go_wp2_with fail
                  refine (clean_from (l := [spareS]) ((HB.out.guard (.cells #[.string { data := #[115, 112, 97, 114, 101] }] 9))) _ _ (.inr ⟨_, _, rfl, by simp, fun j u hj => by (match j, hj with | 0, hj => (obtain rfl := Option.some.inj hj; exact (Blk.new wb 9 #[.string { data := #[115, 112, 97, 114, 101] }]).cell 0))⟩) (by decide) (fun a ha => by (obtain rfl := Option.some.inj ha; exact .inr rfl)) (by decide) (by decide) HCF.out).mono ?_; rw [HCl.out.1]; rintro e wc ⟨rfl, hc⟩; have HC := Lib.hid hc; clear hc
                  go_wp2
                  go_roundw
                  case rel => exact ⟨j + 1, _, (some n), _, by omega, by go_num, rfl, rfl, (fun h => by first | rfl | cases h), (by rw [show 6 * (j + 1) = 6 * j + 4 + 2 by omega]; exact HCl.out.2), HC.out.weaken (fun b e => .inl (.inl e)), (by have g1 := Below.only_trans b6.out HB.out.only b6.out.size (fun i hi => Nat.le_of_not_lt (fun hc => hi (.inl hc))); have g2 := g1.alloc g1.size (.cells #[.string { data := #[115, 112, 97, 114, 101] }] 9); exact Below.only_trans g2 HC.out.only g2.size (fun i hi => Nat.le_of_not_lt (fun hc => hi (.inl (.inl hc)))))⟩
                  case measure => simp [intOf]; omega
                · have hte : (tx' == text) = false := by rw [beq_eq_false_iff_ne]; exact hte
                  go_wp2_with fail
                  refine (fuse_from HZ.out (-1) (by decide) (by decide)).mono ?_; rintro e wa ⟨rfl, ha⟩; have HMa := Lib.hid (HM.out.fuse (-1)); have HL := Lib.hid (load_from ha mainS (by decide) (HMa.out.readT _)); rw [HMa.out.load] at HL; have HCl := Lib.hid (HMa.out.clean rfl); have HCF := Lib.hid (HMa.out.cleanFine (by omega)); clear ha
                  simp only [Option.isSome_some, if_true] at HL
                  go_wp2_with fail
                  refine HL.out.mono ?_; rintro e wb ⟨rfl, _, hb⟩; have HB := Lib.hid hb; clear hb HL
                  go_wp2_with fail
                  refine (clean_from (l := [spareS]) ((HB.out.guard (.cells #[.string { data := #[115, 112, 97, 114, 101] }] 9))) _ _ (.inr ⟨_, _, rfl, by simp, fun j u hj => by (match j, hj with | 0, hj => (obtain rfl := Option.some.inj hj; exact (Blk.new wb 9 #[.string { data := #[115, 112, 97, 114, 101] }]).cell 0))⟩) (by decide) (fun a ha => by (obtain rfl := Option.some.inj ha; exact .inr rfl)) (by decide) (by decide) HCF.out).mono ?_; rw [HCl.out.1]; rintro e wc ⟨rfl, hc⟩; have HC := Lib.hid hc; clear hc
                  go_wp2
                  go_roundw
                  case rel => exact ⟨j + 1, _, (some n), _, by omega, by go_num, rfl, rfl, (fun h => by first | rfl | cases h), (by rw [show 6 * (j + 1) = 6 * j + 4 + 2 by omega]; exact HCl.out.2), HC.out.weaken (fun b e => .inl (.inl e)), (by have g1 := Below.only_trans b6.out HB.out.only b6.out.size (fun i hi => Nat.le_of_not_lt (fun hc => hi (.inl hc))); have g2 := g1.alloc g1.size (.cells #[.string { data := #[115, 112, 97, 114, 101] }] 9); exact Below.only_trans g2 HC.out.only g2.size (fun i hi => Nat.le_of_not_lt (fun hc => hi (.inl (.inl hc)))))⟩
                  case measure => simp [intOf]; omega
          · have Gs := Lib.hid (Given.nil w u64V); have H64 : Hid (∀ n ∈ ([] : List Nat), n < 18446744073709551616) := Lib.hid (by simp)
            go_wp2_with fail
            obtain ⟨q', s', tx', hM, hcase⟩ := HCr.out bxs []
            refine (crash_given HD9.out Gn.out Gs.out H64.out bw9.out (fun b h => .inl h) HPF.out).mono ?_; rintro e wd ⟨rfl, hd⟩; have HZ := Lib.hid hd; clear hd Gn Gs H64
            have HM := Lib.hid hM
            clear hM HCr HPF HD9 q4 hnc9
            rcases hcase with ⟨n1, rfl, rfl⟩ | ⟨_, rfl, rfl⟩
            · clear HQ0 HBQ
              go_wp2_with fail
              refine (fuse_from HZ.out (-1) (by decide) (by decide)).mono ?_; rintro e wa ⟨rfl, ha⟩; have HMa := Lib.hid (HM.out.fuse (-1)); have HL := Lib.hid (load_from ha mainS (by decide) (HMa.out.readT _)); rw [HMa.out.load] at HL; have HCl := Lib.hid (HMa.out.clean rfl); have HCF := Lib.hid (HMa.out.cleanFine (by omega)); clear ha
              simp only [Option.isSome_some, if_true] at HL
              go_wp2_with fail
              refine HL.out.mono ?_; rintro e wb ⟨rfl, _, hb⟩; have HB := Lib.hid hb; clear hb HL
              go_wp2_with fail
              refine (clean_from (l := [spareS]) ((HB.out.guard (.cells #[.string { data := #[115, 112, 97, 114, 101] }] 9))) _ _ (.inr ⟨_, _, rfl, by simp, fun j u hj => by (match j, hj with | 0, hj => (obtain rfl := Option.some.inj hj; exact (Blk.new wb 9 #[.string { data := #[115, 112, 97, 114, 101] }]).cell 0))⟩) (by decide) (fun a ha => by (obtain rfl := Option.some.inj ha; exact .inr rfl)) (by decide) (by decide) HCF.out).mono ?_; rw [HCl.out.1]; rintro e wc ⟨rfl, hc⟩; have HC := Lib.hid hc; clear hc
              go_wp2
              go_roundw
              case rel => exact ⟨j + 1, _, (some n1), _, by omega, by go_num, rfl, rfl, (fun h => by first | rfl | cases h), (by rw [show 6 * (j + 1) = 6 * j + 4 + 2 by omega]; exact HCl.out.2), HC.out.weaken (fun b e => .inl (.inl e)), (by have g1 := Below.only_trans b6.out HB.out.only b6.out.size (fun i hi => Nat.le_of_not_lt (fun hc => hi (.inl hc))); have g2 := g1.alloc g1.size (.cells #[.string { data := #[115, 112, 97, 114, 101] }] 9); exact Below.only_trans g2 HC.out.only g2.size (fun i hi => Nat.le_of_not_lt (fun hc => hi (.inl (.inl hc)))))⟩
              case measure => simp [intOf]; omega
            · cases q' with
              | none =>
                obtain rfl : bq = false := by simpa using HBQ.out.symm
                obtain rfl := HQ0.out rfl
                clear HQ0 HBQ
                go_wp2_with fail
                refine (fuse_from HZ.out (-1) (by decide) (by decide)).mono ?_; rintro e wa ⟨rfl, ha⟩; have HMa := Lib.hid (HM.out.fuse (-1)); have HL := Lib.hid (load_from ha mainS (by decide) (HMa.out.readT _)); rw [HMa.out.load] at HL; have HCl := Lib.hid (HMa.out.clean rfl); have HCF := Lib.hid (HMa.out.cleanFine (by omega)); clear ha
                simp only [Option.isSome_none, Bool.false_eq_true, if_false] at HL
                go_wp2_with fail
                refine HL.out.mono ?_; rintro e wb ⟨rfl, _, hb⟩; have HB := Lib.hid hb; clear hb HL
                go_wp2_with fail
                refine (clean_from (l := [spareS]) ((HB.out.guard (.cells #[.string { data := #[115, 112, 97, 114, 101] }] 9))) _ _ (.inr ⟨_, _, rfl, by simp, fun j u hj => by (match j, hj with | 0, hj => (obtain rfl := Option.some.inj hj; exact (Blk.new wb 9 #[.string { data := #[115, 112, 97, 114, 101] }]).cell 0))⟩) (by decide) (fun a ha => by (obtain rfl := Option.some.inj ha; exact .inr rfl)) (by decide) (by decide) HCF.out).mono ?_; rw [HCl.out.1]; rintro e wc ⟨rfl, hc⟩; have HC := Lib.hid hc; clear hc
                go_wp2
                go_roundw
                case rel => exact ⟨j + 1, _, none, _, by omega, by go_num, rfl, rfl, (fun h => by first | rfl | cases h), (by rw [show 6 * (j + 1) = 6 * j + 4 + 2 by omega]; exact HCl.out.2), HC.out.weaken (fun b e => .inl (.inl e)), (by have g1 := Below.only_trans b6.out HB.out.only b6.out.size (fun i hi => Nat.le_of_not_lt (fun hc => hi (.inl hc))); have g2 := g1.alloc g1.size (.cells #[.string { data := #[115, 112, 97, 114, 101] }] 9); exact Below.only_trans g2 HC.out.only g2.size (fun i hi => Nat.le_of_not_lt (fun hc => hi (.inl (.inl hc)))))⟩
                case measure => simp [intOf]; omega
              | some n =>
                obtain rfl : bq = true := by simpa using HBQ.out.symm
                clear HQ0 HBQ
                by_cases hte : tx' = text
                · subst hte
                  go_wp2_with fail
                  refine (fuse_from HZ.out (-1) (by decide) (by decide)).mono ?_; rintro e wa ⟨rfl, ha⟩; have HMa := Lib.hid (HM.out.fuse (-1)); have HL := Lib.hid (load_from ha mainS (by decide) (HMa.out.readT _)); rw [HMa.out.load] at HL; have HCl := Lib.hid (HMa.out.clean rfl); have HCF := Lib.hid (HMa.out.cleanFine (by omega)); clear ha
                  simp only [Option.isSome_some, if_true] at HL
                  go_wp2_with fail
                  refine HL.out.mono ?_; rintro e wb ⟨rfl, _, hb⟩; have HB := Lib.hid hb; clear hb HL
                  go_wp2_with fail
                  refine (clean_from (l := [spareS]) ((HB.out.guard (.cells #[.string { data := #[115, 112, 97, 114, 101] }] 9))) _ _ (.inr ⟨_, _, rfl, by simp, fun j u hj => by (match j, hj with | 0, hj => (obtain rfl := Option.some.inj hj; exact (Blk.new wb 9 #[.string { data := #[115, 112, 97, 114, 101] }]).cell 0))⟩) (by decide) (fun a ha => by (obtain rfl := Option.some.inj ha; exact .inr rfl)) (by decide) (by decide) HCF.out).mono ?_; rw [HCl.out.1]; rintro e wc ⟨rfl, hc⟩; have HC := Lib.hid hc; clear hc
                  go_wp2
                  go_roundw
                  case rel => exact ⟨j + 1, _, (some n), _, by omega, by go_num, rfl, rfl, (fun h => by first | rfl | cases h), (by rw [show 6 * (j + 1) = 6 * j + 4 + 2 by omega]; exact HCl.out.2), HC.out.weaken (fun b e => .inl (.inl e)), (by have g1 := Below.only_trans b6.out HB.out.only b6.out.size (fun i hi => Nat.le_of_not_lt (fun hc => hi (.inl hc))); have g2 := g1.alloc g1.size (.cells #[.string { data := #[115, 112, 97, 114, 101] }] 9); exact Below.only_trans g2 HC.out.only g2.size (fun i hi => Nat.le_of_not_lt (fun hc => hi (.inl (.inl hc)))))⟩
                  case measure => simp [intOf]; omega
                · have hte : (tx' == text) = false := by rw [beq_eq_false_iff_ne]; exact hte
                  go_wp2_with fail
                  refine (fuse_from HZ.out (-1) (by decide) (by decide)).mono ?_; rintro e wa ⟨rfl, ha⟩; have HMa := Lib.hid (HM.out.fuse (-1)); have HL := Lib.hid (load_from ha mainS (by decide) (HMa.out.readT _)); rw [HMa.out.load] at HL; have HCl := Lib.hid (HMa.out.clean rfl); have HCF := Lib.hid (HMa.out.cleanFine (by omega)); clear ha
                  simp only [Option.isSome_some, if_true] at HL
                  go_wp2_with fail
                  refine HL.out.mono ?_; rintro e wb ⟨rfl, _, hb⟩; have HB := Lib.hid hb; clear hb HL
                  go_wp2_with fail
                  refine (clean_from (l := [spareS]) ((HB.out.guard (.cells #[.string { data := #[115, 112, 97, 114, 101] }] 9))) _ _ (.inr ⟨_, _, rfl, by simp, fun j u hj => by (match j, hj with | 0, hj => (obtain rfl := Option.some.inj hj; exact (Blk.new wb 9 #[.string { data := #[115, 112, 97, 114, 101] }]).cell 0))⟩) (by decide) (fun a ha => by (obtain rfl := Option.some.inj ha; exact .inr rfl)) (by decide) (by decide) HCF.out).mono ?_; rw [HCl.out.1]; rintro e wc ⟨rfl, hc⟩; have HC := Lib.hid hc; clear hc
                  go_wp2
                  go_roundw
                  case rel => exact ⟨j + 1, _, (some n), _, by omega, by go_num, rfl, rfl, (fun h => by first | rfl | cases h), (by rw [show 6 * (j + 1) = 6 * j + 4 + 2 by omega]; exact HCl.out.2), HC.out.weaken (fun b e => .inl (.inl e)), (by have g1 := Below.only_trans b6.out HB.out.only b6.out.size (fun i hi => Nat.le_of_not_lt (fun hc => hi (.inl hc))); have g2 := g1.alloc g1.size (.cells #[.string { data := #[115, 112, 97, 114, 101] }] 9); exact Below.only_trans g2 HC.out.only g2.size (fun i hi => Nat.le_of_not_lt (fun hc => hi (.inl (.inl hc)))))⟩
                  case measure => simp [intOf]; omega
        · have Gn := Lib.hid (Given.nil w Value.bool)
          by_cases hs : j < sxs.length
          · obtain ⟨sb, so, rfl, hsc⟩ := row_at HRS.out.at_ hs; have hsc9 := (bw9.out.cell (World.block_lt_of_cell? w _ hsc)).trans hsc; have Gs := Given.row (HBS.out _ (List.getElem_mem hs)).1; have H64 := (HBS.out _ (List.getElem_mem hs)).2; obtain ⟨y, hy⟩ : ∃ y, sxs[j] = y := ⟨_, rfl⟩; rw [hy] at hsc9 Gs H64; obtain ⟨mxs, mA, mc⟩ := y; simp only at hsc9 Gs H64; have Gs := Lib.hid Gs; have H64 := Lib.hid H64; clear hsc hy
            go_wp2_with fail
            obtain ⟨q', s', tx', hM, hcase⟩ := HCr.out [] mxs
            refine (crash_given HD9.out Gn.out Gs.out H64.out bw9.out (fun b h => .inl h) HPF.out).mono ?_; rintro e wd ⟨rfl, hd⟩; have HZ := Lib.hid hd; clear hd Gn Gs H64
            have HM := Lib.hid hM
            clear hM HCr HPF HD9 q4 hsc9
            rcases hcase with ⟨n1, rfl, rfl⟩ | ⟨_, rfl, rfl⟩
            · clear HQ0 HBQ
              go_wp2_with fail
              refine (fuse_from HZ.out (-1) (by decide) (by decide)).mono ?_; rintro e wa ⟨rfl, ha⟩; have HMa := Lib.hid (HM.out.fuse (-1)); have HL := Lib.hid (load_from ha mainS (by decide) (HMa.out.readT _)); rw [HMa.out.load] at HL; have HCl := Lib.hid (HMa.out.clean rfl); have HCF := Lib.hid (HMa.out.cleanFine (by omega)); clear ha
              simp only [Option.isSome_some, if_true] at HL
              go_wp2_with fail
              refine HL.out.mono ?_; rintro e wb ⟨rfl, _, hb⟩; have HB := Lib.hid hb; clear hb HL
              go_wp2_with fail
              refine (clean_from (l := [spareS]) ((HB.out.guard (.cells #[.string { data := #[115, 112, 97, 114, 101] }] 9))) _ _ (.inr ⟨_, _, rfl, by simp, fun j u hj => by (match j, hj with | 0, hj => (obtain rfl := Option.some.inj hj; exact (Blk.new wb 9 #[.string { data := #[115, 112, 97, 114, 101] }]).cell 0))⟩) (by decide) (fun a ha => by (obtain rfl := Option.some.inj ha; exact .inr rfl)) (by decide) (by decide) HCF.out).mono ?_; rw [HCl.out.1]; rintro e wc ⟨rfl, hc⟩; have HC := Lib.hid hc; clear hc
              go_wp2
              go_roundw
              case rel => exact ⟨j + 1, _, (some n1), _, by omega, by go_num, rfl, rfl, (fun h => by first | rfl | cases h), (by rw [show 6 * (j + 1) = 6 * j + 4 + 2 by omega]; exact HCl.out.2), HC.out.weaken (fun b e => .inl (.inl e)), (by have g1 := Below.only_trans b6.out HB.out.only b6.out.size (fun i hi => Nat.le_of_not_lt (fun hc => hi (.inl hc))); have g2 := g1.alloc g1.size (.cells #[.string { data := #[115, 112, 97, 114, 101] }] 9); exact Below.only_trans g2 HC.out.only g2.size (fun i hi => Nat.le_of_not_lt (fun hc => hi (.inl (.inl hc)))))⟩
              case measure => simp [intOf]; omega
            · cases q' with
              | none =>
                obtain rfl : bq = false := by simpa using HBQ.out.symm
                obtain rfl := HQ0.out rfl
                clear HQ0 HBQ
                go_wp2_with fail
                refine (fuse_from HZ.out (-1) (by decide) (by decide)).mono ?_; rintro e wa ⟨rfl, ha⟩; have HMa := Lib.hid (HM.out.fuse (-1)); have HL := Lib.hid (load_from ha mainS (by decide) (HMa.out.readT _)); rw [HMa.out.load] at HL; have HCl := Lib.hid (HMa.out.clean rfl); have HCF := Lib.hid (HMa.out.cleanFine (by omega)); clear ha
                simp only [Option.isSome_none, Bool.false_eq_true, if_false] at HL
                go_wp2_with fail
                refine HL.out.mono ?_; rintro e wb ⟨rfl, _, hb⟩; have HB := Lib.hid hb; clear hb HL
                go_wp2_with fail
                refine (clean_from (l := [spareS]) ((HB.out.guard (.cells #[.string { data := #[115, 112, 97, 114, 101] }] 9))) _ _ (.inr ⟨_, _, rfl, by simp, fun j u hj => by (match j, hj with | 0, hj => (obtain rfl := Option.some.inj hj; exact (Blk.new wb 9 #[.string { data := #[115, 112, 97, 114, 101] }]).cell 0))⟩) (by decide) (fun a ha => by (obtain rfl := Option.some.inj ha; exact .inr rfl)) (by decide) (by decide) HCF.out).mono ?_; rw [HCl.out.1]; rintro e wc ⟨rfl, hc⟩; have HC := Lib.hid hc; clear hc
                go_wp2
                go_roundw
                case rel => exact ⟨j + 1, _, none, _, by omega, by go_num, rfl, rfl, (fun h => by first | rfl | cases h), (by rw [show 6 * (j + 1) = 6 * j + 4 + 2 by omega]; exact HCl.out.2), HC.out.weaken (fun b e => .inl (.inl e)), (by have g1 := Below.only_trans b6.out HB.out.only b6.out.size (fun i hi => Nat.le_of_not_lt (fun hc => hi (.inl hc))); have g2 := g1.alloc g1.size (.cells #[.string { data := #[115, 112, 97, 114, 101] }] 9); exact Below.only_trans g2 HC.out.only g2.size (fun i hi => Nat.le_of_not_lt (fun hc => hi (.inl (.inl hc)))))⟩
                case measure => simp [intOf]; omega
              | some n =>
                obtain rfl : bq = true := by simpa using HBQ.out.symm
                clear HQ0 HBQ
                by_cases hte : tx' = text
                · subst hte
                  go_wp2_with fail
                  refine (fuse_from HZ.out (-1) (by decide) (by decide)).mono ?_; rintro e wa ⟨rfl, ha⟩; have HMa := Lib.hid (HM.out.fuse (-1)); have HL := Lib.hid (load_from ha mainS (by decide) (HMa.out.readT _)); rw [HMa.out.load] at HL; have HCl := Lib.hid (HMa.out.clean rfl); have HCF := Lib.hid (HMa.out.cleanFine (by omega)); clear ha
                  simp only [Option.isSome_some, if_true] at HL
                  go_wp2_with fail
                  refine HL.out.mono ?_; rintro e wb ⟨rfl, _, hb⟩; have HB := Lib.hid hb; clear hb HL
                  go_wp2_with fail
                  refine (clean_from (l := [spareS]) ((HB.out.guard (.cells #[.string { data := #[115, 112, 97, 114, 101] }] 9))) _ _ (.inr ⟨_, _, rfl, by simp, fun j u hj => by (match j, hj with | 0, hj => (obtain rfl := Option.some.inj hj; exact (Blk.new wb 9 #[.string { data := #[115, 112, 97, 114, 101] }]).cell 0))⟩) (by decide) (fun a ha => by (obtain rfl := Option.some.inj ha; exact .inr rfl)) (by decide) (by decide) HCF.out).mono ?_; rw [HCl.out.1]; rintro e wc ⟨rfl, hc⟩; have HC := Lib.hid hc; clear hc
                  go_wp2
                  go_roundw
                  case rel => exact ⟨j + 1, _, (some n), _, by omega, by go_num, rfl, rfl, (fun h => by first | rfl | cases h), (by rw [show 6 * (j + 1) = 6 * j + 4 + 2 by omega]; exact HCl.out.2), HC.out.weaken (fun b e => .inl (.inl e)), (by have g1 := Below.only_trans b6.out HB.out.only b6.out.size (fun i hi => Nat.le_of_not_lt (fun hc => hi (.inl hc))); have g2 := g1.alloc g1.size (.cells #[.string { data := #[115, 112, 97, 114, 101] }] 9); exact Below.only_trans g2 HC.out.only g2.size (fun i hi => Nat.le_of_not_lt (fun hc => hi (.inl (.inl hc)))))⟩
                  case measure => simp [intOf]; omega
                · have hte : (tx' == text) = false := by rw [beq_eq_false_iff_ne]; exact hte
                  go_wp2_with fail
                  refine (fuse_from HZ.out (-1) (by decide) (by decide)).mono ?_; rintro e wa ⟨rfl, ha⟩; have HMa := Lib.hid (HM.out.fuse (-1)); have HL := Lib.hid (load_from ha mainS (by decide) (HMa.out.readT _)); rw [HMa.out.load] at HL; have HCl := Lib.hid (HMa.out.clean rfl); have HCF := Lib.hid (HMa.out.cleanFine (by omega)); clear ha
                  simp only [Option.isSome_some, if_true] at HL
                  go_wp2_with fail
                  refine HL.out.mono ?_; rintro e wb ⟨rfl, _, hb⟩; have HB := Lib.hid hb; clear hb HL
                  go_wp2_with fail
                  refine (clean_from (l := [spareS]) ((HB.out.guard (.cells #[.string { data := #[115, 112, 97, 114, 101] }] 9))) _ _ (.inr ⟨_, _, rfl, by simp, fun j u hj => by (match j, hj with | 0, hj => (obtain rfl := Option.some.inj hj; exact (Blk.new wb 9 #[.string { data := #[115, 112, 97, 114, 101] }]).cell 0))⟩) (by decide) (fun a ha => by (obtain rfl := Option.some.inj ha; exact .inr rfl)) (by decide) (by decide) HCF.out).mono ?_; rw [HCl.out.1]; rintro e wc ⟨rfl, hc⟩; have HC := Lib.hid hc; clear hc
                  go_wp2
                  go_roundw
                  case rel => exact ⟨j + 1, _, (some n), _, by omega, by go_num, rfl, rfl, (fun h => by first | rfl | cases h), (by rw [show 6 * (j + 1) = 6 * j + 4 + 2 by omega]; exact HCl.out.2), HC.out.weaken (fun b e => .inl (.inl e)), (by have g1 := Below.only_trans b6.out HB.out.only b6.out.size (fun i hi => Nat.le_of_not_lt (fun hc => hi (.inl hc))); have g2 := g1.alloc g1.size (.cells #[.string { data := #[115, 112, 97, 114, 101] }] 9); exact Below.only_trans g2 HC.out.only g2.size (fun i hi => Nat.le_of_not_lt (fun hc => hi (.inl (.inl hc)))))⟩
                  case measure => simp [intOf]; omega
          · have Gs := Lib.hid (Given.nil w u64V); have H64 : Hid (∀ n ∈ ([] : List Nat), n < 18446744073709551616) := Lib.hid (by simp)
            go_wp2_with fail
            obtain ⟨q', s', tx', hM, hcase⟩ := HCr.out [] []
            refine (crash_given HD9.out Gn.out Gs.out H64.out bw9.out (fun b h => .inl h) HPF.out).mono ?_; rintro e wd ⟨rfl, hd⟩; have HZ := Lib.hid hd; clear hd Gn Gs H64
            have HM := Lib.hid hM
            clear hM HCr HPF HD9 q4
            rcases hcase with ⟨n1, rfl, rfl⟩ | ⟨_, rfl, rfl⟩
            · clear HQ0 HBQ
              go_wp2_with fail
              refine (fuse_from HZ.out (-1) (by decide) (by decide)).mono ?_; rintro e wa ⟨rfl, ha⟩; have HMa := Lib.hid (HM.out.fuse (-1)); have HL := Lib.hid (load_from ha mainS (by decide) (HMa.out.readT _)); rw [HMa.out.load] at HL; have HCl := Lib.hid (HMa.out.clean rfl); have HCF := Lib.hid (HMa.out.cleanFine (by omega)); clear ha
              simp only [Option.isSome_some, if_true] at HL
              go_wp2_with fail
              refine HL.out.mono ?_; rintro e wb ⟨rfl, _, hb⟩; have HB := Lib.hid hb; clear hb HL
              go_wp2_with fail
              refine (clean_from (l := [spareS]) ((HB.out.guard (.cells #[.string { data := #[115, 112, 97, 114, 101] }] 9))) _ _ (.inr ⟨_, _, rfl, by simp, fun j u hj => by (match j, hj with | 0, hj => (obtain rfl := Option.some.inj hj; exact (Blk.new wb 9 #[.string { data := #[115, 112, 97, 114, 101] }]).cell 0))⟩) (by decide) (fun a ha => by (obtain rfl := Option.some.inj ha; exact .inr rfl)) (by decide) (by decide) HCF.out).mono ?_; rw [HCl.out.1]; rintro e wc ⟨rfl, hc⟩; have HC := Lib.hid hc; clear hc
              go_wp2
              go_roundw
              case rel => exact ⟨j + 1, _, (some n1), _, by omega, by go_num, rfl, rfl, (fun h => by first | rfl | cases h), (by rw [show 6 * (j + 1) = 6 * j + 4 + 2 by omega]; exact HCl.out.2), HC.out.weaken (fun b e => .inl (.inl e)), (by have g1 := Below.only_trans b6.out HB.out.only b6.out.size (fun i hi => Nat.le_of_not_lt (fun hc => hi (.inl hc))); have g2 := g1.alloc g1.size (.cells #[.string { data := #[115, 112, 97, 114, 101] }] 9); exact Below.only_trans g2 HC.out.only g2.size (fun i hi => Nat.le_of_not_lt (fun hc => hi (.inl (.inl hc)))))⟩
              case measure => simp [intOf]; omega
            · cases q' with
              | none =>
                obtain rfl : bq = false := by simpa using HBQ.out.symm
                obtain rfl := HQ0.out rfl
                clear HQ0 HBQ
                go_wp2_with fail
                refine (fuse_from HZ.out (-1) (by decide) (by decide)).mono ?_; rintro e wa ⟨rfl, ha⟩; have HMa := Lib.hid (HM.out.fuse (-1)); have HL := Lib.hid (load_from ha mainS (by decide) (HMa.out.readT _)); rw [HMa.out.load] at HL; have HCl := Lib.hid (HMa.out.clean rfl); have HCF := Lib.hid (HMa.out.cleanFine (by omega)); clear ha
                simp only [Option.isSome_none, Bool.false_eq_true, if_false] at HL
                go_wp2_with fail
                refine HL.out.mono ?_; rintro e wb ⟨rfl, _, hb⟩; have HB := Lib.hid hb; clear hb HL
                go_wp2_with fail
                refine (clean_from (l := [spareS]) ((HB.out.guard (.cells #[.string { data := #[115, 112, 97, 114, 101] }] 9))) _ _ (.inr ⟨_, _, rfl, by simp, fun j u hj => by (match j, hj with | 0, hj => (obtain rfl := Option.some.inj hj; exact (Blk.new wb 9 #[.string { data := #[115, 112, 97, 114, 101] }]).cell 0))⟩) (by decide) (fun a ha => by (obtain rfl := Option.some.inj ha; exact .inr rfl)) (by decide) (by decide) HCF.out).mono ?_; rw [HCl.out.1]; rintro e wc ⟨rfl, hc⟩; have HC := Lib.hid hc; clear hc
                go_wp2
                go_roundw
                case rel => exact ⟨j + 1, _, none, _, by omega, by go_num, rfl, rfl, (fun h => by first | rfl | cases h), (by rw [show 6 * (j + 1) = 6 * j + 4 + 2 by omega]; exact HCl.out.2), HC.out.weaken (fun b e => .inl (.inl e)), (by have g1 := Below.only_trans b6.out HB.out.only b6.out.size (fun i hi => Nat.le_of_not_lt (fun hc => hi (.inl hc))); have g2 := g1.alloc g1.size (.cells #[.string { data := #[115, 112, 97, 114, 101] }] 9); exact Below.only_trans g2 HC.out.only g2.size (fun i hi => Nat.le_of_not_lt (fun hc => hi (.inl (.inl hc)))))⟩
                case measure => simp [intOf]; omega
              | some n =>
                obtain rfl : bq = true := by simpa using HBQ.out.symm
                clear HQ0 HBQ
                by_cases hte : tx' = text
                · subst hte
                  go_wp2_with fail
                  refine (fuse_from HZ.out (-1) (by decide) (by decide)).mono ?_; rintro e wa ⟨rfl, ha⟩; have HMa := Lib.hid (HM.out.fuse (-1)); have HL := Lib.hid (load_from ha mainS (by decide) (HMa.out.readT _)); rw [HMa.out.load] at HL; have HCl := Lib.hid (HMa.out.clean rfl); have HCF := Lib.hid (HMa.out.cleanFine (by omega)); clear ha
                  simp only [Option.isSome_some, if_true] at HL
                  go_wp2_with fail
                  refine HL.out.mono ?_; rintro e wb ⟨rfl, _, hb⟩; have HB := Lib.hid hb; clear hb HL
                  go_wp2_with fail
                  refine (clean_from (l := [spareS]) ((HB.out.guard (.cells #[.string { data := #[115, 112, 97, 114, 101] }] 9))) _ _ (.inr ⟨_, _, rfl, by simp, fun j u hj => by (match j, hj with | 0, hj => (obtain rfl := Option.some.inj hj; exact (Blk.new wb 9 #[.string { data := #[115, 112, 97, 114, 101] }]).cell 0))⟩) (by decide) (fun a ha => by (obtain rfl := Option.some.inj ha; exact .inr rfl)) (by decide) (by decide) HCF.out).mono ?_; rw [HCl.out.1]; rintro e wc ⟨rfl, hc⟩; have HC := Lib.hid hc; clear hc
                  go_wp2
                  go_roundw
                  case rel => exact ⟨j + 1, _, (some n), _, by omega, by go_num, rfl, rfl, (fun h => by first | rfl | cases h), (by rw [show 6 * (j + 1) = 6 * j + 4 + 2 by omega]; exact HCl.out.2), HC.out.weaken (fun b e => .inl (.inl e)), (by have g1 := Below.only_trans b6.out HB.out.only b6.out.size (fun i hi => Nat.le_of_not_lt (fun hc => hi (.inl hc))); have g2 := g1.alloc g1.size (.cells #[.string { data := #[115, 112, 97, 114, 101] }] 9); exact Below.only_trans g2 HC.out.only g2.size (fun i hi => Nat.le_of_not_lt (fun hc => hi (.inl (.inl hc)))))⟩
                  case measure => simp [intOf]; omega
                · have hte : (tx' == text) = false := by rw [beq_eq_false_iff_ne]; exact hte
                  go_wp2_with fail
                  refine (fuse_from HZ.out (-1) (by decide) (by decide)).mono ?_; rintro e wa ⟨rfl, ha⟩; have HMa := Lib.hid (HM.out.fuse (-1)); have HL := Lib.hid (load_from ha mainS (by decide) (HMa.out.readT _)); rw [HMa.out.load] at HL; have HCl := Lib.hid (HMa.out.clean rfl); have HCF := Lib.hid (HMa.out.cleanFine (by omega)); clear ha
                  simp only [Option.isSome_some, if_true] at HL
                  go_wp2_with fail
                  refine HL.out.mono ?_; rintro e wb ⟨rfl, _, hb⟩; have HB := Lib.hid hb; clear hb HL
                  go_wp2_with fail
                  refine (clean_from (l := [spareS]) ((HB.out.guard (.cells #[.string { data := #[115, 112, 97, 114, 101] }] 9))) _ _ (.inr ⟨_, _, rfl, by simp, fun j u hj => by (match j, hj with | 0, hj => (obtain rfl := Option.some.inj hj; exact (Blk.new wb 9 #[.string { data := #[115, 112, 97, 114, 101] }]).cell 0))⟩) (by decide) (fun a ha => by (obtain rfl := Option.some.inj ha; exact .inr rfl)) (by decide) (by decide) HCF.out).mono ?_; rw [HCl.out.1]; rintro e wc ⟨rfl, hc⟩; have HC := Lib.hid hc; clear hc
                  go_wp2
                  go_roundw
                  case rel => exact ⟨j + 1, _, (some n), _, by omega, by go_num, rfl, rfl, (fun h => by first | rfl | cases h), (by rw [show 6 * (j + 1) = 6 * j + 4 + 2 by omega]; exact HCl.out.2), HC.out.weaken (fun b e => .inl (.inl e)), (by have g1 := Below.only_trans b6.out HB.out.only b6.out.size (fun i hi => Nat.le_of_not_lt (fun hc => hi (.inl hc))); have g2 := g1.alloc g1.size (.cells #[.string { data := #[115, 112, 97, 114, 101] }] 9); exact Below.only_trans g2 HC.out.only g2.size (fun i hi => Nat.le_of_not_lt (fun hc => hi (.inl (.inl hc)))))⟩
                  case measure => simp [intOf]; omega
    · obtain rfl : j = xs.length := by omega
      go_wp2
      go_ret
      exact ⟨rfl, hbl⟩
end Go.Proofs.Ytkbmhghellimcaa
