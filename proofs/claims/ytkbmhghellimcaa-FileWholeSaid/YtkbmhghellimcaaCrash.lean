/- The walk of (*Disk).Crash. -/
import Derived.Test.YtkbmhghellimcaaKept
import Derived.Test.YtkbmhghellimcaaPset
namespace Go.Proofs.Ytkbmhghellimcaa
open Go.RowKit
open Go.Maps (Keyed)
attribute [local go_sem] size_str get_str

/-- The address A leads to the cells xs. -/
def Lst (w : World) (A : Option Addr) (xs : List Value) : Prop := xs = [] ∨ ∃ b o, A = some ⟨b, o, none⟩ ∧ b < w.heap.size ∧ ∀ j u, xs[j]? = some u → w.cell? ⟨b, o + j, none⟩ = some u
theorem Lst.only {w w' : World} {S : Nat → Prop} {A : Option Addr} {xs : List Value} (h : Lst w A xs) (ho : Only S w w') (hs : ∀ a, A = some a → ¬ S a.block) : Lst w' A xs := by
  rcases h with h | ⟨b, o, rfl, hb, hc⟩
  · exact .inl h
  · exact .inr ⟨b, o, rfl, Nat.lt_of_lt_of_le hb ho.size, fun j u hu => (World.cell?_of_block (a := ⟨b, o + j, none⟩) (ho.block b hb (hs _ rfl))).trans (hc j u hu)⟩
theorem Lst.at_ {w : World} {A : Option Addr} {xs : List Value} (h : Lst w A xs) {k : Nat} {u : Value} (hu : xs[k]? = some u) : ∃ b o, A = some ⟨b, o, none⟩ ∧ w.cell? ⟨b, o + k, none⟩ = some u := by
  rcases h with rfl | ⟨b, o, rfl, hb, hc⟩
  · simp at hu
  · exact ⟨b, o, rfl, hc k u hu⟩

theorem lastT_nil (l : Names) (ts : List TurnS) : lastT l ts [] = l := by cases ts <;> rfl
theorem lastT_snoc : ∀ (ts : List TurnS) (t : TurnS) (l : Names) (bs : List Bool), lastT l (ts ++ [t]) bs = if bs.getD ts.length false then doT (lastT l ts bs) t else lastT l ts bs
  | [], t, l, [] => by simp [lastT]
  | [], t, l, b :: bs => by cases b <;> simp [lastT, lastT_nil]
  | t0 :: ts, t, l, [] => by simp [lastT]
  | t0 :: ts, t, l, b :: bs => by
    rw [List.cons_append, lastT, lastT_snoc ts t _ bs, lastT]
    simp

theorem length_insN (x : Str × Nat) : ∀ l : Names, (insN x l).length = l.length + 1
  | [] => rfl
  | y :: r => by
    unfold insN
    split
    · rfl
    · simp [length_insN x r]
theorem length_delN (s : Str) (l : Names) : (delN s l).length ≤ l.length := List.length_filter_le _ _
theorem length_doT (l : Names) (t : TurnS) : (doT l t).length ≤ l.length + 1 := by
  unfold doT putN
  have h1 := length_delN t.dst l
  have h2 := length_delN t.src l
  have h3 := length_delN t.dst (delN t.src l)
  split
  · rw [length_insN]; omega
  · split
    · omega
    · split
      · rw [length_insN]; omega
      · omega
theorem length_lastT : ∀ (ts : List TurnS) (l : Names) (bs : List Bool), (lastT l ts bs).length ≤ l.length + ts.length
  | [], l, bs => by cases bs <;> simp [lastT]
  | t :: ts, l, [] => by simp [lastT]
  | t :: ts, l, b :: bs => by
    rw [lastT, List.length_cons]
    have h1 := length_lastT ts (if b then doT l t else l) bs
    have h2 := length_doT l t
    cases b
    · simp only [Bool.false_eq_true, if_false] at h1 ⊢; omega
    · simp only [if_true] at h1 ⊢; omega
theorem DiskAt.setLast {w w' : World} {L : Lay} {D : DiskS} {l : Names} (h : DiskAt w L D) (ho : Only (· = L.ms) w w') (hm : w'.ownsMap Try.prog 9 raw L.ms l.length (mapD (nodeV L.bs) l)) (hl : ∀ p ∈ l, p.2 < D.now.length) : DiskAt w' L { D with last := l } where
  blk := h.blk.only ho (Ne.symm h.p_ne.2.1)
  names := map_only h.names ho h.ne
  last := hm
  ne := h.ne
  nodes i hi := (h.nodes i hi).only ho (h.node_ne hi).2.2.1
  nlen := h.nlen
  nodup := h.nodup
  pend := own_only h.pend ho (fun i hi e => h.p_ne.2.2.2.2 (by rw [hi, e]))
  ok := ⟨h.ok.len, h.ok.names, hl, h.ok.pend, h.ok.kinds, h.ok.plen⟩
  fuse := h.fuse
  steps := h.steps
  room := h.room
  npend := h.npend
theorem pend_form {w : World} {L : Lay} {D : DiskS} (h : DiskAt w L D) : ∃ A c, L.pv = .slice A D.pending.length c ∧ D.pending.length ≤ c ∧ (0 < D.pending.length → ∃ g, A = some ⟨g, 0, none⟩) := by
  rcases h.pend.2 with ⟨e, hx⟩ | ⟨g, cap, cur, e, hb, hg, hnc, hcm, hcs, htake⟩
  · rw [hx]
    exact ⟨none, 0, e, by simp, fun h0 => by simp at h0⟩
  · exact ⟨_, cap, e, hnc, fun _ => ⟨g, rfl⟩⟩
theorem row_form {w : World} {base e size n : Nat} {v : Value} {xs : List Value} (h : w.ownsRow base e size v n xs) : ∃ A c, v = .slice A n c ∧ n ≤ c ∧ (0 < n → ∃ g, A = some ⟨g, 0, none⟩) := by
  rcases h.2 with ⟨e, hx⟩ | ⟨g, cap, cur, e, hb, hg, hnc, hcm, hcs, htake⟩
  · rw [hx]
    exact ⟨none, 0, e, by simp, fun h0 => by simp at h0⟩
  · exact ⟨_, cap, e, hnc, fun _ => ⟨g, rfl⟩⟩
theorem flatMap_get4 (bs : List Nat) : ∀ (l : List TurnS) (k : Nat) (j : Nat), j < 4 → (hk : k < l.length) → (l.flatMap (turnV bs))[k * 4 + j]? = (turnV bs l[k])[j]?
  | [], k, j, _, hk => by simp at hk
  | t :: l, 0, j, hj, _ => by
    rw [List.flatMap_cons, List.getElem?_append_left (by simp [turnV]; omega)]
    simp
  | t :: l, k + 1, j, hj, hk => by
    rw [List.flatMap_cons, List.getElem?_append_right (by simp [turnV]; omega)]
    have : (k + 1) * 4 + j - (turnV bs t).length = k * 4 + j := by simp [turnV]; omega
    rw [this, flatMap_get4 bs l k j hj (by simpa using hk)]
    simp
theorem pend_cell {w : World} {L : Lay} {D : DiskS} (h : DiskAt w L D) {g k : Nat} (hg : L.pv.ownBlock = some g) (hk : k < D.pending.length) (j : Nat) (u : Value) (hj : j < 4) (hu : (turnV L.bs D.pending[k])[j]? = some u) : w.cell? ⟨g, k * 4 + j, none⟩ = some u := by
  have := h.pend.cells hg (k * 4 + j) u (by rw [flatMap_get4 _ _ _ _ hj hk]; exact hu)
  rwa [add_off] at this

theorem look_val (w : World) {ops : Array Oper} {rest : List Oper} {o : Oper} {a : Act} {Q : Exit → Act → World → Prop} (hg : o.guard = none) (m x : Operand) (hop : o.op = Op.lookup 61 m x false) (b n : Nat) (f : Nat → Value) (l : Names) (hm : a.eval m = .map (some b)) (hown : w.ownsMap Try.prog 9 raw b n (mapD f l))
    (s : Str) (hx : a.eval x = str s) (hs : s.length ≤ maxLen) (i : Nat) (hi : findN s l = some i) (v : Value) (hv : f i = v) (hK : wpList Try.prog ops Q rest (a.put o.dst v) w) : wpList Try.prog ops Q (o :: rest) a w := by
  refine wpList_plain hg fun K' hK' => ?_
  obtain ⟨v', ps, hrun, hat⟩ := hown.lookup keyed Try.underlying61 (zero_node w) (zd := .held (.pointer none)) (zp := []) rfl (key_str s hs)
  rw [atKey_mapD, hi] at hat
  obtain ⟨rfl, _⟩ : v' = f i ∧ ps = [] := by simpa [raw] using hat
  subst hv
  unfold Oper.wp
  simp [execOp, hop, hm, hx, hrun, Result.andThen]
  exact hK' _ _ hK
theorem find_self : ∀ {l : Names}, l.Pairwise (fun p q => p.1 ≠ q.1) → ∀ {m : Nat} (hm : m < l.length), findN l[m].1 l = some l[m].2
  | [], _, m, hm => by simp at hm
  | p :: r, _, 0, _ => by simp [findN]
  | p :: r, hp, m + 1, hm => by
    obtain ⟨h1, h2⟩ := List.pairwise_cons.1 hp
    have hm' : m < r.length := by simpa using hm
    have hne := h1 r[m] (List.getElem_mem hm')
    have := find_self h2 hm'
    simp only [List.getElem_cons_succ]
    unfold findN at this ⊢
    rw [List.find?_cons]
    have hb : (p.1 == r[m].1) = false := by simpa using hne
    rw [hb]
    exact this
def crashN (l : List Nat) (c : Cr) (m : Nat) : Cr := (l.take m).foldl crashOne c
theorem crashN_succ (l : List Nat) (c : Cr) (m : Nat) (hm : m < l.length) : crashN l c (m + 1) = crashOne (crashN l c m) l[m] := by
  unfold crashN
  rw [List.take_succ_eq_append_getElem hm, List.foldl_append]
  rfl
theorem seen_map (bs : List Nat) (hb : bs.Nodup) (ks : List Nat) (hk : ∀ k ∈ ks, k < bs.length) (x : Nat) (hx : x < bs.length) : (ks.map (bs.getD · 0)).contains (bs.getD x 0) = ks.contains x := by
  rw [Bool.eq_iff_iff, List.contains_iff_mem, List.contains_iff_mem]
  constructor
  · intro h
    obtain ⟨k, hkm, e⟩ := List.mem_map.1 h
    have hkl := hk k hkm
    rw [List.getD_eq_getElem?_getD, List.getD_eq_getElem?_getD, List.getElem?_eq_getElem hkl, List.getElem?_eq_getElem hx] at e
    rwa [← (List.getElem_inj hb).1 e]
  · exact fun h => List.mem_map.2 ⟨x, h, rfl⟩
/-- The sizes of the texts on the way. -/
def Short (l : List Str) : Prop := ∀ t ∈ l, t.length < 1000000
theorem Short.getD {l : List Str} (h : Short l) (i : Nat) : (l.getD i []).length < 1000000 := by
  rw [List.getD_eq_getElem?_getD]
  cases hg : l[i]? with
  | none => simp
  | some t => exact h t (List.mem_of_getElem? hg)
theorem Short.set {l : List Str} (h : Short l) {t : Str} (ht : t.length < 1000000) (i : Nat) : Short (l.set i t) := by
  intro u hu
  rcases List.mem_or_eq_of_mem_set hu with hu | rfl
  · exact h u hu
  · exact ht
theorem info_node : (Try.prog.info? 79).map (·.size) = some 2 := by kernel_rfl

structure CrRel (W : World) (L : Lay) (D : DiskS) (l : Names) (sn : List Nat) (sm B : Nat) (v : Value) (m j : Nat) (c : Cr) : Prop where
  eq : c = crashN (l.map (·.2)) ⟨D.now, D.sure, [], sn⟩ m
  masks : c.masks = sn.drop j
  jm : j ≤ m
  disk : DiskAt W L { D with now := c.now, sure := c.sure, last := l }
  set : PSet W sm (c.seen.map (L.bs.getD · 0))
  seen : ∀ k ∈ c.seen, k < L.bs.length
  row : W.ownsRow B 9 1 v l.length ((l.map (·.1)).map str)
  now : Short c.now
  sure : Short c.sure
theorem keptT_lt {now sure : Str} {mask : Nat} (h1 : now.length < 1000000) (h2 : sure.length < 1000000) : (keptT now sure mask).length < 1000000 := by
  rw [length_keptT]
  split <;> assumption
section
variable {W W' : World} {L : Lay} {D : DiskS} {l : Names} {sn : List Nat} {sm B : Nat} {v : Value} {m j : Nat} {c : Cr}
theorem CrRel.skip (h : CrRel W L D l sn sm B v m j c) (hm : m < l.length) (hs : c.seen.contains l[m].2 = true) : CrRel W L D l sn sm B v (m + 1) j c where
  eq := by
    rw [crashN_succ _ _ _ (by simpa using hm), ← h.eq, List.getElem_map]
    unfold crashOne
    rw [if_pos hs]
  masks := h.masks
  jm := by have := h.jm; omega
  disk := h.disk
  set := h.set
  seen := h.seen
  row := h.row
  now := h.now
  sure := h.sure
theorem CrRel.step (h : CrRel W L D l sn sm B v m j c) (hm : m < l.length) (hs : c.seen.contains l[m].2 = false) (hl : l[m].2 < L.bs.length)
    (hd : DiskAt W' L { D with now := c.now.set l[m].2 (keptT (c.now.getD l[m].2 []) (c.sure.getD l[m].2 []) (c.masks.headD 0)), sure := c.sure.set l[m].2 (keptT (c.now.getD l[m].2 []) (c.sure.getD l[m].2 []) (c.masks.headD 0)), last := l })
    (hset : PSet W' sm (L.bs.getD l[m].2 0 :: c.seen.map (L.bs.getD · 0))) (hrow : W'.ownsRow B 9 1 v l.length ((l.map (·.1)).map str)) : CrRel W' L D l sn sm B v (m + 1) (j + 1) (crashOne c l[m].2) := by
  have hne : ¬ (c.seen.contains l[m].2 = true) := by rw [hs]; decide
  have e : crashOne c l[m].2 = ⟨c.now.set l[m].2 (keptT (c.now.getD l[m].2 []) (c.sure.getD l[m].2 []) (c.masks.headD 0)), c.sure.set l[m].2 (keptT (c.now.getD l[m].2 []) (c.sure.getD l[m].2 []) (c.masks.headD 0)), l[m].2 :: c.seen, c.masks.tail⟩ := by
    unfold crashOne
    rw [if_neg hne]
  have ht := keptT_lt (mask := c.masks.headD 0) (h.now.getD l[m].2) (h.sure.getD l[m].2)
  exact {
    eq := by rw [crashN_succ _ _ _ (by simpa using hm), ← h.eq, List.getElem_map]
    masks := by rw [e, h.masks]; simp
    jm := by have := h.jm; omega
    disk := by rw [e]; exact hd
    set := by rw [e]; exact hset
    seen := by
      rw [e]
      intro k hk
      rcases List.mem_cons.1 hk with rfl | hk
      · exact hl
      · exact h.seen k hk
    row := hrow
    now := by rw [e]; exact h.now.set ht _
    sure := by rw [e]; exact h.sure.set ht _ }
theorem CrRel.nodes (h : CrRel W L D l sn sm B v m j c) : ∀ k ∈ c.seen.map (L.bs.getD · 0), ∃ t cs, Blk W k t cs := fun k hk => by
  obtain ⟨i, hi, rfl⟩ := List.mem_map.1 hk
  exact ⟨_, _, h.disk.nodes i (h.seen i hi)⟩
theorem CrRel.lt (h : CrRel W L D l sn sm B v m j c) (hm : m < l.length) : l[m].2 < L.bs.length := by
  rw [h.disk.nlen]
  exact h.disk.ok.last _ (List.getElem_mem hm)
theorem CrRel.key (h : CrRel W L D l sn sm B v m j c) (hm : m < l.length) : l[m].1.length ≤ maxLen :=
  strKeys_le h.disk.last Try.underlying9 _ (by simp only [strKeys, mapD, List.map_map]; exact List.mem_map.2 ⟨l[m], List.getElem_mem hm, rfl⟩)
theorem CrRel.cell (h : CrRel W L D l sn sm B v m j c) (hm : m < l.length) {g : Nat} (hg : v.ownBlock = some g) : W.cell? ⟨g, m, none⟩ = some (str l[m].1) := by
  have := h.row.cells hg m (str l[m].1) (by simp [hm])
  rwa [add_off] at this
end

theorem crash_mem {wr w7 : World} {L : Lay} {D : DiskS} {l : Names} {sn : List Nat} {sm B : Nat} {v : Value} {m j : Nat} {c : Cr} (hR : CrRel wr L D l sn sm B v m j c) (hm : m < l.length) (hb7 : Below wr.heap.size wr w7) {nb : Nat} (hnb : L.bs.getD l[m].2 0 = nb) (t : Str)
    (hsm : ∀ b, L.foot b → b < sm) (hB : sm < B) :
    DiskAt ((w7.setCell ⟨nb, 0, none⟩ (str t)).setCell ⟨nb, 1, none⟩ (str t)) L { D with now := c.now.set l[m].2 t, sure := c.sure.set l[m].2 t, last := l } ∧
      PSet ((w7.setCell ⟨nb, 0, none⟩ (str t)).setCell ⟨nb, 1, none⟩ (str t)) sm (c.seen.map (L.bs.getD · 0)) ∧ Blk ((w7.setCell ⟨nb, 0, none⟩ (str t)).setCell ⟨nb, 1, none⟩ (str t)) nb 79 #[str t, str t] ∧
      ((w7.setCell ⟨nb, 0, none⟩ (str t)).setCell ⟨nb, 1, none⟩ (str t)).ownsRow B 9 1 v l.length ((l.map (·.1)).map str) ∧ Only L.foot wr ((w7.setCell ⟨nb, 0, none⟩ (str t)).setCell ⟨nb, 1, none⟩ (str t)) := by
  have hq := hR.lt hm
  have D7 := hR.disk.below hb7 (Nat.le_refl _)
  have ob7 : Only (fun _ => False) wr w7 := Only.of_below hb7
  have hN := (D7.nodes _ hq).set 0 (str t)
  have hN2 := hN.set 1 (str t)
  have o9 : Only (· = L.bs.getD l[m].2 0) w7 ((w7.setCell ⟨L.bs.getD l[m].2 0, 0, none⟩ (str t)).setCell ⟨L.bs.getD l[m].2 0, 1, none⟩ (str t)) := ((Only.refl (· = L.bs.getD l[m].2 0) w7).setCell (p := ⟨L.bs.getD l[m].2 0, 0, none⟩) (.inl rfl) _).setCell (p := ⟨L.bs.getD l[m].2 0, 1, none⟩) (.inl rfl) _
  have h9 := D7.setNode hq t t hN2 o9
  have hnf := hsm nb (by rw [← hnb]; exact .inr (.inr (.inr (.inl (D7.bs_mem hq)))))
  simp only [hnb] at h9 hN2 o9
  refine ⟨h9.1, (hR.set.only ob7 id).only o9 (fun e => by omega), hN2, own_only (own_only hR.row ob7 (fun _ _ => id)) o9 (fun i hi e => ?_), (Only.of_below hb7).trans h9.2 (fun _ e => .inl e)⟩
  have := (hR.row.lt i hi).1
  omega
theorem crash_map {W w9 : World} {L : Lay} {D : DiskS} {sm B n : Nat} {v : Value} {xs : List Value} (hd : DiskAt W L D) (hrow : W.ownsRow B 9 1 v n xs) (hg : W.mapTurned w9 sm) (hsm : ∀ b, L.foot b → b < sm) (hB : sm < B) :
    DiskAt w9 L D ∧ w9.ownsRow B 9 1 v n xs := by
  have ho := turned_only hg
  refine ⟨hd.kept ho (fun b hb e => by have := hsm b hb; omega), own_only hrow ho (fun i hi e => ?_)⟩
  have := (hrow.lt i hi).1
  omega

theorem DiskAt.crashed {W w7 : World} {L : Lay} {D : DiskS} (h : DiskAt W L D) (hb : Below W.heap.size W w7) (hn : w7.ownsMap Try.prog 9 raw W.heap.size D.last.length (mapD (nodeV L.bs) D.last)) :
    DiskAt ((((w7.setCell ⟨L.p, 1, none⟩ (.map (some W.heap.size))).setCell ⟨L.p, 3, none⟩ (.slice none 0 0)).setCell ⟨L.p, 6, none⟩ (.bool false)).setCell ⟨L.p, 5, none⟩ (.int .i64 (-1))) { L with mn := W.heap.size, pv := .slice none 0 0 } { D with names := D.last, pending := [], fuse := -1, down := false } ∧
      Only L.foot W ((((w7.setCell ⟨L.p, 1, none⟩ (.map (some W.heap.size))).setCell ⟨L.p, 3, none⟩ (.slice none 0 0)).setCell ⟨L.p, 6, none⟩ (.bool false)).setCell ⟨L.p, 5, none⟩ (.int .i64 (-1))) := by
  have h1 := h.below hb (Nat.le_refl _)
  have ho : Only (· = L.p) w7 ((((w7.setCell ⟨L.p, 1, none⟩ (.map (some W.heap.size))).setCell ⟨L.p, 3, none⟩ (.slice none 0 0)).setCell ⟨L.p, 6, none⟩ (.bool false)).setCell ⟨L.p, 5, none⟩ (.int .i64 (-1))) :=
    ((((Only.refl (· = L.p) w7).setCell (p := ⟨L.p, 1, none⟩) (.inl rfl) _).setCell (p := ⟨L.p, 3, none⟩) (.inl rfl) _).setCell (p := ⟨L.p, 6, none⟩) (.inl rfl) _).setCell (p := ⟨L.p, 5, none⟩) (.inl rfl) _
  obtain ⟨p1, p2, p3, p4, p5⟩ := h.p_ne
  have lp := h.blk.lt
  have lms := h.last.lt
  refine ⟨?_, (Only.of_below hb).trans ho (fun _ e => .inl (.inl e))⟩
  exact {
    blk := (((h1.blk.set 1 _).set 3 _).set 6 _).set 5 _
    names := map_only hn ho (fun e => by dsimp only at e; omega)
    last := map_only h1.last ho p2
    ne := by dsimp only; omega
    nodes := fun i hi => (h1.nodes i hi).only ho (h.node_ne hi).1
    nlen := h.nlen
    nodup := h.nodup
    pend := World.ownsRow_nil _ _ _ _
    ok := ⟨h.ok.len, h.ok.last, h.ok.last, fun t ht => by simp at ht, fun t ht => by simp at ht, fun t ht => by simp at ht⟩
    fuse := by simp
    steps := h.steps
    room := h.room
    npend := by simp }

set_option maxRecDepth 100000 in
set_option maxHeartbeats 6400000 in
theorem crash_any (w : World) (L : Lay) (D : DiskS) (h : DiskAt w L D) (An As : Option Addr) (cn cs : Nat) (bn : List Bool) (sn : List Nat) (hbn : Lst w An (bn.map Value.bool)) (hsn : Lst w As (sn.map (fun n : Nat => Value.int .u64 (n : Int))))
    (hcn : bn.length ≤ cn) (hcs : sn.length ≤ cs) (hs64 : ∀ n ∈ sn, n < 18446744073709551616) (hbl : bn.length ≤ 9223372036854775807) (hsl : sn.length ≤ 9223372036854775807) (hfn : bn ≠ [] → ∀ a, An = some a → ¬ L.foot a.block) (hfs : sn ≠ [] → ∀ a, As = some a → ¬ L.foot a.block) (hpl : D.pending.length < 1000) (hll : D.last.length < 1000) (hsN : Short D.now) (hsS : Short D.sure) :
    Calls Try.prog 18 #[.pointer (some ⟨L.p, 0, none⟩), .slice An bn.length cn, .slice As sn.length cs] w fun e w' => e = .returned (.tuple #[]) ∧ Left w L (crashD D bn sn) w' := by
  have c3 : w.cell? ⟨L.p, 3, none⟩ = some L.pv := h.blk.cell 3
  obtain ⟨A, c, hpv, hpc, hpg⟩ := pend_form h
  rw [hpv] at c3
  have H := Lib.hid h
  have Hpv := Lib.hid hpv
  have HBN := Lib.hid hbn
  have HSN := Lib.hid hsn
  have HS6 := Lib.hid hs64
  have HFN := Lib.hid hfn
  have HFS := Lib.hid hfs
  obtain ⟨inode, hin, hsz⟩ : ∃ i, Try.prog.info? 79 = some i ∧ i.size ≠ 0 := by
    obtain ⟨i, hi, e⟩ := Option.map_eq_some_iff.1 info_node
    exact ⟨i, hi, by rw [e]; decide⟩
  clear h hpv hbn hsn hs64 hfn hfs
  go_enter Try.func18, Try.ntmps18
  go_wp2
  go_loopw [21, 6, 7] (fun i _ _ wr => ∃ k : Nat, k ≤ D.pending.length ∧ i = .int .i64 k ∧ DiskAt wr L { D with last := lastT D.last (D.pending.take k) bn } ∧ Only L.foot w wr) (fun i _ _ _ => D.pending.length - (intOf i).toNat)
  case atStart => exact ⟨0, Nat.zero_le _, rfl, H.out, Only.refl _ _⟩
  case round =>
    obtain ⟨k, hk, rfl, hD, ho⟩ := hrel
    by_cases hlt : k < D.pending.length
    · obtain ⟨g, rfl⟩ := hpg (by omega)
      have hgo : L.pv.ownBlock = some g := by rw [Hpv.out]; rfl
      have p0 : wr.cell? ⟨g, k * 4, none⟩ = some (.int .i64 D.pending[k].kind) := pend_cell hD hgo hlt 0 _ (by decide) rfl
      have p1 : wr.cell? ⟨g, k * 4 + 1, none⟩ = some (str D.pending[k].src) := pend_cell hD hgo hlt 1 _ (by decide) rfl
      have p2 : wr.cell? ⟨g, k * 4 + 2, none⟩ = some (str D.pending[k].dst) := pend_cell hD hgo hlt 2 _ (by decide) rfl
      have p3 : wr.cell? ⟨g, k * 4 + 3, none⟩ = some (if D.pending[k].kind = 1 then nodeV L.bs D.pending[k].n else Value.pointer none) := pend_cell hD hgo hlt 3 _ (by decide) rfl
      have HD := Lib.hid hD
      clear hD
      have ha3 : (turnV L.bs D.pending[k]).toArray.all (·.oneCell') = true := by
        rw [Array.all_eq_true_iff_forall_mem]
        exact fun x hx => turnV_one L.bs _ x (by simpa using hx)
      rw [show (turnV L.bs D.pending[k]).toArray = #[.int .i64 D.pending[k].kind, str D.pending[k].src, str D.pending[k].dst, if D.pending[k].kind = 1 then nodeV L.bs D.pending[k].n else Value.pointer none] from rfl] at ha3
      have hTV : (turnV L.bs D.pending[k]).toArray = #[.int .i64 D.pending[k].kind, str D.pending[k].src, str D.pending[k].dst, if D.pending[k].kind = 1 then nodeV L.bs D.pending[k].n else Value.pointer none] := rfl
      generalize (if D.pending[k].kind = 1 then nodeV L.bs D.pending[k].n else Value.pointer none) = a3 at p3 ha3 hTV
      generalize D.pending[k].kind = a0 at p0 hTV ha3
      generalize D.pending[k].src = a1 at p1 hTV ha3
      generalize D.pending[k].dst = a2 at p2 hTV ha3
      have HTV := Lib.hid hTV
      have Ha3 := Lib.hid ha3
      have B0 := Blk.new' (w := wr) rfl 75 #[.int .i64 0, .string { data := #[] }, .string { data := #[] }, .pointer none]
      have B1 := B0.setRow #[.int .i64 a0, str a1, str a2, a3]
      have O1 := (ho.alloc (.cells #[.int .i64 0, .string { data := #[] }, .string { data := #[] }, .pointer none] 75)).setRow (g := wr.heap.size) (.inr ho.size) #[.int .i64 a0, str a1, str a2, a3]
      have D1 := HD.out.kept (((Only.refl (fun b => b = wr.heap.size) wr).alloc (.cells #[.int .i64 0, .string { data := #[] }, .string { data := #[] }, .pointer none] 75)).setRow (g := wr.heap.size) (.inl rfl) #[.int .i64 a0, str a1, str a2, a3]) (fun b hb e => by have := HD.out.foot_lt b hb; omega)
      have HB0 := Lib.hid B0
      clear hTV ha3 B0
      have hsn := lastT_snoc (D.pending.take k) D.pending[k] D.last bn
      rw [← List.take_succ_eq_append_getElem hlt, show (D.pending.take k).length = k by simp; omega] at hsn
      have HSNo := Lib.hid hsn
      have HLen : Hid ((lastT D.last (D.pending.take k) bn).length < 1000000) := Lib.hid (by have := length_lastT (D.pending.take k) D.last bn; rw [List.length_take] at this; omega)
      clear hsn
      by_cases hkb : k < bn.length
      · obtain ⟨nb, no, rfl, hcb⟩ := (HBN.out.only O1 (fun a ha => HFN.out (by rintro rfl; simp at hkb) a ha)).at_ (k := k) (u := .bool bn[k]) (by simp [hkb])
        have HG : Hid (bn.getD k false = bn[k]) := Lib.hid (by simp [hkb])
        cases hbk : bn[k] with
        | false =>
          rw [hbk] at hcb HG
          clear hbk
          go_wp2_with (refine wpList_store_row rfl 75 (.tmp 7) (.tmp 25) rfl wr.heap.size #[.int .i64 a0, str a1, str a2, a3] rfl rfl 75 _ HB0.out (by kernel_rfl) (by rfl) Ha3.out ?_; generalize (wr.alloc (.cells #[.int .i64 0, .string { data := #[] }, .string { data := #[] }, .pointer none] 75)).setRow wr.heap.size #[.int .i64 a0, str a1, str a2, a3] = w5 at B1 O1 D1 hcb ⊢)
          exact ⟨⟨k + 1, by omega, by go_num, by rw [HSNo.out, HG.out]; exact D1, O1⟩, by simp [intOf]; omega⟩
        | true =>
          rw [hbk] at hcb HG
          clear hbk
          go_wp2_with (refine wpList_store_row rfl 75 (.tmp 7) (.tmp 25) rfl wr.heap.size #[.int .i64 a0, str a1, str a2, a3] rfl rfl 75 _ HB0.out (by kernel_rfl) (by rfl) Ha3.out ?_; generalize (wr.alloc (.cells #[.int .i64 0, .string { data := #[] }, .string { data := #[] }, .pointer none] 75)).setRow wr.heap.size #[.int .i64 a0, str a1, str a2, a3] = w5 at B1 O1 D1 hcb ⊢)
          have e2 : w5.cell? ⟨L.p, 2, none⟩ = some (.map (some L.ms)) := D1.blk.cell 2
          have q0 : w5.cell? ⟨wr.heap.size, 0, none⟩ = some (.int .i64 a0) := B1.cell 0
          have q1 : w5.cell? ⟨wr.heap.size, 1, none⟩ = some (str a1) := B1.cell 1
          have q2 : w5.cell? ⟨wr.heap.size, 2, none⟩ = some (str a2) := B1.cell 2
          have q3 : w5.cell? ⟨wr.heap.size, 3, none⟩ = some a3 := B1.cell 3
          refine still_region 5 (by kernel_rfl) (by kernel_rfl) ?_
          simp only [List.take_succ_cons, List.take_zero, List.drop_succ_cons, List.drop_zero]
          repeat still_step
          refine wpStill_nil ?_
          go_wp2_with fail
          have hdo := do_any w5.drew L.ms L.bs (lastT D.last (D.pending.take k) bn) D.pending[k] D1.last HLen.out (D1.ok.plen _ (List.getElem_mem _)).1 (D1.ok.plen _ (List.getElem_mem _)).2 (D1.ok.kinds _ (List.getElem_mem _))
          rw [HTV.out] at hdo
          refine hdo.mono ?_
          clear hdo
          rintro e w6 ⟨rfl, hown6, ho6⟩
          have HD6 := Lib.hid ((D1.kept ((Only.refl (fun _ => False) w5).drew) (fun _ _ => id)).setLast ho6 hown6 (mem_doT D1.ok.last (D1.ok.pend _ (List.getElem_mem _))))
          have O6 := O1.drew.trans ho6 (fun _ e => .inl (.inr (.inr (.inl e))))
          clear e2 q0 q1 q2 q3 hown6 ho6
          go_wp2
          exact ⟨⟨k + 1, by omega, by go_num, by rw [HSNo.out, HG.out]; exact HD6.out, O6⟩, by simp [intOf]; omega⟩
      · have HG : Hid (bn.getD k false = false) := Lib.hid (by simp [hkb])
        go_wp2_with (refine wpList_store_row rfl 75 (.tmp 7) (.tmp 25) rfl wr.heap.size #[.int .i64 a0, str a1, str a2, a3] rfl rfl 75 _ HB0.out (by kernel_rfl) (by rfl) Ha3.out ?_; generalize (wr.alloc (.cells #[.int .i64 0, .string { data := #[] }, .string { data := #[] }, .pointer none] 75)).setRow wr.heap.size #[.int .i64 a0, str a1, str a2, a3] = w5 at B1 O1 D1 ⊢)
        exact ⟨⟨k + 1, by omega, by go_num, by rw [HSNo.out, HG.out]; exact D1, O1⟩, by simp [intOf]; omega⟩
    · obtain rfl : k = D.pending.length := by omega
      rw [List.take_length] at hD
      obtain ⟨l1, hl1⟩ : ∃ l1, l1 = lastT D.last D.pending bn := ⟨_, rfl⟩
      rw [← hl1] at hD
      have HL1 := Lib.hid hl1
      have hlen1 : l1.length < 1000000 := by have := length_lastT D.pending D.last bn; rw [hl1]; omega
      clear hl1 hk hlt hpg hpc c3
      have hmm := @run_makeMap Try.prog
      have hD0 := hD.kept ((Only.refl (fun b => wr.heap.size ≤ b) wr).alloc (.map #[] 0)) (fun b hb e => by have := hD.foot_lt b hb; omega)
      have KS := Lib.hid (callsIn_wide.1 (Try.maps_Keys_37 (some L.ms) (wr.alloc (.map #[] 0))))
      have SS := Lib.hid (sorted_keys (wr.alloc (.map #[] 0)) L.ms _ _ l1 hD0.last hlen1)
      rw [size_alloc'] at KS SS
      have P0 := PSet.made wr
      have e2 : (wr.alloc (.map #[] 0)).cell? ⟨L.p, 2, none⟩ = some (.map (some L.ms)) := hD0.blk.cell 2
      have HD0 := Lib.hid hD0
      have HDw := Lib.hid hD
      clear hD0 hD
      go_wp2_with (first | (go_at_call 37; refine KS.out.mono ?_; rintro e w' ⟨rfl, rfl⟩) | (go_at_call 36; refine SS.out.mono ?_; rintro e w6 ⟨v, rfl, hrow, hnil, hb6⟩; obtain ⟨A6, c6, rfl, hv6c, hv6g⟩ := row_form hrow; have Hrow := Lib.hid hrow; have Hb6 := Lib.hid hb6; clear hrow hb6 hnil))
      have ob6 : Only (fun _ => False) ((wr.alloc (.map #[] 0)).alloc (.cells #[.map (some L.ms)] 61)) w6 := (Only.refl _ _).below Hb6.out (by simp)
      have D6 := HD0.out.kept ((((Only.refl (fun b => wr.heap.size + 1 ≤ b) (wr.alloc (.map #[] 0))).alloc (.cells #[.map (some L.ms)] 61))).trans ob6 (fun _ e => e.elim)) (fun b hb e => by have := HDw.out.foot_lt b hb; omega)
      have P6 := (P0.only ((Only.refl (fun _ => False) _).alloc (.cells #[.map (some L.ms)] 61)) id).only ob6 id
      have O6 : Only L.foot w w6 := ((ho.alloc (.map #[] 0)).alloc (.cells #[.map (some L.ms)] 61)).trans ob6 (fun _ e => e.elim)
      have l6 : wr.heap.size + 2 ≤ w6.heap.size := by have := ob6.size; simpa using this
      have hR0 : CrRel w6 L D l1 sn wr.heap.size (wr.heap.size + 1 + 1) (.slice A6 l1.length c6) 0 0 ⟨D.now, D.sure, [], sn⟩ := ⟨rfl, by simp, Nat.le_refl _, D6, P6, by simp, Hrow.out, hsN, hsS⟩
      have HwL := Lib.hid (fun b (hb : L.foot b) => HDw.out.foot_lt b hb)
      have hwr := ho.size
      clear D6 P6 P0 ob6 e2 HD0 HDw KS SS ho hmm Hrow Hb6
      generalize wr.heap.size = sm at hR0 l6 HwL hwr ⊢
      go_loopw [51, 9, 11, 12, 13] (fun ix i _ _ _ W => ∃ (m j : Nat) (c : Cr), m ≤ l1.length ∧ ix = .int .i64 m ∧ i = .int .i64 j ∧ CrRel W L D l1 sn sm (sm + 1 + 1) (.slice A6 l1.length c6) m j c ∧ Only L.foot w W) (fun ix _ _ _ _ _ => l1.length - (intOf ix).toNat)
      case atStart => exact ⟨0, 0, _, Nat.zero_le _, rfl, rfl, hR0, O6⟩
      case round =>
        clear hR0 O6
        obtain ⟨m, j, c, hm, rfl, rfl, hR, hO⟩ := hrel
        by_cases hmlt : m < l1.length
        · obtain ⟨g6, rfl⟩ := hv6g (by omega)
          have e2 : wr.cell? ⟨L.p, 2, none⟩ = some (.map (some L.ms)) := hR.disk.blk.cell 2
          have k6 : wr.cell? ⟨g6, m, none⟩ = some (str l1[m].1) := hR.cell hmlt rfl
          have HKY := Lib.hid (hR.key hmlt)
          have hq := hR.lt hmlt
          have HFS1 := Lib.hid (find_self (names_pairwise hR.disk.last) hmlt)
          have HNB := Lib.hid (hR.disk.nodes _ hq)
          have HSM := Lib.hid (seen_map L.bs hR.disk.nodup c.seen hR.seen l1[m].2 hq)
          have HR := Lib.hid hR
          have hjm := hR.jm
          clear hR
          generalize hp1 : l1[m].1 = s1 at k6 HKY HFS1
          have HP1 := Lib.hid hp1
          clear hp1
          obtain ⟨nb, hnb⟩ : ∃ nb, L.bs.getD l1[m].2 0 = nb := ⟨_, rfl⟩
          rw [hnb] at HNB HSM
          have Hnb := Lib.hid hnb
          clear hnb
          cases hsb : c.seen.contains l1[m].2 with
          | true =>
            rw [hsb] at HSM
            have Hsb := Lib.hid hsb
            clear hsb
            go_wp2_with (at_lookup; first | (refine look_val _ rfl _ _ rfl L.ms _ _ _ rfl HR.out.disk.last s1 rfl HKY.out _ HFS1.out (.pointer (some ⟨nb, 0, none⟩)) (by rw [← Hnb.out]; rfl) ?_) | (refine wpList_look_ptr _ rfl _ _ rfl Try.underlying73 hin hsz Try.underlying77 rfl sm _ HR.out.set HR.out.nodes nb _ _ HNB.out rfl rfl ?_; rw [HSM.out]))
            exact ⟨⟨m + 1, j, c, by omega, by go_num, rfl, HR.out.skip hmlt Hsb.out, hO⟩, by simp [intOf]; omega⟩
          | false =>
            rw [hsb] at HSM
            have Hsb := Lib.hid hsb
            clear hsb
            have HMASK := Lib.hid HR.out.masks
            by_cases hj : j < sn.length
            · obtain ⟨ab, ao, rfl, hca⟩ := (HSN.out.only hO (fun a ha => HFS.out (by rintro rfl; simp at hj) a ha)).at_ (k := j) (u := .int .u64 (sn[j] : Int)) (by simp [hj])
              have Hmk6 := Lib.hid (HS6.out sn[j] (List.getElem_mem hj))
              have Hmk : Hid (c.masks.headD 0 = sn[j]) := Lib.hid (by rw [HMASK.out]; simp [List.headD_eq_head?_getD, hj])
              generalize sn[j] = mk at hca Hmk6 Hmk
              go_wp2_with (at_lookup; first | (refine look_val _ rfl _ _ rfl L.ms _ _ _ rfl HR.out.disk.last s1 rfl HKY.out _ HFS1.out (.pointer (some ⟨nb, 0, none⟩)) (by rw [← Hnb.out]; rfl) ?_) | (refine wpList_look_ptr _ rfl _ _ rfl Try.underlying73 hin hsz Try.underlying77 rfl sm _ HR.out.set HR.out.nodes nb _ _ HNB.out rfl rfl ?_; rw [HSM.out]))
              have HQ := Lib.hid hq
              refine (kept_any wr nb _ _ mk HNB.out Hmk6.out (HR.out.now.getD _) (HR.out.sure.getD _)).mono ?_
              rintro e w7 ⟨rfl, hb7⟩
              have hB7 := HNB.out.below hb7 HNB.out.lt
              have f0 := hB7.free 0
              have f1 := hB7.free 1
              obtain ⟨x0, n0⟩ := hB7.at 0 (by simp)
              obtain ⟨x1, n1⟩ := hB7.at 1 (by simp)
              obtain ⟨t, ht⟩ : ∃ t, t = keptT (c.now.getD l1[m].2 []) (c.sure.getD l1[m].2 []) mk := ⟨_, rfl⟩
              rw [← ht]
              have HM := Lib.hid (crash_mem HR.out hmlt hb7 Hnb.out t HwL.out (by omega))
              have HB7 := Lib.hid hb7
              have Ht := Lib.hid ht
              clear hB7 hb7 ht
              go_wp2_with (at_mapUpdate; refine wpList_put_ptr _ rfl _ _ _ rfl Try.underlying73 hin hsz Try.underlying77 sm _ HM.out.2.1 (fun k hk => by obtain ⟨i, hi, rfl⟩ := List.mem_map.1 hk; exact ⟨_, _, HM.out.1.nodes i (HR.out.seen i hi)⟩) nb _ _ HM.out.2.2.1 HSM.out rfl rfl rfl ?_; intro w9 hp9 hg9)
              have e9 : t = keptT (c.now.getD l1[m].2 []) (c.sure.getD l1[m].2 []) (c.masks.headD 0) := by rw [Hmk.out]; exact Ht.out
              have h9 := crash_map HM.out.1 HM.out.2.2.2.1 hg9 HwL.out (by omega)
              exact ⟨⟨m + 1, j + 1, crashOne c l1[m].2, by omega, by go_num, by go_num, HR.out.step hmlt Hsb.out HQ.out (by rw [← e9]; exact h9.1) (by rw [Hnb.out]; exact hp9) h9.2, (hO.trans HM.out.2.2.2.2 (fun _ e => .inl e)).trans (turned_only hg9) (fun _ e => .inr (by omega))⟩, by simp [intOf]; omega⟩
            · have Hmk6 : Hid (0 < 18446744073709551616) := Lib.hid (by decide)
              have Hmk : Hid (c.masks.headD 0 = 0) := Lib.hid (by rw [HMASK.out, List.drop_of_length_le (by omega)]; rfl)
              go_wp2_with (at_lookup; first | (refine look_val _ rfl _ _ rfl L.ms _ _ _ rfl HR.out.disk.last s1 rfl HKY.out _ HFS1.out (.pointer (some ⟨nb, 0, none⟩)) (by rw [← Hnb.out]; rfl) ?_) | (refine wpList_look_ptr _ rfl _ _ rfl Try.underlying73 hin hsz Try.underlying77 rfl sm _ HR.out.set HR.out.nodes nb _ _ HNB.out rfl rfl ?_; rw [HSM.out]))
              have HQ := Lib.hid hq
              refine (kept_any wr nb _ _ 0 HNB.out Hmk6.out (HR.out.now.getD _) (HR.out.sure.getD _)).mono ?_
              rintro e w7 ⟨rfl, hb7⟩
              have hB7 := HNB.out.below hb7 HNB.out.lt
              have f0 := hB7.free 0
              have f1 := hB7.free 1
              obtain ⟨x0, n0⟩ := hB7.at 0 (by simp)
              obtain ⟨x1, n1⟩ := hB7.at 1 (by simp)
              obtain ⟨t, ht⟩ : ∃ t, t = keptT (c.now.getD l1[m].2 []) (c.sure.getD l1[m].2 []) 0 := ⟨_, rfl⟩
              rw [← ht]
              have HM := Lib.hid (crash_mem HR.out hmlt hb7 Hnb.out t HwL.out (by omega))
              have HB7 := Lib.hid hb7
              have Ht := Lib.hid ht
              clear hB7 hb7 ht
              go_wp2_with (at_mapUpdate; refine wpList_put_ptr _ rfl _ _ _ rfl Try.underlying73 hin hsz Try.underlying77 sm _ HM.out.2.1 (fun k hk => by obtain ⟨i, hi, rfl⟩ := List.mem_map.1 hk; exact ⟨_, _, HM.out.1.nodes i (HR.out.seen i hi)⟩) nb _ _ HM.out.2.2.1 HSM.out rfl rfl rfl ?_; intro w9 hp9 hg9)
              have e9 : t = keptT (c.now.getD l1[m].2 []) (c.sure.getD l1[m].2 []) (c.masks.headD 0) := by rw [Hmk.out]; exact Ht.out
              have h9 := crash_map HM.out.1 HM.out.2.2.2.1 hg9 HwL.out (by omega)
              exact ⟨⟨m + 1, j + 1, crashOne c l1[m].2, by omega, by go_num, by go_num, HR.out.step hmlt Hsb.out HQ.out (by rw [← e9]; exact h9.1) (by rw [Hnb.out]; exact hp9) h9.2, (hO.trans HM.out.2.2.2.2 (fun _ e => .inl e)).trans (turned_only hg9) (fun _ e => .inr (by omega))⟩, by simp [intOf]; omega⟩
        · obtain rfl : m = l1.length := by omega
          have e2 : wr.cell? ⟨L.p, 2, none⟩ = some (.map (some L.ms)) := hR.disk.blk.cell 2
          have HR := Lib.hid hR
          clear hR hm hmlt hv6g hv6c l6
          go_wp2_with fail
          refine (clone_ok _ _ _ _ HR.out.disk.last).mono ?_
          rintro e w7 ⟨rfl, hn7, hm7, hb7⟩
          have hB7 := HR.out.disk.blk.below hb7 HR.out.disk.blk.lt
          have f1 := hB7.free 1
          have f3 := hB7.free 3
          have f5 := hB7.free 5
          have f6 := hB7.free 6
          obtain ⟨x1, n1⟩ := hB7.at 1 (by simp [diskC])
          obtain ⟨x3, n3⟩ := hB7.at 3 (by simp [diskC])
          obtain ⟨x5, n5⟩ := hB7.at 5 (by simp [diskC])
          obtain ⟨x6, n6⟩ := hB7.at 6 (by simp [diskC])
          have HN7 := Lib.hid hn7
          have HB7 := Lib.hid hb7
          clear hn7 hm7 hb7 hB7
          have H8 := Lib.hid (HR.out.disk.crashed HB7.out HN7.out)
          go_wp2
          (try simp only [Act.put]); first | refine bodyPost_ret (results_none rfl _ _ _) rfl ?_ | refine bodyPost_end (results_none rfl _ _ _) rfl ?_
          refine ⟨rfl, ?_⟩
          have hv : crashD D bn sn = { D with now := c.now, sure := c.sure, names := l1, last := l1, pending := [], fuse := -1, down := false } := by
            unfold crashD
            simp only
            rw [← HL1.out]
            have e := HR.out.eq
            unfold crashN at e
            rw [List.take_of_length_le (by simp)] at e
            rw [← e]
          rw [hv]
          refine ⟨{ L with mn := wr.heap.size, pv := .slice none 0 0 }, rfl, H8.out.1, hO.trans H8.out.2 (fun _ e => .inl e), fun b hb => ?_⟩
          have l9 := hO.size
          rcases hb with e | e | e | e | e
          · exact .inl (.inl e)
          · right; dsimp only at e; omega
          · exact .inl (.inr (.inr (.inl e)))
          · exact .inl (.inr (.inr (.inr (.inl e))))
          · simp [Value.ownBlock] at e
end Go.Proofs.Ytkbmhghellimcaa
