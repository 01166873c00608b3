/- How a disk lies in memory; the walks of its small functions. -/
import Derived.Test.YtkbmhghellimcaaDskb
import Derived.Test.YtkbmhghellimcaaOnly
import Derived.Maps.RangeWalk
namespace Go.Proofs.Ytkbmhghellimcaa
open Go.RowKit
open Go.Maps (Keyed)
attribute [local go_sem] size_str get_str

structure Lay where
  p : Nat
  mn : Nat
  ms : Nat
  pv : Value
  bs : List Nat

def nodeV (bs : List Nat) (i : Nat) : Value := .pointer (some ⟨bs.getD i 0, 0, none⟩)
def turnV (bs : List Nat) (t : TurnS) : List Value := [.int .i64 t.kind, str t.src, str t.dst, if t.kind = 1 then nodeV bs t.n else .pointer none]
def diskC (L : Lay) (D : DiskS) : Array Value := #[.int .i64 D.room, .map (some L.mn), .map (some L.ms), L.pv, .int .i64 D.steps, .int .i64 D.fuse, .bool D.down]

structure DiskAt (w : World) (L : Lay) (D : DiskS) : Prop where
  blk : Blk w L.p 64 (diskC L D)
  names : w.ownsMap Try.prog 9 raw L.mn D.names.length (mapD (nodeV L.bs) D.names)
  last : w.ownsMap Try.prog 9 raw L.ms D.last.length (mapD (nodeV L.bs) D.last)
  ne : L.mn ≠ L.ms
  nodes : ∀ i, i < L.bs.length → Blk w (L.bs.getD i 0) 79 #[str (D.now.getD i []), str (D.sure.getD i [])]
  nlen : L.bs.length = D.now.length
  nodup : L.bs.Nodup
  pend : w.ownsRow 0 75 4 L.pv D.pending.length (D.pending.flatMap (turnV L.bs))
  ok : D.Ok
  fuse : -1 ≤ D.fuse ∧ D.fuse < 1000000000
  steps : D.steps < 1000000000
  room : D.room ≤ 65536
  npend : D.pending.length < 1000000

def Lay.foot (L : Lay) (b : Nat) : Prop := b = L.p ∨ b = L.mn ∨ b = L.ms ∨ b ∈ L.bs ∨ L.pv.ownBlock = some b

/-- What an act leaves: the disk at the same place, as D' says; nothing else has turned. -/
def Left (w : World) (L : Lay) (D' : DiskS) (w' : World) : Prop :=
  ∃ L', L'.p = L.p ∧ DiskAt w' L' D' ∧ Only L.foot w w' ∧ ∀ b, L'.foot b → L.foot b ∨ w.heap.size ≤ b

section
variable {w w' : World} {L : Lay} {D : DiskS}
theorem DiskAt.foot_lt (h : DiskAt w L D) (b : Nat) (hb : L.foot b) : b < w.heap.size := by
  rcases hb with rfl | rfl | rfl | hb | hb
  · exact h.blk.lt
  · exact h.names.lt
  · exact h.last.lt
  · obtain ⟨i, hi, rfl⟩ := List.mem_iff_getElem.1 hb
    have := (h.nodes i hi).lt
    rwa [List.getD_eq_getElem?_getD, List.getElem?_eq_getElem hi] at this
  · exact (h.pend.lt b hb).2
/-- The disk stays what it is while nothing of it is written. -/
theorem DiskAt.kept (h : DiskAt w L D) {S : Nat → Prop} (ho : Only S w w') (hs : ∀ b, L.foot b → ¬ S b) : DiskAt w' L D where
  blk := h.blk.only ho (hs _ (.inl rfl))
  names := map_only h.names ho (hs _ (.inr (.inl rfl)))
  last := map_only h.last ho (hs _ (.inr (.inr (.inl rfl))))
  ne := h.ne
  nodes i hi := (h.nodes i hi).only ho (hs _ (.inr (.inr (.inr (.inl (by rw [List.getD_eq_getElem?_getD, List.getElem?_eq_getElem hi]; exact List.getElem_mem _))))))
  nlen := h.nlen
  nodup := h.nodup
  pend := own_only h.pend ho (fun i hi => hs _ (.inr (.inr (.inr (.inr hi)))))
  ok := h.ok
  fuse := h.fuse
  steps := h.steps
  room := h.room
  npend := h.npend
theorem DiskAt.below (h : DiskAt w L D) {B : Nat} (hb : Below B w w') (hB : w.heap.size ≤ B) : DiskAt w' L D :=
  h.kept ((Only.refl (fun _ => False) w).below hb hB) (fun _ _ => id)
theorem Left.refl (h : DiskAt w L D) : Left w L D w := ⟨L, rfl, h, Only.refl _ _, fun _ hb => .inl hb⟩
theorem Left.of (h : DiskAt w' L D) (ho : Only L.foot w w') : Left w L D w' := ⟨L, rfl, h, ho, fun _ hb => .inl hb⟩
theorem DiskAt.bs_mem (_h : DiskAt w L D) {i : Nat} (hi : i < L.bs.length) : L.bs.getD i 0 ∈ L.bs := by
  rw [List.getD_eq_getElem?_getD, List.getElem?_eq_getElem hi]; exact List.getElem_mem _
theorem DiskAt.node_ne (h : DiskAt w L D) {i : Nat} (hi : i < L.bs.length) : L.bs.getD i 0 ≠ L.p ∧ L.bs.getD i 0 ≠ L.mn ∧ L.bs.getD i 0 ≠ L.ms ∧ L.pv.ownBlock ≠ some (L.bs.getD i 0) :=
  ⟨(h.nodes i hi).ne_ h.blk (by decide), (map_blk_ne h.names (h.nodes i hi)).symm, (map_blk_ne h.last (h.nodes i hi)).symm, own_blk_ne h.pend (h.nodes i hi) (by decide)⟩
theorem DiskAt.p_ne (h : DiskAt w L D) : L.mn ≠ L.p ∧ L.ms ≠ L.p ∧ L.pv.ownBlock ≠ some L.p ∧ L.pv.ownBlock ≠ some L.mn ∧ L.pv.ownBlock ≠ some L.ms :=
  ⟨map_blk_ne h.names h.blk, map_blk_ne h.last h.blk, own_blk_ne h.pend h.blk (by decide), map_own_ne h.names h.pend, map_own_ne h.last h.pend⟩
theorem node_inj (h : DiskAt w L D) {i j : Nat} (hi : i < L.bs.length) (hj : j < L.bs.length) (e : L.bs.getD i 0 = L.bs.getD j 0) : i = j := by
  rw [List.getD_eq_getElem?_getD, List.getD_eq_getElem?_getD, List.getElem?_eq_getElem hi, List.getElem?_eq_getElem hj] at e
  exact (List.getElem_inj h.nodup).1 e
end

/-! the maps of names -/
theorem keyed : Keyed Try.prog 9 := Maps.string_keyed Try.underlying9
theorem key_str (s : Str) (h : s.length ≤ maxLen) : keyOf Try.prog 9 (str s) = some (.string s) := by
  have := WideMaps.keyOf_string_mk (P := Try.prog) (k := 9) Try.underlying9 (s := ⟨s.toArray⟩) (by simpa [ByteArray.size] using h)
  simpa using this
theorem zero_node (w : World) : (zeroValue 73).run Try.prog w = .ok (.pointer none) w := by kernel_rfl

section
variable (w : World) {ops : Array Oper} {rest : List Oper} {o : Oper} {a : Act} {Q : Exit → Act → World → Prop}
theorem look_some (hg : o.guard = none) (m x : Operand) (hop : o.op = Op.lookup 61 m x true) (b n : Nat) (f : Nat → Value) (l : Names) (hm : a.eval m = .map (some b)) (hown : w.ownsMap Try.prog 9 raw b n (mapD f l))
    (s : Str) (hx : a.eval x = str s) (hs : s.length ≤ maxLen) (i : Nat) (hi : findN s l = some i) (v : Value) (hv : f i = v) (hK : wpList Try.prog ops Q rest (a.put o.dst (.tuple #[v, .bool true])) w) : wpList Try.prog ops Q (o :: rest) a w := by
  refine wpList_lookup_own_ok w hg m x _ hop _ 73 keyed Try.underlying61 raw (zero_node w) (.held (.pointer none)) [] rfl b n _ hm hown _ _ hx (key_str s hs) (fun v ps hv => ?_)
  subst_vars
  rw [atKey_mapD, hi] at hv
  obtain ⟨rfl, _⟩ : v = f i ∧ ps = [] := by simpa [raw] using hv
  rw [has_mapD, hi]
  exact hK
theorem look_none (hg : o.guard = none) (m x : Operand) (hop : o.op = Op.lookup 61 m x true) (b n : Nat) (f : Nat → Value) (l : Names) (hm : a.eval m = .map (some b)) (hown : w.ownsMap Try.prog 9 raw b n (mapD f l))
    (s : Str) (hx : a.eval x = str s) (hs : s.length ≤ maxLen) (hi : findN s l = none) (hK : wpList Try.prog ops Q rest (a.put o.dst (.tuple #[.pointer none, .bool false])) w) : wpList Try.prog ops Q (o :: rest) a w := by
  refine wpList_lookup_own_ok w hg m x _ hop _ 73 keyed Try.underlying61 raw (zero_node w) (.held (.pointer none)) [] rfl b n _ hm hown _ _ hx (key_str s hs) (fun v ps hv => ?_)
  rw [atKey_mapD, hi] at hv
  obtain ⟨rfl, _⟩ : v = .pointer none ∧ ps = [] := by simpa [raw] using hv
  rw [has_mapD, hi]
  exact hK
theorem len_map (hg : o.guard = none) (m : Operand) (hop : o.op = Op.call { callee := Callee.builtin Builtin.len, args := #[m], argTypes := #[61] })
    (b n : Nat) (f : Nat → Value) (l : Names) (hm : a.eval m = .map (some b)) (hown : w.ownsMap Try.prog 9 raw b n (mapD f l)) (hK : wpList Try.prog ops Q rest (a.put o.dst (.int .i64 l.length)) w) : wpList Try.prog ops Q (o :: rest) a w := by
  refine wpList_len_own w hg m _ hop _ 73 Try.underlying61 raw b n _ hm hown ?_
  rw [size_mapD]
  exact hK
theorem put_names (hg : o.guard = none) (m x v : Operand) (hop : o.op = Op.mapUpdate 61 m x v) (b n : Nat) (f : Nat → Value) (l : Names) (hm : a.eval m = .map (some b)) (hown : w.ownsMap Try.prog 9 raw b n (mapD f l))
    (s : Str) (hx : a.eval x = str s) (hs : s.length ≤ maxLen) (i : Nat) (hv : a.eval v = f i) (hn : n < maxLen) (hK : ∀ w', w'.ownsMap Try.prog 9 raw b (n + 1) (mapD f (putN s i l)) → w.mapTurned w' b → wpList Try.prog ops Q rest (a.put o.dst undef) w') : wpList Try.prog ops Q (o :: rest) a w :=
  wpList_mapUpdate_in w hg m x v _ hop _ 73 keyed Try.underlying61 raw b n _ hm hown hn _ _ _ hx hv (key_str s hs) (.held (f i)) [] rfl (fun w' h1 h2 => hK w' (by rw [← put_mapD]; exact h1) h2)
theorem del_names (hg : o.guard = none) (m x : Operand) (hop : o.op = Op.call { callee := Callee.builtin Builtin.delete, args := #[m, x], argTypes := #[61, 9] }) (b n : Nat) (f : Nat → Value) (l : Names) (hm : a.eval m = .map (some b)) (hown : w.ownsMap Try.prog 9 raw b n (mapD f l))
    (s : Str) (hx : a.eval x = str s) (hs : s.length ≤ maxLen) (hK : ∀ w', w'.ownsMap Try.prog 9 raw b n (mapD f (delN s l)) → w.mapTurned w' b → wpList Try.prog ops Q rest (a.put o.dst (.tuple #[])) w') : wpList Try.prog ops Q (o :: rest) a w :=
  wpList_delete_own w hg m x _ _ hop 73 keyed Try.underlying61 raw b n _ hm hown _ _ hx (key_str s hs) (fun w' h1 h2 => hK w' (by rw [← del_mapD]; exact h1) h2)
theorem names_len {b n : Nat} {f : Nat → Value} {l : Names} (h : w.ownsMap Try.prog 9 raw b n (mapD f l)) : w.ownsMap Try.prog 9 raw b l.length (mapD f l) := by
  obtain ⟨es, clock, hb, F, hs, hD⟩ := h
  refine ⟨es, clock, hb, F, ?_, hD⟩
  have := congrArg Maps.size hD
  rw [size_mapD] at this
  simp [Maps.size, length_sorted] at this
  omega
end

/-! the small functions -/
theorem on_any (w : World) (p : Nat) (d : Bool) (h : w.cell? ⟨p, 6, none⟩ = some (.bool d)) :
    Calls Try.prog 35 #[.pointer (some ⟨p, 0, none⟩)] w fun e w' => e = .returned (.int .i64 (if d then 15 else 0)) ∧ w = w' := by
  go_enter Try.func35, Try.ntmps35
  cases d
  all_goals
    go_wp2
    go_ret
    exact ⟨rfl, rfl⟩
theorem name_any (w : World) (s : Str) :
    Calls Try.prog 50 #[str s] w fun e w' => e = .returned (.bool (nameB s)) ∧ w = w' := by
  have H := Lib.hid (show nameB s = (!s.isEmpty && decide (s.length ≤ 32)) from rfl)
  go_enter Try.func50, Try.ntmps50
  go_wp2
  all_goals
    go_ret
    refine ⟨?_, rfl⟩
    rw [H.out]
    cases s <;> simp_all <;> omega

theorem DiskAt.turn {w w' : World} {L : Lay} {D : DiskS} (h : DiskAt w L D) {f : Int} {s : Nat} {d : Bool} (ho : Only (· = L.p) w w') (hb : Blk w' L.p 64 (diskC L { D with fuse := f, steps := s, down := d })) (hf : -1 ≤ f ∧ f < 1000000000) (hs : s < 1000000000) :
    DiskAt w' L { D with fuse := f, steps := s, down := d } where
  blk := hb
  names := map_only h.names ho h.p_ne.1
  last := map_only h.last ho h.p_ne.2.1
  ne := h.ne
  nodes i hi := (h.nodes i hi).only ho (h.node_ne hi).1
  nlen := h.nlen
  nodup := h.nodup
  pend := own_only h.pend ho (fun i hi e => h.p_ne.2.2.1 (by rw [hi, e]))
  ok := ⟨h.ok.len, h.ok.names, h.ok.last, h.ok.pend, h.ok.kinds, h.ok.plen⟩
  fuse := hf
  steps := hs
  room := h.room
  npend := h.npend
theorem DiskAt.turn_left {w w' : World} {L : Lay} {D : DiskS} (h : DiskAt w L D) {f : Int} {s : Nat} {d : Bool} (ho : Only (· = L.p) w w') (hb : Blk w' L.p 64 (diskC L { D with fuse := f, steps := s, down := d })) (hf : -1 ≤ f ∧ f < 1000000000) (hs : s < 1000000000) :
    Left w L { D with fuse := f, steps := s, down := d } w' :=
  ⟨L, rfl, h.turn ho hb hf hs, ho.mono (fun _ _ e => .inl e), fun _ hb => .inl hb⟩

theorem step_any (w : World) (L : Lay) (D : DiskS) (h : DiskAt w L D) (hst : D.steps < 999999999) :
    Calls Try.prog 52 #[.pointer (some ⟨L.p, 0, none⟩)] w fun e w' => e = .returned (.int .i64 (stepE D)) ∧ DiskAt w' L (stepD D) ∧ Only (· = L.p) w w' := by
  have c4 : w.cell? ⟨L.p, 4, none⟩ = some (.int .i64 D.steps) := h.blk.cell 4
  have c5 : w.cell? ⟨L.p, 5, none⟩ = some (.int .i64 D.fuse) := h.blk.cell 5
  have c6 : w.cell? ⟨L.p, 6, none⟩ = some (.bool D.down) := h.blk.cell 6
  have f4 := h.blk.free 4
  have f5 := h.blk.free 5
  have f6 := h.blk.free 6
  have hf := h.fuse
  by_cases h0 : D.fuse = 0
  · have H := Lib.hid (show stepE D = 15 by simp [stepE, h0])
    have HD := Lib.hid (show stepD D = { D with down := true } by simp [stepD, h0])
    have he : (D.fuse == 0) = true := by rw [beq_iff_eq]; exact h0
    have H0 := Lib.hid h0
    clear h0
    go_enter Try.func52, Try.ntmps52
    go_wp2
    go_ret
    refine ⟨by rw [H.out]; rfl, ?_⟩
    rw [HD.out]
    have ho := (Only.refl (· = L.p) w).setCell (p := ⟨L.p, 6, none⟩) (.inl rfl) (.bool true)
    exact ⟨h.turn ho (h.blk.set 6 _) hf h.steps, ho⟩
  · have H := Lib.hid (show stepE D = 0 by simp [stepE, h0])
    have he : (D.fuse == 0) = false := by rw [beq_eq_false_iff_ne]; exact h0
    by_cases hp : 0 < D.fuse
    · have HD := Lib.hid (show stepD D = { D with fuse := D.fuse - 1, steps := D.steps + 1 } by simp [stepD, h0, hp])
      clear h0
      go_enter Try.func52, Try.ntmps52
      go_wp2
      go_ret
      refine ⟨by rw [H.out]; rfl, ?_⟩
      rw [HD.out]
      have ho := ((Only.refl (· = L.p) w).setCell (p := ⟨L.p, 5, none⟩) (.inl rfl) (.int .i64 (D.fuse - 1))).setCell (p := ⟨L.p, 4, none⟩) (.inl rfl) (.int .i64 ((D.steps : Int) + 1))
      exact ⟨h.turn ho ((h.blk.set 5 _).set 4 _) ⟨by omega, by omega⟩ (by omega), ho⟩
    · have HD := Lib.hid (show stepD D = { D with steps := D.steps + 1 } by simp [stepD, h0, hp])
      clear h0
      go_enter Try.func52, Try.ntmps52
      go_wp2
      go_ret
      refine ⟨by rw [H.out]; rfl, ?_⟩
      rw [HD.out]
      have ho := (Only.refl (· = L.p) w).setCell (p := ⟨L.p, 4, none⟩) (.inl rfl) (.int .i64 ((D.steps : Int) + 1))
      exact ⟨h.turn ho (h.blk.set 4 _) hf (by omega), ho⟩

def thereV (L : Lay) (D : DiskS) (s : Str) : Value := .tuple #[if thereE D s = 0 then (match findN s D.names with | some n => nodeV L.bs n | none => .pointer none) else .pointer none, .int .i64 (thereE D s)]
theorem there_any (w : World) (L : Lay) (D : DiskS) (h : DiskAt w L D) (s : Str) (hs : s.length ≤ maxLen) :
    Calls Try.prog 55 #[.pointer (some ⟨L.p, 0, none⟩), str s] w fun e w' => e = .returned (thereV L D s) ∧ w = w' := by
  have c1 : w.cell? ⟨L.p, 1, none⟩ = some (.map (some L.mn)) := h.blk.cell 1
  have c6 : w.cell? ⟨L.p, 6, none⟩ = some (.bool D.down) := h.blk.cell 6
  have H := Lib.hid (show thereV L D s = .tuple #[if thereE D s = 0 then (match findN s D.names with | some n => nodeV L.bs n | none => .pointer none) else .pointer none, .int .i64 (thereE D s)] from rfl)
  have HE := Lib.hid (show thereE D s = if D.down then 15 else if (findN s D.names).isNone then 12 else 0 from rfl)
  have hon := on_any w L.p D.down c6
  have HN := Lib.hid h.names
  clear h
  cases hd : D.down
  · rw [hd] at hon
    have Hd := Lib.hid hd
    clear c6 hd
    cases hfn : findN s D.names with
    | none =>
      have Hf := Lib.hid hfn
      clear hfn
      go_enter Try.func55, Try.ntmps55
      go_wp2_with (first | (go_at_call 35; refine hon.mono ?_; rintro e w' ⟨rfl, rfl⟩) | (at_lookup; refine look_none _ rfl _ _ rfl L.mn _ _ _ rfl HN.out s rfl hs Hf.out ?_))
      go_ret2
      refine ⟨?_, rfl⟩
      rw [H.out, HE.out, Hd.out, Hf.out]
      rfl
    | some n =>
      have Hf := Lib.hid hfn
      clear hfn
      go_enter Try.func55, Try.ntmps55
      go_wp2_with (first | (go_at_call 35; refine hon.mono ?_; rintro e w' ⟨rfl, rfl⟩) | (at_lookup; refine look_some _ rfl _ _ rfl L.mn _ _ _ rfl HN.out s rfl hs n Hf.out _ rfl ?_))
      go_ret2
      refine ⟨?_, rfl⟩
      rw [H.out, HE.out, Hd.out, Hf.out]
      rfl
  · rw [hd] at hon
    have Hd := Lib.hid hd
    clear c6 hd
    go_enter Try.func55, Try.ntmps55
    go_wp2_with (go_at_call 35; refine hon.mono ?_; rintro e w' ⟨rfl, rfl⟩)
    go_ret2
    refine ⟨?_, rfl⟩
    rw [H.out, HE.out, Hd.out]
    rfl
end Go.Proofs.Ytkbmhghellimcaa
