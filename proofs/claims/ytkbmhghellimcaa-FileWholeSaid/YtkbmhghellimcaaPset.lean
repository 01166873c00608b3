/- A set of pointers: map[*T]bool. -/
import Derived.Test.YtkbmhghellimcaaOnly
import Derived.LaidEqlPtr
import Derived.Maps.OwnOps
namespace Go.Proofs.Ytkbmhghellimcaa
open Go.RowKit

def ptr (b : Nat) : Value := .pointer (some ⟨b, 0, none⟩)
theorem ptr_inj {a b : Nat} (h : ptr a = ptr b) : a = b := by simpa [ptr] using h

section
variable {P : Program} {w : World} {tp te tm tb : TypeId} {j : TypeInfo}

theorem equal_ptr (hp : P.underlying tp = some (.pointer te)) (hte : P.info? te = some j) (hsz : j.size ≠ 0) {a b : Nat} {ta tb : TypeId} {ca cb : Array Value} (ha : Blk w a ta ca) (hb : Blk w b tb cb) : (Op.equal tp (ptr a) (ptr b)).run P w = .ok (a == b) w := by
  unfold ptr
  by_cases e : a = b
  · subst e
    have h : ∀ d : Nat, (Op.equalIn (d + 1) tp (.pointer (some ⟨a, 0, none⟩)) (.pointer (some ⟨a, 0, none⟩))).run P w = .ok true w := fun d => by
      simp [Op.equalIn, run_underlying hp, sizeOf, typeInfo, hte, run_sameAddr_same]
    simp [Op.equal, Op.maxDepth, h 9999]
  · have hne : (⟨a, 0, none⟩ : Addr) ≠ ⟨b, 0, none⟩ := fun h => e (by injection h)
    have h : ∀ d : Nat, (Op.equalIn (d + 1) tp (.pointer (some ⟨a, 0, none⟩)) (.pointer (some ⟨b, 0, none⟩))).run P w = .ok false w := fun d => by
      simp [Op.equalIn, run_underlying hp, sizeOf, typeInfo, hte, hsz, run_sameAddr_other w hne ha hb]
    simp [Op.equal, Op.maxDepth, h 9999, e]

/-- The entries of a set of pointers. -/
def PEnt (ks : List Nat) (es : List MapEntry) : Prop := (∀ e ∈ es, e.val = .bool true ∧ ∃ k, e.key = ptr k ∧ k ∈ ks) ∧ ∀ k ∈ ks, ∃ e ∈ es, e.key = ptr k
def PSet (w : World) (b : Nat) (ks : List Nat) : Prop := ∃ es clock, w.heap[b]? = some (.map es clock) ∧ PEnt ks es.toList

theorem ask_ptr (hp : P.underlying tp = some (.pointer te)) (hte : P.info? te = some j) (hsz : j.size ≠ 0) {x : Nat} {tx : TypeId} {cx : Array Value} (hx : Blk w x tx cx) : ∀ (es : List MapEntry) (i : Nat), (∀ e ∈ es, e.val = .bool true ∧ ∃ k t c, e.key = ptr k ∧ Blk w k t c) →
    ((Instr.findAsking tp (ptr x) es i).run P w = .ok none w ∧ ∀ e ∈ es, e.key ≠ ptr x) ∨ ∃ i', (Instr.findAsking tp (ptr x) es i).run P w = .ok (some (i', .bool true)) w ∧ ∃ e ∈ es, e.key = ptr x
  | [], i, _ => .inl ⟨by simp [Instr.findAsking], by simp⟩
  | e :: es, i, h => by
    obtain ⟨hv, k, t, c, hk, hb⟩ := h e (by simp)
    have heq := equal_ptr (P := P) hp hte hsz hx hb
    by_cases hxk : x = k
    · right
      refine ⟨i, ?_, e, by simp, by rw [hk, hxk]⟩
      simp [Instr.findAsking, hk, heq, hxk, hv, Result.andThen]
      subst hxk
      simp [heq, Result.andThen]
    · have hbf : (x == k) = false := by simpa using hxk
      have hstep : (Instr.findAsking tp (ptr x) (e :: es) i).run P w = (Instr.findAsking tp (ptr x) es (i + 1)).run P w := by
        simp [Instr.findAsking, hk, heq, hbf, Result.andThen]
      rcases ask_ptr hp hte hsz hx es (i + 1) (fun e' he' => h e' (by simp [he'])) with ⟨h1, h2⟩ | ⟨i', h1, e', he', h2⟩
      · left
        refine ⟨hstep.trans h1, fun e' he' => ?_⟩
        rcases List.mem_cons.1 he' with rfl | he'
        · rw [hk]; exact fun e => hxk (ptr_inj e).symm
        · exact h2 e' he'
      · right
        exact ⟨i', hstep.trans h1, e', by simp [he'], h2⟩

theorem findkey_ptr (hp : P.underlying tp = some (.pointer te)) (hte : P.info? te = some j) (hsz : j.size ≠ 0) {x : Nat} {tx : TypeId} {cx : Array Value} (hx : Blk w x tx cx) (es : List MapEntry) (h : ∀ e ∈ es, e.val = .bool true ∧ ∃ k t c, e.key = ptr k ∧ Blk w k t c) :
    ((Instr.findKey tp (ptr x) es).run P w = .ok none w ∧ ∀ e ∈ es, e.key ≠ ptr x) ∨ ∃ i', (Instr.findKey tp (ptr x) es).run P w = .ok (some (i', .bool true)) w ∧ ∃ e ∈ es, e.key = ptr x := by
  cases es with
  | nil => exact .inl ⟨by simp [Instr.findKey, run_underlying hp, Instr.findNow], by simp⟩
  | cons e es =>
    have : (Instr.findKey tp (ptr x) (e :: es)).run P w = (Instr.findAsking tp (ptr x) (e :: es) 0).run P w := by
      simp [Instr.findKey, run_underlying hp, Instr.findNow, Instr.sameNow]
    rw [this]
    exact ask_ptr hp hte hsz hx _ _ h

theorem check_ptr (hp : P.underlying tp = some (.pointer te)) (em : Bool) (n x : Nat) : (Instr.checkKey em (n + 1) tp (ptr x)).run P w = .ok () w := by
  unfold ptr
  simp [Instr.checkKey, run_underlying hp]
theorem PSet.look (hp : P.underlying tp = some (.pointer te)) (hte : P.info? te = some j) (hsz : j.size ≠ 0) (hm : P.underlying tm = some (.map tp tb)) (hz : (zeroValue tb).run P w = .ok (.bool false) w)
    {b : Nat} {ks : List Nat} (h : PSet w b ks) (hks : ∀ k ∈ ks, ∃ t c, Blk w k t c) {x : Nat} {tx : TypeId} {cx : Array Value} (hx : Blk w x tx cx) : (Instr.lookup tm (.map (some b)) (ptr x) false).run P w = .ok (.bool (ks.contains x)) w := by
  obtain ⟨es, clock, hb, h1, h2⟩ := h
  have hc : ∀ em, (Instr.checkKey em 10000 tp (ptr x)).run P w = .ok () w := fun em => check_ptr hp em 9999 x
  rcases findkey_ptr hp hte hsz hx es.toList (fun e he => by obtain ⟨hv, k, hk, hkm⟩ := h1 e he; obtain ⟨t, c, hbk⟩ := hks k hkm; exact ⟨hv, k, t, c, hk, hbk⟩) with ⟨hr, hn⟩ | ⟨i', hr, e, he, hk⟩
  · have hf : ks.contains x = false := by
      rw [← Bool.not_eq_true, List.contains_iff_mem]
      intro hm
      obtain ⟨e, he, hk⟩ := h2 x hm
      exact hn e he hk
    simp [Instr.lookup, run_underlying hm, MapKept.run_getObj_map hb, hc, hr, hz, Result.andThen]
    simpa using hf
  · have hf : ks.contains x = true := by
      rw [List.contains_iff_mem]
      obtain ⟨_, k, hk', hkm⟩ := h1 e he
      rw [hk] at hk'
      rw [ptr_inj hk']
      exact hkm
    simp [Instr.lookup, run_underlying hm, MapKept.run_getObj_map hb, hc, hr, Result.andThen]
    simpa using hf
theorem PSet.put (hp : P.underlying tp = some (.pointer te)) (hte : P.info? te = some j) (hsz : j.size ≠ 0) (hm : P.underlying tm = some (.map tp tb))
    {b : Nat} {ks : List Nat} (h : PSet w b ks) (hks : ∀ k ∈ ks, ∃ t c, Blk w k t c) {x : Nat} {tx : TypeId} {cx : Array Value} (hx : Blk w x tx cx) (hnew : ks.contains x = false) :
    ∃ w', (Instr.mapUpdate tm (.map (some b)) (ptr x) (.bool true)).run P w = .ok () w' ∧ PSet w' b (x :: ks) ∧ w.mapTurned w' b := by
  obtain ⟨es, clock, hb, h1, h2⟩ := h
  have hc : ∀ em, (Instr.checkKey em 10000 tp (ptr x)).run P w = .ok () w := fun em => check_ptr hp em 9999 x
  rcases findkey_ptr hp hte hsz hx es.toList (fun e he => by obtain ⟨hv, k, hk, hkm⟩ := h1 e he; obtain ⟨t, c, hbk⟩ := hks k hkm; exact ⟨hv, k, t, c, hk, hbk⟩) with ⟨hr, hn⟩ | ⟨i', hr, e, he, hk⟩
  · refine ⟨_, by simp [Instr.mapUpdate, run_underlying hm, MapKept.run_getObj_map hb, hc, hr, MapKept.run_setObj_map _ hb, Result.andThen]; rfl, ⟨es.push ⟨ptr x, .bool true, clock⟩, clock + 1, ChangeMaps.heap_setBlock_same hb _, ?_, ?_⟩, ⟨es, clock, es.push ⟨ptr x, .bool true, clock⟩, clock + 1, hb, rfl⟩⟩
    · intro e he
      simp only [Array.toList_push, List.mem_append, List.mem_singleton] at he
      rcases he with he | rfl
      · obtain ⟨hv, k, hk, hkm⟩ := h1 e he
        exact ⟨hv, k, hk, by simp [hkm]⟩
      · exact ⟨rfl, x, rfl, by simp⟩
    · intro k hk
      simp only [Array.toList_push, List.mem_append, List.mem_singleton]
      rcases List.mem_cons.1 hk with rfl | hk
      · exact ⟨_, .inr rfl, rfl⟩
      · obtain ⟨e, he, hk'⟩ := h2 k hk
        exact ⟨e, .inl he, hk'⟩
  · exfalso
    obtain ⟨_, k, hk', hkm⟩ := h1 e he
    rw [hk] at hk'
    rw [ptr_inj hk'] at hnew
    rw [← Bool.not_eq_true, List.contains_iff_mem] at hnew
    exact hnew hkm
theorem PSet.made (w : World) : PSet (w.alloc (.map #[] 0)) w.heap.size [] := ⟨#[], 0, (MapKept.heap_alloc w _).1, by simp, by simp⟩
theorem PSet.only {w' : World} {S : Nat → Prop} {b : Nat} {ks : List Nat} (h : PSet w b ks) (ho : Only S w w') (hb : ¬ S b) : PSet w' b ks := by
  obtain ⟨es, clock, hh, r⟩ := h
  exact ⟨es, clock, (ho.block b (Array.getElem?_eq_some_iff.1 hh).1 hb).trans hh, r⟩
theorem PSet.blk_ne {b g : Nat} {ks : List Nat} {t : TypeId} {cs : Array Value} (h : PSet w b ks) (hg : Blk w g t cs) : b ≠ g := by
  obtain ⟨es, clock, hh, r⟩ := h
  rintro rfl
  unfold Blk at hg
  rw [hh] at hg
  cases hg
theorem PSet.lt {b : Nat} {ks : List Nat} (h : PSet w b ks) : b < w.heap.size := by
  obtain ⟨es, clock, hh, r⟩ := h
  exact (Array.getElem?_eq_some_iff.1 hh).1
end

section
variable {P : Program} (w : World) {ops : Array Oper} {rest : List Oper} {o : Oper} {a : Act} {Q : Exit → Act → World → Prop} {tp te tm tb : TypeId} {j : TypeInfo}
theorem wpList_look_ptr (hg : o.guard = none) (m x : Operand) (hop : o.op = Op.lookup tm m x false) (hp : P.underlying tp = some (.pointer te)) (hte : P.info? te = some j) (hsz : j.size ≠ 0) (hm : P.underlying tm = some (.map tp tb)) (hz : (zeroValue tb).run P w = .ok (.bool false) w)
    (b : Nat) (ks : List Nat) (h : PSet w b ks) (hks : ∀ k ∈ ks, ∃ t c, Blk w k t c) (y : Nat) (ty : TypeId) (cy : Array Value) (hy : Blk w y ty cy) (hme : a.eval m = .map (some b)) (hxe : a.eval x = .pointer (some ⟨y, 0, none⟩))
    (hK : wpList P ops Q rest (a.put o.dst (.bool (ks.contains y))) w) : wpList P ops Q (o :: rest) a w := by
  refine wpList_plain hg fun K' hK' => ?_
  have hrun := h.look (P := P) hp hte hsz hm hz hks hy
  unfold ptr at hrun
  unfold Oper.wp
  simp [execOp, hop, hme, hxe, hrun, Result.andThen]
  refine hK' _ _ ?_
  simpa using hK
theorem wpList_put_ptr (hg : o.guard = none) (m x v : Operand) (hop : o.op = Op.mapUpdate tm m x v) (hp : P.underlying tp = some (.pointer te)) (hte : P.info? te = some j) (hsz : j.size ≠ 0) (hm : P.underlying tm = some (.map tp tb))
    (b : Nat) (ks : List Nat) (h : PSet w b ks) (hks : ∀ k ∈ ks, ∃ t c, Blk w k t c) (y : Nat) (ty : TypeId) (cy : Array Value) (hy : Blk w y ty cy) (hnew : ks.contains y = false) (hme : a.eval m = .map (some b)) (hxe : a.eval x = .pointer (some ⟨y, 0, none⟩)) (hv : a.eval v = .bool true)
    (hK : ∀ w', PSet w' b (y :: ks) → w.mapTurned w' b → wpList P ops Q rest (a.put o.dst undef) w') : wpList P ops Q (o :: rest) a w := by
  refine wpList_plain hg fun K' hK' => ?_
  obtain ⟨w', hrun, r1, r2⟩ := h.put (P := P) hp hte hsz hm hks hy hnew
  unfold ptr at hrun
  unfold Oper.wp
  simp [execOp, hop, hme, hxe, hv, hrun, Result.andThen]
  exact hK' _ _ (hK w' r1 r2)
end
end Go.Proofs.Ytkbmhghellimcaa
