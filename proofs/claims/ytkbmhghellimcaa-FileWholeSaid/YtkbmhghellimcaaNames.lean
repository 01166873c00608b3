/- Plain laws of names: what is found behind a put, a strike; how many there are. -/
import Derived.Test.YtkbmhghellimcaaDskb
namespace Go.Proofs.Ytkbmhghellimcaa
open Go.RowKit

def Keys (l : Names) : Prop := l.Pairwise (fun p q => p.1 ≠ q.1)
theorem findN_insN (s s' : Str) (n : Nat) : ∀ l : Names, findN s' l = none → findN s (insN (s', n) l) = if s = s' then some n else findN s l
  | [], _ => by
    by_cases h : s = s'
    · subst h; simp [insN, findN]
    · have : (s' == s) = false := by simpa using fun e => h e.symm
      simp [insN, findN, this, h]
  | p :: r, hf => by
    have hp : (p.1 == s') = false := by
      cases hb : p.1 == s' with
      | false => rfl
      | true => simp [findN, hb] at hf
    have hr : findN s' r = none := by simpa [findN, hp] using hf
    unfold insN
    split
    · by_cases h : s = s'
      · subst h; simp [findN]
      · have : (s' == s) = false := by simpa using fun e => h e.symm
        simp [findN, this, h]
    · have ih := findN_insN s s' n r hr
      by_cases hps : p.1 = s
      · have hne : s ≠ s' := by intro e; rw [e] at hps; simp [hps] at hp
        rw [if_neg hne]
        simp [findN, hps]
      · have hb : (p.1 == s) = false := by simpa using hps
        have e1 : findN s (p :: insN (s', n) r) = findN s (insN (s', n) r) := by simp [findN, hb]
        have e2 : findN s (p :: r) = findN s r := by simp [findN, hb]
        rw [e1, e2, ih]
theorem findN_delN_same (s : Str) (l : Names) : findN s (delN s l) = none := by
  unfold findN delN
  rw [Option.map_eq_none_iff, List.find?_eq_none]
  intro p hp
  have := (List.mem_filter.1 hp).2
  simpa using this
theorem findN_delN_other {s s' : Str} (h : s ≠ s') : ∀ l : Names, findN s (delN s' l) = findN s l
  | [] => rfl
  | p :: r => by
    have ih := findN_delN_other h r
    by_cases hp : p.1 = s'
    · have e1 : delN s' (p :: r) = delN s' r := by simp [delN, hp]
      have hb : (p.1 == s) = false := by simpa using fun e => h (e.symm.trans hp)
      have e2 : findN s (p :: r) = findN s r := by simp [findN, hb]
      rw [e1, e2, ih]
    · have e1 : delN s' (p :: r) = p :: delN s' r := by simp [delN, hp]
      rw [e1]
      by_cases hps : p.1 = s
      · simp [findN, hps]
      · have hb : (p.1 == s) = false := by simpa using hps
        have e3 : ∀ q : Names, findN s (p :: q) = findN s q := fun q => by simp [findN, hb]
        rw [e3, e3, ih]
theorem findN_putN (s s' : Str) (n : Nat) (l : Names) : findN s (putN s' n l) = if s = s' then some n else findN s l := by
  unfold putN
  rw [findN_insN _ _ _ _ (findN_delN_same s' l)]
  by_cases h : s = s'
  · rw [if_pos h, if_pos h]
  · rw [if_neg h, if_neg h, findN_delN_other h]

theorem mem_insN' {x y : Str × Nat} : ∀ {l : Names}, y ∈ insN x l ↔ y = x ∨ y ∈ l
  | [] => by simp [insN]
  | z :: r => by
    unfold insN
    split
    · simp
    · rw [List.mem_cons, mem_insN' (l := r), List.mem_cons]
      constructor
      · rintro (h | h | h)
        · exact .inr (.inl h)
        · exact .inl h
        · exact .inr (.inr h)
      · rintro (h | h | h)
        · exact .inr (.inl h)
        · exact .inl h
        · exact .inr (.inr h)
theorem none_key {s : Str} {l : Names} (h : findN s l = none) : ∀ p ∈ l, p.1 ≠ s := by
  intro p hp e
  unfold findN at h
  rw [Option.map_eq_none_iff, List.find?_eq_none] at h
  exact h p hp (by simpa using e)
theorem Keys.ins {s : Str} {n : Nat} : ∀ {l : Names}, Keys l → findN s l = none → Keys (insN (s, n) l)
  | [], _, _ => by simp [insN, Keys]
  | p :: r, hk, hf => by
    obtain ⟨h1, h2⟩ := List.pairwise_cons.1 hk
    have hn := none_key hf
    have hr : findN s r = none := by
      have hb : (p.1 == s) = false := by simpa using hn p (by simp)
      simpa [findN, hb] using hf
    unfold insN
    split
    · exact List.pairwise_cons.2 ⟨fun q hq => (hn q hq).symm, hk⟩
    · refine List.pairwise_cons.2 ⟨fun q hq => ?_, Keys.ins h2 hr⟩
      rcases mem_insN'.1 hq with rfl | hq
      · exact hn p (by simp)
      · exact h1 q hq
theorem Keys.del {l : Names} (h : Keys l) (s : Str) : Keys (delN s l) := List.Pairwise.filter _ h
theorem Keys.put {l : Names} (h : Keys l) (s : Str) (n : Nat) : Keys (putN s n l) := (h.del s).ins (findN_delN_same s l)
theorem Keys.doT {l : Names} (h : Keys l) (t : TurnS) : Keys (doT l t) := by
  unfold Go.Proofs.Ytkbmhghellimcaa.doT
  split
  · exact h.put _ _
  · split
    · exact h
    · split
      · exact (h.del _).put _ _
      · exact h.del _
theorem delN_none {s : Str} {l : Names} (h : findN s l = none) : delN s l = l := by
  unfold delN
  rw [List.filter_eq_self]
  intro p hp
  simpa using none_key h p hp
theorem len_insN (x : Str × Nat) : ∀ l : Names, (insN x l).length = l.length + 1
  | [] => rfl
  | y :: r => by
    unfold insN
    split
    · rfl
    · simp [len_insN x r]
theorem len_delN {s : Str} : ∀ {l : Names}, Keys l → (delN s l).length + (if (findN s l).isSome then 1 else 0) = l.length
  | [], _ => by simp [delN, findN]
  | p :: r, hk => by
    obtain ⟨h1, h2⟩ := List.pairwise_cons.1 hk
    by_cases hp : p.1 = s
    · have e1 : delN s (p :: r) = delN s r := by simp [delN, hp]
      have hr : findN s r = none := by
        unfold findN
        rw [Option.map_eq_none_iff, List.find?_eq_none]
        intro q hq e
        exact h1 q hq (hp.trans (by simpa using e : q.1 = s).symm)
      rw [e1, delN_none hr]
      simp [findN, hp]
    · have e1 : delN s (p :: r) = p :: delN s r := by simp [delN, hp]
      have hb : (p.1 == s) = false := by simpa using hp
      have e2 : findN s (p :: r) = findN s r := by simp [findN, hb]
      have ih := len_delN (s := s) h2
      rw [e1, e2, List.length_cons, List.length_cons]
      omega
theorem len_putN {s : Str} {n : Nat} {l : Names} (hk : Keys l) : (putN s n l).length = l.length + (if (findN s l).isSome then 0 else 1) := by
  unfold putN
  rw [len_insN]
  have := len_delN (s := s) hk
  cases hs : (findN s l).isSome
  · rw [hs] at this; simp at this ⊢; omega
  · rw [hs] at this; simp at this ⊢; omega
theorem find_mem' {s : Str} {l : Names} {n : Nat} (h : findN s l = some n) : (s, n) ∈ l := by
  unfold findN at h
  obtain ⟨p, hp, rfl⟩ := Option.map_eq_some_iff.1 h
  have h1 := List.mem_of_find?_eq_some hp
  have h2 := List.find?_some hp
  have : p.1 = s := by simpa using h2
  rw [← this]
  exact h1
theorem find_of_mem {s : Str} {n : Nat} : ∀ {l : Names}, Keys l → (s, n) ∈ l → findN s l = some n
  | [], _, h => by simp at h
  | p :: r, hk, h => by
    obtain ⟨h1, h2⟩ := List.pairwise_cons.1 hk
    rcases List.mem_cons.1 h with rfl | h
    · simp [findN]
    · have hne := h1 _ h
      have hb : (p.1 == s) = false := by simpa using hne
      have e2 : findN s (p :: r) = findN s r := by simp [findN, hb]
      rw [e2]
      exact find_of_mem h2 h
/-- Names of a few keys are few. -/
theorem len_keys : ∀ {K : List Str} {l : Names}, Keys l → (∀ p ∈ l, p.1 ∈ K) → l.length ≤ K.length
  | [], l, _, h => by
    cases l with
    | nil => simp
    | cons p r => exact absurd (h p (by simp)) (by simp)
  | k :: K, l, hk, h => by
    have h1 := len_delN (s := k) hk
    have h2 := len_keys (K := K) (hk.del k) (fun p hp => by
      obtain ⟨a, b⟩ := List.mem_filter.1 hp
      rcases List.mem_cons.1 (h p a) with e | e
      · simp [e] at b
      · exact e)
    rw [List.length_cons]
    split at h1 <;> omega

/-! bounds -/
theorem sum_le_mul {α : Type} (f : α → Nat) (m : Nat) : ∀ l : List α, (∀ x ∈ l, f x ≤ m) → (l.map f).sum ≤ l.length * m
  | [], _ => by simp
  | x :: r, h => by
    have h1 := h x (by simp)
    have h2 := sum_le_mul f m r (fun y hy => h y (by simp [hy]))
    rw [List.map_cons, List.sum_cons, List.length_cons, Nat.succ_mul]
    omega
theorem getD_le {l : List Str} {m : Nat} (h : ∀ t ∈ l, t.length ≤ m) (i : Nat) : (l.getD i []).length ≤ m := by
  rw [List.getD_eq_getElem?_getD]
  cases hg : l[i]? with
  | none => simp
  | some t => exact h t (List.mem_of_getElem? hg)
theorem used_le {D : DiskS} {m : Nat} (h : ∀ t ∈ D.now, t.length ≤ m) : usedD D ≤ D.names.length * m := sum_le_mul _ m _ (fun p _ => getD_le h p.2)
end Go.Proofs.Ytkbmhghellimcaa
