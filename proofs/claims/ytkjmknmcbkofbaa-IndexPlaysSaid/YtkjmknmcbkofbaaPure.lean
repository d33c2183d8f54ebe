/-
  Plain lists: what rise does (sorted, each once); what is kept of an index's acts; no program.
  Its conditions: as each theorem states them.
-/
import Derived.Lib.SlicesCompact
import Derived.Sort.KeysCollected
namespace Go.Proofs.Ytkjmknmcbkofbaa
set_option linter.unusedVariables false
set_option linter.unusedSimpArgs false
open Go

abbrev Str := List UInt8

/-- A list that rises strictly. -/
def Up (l : List Str) : Prop := l.Pairwise (· < ·)

theorem str_lt_trans {a b c : Str} (h : a < b) (k : b < c) : a < c := List.lt_trans h k
theorem str_lt_irrefl (a : Str) : ¬ a < a := List.lt_irrefl a
theorem str_lt_of {a b : Str} (h : a ≤ b) (hne : a ≠ b) : a < b := by
  rcases Classical.em (a < b) with h1 | h1
  · exact h1
  · exact absurd (List.le_antisymm h (List.not_lt.1 h1)) hne
theorem str_total (a b : Str) : a < b ∨ a = b ∨ b < a := by
  by_cases e : a = b
  · exact .inr (.inl e)
  · rcases List.le_total a b with h | h
    · exact .inl (str_lt_of h e)
    · exact .inr (.inr (str_lt_of h (Ne.symm e)))
theorem str_lt_of_le_of_lt {a b c : Str} (h : a ≤ b) (k : b < c) : a < c := by
  by_cases e : a = b
  · exact e ▸ k
  · exact str_lt_trans (str_lt_of h e) k

/-- Two lists that rise, of the same members, are one. -/
theorem Up.ext : ∀ {l m : List Str}, Up l → Up m → (∀ s, s ∈ l ↔ s ∈ m) → l = m
  | [], [], _, _, _ => rfl
  | [], b :: m, _, _, h => by have := (h b).2 (by simp); simp at this
  | a :: l, [], _, _, h => by have := (h a).1 (by simp); simp at this
  | a :: l, b :: m, hl, hm, h => by
    obtain ⟨a1, a2⟩ := List.pairwise_cons.1 hl
    obtain ⟨b1, b2⟩ := List.pairwise_cons.1 hm
    have hab : a = b := by
      rcases List.mem_cons.1 ((h a).1 (by simp)) with e | ha
      · exact e
      · rcases List.mem_cons.1 ((h b).2 (by simp)) with e | hb
        · exact e.symm
        · exact absurd (str_lt_trans (a1 b hb) (b1 a ha)) (str_lt_irrefl _)
    subst hab
    rw [Up.ext (l := l) (m := m) a2 b2 (fun s => ⟨fun hs => by
      rcases List.mem_cons.1 ((h s).1 (by simp [hs])) with e | h'
      · exact absurd (e ▸ a1 s hs) (str_lt_irrefl _)
      · exact h', fun hs => by
      rcases List.mem_cons.1 ((h s).2 (by simp [hs])) with e | h'
      · exact absurd (e ▸ b1 s hs) (str_lt_irrefl _)
      · exact h'⟩)]

theorem Up.nodup {l : List Str} (h : Up l) : l.Nodup := List.Pairwise.imp (fun {a b} (hab : a < b) (e : a = b) => str_lt_irrefl b (e ▸ hab)) h

/-- rise: sorted, each once. -/
def riseL (l : List Str) : List Str := Lib.compact (l.mergeSort leB)

theorem sorted_ms (l : List Str) : (l.mergeSort leB).Pairwise (· ≤ ·) := by
  have tr : ∀ a b c : Str, leB a b = true → leB b c = true → leB a c = true := fun a b c h1 h2 => by simp only [leB, decide_eq_true_eq] at *; exact List.le_trans h1 h2
  have to : ∀ a b : Str, (leB a b || leB b a) = true := fun a b => by simp only [leB, Bool.or_eq_true, decide_eq_true_eq]; exact List.le_total a b
  exact (List.pairwise_mergeSort tr to l).imp fun h => by simpa [leB] using h

theorem keeps_iff (z : List Str) {j : Nat} : Lib.keeps z.toArray j = true ↔ (j = 0 ∨ z[j]! ≠ z[j - 1]!) := by
  simp [Lib.keeps]

theorem getB (z : List Str) {j : Nat} (hj : j < z.length) : z.toArray[j]! = z[j] := by
  simp [getElem!_pos, hj]

theorem mem_compact {z : List Str} (hs : z.Pairwise (· ≤ ·)) (s : Str) : s ∈ Lib.compact z ↔ s ∈ z := by
  have hle : ∀ {i j : Nat} (hi : i < z.length) (hj : j < z.length), i ≤ j → z[i] ≤ z[j] := fun {i j} hi hj hij => by
    rcases Nat.lt_or_ge i j with h | h
    · exact (List.pairwise_iff_getElem.1 hs) i j hi hj h
    · obtain rfl : i = j := by omega
      exact List.le_refl _
  constructor
  · intro h
    simp only [Lib.compact, Lib.compactUpTo, List.mem_map, List.mem_filter, List.mem_range] at h
    obtain ⟨j, ⟨hj, _⟩, rfl⟩ := h
    rw [getB z hj]
    exact List.getElem_mem hj
  · intro h
    obtain ⟨j, hj, rfl⟩ := List.getElem_of_mem h
    have key : ∀ n, ∀ i (hi : i < z.length), i ≤ n → ∃ k, ∃ hk : k < z.length, Lib.keeps z.toArray k = true ∧ z[k] = z[i] := by
      intro n
      induction n with
      | zero => intro i hi h0; exact ⟨i, hi, by obtain rfl : i = 0 := by omega
                                                simp [Lib.keeps], rfl⟩
      | succ n ih =>
        intro i hi hin
        by_cases hk : Lib.keeps z.toArray i = true
        · exact ⟨i, hi, hk, rfl⟩
        · have h0 : ¬ i = 0 := fun e => hk (by rw [e]; simp [Lib.keeps])
          have e : z[i] = z[i - 1]'(by omega) := by
            simp only [Lib.keeps, decide_eq_true_eq, not_or] at hk
            have := hk.2
            simp only [ne_eq, Classical.not_not] at this
            rw [getB z hi, getB z (j := i - 1) (by omega)] at this
            exact this
          obtain ⟨k, hk1, hk2, hk3⟩ := ih (i - 1) (by omega) (by omega)
          exact ⟨k, hk1, hk2, hk3.trans e.symm⟩
    obtain ⟨k, hk1, hk2, hk3⟩ := key j j hj (Nat.le_refl _)
    simp only [Lib.compact, Lib.compactUpTo, List.mem_map, List.mem_filter, List.mem_range]
    exact ⟨k, ⟨hk1, hk2⟩, by rw [getB z hk1]; exact hk3⟩

theorem up_compact {z : List Str} (hs : z.Pairwise (· ≤ ·)) : Up (Lib.compact z) := by
  unfold Up Lib.compact Lib.compactUpTo
  rw [List.pairwise_map]
  refine List.Pairwise.imp_of_mem ?_ ((List.pairwise_lt_range (n := z.length)).filter _)
  intro i j hi hj hij
  obtain ⟨hi1, _⟩ := List.mem_filter.1 hi
  obtain ⟨hj1, hj2⟩ := List.mem_filter.1 hj
  rw [List.mem_range] at hi1 hj1
  rw [getB z hi1, getB z hj1]
  have hne : z[j] ≠ z[j - 1]'(by omega) := by
    simp only [Lib.keeps, decide_eq_true_eq] at hj2
    rcases hj2 with h | h
    · omega
    · rw [getB z hj1, getB z (j := j - 1) (by omega)] at h
      exact h
  have h1 : z[i] ≤ z[j - 1]'(by omega) := by
    rcases Nat.lt_or_ge i (j - 1) with h | h
    · exact (List.pairwise_iff_getElem.1 hs) i (j - 1) hi1 (by omega) h
    · obtain rfl : i = j - 1 := by omega
      exact List.le_refl _
  have h2 : z[j - 1]'(by omega) ≤ z[j] := (List.pairwise_iff_getElem.1 hs) (j - 1) j (by omega) hj1 (by omega)
  exact str_lt_of_le_of_lt h1 (str_lt_of h2 (Ne.symm hne))

theorem up_riseL (l : List Str) : Up (riseL l) := up_compact (sorted_ms l)
theorem mem_riseL {l : List Str} {s : Str} : s ∈ riseL l ↔ s ∈ l := by
  rw [riseL, mem_compact (sorted_ms l)]
  exact (List.mergeSort_perm l leB).mem_iff
theorem riseL_nil : riseL [] = [] := by
  apply List.eq_nil_iff_forall_not_mem.2
  intro s h
  simp [mem_riseL] at h
theorem riseL_eq_nil {l : List Str} : riseL l = [] ↔ l = [] := by
  constructor
  · intro h
    apply List.eq_nil_iff_forall_not_mem.2
    intro s hs
    have := mem_riseL.2 hs
    rw [h] at this
    simp at this
  · rintro rfl; exact riseL_nil
theorem length_riseL (l : List Str) : (riseL l).length ≤ l.length := by
  unfold riseL Lib.compact Lib.compactUpTo
  rw [List.length_map]
  exact Nat.le_trans (List.length_filter_le _ _) (by simp)

end Go.Proofs.Ytkjmknmcbkofbaa
