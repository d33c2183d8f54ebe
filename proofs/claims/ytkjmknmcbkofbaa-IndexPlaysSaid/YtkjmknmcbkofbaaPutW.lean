/-
  Put, the plain part: what its stages are, how they follow one another; how large the maps are.
  Its conditions: as each theorem states them.
-/
import Derived.Test.YtkjmknmcbkofbaaLook
namespace Go.Proofs.Ytkjmknmcbkofbaa
set_option linter.unusedVariables false
set_option linter.unusedSimpArgs false
open Go Go.Proofs Go.RowKit Go.Maps Go.Sort Go.Shelf

/-! ### how large -/
section
variable {K : TypeId} {α : Type} (kk : KeyKind K α) {w : World} {b n : Nat} {f : α → Option Value}
theorem View.tight (h : View kk w b n f) {L : List α} (hnd : L.Nodup) (hok : ∀ a ∈ L, kk.ok a) (hm : ∀ a, kk.ok a → ((f a).isSome = true ↔ a ∈ L)) : View kk w b L.length f := by
  obtain ⟨D, h1, h2⟩ := h
  obtain ⟨es, hD, hpw, _⟩ := h1.entries kk.law
  obtain ⟨es', hD', hko⟩ := h1.keysOf
  obtain rfl : es = es' := by rw [hD] at hD'; simpa using hD'
  subst hD
  have hkey : ∀ p ∈ es, ∃ a, kk.ok a ∧ p.1 = kk.lit a := fun p hp => by
    obtain ⟨v, hv⟩ := hko p hp
    obtain ⟨a, ha, _, hl⟩ := kk.inv hv
    exact ⟨a, ha, hl⟩
  have hper : (es.map (·.1)).Perm (L.map kk.lit) := by
    refine (List.perm_ext_iff_of_nodup (List.pairwise_map.2 hpw) ?_).2 fun l => ?_
    · exact List.pairwise_map.2 (hnd.imp_of_mem fun {a b} ha hb hne e => hne (kk.lit_inj (hok a ha) (hok b hb) e))
    · constructor
      · intro hl
        obtain ⟨p, hp, rfl⟩ := List.mem_map.1 hl
        obtain ⟨a, ha, hla⟩ := hkey p hp
        have hh : Maps.has (.map es) (kk.lit a) = true := List.any_eq_true.2 ⟨p, hp, by rw [hla]; exact WideAt.sameKey_self (kk.isKey ha)⟩
        rw [(h2 a ha).1] at hh
        exact List.mem_map.2 ⟨a, (hm a ha).1 hh, hla.symm⟩
      · intro hl
        obtain ⟨a, ha, rfl⟩ := List.mem_map.1 hl
        have hh := (hm a (hok a ha)).2 ha
        rw [← (h2 a (hok a ha)).1] at hh
        obtain ⟨p, hp, hs⟩ := List.any_eq_true.1 hh
        exact List.mem_map.2 ⟨p, hp, WideAt.sameKey_eq hs⟩
  have hsz : es.length = L.length := by
    have := hper.length_eq
    simpa using this
  refine ⟨_, ?_, h2⟩
  obtain ⟨es2, clock, hb, F, _, e⟩ := h1
  refine ⟨es2, clock, hb, F, ?_, e⟩
  have := congrArg Maps.size e
  simp only [Maps.size] at this
  rw [length_sorted, List.length_map] at this
  rw [← hsz, this]
  simp
end

def tot (st : St) : Nat := (st.map (fun e => e.d.length + e.m.length + 1)).sum

theorem tot_drop (st : St) (n : Int) : tot (drop st n) ≤ tot st := by
  induction st with
  | nil => exact Nat.le_refl _
  | cons e r ih =>
    unfold drop tot at *
    rw [List.filter_cons]
    split
    · simp only [List.map_cons, List.sum_cons]; omega
    · simp only [List.map_cons, List.sum_cons]; omega
theorem tot_put (st : St) (n : Int) (d m : List Str) : tot (put st n d m) ≤ tot st + d.length + m.length + 1 := by
  unfold put
  have := tot_drop st n
  split
  · omega
  · unfold tot at *
    simp only [List.map_cons, List.sum_cons]
    omega

/-! ### the state behind a Put -/
section
variable {st : St} {N : Nat} {n : Int} {d m : List Str}

theorem mem_drop {e : E} : e ∈ drop st n ↔ e ∈ st ∧ e.n ≠ n := by
  unfold drop
  rw [List.mem_filter]
  simp
theorem wf_drop (h : Wf st N) : Wf (drop st n) N where
  nd := h.nd.filter _
  int e he := h.int e (mem_drop.1 he).1
  str e he := h.str e (mem_drop.1 he).1
  upd e he := h.upd e (mem_drop.1 he).1
  upm e he := h.upm e (mem_drop.1 he).1
  len e he := h.len e (mem_drop.1 he).1
  some e he := h.some e (mem_drop.1 he).1
  size := Nat.le_trans (List.length_filter_le _ _) h.size
theorem le_tot {e : E} (he : e ∈ st) : e.d.length + e.m.length + 1 ≤ tot st := by
  induction st with
  | nil => cases he
  | cons a r ih =>
    have e0 : tot (a :: r) = (a.d.length + a.m.length + 1) + tot r := by simp [tot]
    rcases List.mem_cons.1 he with rfl | h
    · omega
    · have := ih h; omega
theorem len_tot : st.length ≤ tot st := by
  induction st with
  | nil => exact Nat.le_refl _
  | cons a r ih =>
    have e0 : tot (a :: r) = (a.d.length + a.m.length + 1) + tot r := by simp [tot]
    simp only [List.length_cons]; omega
theorem wf_tot (h : Wf st N) : Wf st (tot st) :=
  ⟨h.nd, h.int, h.str, h.upd, h.upm, fun e he => by have := le_tot he; omega, h.some, len_tot⟩
theorem wf_put (h : Wf st N) (hn0 : 0 ≤ n) (hn1 : n ≤ 9223372036854775807) (hd : Up d) (hm : Up m) (hds : ∀ s ∈ d, s.length ≤ maxLen) (hms : ∀ s ∈ m, s.length ≤ maxLen) : Wf (put st n d m) (tot (put st n d m)) := by
  have h1 := wf_drop (n := n) h
  unfold put
  split
  · exact wf_tot h1
  · rename_i hne
    refine wf_tot (N := N + d.length + m.length + 1) ⟨List.pairwise_cons.2 ⟨fun e he => ((mem_drop.1 he).2).symm, h1.nd⟩, fun e he => ?_, fun e he => ?_, fun e he => ?_, fun e he => ?_, fun e he => ?_, fun e he => ?_, ?_⟩
    · rcases List.mem_cons.1 he with rfl | he
      · exact ⟨hn0, hn1⟩
      · exact h1.int e he
    · rcases List.mem_cons.1 he with rfl | he
      · exact ⟨hds, hms⟩
      · exact h1.str e he
    · rcases List.mem_cons.1 he with rfl | he
      · exact hd
      · exact h1.upd e he
    · rcases List.mem_cons.1 he with rfl | he
      · exact hm
      · exact h1.upm e he
    · rcases List.mem_cons.1 he with rfl | he
      · exact ⟨by show d.length ≤ _; omega, by show m.length ≤ _; omega⟩
      · have := h1.len e he; omega
    · rcases List.mem_cons.1 he with rfl | he
      · exact hne
      · exact h1.some e he
    · have := h1.size; simp only [List.length_cons]; omega

theorem getD_drop (hw : Wf st N) (k : Int) : getD (drop st n) k = if k = n then [] else getD st k := by
  split
  · rename_i e
    subst e
    apply List.eq_nil_iff_forall_not_mem.2
    intro s hs
    obtain ⟨e, he, e1, _⟩ := (mem_getD (wf_drop (n := k) hw)).1 hs
    exact (mem_drop.1 he).2 e1
  · rename_i hne
    unfold getD drop
    rw [List.find?_filter]
    have : (fun a : E => decide (decide (a.n = k) = true ∧ (!decide (a.n = n)) = true)) = fun e => decide (e.n = k) := by
      funext e
      by_cases h1 : e.n = k
      · subst h1; simp [hne]
      · simp [h1]
    first
      | rw [this]
      | (congr 1; congr 1; funext e; by_cases h1 : e.n = k <;> simp_all)
theorem getM_drop (hw : Wf st N) (k : Int) : getM (drop st n) k = if k = n then [] else getM st k := by
  split
  · rename_i e
    subst e
    apply List.eq_nil_iff_forall_not_mem.2
    intro s hs
    obtain ⟨e, he, e1, _⟩ := (mem_getM (wf_drop (n := k) hw)).1 hs
    exact (mem_drop.1 he).2 e1
  · rename_i hne
    unfold getM drop
    rw [List.find?_filter]
    have : (fun a : E => decide (decide (a.n = k) = true ∧ (!decide (a.n = n)) = true)) = fun e => decide (e.n = k) := by
      funext e
      by_cases h1 : e.n = k
      · subst h1; simp [hne]
      · simp [h1]
    first
      | rw [this]
      | (congr 1; congr 1; funext e; by_cases h1 : e.n = k <;> simp_all)
theorem getD_put (hw : Wf st N) (k : Int) : getD (put st n d m) k = if k = n then d else getD st k := by
  unfold put
  split
  · rename_i h
    rw [getD_drop hw, h.1]
  · have hd := getD_drop (n := n) hw k
    by_cases e : k = n
    · subst e; simp [getD]
    · rw [if_neg e] at hd ⊢
      rw [← hd]
      have e' : ¬ n = k := fun h => e h.symm
      simp [getD, e']
theorem getM_put (hw : Wf st N) (k : Int) : getM (put st n d m) k = if k = n then m else getM st k := by
  unfold put
  split
  · rename_i h
    rw [getM_drop hw, h.2]
  · have hd := getM_drop (n := n) hw k
    by_cases e : k = n
    · subst e; simp [getM]
    · rw [if_neg e] at hd ⊢
      rw [← hd]
      have e' : ¬ n = k := fun h => e h.symm
      simp [getM, e']

theorem cnt_drop (hw : Wf st N) (s : Str) : cnt st s = cnt (drop st n) s + if s ∈ getD st n then 1 else 0 := by
  have nd := hw.nd
  clear hw
  induction st with
  | nil => simp [cnt, drop, getD]
  | cons a r ih =>
    obtain ⟨h1, h2⟩ := List.pairwise_cons.1 nd
    have ih := ih h2
    by_cases e : a.n = n
    · have hr : ∀ x ∈ r, ¬ x.n = n := fun x hx e' => h1 x hx (e.trans e'.symm)
      have hd : drop r n = r := List.filter_eq_self.2 (fun x hx => by simp [hr x hx])
      have hd' : drop (a :: r) n = r := by unfold drop at hd ⊢; rw [List.filter_cons]; simp [e]; simpa using hr
      have hg : getD (a :: r) n = a.d := by simp [getD, e]
      rw [hd', hg]
      unfold cnt
      rw [List.filter_cons]
      by_cases hs : s ∈ a.d <;> simp [hs]
    · have hd' : drop (a :: r) n = a :: drop r n := by unfold drop; rw [List.filter_cons]; simp [e]
      have hg : getD (a :: r) n = getD r n := by simp [getD, e]
      rw [hd', hg]
      unfold cnt at *
      rw [List.filter_cons, List.filter_cons]
      by_cases hs : s ∈ a.d <;> simp [hs] <;> omega
theorem cnt_put (s : Str) : cnt (put st n d m) s = cnt (drop st n) s + if s ∈ d then 1 else 0 := by
  unfold put
  split
  · rename_i h
    rw [h.1]; simp
  · unfold cnt
    rw [List.filter_cons]
    by_cases hs : s ∈ d <;> simp [hs]
theorem has_put (k : Int) : has (put st n d m) k = if k = n then decide (¬ (d = [] ∧ m = [])) else has st k := by
  have hdr : has (drop st n) k = if k = n then false else has st k := by
    unfold has drop
    rw [List.any_filter]
    split
    · rename_i e; subst e
      rw [List.any_eq_false]; intro x _; by_cases h : x.n = k <;> simp [h]
    · rename_i e
      congr 1
      funext x
      by_cases h : x.n = k
      · subst h; simp [e]
      · simp [h]
  unfold put
  split
  · rename_i h
    rw [hdr]; simp [h]
  · rename_i h
    unfold has at hdr ⊢
    rw [List.any_cons, hdr]
    by_cases e : k = n
    · subst e; simp [h]
    · have e' : ¬ n = k := fun h => e h.symm
      simp [e, e']
end

end Go.Proofs.Ytkjmknmcbkofbaa
