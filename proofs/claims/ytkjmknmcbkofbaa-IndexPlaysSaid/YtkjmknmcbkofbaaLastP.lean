/-
  Plain facts: the state behind acts hangs on the last act of each number alone; no program.
  Its conditions: as each theorem states them.
-/
import Derived.Test.YtkjmknmcbkofbaaTellsP
namespace Go.Proofs.Ytkjmknmcbkofbaa
open Go
set_option linter.unusedVariables false
set_option linter.unusedSimpArgs false

def ent (a : A) : E := ⟨a.n, riseL (actD a.dd a.d), riseL (actD a.dd a.m)⟩
def live (a : A) : Prop := 0 ≤ a.n ∧ ¬ ((ent a).d = [] ∧ (ent a).m = [])
def Left (l : List A) (e : E) : Prop := ∃ l1 a l2, l = l1 ++ a :: l2 ∧ (∀ b ∈ l2, b.n ≠ a.n) ∧ e = ent a ∧ live a

theorem Left.nonneg {l : List A} {e : E} (h : Left l e) : 0 ≤ e.n := by
  obtain ⟨_, a, _, _, _, rfl, h, _⟩ := h
  exact h

theorem mem_actS {st : St} (hst : ∀ e ∈ st, 0 ≤ e.n) {a : A} {e : E} : e ∈ actS st a ↔ (e ∈ st ∧ e.n ≠ a.n) ∨ (e = ent a ∧ live a) := by
  unfold actS stepS
  by_cases hn : a.n < 0
  · rw [if_pos hn]
    constructor
    · intro h
      have := hst e h
      exact .inl ⟨h, by omega⟩
    · rintro (⟨h, _⟩ | ⟨_, h, _⟩)
      · exact h
      · omega
  · rw [if_neg hn]
    unfold put
    by_cases he : riseL (actD a.dd a.d) = [] ∧ riseL (actD a.dd a.m) = []
    · rw [if_pos he, mem_drop]
      constructor
      · exact fun h => .inl h
      · rintro (h | ⟨_, _, h⟩)
        · exact h
        · exact absurd he h
    · rw [if_neg he, List.mem_cons, mem_drop]
      constructor
      · rintro (rfl | h)
        · exact .inr ⟨rfl, by omega, he⟩
        · exact .inl h
      · rintro (h | ⟨rfl, _⟩)
        · exact .inr h
        · exact .inl rfl

theorem left_snoc {l : List A} {a : A} {e : E} : Left (l ++ [a]) e ↔ (Left l e ∧ e.n ≠ a.n) ∨ (e = ent a ∧ live a) := by
  constructor
  · rintro ⟨l1, b, l2, hl, hn, rfl, hb⟩
    rcases List.eq_nil_or_concat l2 with rfl | ⟨l3, c, rfl⟩
    · have := List.append_inj' hl rfl
      simp at this
      obtain ⟨rfl, rfl⟩ := this
      exact .inr ⟨rfl, hb⟩
    · have h2 : l ++ [a] = (l1 ++ b :: l3) ++ [c] := by rw [hl]; simp
      have := List.append_inj' h2 rfl
      simp at this
      obtain ⟨rfl, rfl⟩ := this
      refine .inl ⟨⟨l1, b, l3, rfl, fun x hx => hn x (by simp [hx]), rfl, hb⟩, ?_⟩
      have := hn a (by simp)
      exact fun h => this h.symm
  · rintro (⟨⟨l1, b, l2, rfl, hn, rfl, hb⟩, hne⟩ | ⟨rfl, hb⟩)
    · refine ⟨l1, b, l2 ++ [a], by simp, fun x hx => ?_, rfl, hb⟩
      rcases List.mem_append.1 hx with h | h
      · exact hn x h
      · simp at h
        subst h
        exact fun h => hne h.symm
    · exact ⟨l, a, [], rfl, by simp, rfl, hb⟩

theorem left_cons {l : List A} {a : A} {e : E} : Left (a :: l) e ↔ Left l e ∨ ((∀ b ∈ l, b.n ≠ a.n) ∧ e = ent a ∧ live a) := by
  constructor
  · rintro ⟨l1, b, l2, hl, hn, rfl, hb⟩
    cases l1 with
    | nil =>
      simp at hl
      obtain ⟨rfl, rfl⟩ := hl
      exact .inr ⟨hn, rfl, hb⟩
    | cons c l1 =>
      simp at hl
      obtain ⟨rfl, rfl⟩ := hl
      exact .inl ⟨l1, b, l2, rfl, hn, rfl, hb⟩
  · rintro (⟨l1, b, l2, rfl, hn, rfl, hb⟩ | ⟨hn, rfl, hb⟩)
    · exact ⟨a :: l1, b, l2, rfl, hn, rfl, hb⟩
    · exact ⟨[], a, l, rfl, hn, rfl, hb⟩

theorem left_nil {e : E} : ¬ Left [] e := by
  rintro ⟨l1, b, l2, hl, _⟩
  simp at hl

theorem mem_run (l : List A) : ∀ k, k ≤ l.length → ∀ e, e ∈ run (l.take k) ↔ Left (l.take k) e
  | 0, _, e => by simpa [run] using left_nil
  | k + 1, hk, e => by
    have ih := mem_run l k (by omega)
    rw [run_take (by omega), mem_actS (fun e he => ((ih e).1 he).nonneg), ih, List.take_succ_eq_append_getElem (by omega), left_snoc]

/-- From the end: an act that is the last of its number. -/
theorem mem_back {st : St} {l : List A} {a : A} (h : ∀ e, e ∈ st ↔ Left l e) (hn : ∀ b ∈ l, b.n ≠ a.n) (e : E) : e ∈ actS st a ↔ Left (a :: l) e := by
  rw [mem_actS (fun e he => ((h e).1 he).nonneg), h, left_cons]
  constructor
  · rintro (⟨h1, _⟩ | h1)
    · exact .inl h1
    · exact .inr ⟨hn, h1⟩
  · rintro (h1 | ⟨_, h1⟩)
    · obtain ⟨l1, b, l2, rfl, _, rfl, _⟩ := h1
      exact .inl ⟨⟨l1, b, l2, rfl, by assumption, rfl, by assumption⟩, hn b (by simp)⟩
    · exact .inr h1
theorem mem_skip {st : St} {l : List A} {a : A} (h : ∀ e, e ∈ st ↔ Left l e) (hn : ¬ ∀ b ∈ l, b.n ≠ a.n) (e : E) : e ∈ st ↔ Left (a :: l) e := by
  rw [h, left_cons]
  constructor
  · exact fun h => .inl h
  · rintro (h | ⟨h, _⟩)
    · exact h
    · exact absurd h hn

theorem wf_nodup {st : St} {N : Nat} (h : Wf st N) : st.Nodup := List.Pairwise.imp (fun {a b} (hab : a.n ≠ b.n) (e : a = b) => hab (by rw [e])) h.nd
theorem same_perm {st st' : St} {N N' : Nat} (h : Wf st N) (h' : Wf st' N') (hm : ∀ e, e ∈ st ↔ e ∈ st') : st.Perm st' :=
  (List.perm_ext_iff_of_nodup (wf_nodup h) (wf_nodup h')).2 hm

theorem perm_cnt {st st' : St} (h : st.Perm st') (s : Str) : cnt st s = cnt st' s := (h.filter _).length_eq
theorem perm_known {st st' : St} (h : st.Perm st') : known st = known st' :=
  Up.ext (up_known _) (up_known _) (fun s => by rw [mem_known, mem_known, perm_cnt h])
theorem perm_who {st st' : St} (h : st.Perm st') (s : Str) : who st s = who st' s := mergeSort_int_perm ((h.filter _).map _)
theorem perm_getD {st st' : St} {N N' : Nat} (hw : Wf st N) (hw' : Wf st' N') (h : st.Perm st') (n : Int) (s : Str) : decide (s ∈ getD st n) = decide (s ∈ getD st' n) := by
  apply decide_eq_decide.2
  rw [mem_getD hw, mem_getD hw']
  exact ⟨fun ⟨e, h1, h2⟩ => ⟨e, h.mem_iff.1 h1, h2⟩, fun ⟨e, h1, h2⟩ => ⟨e, h.mem_iff.2 h1, h2⟩⟩
theorem perm_getM {st st' : St} {N N' : Nat} (hw : Wf st N) (hw' : Wf st' N') (h : st.Perm st') (n : Int) (s : Str) : decide (s ∈ getM st n) = decide (s ∈ getM st' n) := by
  apply decide_eq_decide.2
  rw [mem_getM hw, mem_getM hw']
  exact ⟨fun ⟨e, h1, h2⟩ => ⟨e, h.mem_iff.1 h1, h2⟩, fun ⟨e, h1, h2⟩ => ⟨e, h.mem_iff.2 h1, h2⟩⟩

theorem length_who (st : St) (s : Str) : (who st s).length ≤ tot st := by
  unfold who whoL
  rw [(List.mergeSort_perm _ _).length_eq, List.length_map]
  exact Nat.le_trans (List.length_filter_le _ _) len_tot

theorem drop_cons {l : List A} {k : Nat} (hk : k < l.length) : l.drop k = l[k] :: l.drop (k + 1) := List.drop_eq_getElem_cons hk
theorem lens_drop {l : List A} {k : Nat} (hk : k < l.length) : lens (l.drop k) = lens (l.drop (k + 1)) + (l[k].d.length + l[k].m.length) := by
  rw [drop_cons hk]
  unfold lens
  rw [List.map_cons, List.sum_cons]
  omega
theorem lens_drop_le (l : List A) (k : Nat) : lens (l.drop k) ≤ lens l := by
  conv => rhs; rw [← List.take_append_drop k l]
  unfold lens
  rw [List.map_append, List.sum_append]
  omega

/-- Is none of the acts from j on, ahead of k, of number n? -/
def noneOf (l : List A) (n : Int) (i k : Nat) : Bool := ((l.take k).drop i).all (fun b => decide (b.n ≠ n))
theorem noneOf_start (l : List A) (n : Int) (i : Nat) : noneOf l n i i = true := by
  unfold noneOf
  rw [List.drop_eq_nil_of_le (by rw [List.length_take]; omega)]
  rfl
theorem noneOf_next {l : List A} {n : Int} {i k : Nat} (hik : i ≤ k) (hk : k < l.length) : noneOf l n i (k + 1) = (noneOf l n i k && decide (l[k].n ≠ n)) := by
  unfold noneOf
  rw [List.take_succ_eq_append_getElem hk, List.drop_append_of_le_length (by simp; omega), List.all_append]
  simp
theorem noneOf_end {l : List A} {n : Int} {i : Nat} : noneOf l n i l.length = true ↔ ∀ b ∈ l.drop i, b.n ≠ n := by
  unfold noneOf
  rw [List.take_length, List.all_eq_true]
  simp

end Go.Proofs.Ytkjmknmcbkofbaa
