/-
  Plain facts on an act: what it tells, how much the state grows; no program.
  Its conditions: as each theorem states them.
-/
import Derived.Test.YtkjmknmcbkofbaaActs
import Derived.Sort.Walk0
import Derived.Laws.Cover1
namespace Go.Proofs.Ytkjmknmcbkofbaa
set_option linter.unusedVariables false
set_option linter.unusedSimpArgs false
open Go Go.Proofs Go.Sort

theorem wf64 {n : Int} (h : (Lit.int .i64 n).wf = true) : -9223372036854775808 ≤ n ∧ n ≤ 9223372036854775807 := by
  have := h
  simp [Lit.wf, IntKind.signed, IntKind.bits, IntKind.min, IntKind.max] at this
  omega

theorem len_actD (dd : Int) (l : List Str) : (actD dd l).length ≤ l.length := by
  unfold actD; split <;> simp

theorem tot_stepS (st : St) (n : Int) (d m : List Str) : tot (stepS st n d m) ≤ tot st + (d.length + m.length + 1) := by
  unfold stepS
  split
  · omega
  · have := tot_put st n (riseL d) (riseL m)
    have := length_riseL d
    have := length_riseL m
    omega

/-- The state behind the first acts. -/
def actS (st : St) (a : A) : St := stepS st a.n (actD a.dd a.d) (actD a.dd a.m)
def run (l : List A) : St := l.foldl actS []

theorem tot_actS (st : St) (a : A) : tot (actS st a) ≤ tot st + (a.d.length + a.m.length + 1) := by
  have := tot_stepS st a.n (actD a.dd a.d) (actD a.dd a.m)
  have := len_actD a.dd a.d
  have := len_actD a.dd a.m
  unfold actS
  omega

theorem run_take {l : List A} {k : Nat} (hk : k < l.length) : run (l.take (k + 1)) = actS (run (l.take k)) l[k] := by
  unfold run
  rw [List.take_succ_eq_append_getElem hk, List.foldl_append]
  rfl

theorem tot_run (l : List A) : ∀ k, k ≤ l.length → tot (run (l.take k)) ≤ lens (l.take k) + k
  | 0, _ => by simp [run, tot, lens]
  | k + 1, hk => by
    have h1 := tot_run l k (by omega)
    rw [run_take (by omega), lens_take (by omega)]
    have := tot_actS (run (l.take k)) l[k]
    omega
theorem lens_take_le (l : List A) (k : Nat) : lens (l.take k) ≤ lens l := by
  conv => rhs; rw [← List.take_append_drop k l]
  unfold lens
  rw [List.map_append, List.sum_append]
  omega

theorem differ_irrefl (st : St) (s : Str) : differ st st s = false := by simp [differ]

theorem told_nil {st : St} {told : List Str} (h : ∀ s, s ∈ told ↔ differ st st s = true) : told = [] := by
  apply List.eq_nil_iff_forall_not_mem.2
  intro s hs
  have := (h s).1 hs
  rw [differ_irrefl] at this
  cases this

/-- What became known and what is known no more: as many as were told. -/
theorem told_count {st st' : St} {told : List Str} (hu : Up told) (h : ∀ s, s ∈ told ↔ differ st st' s = true) :
    ((known st).filter (fun s => decide (s ∉ known st'))).length + ((known st').filter (fun s => decide (s ∉ known st))).length = told.length := by
  rw [← List.length_append]
  apply List.Perm.length_eq
  have hnd : ((known st).filter (fun s => decide (s ∉ known st')) ++ (known st').filter (fun s => decide (s ∉ known st))).Nodup := by
    refine List.nodup_append.2 ⟨((up_known st).nodup).filter _, ((up_known st').nodup).filter _, ?_⟩
    rintro a ha b hb rfl
    have h1 := (List.mem_filter.1 ha).1
    have h2 := (List.mem_filter.1 hb).2
    simp at h2
    exact h2 h1
  refine (List.perm_ext_iff_of_nodup hnd hu.nodup).2 (fun s => ?_)
  rw [h s, List.mem_append, List.mem_filter, List.mem_filter]
  simp only [decide_eq_true_eq, mem_known]
  unfold differ
  by_cases h1 : 0 < cnt st s <;> by_cases h2 : 0 < cnt st' s <;> simp [h1, h2]

theorem told_differ {st st' : St} {told : List Str} (h : ∀ s, s ∈ told ↔ differ st st' s = true) {s : Str} (hs : s ∈ told) : decide (s ∈ known st) = !decide (s ∈ known st') := by
  have := (h s).1 hs
  unfold differ at this
  by_cases h1 : 0 < cnt st s <;> by_cases h2 : 0 < cnt st' s <;> simp [h1, h2] at this <;> simp [mem_known, h1, h2]

theorem length_known (st : St) : (known st).length ≤ tot st := Nat.le_trans (length_riseL _) (length_labels st)

theorem geq_up {a b : Str} (h : a < b) : binOp .geq 9 (encStr a) (encStr b) = pure (.bool false) := by
  show binOp .geq 9 (.string ⟨a.toArray⟩) (.string ⟨b.toArray⟩) = _
  rw [binOp_string_geq, bytesLess_eq]
  simp [h]

theorem told_len {st st' : St} {told : List Str} (hu : Up told) (h : ∀ s, s ∈ told ↔ differ st st' s = true) : told.length ≤ (known st).length + (known st').length := by
  rw [← told_count hu h]
  exact Nat.add_le_add (List.length_filter_le _ _) (List.length_filter_le _ _)

theorem take_filter {l : List Str} {k : Nat} (hk : k < l.length) (p : Str → Bool) : ((l.take (k + 1)).filter p).length = ((l.take k).filter p).length + (if p l[k] then 1 else 0) := by
  rw [List.take_succ_eq_append_getElem hk, List.filter_append, List.length_append]
  by_cases h : p l[k] <;> simp [h]
theorem take_filter_le (l : List Str) (k : Nat) (p : Str → Bool) : ((l.take k).filter p).length ≤ k := Nat.le_trans (List.length_filter_le _ _) (List.length_take_le _ _)

theorem up_at {l : List Str} (h : Up l) {k : Nat} (hk : k < l.length) (h0 : 0 < k) : l[k - 1]'(by omega) < l[k] := (List.pairwise_iff_getElem.1 h) (k - 1) k (by omega) hk (by omega)

end Go.Proofs.Ytkjmknmcbkofbaa
