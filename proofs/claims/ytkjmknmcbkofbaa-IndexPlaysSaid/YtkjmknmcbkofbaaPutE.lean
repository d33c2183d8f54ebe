/-
  Put, the plain part of its end: the state in memory again; what is told.
  Its conditions: as each theorem states them.
-/
import Derived.Test.YtkjmknmcbkofbaaPutC
namespace Go.Proofs.Ytkjmknmcbkofbaa
set_option linter.unusedVariables false
set_option linter.unusedSimpArgs false
open Go Go.Proofs Go.RowKit Go.Maps Go.Sort Go.Shelf
variable {G : Nat → Prop}

theorem nodup_pairs {st : St} {N : Nat} (h : Wf st N) (f : E → List Str) (hf : ∀ e ∈ st, (f e).Nodup) : (st.flatMap (fun e => (f e).map (fun s => (s, e.n)))).Nodup := by
  have nd := h.nd
  clear h
  induction st with
  | nil => exact List.nodup_nil
  | cons a r ih =>
    obtain ⟨h1, h2⟩ := List.pairwise_cons.1 nd
    rw [List.flatMap_cons]
    refine List.nodup_append.2 ⟨?_, ih (fun e he => hf e (by simp [he])) h2, ?_⟩
    · refine List.pairwise_map.2 ((hf a (by simp)).imp fun hne e => hne (congrArg Prod.fst e))
    · intro x hx y hy e
      subst e
      obtain ⟨s, _, rfl⟩ := List.mem_map.1 hx
      obtain ⟨e', he', hy'⟩ := List.mem_flatMap.1 hy
      obtain ⟨s', _, e2⟩ := List.mem_map.1 hy'
      exact h1 e' he' (congrArg Prod.snd e2).symm

theorem length_pairs (st : St) (f : E → List Str) (hf : ∀ e, (f e).length ≤ e.d.length + e.m.length + 1) : (st.flatMap (fun e => (f e).map (fun s => (s, e.n)))).length ≤ tot st := by
  induction st with
  | nil => simp [tot]
  | cons a r ih =>
    have e0 : tot (a :: r) = (a.d.length + a.m.length + 1) + tot r := by simp [tot]
    rw [List.flatMap_cons, List.length_append, List.length_map]
    have := hf a
    omega
theorem length_labels (st : St) : (st.flatMap (·.d)).length ≤ tot st := by
  induction st with
  | nil => simp [tot]
  | cons a r ih =>
    have e0 : tot (a :: r) = (a.d.length + a.m.length + 1) + tot r := by simp [tot]
    rw [List.flatMap_cons, List.length_append]
    omega

theorem idx_tight {st : St} {N : Nat} (hw : Wf st N) {w : World} {X be bd bm bc Me Md Mm Mc : Nat} (hb : Blk w X 56 #[.map (some be), .map (some bd), .map (some bm), .map (some bc)])
    (hne : be ≠ bd ∧ be ≠ bm ∧ be ≠ bc ∧ bd ≠ bm ∧ bd ≠ bc ∧ bm ≠ bc)
    (he : ∃ ev : Int → Value × Value, View intK w be Me (entF st ev) ∧ ∀ e ∈ st, RowG G w (ev e.n).1 e.d ∧ RowG G w (ev e.n).2 e.m)
    (hd : View saidK w bd Md (setF fun x => x.1 ∈ getD st x.2)) (hm : View saidK w bm Mm (setF fun x => x.1 ∈ getM st x.2)) (hc : View strK w bc Mc (cntF (cnt st))) :
    Idx G w X be bd bm bc (tot st) st := by
  obtain ⟨ev, hev, hrows⟩ := he
  have hsome : ∀ (S : Str × Int → Prop) [DecidablePred S] (x : Str × Int), (setF S x).isSome = true ↔ S x := fun S _ x => by
    by_cases h : S x
    · rw [setF_pos h]; simp [h]
    · rw [setF_neg h]; simp [h]
  refine ⟨hb, hne, ⟨ev, (hev.tight intK (L := st.map (·.n)) (nd_keys hw) (fun a ha => ?_) (fun a _ => ?_)).mono intK (by rw [List.length_map]; exact len_tot), hrows⟩, ?_, ?_, ?_, wf_tot hw⟩
  · obtain ⟨e, he, rfl⟩ := List.mem_map.1 ha
    have := hw.int e he
    exact WalkArith.wf_i64 (by omega)
  · unfold entF Ytkjmknmcbkofbaa.has
    rw [List.mem_map]
    constructor
    · intro hh
      split at hh
      · rename_i h1
        obtain ⟨e, h2, h3⟩ := List.any_eq_true.1 h1
        exact ⟨e, h2, by simpa using h3⟩
      · cases hh
    · rintro ⟨e, h1, rfl⟩
      rw [if_pos (List.any_eq_true.2 ⟨e, h1, by simp⟩)]
      rfl
  · refine (hd.tight saidK (L := st.flatMap (fun e => e.d.map (fun s => (s, e.n)))) (nodup_pairs hw (·.d) (fun e he => (hw.upd e he).nodup)) (fun a ha => ?_) (fun a _ => ?_)).mono saidK (length_pairs st (·.d) (fun e => by omega))
    · obtain ⟨e, he, h1⟩ := List.mem_flatMap.1 ha
      obtain ⟨s, hs, rfl⟩ := List.mem_map.1 h1
      have := hw.int e he
      exact ⟨(hw.str e he).1 s hs, WalkArith.wf_i64 (by show -9223372036854775808 ≤ e.n ∧ e.n ≤ 9223372036854775807; omega)⟩
    · rw [hsome]
      rw [mem_getD hw, List.mem_flatMap]
      constructor
      · rintro ⟨e, he, e1, e2⟩
        exact ⟨e, he, List.mem_map.2 ⟨a.1, e2, Prod.ext rfl e1⟩⟩
      · rintro ⟨e, he, h1⟩
        obtain ⟨s, hs, rfl⟩ := List.mem_map.1 h1
        exact ⟨e, he, rfl, hs⟩
  · refine (hm.tight saidK (L := st.flatMap (fun e => e.m.map (fun s => (s, e.n)))) (nodup_pairs hw (·.m) (fun e he => (hw.upm e he).nodup)) (fun a ha => ?_) (fun a _ => ?_)).mono saidK (length_pairs st (·.m) (fun e => by omega))
    · obtain ⟨e, he, h1⟩ := List.mem_flatMap.1 ha
      obtain ⟨s, hs, rfl⟩ := List.mem_map.1 h1
      have := hw.int e he
      exact ⟨(hw.str e he).2 s hs, WalkArith.wf_i64 (by show -9223372036854775808 ≤ e.n ∧ e.n ≤ 9223372036854775807; omega)⟩
    · rw [hsome]
      rw [mem_getM hw, List.mem_flatMap]
      constructor
      · rintro ⟨e, he, e1, e2⟩
        exact ⟨e, he, List.mem_map.2 ⟨a.1, e2, Prod.ext rfl e1⟩⟩
      · rintro ⟨e, he, h1⟩
        obtain ⟨s, hs, rfl⟩ := List.mem_map.1 h1
        exact ⟨e, he, rfl, hs⟩
  · refine (hc.tight strK (L := known st) (up_known st).nodup (fun a ha => ?_) (fun a _ => ?_)).mono strK (Nat.le_trans (length_riseL _) (length_labels st))
    · obtain ⟨e, he, hs⟩ := mem_cnt.1 (mem_known.1 ha)
      exact (hw.str e he).1 a hs
    · rw [mem_known]
      unfold cntF
      split <;> simp [*]

/-- What is told while the notes are walked through. -/
def ToldAt (S : List Str) (c c' : Str → Nat) (left : Lit → Bool) (told : List Str) : Prop :=
  (∀ s ∈ told, s.length ≤ maxLen) ∧ ∀ s : Str, s.length ≤ maxLen → (s ∈ told ↔ (s ∈ S ∧ left (.string s) = false ∧ (decide (0 < c s) != decide (0 < c' s)) = true))

section
variable {S : List Str} {c c' : Str → Nat} {left : Lit → Bool} {told : List Str} {D : DataW Value}
theorem ToldAt.start (hD : ∀ s, s.length ≤ maxLen → Maps.has D (.string s) = (wasF c S s).isSome) : ToldAt S c c' (Maps.has D) [] :=
  ⟨by simp, fun s hs => by
    rw [hD s hs]
    unfold wasF
    by_cases h : s ∈ S <;> simp [h]⟩
theorem ToldAt.yes (h : ToldAt S c c' left told) {s : Str} (hs : s.length ≤ maxLen) (hS : s ∈ S) (hd : (decide (0 < c s) != decide (0 < c' s)) = true) : ToldAt S c c' (fun z => left z && !z.sameKey (.string s)) (told ++ [s]) := by
  refine ⟨fun x hx => ?_, fun x hx => ?_⟩
  · rcases List.mem_append.1 hx with h1 | h1
    · exact h.1 x h1
    · simp at h1; subst h1; exact hs
  · by_cases e : x = s
    · subst e; simp only [List.mem_append, List.mem_singleton, or_true, true_iff]; exact ⟨hS, by simp [Lit.sameKey], hd⟩
    · have hne : (Lit.string x).sameKey (.string s) = false := Maps.sameKey_ne (fun h' => e (by injection h'))
      simp only [List.mem_append, List.mem_singleton, e, or_false, h.2 x hx, hne, Bool.not_false, Bool.and_true]
theorem ToldAt.no (h : ToldAt S c c' left told) {s : Str} (hd : (decide (0 < c s) != decide (0 < c' s)) = false) : ToldAt S c c' (fun z => left z && !z.sameKey (.string s)) told := by
  refine ⟨h.1, fun x hx => ?_⟩
  rw [h.2 x hx]
  by_cases e : x = s
  · subst e; rw [hd]; simp
  · have hne : (Lit.string x).sameKey (.string s) = false := Maps.sameKey_ne (fun h' => e (by injection h'))
    simp only [hne, Bool.not_false, Bool.and_true]
end

theorem told_end {st : St} {N : Nat} (hw : Wf st N) {n : Int} {od nd nm : List Str} (hod : od = getD st n) (hnd : ∀ s ∈ nd, s.length ≤ maxLen) {c' : Str → Nat} (hc' : ∀ s, c' s = cnt (put st n nd nm) s) {left : Lit → Bool} {told : List Str} (h : ToldAt (od ++ nd) (cnt st) c' left told) (hl : ∀ kl, left kl = false) (s : Str) :
    s ∈ riseL told ↔ (decide (0 < cnt st s) != decide (0 < cnt (put st n nd nm) s)) = true := by
  rw [mem_riseL, ← hc' s]
  have hin : (decide (0 < cnt st s) != decide (0 < c' s)) = true → s ∈ od ++ nd ∧ s.length ≤ maxLen := fun hd => by
    rw [hc' s, cnt_put, cnt_drop (n := n) hw, ← hod] at hd
    have h1 : s ∈ od ++ nd := by
      rw [List.mem_append]
      by_cases h1 : s ∈ od
      · exact .inl h1
      · by_cases h2 : s ∈ nd
        · exact .inr h2
        · rw [if_neg h1, if_neg h2] at hd; simp at hd
    refine ⟨h1, ?_⟩
    rcases List.mem_append.1 h1 with h2 | h2
    · rw [hod] at h2
      obtain ⟨e, he, _, hm⟩ := (mem_getD hw).1 h2
      exact (hw.str e he).1 s hm
    · exact hnd s h2
  constructor
  · intro hs
    exact ((h.2 s (h.1 s hs)).1 hs).2.2
  · intro hd
    obtain ⟨h1, h2⟩ := hin hd
    exact (h.2 s h2).2 ⟨h1, hl _, hd⟩

theorem setF_congr {S T : Str × Int → Prop} [DecidablePred S] [DecidablePred T] {x : Str × Int} (h : S x ↔ T x) : setF S x = setF T x := by
  by_cases hs : S x
  · rw [setF_pos hs, setF_pos (h.1 hs)]
  · rw [setF_neg hs, setF_neg (fun h' => hs (h.2 h'))]
theorem sUp_end {st : St} {N : Nat} (hw : Wf st N) {n : Int} {nd nm : List Str} (x : Str × Int) : setF (fun y : Str × Int => y.1 ∈ getD (put st n nd nm) y.2) x = setF (sUp (getD st) n nd nd.length) x := by
  apply setF_congr
  show x.1 ∈ getD (put st n nd nm) x.2 ↔ _
  rw [getD_put hw]
  unfold sUp
  by_cases h : x.2 = n <;> simp [h]
theorem sUp_endM {st : St} {N : Nat} (hw : Wf st N) {n : Int} {nd nm : List Str} (x : Str × Int) : setF (fun y : Str × Int => y.1 ∈ getM (put st n nd nm) y.2) x = setF (sUp (getM st) n nm nm.length) x := by
  apply setF_congr
  show x.1 ∈ getM (put st n nd nm) x.2 ↔ _
  rw [getM_put hw]
  unfold sUp
  by_cases h : x.2 = n <;> simp [h]
theorem cUp_end {st : St} {n : Int} {nd nm : List Str} (s : Str) : cUp (cnt (drop st n)) nd nd.length s = cnt (put st n nd nm) s := by
  rw [cnt_put]; unfold cUp; simp

end Go.Proofs.Ytkjmknmcbkofbaa
