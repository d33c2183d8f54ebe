/-
  The plain list behind the reference's Put; no program.
  Its conditions: as each theorem states them.
-/
import Derived.Test.YtkjmknmcbkofbaaLastP
namespace Go.Proofs.Ytkjmknmcbkofbaa
open Go
set_option linter.unusedVariables false
set_option linter.unusedSimpArgs false

/-! ### the reference's list -/
def Srt (L : List E) : Prop := L.Pairwise (fun a b => a.n < b.n)
def stepL (n : Int) (en : E) (p : List E × Bool) (e : E) : List E × Bool :=
  let q := if !p.2 && decide (e.n ≥ n) then (p.1 ++ [en], true) else p
  (if e.n = n then q.1 else q.1 ++ [e], q.2)
def foldL (L : List E) (n : Int) (en : E) (d0 : Bool) (k : Nat) : List E × Bool := (L.take k).foldl (stepL n en) ([], d0)
theorem foldL_next {L : List E} {k : Nat} (hk : k < L.length) (n : Int) (en : E) (d0 : Bool) : foldL L n en d0 (k + 1) = stepL n en (foldL L n en d0 k) L[k] := by
  unfold foldL
  rw [List.take_succ_eq_append_getElem hk, List.foldl_append]
  rfl
def putL (L : List E) (n : Int) (en : E) (d0 : Bool) : List E := if (foldL L n en d0 L.length).2 then (foldL L n en d0 L.length).1 else (foldL L n en d0 L.length).1 ++ [en]

structure FoldOk (L : List E) (n : Int) (en : E) (d0 : Bool) (k : Nat) (p : List E × Bool) : Prop where
  srt : Srt p.1
  mem : ∀ e, e ∈ p.1 ↔ (e ∈ L.take k ∧ e.n ≠ n) ∨ (p.2 = true ∧ d0 = false ∧ e = en)
  low : p.2 = false → ∀ e ∈ L.take k, e.n < n
  high : p.2 = true → d0 = false → ∃ e ∈ L.take k, n ≤ e.n
  d0 : d0 = true → p.2 = true

theorem srt_snoc {l : List E} {a : E} (h : Srt l) (ha : ∀ e ∈ l, e.n < a.n) : Srt (l ++ [a]) :=
  List.pairwise_append.2 ⟨h, List.pairwise_singleton _ _, fun x hx y hy => by simp at hy; subst hy; exact ha x hx⟩

theorem foldOk {L : List E} (hs : Srt L) (n : Int) (en : E) (hen : en.n = n) (d0 : Bool) : ∀ k, k ≤ L.length → FoldOk L n en d0 k (foldL L n en d0 k)
  | 0, _ => ⟨List.Pairwise.nil, fun e => by cases d0 <;> simp [foldL], fun _ e he => (by simp at he), fun h1 h2 => (by simp [foldL, h2] at h1), fun h => h⟩
  | k + 1, hk => by
    have ih := foldOk hs n en hen d0 k (by omega)
    have hlt : k < L.length := by omega
    rw [foldL_next hlt]
    obtain ⟨p, hp⟩ : ∃ p, p = foldL L n en d0 k := ⟨_, rfl⟩
    rw [← hp] at ih ⊢
    have hlast : ∀ e ∈ L.take k, e.n < L[k].n := fun e he => by
      obtain ⟨i, hi, rfl⟩ := List.getElem_of_mem he
      rw [List.getElem_take]
      simp at hi
      exact (List.pairwise_iff_getElem.1 hs) i k (by omega) hlt (by omega)
    have hmt : ∀ e, e ∈ L.take (k + 1) ↔ e ∈ L.take k ∨ e = L[k] := fun e => by
      rw [List.take_succ_eq_append_getElem hlt, List.mem_append, List.mem_singleton]
    obtain ⟨x, hx⟩ : ∃ x, x = L[k] := ⟨_, rfl⟩
    rw [← hx] at hlast hmt ⊢
    unfold stepL
    -- the middle list
    by_cases hin : (!p.2 && decide (x.n ≥ n)) = true
    · simp only [Bool.and_eq_true, Bool.not_eq_true', decide_eq_true_eq] at hin
      obtain ⟨h2, hge⟩ := hin
      have hd : d0 = false := by
        cases hd : d0 with
        | false => rfl
        | true => rw [ih.d0 hd] at h2; cases h2
      simp only [h2, Bool.not_false, Bool.true_and, decide_eq_true hge, if_true]
      have hsm : Srt (p.1 ++ [en]) := srt_snoc ih.srt (fun e he => by
        rcases (ih.mem e).1 he with ⟨h3, _⟩ | ⟨h3, _⟩
        · rw [hen]; exact ih.low h2 e h3
        · rw [h2] at h3; cases h3)
      by_cases hxn : x.n = n
      · rw [if_pos hxn]
        refine ⟨hsm, fun e => ?_, fun h => (by cases h), fun _ _ => ⟨x, (hmt x).2 (.inr rfl), hge⟩, fun _ => rfl⟩
        rw [List.mem_append, List.mem_singleton, ih.mem, hmt]
        simp only [h2, Bool.false_eq_true, false_and, or_false, true_and, hd]
        constructor
        · rintro (⟨h3, h4⟩ | h3)
          · exact .inl ⟨.inl h3, h4⟩
          · exact .inr h3
        · rintro (⟨h3 | rfl, h4⟩ | h3)
          · exact .inl ⟨h3, h4⟩
          · exact absurd hxn h4
          · exact .inr h3
      · rw [if_neg hxn]
        refine ⟨srt_snoc hsm (fun e he => ?_), fun e => ?_, fun h => (by cases h), fun _ _ => ⟨x, (hmt x).2 (.inr rfl), hge⟩, fun _ => rfl⟩
        · rcases List.mem_append.1 he with h3 | h3
          · rcases (ih.mem e).1 h3 with ⟨h4, _⟩ | ⟨h4, _⟩
            · exact hlast e h4
            · rw [h2] at h4; cases h4
          · simp at h3; subst h3; rw [hen]; omega
        · rw [List.mem_append, List.mem_append, List.mem_singleton, List.mem_singleton, ih.mem, hmt]
          simp only [h2, Bool.false_eq_true, false_and, or_false, true_and, hd]
          constructor
          · rintro ((⟨h3, h4⟩ | h3) | rfl)
            · exact .inl ⟨.inl h3, h4⟩
            · exact .inr h3
            · exact .inl ⟨.inr rfl, hxn⟩
          · rintro (⟨h3 | rfl, h4⟩ | h3)
            · exact .inl (.inl ⟨h3, h4⟩)
            · exact .inr rfl
            · exact .inl (.inr h3)
    · rw [if_neg hin]
      simp only []
      have hlow : p.2 = false → x.n < n := fun h => by
        rw [h] at hin
        simp at hin
        omega
      by_cases hxn : x.n = n
      · rw [if_pos hxn]
        have h2 : p.2 = true := by
          cases h : p.2 with
          | true => rfl
          | false => have := hlow h; omega
        refine ⟨ih.srt, fun e => ?_, fun h => (by rw [h2] at h; cases h), fun _ hd => (by obtain ⟨e, he, h⟩ := ih.high h2 hd; exact ⟨e, (hmt e).2 (.inl he), h⟩), fun _ => h2⟩
        rw [ih.mem, hmt]
        constructor
        · rintro (⟨h3, h4⟩ | h3)
          · exact .inl ⟨.inl h3, h4⟩
          · exact .inr h3
        · rintro (⟨h3 | rfl, h4⟩ | h3)
          · exact .inl ⟨h3, h4⟩
          · exact absurd hxn h4
          · exact .inr h3
      · rw [if_neg hxn]
        refine ⟨srt_snoc ih.srt (fun e he => ?_), fun e => ?_, fun h e he => ?_, fun h hd => (by obtain ⟨e, he, h⟩ := ih.high h hd; exact ⟨e, (hmt e).2 (.inl he), h⟩), fun h => ih.d0 h⟩
        · rcases (ih.mem e).1 he with ⟨h4, _⟩ | ⟨h4, h5, rfl⟩
          · exact hlast e h4
          · obtain ⟨y, hy, hny⟩ := ih.high h4 h5
            have := hlast y hy
            rw [hen]; omega
        · rw [List.mem_append, List.mem_singleton, ih.mem, hmt]
          constructor
          · rintro ((⟨h3, h4⟩ | h3) | rfl)
            · exact .inl ⟨.inl h3, h4⟩
            · exact .inr h3
            · exact .inl ⟨.inr rfl, hxn⟩
          · rintro (⟨h3 | rfl, h4⟩ | h3)
            · exact .inl (.inl ⟨h3, h4⟩)
            · exact .inr rfl
            · exact .inl (.inr h3)
        · rcases (hmt e).1 he with h3 | rfl
          · exact ih.low h e h3
          · exact hlow h

theorem foldL_len (L : List E) (n : Int) (en : E) (d0 : Bool) : ∀ k, k ≤ L.length → (foldL L n en d0 k).1.length ≤ 2 * k
  | 0, _ => by simp [foldL]
  | k + 1, hk => by
    have ih := foldL_len L n en d0 k (by omega)
    rw [foldL_next (by omega)]
    unfold stepL
    split <;> split <;> simp <;> omega

theorem putL_ok {L : List E} (hs : Srt L) (n : Int) (en : E) (hen : en.n = n) (d0 : Bool) : Srt (putL L n en d0) ∧ ∀ e, e ∈ putL L n en d0 ↔ (e ∈ L ∧ e.n ≠ n) ∨ (d0 = false ∧ e = en) := by
  have h := foldOk hs n en hen d0 L.length (Nat.le_refl _)
  have hl := h.low
  have hm := h.mem
  rw [List.take_length] at hl hm
  unfold putL
  cases hp : (foldL L n en d0 L.length).2 with
  | true =>
    rw [if_pos rfl]
    refine ⟨h.srt, fun e => ?_⟩
    rw [hm, hp]
    simp
  | false =>
    have hd : d0 = false := by
      cases hd : d0 with
      | false => rfl
      | true => have := h.d0 hd; rw [hp] at this; cases this
    rw [if_neg (by simp)]
    refine ⟨srt_snoc h.srt (fun e he => ?_), fun e => ?_⟩
    · rcases (hm e).1 he with ⟨h1, _⟩ | ⟨h1, _⟩
      · rw [hen]; exact hl hp e h1
      · rw [hp] at h1; cases h1
    · rw [List.mem_append, List.mem_singleton, hm, hp, hd]
      simp

theorem srt_nodup {L : List E} (h : Srt L) : L.Nodup := by
  unfold Srt at h
  exact h.imp (fun {a b} hab e => by rw [e] at hab; omega)
theorem srt_perm {L st : List E} {N : Nat} (h : Srt L) (hw : Wf st N) (hm : ∀ e, e ∈ L ↔ e ∈ st) : L.Perm st :=
  (List.perm_ext_iff_of_nodup (srt_nodup h) (wf_nodup hw)).2 hm
theorem srt_who {L st : List E} {N : Nat} (h : Srt L) (hw : Wf st N) (hm : ∀ e, e ∈ L ↔ e ∈ st) (s : Str) : whoL L s = who st s := by
  have hp : (whoL L s).Perm (whoL st s) := ((srt_perm h hw hm).filter _).map _
  unfold who
  rw [← mergeSort_int_perm hp]
  symm
  apply List.mergeSort_of_pairwise
  unfold whoL
  rw [List.pairwise_map]
  exact (List.Pairwise.filter _ h).imp (fun {a b} (hab : a.n < b.n) => by simpa using Int.le_of_lt hab)

theorem find_srt {L st : List E} {N : Nat} (h : Srt L) (hw : Wf st N) (hm : ∀ e, e ∈ L ↔ e ∈ st) : Wf L N where
  nd := by
    unfold Srt at h
    exact h.imp (fun {a b} hab e => by omega)
  int e he := hw.int e ((hm e).1 he)
  str e he := hw.str e ((hm e).1 he)
  upd e he := hw.upd e ((hm e).1 he)
  upm e he := hw.upm e ((hm e).1 he)
  len e he := hw.len e ((hm e).1 he)
  some e he := hw.some e ((hm e).1 he)
  size := by rw [(srt_perm h hw hm).length_eq]; exact hw.size

/-- The entry that a Put of the reference lays; whether it lays none. -/
def enR (n : Int) (ds ms : List Str) : E := ⟨n, riseL ds, riseL ms⟩
def d0R (ds ms : List Str) : Bool := decide (ds.length = 0) && decide (ms.length = 0)

theorem putL_step {L st : List E} (hs : Srt L) (hm : ∀ e, e ∈ L ↔ e ∈ st) (n : Int) (hn : 0 ≤ n) (ds ms : List Str) :
    Srt (putL L n (enR n ds ms) (d0R ds ms)) ∧ ∀ e, e ∈ putL L n (enR n ds ms) (d0R ds ms) ↔ e ∈ stepS st n ds ms := by
  obtain ⟨h1, h2⟩ := putL_ok hs n (enR n ds ms) rfl (d0R ds ms)
  refine ⟨h1, fun e => ?_⟩
  rw [h2, hm]
  unfold stepS
  rw [if_neg (by omega)]
  unfold put
  have hd : d0R ds ms = true ↔ riseL ds = [] ∧ riseL ms = [] := by
    unfold d0R
    rw [riseL_eq_nil, riseL_eq_nil]
    simp
  by_cases hb : riseL ds = [] ∧ riseL ms = []
  · rw [if_pos hb, mem_drop, hd.2 hb]
    simp
  · rw [if_neg hb, List.mem_cons, mem_drop]
    have : d0R ds ms = false := by
      cases h : d0R ds ms with
      | false => rfl
      | true => exact absurd (hd.1 h) hb
    rw [this]
    unfold enR
    constructor
    · rintro (h | ⟨_, h⟩)
      · exact .inr h
      · exact .inl h
    · rintro (h | h)
      · exact .inr ⟨rfl, h⟩
      · exact .inl h

theorem mem_known_of {L st : List E} (hm : ∀ e, e ∈ L ↔ e ∈ st) : known L = known st :=
  Up.ext (up_known _) (up_known _) (fun s => by
    rw [mem_known, mem_known, mem_cnt, mem_cnt]
    exact ⟨fun ⟨e, h1, h2⟩ => ⟨e, (hm e).1 h1, h2⟩, fun ⟨e, h1, h2⟩ => ⟨e, (hm e).2 h1, h2⟩⟩)

/-- What the reference's Put tells. -/
def outR (was now : List Str) : List Str := was.filter (fun s => decide (s ∉ now)) ++ now.filter (fun s => decide (s ∉ was))
theorem outR_told {st st' : St} {told : List Str} (hu : Up told) (hm : ∀ s, s ∈ told ↔ differ st st' s = true) : riseL (outR (known st) (known st')) = told := by
  refine Up.ext (up_riseL _) hu (fun s => ?_)
  rw [mem_riseL, hm s]
  unfold outR differ
  rw [List.mem_append, List.mem_filter, List.mem_filter]
  simp only [decide_eq_true_eq, mem_known]
  by_cases h1 : 0 < cnt st s <;> by_cases h2 : 0 < cnt st' s <;> simp [h1, h2]
theorem take_filter2 {l : List Str} {k : Nat} (hk : k < l.length) (p : Str → Bool) : (l.take (k + 1)).filter p = (l.take k).filter p ++ (if p l[k] then [l[k]] else []) := by
  rw [List.take_succ_eq_append_getElem hk, List.filter_append]
  by_cases h : p l[k] <;> simp [h]

end Go.Proofs.Ytkjmknmcbkofbaa
