/-
  The method Who: the numbers of the entries that mention a label, sorted.
  Its conditions: as each theorem states them.
-/
import Derived.Test.YtkjmknmcbkofbaaSmall
import Derived.Sort.OwnSortedInts
namespace Go.Proofs.Ytkjmknmcbkofbaa
set_option linter.unusedVariables false
set_option linter.unusedSimpArgs false
open Go Go.Proofs Go.RowKit Go.Maps Go.Sort Go.Shelf
variable {G : Nat → Prop}

def whoL (st : St) (s : Str) : List Int := (st.filter (fun e => decide (s ∈ e.m))).map (·.n)
def who (st : St) (s : Str) : List Int := (whoL st s).mergeSort (fun a b => decide (a ≤ b))

/-- Which numbers have come so far. -/
def WhoAt (st : St) (s : Str) (left : Lit → Bool) (ns : List Int) : Prop :=
  ns.Nodup ∧ (∀ n ∈ ns, (Lit.int .i64 n).wf = true) ∧ ∀ n, (Lit.int .i64 n).wf = true → (n ∈ ns ↔ (s ∈ getM st n ∧ left (saidLit (s, n)) = false))

def IntsOut (w : World) (ns : List Int) (e : Ending) (w' : World) : Prop :=
  ∃ v, e = .returned v ∧ w'.ownsRow w.heap.size 3 1 v ns.length (ns.map (Value.int .i64)) ∧ Below w.heap.size w w'

theorem info3 : (Try.prog.info? 3).map (fun i => (i.zero, i.size, i.bytes)) = some (some (.int .i64 0), 1, 8) := by kernel_rfl
theorem info9 : (Try.prog.info? 9).map (fun i => (i.zero, i.size, i.bytes)) = some (some (.string ⟨#[]⟩), 1, 16) := by kernel_rfl

theorem find_of_nd {st : St} {N : Nat} (h : Wf st N) {e : E} (he : e ∈ st) : st.find? (fun x => decide (x.n = e.n)) = some e := by
  have nd := h.nd
  clear h
  induction st with
  | nil => cases he
  | cons a r ih =>
    obtain ⟨h1, h2⟩ := List.pairwise_cons.1 nd
    rcases List.mem_cons.1 he with rfl | hr
    · simp
    · have : a.n ≠ e.n := h1 e hr
      simp [this]
      exact ih hr h2
theorem getM_of {st : St} {N : Nat} (h : Wf st N) {e : E} (he : e ∈ st) : getM st e.n = e.m := by unfold getM; rw [find_of_nd h he]
theorem getD_of {st : St} {N : Nat} (h : Wf st N) {e : E} (he : e ∈ st) : getD st e.n = e.d := by unfold getD; rw [find_of_nd h he]
theorem mem_getM {st : St} {N : Nat} (h : Wf st N) {n : Int} {s : Str} : s ∈ getM st n ↔ ∃ e ∈ st, e.n = n ∧ s ∈ e.m := by
  constructor
  · intro hm
    unfold getM at hm
    split at hm
    · rename_i e he
      exact ⟨e, List.mem_of_find?_eq_some he, by simpa using List.find?_some he, hm⟩
    · cases hm
  · rintro ⟨e, he, rfl, hm⟩
    rw [getM_of h he]; exact hm
theorem mem_getD {st : St} {N : Nat} (h : Wf st N) {n : Int} {s : Str} : s ∈ getD st n ↔ ∃ e ∈ st, e.n = n ∧ s ∈ e.d := by
  constructor
  · intro hm
    unfold getD at hm
    split at hm
    · rename_i e he
      exact ⟨e, List.mem_of_find?_eq_some he, by simpa using List.find?_some he, hm⟩
    · cases hm
  · rintro ⟨e, he, rfl, hm⟩
    rw [getD_of h he]; exact hm

theorem cell_one_two (w : World) (o : Obj) (u : Value) (t : TypeId) : ∀ (j : Nat) (v : Value), [u][j]? = some v → ((w.alloc o).alloc (.cells #[u] t)).cell? (Addr.add ⟨w.heap.size + 1, 0, none⟩ j) = some v := by
  have := cell_one_new (w.alloc o) u t
  rw [World.size_alloc] at this
  exact this
theorem row_ne_iter_I {K : TypeId} {R : Value → Option (DataW Value × List MemPlace)} {w : World} {b r n base : Nat} {D : DataW Value} {left : Lit → Bool} {cnt : Nat} {e : TypeId} {v : Value} {m : Nat} {xs : List Value}
    (h : w.ownsRow base e 1 v m xs) (hr : w.ranges Try.prog K R b r n D left cnt) : v.ownBlock = none ∨ v.ownBlock ≠ some r := by
  rcases h.2 with ⟨rfl, _⟩ | ⟨g, cap, cur, rfl, _, hgb, _⟩
  · exact .inl rfl
  · refine .inr fun e' => ?_
    have hgr : g = r := by simpa [Value.ownBlock] using e'
    subst hgr
    obtain ⟨_, _, _, _, _, _, _, _, _, hi, _⟩ := hr
    rw [hgb] at hi
    cases hi

theorem ne_own_map {K : TypeId} {R : Value → Option (DataW Value × List MemPlace)} {w : World} {b n base : Nat} {D : DataW Value} {e : TypeId} {v : Value} {m : Nat} {xs : List Value}
    (h : w.ownsRow base e 1 v m xs) (hm : w.ownsMap Try.prog K R b n D) : some b ≠ v.ownBlock := fun e' => by
  rcases h.2 with ⟨rfl, _⟩ | ⟨g, cap, cur, rfl, _, hgb, _⟩
  · simp [Value.ownBlock] at e'
  · obtain ⟨es, c, hb, _⟩ := hm
    have : b = g := by simpa [Value.ownBlock] using e'
    subst this
    rw [hgb] at hb
    cases hb
theorem ne_own_iter {K : TypeId} {R : Value → Option (DataW Value × List MemPlace)} {w : World} {b r n base : Nat} {D : DataW Value} {left : Lit → Bool} {cnt : Nat} {e : TypeId} {v : Value} {m : Nat} {xs : List Value}
    (h : w.ownsRow base e 1 v m xs) (hr : w.ranges Try.prog K R b r n D left cnt) : some r ≠ v.ownBlock := fun e' => by
  rcases row_ne_iter_I h hr with h1 | h1
  · rw [h1] at e'; cases e'
  · exact h1 e'.symm

section
variable {st : St} {N : Nat} {s : Str} {D : DataW Value} {left : Lit → Bool} {ns : List Int}

theorem WhoAt.start (hs : s.length ≤ maxLen) (hD : ∀ a, saidOk a → Maps.has D (saidLit a) = (setF (fun x => x.1 ∈ getM st x.2) a).isSome) : WhoAt st s (Maps.has D) [] :=
  ⟨List.nodup_nil, by simp, fun n hn => by
    rw [hD (s, n) ⟨hs, hn⟩]
    unfold setF
    by_cases h : s ∈ getM st n <;> simp [h]⟩

theorem WhoAt.yes (h : WhoAt st s left ns) (hs : s.length ≤ maxLen) {n : Int} (hn : (Lit.int .i64 n).wf = true) (hm : s ∈ getM st n) (hl : left (saidLit (s, n)) = true) : WhoAt st s (fun z => left z && !z.sameKey (saidLit (s, n))) (ns ++ [n]) := by
  have hnew : n ∉ ns := fun hx => by have := ((h.2.2 n hn).1 hx).2; rw [hl] at this; cases this
  have hk : WideAt.IsKeyLit (saidLit (s, n)) := saidK.isKey (a := (s, n)) ⟨hs, hn⟩
  refine ⟨List.nodup_append.2 ⟨h.1, by simp, fun a ha b hb => by simp at hb; subst hb; exact fun e => hnew (e ▸ ha)⟩, fun m hm => ?_, fun m hm' => ?_⟩
  · rcases List.mem_append.1 hm with h1 | h1
    · exact h.2.1 m h1
    · simp at h1; subst h1; exact hn
  · by_cases e : m = n
    · subst e; simp [hm, WideAt.sameKey_self hk]
    · have hne : saidLit (s, m) ≠ saidLit (s, n) := fun e1 => e (congrArg Prod.snd (saidK.lit_inj (a := (s, m)) (b := (s, n)) ⟨hs, hm'⟩ ⟨hs, hn⟩ e1))
      simp [e, h.2.2 m hm', Maps.sameKey_ne hne]

theorem WhoAt.no (h : WhoAt st s left ns) (hs : s.length ≤ maxLen) {x : Str × Int} (hx : saidOk x) (hne : x.1 ≠ s) : WhoAt st s (fun z => left z && !z.sameKey (saidLit x)) ns := by
  refine ⟨h.1, h.2.1, fun m hm => ?_⟩
  have hn : saidLit (s, m) ≠ saidLit x := fun e1 => hne (congrArg Prod.fst (saidK.lit_inj (a := (s, m)) (b := x) ⟨hs, hm⟩ hx e1)).symm
  rw [h.2.2 m hm]
  simp [Maps.sameKey_ne hn]

theorem WhoAt.perm (h : WhoAt st s left ns) (hw : Wf st N) (hl : ∀ kl, left kl = false) : ns.Perm (whoL st s) := by
  refine (List.perm_ext_iff_of_nodup h.1 ?_).2 fun n => ?_
  · exact List.pairwise_map.2 (hw.nd.filter _)
  · unfold whoL
    rw [List.mem_map]
    constructor
    · intro hn
      obtain ⟨hm, _⟩ := (h.2.2 n (h.2.1 n hn)).1 hn
      obtain ⟨e, he, e1, e2⟩ := (mem_getM hw).1 hm
      exact ⟨e, List.mem_filter.2 ⟨he, by simpa using e2⟩, e1⟩
    · rintro ⟨e, he, rfl⟩
      obtain ⟨h1, h2⟩ := List.mem_filter.1 he
      have := hw.int e h1
      refine (h.2.2 e.n (WalkArith.wf_i64 (by omega))).2 ⟨(mem_getM hw).2 ⟨e, h1, rfl, by simpa using h2⟩, hl _⟩
end

theorem mergeSort_int_perm {l l' : List Int} (h : l.Perm l') : l.mergeSort (fun a b => decide (a ≤ b)) = l'.mergeSort (fun a b => decide (a ≤ b)) := by
  have tr : ∀ a b c : Int, decide (a ≤ b) = true → decide (b ≤ c) = true → decide (a ≤ c) = true := fun a b c h1 h2 => by simp at *; omega
  have to : ∀ a b : Int, (decide (a ≤ b) || decide (b ≤ a)) = true := fun a b => by simp; omega
  refine List.Perm.eq_of_pairwise (le := fun a b => decide (a ≤ b) = true) (fun a b _ _ h1 h2 => by simp at h1 h2; omega) (List.pairwise_mergeSort tr to l) (List.pairwise_mergeSort tr to l') (((List.mergeSort_perm l _).trans h).trans (List.mergeSort_perm l' _).symm)

set_option maxRecDepth 100000 in
set_option maxHeartbeats 4000000 in
theorem who_any (X be bd bm bc N : Nat) (st : St) (s : Str) (hs : s.length ≤ maxLen) (w : World) (h : Idx G w X be bd bm bc N st) (hN : N ≤ 1099511627776) :
    Calls Try.prog 23 #[.pointer (some ⟨X, 0, none⟩), encStr s] w (IntsOut w (who st s)) := by
  have c2 : w.cell? ⟨X, 2, none⟩ = some (.map (some bm)) := by rw [h.blk.cell]; rfl
  obtain ⟨D, hown, hD⟩ := h.men
  have hsz : Maps.size D ≤ N := hown.size_le
  obtain ⟨i0, hi, hz0, hz1, hz2⟩ := info_parts info3
  have HS0 := Lib.hid (WhoAt.start (D := D) hs (fun a ha => (hD a ha).1))
  have HD := Lib.hid hD
  have HI := Lib.hid h.wf
  clear hD h
  go_enter Try.func23, Try.ntmps23
  go_wp2_with (first | (at_range; refine wpList_range_own _ rfl _ 53 rfl 69 4 law69 Try.underlying53 _ bm N D rfl hown ?_; intro w0 hrg0 hg0 hs0) | fail)
  go_frame
  go_loopw [5] (fun v wr => ∃ (left : Lit → Bool) (cnt : Nat) (ns : List Int), wr.ranges Try.prog 69 tok bm w.heap.size N D left cnt ∧ ns.length + cnt ≤ Maps.size D ∧ WhoAt st s left ns ∧ wr.ownsRow (w.heap.size + 1) 3 1 v ns.length (ns.map (Value.int .i64)) ∧ Below w.heap.size w wr ∧ w.heap.size + 1 ≤ wr.heap.size)
    (fun _ wr => wr.rangeLeft bm w.heap.size)
  case atStart => exact ⟨_, _, [], hrg0, by simp, HS0.out, World.ownsRow_nil _ _ _ _, Fr.below (Fr.of_below ⟨hg0.os, hg0.tape, hg0.output, hg0.size, fun i hi => hg0.block i hi (by simp)⟩), by omega⟩
  case round =>
    obtain ⟨left, cnt, ns, hrg, hcs, hW, hrow, hb, hsw⟩ := hrel
    have HW := Lib.hid hW
    clear hW
    go_wp2_with (first
      | (at_next; refine wpList_next_ranges _ rfl _ rfl 69 law69 tok (fun a : {x : Str × Int // saidOk x} => Value.agg #[encStr a.1.1, .int .i64 a.1.2]) (id : Value → Value) (fun key kl hk => by obtain ⟨x, hx, e, _⟩ := said_inv hk; exact ⟨⟨x, hx⟩, e⟩) (fun v _ _ => ⟨v, rfl⟩) bm w.heap.size N _ _ _ rfl hrg ?_ ?_)
      | fail)
    · intro hc0 hl0
      have hper := HW.out.perm HI.out hl0
      rcases hrow.2 with ⟨rfl, hz⟩ | ⟨gb, cap1, cur, rfl, hbase, hgb, r1, r2, r3, r4⟩
      · have hss : ns = [] := List.eq_nil_of_length_eq_zero hz
        have hfin : IntsOut w (who st s) (.returned (.slice none 0 0)) wr := by
          refine ⟨_, rfl, ?_, hb⟩
          have e1 : who st s = [] := by
            unfold who
            rw [← mergeSort_int_perm hper, hss]; simp
          rw [e1]
          exact World.ownsRow_nil _ _ _ _
        have HF := Lib.hid hfin
        clear hfin hper hl0 hc0
        go_wp2_with (go_at_call 31; refine (AnyM.slices_Sort_int_none Try.sortI none 0 _).mono ?_; rintro e w' ⟨rfl, rfl⟩)
        go_ret
        exact HF.out
      · have hH : Holds (Value.int .i64) wr gb 0 ns.toArray := holds_of_blockI hgb (by simpa using r4)
        have hgl : gb < wr.heap.size := (Array.getElem?_eq_some_iff.1 hgb).1
        have cS := AnyM.slices_Sort_int Try.sortI gb 0 cap1 ns wr hH hgl (by omega)
        change Calls Try.prog 31 _ _ _ at cS
        have hfin : ∀ n os, IntsOut w (who st s) (.returned (.slice (some ⟨gb, 0, none⟩) ns.length cap1)) (grow (putRow (Value.int .i64) (Sort.ahead wr n) gb 0 (ns.mergeSort fun x y => decide (x ≤ y)).toArray) os) := fun n os => by
          have e1 : who st s = ns.mergeSort fun x y => decide (x ≤ y) := (mergeSort_int_perm hper).symm
          have h0 := ownsRow_sortedI (n := n) (os := os) (ss := ns) (ts := ns.mergeSort fun x y => decide (x ≤ y)) (by simp) hbase hgb (by omega) r2 r3
          refine ⟨_, rfl, ?_, hb.grown (grownBy_sortedI (n := n) (os := os) _) hb.size (fun k e => by cases e; omega)⟩
          rw [e1]
          have h1 := ownsRow_base_a h0 (base' := w.heap.size) (by omega)
          simpa using h1
        have HF := Lib.hid hfin
        clear hfin hper hl0 hc0 hH hgb r1 r2 r3 r4 hbase
        go_wp2_with (go_at_call 31; refine cS.mono ?_; rintro e w' ⟨rfl, n1, os1, rfl⟩)
        go_ret
        exact HF.out n1 os1
    · intro x1 x2 hx c kl yd yp w2 cnt2 hkey hlk hv hat hrg2 hlt hg2 hs2 hen
      have hkl : kl = saidLit (x1, x2) := by
        have h1 := said_of hx
        have h2 : keyOf Try.prog 69 (saidKey (x1, x2)) = some kl := hkey
        rw [h1] at h2
        exact (Option.some.inj h2).symm
      have hhas : Maps.has D (saidLit (x1, x2)) = true := Maps.has_true_of_atKey (y := yd) (by rw [← hkl]; exact hat)
      have hmem : x1 ∈ getM st x2 := by
        have := (HD.out (x1, x2) hx).1
        rw [show saidK.lit (x1, x2) = saidLit (x1, x2) from rfl, hhas] at this
        unfold setF at this
        by_cases hm : x1 ∈ getM st x2
        · exact hm
        · rw [if_neg hm] at this; cases this
      have hrow2 : w2.ownsRow (w.heap.size + 1) 3 1 u5 ns.length (ns.map (Value.int .i64)) := hrow.kept hg2 (row_ne_iter_I hrow hrg)
      have hb2 : Below w.heap.size w w2 := hb.grown hg2 hb.size (fun k e => by cases e; exact Nat.le_refl _)
      have hsw2 : w.heap.size + 1 ≤ w2.heap.size := by omega
      subst hkl
      by_cases e : x1 = s
      · subst e
        have hW2 := HW.out.yes hs hx.2 hmem hlk
        have HW2 := Lib.hid hW2
        have e1 : (x1 == x1) = true := by simp
        have hlen : (ns ++ [x2]).length + cnt2 ≤ Maps.size D := by simp; omega
        clear hs2 hkey hlk hv hat hx hhas hmem hW2 hrow hb
        go_wp2_with (first
          | (at_builtin; go_loud (refine wpList_append_own _ rfl (.tmp 22) (.tmp 25) 46 rfl (w.heap.size + 1) 3 i0 (.int .i64 0) 1 8 Try.underlying46 hi hz0 hz1 hz2 rfl (by decide) u5 _ _ rfl ((hrow2.alloc _).alloc _) ⟨w2.heap.size + 1, 0, none⟩ 1 1 [.int .i64 x2] rfl rfl (cell_one_two _ _ _ _) (by simp [Value.oneCell']) (by unfold maxLen; omega) (by omega) (by simp; omega) ?_); intro v' w3 hown3 hg3 _)
          | fail)
        have hg4 : w2.grownBy w3 u5.ownBlock := ((World.grownBy_alloc w2 _ _).trans (World.grownBy_alloc _ _ _)).trans hg3
        have hrg3 := hrg2.kept hg4 (ne_own_map hrow2 hrg2.owns) (ne_own_iter hrow2 hrg2)
        have hb3 : Below w.heap.size w w3 := hb2.grown hg4 hb2.size (fun k e => Nat.le_of_succ_le (hrow2.lt k e).1)
        have hsw3 : w.heap.size + 1 ≤ w3.heap.size := Nat.le_trans hsw2 hg4.size
        clear hg2 hg3 hg4 hen hb2 hrow2 hsw2 hown
        go_wp2
        go_roundw
        case rel => exact ⟨_, cnt2, ns ++ [x2], hrg3, hlen, HW2.out, by simpa using hown3, hb3, hsw3⟩
        case measure => rw [hrg3.left_eq, hrg.left_eq]; exact hlt
      · have hW2 := HW.out.no hs hx e
        have HW2 := Lib.hid hW2
        have e1 : (x1 == s) = false := by simpa using e
        have hrg3 := hrg2.kept (World.grownBy_alloc w2 (.cells #[encStr x1, .int .i64 x2] 69) none) (by simp) (by simp)
        have hrow3 : (w2.alloc (.cells #[encStr x1, .int .i64 x2] 69)).ownsRow (w.heap.size + 1) 3 1 u5 ns.length (ns.map (Value.int .i64)) := hrow2.alloc _
        have hb3 : Below w.heap.size w (w2.alloc (.cells #[encStr x1, .int .i64 x2] 69)) := hb2.alloc hb2.size _
        have hsw3 : w.heap.size + 1 ≤ (w2.alloc (.cells #[encStr x1, .int .i64 x2] 69)).heap.size := by simp; omega
        clear hs2 hkey hlk hv hat hx hhas hmem hW2 hrow hb e hg2 hb2 hrow2 hsw2 hown
        go_wp2
        go_roundw
        case rel => exact ⟨_, cnt2, ns, hrg3, by omega, HW2.out, hrow3, hb3, hsw3⟩
        case measure => rw [hrg3.left_eq, hrg.left_eq]; exact hlt

end Go.Proofs.Ytkjmknmcbkofbaa
