/-
  The methods of an index that only ask: New, Defined, Has, Len, Known; each against the state.
  Its conditions: as each theorem states them.
-/
import Derived.Test.YtkjmknmcbkofbaaState
import Derived.Test.YtkjmknmcbkofbaaRise
import Derived.BigQuiet
import Derived.Deep.QuietTactic
namespace Go.Proofs.Ytkjmknmcbkofbaa
set_option linter.unusedVariables false
set_option linter.unusedSimpArgs false
open Go Go.Proofs Go.RowKit Go.Maps Go.Sort Go.Shelf
variable {G : Nat → Prop}

/-- A new slice of strings is handed back. -/
def RowOut (w : World) (ks : List Str) (e : Ending) (w' : World) : Prop :=
  ∃ v, e = .returned v ∧ w'.ownsRow w.heap.size 9 1 v ks.length (ks.map encStr) ∧ (v = .slice none 0 0 ↔ ks = []) ∧ Below w.heap.size w w'

theorem mem_cnt {st : St} {s : Str} : 0 < cnt st s ↔ ∃ e ∈ st, s ∈ e.d := by
  unfold cnt
  rw [List.length_pos_iff_exists_mem]
  constructor
  · rintro ⟨e, he⟩
    obtain ⟨h1, h2⟩ := List.mem_filter.1 he
    exact ⟨e, h1, by simpa using h2⟩
  · rintro ⟨e, h1, h2⟩
    exact ⟨e, List.mem_filter.2 ⟨h1, by simpa using h2⟩⟩

def known (st : St) : List Str := riseL (st.flatMap (·.d))
theorem up_known (st : St) : Up (known st) := up_riseL _
theorem mem_known {st : St} {s : Str} : s ∈ known st ↔ 0 < cnt st s := by
  rw [known, mem_riseL, mem_cnt, List.mem_flatMap]

theorem View.alloc {K : TypeId} {α : Type} (kk : KeyKind K α) {w : World} {b n : Nat} {f : α → Option Value} (h : View kk w b n f) (o : Obj) : View kk (w.alloc o) b n f :=
  h.same kk (Below.heap_alloc w o b (h.lt kk))
theorem View.fr {K : TypeId} {α : Type} (kk : KeyKind K α) {w w' : World} {bs : List Nat} {b n : Nat} {f : α → Option Value} (h : View kk w b n f) (hf : Fr w w' bs) (hn : b ∉ bs) : View kk w' b n f :=
  h.same kk (hf.keep b (h.lt kk) hn)

theorem idx_new (w : World) : Idx G (((((w.alloc (.map #[] 0)).alloc (.map #[] 0)).alloc (.map #[] 0)).alloc (.map #[] 0)).alloc (.cells #[.map (some w.heap.size), .map (some (w.heap.size + 1)), .map (some (w.heap.size + 2)), .map (some (w.heap.size + 3))] 56))
    (w.heap.size + 4) w.heap.size (w.heap.size + 1) (w.heap.size + 2) (w.heap.size + 3) 0 [] := by
  have v0 := View.made intK w
  have v1 := View.made saidK (w.alloc (.map #[] 0))
  have v2 := View.made saidK ((w.alloc (.map #[] 0)).alloc (.map #[] 0))
  have v3 := View.made strK (((w.alloc (.map #[] 0)).alloc (.map #[] 0)).alloc (.map #[] 0))
  simp only [World.size_alloc, Nat.add_assoc, Nat.reduceAdd] at v1 v2 v3
  refine ⟨?_, ⟨by omega, by omega, by omega, by omega, by omega, by omega⟩, ⟨fun _ => (.slice none 0 0, .slice none 0 0), ?_, fun e h => by cases h⟩, ?_, ?_, ?_, ?_⟩
  · have := Blk.new ((((w.alloc (.map #[] 0)).alloc (.map #[] 0)).alloc (.map #[] 0)).alloc (.map #[] 0)) 56 #[.map (some w.heap.size), .map (some (w.heap.size + 1)), .map (some (w.heap.size + 2)), .map (some (w.heap.size + 3))]
    simpa only [World.size_alloc, Nat.add_assoc, Nat.reduceAdd] using this
  · exact ((((v0.alloc intK _).alloc intK _).alloc intK _).alloc intK _).congr intK (fun a _ => rfl)
  · exact (((v1.alloc saidK _).alloc saidK _).alloc saidK _).congr saidK (fun a _ => by simp [setF, getD])
  · exact ((v2.alloc saidK _).alloc saidK _).congr saidK (fun a _ => by simp [setF, getM])
  · exact (v3.alloc strK _).congr strK (fun a _ => by simp [cntF, Ytkjmknmcbkofbaa.cnt])
  · exact ⟨List.Pairwise.nil, by simp, by simp, by simp, by simp, by simp, by simp, Nat.le_refl _⟩

theorem new_any (w : World) : Calls Try.prog 9 #[] w fun e w' => ∃ X be bd bm bc, e = .returned (.pointer (some ⟨X, 0, none⟩)) ∧ w.heap.size ≤ be ∧ w.heap.size ≤ bd ∧ w.heap.size ≤ bm ∧ w.heap.size ≤ bc ∧ Idx G w' X be bd bm bc 0 [] ∧ Below w.heap.size w w' := by
  have hmm := @run_makeMap Try.prog
  go_enter Try.func9, Try.ntmps9
  go_wp2
  go_ret
  refine ⟨_, w.heap.size, w.heap.size + 1, w.heap.size + 2, w.heap.size + 3, rfl, by omega, by omega, by omega, by omega, idx_new w, ?_⟩
  · exact (((((Below.refl _ w).alloc (Nat.le_refl _) _).alloc (by simp) _).alloc (by simp; omega) _).alloc (by simp; omega) _).alloc (by simp; omega) _

theorem defined_any (X be bd bm bc N : Nat) (st : St) (s : Str) (hs : s.length ≤ maxLen) (w : World) (h : Idx G w X be bd bm bc N st) :
    Calls Try.prog 13 #[.pointer (some ⟨X, 0, none⟩), encStr s] w fun e w' => e = .returned (.int .i64 (cnt st s)) ∧ w = w' := by
  have c3 : w.cell? ⟨X, 3, none⟩ = some (.map (some bc)) := by rw [h.blk.cell]; rfl
  have hl := h.cnt.look strK Try.underlying54 (Try.zeroValue3 w) (a := s) hs
  have hv : ((cntF (cnt st)) s).getD (.int .i64 0) = .int .i64 (cnt st s) := by
    unfold cntF
    split
    · rfl
    · rename_i h0
      obtain h0 : cnt st s = 0 := by omega
      rw [h0]; rfl
  rw [hv] at hl
  change Sem.run Try.prog (Instr.lookup 54 (.map (some bc)) (encStr s) false) w = _ at hl
  go_enter Try.func13, Try.ntmps13
  go_wp2
  go_ret
  exact ⟨rfl, rfl⟩

theorem nd_keys {st : St} {N : Nat} (h : Wf st N) : (st.map (·.n)).Nodup := List.pairwise_map.2 h.nd

theorem len_any (X be bd bm bc N : Nat) (st : St) (w : World) (h : Idx G w X be bd bm bc N st) :
    Calls Try.prog 25 #[.pointer (some ⟨X, 0, none⟩)] w fun e w' => e = .returned (.int .i64 (st.length : Int)) ∧ w = w' := by
  have c0 : w.cell? ⟨X, 0, none⟩ = some (.map (some be)) := by rw [h.blk.cell]; rfl
  obtain ⟨ev, he, _⟩ := h.ent
  have hlen := fun ty => he.len intK Try.underlying52 ty (L := st.map (·.n)) (nd_keys h.wf) (fun a ha => by
    obtain ⟨e, he, rfl⟩ := List.mem_map.1 ha
    have := h.wf.int e he
    exact WalkArith.wf_i64 (by omega)) (fun a _ => by
    unfold entF Ytkjmknmcbkofbaa.has
    rw [List.mem_map]
    constructor
    · intro hh
      split at hh
      · rename_i h1
        obtain ⟨e, h2, h3⟩ := List.any_eq_true.1 h1
        exact ⟨e, h2, by simpa using h3⟩
      · cases hh
    · rintro ⟨e, h1, rfl⟩
      rw [if_pos (List.any_eq_true.2 ⟨e, h1, by simp⟩)]
      rfl)
  rw [List.length_map] at hlen
  go_enter Try.func25, Try.ntmps25
  go_wp2
  go_ret
  exact ⟨rfl, rfl⟩

theorem has_any (X be bd bm bc N : Nat) (st : St) (n : Int) (hn : (Lit.int .i64 n).wf = true) (s : Str) (hs : s.length ≤ maxLen) (w : World) (h : Idx G w X be bd bm bc N st) :
    Calls Try.prog 18 #[.pointer (some ⟨X, 0, none⟩), .int .i64 n, encStr s] w fun e w' => e = .returned (.tuple #[.bool (decide (s ∈ getD st n)), .bool (decide (s ∈ getM st n))]) ∧ Below w.heap.size w w' := by
  have c1 : w.cell? ⟨X, 1, none⟩ = some (.map (some bd)) := by rw [h.blk.cell]; rfl
  have c2 : w.cell? ⟨X, 2, none⟩ = some (.map (some bm)) := by rw [h.blk.cell]; rfl
  have hX : X < w.heap.size := h.blk.lt
  have lk : ∀ (W : World) (b : Nat) (S : Str × Int → Prop) [DecidablePred S], View saidK W b N (setF S) → Sem.run Try.prog (Instr.lookup 53 (.map (some b)) (.agg #[encStr s, .int .i64 n]) false) W = .ok (.bool (decide (S (s, n)))) W := fun W b S _ hv => by
    have := hv.look saidK Try.underlying53 (Try.zeroValue4 _) (a := (s, n)) ⟨hs, hn⟩
    rw [show ((setF S) (s, n)).getD (.bool false) = .bool (decide (S (s, n))) by unfold setF; by_cases hm : S (s, n) <;> simp [hm]] at this
    exact this
  have l1 : ∀ q, Sem.run Try.prog (Instr.lookup 53 (.map (some bd)) (.agg #[encStr s, .int .i64 n]) false) ((w.alloc (.cells #[encStr s, .int .i64 n] 69)).drewN q) = .ok (.bool (decide (s ∈ getD st n))) ((w.alloc (.cells #[encStr s, .int .i64 n] 69)).drewN q) := fun q =>
    lk _ bd _ (h.def_.fr saidK (((Fr.refl' w).alloc _).drewN q) (by simp))
  have l2 : ∀ q, Sem.run Try.prog (Instr.lookup 53 (.map (some bm)) (.agg #[encStr s, .int .i64 n]) false) ((w.alloc (.cells #[encStr s, .int .i64 n] 69)).drewN q) = .ok (.bool (decide (s ∈ getM st n))) ((w.alloc (.cells #[encStr s, .int .i64 n] 69)).drewN q) := fun q =>
    lk _ bm _ (h.men.fr saidK (((Fr.refl' w).alloc _).drewN q) (by simp))
  have d1 : (w.alloc (.cells #[encStr s, .int .i64 n] 69)).cell? ⟨X, 1, none⟩ = some (.map (some bd)) := (World.cell?_alloc_lt w _ _ hX).trans c1
  have d2 : (w.alloc (.cells #[encStr s, .int .i64 n] 69)).cell? ⟨X, 2, none⟩ = some (.map (some bm)) := (World.cell?_alloc_lt w _ _ hX).trans c2
  clear c1 c2 h hn hs hX lk
  go_enter Try.func18, Try.ntmps18
  go_wp2
  go_quiet (fail)
  go_wp2
  go_ret2
  exact ⟨rfl, Fr.below (((Fr.refl' w).alloc _).drewN _)⟩

theorem mem_strKeys {H : Type} {w : World} {R : Value → Option (DataW H × List MemPlace)} {b n : Nat} {D : DataW H} (h : w.ownsMap Try.prog 9 R b n D) (x : Str) : x ∈ strKeys D ↔ Maps.has D (.string x) = true := by
  obtain ⟨es, rfl, hko⟩ := h.keysOf
  have hk : ∀ p ∈ es, ∃ y, p.1 = .string y := fun p hp => by
    obtain ⟨v, hv⟩ := hko p hp
    obtain ⟨y, _, hy, _⟩ := Maps.keyOf_str Try.underlying9 hv
    exact ⟨y, hy⟩
  rw [Maps.has_eq, List.any_eq_true]
  show x ∈ es.map (fun p => strOf p.1) ↔ _
  rw [List.mem_map]
  constructor
  · rintro ⟨p, hp, rfl⟩
    obtain ⟨y, hy⟩ := hk p hp
    exact ⟨p, hp, by rw [hy]; simp [Lit.sameKey, strOf]⟩
  · rintro ⟨p, hp, hs⟩
    obtain ⟨y, hy⟩ := hk p hp
    rw [hy] at hs
    exact ⟨p, hp, by rw [hy]; simpa [Lit.sameKey, strOf] using hs⟩

theorem nodup_strKeys {H : Type} {w : World} {R : Value → Option (DataW H × List MemPlace)} {b n : Nat} {D : DataW H} (h : w.ownsMap Try.prog 9 R b n D) : (strKeys D).Nodup := by
  obtain ⟨es, hD, hpw, _⟩ := h.entries (string_keyed Try.underlying9)
  obtain ⟨es', hD', hko⟩ := h.keysOf
  obtain rfl : es = es' := by rw [hD] at hD'; simpa using hD'
  subst hD
  show (es.map fun p => strOf p.1).Nodup
  refine List.pairwise_map.2 (hpw.imp_of_mem fun {p q} hp hq hne e => hne ?_)
  obtain ⟨v, hv⟩ := hko p hp
  obtain ⟨y, _, hy, _⟩ := Maps.keyOf_str Try.underlying9 hv
  obtain ⟨v', hv'⟩ := hko q hq
  obtain ⟨y', _, hy', _⟩ := Maps.keyOf_str Try.underlying9 hv'
  rw [hy, hy'] at e ⊢
  exact congrArg _ e

/-- The keys of the map of counts, sorted: what is known. -/
theorem sorted_known {st : St} {N : Nat} (hw : Wf st N) {w : World} {b n : Nat} {D : DataW Value} (h : w.ownsMap Try.prog 9 tok b n D) (hD : ∀ s, strK.ok s → Maps.has D (strK.lit s) = (cntF (cnt st) s).isSome) {ss : List Str} (hp : ss.Perm (strKeys D)) :
    ss.mergeSort (fun x y => decide (x ≤ y)) = known st := by
  have hnd : ss.Nodup := hp.nodup_iff.2 (nodup_strKeys h)
  refine Up.ext ?_ (up_known st) (fun s => ?_)
  · have hs := sorted_ms ss
    have hn : (ss.mergeSort leB).Nodup := (List.mergeSort_perm ss leB).nodup_iff.2 hnd
    exact (hs.and hn).imp fun ⟨h1, h2⟩ => str_lt_of h1 h2
  · rw [(List.mergeSort_perm ss _).mem_iff, hp.mem_iff, mem_strKeys h, mem_known]
    by_cases hl : s.length ≤ maxLen
    · rw [show Lit.string s = strK.lit s from rfl, hD s hl]
      unfold cntF
      split <;> simp [*]
    · constructor
      · intro hh
        have hm := (mem_strKeys h s).2 hh
        exact absurd (strKeys_le h Try.underlying9 s hm) hl
      · intro hc
        obtain ⟨e, he, hs⟩ := mem_cnt.1 hc
        exact absurd ((hw.str e he).1 s hs) hl

set_option maxHeartbeats 1000000 in
theorem known_any (X be bd bm bc N : Nat) (st : St) (w : World) (h : Idx G w X be bd bm bc N st) (hN : N ≤ 1099511627776) :
    Calls Try.prog 10 #[.pointer (some ⟨X, 0, none⟩)] w (RowOut w (known st)) := by
  refine (callsIn_wide (n := 8)).1 ?_
  have c3 : w.cell? ⟨X, 3, none⟩ = some (.map (some bc)) := by rw [h.blk.cell]; rfl
  obtain ⟨D0, hown, hD⟩ := h.cnt
  have hbl := hown.lt
  have hsz : Maps.size D0 ≤ N := hown.size_le
  have hseq : SeqGives Fence.wide 4 Try.prog 34 #[.pointer (some ⟨w.heap.size, 0, none⟩)] encStr (fun ss => ss.Perm (strKeys D0)) (Maps.size D0) (w.alloc (.cells #[.map (some bc)] 54)) :=
    AnyZ.keys_gives (ρ := Try.keysA_ren) { Try.keysA with } Fence.wide _ trivial rfl (by omega) w.heap.size bc N D0 _ (by simp) (by simp) (by
      obtain ⟨es, clock, hb, Ft, hs, hD⟩ := hown
      exact ⟨es, clock, (Below.heap_alloc _ _ bc hbl).trans hb, Ft, hs, hD⟩)
  have cK : ∀ mb W, CallsIn Fence.wide 7 Try.prog 27 #[.map mb] W fun e w' => e = .returned (.func (.func 34) #[] #[.pointer (some ⟨W.heap.size, 0, none⟩)]) ∧ w' = W.alloc (.cells #[.map mb] 54) := fun mb W => AnyZ.keys_in Try.keysA Fence.wide 7 trivial rfl mb W
  have cS := AnyZ.sorted_in Try.sortedA Fence.wide 7 trivial trivial trivial trivial rfl (by omega) (sortsA _) (enters_of Try.func33 (by kernel_rfl) rfl) 34 #[.pointer (some ⟨w.heap.size, 0, none⟩)] trivial (enters_of Try.func34 (by kernel_rfl) rfl) _ _ (by unfold maxLen; omega) (by omega) _ hseq
  change CallsIn _ _ Try.prog 26 _ _ _ at cS
  have hfin : ∀ (v : Value) (ss : List Str) (w1 : World), ss.Perm (strKeys D0) → w1.ownsRow (w.alloc (.cells #[.map (some bc)] 54)).heap.size 9 1 v ss.length ((ss.mergeSort (fun x y => decide (x ≤ y))).map encStr) → (v = .slice none 0 0 ↔ ss = []) → Below (w.alloc (.cells #[.map (some bc)] 54)).heap.size (w.alloc (.cells #[.map (some bc)] 54)) w1 → RowOut w (known st) (.returned v) w1 := fun v ss w1 hp hrow hnil hb => by
    have e1 := sorted_known h.wf hown (fun s hs => (hD s hs).1) hp
    have e2 : (known st).length = ss.length := by rw [← e1]; simp
    rw [e1] at hrow
    refine ⟨v, rfl, by rw [e2]; exact ownsRow_base_a hrow (by simp), ?_, ((Below.refl _ w).alloc (Nat.le_refl _) _).trans (hb.mono (by simp))⟩
    rw [hnil]
    constructor
    · intro e; rw [e] at e2; exact List.eq_nil_of_length_eq_zero e2
    · intro e; rw [e] at e2; exact List.eq_nil_of_length_eq_zero e2.symm
  have HF := Lib.hid hfin
  clear hfin hD hsz hN hseq hown
  have hfK : Fence.wide.fn 27 := trivial
  have hfS : Fence.wide.fn 26 := trivial
  refine callsIn_of_wp Try.func10 rfl trivial ?_ rfl
  simp only [Try.ntmps10, List.size_toArray, List.length_cons, List.length_nil, Nat.reduceAdd, Nat.reduceSub, Array.replicate_succ, Array.replicate_zero, List.push_toArray, List.append_toArray, List.nil_append, List.cons_append]
  gi_wp2_with (first
    | (gi_at_call 27; refine (cK _ _).mono ?_; rintro e w' ⟨rfl, rfl⟩)
    | (gi_at_call 26; refine cS.mono ?_; rintro e w1 ⟨v, ss, rfl, hS, hrow, hnil, hb⟩))
  go_ret
  exact HF.out v ss w1 hS hrow hnil hb

end Go.Proofs.Ytkjmknmcbkofbaa
