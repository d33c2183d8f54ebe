/-
  A slice of acts: opened out of an argument, read by the laws' functions; 'great'.
  Its conditions: as each theorem states them. (open_slice_fields: the guide's page of small texts.)
-/
import Derived.Test.YtkjmknmcbkofbaaAct
import Derived.Test.YtkjmknmcbkofbaaRef
import Derived.Deep.Slices
import Derived.Deep.Fields
import Derived.Deep.MidRow
import Derived.ChangeSame
import Derived.SliceStrings
namespace Go.Proofs.Ytkjmknmcbkofbaa
set_option linter.unusedVariables false
set_option linter.unusedSimpArgs false
open Go Go.Proofs Go.RowKit Go.Maps Go.Sort Go.Shelf
open Go.ChangeShapes Go.WideShapes Go.Deep

section
variable {H : Type} {enc : TypeId × Value → H} {P : Program} {w : World} {base : Nat} {spare : Nat → Bool} {held : Bool}
theorem open_slice_fields {t e : TypeId} {fs : Array Field} {fuel : Nat} {cs : List Value} {x : DataW H × List MemPlace} (ht : P.underlying t = some (.slice e)) (he : P.underlying e = some (.struct fs))
    (hone : oneCellFields P fs = true) (hC : P.cellsOf e = fs.size) (h : DataW.trod enc P w base spare held fuel t cs = some x) :
    (cs = [.slice none 0 0] ∧ x = (.nil, [])) ∨
    ∃ (a : Addr) (len cap m : Nat) (D : Nat → DataW H) (Pl : Nat → List MemPlace), cs = [.slice (some a) len cap] ∧ base ≤ a.block ∧ len ≤ cap ∧ cap ≤ maxLen ∧ m = (if spare a.block then cap else len) ∧
      x = (.slice ((List.range len).map D) ((List.range (m - len)).map fun j => D (len + j)), MemPlace.row a (m * fs.size) ++ (List.range m).flatMap Pl) ∧
      ∀ i, i < m → ∃ (ys : List (DataW H × List MemPlace)) (n : Nat), D i = .agg (ys.map (·.1)) ∧ Pl i = ys.flatMap (·.2) ∧ ys.length = fs.size ∧
        ∀ (j : Nat) (f : Field), fs[j]? = some f → ∃ (v : Value) (y : DataW H × List MemPlace), w.cell? (a.add (i * fs.size + j)) = some v ∧ ys[j]? = some y ∧ DataW.trod enc P w base spare held n f.type [v] = some y := by
  rcases open_slice ht h with h0 | ⟨a, len, cap, m, n, D, Pl, hcs, hb, hl, hm, hmm, hx, hi⟩
  · exact .inl h0
  · refine .inr ⟨a, len, cap, m, D, Pl, hcs, hb, hl, hm, hmm, by rw [hC] at hx; exact hx, fun i him => ?_⟩
    obtain ⟨cs', hc, ht'⟩ := hi i him
    rw [hC] at hc
    obtain ⟨ys, n', hn', hy, hlen, hyl, hf⟩ := DataW.trod_struct he ht'
    obtain ⟨_, hcl, hat⟩ := World.cells?_some hc
    simp only [Prod.mk.injEq] at hy
    refine ⟨ys, n', hy.1, hy.2, hyl, fun j f hj => ?_⟩
    obtain ⟨ho, hk⟩ := hone_of hone j f hj
    have hjl : j < fs.size := (Array.getElem?_eq_some_iff.1 hj).1
    have hcell := hat j hjl
    have hv : cs'[j]? = some (cs'[j]'(by omega)) := List.getElem?_eq_getElem (by omega)
    have h1 := hf j f hj
    rw [ho, hk] at h1
    have hone' : (cs'.drop j).take 1 = [cs'[j]'(by omega)] := by
      rw [List.drop_eq_getElem_cons (by omega)]
      rfl
    rw [hone'] at h1
    have hys : ys[j]? = some (ys[j]'(by omega)) := List.getElem?_eq_getElem (by omega)
    refine ⟨_, _, ?_, hys, h1.trans hys⟩
    rw [← Go.Deep.add_add, hcell, hv]
end

structure A where
  dd : Int
  n : Int
  d : List Str
  m : List Str

/-- The acts lie from A0 on, four cells each. -/
def ActAt (w : World) (a : A) (ad : Addr) : Prop := ∃ A1 c1 A2 c2, w.cell? ad = some (.int .i64 a.dd) ∧ w.cell? (ad.add 1) = some (.int .i64 a.n) ∧ w.cell? (ad.add 2) = some (.slice A1 a.d.length c1) ∧ w.cell? (ad.add 3) = some (.slice A2 a.m.length c2) ∧
  Reads w w.heap.size 1 A1 a.d.length (a.d.map encStr) ∧ Reads w w.heap.size 1 A2 a.m.length (a.m.map encStr)
def Acts (w : World) (A0 : Option Addr) (l : List A) : Prop := 0 < l.length → ∃ ad, A0 = some ad ∧ ad.block < w.heap.size ∧ ∀ k (hk : k < l.length), ActAt w l[k] (ad.add (k * 4))
def Fine (l : List A) : Prop := l.length ≤ maxLen ∧ ∀ a ∈ l, (Lit.int .i64 a.dd).wf = true ∧ (Lit.int .i64 a.n).wf = true ∧ a.d.length ≤ maxLen ∧ a.m.length ≤ maxLen ∧ (∀ s ∈ a.d, s.length ≤ maxLen) ∧ ∀ s ∈ a.m, s.length ≤ maxLen

theorem ActAt.fr {w w' : World} {bs : List Nat} (f : Fr w w' bs) {a : A} {ad : Addr} (hb : ad.block < w.heap.size) : ActAt w a ad → ActAt w' a ad
  | ⟨A1, c1, A2, c2, h0, h1, h2, h3, r1, r2⟩ => ⟨A1, c1, A2, c2, (f.cell hb).trans h0, (f.cell (by rw [block_of_add]; exact hb)).trans h1, (f.cell (by rw [block_of_add]; exact hb)).trans h2, (f.cell (by rw [block_of_add]; exact hb)).trans h3, f.reads r1, f.reads r2⟩
theorem Acts.fr {w w' : World} {bs : List Nat} (f : Fr w w' bs) {A0 : Option Addr} {l : List A} (h : Acts w A0 l) : Acts w' A0 l := fun h0 => by
  obtain ⟨ad, e, hb, hk⟩ := h h0
  exact ⟨ad, e, Nat.lt_of_lt_of_le hb f.size, fun k hkl => (hk k hkl).fr f (by rw [block_of_add]; exact hb)⟩

theorem load_act {w : World} (ad : Addr) (v0 v1 v2 v3 : Value) (h0 : w.cell? ad = some v0) (h1 : w.cell? (ad.add 1) = some v1) (h2 : w.cell? (ad.add 2) = some v2) (h3 : w.cell? (ad.add 3) = some v3) :
    (Instr.loadAt 33 (.pointer (some ad))).run Try.prog w = .ok (.agg #[v0, v1, v2, v3]) w := by
  have hl : (loadCells ad 4).run Try.prog w = .ok #[v0, v1, v2, v3] w :=
    run_loadCells_list (P := Try.prog) w ad [v0, v1, v2, v3] (fun j v hv => by
      match j, hv with
      | 0, hv => simpa [Addr.add, h0] using hv
      | 1, hv => simpa [h1] using hv
      | 2, hv => simpa [h2] using hv
      | 3, hv => simpa [h3] using hv)
  have hi : (Try.prog.info? 33).map (·.size) = some 4 := by kernel_rfl
  cases hq : Try.prog.info? 33 with
  | none => simp [hq] at hi
  | some i =>
    have hs : i.size = 4 := by simpa [hq] using hi
    have hagg : (isAgg 33).run Try.prog w = .ok true w := by
      unfold isAgg
      rw [Sem.run_bind, run_underlying Try.underlying33 w]
      rfl
    simp [Instr.loadAt, Instr.sureAddr, loadVar, Sem.run_bind, hagg, sizeOf, typeInfo, hq, hs, hl]

section
variable {H : Type} {enc : TypeId × Value → H} {w : World} {base : Nat} {spare : Nat → Bool} {held : Bool}

theorem hd_of {ss : List ByteArray} {n : Nat} (hn : n ≤ ss.length) : ∀ j u, (((ss.take n).map (fun s => s.data.toList)).map encStr)[j]? = some u → j < ss.length ∧ u = .string (ss.getD j ByteArray.empty) := by
  intro j u hu
  obtain ⟨hj, he⟩ := List.getElem?_eq_some_iff.1 hu
  have hjl : j < n := by simp at hj; omega
  refine ⟨by omega, ?_⟩
  rw [← he]
  simp [encStr, List.getD, List.getElem?_eq_getElem (show j < ss.length by omega)]

/-- A []string's cell, read as a list. -/
theorem open_strs {n : Nat} {v : Value} {y : DataW H × List MemPlace} (h : DataW.trod enc Try.prog w base spare held n 27 [v] = some y) (hlt : ∀ x ∈ y.2, x.block < w.heap.size) :
    ∃ (A1 : Option Addr) (d : List Str) (c1 : Nat), v = .slice A1 d.length c1 ∧ Reads w w.heap.size 1 A1 d.length (d.map encStr) ∧ d.length ≤ maxLen ∧ ∀ s ∈ d, s.length ≤ maxLen := by
  rcases open_strings Try.underlying27 Try.underlying9 (by kernel_rfl) h with ⟨hcs, hx⟩ | ⟨a, len, cap, ss, hcs, _, hl, hm, hz, hx, hcell, hsz⟩
  · simp only [List.cons.injEq, and_true] at hcs
    exact ⟨none, [], 0, hcs, Reads.none_, by simp, by simp⟩
  · simp only [List.cons.injEq, and_true] at hcs
    have hle : len ≤ ss.length := by rw [hz]; split <;> omega
    have hdl : ((ss.take len).map (fun s => s.data.toList)).length = len := by simp; omega
    refine ⟨some a, (ss.take len).map (fun s => s.data.toList), cap, by rw [hcs, hdl], ⟨by simp, fun h0 => ?_⟩, by rw [hdl]; omega, fun s hs => ?_⟩
    · rw [hdl] at h0
      refine ⟨a, rfl, ?_, fun j u hu => ?_⟩
      · have : (MemPlace.cell a.block a.off) ∈ y.2 := by
          rw [hx]
          simp only [MemPlace.row, List.mem_map, List.mem_range]
          exact ⟨0, by omega, by simp⟩
        exact hlt _ this
      · obtain ⟨hj, rfl⟩ := hd_of hle j u hu
        exact hcell j hj
    · obtain ⟨b, hb, rfl⟩ := List.mem_map.1 hs
      have := hsz b (List.mem_of_mem_take hb)
      rw [Array.length_toList]
      exact this

theorem open_int1 {n : Nat} {v : Value} {y : DataW H × List MemPlace} (h : DataW.trod enc Try.prog w base spare held n 3 [v] = some y) : ∃ a : Int, v = .int .i64 a ∧ (Lit.int .i64 a).wf = true := by
  obtain ⟨a, ha, _, hw⟩ := DataW.trod_int Try.underlying3 h
  exact ⟨a, by simpa using ha, hw⟩

set_option maxRecDepth 100000 in
/-- The laws' slice of acts. -/
theorem open_acts {fuel : Nat} {v : Value} {y : DataW H × List MemPlace} (h : DataW.trod enc Try.prog w base spare held fuel 22 [v] = some y) (hlt : ∀ x ∈ y.2, x.block < w.heap.size) :
    ∃ (A0 : Option Addr) (l : List A) (cap : Nat), v = .slice A0 l.length cap ∧ Acts w A0 l ∧ Fine l := by
  rcases open_slice_fields Try.underlying22 Try.underlying33 (by kernel_rfl) (by kernel_rfl) h with ⟨hcs, hx⟩ | ⟨a, len, cap, m, D, Pl, hcs, hb, hl, hm, hmm, hx, hi⟩
  · simp only [List.cons.injEq, and_true] at hcs
    exact ⟨none, [], 0, hcs, fun h0 => absurd h0 (by simp), by simp, by simp⟩
  · simp only [List.cons.injEq, and_true] at hcs
    have hle : len ≤ m := by rw [hmm]; split <;> omega
    have each : ∀ i, i < len → ∃ z : A, ActAt w z (a.add (i * 4)) ∧ ((Lit.int .i64 z.dd).wf = true ∧ (Lit.int .i64 z.n).wf = true ∧ z.d.length ≤ maxLen ∧ z.m.length ≤ maxLen ∧ (∀ s ∈ z.d, s.length ≤ maxLen) ∧ ∀ s ∈ z.m, s.length ≤ maxLen) := by
      intro i hil
      obtain ⟨ys, n, hD, hPl, hyl, hf⟩ := hi i (by omega)
      have hpl : ∀ (q : DataW H × List MemPlace), q ∈ ys → ∀ x ∈ q.2, x.block < w.heap.size := fun q hq x hx' => hlt x (by
        rw [hx]
        refine List.mem_append_right _ (List.mem_flatMap.2 ⟨i, List.mem_range.2 (by omega), ?_⟩)
        rw [hPl]
        exact List.mem_flatMap.2 ⟨q, hq, hx'⟩)
      obtain ⟨v0, y0, hc0, hy0, ht0⟩ := hf 0 _ rfl
      obtain ⟨v1, y1, hc1, hy1, ht1⟩ := hf 1 _ rfl
      obtain ⟨v2, y2, hc2, hy2, ht2⟩ := hf 2 _ rfl
      obtain ⟨v3, y3, hc3, hy3, ht3⟩ := hf 3 _ rfl
      obtain ⟨dd, rfl, wd⟩ := open_int1 ht0
      obtain ⟨nn, rfl, wn⟩ := open_int1 ht1
      obtain ⟨A1, d, c1, rfl, r1, l1, s1⟩ := open_strs ht2 (hpl _ (List.mem_of_getElem? hy2))
      obtain ⟨A2, mm, c2, rfl, r2, l2, s2⟩ := open_strs ht3 (hpl _ (List.mem_of_getElem? hy3))
      refine ⟨⟨dd, nn, d, mm⟩, ⟨A1, c1, A2, c2, hc0, ?_, ?_, ?_, r1, r2⟩, wd, wn, l1, l2, s1, s2⟩
      · rw [Go.Deep.add_add]; exact hc1
      · rw [Go.Deep.add_add]; exact hc2
      · rw [Go.Deep.add_add]; exact hc3
    have hlist : ∃ l : List A, l.length = len ∧ ∀ i (hi : i < l.length), ActAt w l[i] (a.add (i * 4)) ∧ ((Lit.int .i64 l[i].dd).wf = true ∧ (Lit.int .i64 l[i].n).wf = true ∧ l[i].d.length ≤ maxLen ∧ l[i].m.length ≤ maxLen ∧ (∀ s ∈ l[i].d, s.length ≤ maxLen) ∧ ∀ s ∈ l[i].m, s.length ≤ maxLen) := by
      refine ⟨List.ofFn (fun i : Fin len => (each i.1 i.2).choose), by simp, fun i hi' => ?_⟩
      simp only [List.getElem_ofFn]
      exact (each i (by simpa using hi')).choose_spec
    obtain ⟨l, hll, hat⟩ := hlist
    subst hll
    refine ⟨some a, l, cap, hcs, fun h0 => ⟨a, rfl, ?_, fun k hk => (hat k hk).1⟩, by omega, fun z hz => ?_⟩
    · have : (MemPlace.cell a.block a.off) ∈ y.2 := by
        rw [hx]
        refine List.mem_append_left _ ?_
        simp only [MemPlace.row, List.mem_map, List.mem_range]
        exact ⟨0, by simp; omega, by simp⟩
      exact hlt _ this
    · obtain ⟨i, hi', rfl⟩ := List.getElem_of_mem hz
      exact (hat i hi').2
end

def lens (l : List A) : Nat := (l.map (fun a => a.d.length + a.m.length)).sum
def GreatOut (w : World) (l : List A) (e : Ending) (w' : World) : Prop := ∃ b : Bool, e = .returned (.bool b) ∧ (b = false → l.length ≤ 100 ∧ lens l ≤ 600) ∧ ∃ q, w' = w.drewN q

theorem Acts.at_ {w : World} {A0 : Option Addr} {l : List A} (h : Acts w A0 l) {k : Nat} (hk : k < l.length) : ∃ ad, A0 = some ad ∧ ad.block < w.heap.size ∧ ActAt w l[k] (ad.add (k * 4)) := by
  obtain ⟨ad, e, hb, hat⟩ := h (by omega)
  exact ⟨ad, e, hb, hat k hk⟩
theorem lens_take {l : List A} {k : Nat} (hk : k < l.length) : lens (l.take (k + 1)) = lens (l.take k) + (l[k].d.length + l[k].m.length) := by
  unfold lens
  rw [List.take_succ_eq_append_getElem hk, List.map_append, List.sum_append]
  simp

theorem Acts.lensAt {w : World} {A0 : Option Addr} {l : List A} (h : Acts w A0 l) {k : Nat} (hk : k < l.length) : ∃ (ad : Addr) (A1 : Option Addr) (c1 : Nat) (A2 : Option Addr) (c2 : Nat), A0 = some ad ∧ ad.block < w.heap.size ∧
    w.cell? ⟨(ad.add (k * 4)).block, (ad.add (k * 4)).off + 2, none⟩ = some (.slice A1 l[k].d.length c1) ∧ w.cell? ⟨(ad.add (k * 4)).block, (ad.add (k * 4)).off + 3, none⟩ = some (.slice A2 l[k].m.length c2) := by
  obtain ⟨ad, e, hb, A1, c1, A2, c2, _, _, h2, h3, _, _⟩ := h.at_ hk
  exact ⟨ad, A1, c1, A2, c2, e, hb, h2, h3⟩

set_option maxRecDepth 100000 in
set_option maxHeartbeats 2000000 in
theorem great_any (A0 : Option Addr) (cap : Nat) (l : List A) (w : World) (h : Acts w A0 l) (hf : Fine l) :
    Calls Try.prog 7 #[.slice A0 l.length cap] w (GreatOut w l) := by
  have HH := Lib.hid h
  clear hf h
  by_cases hbig : l.length > 100
  · go_enter Try.func7, Try.ntmps7
    go_wp2
    go_ret
    exact ⟨true, rfl, fun e => (by cases e), 0, rfl⟩
  go_enter Try.func7, Try.ntmps7
  go_wp2
  go_loopw [3, 4] (fun s i wr => ∃ k q : Nat, k ≤ l.length ∧ i = .int .i64 k ∧ s = .int .i64 (lens (l.take k)) ∧ lens (l.take k) ≤ 1200 * k ∧ wr = w.drewN q) (fun _ i _ => l.length - (intOf i).toNat)
  case atStart => exact ⟨0, 0, Nat.zero_le _, rfl, rfl, by simp [lens], rfl⟩
  case round =>
    obtain ⟨k, q, hk, rfl, rfl, hle, rfl⟩ := hrel
    by_cases hlt : k < l.length
    · obtain ⟨ad, A1, c1, A2, c2, rfl, hb, hc2, hc3⟩ := HH.out.lensAt hlt
      have ht := lens_take hlt
      obtain ⟨x, hx⟩ : ∃ x, x = l[k].d.length := ⟨_, rfl⟩
      obtain ⟨y, hy⟩ : ∃ y, y = l[k].m.length := ⟨_, rfl⟩
      obtain ⟨z, hz⟩ : ∃ z, z = lens (l.take k) := ⟨_, rfl⟩
      rw [← hx] at hc2 ht
      rw [← hy] at hc3 ht
      rw [← hz] at hle ht ⊢
      have HT := Lib.hid ht
      clear ht hx hy hz
      by_cases hx6 : x > 600
      · go_wp2
        go_ret
        exact ⟨true, rfl, fun e => (by cases e), _, rfl⟩
      by_cases hy6 : y > 600
      · go_wp2
        go_ret
        exact ⟨true, rfl, fun e => (by cases e), _, rfl⟩
      go_wp2
      go_quiet (fail)
      go_wp2
      go_roundw
      case rel => exact ⟨k + 1, _, by omega, by go_num, by rw [HT.out]; go_num, by rw [HT.out]; omega, rfl⟩
      case measure => simp [intOf]; omega
    · obtain rfl : k = l.length := by omega
      rw [List.take_length] at hle ⊢
      obtain ⟨z, hz⟩ : ∃ z, z = lens l := ⟨_, rfl⟩
      rw [← hz] at hle ⊢
      by_cases hz6 : z > 600
      · have hd : decide ((600 : Int) < (z : Int)) = true := decide_eq_true (by omega)
        clear hz
        go_wp2
        go_ret
        exact ⟨true, rfl, fun e => (by cases e), _, rfl⟩
      · have : lens l ≤ 600 := by omega
        have HL := Lib.hid this
        have hd : decide ((600 : Int) < (z : Int)) = false := decide_eq_false (by omega)
        clear this hz
        go_wp2
        go_ret
        exact ⟨false, rfl, fun _ => ⟨by omega, HL.out⟩, _, rfl⟩

end Go.Proofs.Ytkjmknmcbkofbaa
