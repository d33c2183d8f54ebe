/-
  The reference's Put.
  Its conditions: as each theorem states them.
-/
import Derived.Test.YtkjmknmcbkofbaaRefK
import Derived.Test.YtkjmknmcbkofbaaRefL
namespace Go.Proofs.Ytkjmknmcbkofbaa
open Go Go.Proofs Go.RowKit Go.Maps Go.Sort Go.Shelf
set_option linter.unusedVariables false
set_option linter.unusedSimpArgs false

/-! ### a world in which one block of a pointer's slice has turned -/
structure Fz (w w' : World) (Z : Nat) : Prop where
  os : w'.os = w.os
  tape : w'.tape = w.tape
  output : w'.output = w.output
  size : w.heap.size ≤ w'.heap.size
  keep : ∀ i, i < w.heap.size → i ≠ Z → w'.heap[i]? = w.heap[i]?

theorem Fz.of_below {w w' : World} (Z : Nat) (h : Below w.heap.size w w') : Fz w w' Z := ⟨h.os, h.tape, h.output, h.size, fun i hi _ => h.block i hi⟩
theorem Fz.trans {w w1 w2 : World} {Z : Nat} (h : Fz w w1 Z) (k : Fz w1 w2 Z) : Fz w w2 Z :=
  ⟨k.os.trans h.os, k.tape.trans h.tape, k.output.trans h.output, Nat.le_trans h.size k.size, fun i hi hne => (k.keep i (Nat.lt_of_lt_of_le hi h.size) hne).trans (h.keep i hi hne)⟩
theorem Fz.set (w : World) (Z : Nat) (v : Value) : Fz w (w.setCell ⟨Z, 0, none⟩ v) Z :=
  ⟨rfl, rfl, rfl, by simp [World.setCell], fun i hi hne => Below.heap_setCell w ⟨Z, 0, none⟩ v i hne⟩
theorem Fz.fr {w0 w w' : World} {Z : Nat} (h : Fr w0 w []) (f : Fz w w' Z) (hz : w0.heap.size ≤ Z) : Fr w0 w' [] :=
  ⟨f.os.trans h.os, f.tape.trans h.tape, f.output.trans h.output, Nat.le_trans h.size f.size, fun i hi hn => (f.keep i (Nat.lt_of_lt_of_le hi h.size) (by omega)).trans (h.keep i hi hn), fun i hi hm => by simp at hm⟩

/-- Strings stay: their row does not lie in that block. -/
theorem Reads.fz {w w' : World} {Z : Nat} {A : Option Addr} {n : Nat} {ss : List Str} (h : Reads w w.heap.size 1 A n (ss.map encStr)) (f : Fz w w' Z) {S : Option Addr} {sn sc : Nat} (hz : Blk w Z 39 #[.slice S sn sc]) : Reads w' w'.heap.size 1 A n (ss.map encStr) := by
  refine ⟨h.1, fun hn => ?_⟩
  obtain ⟨ad, e, hb, hc⟩ := h.2 hn
  refine ⟨ad, e, Nat.lt_of_lt_of_le hb f.size, fun j u hu => ?_⟩
  have h1 := hc j u hu
  have hne : (ad.add j).block ≠ Z := by
    intro hZ
    rw [List.getElem?_map] at hu
    obtain ⟨s, _, rfl⟩ := Option.map_eq_some_iff.1 hu
    unfold Blk at hz
    unfold World.cell? at h1
    rw [hZ, hz] at h1
    simp only [] at h1
    rcases Nat.eq_zero_or_pos (ad.add j).off with h0 | h0
    · rw [h0] at h1
      simp at h1
    · have : (#[Value.slice S sn sc])[(ad.add j).off]? = none := by simp; omega
      simp [this] at h1
  exact (World.cell?_of_block (f.keep _ (by rw [block_of_add]; exact hb) hne)).trans h1

theorem Blk.fz {w w' : World} {Z g : Nat} {t : TypeId} {cs : Array Value} (h : Blk w g t cs) (f : Fz w w' Z) (hne : g ≠ Z) : Blk w' g t cs := (f.keep g h.lt hne).trans h

theorem Idx.fz {G : Nat → Prop} {w w' : World} {X be bd bm bc N Z : Nat} {st : St} (h : Idx G w X be bd bm bc N st) (f : Fz w w' Z) {S : Option Addr} {sn sc : Nat} (hz : Blk w Z 39 #[.slice S sn sc]) : Idx G w' X be bd bm bc N st := by
  have hmap : ∀ b, (∃ es c, w.heap[b]? = some (.map es c)) → b ≠ Z := fun b ⟨es, c, hb⟩ e => by
    subst e
    unfold Blk at hz
    rw [hz] at hb
    cases hb
  obtain ⟨ev, he, hr⟩ := h.ent
  have sam : ∀ b, b < w.heap.size → (∃ es c, w.heap[b]? = some (.map es c)) → w'.heap[b]? = w.heap[b]? := fun b hb hm => f.keep b hb (hmap b hm)
  refine ⟨h.blk.fz f (fun e => h.blk.ne_ hz (by decide) e), h.ne, ⟨ev, he.same intK (sam _ (he.lt intK) (he.isMapBlock intK)), fun e hm => ?_⟩, h.def_.same saidK (sam _ (h.def_.lt saidK) (h.def_.isMapBlock saidK)), h.men.same saidK (sam _ (h.men.lt saidK) (h.men.isMapBlock saidK)), h.cnt.same strK (sam _ (h.cnt.lt strK) (h.cnt.isMapBlock strK)), h.wf⟩
  obtain ⟨⟨⟨A1, c1, e1, r1⟩, g1⟩, ⟨⟨A2, c2, e2, r2⟩, g2⟩⟩ := hr e hm
  exact ⟨⟨⟨A1, c1, e1, r1.fz f hz⟩, g1⟩, ⟨⟨A2, c2, e2, r2.fz f hz⟩, g2⟩⟩

/-! ### a row of entries under construction -/
/-- A row of strings that does not lie in the block of v. -/
def Sep (G : Nat → Prop) (w : World) (v : Value) (A : Option Addr) (n : Nat) (xs : List Value) : Prop := Reads w w.heap.size 1 A n xs ∧ (0 < n → ∀ ad, A = some ad → v.ownBlock ≠ some ad.block ∧ ¬ G ad.block)
variable {G : Nat → Prop}
theorem Sep.fr {w w' : World} {bs : List Nat} (f : Fr w w' bs) {v : Value} {A : Option Addr} {n : Nat} {xs : List Value} (h : Sep G w v A n xs) : Sep G w' v A n xs := ⟨f.reads h.1, h.2⟩
theorem Sep.app {w w1 w3 : World} (f : Fr w w1 []) {v v' : Value} (hg : w1.grownBy w3 v.ownBlock) (hv : v'.ownBlock = v.ownBlock ∨ v'.ownBlock = some w1.heap.size) {A : Option Addr} {n : Nat} {xs : List Value} (h : Sep G w v A n xs) : Sep G w3 v' A n xs := by
  have h1 := f.reads h.1
  refine ⟨⟨h1.1, fun hn => ?_⟩, fun hn ad e => ?_⟩
  · obtain ⟨ad, e, hb, hc⟩ := h1.2 hn
    refine ⟨ad, e, Nat.lt_of_lt_of_le hb hg.size, fun j u hu => ?_⟩
    exact (World.cell?_of_block (hg.block _ (by rw [block_of_add]; exact hb) (by rw [block_of_add]; exact fun e2 => (h.2 hn ad e).1 e2.symm))).trans (hc j u hu)
  · refine ⟨?_, (h.2 hn ad e).2⟩
    rcases hv with hv | hv
    · rw [hv]; exact (h.2 hn ad e).1
    · rw [hv]
      obtain ⟨ad2, e2, hb, _⟩ := h1.2 hn
      rw [e] at e2
      injection e2 with e2
      subst e2
      intro e3
      injection e3 with e3
      omega
theorem Sep.old {w w' : World} {v : Value} {n k m : Nat} {e : TypeId} {xs ys : List Value} {A : Option Addr} (hr : Reads w w.heap.size 1 A n xs) (hoff : Off G A n) (f : Fr w w' []) (ho : w'.ownsRow w.heap.size e k v m ys) : Sep G w' v A n xs :=
  ⟨f.reads hr, fun hn ad ea => by
    refine ⟨?_, hoff hn ad ea⟩
    obtain ⟨ad2, e2, hb, _⟩ := hr.2 hn
    rw [ea] at e2
    injection e2 with e2
    subst e2
    intro e3
    have := (ho.lt _ e3).1
    omega⟩
theorem Sep.new {w w' : World} {v u : Value} {base k m : Nat} {e : TypeId} {ys : List Value} {ss : List Str} (hu : w.ownsRow base e k v m ys) (ho : w'.ownsRow w.heap.size 9 1 u ss.length (ss.map encStr)) (hG : ∀ b, G b → b < w.heap.size) : ∃ A c, u = .slice A ss.length c ∧ Sep G w' v A ss.length (ss.map encStr) := by
  obtain ⟨A, c, e1, hr⟩ := RowOf.own ho
  refine ⟨A, c, e1, hr, fun hn ad ea => ?_⟩
  subst e1 ea
  rcases ho.2 with ⟨e2, h0⟩ | ⟨g, cap, cur, hv, hb, _⟩
  · omega
  · injection hv with hv
    injection hv with hv
    subst hv
    refine ⟨fun e3 => ?_, fun hg => ?_⟩
    · have := (hu.lt _ e3).2
      simp only [] at this
      omega
    · have := hG _ hg
      simp only [] at this
      omega

def RX (G : Nat → Prop) (w : World) (v : Value) (acc : List E) (xs : List Value) : Prop := xs.length = acc.length * 3 ∧ ∀ j (hj : j < acc.length), ∃ A1 c1 A2 c2, xs[j * 3]? = some (.int .i64 acc[j].n) ∧ xs[j * 3 + 1]? = some (.slice A1 acc[j].d.length c1) ∧ xs[j * 3 + 2]? = some (.slice A2 acc[j].m.length c2) ∧
  Sep G w v A1 acc[j].d.length (acc[j].d.map encStr) ∧ Sep G w v A2 acc[j].m.length (acc[j].m.map encStr)

theorem RX.nil (w : World) (v : Value) : RX G w v [] [] := ⟨rfl, fun j hj => by simp at hj⟩
theorem RX.fr {w w' : World} {bs : List Nat} (f : Fr w w' bs) {v : Value} {acc : List E} {xs : List Value} (h : RX G w v acc xs) : RX G w' v acc xs :=
  ⟨h.1, fun j hj => by obtain ⟨A1, c1, A2, c2, h0, h1, h2, r1, r2⟩ := h.2 j hj; exact ⟨A1, c1, A2, c2, h0, h1, h2, r1.fr f, r2.fr f⟩⟩
theorem RX.app {w w1 w3 : World} (f : Fr w w1 []) {v v' : Value} (hg : w1.grownBy w3 v.ownBlock) (hv : v'.ownBlock = v.ownBlock ∨ v'.ownBlock = some w1.heap.size) {acc : List E} {xs : List Value} (h : RX G w v acc xs) : RX G w3 v' acc xs :=
  ⟨h.1, fun j hj => by obtain ⟨A1, c1, A2, c2, h0, h1, h2, r1, r2⟩ := h.2 j hj; exact ⟨A1, c1, A2, c2, h0, h1, h2, r1.app f hg hv, r2.app f hg hv⟩⟩
theorem RX.snoc {w : World} {v : Value} {acc : List E} {xs : List Value} (h : RX G w v acc xs) (e : E) {A1 A2 : Option Addr} {c1 c2 : Nat} (r1 : Sep G w v A1 e.d.length (e.d.map encStr)) (r2 : Sep G w v A2 e.m.length (e.m.map encStr)) :
    RX G w v (acc ++ [e]) (xs ++ [.int .i64 e.n, .slice A1 e.d.length c1, .slice A2 e.m.length c2]) := by
  refine ⟨by simp [h.1]; omega, fun j hj => ?_⟩
  have hx := h.1
  rcases Nat.lt_or_ge j acc.length with hl | hl
  · obtain ⟨B1, d1, B2, d2, h0, h1, h2, s1, s2⟩ := h.2 j hl
    rw [List.getElem_append_left hl]
    exact ⟨B1, d1, B2, d2, by rw [List.getElem?_append_left (by omega)]; exact h0, by rw [List.getElem?_append_left (by omega)]; exact h1, by rw [List.getElem?_append_left (by omega)]; exact h2, s1, s2⟩
  · obtain rfl : j = acc.length := by simp at hj; omega
    rw [List.getElem_append_right (Nat.le_refl _)]
    simp only [Nat.sub_self, List.getElem_cons_zero]
    refine ⟨A1, c1, A2, c2, ?_, ?_, ?_, r1, r2⟩
    · rw [List.getElem?_append_right (by omega), hx]; simp
    · rw [List.getElem?_append_right (by omega), hx, show acc.length * 3 + 1 - acc.length * 3 = 1 by omega]; rfl
    · rw [List.getElem?_append_right (by omega), hx, show acc.length * 3 + 2 - acc.length * 3 = 2 by omega]; rfl

theorem RX.ents {w : World} {base : Nat} {v : Value} {acc : List E} {xs : List Value} (ho : w.ownsRow base 62 3 v acc.length xs) (h : RX G w v acc xs) (hG : ∀ b, G b → b < base) : ∃ A c, v = .slice A acc.length c ∧ Ents G w A acc := by
  rcases ho.2 with ⟨rfl, h0⟩ | ⟨g, cap, cur, rfl, hb, hh, _⟩
  · obtain rfl : acc = [] := List.eq_nil_of_length_eq_zero h0
    exact ⟨none, 0, rfl, fun h0 => absurd h0 (by simp)⟩
  · refine ⟨_, _, rfl, fun _ => ⟨⟨g, 0, none⟩, rfl, (Array.getElem?_eq_some_iff.1 hh).1, fun hg => (by have := hG _ hg; simp only [] at this; omega), fun k hk => ?_⟩⟩
    have hc := ho.cells (g := g) rfl
    obtain ⟨A1, c1, A2, c2, h0, h1, h2, r1, r2⟩ := h.2 k hk
    refine ⟨A1, c1, A2, c2, ⟨fun hn a e => (r1.2 hn a e).2, fun hn a e => (r2.2 hn a e).2⟩, hc _ _ h0, ?_, ?_, r1.1, r2.1⟩
    · have := hc _ _ h1
      rw [← add_of_add] at this
      exact this
    · have := hc _ _ h2
      rw [← add_of_add] at this
      exact this

/-- The entries stand behind the store of their slice into the pointer's block. -/
theorem Ents.set {w w' : World} {Z : Nat} {base : Nat} {A : Option Addr} {c : Nat} {acc : List E} {xs : List Value} (ho : w.ownsRow base 62 3 (.slice A acc.length c) acc.length xs) (he : Ents G w A acc) (f : Fz w w' Z) {S : Option Addr} {sn sc : Nat} (hz : Blk w Z 39 #[.slice S sn sc]) : Ents G w' A acc := fun h0 => by
  obtain ⟨ad, e, hb, hg0, hk⟩ := he h0
  have hne : ad.block ≠ Z := by
    intro hZ
    rcases ho.2 with ⟨_, hh⟩ | ⟨g, cap, cur, hv, _, hh, _⟩
    · omega
    · injection hv with hv
      rw [e] at hv
      injection hv with hv
      rw [hv] at hZ
      simp only [] at hZ
      subst hZ
      unfold Blk at hz
      rw [hz] at hh
      injection hh with hh
      injection hh with _ ht
      cases ht
  have hc : ∀ p : Addr, p.block = ad.block → w'.cell? p = w.cell? p := fun p hp => World.cell?_of_block (f.keep _ (by rw [hp]; exact hb) (by rw [hp]; exact hne))
  refine ⟨ad, e, Nat.lt_of_lt_of_le hb f.size, hg0, fun k hkl => ?_⟩
  obtain ⟨A1, c1, A2, c2, hoff, h0, h1, h2, r1, r2⟩ := hk k hkl
  exact ⟨A1, c1, A2, c2, hoff, (hc _ (block_of_add _ _)).trans h0, (hc _ (by exact block_of_add _ _)).trans h1, (hc _ (by exact block_of_add _ _)).trans h2, r1.fz f hz, r2.fz f hz⟩

theorem info62 : (Try.prog.info? 62).map (fun i => (i.zero, i.size, i.bytes)) = some (some (.agg #[.int .i64 0, .slice none 0 0, .slice none 0 0]), 3, 56) := by kernel_rfl
theorem cell_three_new (w : World) (a b c : Value) (t : TypeId) : ∀ (j : Nat) (v : Value), [a, b, c][j]? = some v → (w.alloc (.cells #[a, b, c] t)).cell? (Addr.add ⟨w.heap.size, 0, none⟩ j) = some v := by
  intro j v hv
  have h := World.cell?_alloc_new w #[a, b, c] t j
  have hadd : Addr.add ⟨w.heap.size, 0, none⟩ j = ⟨w.heap.size, j, none⟩ := by unfold Addr.add; split <;> simp_all
  rw [hadd, h]
  simpa using hv

theorem reads_three (w : World) (a b c : Value) (t : TypeId) : Reads (w.alloc (.cells #[a, b, c] t)) (w.alloc (.cells #[a, b, c] t)).heap.size 3 (some ⟨w.heap.size, 0, none⟩) 1 [a, b, c] :=
  ⟨rfl, fun _ => ⟨_, rfl, by simp, cell_three_new w a b c t⟩⟩

end Go.Proofs.Ytkjmknmcbkofbaa
