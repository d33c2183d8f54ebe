/-
  An index's state as a plain list, and how it lies in memory.
  Its conditions: as each theorem states them.
-/
import Derived.Test.YtkjmknmcbkofbaaMaps
import Derived.Test.YtkjmknmcbkofbaaWords
namespace Go.Proofs.Ytkjmknmcbkofbaa
set_option linter.unusedVariables false
set_option linter.unusedSimpArgs false
open Go Go.Proofs Go.RowKit Go.Maps

/-! ### frames: what turned is some maps -/
structure Fr (w w' : World) (bs : List Nat) : Prop where
  os : w'.os = w.os
  tape : w'.tape = w.tape
  output : w'.output = w.output
  size : w.heap.size ≤ w'.heap.size
  keep : ∀ i, i < w.heap.size → i ∉ bs → w'.heap[i]? = w.heap[i]?
  maps : ∀ i, i < w.heap.size → i ∈ bs → (∃ es c, w.heap[i]? = some (.map es c)) ∧ ∃ es c, w'.heap[i]? = some (.map es c)

theorem Fr.refl' (w : World) : Fr w w [] := ⟨rfl, rfl, rfl, Nat.le_refl _, fun _ _ _ => rfl, fun _ _ h => by simp at h⟩
theorem Fr.trans {w w1 w2 : World} {bs cs : List Nat} (h : Fr w w1 bs) (k : Fr w1 w2 cs) : Fr w w2 (bs ++ cs) where
  os := k.os.trans h.os
  tape := k.tape.trans h.tape
  output := k.output.trans h.output
  size := Nat.le_trans h.size k.size
  keep i hi hn := by
    simp only [List.mem_append, not_or] at hn
    exact (k.keep i (Nat.lt_of_lt_of_le hi h.size) hn.2).trans (h.keep i hi hn.1)
  maps i hi hm := by
    by_cases h1 : i ∈ bs
    · obtain ⟨m0, m1⟩ := h.maps i hi h1
      refine ⟨m0, ?_⟩
      by_cases h2 : i ∈ cs
      · exact (k.maps i (Nat.lt_of_lt_of_le hi h.size) h2).2
      · rw [k.keep i (Nat.lt_of_lt_of_le hi h.size) h2]; exact m1
    · have h2 : i ∈ cs := by rcases List.mem_append.1 hm with h | h; exact absurd h h1; exact h
      obtain ⟨m0, m1⟩ := k.maps i (Nat.lt_of_lt_of_le hi h.size) h2
      rw [h.keep i hi h1] at m0
      exact ⟨m0, m1⟩
theorem Fr.sub {w w' : World} {bs cs : List Nat} (h : Fr w w' bs) (hs : ∀ b, b ∈ bs → b ∈ cs) (hm : ∀ b, b ∈ cs → b < w.heap.size → ∃ es c, w.heap[b]? = some (.map es c)) : Fr w w' cs where
  os := h.os
  tape := h.tape
  output := h.output
  size := h.size
  keep i hi hn := h.keep i hi (fun hb => hn (hs i hb))
  maps i hi hc := by
    by_cases h1 : i ∈ bs
    · exact h.maps i hi h1
    · have := hm i hc hi
      exact ⟨this, by rw [h.keep i hi h1]; exact this⟩
theorem Fr.of_below {w w' : World} (h : Below w.heap.size w w') : Fr w w' [] := ⟨h.os, h.tape, h.output, h.size, fun i hi _ => h.block i hi, fun _ _ h => by simp at h⟩
theorem Fr.below {w w' : World} (h : Fr w w' []) : Below w.heap.size w w' := ⟨h.os, h.tape, h.output, h.size, fun i hi => h.keep i hi (by simp)⟩
theorem Fr.of_turned {w w' : World} {b : Nat} (h : w.mapTurned w' b) : Fr w w' [b] := by
  have g := h.grown
  obtain ⟨es, c, es', c', hb, rfl⟩ := h
  exact ⟨g.os, g.tape, g.output, g.size, fun i hi hn => g.block i hi (fun e => hn (by cases e; simp)), fun i hi hm => by
    simp at hm
    subst hm
    exact ⟨⟨es, c, hb⟩, es', c', by simp [Go.ChangeMaps.setBlock, Array.getElem?_setIfInBounds, hi]⟩⟩
theorem Fr.alloc {w w' : World} {bs : List Nat} (h : Fr w w' bs) (o : Obj) : Fr w (w'.alloc o) bs := by
  have := h.trans (Fr.of_below (w := w') (w' := w'.alloc o) ((Below.refl _ _).alloc (Nat.le_refl _) o))
  rwa [List.append_nil] at this
theorem Fr.drew {w w' : World} {bs : List Nat} (h : Fr w w' bs) : Fr w w'.drew bs := ⟨h.os, h.tape, h.output, h.size, h.keep, h.maps⟩
theorem Fr.drewN {w w' : World} {bs : List Nat} (h : Fr w w' bs) (n : Nat) : Fr w (w'.drewN n) bs := ⟨h.os, h.tape, h.output, h.size, h.keep, h.maps⟩

/-- No cell of what was there has turned. -/
theorem Fr.cell {w w' : World} {bs : List Nat} (h : Fr w w' bs) {p : Addr} (hp : p.block < w.heap.size) : w'.cell? p = w.cell? p := by
  by_cases hb : p.block ∈ bs
  · obtain ⟨⟨es, c, h0⟩, es', c', h1⟩ := h.maps _ hp hb
    simp [World.cell?, h0, h1]
  · exact World.cell?_of_block (h.keep _ hp hb)
theorem Fr.frozen {w w' : World} {bs : List Nat} (h : Fr w w' bs) {p : Addr} (hp : p.block < w.heap.size) : w'.frozen? p = w.frozen? p := by
  by_cases hb : p.block ∈ bs
  · obtain ⟨⟨es, c, h0⟩, es', c', h1⟩ := h.maps _ hp hb
    simp [World.frozen?, h0, h1]
  · simp [World.frozen?, h.keep _ hp hb]
theorem Fr.blk {w w' : World} {bs : List Nat} (h : Fr w w' bs) {g : Nat} {t : TypeId} {cs : Array Value} (hg : Blk w g t cs) : Blk w' g t cs := by
  by_cases hb : g ∈ bs
  · obtain ⟨⟨es, c, h0⟩, _⟩ := h.maps _ hg.lt hb
    unfold Blk at hg
    rw [hg] at h0
    cases h0
  · exact (h.keep _ hg.lt hb).trans hg
theorem Fr.reads {w w' : World} {bs : List Nat} (h : Fr w w' bs) {size n : Nat} {A : Option Addr} {xs : List Value} (hr : Reads w w.heap.size size A n xs) : Reads w' w'.heap.size size A n xs :=
  (hr.keep fun _ hp => h.cell hp).more h.size
theorem Fr.readsB {w w' : World} {bs : List Nat} (h : Fr w w' bs) {B size n : Nat} {A : Option Addr} {xs : List Value} (hB : B ≤ w.heap.size) (hr : Reads w B size A n xs) : Reads w' B size A n xs :=
  hr.keep fun _ hp => h.cell (Nat.lt_of_lt_of_le hp hB)
theorem Fr.own {w w' : World} {bs : List Nat} (h : Fr w w' bs) {base : Nat} {e : TypeId} {size n : Nat} {v : Value} {xs : List Value} (ho : w.ownsRow base e size v n xs) : w'.ownsRow base e size v n xs := by
  refine ⟨ho.1, ?_⟩
  rcases ho.2 with h0 | ⟨g, cap, cur, hv, hb, hh, r⟩
  · exact .inl h0
  · exact .inr ⟨g, cap, cur, hv, hb, h.blk (t := e) hh, r⟩

/-! ### the state -/
structure E where
  n : Int
  d : List Str
  m : List Str
abbrev St := List E

def has (st : St) (n : Int) : Bool := st.any (fun e => decide (e.n = n))
def getD (st : St) (n : Int) : List Str := match st.find? (fun e => decide (e.n = n)) with | some e => e.d | none => []
def getM (st : St) (n : Int) : List Str := match st.find? (fun e => decide (e.n = n)) with | some e => e.m | none => []
def cnt (st : St) (s : Str) : Nat := (st.filter (fun e => decide (s ∈ e.d))).length
def drop (st : St) (n : Int) : St := st.filter (fun e => !decide (e.n = n))
def put (st : St) (n : Int) (d m : List Str) : St := if d = [] ∧ m = [] then drop st n else ⟨n, d, m⟩ :: drop st n

structure Wf (st : St) (N : Nat) : Prop where
  nd : st.Pairwise (fun a b => a.n ≠ b.n)
  int : ∀ e ∈ st, 0 ≤ e.n ∧ e.n ≤ 9223372036854775807
  str : ∀ e ∈ st, (∀ s ∈ e.d, s.length ≤ maxLen) ∧ ∀ s ∈ e.m, s.length ≤ maxLen
  upd : ∀ e ∈ st, Up e.d
  upm : ∀ e ∈ st, Up e.m
  len : ∀ e ∈ st, e.d.length ≤ N ∧ e.m.length ≤ N
  some : ∀ e ∈ st, ¬ (e.d = [] ∧ e.m = [])
  size : st.length ≤ N

/-- A slice value that reads as a list of strings. -/
def RowOf (w : World) (v : Value) (ss : List Str) : Prop := ∃ A cap, v = .slice A ss.length cap ∧ Reads w w.heap.size 1 A ss.length (ss.map encStr)

theorem RowOf.fr {w w' : World} {bs : List Nat} (h : Fr w w' bs) {v : Value} {ss : List Str} : RowOf w v ss → RowOf w' v ss
  | ⟨A, cap, e, hr⟩ => ⟨A, cap, e, h.reads hr⟩
theorem RowOf.nil (w : World) : RowOf w (.slice none 0 0) [] := ⟨none, 0, rfl, Reads.none_⟩
theorem RowOf.own {w : World} {base : Nat} {v : Value} {ss : List Str} (h : w.ownsRow base 9 1 v ss.length (ss.map encStr)) : RowOf w v ss := by
  have h2 := h
  rcases h.2 with ⟨rfl, h0⟩ | ⟨g, cap, cur, rfl, _⟩
  · obtain rfl : ss = [] := List.eq_nil_of_length_eq_zero h0
    exact RowOf.nil w
  · exact ⟨_, cap, rfl, Reads.of_own h2⟩

def setF (S : Str × Int → Prop) [DecidablePred S] : Str × Int → Option Value := fun x => if S x then some (.bool true) else none
def cntF (c : Str → Nat) : Str → Option Value := fun s => if 0 < c s then some (.int .i64 (c s)) else none
def entF (st : St) (ev : Int → Value × Value) : Int → Option Value := fun n => if has st n then some (.agg #[(ev n).1, (ev n).2]) else none

/-- .. that lies in none of the blocks of G. -/
def RowG (G : Nat → Prop) (w : World) (v : Value) (ss : List Str) : Prop := RowOf w v ss ∧ ∀ ad n c, v = .slice (some ad) n c → 0 < ss.length → ¬ G ad.block
theorem RowG.fr {G : Nat → Prop} {w w' : World} {bs : List Nat} (h : Fr w w' bs) {v : Value} {ss : List Str} (hr : RowG G w v ss) : RowG G w' v ss := ⟨hr.1.fr h, hr.2⟩

/-- An index lies behind X: its four maps, told by the state; no entry's row lies in a block of G. -/
structure Idx (G : Nat → Prop) (w : World) (X be bd bm bc N : Nat) (st : St) : Prop where
  blk : Blk w X 56 #[.map (some be), .map (some bd), .map (some bm), .map (some bc)]
  ne : be ≠ bd ∧ be ≠ bm ∧ be ≠ bc ∧ bd ≠ bm ∧ bd ≠ bc ∧ bm ≠ bc
  ent : ∃ ev : Int → Value × Value, View intK w be N (entF st ev) ∧ ∀ e ∈ st, RowG G w (ev e.n).1 e.d ∧ RowG G w (ev e.n).2 e.m
  def_ : View saidK w bd N (setF fun x => x.1 ∈ getD st x.2)
  men : View saidK w bm N (setF fun x => x.1 ∈ getM st x.2)
  cnt : View strK w bc N (cntF (cnt st))
  wf : Wf st N

variable {G : Nat → Prop}
theorem Idx.fr {w w' : World} {bs : List Nat} {X be bd bm bc N : Nat} {st : St} (h : Idx G w X be bd bm bc N st) (f : Fr w w' bs) (hn : be ∉ bs ∧ bd ∉ bs ∧ bm ∉ bs ∧ bc ∉ bs) : Idx G w' X be bd bm bc N st := by
  obtain ⟨ev, he, hr⟩ := h.ent
  exact ⟨f.blk h.blk, h.ne, ⟨ev, he.same _ (f.keep _ (he.lt _) hn.1), fun e hm => ⟨(hr e hm).1.fr f, (hr e hm).2.fr f⟩⟩,
    h.def_.same _ (f.keep _ (h.def_.lt _) hn.2.1), h.men.same _ (f.keep _ (h.men.lt _) hn.2.2.1), h.cnt.same _ (f.keep _ (h.cnt.lt _) hn.2.2.2), h.wf⟩
theorem Idx.below {w w' : World} {X be bd bm bc N : Nat} {st : St} (h : Idx G w X be bd bm bc N st) (f : Below w.heap.size w w') : Idx G w' X be bd bm bc N st :=
  h.fr (Fr.of_below f) (by simp)
theorem Wf.mono {st : St} {N M : Nat} (h : Wf st N) (hM : N ≤ M) : Wf st M :=
  ⟨h.nd, h.int, h.str, h.upd, h.upm, fun e he => ⟨Nat.le_trans (h.len e he).1 hM, Nat.le_trans (h.len e he).2 hM⟩, h.some, Nat.le_trans h.size hM⟩
theorem Idx.mono {w : World} {X be bd bm bc N M : Nat} {st : St} (h : Idx G w X be bd bm bc N st) (hM : N ≤ M) : Idx G w X be bd bm bc M st := by
  obtain ⟨ev, he, hr⟩ := h.ent
  exact ⟨h.blk, h.ne, ⟨ev, he.mono _ hM, hr⟩, h.def_.mono _ hM, h.men.mono _ hM, h.cnt.mono _ hM, h.wf.mono hM⟩
theorem cnt_le (st : St) (s : Str) : cnt st s ≤ st.length := List.length_filter_le _ _

end Go.Proofs.Ytkjmknmcbkofbaa
