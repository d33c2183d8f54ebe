/-
  An act upon an index: Put, Drop, and what the laws' 'done' does; whatever the number.
  Its conditions: as each theorem states them.
-/
import Derived.Test.YtkjmknmcbkofbaaPut
namespace Go.Proofs.Ytkjmknmcbkofbaa
set_option linter.unusedVariables false
set_option linter.unusedSimpArgs false
open Go Go.Proofs Go.RowKit Go.Maps Go.Sort Go.Shelf
variable {G : Nat → Prop}

theorem Idx.tight {w : World} {X be bd bm bc N : Nat} {st : St} (h : Idx G w X be bd bm bc N st) : Idx G w X be bd bm bc (tot st) st :=
  idx_tight h.wf h.blk h.ne h.ent h.def_ h.men h.cnt

def differ (st st' : St) (s : Str) : Bool := decide (0 < cnt st s) != decide (0 < cnt st' s)

/-- What an act tells, and the index behind it. -/
def StepOut (G : Nat → Prop) (w : World) (X be bd bm bc : Nat) (st st' : St) (err : Int) (e : Ending) (w' : World) : Prop :=
  ∃ v told, e = .returned (.tuple #[v, .int .i64 err]) ∧ w'.ownsRow w.heap.size 9 1 v told.length (told.map encStr) ∧ Up told ∧
    (∀ s, s ∈ told ↔ differ st st' s = true) ∧ Idx G w' X be bd bm bc (tot st') st' ∧ Fr w w' [be, bd, bm, bc]

/-- The state behind an act: a Put of n with what is said (a Drop: nothing). -/
def stepS (st : St) (n : Int) (d m : List Str) : St := if n < 0 then st else put st n (riseL d) (riseL m)
def errS (n : Int) : Int := if n < 0 then 1 else 0

theorem Idx.frMaps {w : World} {X be bd bm bc N : Nat} {st : St} (h : Idx G w X be bd bm bc N st) {w' : World} (f : Fr w w' []) : Fr w w' [be, bd, bm, bc] :=
  f.strip (fun b hb => by simp at hb) (fun b hb => by
    simp at hb
    rcases hb with rfl | rfl | rfl | rfl
    · exact h.ent.choose_spec.1.isMapBlock intK
    · exact h.def_.isMapBlock saidK
    · exact h.men.isMapBlock saidK
    · exact h.cnt.isMapBlock strK)

set_option maxRecDepth 100000 in
theorem put_neg (X be bd bm bc N : Nat) (st : St) (n : Int) (hn : n < 0) (v1 v2 : Value) (w : World) (h : Idx G w X be bd bm bc N st) :
    Calls Try.prog 16 #[.pointer (some ⟨X, 0, none⟩), .int .i64 n, v1, v2] w (StepOut G w X be bd bm bc st st 1) := by
  have hfin : StepOut G w X be bd bm bc st st 1 (.returned (.tuple #[.slice none 0 0, .int .i64 1])) (w.alloc (.cells #[.pointer (some ⟨X, 0, none⟩)] 25)) := by
    have f : Fr w (w.alloc (.cells #[.pointer (some ⟨X, 0, none⟩)] 25)) [] := (Fr.refl' w).alloc _
    exact ⟨_, [], rfl, World.ownsRow_nil _ _ _ _, List.Pairwise.nil, fun s => by simp [differ], (h.fr f (by simp)).tight, h.frMaps f⟩
  have HF := Lib.hid hfin
  have hd : decide (n < 0) = true := by simpa using hn
  clear hfin h
  go_enter Try.func16, Try.ntmps16
  go_wp2
  go_ret2
  exact HF.out

set_option maxRecDepth 100000 in
theorem put_nilptr (n : Int) (v1 v2 : Value) (w : World) : Calls Try.prog 16 #[.pointer none, .int .i64 n, v1, v2] w fun e w' => e = .returned (.tuple #[.slice none 0 0, .int .i64 8]) ∧ Below w.heap.size w w' := by
  go_enter Try.func16, Try.ntmps16
  go_wp2
  go_ret2
  exact ⟨rfl, (Below.refl _ w).alloc (Nat.le_refl _) _⟩

/-- Put, whatever the number. -/
theorem put_step (X be bd bm bc N : Nat) (st : St) (n : Int) (hn1 : n ≤ 9223372036854775807) (A1 A2 : Option Addr) (cap1 cap2 : Nat) (ds ms : List Str) (w : World) (h : Idx G w X be bd bm bc N st)
    (hr1 : Reads w w.heap.size 1 A1 ds.length (ds.map encStr)) (hr2 : Reads w w.heap.size 1 A2 ms.length (ms.map encStr)) (hs1 : ∀ s ∈ ds, s.length ≤ maxLen) (hs2 : ∀ s ∈ ms, s.length ≤ maxLen)
    (hN : N ≤ 1073741824) (hl1 : ds.length ≤ 1073741824) (hl2 : ms.length ≤ 1073741824) (hG : ∀ b, G b → b < w.heap.size) :
    Calls Try.prog 16 #[.pointer (some ⟨X, 0, none⟩), .int .i64 n, .slice A1 ds.length cap1, .slice A2 ms.length cap2] w (StepOut G w X be bd bm bc st (stepS st n ds ms) (errS n)) := by
  by_cases hn : n < 0
  · rw [stepS, errS, if_pos hn, if_pos hn]
    exact put_neg X be bd bm bc N st n hn _ _ w h
  · rw [stepS, errS, if_neg hn, if_neg hn]
    exact put_any X be bd bm bc N st n (by omega) hn1 A1 A2 cap1 cap2 ds ms w h hr1 hr2 hs1 hs2 hN hl1 hl2 hG

theorem drop_step (X be bd bm bc N : Nat) (st : St) (n : Int) (hn1 : n ≤ 9223372036854775807) (w : World) (h : Idx G w X be bd bm bc N st) (hN : N ≤ 1073741824) (hG : ∀ b, G b → b < w.heap.size) :
    Calls Try.prog 14 #[.pointer (some ⟨X, 0, none⟩), .int .i64 n] w (StepOut G w X be bd bm bc st (stepS st n [] []) (errS n)) := by
  have hp := put_step X be bd bm bc N st n hn1 none none 0 0 [] [] w h Reads.none_ Reads.none_ (by simp) (by simp) hN (by simp) (by simp) hG
  have HP := Lib.hid hp
  clear hp h hG
  go_enter Try.func14, Try.ntmps14
  go_wp2_with (go_at_call 16; refine HP.out.mono ?_; rintro e w' ⟨v, told, rfl, ho, hu, hm, hi, hf⟩)
  go_ret2
  exact ⟨v, told, rfl, ho, hu, hm, hi, hf⟩

/-- 'done': an act. -/
def actD (dd : Int) (l : List Str) : List Str := if dd = 0 then [] else l

theorem done_step (X be bd bm bc N : Nat) (st : St) (dd n : Int) (hn1 : n ≤ 9223372036854775807) (A1 A2 : Option Addr) (cap1 cap2 : Nat) (ds ms : List Str) (w : World) (h : Idx G w X be bd bm bc N st)
    (hr1 : Reads w w.heap.size 1 A1 ds.length (ds.map encStr)) (hr2 : Reads w w.heap.size 1 A2 ms.length (ms.map encStr)) (hs1 : ∀ s ∈ ds, s.length ≤ maxLen) (hs2 : ∀ s ∈ ms, s.length ≤ maxLen)
    (hN : N ≤ 1073741824) (hl1 : ds.length ≤ 1073741824) (hl2 : ms.length ≤ 1073741824) (hG : ∀ b, G b → b < w.heap.size) :
    Calls Try.prog 11 #[.pointer (some ⟨X, 0, none⟩), .agg #[.int .i64 dd, .int .i64 n, .slice A1 ds.length cap1, .slice A2 ms.length cap2]] w (StepOut G w X be bd bm bc st (stepS st n (actD dd ds) (actD dd ms)) (errS n)) := by
  obtain ⟨W, hW⟩ : ∃ W, w.alloc (.cells #[.int .i64 dd, .int .i64 n, .slice A1 ds.length cap1, .slice A2 ms.length cap2] 33) = W := ⟨_, rfl⟩
  have f : Fr w W [] := by rw [← hW]; exact (Fr.refl' w).alloc _
  have hi := h.fr f (by simp)
  have k : ∀ i, W.cell? ⟨w.heap.size, i, none⟩ = #[Value.int .i64 dd, .int .i64 n, .slice A1 ds.length cap1, .slice A2 ms.length cap2][i]? := fun i => by rw [← hW]; exact World.cell?_alloc_new _ _ _ _
  have k0 := k 0
  have k1 := k 1
  have k2 := k 2
  have k3 := k 3
  have hput := put_step X be bd bm bc N st n hn1 A1 A2 cap1 cap2 ds ms W hi (f.reads hr1) (f.reads hr2) hs1 hs2 hN hl1 hl2 (fun b hb => Nat.lt_of_lt_of_le (hG b hb) f.size)
  have hdrop := drop_step X be bd bm bc N st n hn1 W hi hN (fun b hb => Nat.lt_of_lt_of_le (hG b hb) f.size)
  have hout : ∀ {st' err e w'}, StepOut G W X be bd bm bc st st' err e w' → StepOut G w X be bd bm bc st st' err e w' := fun {st' err e w'} ⟨v, told, he, ho, hu, hm, hi', hf⟩ =>
    ⟨v, told, he, ownsRow_base_a ho f.size, hu, hm, hi', (f.trans hf).strip (fun b hb _ => by simpa using hb) (fun b hb => by
      simp at hb
      rcases hb with rfl | rfl | rfl | rfl
      · exact h.ent.choose_spec.1.isMapBlock intK
      · exact h.def_.isMapBlock saidK
      · exact h.men.isMapBlock saidK
      · exact h.cnt.isMapBlock strK)⟩
  have HP := Lib.hid hput
  have HD := Lib.hid hdrop
  have HO : Hid (∀ {st' err e w'}, StepOut G W X be bd bm bc st st' err e w' → StepOut G w X be bd bm bc st st' err e w') := @hout
  by_cases h0 : dd = 0
  · subst h0
    have e1 : (stepS st n (actD 0 ds) (actD 0 ms)) = stepS st n [] [] := by simp [actD]
    rw [e1]
    clear hput hdrop hout k hr1 hr2 h hi f hG e1
    go_enter Try.func11, Try.ntmps11
    go_wp2_with (go_at_call 14; refine HD.out.mono ?_; rintro e w' ⟨v, told, rfl, ho, hu, hm, hi, hf⟩)
    go_ret2
    exact HO.out ⟨v, told, rfl, ho, hu, hm, hi, hf⟩
  · have e1 : (stepS st n (actD dd ds) (actD dd ms)) = stepS st n ds ms := by simp [actD, h0]
    rw [e1]
    have hb : (dd == 0) = false := by simpa using h0
    clear hput hdrop hout k hr1 hr2 h hi f hG e1 h0
    go_enter Try.func11, Try.ntmps11
    go_wp2_with (go_at_call 16; refine HP.out.mono ?_; rintro e w' ⟨v, told, rfl, ho, hu, hm, hi, hf⟩)
    go_ret2
    exact HO.out ⟨v, told, rfl, ho, hu, hm, hi, hf⟩

end Go.Proofs.Ytkjmknmcbkofbaa
