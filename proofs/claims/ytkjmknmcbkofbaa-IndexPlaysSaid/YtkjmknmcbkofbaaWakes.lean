/-
  'wakes': the known index answers as it should.
  Its conditions: none.
-/
import Derived.Test.YtkjmknmcbkofbaaRef
namespace Go.Proofs.Ytkjmknmcbkofbaa
set_option linter.unusedVariables false
set_option linter.unusedSimpArgs false
open Go Go.Proofs Go.RowKit Go.Maps Go.Sort Go.Shelf

theorem up_one (a : Str) : Up [a] := List.pairwise_singleton _ _
theorem riseL_up {l : List Str} (h : Up l) : riseL l = l := Up.ext (up_riseL l) h (fun _ => mem_riseL)
theorem up_ab : Up [[97], [98]] := by
  unfold Up
  simp only [List.pairwise_cons, List.mem_singleton, forall_eq, List.not_mem_nil, false_implies, implies_true, List.Pairwise.nil, and_true]
  decide

def st1 : St := [⟨1, [[97]], [[98]]⟩]
def st2 : St := [⟨2, [[97], [98]], []⟩, ⟨1, [[97]], [[98]]⟩]

theorem step1 : stepS [] 1 [[97]] [[98]] = st1 := by
  unfold stepS
  rw [if_neg (by decide), riseL_up (up_one _), riseL_up (up_one _)]
  rfl
theorem step2 : stepS st1 2 [[97], [98]] [] = st2 := by
  unfold stepS
  rw [if_neg (by decide), riseL_up up_ab, riseL_nil]
  rfl

theorem cnt1 (s : Str) : cnt st1 s = if s = [97] then 1 else 0 := by
  unfold cnt st1
  by_cases h : s = [97] <;> simp [h]
theorem cnt2 (s : Str) : cnt st2 s = (if s = [97] ∨ s = [98] then 1 else 0) + (if s = [97] then 1 else 0) := by
  unfold cnt st2
  by_cases h : s = [97]
  · subst h; decide
  · by_cases h2 : s = [98] <;> simp [h, h2]
theorem told1 {told : List Str} (hu : Up told) (hm : ∀ s, s ∈ told ↔ differ [] st1 s = true) : told = [[97]] := by
  refine Up.ext hu (up_one _) (fun s => ?_)
  rw [hm s]
  unfold differ
  rw [cnt1]
  by_cases h : s = [97] <;> simp [h, cnt]
theorem told2 {told : List Str} (hu : Up told) (hm : ∀ s, s ∈ told ↔ differ st1 st2 s = true) : told = [[98]] := by
  refine Up.ext hu (up_one _) (fun s => ?_)
  rw [hm s]
  unfold differ
  rw [cnt1, cnt2]
  by_cases h : s = [97]
  · subst h; decide
  · by_cases h2 : s = [98] <;> simp [h, h2]
theorem who2 : who st2 [98] = [1] := by
  unfold who
  have : whoL st2 [98] = [1] := by decide
  rw [this]
  simp

theorem reads_one (w : World) (u : Value) : Reads (w.alloc (.cells #[u] 9)) (w.alloc (.cells #[u] 9)).heap.size 1 (some ⟨w.heap.size, 0, none⟩) 1 [u] :=
  ⟨rfl, fun _ => ⟨_, rfl, by simp, cell_one_new w u 9⟩⟩

theorem reads_two (w : World) (u v : Value) : Reads (w.alloc (.cells #[u, v] 9)) (w.alloc (.cells #[u, v] 9)).heap.size 1 (some ⟨w.heap.size, 0, none⟩) 2 [u, v] :=
  ⟨rfl, fun _ => ⟨_, rfl, by simp, fun j x hx => by
    match j, hx with
    | 0, hx => have := World.cell?_alloc_new w #[u, v] 9 0; simpa [Addr.add] using this.trans hx
    | 1, hx => have := World.cell?_alloc_new w #[u, v] 9 1; simpa [Addr.add] using this.trans hx⟩⟩
theorem reads_int (w : World) (u : Value) : Reads (w.alloc (.cells #[u] 3)) (w.alloc (.cells #[u] 3)).heap.size 1 (some ⟨w.heap.size, 0, none⟩) 1 [u] :=
  ⟨rfl, fun _ => ⟨_, rfl, by simp, cell_one_new w u 3⟩⟩

theorem put1_call (X be bd bm bc : Nat) (w1 : World) (hi : Idx (fun _ => False) w1 X be bd bm bc 0 []) :
    Calls Try.prog 16 #[.pointer (some ⟨X, 0, none⟩), .int .i64 1, .slice (some ⟨w1.heap.size, 0, none⟩) 1 1, .slice (some ⟨w1.heap.size + 1, 0, none⟩) 1 1]
      ((w1.alloc (.cells #[.string ⟨#[97]⟩] 9)).alloc (.cells #[.string ⟨#[98]⟩] 9)) (StepOut (fun _ => False) ((w1.alloc (.cells #[.string ⟨#[97]⟩] 9)).alloc (.cells #[.string ⟨#[98]⟩] 9)) X be bd bm bc [] st1 0) := by
  have r1 := ((Fr.refl' _).alloc (.cells #[Value.string ⟨#[98]⟩] 9)).reads (reads_one w1 (.string ⟨#[97]⟩))
  have r2 := reads_one (w1.alloc (.cells #[.string ⟨#[97]⟩] 9)) (.string ⟨#[98]⟩)
  rw [World.size_alloc w1] at r2
  have := put_step X be bd bm bc 0 [] 1 (by omega) _ _ 1 1 [[97]] [[98]] _ (hi.fr (((Fr.refl' w1).alloc (.cells #[.string ⟨#[97]⟩] 9)).alloc (.cells #[.string ⟨#[98]⟩] 9)) (by simp)) r1 r2 (by simp [maxLen]) (by simp [maxLen]) (by omega) (by simp) (by simp) (fun b h => h.elim)
  rw [step1] at this
  exact this

theorem put2_call (X be bd bm bc N : Nat) (w1 : World) (hi : Idx (fun _ => False) w1 X be bd bm bc N st1) (hN : N ≤ 1073741824) :
    Calls Try.prog 16 #[.pointer (some ⟨X, 0, none⟩), .int .i64 2, .slice (some ⟨w1.heap.size, 0, none⟩) 2 2, .slice none 0 0]
      (w1.alloc (.cells #[.string ⟨#[97]⟩, .string ⟨#[98]⟩] 9)) (StepOut (fun _ => False) (w1.alloc (.cells #[.string ⟨#[97]⟩, .string ⟨#[98]⟩] 9)) X be bd bm bc st1 st2 0) := by
  have r1 := reads_two w1 (.string ⟨#[97]⟩) (.string ⟨#[98]⟩)
  have := put_step X be bd bm bc N st1 2 (by omega) _ none 2 0 [[97], [98]] [] _ (hi.fr ((Fr.refl' w1).alloc (.cells #[.string ⟨#[97]⟩, .string ⟨#[98]⟩] 9)) (by simp)) r1 Reads.none_ (by simp [maxLen]) (by simp) hN (by simp) (by simp) (fun b h => h.elim)
  rw [step2] at this
  exact this

theorem same_call (A : Option Addr) (cap : Nat) (s : Str) (w : World) (u : Value) (hu : u = encStr s) (hr : Reads w w.heap.size 1 A 1 [u]) :
    Calls Try.prog 17 #[.slice A 1 cap, .slice (some ⟨w.heap.size, 0, none⟩) 1 1] (w.alloc (.cells #[u] 9)) (SameOut (w.alloc (.cells #[u] 9)) true) := by
  subst hu
  have := same_any A (some ⟨w.heap.size, 0, none⟩) cap 1 [s] [s] (w.alloc (.cells #[encStr s] 9)) (((Fr.refl' w).alloc _).reads hr) (reads_one w _) (by simp) (by simp)
  simpa using this
theorem ints_call (A : Option Addr) (cap : Nat) (n : Int) (w : World) (hr : Reads w w.heap.size 1 A 1 [.int .i64 n]) :
    Calls Try.prog 22 #[.slice A 1 cap, .slice (some ⟨w.heap.size, 0, none⟩) 1 1] (w.alloc (.cells #[.int .i64 n] 3)) (SameOut (w.alloc (.cells #[.int .i64 n] 3)) true) := by
  have := ints_any A (some ⟨w.heap.size, 0, none⟩) cap 1 [n] [n] (w.alloc (.cells #[.int .i64 n] 3)) (((Fr.refl' w).alloc _).reads hr) (reads_int w _) (by simp) (by simp)
  simpa using this

def WakesOut (w : World) (e : Ending) (w' : World) : Prop := e = .returned (.bool true) ∧ Below w.heap.size w w'

set_option maxRecDepth 100000 in
set_option maxHeartbeats 2000000 in
theorem wakes_any (w : World) : Calls Try.prog 8 #[] w (WakesOut w) := by
  go_enter Try.func8, Try.ntmps8
  go_wp2_with fail
  refine (new_any (G := fun _ => False) w).mono ?_
  rintro e w1 ⟨X, be, bd, bm, bc, rfl, b1, b2, b3, b4, hi1, hb1⟩
  have HB1 := Lib.hid hb1
  have P1 := put1_call X be bd bm bc w1 hi1
  clear hb1 hi1
  go_wp2_with fail
  refine P1.mono ?_
  rintro e w2 ⟨v1, t1, rfl, ho1, hu1, hm1, hi2, hf2⟩
  obtain rfl := told1 hu1 hm1
  obtain ⟨A1, c1, rfl, hr1⟩ := RowOf.own ho1
  have P2 := put2_call X be bd bm bc _ w2 hi2 (by decide)
  have HF2 := Lib.hid hf2
  have HR1 := Lib.hid hr1
  clear P1 ho1 hu1 hm1 hi2 hf2 hr1
  go_wp2_with fail
  refine P2.mono ?_
  rintro e w3 ⟨v2, t2, rfl, ho2, hu2, hm2, hi3, hf3⟩
  obtain rfl := told2 hu2 hm2
  obtain ⟨A2, c2, rfl, hr2⟩ := RowOf.own ho2
  have fA := ((Fr.refl' w2).alloc (.cells #[.string ⟨#[97]⟩, .string ⟨#[98]⟩] 9)).trans hf3
  have HFA := Lib.hid fA
  have HR2 := Lib.hid hr2
  have S1 := same_call A1 c1 [97] w3 (.string ⟨#[97]⟩) rfl (fA.reads HR1.out)
  have HI3 := Lib.hid hi3
  clear P2 ho2 hu2 hm2 hi3 hf3 hr2 fA
  go_wp2_with fail
  refine S1.mono ?_
  rintro e w4 ⟨rfl, q4, hq4⟩
  have f4 : Fr w3 w4 [] := by rw [hq4]; exact ((Fr.refl' w3).alloc _).drewN _
  have HF4 := Lib.hid f4
  have S2 := same_call A2 c2 [98] w4 (.string ⟨#[98]⟩) rfl (f4.reads HR2.out)
  clear S1 hq4 f4
  go_wp2_with fail
  refine S2.mono ?_
  rintro e w5 ⟨rfl, q5, hq5⟩
  have f5 : Fr w3 w5 [] := by rw [hq5]; exact HF4.out.trans (((Fr.refl' w4).alloc _).drewN _)
  have HF5 := Lib.hid f5
  have hi5 := HI3.out.fr f5 (by simp)
  have L1 : Calls Try.prog 25 #[.pointer (some ⟨X, 0, none⟩)] w5 fun e w' => e = .returned (.int .i64 2) ∧ w5 = w' := len_any X be bd bm bc _ st2 w5 hi5
  have D1 : Calls Try.prog 13 #[.pointer (some ⟨X, 0, none⟩), .string ⟨#[97]⟩] w5 fun e w' => e = .returned (.int .i64 2) ∧ w5 = w' := by
    have := defined_any X be bd bm bc _ st2 [97] (by simp [maxLen]) w5 hi5
    rw [show cnt st2 [97] = 2 by decide] at this
    exact this
  have W1 : Calls Try.prog 23 #[.pointer (some ⟨X, 0, none⟩), .string ⟨#[98]⟩] w5 (IntsOut w5 [1]) := by
    have := who_any X be bd bm bc _ st2 [98] (by simp [maxLen]) w5 hi5 (by decide)
    rw [who2] at this
    exact this
  clear S2 hq5 f5 hi5
  go_wp2_with fail
  refine L1.mono ?_
  rintro e w6 ⟨rfl, rfl⟩
  clear L1
  go_wp2_with fail
  refine D1.mono ?_
  rintro e w6 ⟨rfl, rfl⟩
  clear D1
  go_wp2_with fail
  refine W1.mono ?_
  rintro e w6 ⟨v6, rfl, ho6, hb6⟩
  obtain ⟨A6, c6, rfl, hr6⟩ : ∃ A6 c6, v6 = .slice A6 1 c6 ∧ Reads w6 w6.heap.size 1 A6 1 [.int .i64 1] := by
    have h2 := ho6
    rcases ho6.2 with ⟨rfl, h0⟩ | ⟨g, cap, cur, rfl, _⟩
    · simp at h0
    · exact ⟨_, cap, rfl, Reads.of_own h2⟩
  have I1 := ints_call A6 c6 1 w6 hr6
  have HB6 := Lib.hid hb6
  clear W1 ho6 hr6 hb6
  go_wp2_with fail
  refine I1.mono ?_
  rintro e w7 ⟨rfl, q7, hq7⟩
  have f7 : Fr w w7 [] := by
    have fa : Fr w6 w7 [] := by rw [hq7]; exact ((Fr.refl' w6).alloc _).drewN _
    have fb : Fr w w2 _ := (Fr.of_below HB1.out).trans ((((Fr.refl' w1).alloc _).alloc _).trans HF2.out)
    have fc := ((fb.trans HFA.out).trans HF5.out).trans ((Fr.of_below HB6.out).trans fa)
    exact fc.strip (fun b hb hlt => by simp at hb; omega) (by simp)
  have HF7 := Lib.hid f7
  clear hq7 f7 I1
  go_wp2_with fail
  go_ret
  exact ⟨rfl, HF7.out.below⟩

end Go.Proofs.Ytkjmknmcbkofbaa
