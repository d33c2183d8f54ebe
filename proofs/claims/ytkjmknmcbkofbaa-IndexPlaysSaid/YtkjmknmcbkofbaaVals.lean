/-
  slices.Values at []string: its iterator gives the slice's strings in order.
  Its conditions: as each theorem states them.
-/
import Derived.Test.YtkjmknmcbkofbaaIter
import Derived.Test.YtkjmknmcbkofbaaWords
import Derived.Test.YtkjmknmcbkofbaaProg
import Derived.RangeFuncBox
import Derived.RangeFuncLeaves
import Derived.Shelf.Abstract
import Derived.WalkKit
import Derived.OwnWalkIn
import Derived.TacticsInMore
import Derived.LoopNIn
import Derived.LoopIn
import Derived.Lib.Hide
namespace Go.Proofs.Ytkjmknmcbkofbaa
set_option linter.unusedVariables false
set_option linter.unusedSimpArgs false
open Go Go.Proofs Go.RowKit Go.Shelf

attribute [local go_sem] Oper.semAt_some

set_option maxRecDepth 100000 in
set_option maxHeartbeats 2000000 in
theorem values1_in (F : Fence) (n : Nat) (h41 : F.fn 41) (hro : F.round = none) (hn : 1 ≤ n) (l Bs n₀ cap : Nat) (ad : Addr) (ss : List (List UInt8)) (hreach : ss.length ≤ 9223372036854775807) (w : World) (J : List (List UInt8) → World → Prop)
    (hJB : ∀ s W, J s W → Below n₀ w W)
    (hY : ∀ pre x W, J pre W → pre.length < ss.length → YieldAt F (n - 1) Try.prog l #[encStr x] W fun e W' => e = .returned (.bool true) ∧ J (pre ++ [x]) W' ∧ KeepsWalks W W')
    (W : World) (hB : Bs < n₀) (hBs : w.cell? ⟨Bs, 0, none⟩ = some (.slice (some ad) ss.length cap)) (hc : Reads w n₀ 1 (some ad) ss.length (ss.map encStr)) (h0 : J [] W) :
    CallsIn F n Try.prog 41 #[.func (.yield l) #[] #[], .pointer (some ⟨Bs, 0, none⟩)] W fun e W' => (∃ v, e = .returned v) ∧ J ss W' := by
  have hBW : W.cell? ⟨Bs, 0, none⟩ = some (.slice (some ad) ss.length cap) := ((hJB _ _ h0).cell (p := ⟨Bs, 0, none⟩) hB).trans hBs
  refine callsIn_of_wp Try.func41 rfl h41 ?_ hro
  simp only [Try.ntmps41, List.size_toArray, List.length_cons, List.length_nil, Nat.reduceAdd, Nat.reduceSub, Array.replicate_succ, Array.replicate_zero, List.push_toArray, List.append_toArray, List.nil_append, List.cons_append]
  gi_wp2
  gi_loopw [7] (fun i wr => ∃ k : Nat, k ≤ ss.length ∧ i = .int .i64 k ∧ J (ss.take k) wr)
    (fun i _ => ss.length - (intOf i).toNat)
  case atStart => exact ⟨0, Nat.zero_le _, rfl, h0⟩
  case round =>
    obtain ⟨k, hk, rfl, hJs⟩ := hrel
    by_cases hlt : k < ss.length
    · obtain ⟨ad', u, he, _, hu, hcell⟩ := (hc.below (hJB _ _ hJs)).at_ hlt
      obtain rfl : ad = ad' := by injection he
      have hu2 : u = encStr (ss[k]'hlt) := by simpa [List.getElem?_eq_getElem hlt] using hu.symm
      obtain ⟨x, hx⟩ : ∃ x, x = ss[k]'hlt := ⟨_, rfl⟩
      rw [hu2, ← hx] at hcell
      have HX : ss.take (k + 1) = ss.take k ++ [x] := by rw [hx, List.take_succ_eq_append_getElem hlt]
      have HXh := Lib.hid HX
      clear HX hu2 hu he hx
      obtain ⟨fn, tmps, assign, body, hy, hR⟩ := hY _ x wr hJs (by rw [List.length_take]; omega)
      gi_wp2
      refine hR.mono ?_
      rintro e W3 ⟨rfl, hJ3, hk3⟩
      gi_wp2
      go_roundw
      case rel => exact ⟨k + 1, by omega, by simp, by rw [HXh.out]; exact hJ3⟩
      case measure => simp [intOf]; omega
    · obtain rfl : k = ss.length := by omega
      gi_wp2
      go_end0
      exact ⟨⟨_, rfl⟩, by simpa using hJs⟩

set_option maxRecDepth 100000 in
set_option maxHeartbeats 1000000 in
theorem values1_nil_in (F : Fence) (n : Nat) (h41 : F.fn 41) (hro : F.round = none) (l Bs cap : Nat) (A : Option Addr) (J : List (List UInt8) → World → Prop) (W : World) (hBs : W.cell? ⟨Bs, 0, none⟩ = some (.slice A 0 cap)) (h0 : J [] W) :
    CallsIn F n Try.prog 41 #[.func (.yield l) #[] #[], .pointer (some ⟨Bs, 0, none⟩)] W fun e W' => (∃ v, e = .returned v) ∧ J [] W' := by
  refine callsIn_of_wp Try.func41 rfl h41 ?_ hro
  simp only [Try.ntmps41, List.size_toArray, List.length_cons, List.length_nil, Nat.reduceAdd, Nat.reduceSub, Array.replicate_succ, Array.replicate_zero, List.push_toArray, List.append_toArray, List.nil_append, List.cons_append]
  gi_wp2
  gi_loopw [7] (fun i wr => i = .int .i64 0 ∧ J [] wr) (fun _ _ => 0)
  case atStart => exact ⟨rfl, h0⟩
  case round =>
    obtain ⟨rfl, hJs⟩ := hrel
    gi_wp2
    go_end0
    exact ⟨⟨_, rfl⟩, hJs⟩

set_option maxHeartbeats 1000000 in
theorem values_in (F : Fence) (n : Nat) (h36 : F.fn 36) (hro : F.round = none) (a : Option Addr) (len cap : Nat) (w : World) :
    CallsIn F n Try.prog 36 #[.slice a len cap] w fun e w' => e = .returned (.func (.func 41) #[] #[.pointer (some ⟨w.heap.size, 0, none⟩)]) ∧ w' = w.alloc (.cells #[.slice a len cap] 27) := by
  refine callsIn_of_wp Try.func36 rfl h36 ?_ hro
  simp only [Try.ntmps36, List.size_toArray, List.length_cons, List.length_nil, Nat.reduceAdd, Nat.reduceSub, Array.replicate_succ, Array.replicate_zero, List.push_toArray, List.append_toArray, List.nil_append, List.cons_append]
  gi_wp2
  go_ret
  exact ⟨rfl, rfl⟩

/-- slices.Values(l) gives just the strings of l. -/
theorem values_gives (F : Fence) (n : Nat) (h41 : F.fn 41) (hro : F.round = none) (hn : 1 ≤ n) (A : Option Addr) (cap : Nat) (ss : List (List UInt8)) (hreach : ss.length ≤ 9223372036854775807) (w : World) (hc : Reads w w.heap.size 1 A ss.length (ss.map encStr)) :
    SeqGivesB F n Try.prog 41 #[.pointer (some ⟨w.heap.size, 0, none⟩)] encStr (fun xs => xs = ss) ss.length (w.alloc (.cells #[.slice A ss.length cap] 27)) := fun l J W hW hJB _ hY h0 => by
  have hcell : (w.alloc (.cells #[.slice A ss.length cap] 27)).cell? ⟨w.heap.size, 0, none⟩ = some (.slice A ss.length cap) := by simp [World.cell?_alloc_new]
  have hr : Reads (w.alloc (.cells #[.slice A ss.length cap] 27)) (w.alloc (.cells #[.slice A ss.length cap] 27)).heap.size 1 A ss.length (ss.map encStr) := (hc.alloc (Nat.le_refl _) _).more (by simp)
  by_cases h0l : ss = []
  · subst h0l
    have hc' := (hW.cell (p := ⟨w.heap.size, 0, none⟩) (by simp)).trans hcell
    exact (values1_nil_in F n h41 hro l w.heap.size cap A J W hc' h0).mono fun e W' ⟨he, hj⟩ => ⟨he, [], rfl, hj⟩
  · have hpos : 0 < ss.length := List.length_pos_iff.2 h0l
    obtain ⟨ad, rfl, hb, _⟩ := hr.2 hpos
    exact (values1_in F n h41 hro hn l w.heap.size (w.alloc (.cells #[.slice (some ad) ss.length cap] 27)).heap.size cap ad ss hreach _ J hJB hY W (by simp) hcell hr h0).mono fun e W' ⟨he, hj⟩ => ⟨he, ss, rfl, hj⟩

end Go.Proofs.Ytkjmknmcbkofbaa
