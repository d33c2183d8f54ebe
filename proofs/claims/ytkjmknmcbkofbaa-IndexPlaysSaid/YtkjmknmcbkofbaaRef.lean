/-
  The small functions of the reference that only look at lists: Within, Same, Ints.
  Its conditions: as each theorem states them.
-/
import Derived.Test.YtkjmknmcbkofbaaAct
namespace Go.Proofs.Ytkjmknmcbkofbaa
set_option linter.unusedVariables false
set_option linter.unusedSimpArgs false
open Go Go.Proofs Go.RowKit Go.Maps Go.Sort Go.Shelf

theorem drewN_zero (w : World) : w.drewN 0 = w := rfl

set_option maxRecDepth 100000 in
theorem within_any (s : Str) (A : Option Addr) (cap : Nat) (l : List Str) (w : World) (hr : Reads w w.heap.size 1 A l.length (l.map encStr)) (hl : l.length ≤ 1099511627776) :
    Calls Try.prog 12 #[encStr s, .slice A l.length cap] w fun e w' => e = .returned (.bool (decide (s ∈ l))) ∧ w' = w := by
  go_enter Try.func12, Try.ntmps12
  go_wp2
  go_loop [5] (fun i => ∃ k : Nat, k ≤ l.length ∧ i = .int .i64 k ∧ s ∉ l.take k) (fun i => l.length - (intOf i).toNat)
  case atStart => exact ⟨0, Nat.zero_le _, rfl, by simp⟩
  case round =>
    obtain ⟨k, hk, rfl, hno⟩ := hrel
    have HN := Lib.hid hno
    clear hno
    by_cases hlt : k < l.length
    · obtain ⟨ad, rfl, hab, hcell⟩ := hr.one hlt rfl
      have hmem : l[k] ∈ l := List.getElem_mem hlt
      have hnext := mem_take_next hlt s
      obtain ⟨x, hx⟩ : ∃ x, x = l[k] := ⟨_, rfl⟩
      rw [← hx] at hcell hmem hnext
      have HNX := Lib.hid hnext
      have HM := Lib.hid hmem
      clear hnext hmem hx hr
      by_cases e : x = s
      · subst e
        have e1 : (x == x) = true := by simp
        have hfin : decide (x ∈ l) = true := by simpa using HM.out
        have HF := Lib.hid hfin
        clear hfin
        go_wp2
        go_ret
        exact ⟨(by (rw [HF.out]); try rfl), rfl⟩
      · have e1 : (x == s) = false := by simpa using e
        have hno2 : s ∉ l.take (k + 1) := fun h => by
          rcases HNX.out.1 h with h1 | h1
          · exact HN.out h1
          · exact e h1.symm
        have HN2 := Lib.hid hno2
        clear hno2 e
        go_wp2
        go_round
        case rel => exact ⟨k + 1, by omega, by go_num, HN2.out⟩
        case measure => simp [intOf]; omega
    · obtain rfl : k = l.length := by omega
      have hfin : decide (s ∈ l) = false := by have := HN.out; rw [List.take_length] at this; simpa using this
      have HF := Lib.hid hfin
      clear hfin hr
      go_wp2
      go_ret
      exact ⟨(by (rw [HF.out]); try rfl), rfl⟩

def SameOut (w : World) (b : Bool) (e : Ending) (w' : World) : Prop := e = .returned (.bool b) ∧ ∃ q, w' = w.drewN q

set_option maxRecDepth 100000 in
theorem same_any (A1 A2 : Option Addr) (cap1 cap2 : Nat) (l m : List Str) (w : World) (hr1 : Reads w w.heap.size 1 A1 l.length (l.map encStr)) (hr2 : Reads w w.heap.size 1 A2 m.length (m.map encStr)) (hl : l.length ≤ 1099511627776) (hm : m.length ≤ 1099511627776) :
    Calls Try.prog 17 #[.slice A1 l.length cap1, .slice A2 m.length cap2] w (SameOut w (decide (l = m))) := by
  by_cases hlen : l.length = m.length
  · have h1 : ((l.length : Int) != (m.length : Int)) = false := by simp [hlen]
    have h2 : (l.length != m.length) = false := by simp [hlen]
    have h3 : (l.length == m.length) = true := by simp [hlen]
    have HLEN := Lib.hid hlen
    have hle : m.length ≤ l.length := by omega
    have hle2 : l.length ≤ m.length := by omega
    clear hlen
    go_enter Try.func17, Try.ntmps17
    go_wp2
    go_loopw [5] (fun i wr => ∃ k q : Nat, k ≤ l.length ∧ i = .int .i64 k ∧ wr = w.drewN q ∧ l.take k = m.take k) (fun i _ => l.length - (intOf i).toNat)
    case atStart => exact ⟨0, 0, Nat.zero_le _, rfl, rfl, by simp⟩
    case round =>
      obtain ⟨k, q, hk, rfl, rfl, hno⟩ := hrel
      have HN := Lib.hid hno
      clear hno
      by_cases hlt : k < l.length
      · obtain ⟨ad, rfl, hab, hcell⟩ := hr1.one hlt rfl
        obtain ⟨ad2, rfl, hab2, hcell2⟩ := hr2.one (k := k) (by omega) rfl
        have t1 := List.take_succ_eq_append_getElem hlt
        have t2 := List.take_succ_eq_append_getElem (l := m) (i := k) (by omega)
        obtain ⟨x, hx⟩ : ∃ x, x = l[k] := ⟨_, rfl⟩
        obtain ⟨y, hy⟩ : ∃ y, y = m[k]'(by omega) := ⟨_, rfl⟩
        rw [← hx] at hcell t1
        rw [← hy] at hcell2 t2
        have T1 := Lib.hid t1
        have T2 := Lib.hid t2
        clear t1 t2 hx hy hr1 hr2
        by_cases e : x = y
        · subst e
          have e1 : (x != x) = false := by simp
          have e2 : (x == x) = true := by simp
          have hn2 : l.take (k + 1) = m.take (k + 1) := by rw [T1.out, T2.out, HN.out]
          have HN2 := Lib.hid hn2
          clear hn2
          go_wp2
          go_quiet (fail)
          go_wp2
          go_roundw
          case rel => exact ⟨k + 1, _, by omega, by go_num, rfl, HN2.out⟩
          case measure => simp [intOf]; omega
        · have e1 : (x != y) = true := by simpa using e
          have e2 : (x == y) = false := by simpa using e
          have hfin : decide (l = m) = false := by
            simp only [decide_eq_false_iff_not]
            intro h
            have h5 : l.take (k + 1) = m.take (k + 1) := by rw [h]
            rw [T1.out, T2.out, HN.out] at h5
            exact e (by simpa using h5)
          have HF := Lib.hid hfin
          clear hfin e
          go_wp2
          go_quiet (fail)
          go_wp2
          go_ret
          exact ⟨(by (rw [HF.out]); try rfl), _, World.drewN_drewN _ _ _⟩
      · obtain rfl : k = l.length := by omega
        have hfin : decide (l = m) = true := by
          have := HN.out
          rw [List.take_length, List.take_of_length_le (by omega)] at this
          simpa using this
        have HF := Lib.hid hfin
        clear hfin hr1 hr2
        go_wp2
        go_ret
        exact ⟨(by (rw [HF.out]); try rfl), _, rfl⟩
  · have h1 : ((l.length : Int) != (m.length : Int)) = true := by simp; omega
    have h2 : (l.length != m.length) = true := by simpa using hlen
    have hfin : decide (l = m) = false := by simp only [decide_eq_false_iff_not]; intro h; exact hlen (by rw [h])
    have HF := Lib.hid hfin
    clear hfin hlen hr1 hr2
    go_enter Try.func17, Try.ntmps17
    go_wp2
    go_ret
    exact ⟨(by (rw [HF.out]); try rfl), 0, rfl⟩

theorem Reads.oneI {w : World} {B n k : Nat} {A : Option Addr} {ss : List Int} (h : Reads w B 1 A n (ss.map (Value.int .i64))) (hk : k < ss.length) (hn : ss.length = n) : ∃ ad, A = some ad ∧ ad.block < B ∧ w.cell? (ad.add k) = some (.int .i64 ss[k]) := by
  obtain ⟨ad, u, e, hb, hu, hc⟩ := h.at_ (k := k) (by omega)
  refine ⟨ad, e, hb, ?_⟩
  rw [List.getElem?_map, List.getElem?_eq_getElem hk] at hu
  rw [hc, ← hu]; rfl

set_option maxRecDepth 100000 in
theorem ints_any (A1 A2 : Option Addr) (cap1 cap2 : Nat) (l m : List Int) (w : World) (hr1 : Reads w w.heap.size 1 A1 l.length (l.map (Value.int .i64))) (hr2 : Reads w w.heap.size 1 A2 m.length (m.map (Value.int .i64))) (hl : l.length ≤ 1099511627776) (hm : m.length ≤ 1099511627776) :
    Calls Try.prog 22 #[.slice A1 l.length cap1, .slice A2 m.length cap2] w (SameOut w (decide (l = m))) := by
  by_cases hlen : l.length = m.length
  · have h1 : ((l.length : Int) != (m.length : Int)) = false := by simp [hlen]
    have h2 : (l.length != m.length) = false := by simp [hlen]
    have h3 : (l.length == m.length) = true := by simp [hlen]
    have HLEN := Lib.hid hlen
    have hle : m.length ≤ l.length := by omega
    have hle2 : l.length ≤ m.length := by omega
    clear hlen
    go_enter Try.func22, Try.ntmps22
    go_wp2
    go_loopw [5] (fun i wr => ∃ k q : Nat, k ≤ l.length ∧ i = .int .i64 k ∧ wr = w.drewN q ∧ l.take k = m.take k) (fun i _ => l.length - (intOf i).toNat)
    case atStart => exact ⟨0, 0, Nat.zero_le _, rfl, rfl, by simp⟩
    case round =>
      obtain ⟨k, q, hk, rfl, rfl, hno⟩ := hrel
      have HN := Lib.hid hno
      clear hno
      by_cases hlt : k < l.length
      · obtain ⟨ad, rfl, hab, hcell⟩ := hr1.oneI hlt rfl
        obtain ⟨ad2, rfl, hab2, hcell2⟩ := hr2.oneI (k := k) (by omega) rfl
        have t1 := List.take_succ_eq_append_getElem hlt
        have t2 := List.take_succ_eq_append_getElem (l := m) (i := k) (by omega)
        obtain ⟨x, hx⟩ : ∃ x, x = l[k] := ⟨_, rfl⟩
        obtain ⟨y, hy⟩ : ∃ y, y = m[k]'(by omega) := ⟨_, rfl⟩
        rw [← hx] at hcell t1
        rw [← hy] at hcell2 t2
        have T1 := Lib.hid t1
        have T2 := Lib.hid t2
        clear t1 t2 hx hy hr1 hr2
        by_cases e : x = y
        · subst e
          have e1 : (x != x) = false := by simp
          have e2 : (x == x) = true := by simp
          have hn2 : l.take (k + 1) = m.take (k + 1) := by rw [T1.out, T2.out, HN.out]
          have HN2 := Lib.hid hn2
          clear hn2
          go_wp2
          go_quiet (fail)
          go_wp2
          go_roundw
          case rel => exact ⟨k + 1, _, by omega, by go_num, rfl, HN2.out⟩
          case measure => simp [intOf]; omega
        · have e1 : (x != y) = true := by simpa using e
          have e2 : (x == y) = false := by simpa using e
          have hfin : decide (l = m) = false := by
            simp only [decide_eq_false_iff_not]
            intro h
            have h5 : l.take (k + 1) = m.take (k + 1) := by rw [h]
            rw [T1.out, T2.out, HN.out] at h5
            exact e (by simpa using h5)
          have HF := Lib.hid hfin
          clear hfin e
          go_wp2
          go_quiet (fail)
          go_wp2
          go_ret
          exact ⟨(by (rw [HF.out]); try rfl), _, World.drewN_drewN _ _ _⟩
      · obtain rfl : k = l.length := by omega
        have hfin : decide (l = m) = true := by
          have := HN.out
          rw [List.take_length, List.take_of_length_le (by omega)] at this
          simpa using this
        have HF := Lib.hid hfin
        clear hfin hr1 hr2
        go_wp2
        go_ret
        exact ⟨(by (rw [HF.out]); try rfl), _, rfl⟩
  · have h1 : ((l.length : Int) != (m.length : Int)) = true := by simp; omega
    have h2 : (l.length != m.length) = true := by simpa using hlen
    have hfin : decide (l = m) = false := by simp only [decide_eq_false_iff_not]; intro h; exact hlen (by rw [h])
    have HF := Lib.hid hfin
    clear hfin hlen hr1 hr2
    go_enter Try.func22, Try.ntmps22
    go_wp2
    go_ret
    exact ⟨(by (rw [HF.out]); try rfl), 0, rfl⟩

end Go.Proofs.Ytkjmknmcbkofbaa
