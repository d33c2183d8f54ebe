/-
  index.rise: the labels sorted, each once, in a new slice.
  Its conditions: the slice reads as a list of strings; at most 2^40 of them.
-/
import Derived.Test.YtkjmknmcbkofbaaVals
import Derived.Test.YtkjmknmcbkofbaaPure
import Derived.Test.YtkjmknmcbkofbaaShelf
namespace Go.Proofs.Ytkjmknmcbkofbaa
set_option linter.unusedVariables false
set_option linter.unusedSimpArgs false
open Go Go.Proofs Go.RowKit Go.Maps Go.Sort Go.Shelf

/-- slices.Sort's two contracts at this program, at the fence that asks nothing. -/
theorem sortsA (m : Nat) : AnyZ.SortsIn Try.prog Try.sortedA_ren Fence.wide m :=
  ⟨fun blk off cap ss W hH hblk hsz => callsIn_wide.2 (AnyM.slices_Sort_string Try.sortA blk off cap ss W hH hblk hsz),
   fun p cap W => callsIn_wide.2 (AnyM.slices_Sort_string_none Try.sortA p cap W)⟩

/-- What rise hands back. -/
def RiseOut (w : World) (ss : List Str) (e : Ending) (w' : World) : Prop :=
  ∃ v, e = .returned v ∧ w'.ownsRow w.heap.size 9 1 v (riseL ss).length ((riseL ss).map encStr) ∧ (v = .slice none 0 0 ↔ riseL ss = []) ∧ Below w.heap.size w w'

theorem ownsRow_cut {w : World} {base g n k cap : Nat} {e : TypeId} {xs : List Value} (h : w.ownsRow base e 1 (.slice (some ⟨g, 0, none⟩) n cap) n xs) (hk : k ≤ n) :
    w.ownsRow base e 1 (.slice (some ⟨g, 0, none⟩) k cap) k (xs.take k) := by
  obtain ⟨h1, h2⟩ := h
  rcases h2 with ⟨e1, _⟩ | ⟨g', cap', cur, hv, hb, hh, hnc, hcm, hcs, htk⟩
  · cases e1
  · injection hv with hg hn hc
    injection hg with hg
    injection hg with hg
    subst hg hc
    refine ⟨by rw [List.length_take]; omega, .inr ⟨g, cap, cur, rfl, hb, hh, by omega, hcm, hcs, ?_⟩⟩
    rw [← htk, List.take_take]
    congr 1
    omega

set_option maxHeartbeats 1000000 in
theorem rise_any (A : Option Addr) (cap : Nat) (ss : List Str) (w : World) (hr : Reads w w.heap.size 1 A ss.length (ss.map encStr)) (hlen : ss.length ≤ 1099511627776) :
    Calls Try.prog 30 #[.slice A ss.length cap] w (RiseOut w ss) := by
  refine (callsIn_wide (n := 8)).1 ?_
  have hseq := values_gives Fence.wide 4 trivial rfl (by omega) A cap ss (by omega) w hr
  have cS := sortedB_in Try.sortedA Fence.wide 7 trivial trivial trivial trivial rfl (by omega) (sortsA _) (enters_of Try.func33 (by kernel_rfl) rfl) 41 #[.pointer (some ⟨w.heap.size, 0, none⟩)] trivial (enters_of Try.func41 (by kernel_rfl) rfl) _ _ (by unfold maxLen; omega) (by omega) _ (fun xs e => by rw [e]; exact Nat.le_refl _) hseq
  change CallsIn _ _ Try.prog 26 _ _ _ at cS
  have cV := values_in Fence.wide 7 trivial rfl A ss.length cap w
  have hfV : Fence.wide.fn 36 := trivial
  have hfS : Fence.wide.fn 26 := trivial
  have hfC : Fence.wide.fn 35 := trivial
  refine callsIn_of_wp Try.func30 rfl trivial ?_ rfl
  simp only [Try.ntmps30, List.size_toArray, List.length_cons, List.length_nil, Nat.reduceAdd, Nat.reduceSub, Array.replicate_succ, Array.replicate_zero, List.push_toArray, List.append_toArray, List.nil_append, List.cons_append]
  gi_wp2_with (first
    | (gi_at_call 36; refine cV.mono ?_; rintro e w' ⟨rfl, rfl⟩)
    | (gi_at_call 26; refine cS.mono ?_; rintro e w1 ⟨v, xs, rfl, rfl, hrow, hnil, hb⟩))
  rcases hrow.2 with ⟨rfl, hz⟩ | ⟨gb, cap1, cur, rfl, hbase, hgb, r1, r2, r3, r4⟩
  · have hss : xs = [] := List.eq_nil_of_length_eq_zero hz
    subst hss
    have hfin : RiseOut w [] (.returned (.slice none 0 0)) w1 := ⟨_, rfl, by rw [riseL_nil]; exact World.ownsRow_nil _ _ _ _, by simp [riseL_nil], ((Below.refl _ w).alloc (Nat.le_refl _) _).trans (hb.mono (by simp))⟩
    have HF := Lib.hid hfin
    clear hfin hb hrow hnil
    gi_wp2_with (gi_at_call 35; refine (callsIn_wide.2 (Any.slices_Compact_string_empty Try.lays194 none 0 w1)).mono ?_; rintro e w' ⟨rfl, rfl⟩)
    go_ret
    exact HF.out
  · have hne : riseL xs ≠ [] := fun e => by
      have := hnil.2 (riseL_eq_nil.1 e)
      cases this
    obtain ⟨zs, hzs⟩ : ∃ zs, zs = xs.mergeSort leB := ⟨_, rfl⟩
    have hzl : zs.length = xs.length := by rw [hzs]; simp
    have hH : Holds encStr w1 gb 0 zs.toArray := holds_of_block hgb (by rw [hzl, hzs]; simpa using r4)
    have hcl : (Lib.compact zs).length ≤ zs.length := by rw [hzs]; exact Nat.le_trans (length_riseL xs) (by simp)
    have hfin : ∀ q, RiseOut w xs (.returned (.slice (some ⟨gb, 0, none⟩) (Lib.compact zs).length cap1)) (putRow encStr (Sort.ahead w1 q) gb 0 (Lib.compact zs ++ List.replicate (xs.length - (Lib.compact zs).length) []).toArray) := fun q => by
      rw [← hzl]
      have h0 := ownsRow_sorted (n := q) (os := #[]) (ss := zs) (ts := Lib.compact zs ++ List.replicate (zs.length - (Lib.compact zs).length) []) (by simp; omega) hbase hgb (by omega) r2 r3
      have h1 := ownsRow_cut h0 (k := (Lib.compact zs).length) hcl
      rw [← List.map_take, List.take_left'  rfl] at h1
      refine ⟨_, rfl, ?_, ⟨(fun e => by cases e), fun e => absurd e hne⟩, ?_⟩
      · have hc : riseL xs = Lib.compact zs := by rw [hzs]; rfl
        rw [hc]
        exact ownsRow_base_a h1 (by simp)
      · exact (((Below.refl _ w).alloc (Nat.le_refl _) _).trans (hb.mono (by simp))).grown (grownBy_sorted (n := q) (os := #[]) _) (by have := hb.size; simp at this; omega) (fun k e => by cases e; simp at hbase; omega)
    have cC := (callsIn_wide (n := 7)).2 (Any.slices_Compact_string Try.lays194 gb 0 cap1 zs w1 hH (by omega) (by omega))
    rw [hzl] at cC
    change CallsIn _ _ Try.prog 35 _ _ _ at cC
    have HF := Lib.hid hfin
    clear hfin hb hrow hnil hcl hH hzl hzs hne r1 r2 r3 r4 hgb hbase
    gi_wp2_with (gi_at_call 35; refine cC.mono ?_; rintro e w' ⟨rfl, q, rfl⟩)
    go_ret
    exact HF.out q

end Go.Proofs.Ytkjmknmcbkofbaa
