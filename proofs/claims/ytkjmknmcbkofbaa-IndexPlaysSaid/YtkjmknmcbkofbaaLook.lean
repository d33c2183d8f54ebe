/-
  The closure of Put that notes which labels were known.
  Its conditions: as each theorem states them.
-/
import Derived.Test.YtkjmknmcbkofbaaWho
namespace Go.Proofs.Ytkjmknmcbkofbaa
set_option linter.unusedVariables false
set_option linter.unusedSimpArgs false
open Go Go.Proofs Go.RowKit Go.Maps Go.Sort Go.Shelf
variable {G : Nat → Prop}

/-- What was noted: of the labels of S whether c is above 0. -/
def wasF (c : Str → Nat) (S : List Str) : Str → Option Value := fun s => if s ∈ S then some (.bool (decide (0 < c s))) else none

theorem wasF_in {c : Str → Nat} {S : List Str} {s : Str} (h : s ∈ S) : wasF c (S ++ [s]) = wasF c S := by
  funext x
  unfold wasF
  by_cases e : x = s
  · subst e; simp [h]
  · simp [e]
theorem wasF_out (c : Str → Nat) (S : List Str) (s : Str) : wasF c (S ++ [s]) = upd (wasF c S) s (some (.bool (decide (0 < c s)))) := by
  funext x
  unfold wasF upd
  by_cases e : x = s
  · subst e; simp
  · simp [e]

theorem cnt_look {w : World} {b N : Nat} {c : Str → Nat} (h : View strK w b N (cntF c)) {s : Str} (hs : s.length ≤ maxLen) :
    Sem.run Try.prog (Instr.lookup 54 (.map (some b)) (encStr s) false) w = .ok (.int .i64 (c s)) w := by
  have := h.look strK Try.underlying54 (Try.zeroValue3 w) (a := s) hs
  rw [show (cntF c s).getD (.int .i64 0) = .int .i64 (c s) by
    unfold cntF
    split
    · rfl
    · rename_i h0
      obtain h0 : c s = 0 := by omega
      rw [h0]; rfl] at this
  exact this

theorem Reads.one {w : World} {B n k : Nat} {A : Option Addr} {ss : List Str} (h : Reads w B 1 A n (ss.map encStr)) (hk : k < ss.length) (hn : ss.length = n) : ∃ ad, A = some ad ∧ ad.block < B ∧ w.cell? (ad.add k) = some (encStr ss[k]) := by
  obtain ⟨ad, u, e, hb, hu, hc⟩ := h.at_ (k := k) (by omega)
  refine ⟨ad, e, hb, ?_⟩
  rw [List.getElem?_map, List.getElem?_eq_getElem hk] at hu
  rw [hc, ← hu]; rfl

def LookOut (w : World) (bw n : Nat) (c : Str → Nat) (S : List Str) (e : Ending) (w' : World) : Prop :=
  e = .returned (.tuple #[]) ∧ View strK w' bw n (wasF c S) ∧ Fr w w' [bw]

set_option maxRecDepth 100000 in
set_option maxHeartbeats 4000000 in
theorem look_any (Bw Bx bw n : Nat) (A : Option Addr) (cap : Nat) (ss S : List Str) (X be bd bm bc N : Nat) (st : St) (w : World) (h : Idx G w X be bd bm bc N st) (hbw : bw ≠ bc)
    (hcw : w.cell? ⟨Bw, 0, none⟩ = some (.map (some bw))) (hcx : w.cell? ⟨Bx, 0, none⟩ = some (.pointer (some ⟨X, 0, none⟩))) (hv : View strK w bw n (wasF (cnt st) S))
    (hr : Reads w w.heap.size 1 A ss.length (ss.map encStr)) (hs : ∀ s ∈ ss, s.length ≤ maxLen) (hlen : ss.length ≤ 1099511627776) (hn : n ≤ 1099511627776) :
    Calls Try.prog 29 #[.slice A ss.length cap, .pointer (some ⟨Bw, 0, none⟩), .pointer (some ⟨Bx, 0, none⟩)] w (LookOut w bw (n + ss.length) (cnt st) (S ++ ss)) := by
  have lt_of : ∀ {p : Addr} {u : Value}, w.cell? p = some u → p.block < w.heap.size := fun {p u} hc => by
    rcases Nat.lt_or_ge p.block w.heap.size with hl | hg
    · exact hl
    · rw [World.cell?, Array.getElem?_eq_none hg] at hc; cases hc
  have lw := lt_of hcw
  have lx := lt_of hcx
  have c3 : w.cell? ⟨X, 3, none⟩ = some (.map (some bc)) := by rw [h.blk.cell]; rfl
  have hX : X < w.heap.size := h.blk.lt
  have HC := Lib.hid h.cnt
  have HV := Lib.hid hv
  clear hv h lt_of
  go_enter Try.func29, Try.ntmps29
  go_wp2
  go_loopw [10] (fun i wr => ∃ k : Nat, k ≤ ss.length ∧ i = .int .i64 k ∧ View strK wr bw (n + k) (wasF (cnt st) (S ++ ss.take k)) ∧ Fr w wr [bw]) (fun i _ => ss.length - (intOf i).toNat)
  case atStart => exact ⟨0, Nat.zero_le _, rfl, by simpa using HV.out, (Fr.refl' w).sub (by simp) (fun b hb _ => by simp at hb; subst hb; exact HV.out.isMapBlock strK)⟩
  case round =>
    obtain ⟨k, hk, rfl, hv, hf⟩ := hrel
    have cw := (hf.cell (p := ⟨Bw, 0, none⟩) lw).trans hcw
    have cx := (hf.cell (p := ⟨Bx, 0, none⟩) lx).trans hcx
    have c3' := (hf.cell (p := ⟨X, 3, none⟩) hX).trans c3
    by_cases hlt : k < ss.length
    · obtain ⟨ad, rfl, hab, hcell⟩ := (hf.reads hr).one hlt rfl
      have hsl := hs _ (List.getElem_mem hlt)
      have HT : ss.take (k + 1) = ss.take k ++ [ss[k]] := List.take_succ_eq_append_getElem hlt
      obtain ⟨s, hse⟩ : ∃ s, s = ss[k] := ⟨_, rfl⟩
      rw [← hse] at hcell hsl HT
      have hT := Lib.hid HT
      have hVh := Lib.hid hv
      have hFh := Lib.hid hf
      have hl0 := hv.look_ok strK Try.underlying64 (Try.zeroValue4 wr) (a := s) hsl
      clear HT hse hv hf hs hr
      by_cases hin : s ∈ S ++ ss.take k
      · have h1 : ((wasF (cnt st) (S ++ ss.take k)) s).isSome = true := by unfold wasF; rw [if_pos hin]; rfl
        rw [h1] at hl0
        generalize ((wasF (cnt st) (S ++ ss.take k)) s).getD (.bool false) = vv at hl0
        change Sem.run Try.prog (Instr.lookup 64 (.map (some bw)) (encStr s) true) wr = _ at hl0
        have hfin : View strK wr bw (n + (k + 1)) (wasF (cnt st) (S ++ ss.take (k + 1))) := by
          rw [hT.out, ← List.append_assoc, wasF_in hin]
          exact hVh.out.mono strK (by omega)
        have HF := Lib.hid hfin
        clear hfin hin h1
        go_wp2
        go_roundw
        case rel => exact ⟨k + 1, by omega, by go_num, HF.out, hFh.out⟩
        case measure => simp [intOf]; omega
      · have h1 : ((wasF (cnt st) (S ++ ss.take k)) s).isSome = false := by unfold wasF; rw [if_neg hin]; rfl
        rw [h1] at hl0
        generalize ((wasF (cnt st) (S ++ ss.take k)) s).getD (.bool false) = vv at hl0
        change Sem.run Try.prog (Instr.lookup 64 (.map (some bw)) (encStr s) true) wr = _ at hl0
        have hd : View strK wr.drew bw (n + k) (wasF (cnt st) (S ++ ss.take k)) := hVh.out
        have hcd : View strK wr.drew bc N (cntF (cnt st)) := HC.out.fr strK (hFh.out.drew) (by simp; exact fun e => hbw e.symm)
        have hlk := cnt_look hcd hsl
        obtain ⟨w1, hrun, hv1, htu⟩ := hd.store strK Try.underlying64 (by unfold maxLen; omega) (a := s) hsl (.bool (decide (0 < cnt st s)))
        change Sem.run Try.prog (Instr.mapUpdate 64 (.map (some bw)) (encStr s) (.bool (decide (0 < cnt st s)))) wr.drew = _ at hrun
        have hfin : View strK w1 bw (n + (k + 1)) (wasF (cnt st) (S ++ ss.take (k + 1))) := by
          rw [hT.out, ← List.append_assoc, wasF_out]
          exact hv1
        have hfr : Fr w w1 [bw] := by
          have := (hFh.out.drew).trans (Fr.of_turned htu)
          exact this.sub (by simp) (fun b hb hb' => by simp at hb; subst hb; exact HV.out.isMapBlock strK)
        have HF := Lib.hid hfin
        have HR := Lib.hid hfr
        clear hfin hin h1 hd hcd hfr htu hv1
        go_wp2_with fail
        go_region
        go_wp2
        go_roundw
        case rel => exact ⟨k + 1, by omega, by go_num, HF.out, HR.out⟩
        case measure => simp [intOf]; omega
    · obtain rfl : k = ss.length := by omega
      have hfin : View strK wr bw (n + ss.length) (wasF (cnt st) (S ++ ss)) := by simpa using hv
      have HF := Lib.hid hfin
      have HR := Lib.hid hf
      clear hfin hv hf hs hr
      go_wp2
      go_end0
      exact ⟨rfl, HF.out, HR.out⟩

end Go.Proofs.Ytkjmknmcbkofbaa
