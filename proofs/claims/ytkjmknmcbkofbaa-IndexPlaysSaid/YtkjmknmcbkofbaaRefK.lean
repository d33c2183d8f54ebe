/-
  The reference's Known.
  Its conditions: as each theorem states them.
-/
import Derived.Test.YtkjmknmcbkofbaaRefI
namespace Go.Proofs.Ytkjmknmcbkofbaa
open Go Go.Proofs Go.RowKit Go.Maps Go.Sort Go.Shelf
variable {G : Nat → Prop}
set_option linter.unusedVariables false
set_option linter.unusedSimpArgs false

theorem flat_take {L : List E} {k : Nat} (hk : k < L.length) : (L.take (k + 1)).flatMap (·.d) = (L.take k).flatMap (·.d) ++ L[k].d := by
  rw [List.take_succ_eq_append_getElem hk, List.flatMap_append]
  simp
theorem flat_take_le (L : List E) (k : Nat) : ((L.take k).flatMap (·.d)).length ≤ (L.flatMap (·.d)).length := by
  conv => rhs; rw [← List.take_append_drop k L]
  rw [List.flatMap_append, List.length_append]
  omega

theorem str_one {l : List Str} : ∀ u ∈ l.map encStr, u.oneCell' = true := fun u hu => by
  obtain ⟨t, _, rfl⟩ := List.mem_map.1 hu
  rfl

set_option maxRecDepth 100000 in
set_option maxHeartbeats 4000000 in
theorem knownR_any (Z : Nat) (L : List E) (w : World) (h : RIdx G w Z L) (hl : L.length ≤ 1073741824) (hd : (L.flatMap (·.d)).length ≤ 1073741824) :
    Calls Try.prog 20 #[.pointer (some ⟨Z, 0, none⟩)] w fun e w' => ∃ v, e = .returned v ∧ w'.ownsRow w.heap.size 9 1 v (known L).length ((known L).map encStr) ∧ Below w.heap.size w w' := by
  have HZ := Lib.hid h
  clear h
  obtain ⟨i0, hi, hz0, hz1, hz2⟩ := info_parts info9
  go_enter Try.func20, Try.ntmps20
  go_wp2
  go_loopw [3, 4] (fun v i wr => ∃ k : Nat, k ≤ L.length ∧ i = .int .i64 k ∧ wr.ownsRow w.heap.size 9 1 v ((L.take k).flatMap (·.d)).length (((L.take k).flatMap (·.d)).map encStr) ∧ Below w.heap.size w wr) (fun _ i _ => L.length - (intOf i).toNat)
  case atStart => exact ⟨0, Nat.zero_le _, rfl, World.ownsRow_nil _ _ _ _, Below.refl _ _⟩
  case round =>
    obtain ⟨k, hk, rfl, hrow, hb⟩ := hrel
    have HROW := Lib.hid hrow
    have HB := Lib.hid hb
    have hfl := flat_take_le L k
    obtain ⟨AL, cL, hbz, he⟩ := HZ.out.fr (Fr.of_below hb)
    have z0 : wr.cell? ⟨Z, 0, none⟩ = some (.slice AL L.length cL) := by rw [hbz.cell]; rfl
    have hsz := hb.size
    by_cases hlt : k < L.length
    · obtain ⟨ad, rfl, hab, A1, c1, A2, c2, _, g0, g1, g2, r1, r2⟩ := he.at_ hlt
      have hnx := flat_take hlt
      have hfl2 := flat_take_le L (k + 1)
      rw [hnx, List.length_append] at hfl2
      obtain ⟨d, hdd⟩ : ∃ d, d = L[k].d := ⟨_, rfl⟩
      rw [← hdd] at g1 hnx r1 hfl2
      obtain ⟨al, hal⟩ : ∃ al, al = (L.take k).flatMap (·.d) := ⟨_, rfl⟩
      rw [← hal] at hnx hfl hfl2 HROW
      have HNX := Lib.hid hnx
      have HR1 := Lib.hid r1
      have HJ : Hid (k + 1 ≤ L.length) := Lib.hid hlt
      have hone := Lib.hid (str_one (l := d))
      clear hdd hal hnx r1 r2 g0 g2 hrow hb hbz he
      go_wp2_with (first
        | (at_builtin; go_loud (refine wpList_append_any _ rfl (.tmp 14) (.tmp 22) 27 rfl w.heap.size 9 i0 (.string ⟨#[]⟩) 1 16 Try.underlying27 hi hz0 hz1 hz2 rfl (by decide) u3 _ _ rfl HROW.out _ A1 d.length c1 (d.map encStr) rfl HR1.out hone.out (by unfold maxLen; omega) (by omega) hsz ?_); intro v' w3 hown3 hg3 hor3)
        | fail)
      have hb3 := HB.out.grown hg3 hsz (fun k e => (HROW.out.lt k e).1)
      have hrow3 : w3.ownsRow w.heap.size 9 1 v' ((L.take (k + 1)).flatMap (·.d)).length (((L.take (k + 1)).flatMap (·.d)).map encStr) := by
        rw [HNX.out]
        simpa using hown3
      have HB3 := Lib.hid hb3
      have HROW3 := Lib.hid hrow3
      clear hb3 hrow3 hown3 hg3 hor3 z0 g1
      go_wp2
      go_roundw
      case rel => exact ⟨k + 1, HJ.out, by go_num, HROW3.out, HB3.out⟩
      case measure => simp [intOf]; have := HJ.out; omega
    · obtain rfl : k = L.length := by omega
      rw [List.take_length] at HROW
      have hkn : known L = riseL (L.flatMap (·.d)) := rfl
      obtain ⟨al, hal⟩ : ∃ al, al = L.flatMap (·.d) := ⟨_, rfl⟩
      rw [← hal] at HROW hkn hd
      have HKN := Lib.hid hkn
      obtain ⟨Aa, ca, rfl, hra⟩ := RowOf.own HROW.out
      have CR := riseR_any Aa ca al wr hra (by omega)
      clear hrow hb hbz he hra hal hkn hfl
      go_wp2_with fail
      refine CR.mono ?_
      rintro e w2 ⟨v, rfl, ho, hb2⟩
      have hfin : w2.ownsRow w.heap.size 9 1 v (known L).length ((known L).map encStr) ∧ Below w.heap.size w w2 := by
        rw [HKN.out]
        refine ⟨ownsRow_base_a ho hsz, ?_⟩
        have h9 : Fr w w2 [] := by have := (Fr.of_below HB.out).trans (Fr.of_below hb2); simpa using this
        exact h9.below
      have HFIN := Lib.hid hfin
      clear hfin ho hb2 CR
      go_wp2
      go_ret
      exact ⟨v, rfl, HFIN.out.1, HFIN.out.2⟩

end Go.Proofs.Ytkjmknmcbkofbaa
