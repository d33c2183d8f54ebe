/-
  The reference's index in memory: a list of entries behind a pointer; Defined, Has, Who, Known.
  Its conditions: as each theorem states them.
-/
import Derived.Test.YtkjmknmcbkofbaaRiseR
import Derived.Deep.QuietTactic
import Derived.BigQuiet
import Derived.Test.YtkjmknmcbkofbaaLastP
import Derived.Test.YtkjmknmcbkofbaaWho
namespace Go.Proofs.Ytkjmknmcbkofbaa
open Go Go.Proofs Go.RowKit Go.Maps Go.Sort Go.Shelf
set_option linter.unusedVariables false
set_option linter.unusedSimpArgs false

/-- A row that lies in no block of G. -/
def Off (G : Nat → Prop) (A : Option Addr) (n : Nat) : Prop := 0 < n → ∀ a, A = some a → ¬ G a.block
def REnt (G : Nat → Prop) (w : World) (e : E) (ad : Addr) : Prop := ∃ A1 c1 A2 c2, (Off G A1 e.d.length ∧ Off G A2 e.m.length) ∧ w.cell? ad = some (.int .i64 e.n) ∧ w.cell? ⟨ad.block, ad.off + 1, none⟩ = some (.slice A1 e.d.length c1) ∧ w.cell? ⟨ad.block, ad.off + 2, none⟩ = some (.slice A2 e.m.length c2) ∧
  Reads w w.heap.size 1 A1 e.d.length (e.d.map encStr) ∧ Reads w w.heap.size 1 A2 e.m.length (e.m.map encStr)
def Ents (G : Nat → Prop) (w : World) (AL : Option Addr) (L : List E) : Prop := 0 < L.length → ∃ ad, AL = some ad ∧ ad.block < w.heap.size ∧ (¬ G ad.block) ∧ ∀ k (hk : k < L.length), REnt G w L[k] (ad.add (k * 3))
def RIdx (G : Nat → Prop) (w : World) (Z : Nat) (L : List E) : Prop := ∃ AL cap, Blk w Z 39 #[.slice AL L.length cap] ∧ Ents G w AL L

variable {G : Nat → Prop}
theorem REnt.fr {w w' : World} {bs : List Nat} (f : Fr w w' bs) {e : E} {ad : Addr} (hb : ad.block < w.heap.size) : REnt G w e ad → REnt G w' e ad
  | ⟨A1, c1, A2, c2, ho, h0, h1, h2, r1, r2⟩ => ⟨A1, c1, A2, c2, ho, (f.cell hb).trans h0, (f.cell (p := ⟨ad.block, ad.off + 1, none⟩) hb).trans h1, (f.cell (p := ⟨ad.block, ad.off + 2, none⟩) hb).trans h2, f.reads r1, f.reads r2⟩
theorem Ents.fr {w w' : World} {bs : List Nat} (f : Fr w w' bs) {AL : Option Addr} {L : List E} (h : Ents G w AL L) : Ents G w' AL L := fun h0 => by
  obtain ⟨ad, e, hb, hg, hk⟩ := h h0
  exact ⟨ad, e, Nat.lt_of_lt_of_le hb f.size, hg, fun k hkl => (hk k hkl).fr f (by rw [block_of_add]; exact hb)⟩
theorem RIdx.fr {w w' : World} {bs : List Nat} (f : Fr w w' bs) {Z : Nat} {L : List E} : RIdx G w Z L → RIdx G w' Z L
  | ⟨AL, cap, hb, he⟩ => ⟨AL, cap, f.blk hb, he.fr f⟩
theorem Ents.at_ {w : World} {AL : Option Addr} {L : List E} (h : Ents G w AL L) {k : Nat} (hk : k < L.length) : ∃ ad, AL = some ad ∧ ad.block < w.heap.size ∧ REnt G w L[k] (ad.add (k * 3)) := by
  obtain ⟨ad, e, hb, _, hat⟩ := h (by omega)
  exact ⟨ad, e, hb, hat k hk⟩

theorem cnt_take {L : List E} {k : Nat} (hk : k < L.length) (s : Str) : cnt (L.take (k + 1)) s = cnt (L.take k) s + if s ∈ L[k].d then 1 else 0 := by
  unfold cnt
  rw [List.take_succ_eq_append_getElem hk, List.filter_append, List.length_append]
  by_cases h : s ∈ L[k].d <;> simp [h]
theorem cnt_take_le (L : List E) (k : Nat) (s : Str) : cnt (L.take k) s ≤ k := Nat.le_trans (List.length_filter_le _ _) (List.length_take_le _ _)

set_option maxRecDepth 100000 in
set_option maxHeartbeats 2000000 in
theorem definedR_any (Z : Nat) (L : List E) (s : Str) (w : World) (h : RIdx G w Z L) (hl : L.length ≤ 1073741824) (hd : ∀ e ∈ L, e.d.length ≤ 1073741824) :
    Calls Try.prog 21 #[.pointer (some ⟨Z, 0, none⟩), encStr s] w fun e w' => e = .returned (.int .i64 (cnt L s)) ∧ w = w' := by
  obtain ⟨AL, cL, hb, he⟩ := h
  have z0 : w.cell? ⟨Z, 0, none⟩ = some (.slice AL L.length cL) := by rw [hb.cell]; rfl
  have HE := Lib.hid he
  have HD := Lib.hid hd
  clear hb he hd
  go_enter Try.func21, Try.ntmps21
  go_wp2
  go_loop [5, 6] (fun c i => ∃ k : Nat, k ≤ L.length ∧ i = .int .i64 k ∧ c = .int .i64 (cnt (L.take k) s)) (fun _ i => L.length - (intOf i).toNat)
  case atStart => exact ⟨0, Nat.zero_le _, rfl, rfl⟩
  case round =>
    obtain ⟨k, hk, rfl, rfl⟩ := hrel
    have hcl := cnt_take_le L k s
    by_cases hlt : k < L.length
    · obtain ⟨ad, rfl, hab, A1, c1, A2, c2, _, g0, g1, g2, r1, r2⟩ := HE.out.at_ hlt
      have hn := cnt_take hlt s
      have CW := within_any s A1 c1 L[k].d w r1 (by have := HD.out _ (List.getElem_mem hlt); omega)
      obtain ⟨d, hd⟩ : ∃ d, d = L[k].d := ⟨_, rfl⟩
      rw [← hd] at g1 CW hn
      obtain ⟨z, hz⟩ : ∃ z, z = cnt (L.take k) s := ⟨_, rfl⟩
      rw [← hz] at hn hcl ⊢
      have HN := Lib.hid hn
      have HJ : Hid (k + 1 ≤ L.length) := Lib.hid hlt
      clear hn r1 r2 g0 g2 hd hz
      by_cases hm : s ∈ d
      · rw [decide_eq_true hm] at CW
        have HN2 : Hid (cnt (L.take (k + 1)) s = z + 1) := Lib.hid (by rw [HN.out, if_pos hm])
        clear hm
        go_wp2_with fail
        refine CW.mono ?_
        rintro e w2 ⟨rfl, rfl⟩
        clear CW
        go_wp2
        go_round
        case rel => exact ⟨k + 1, HJ.out, by go_num, by rw [HN2.out]; go_num⟩
        case measure => simp [intOf]; have := HJ.out; omega
      · rw [decide_eq_false hm] at CW
        have HN2 : Hid (cnt (L.take (k + 1)) s = z) := Lib.hid (by rw [HN.out, if_neg hm]; rfl)
        clear hm
        go_wp2_with fail
        refine CW.mono ?_
        rintro e w2 ⟨rfl, rfl⟩
        clear CW
        go_wp2
        go_round
        case rel => exact ⟨k + 1, HJ.out, by go_num, by rw [HN2.out]⟩
        case measure => simp [intOf]; have := HJ.out; omega
    · obtain rfl : k = L.length := by omega
      rw [List.take_length]
      go_wp2
      go_ret
      exact ⟨rfl, rfl⟩

theorem find_take {L : List E} {n : Int} {k : Nat} (hk : k < L.length) (h : ∀ e ∈ L.take k, e.n ≠ n) : (L[k].n = n → L.find? (fun e => decide (e.n = n)) = some L[k]) := by
  intro he
  conv => lhs; rw [← List.take_append_drop k L]
  rw [List.find?_append, List.find?_eq_none.2 (fun e hm => by simpa using h e hm), List.drop_eq_getElem_cons hk, Option.none_or]
  exact List.find?_cons_of_pos (by simpa using he)
theorem find_none {L : List E} {n : Int} (h : ∀ e ∈ L, e.n ≠ n) : L.find? (fun e => decide (e.n = n)) = none := List.find?_eq_none.2 (fun e hm => by simpa using h e hm)
theorem take_next {L : List E} {n : Int} {k : Nat} (hk : k < L.length) (h : ∀ e ∈ L.take k, e.n ≠ n) (hn : L[k].n ≠ n) : ∀ e ∈ L.take (k + 1), e.n ≠ n := by
  intro e he
  rw [List.take_succ_eq_append_getElem hk] at he
  rcases List.mem_append.1 he with h1 | h1
  · exact h e h1
  · simp at h1; subst h1; exact hn

set_option maxRecDepth 100000 in
set_option maxHeartbeats 2000000 in
theorem hasR_any (Z : Nat) (L : List E) (n : Int) (s : Str) (w : World) (h : RIdx G w Z L) (hl : L.length ≤ 1073741824) (hd : ∀ e ∈ L, e.d.length ≤ 1073741824 ∧ e.m.length ≤ 1073741824) :
    Calls Try.prog 19 #[.pointer (some ⟨Z, 0, none⟩), .int .i64 n, encStr s] w fun e w' => e = .returned (.tuple #[.bool (decide (s ∈ getD L n)), .bool (decide (s ∈ getM L n))]) ∧ ∃ q, w' = w.drewN q := by
  obtain ⟨AL, cL, hb, he⟩ := h
  have z0 : w.cell? ⟨Z, 0, none⟩ = some (.slice AL L.length cL) := by rw [hb.cell]; rfl
  have HE := Lib.hid he
  have HD := Lib.hid hd
  clear hb he hd
  go_enter Try.func19, Try.ntmps19
  go_wp2
  go_loop [8] (fun i => ∃ k : Nat, k ≤ L.length ∧ i = .int .i64 k ∧ ∀ e ∈ L.take k, e.n ≠ n) (fun i => L.length - (intOf i).toNat)
  case atStart => exact ⟨0, Nat.zero_le _, rfl, by simp⟩
  case round =>
    obtain ⟨k, hk, rfl, hno⟩ := hrel
    have HNO := Lib.hid hno
    clear hno
    by_cases hlt : k < L.length
    · obtain ⟨ad, rfl, hab, A1, c1, A2, c2, _, g0, g1, g2, r1, r2⟩ := HE.out.at_ hlt
      have hf := find_take hlt HNO.out
      have hnx := take_next hlt HNO.out
      have C1 := fun q => within_any s A1 c1 L[k].d (w.drewN q) (r1.drewN q) (by have := HD.out _ (List.getElem_mem hlt); omega)
      have C2 := fun q => within_any s A2 c2 L[k].m (w.drewN q) (r2.drewN q) (by have := HD.out _ (List.getElem_mem hlt); omega)
      have hgd : L[k].n = n → getD L n = L[k].d ∧ getM L n = L[k].m := fun e => by unfold getD getM; rw [hf e]; exact ⟨rfl, rfl⟩
      obtain ⟨d, hd⟩ : ∃ d, d = L[k].d := ⟨_, rfl⟩
      obtain ⟨m, hm⟩ : ∃ m, m = L[k].m := ⟨_, rfl⟩
      obtain ⟨nk, hnk⟩ : ∃ nk, nk = L[k].n := ⟨_, rfl⟩
      rw [← hd] at g1 C1 hgd
      rw [← hm] at g2 C2 hgd
      rw [← hnk] at g0 hgd hnx
      have HGD := Lib.hid hgd
      have HNX := Lib.hid hnx
      have HJ : Hid (k + 1 ≤ L.length) := Lib.hid hlt
      have Q1 : Hid (∀ q, Calls Try.prog 12 #[encStr s, .slice A1 d.length c1] (w.drewN q) fun e w'' => e = .returned (.bool (decide (s ∈ d))) ∧ ∃ m, w'' = w.drewN m) := Lib.hid (fun q => Calls.quiet_of_same (C1 q))
      have Q2 : Hid (∀ q, Calls Try.prog 12 #[encStr s, .slice A2 m.length c2] (w.drewN q) fun e w'' => e = .returned (.bool (decide (s ∈ m))) ∧ ∃ m, w'' = w.drewN m) := Lib.hid (fun q => Calls.quiet_of_same (C2 q))
      clear hf hnx C1 C2 hgd hd hm hnk r1 r2
      by_cases e : nk = n
      · obtain ⟨h1, h2⟩ := HGD.out e
        subst e
        have hfin : ∀ q, (fun (e : Ending) (w' : World) => e = .returned (.tuple #[.bool (decide (s ∈ getD L nk)), .bool (decide (s ∈ getM L nk))]) ∧ ∃ q, w' = w.drewN q) (.returned (.tuple #[.bool (decide (s ∈ d)), .bool (decide (s ∈ m))])) (w.drewN q) := fun q => ⟨by rw [h1, h2], q, rfl⟩
        have HFIN := Lib.hid hfin
        obtain ⟨b1, hb1⟩ : ∃ b, decide (s ∈ d) = b := ⟨_, rfl⟩
        obtain ⟨b2, hb2⟩ : ∃ b, decide (s ∈ m) = b := ⟨_, rfl⟩
        rw [hb1] at Q1 HFIN
        rw [hb2] at Q2 HFIN
        clear h1 h2 hfin hb1 hb2 HGD HNX
        go_wp2
        go_big_quiet (first | with_reducible exact Q1.out _ | with_reducible exact Q2.out _)
        go_wp2
        go_ret2
        exact HFIN.out _
      · have hn2 := HNX.out e
        have HN2 := Lib.hid hn2
        have e1 : (nk == n) = false := by simpa using e
        clear hn2 e HGD HNX Q1 Q2
        go_wp2
        go_round
        case rel => exact ⟨k + 1, HJ.out, by go_num, HN2.out⟩
        case measure => simp [intOf]; have := HJ.out; omega
    · obtain rfl : k = L.length := by omega
      have hz := HNO.out
      rw [List.take_length] at hz
      have hfin : (fun (e : Ending) (w' : World) => e = .returned (.tuple #[.bool (decide (s ∈ getD L n)), .bool (decide (s ∈ getM L n))]) ∧ ∃ q, w' = w.drewN q) (.returned (.tuple #[.bool false, .bool false])) w := ⟨by unfold getD getM; rw [find_none hz]; simp, 0, rfl⟩
      have HFIN := Lib.hid hfin
      clear hz hfin
      go_wp2
      go_ret2
      exact HFIN.out

/-- The numbers of the entries that mention a label, in the list's order. -/
theorem whoL_take {L : List E} {k : Nat} (hk : k < L.length) (s : Str) : whoL (L.take (k + 1)) s = whoL (L.take k) s ++ (if s ∈ L[k].m then [L[k].n] else []) := by
  unfold whoL
  rw [List.take_succ_eq_append_getElem hk, List.filter_append, List.map_append]
  by_cases h : s ∈ L[k].m <;> simp [h]
theorem whoL_len (L : List E) (k : Nat) (s : Str) : (whoL (L.take k) s).length ≤ k := by
  unfold whoL
  rw [List.length_map]
  exact Nat.le_trans (List.length_filter_le _ _) (List.length_take_le _ _)

set_option maxRecDepth 100000 in
set_option maxHeartbeats 4000000 in
theorem whoR_any (Z : Nat) (L : List E) (s : Str) (w : World) (h : RIdx G w Z L) (hl : L.length ≤ 1073741824) (hd : ∀ e ∈ L, e.d.length ≤ 1073741824 ∧ e.m.length ≤ 1073741824) :
    Calls Try.prog 24 #[.pointer (some ⟨Z, 0, none⟩), encStr s] w (IntsOut w (whoL L s)) := by
  have HZ := Lib.hid h
  have HD := Lib.hid hd
  clear hd h
  obtain ⟨i0, hi, hz0, hz1, hz2⟩ := info_parts info3
  go_enter Try.func24, Try.ntmps24
  go_wp2
  go_loopw [5, 6] (fun v i wr => ∃ k : Nat, k ≤ L.length ∧ i = .int .i64 k ∧ wr.ownsRow w.heap.size 3 1 v (whoL (L.take k) s).length ((whoL (L.take k) s).map (Value.int .i64)) ∧ Below w.heap.size w wr) (fun _ i _ => L.length - (intOf i).toNat)
  case atStart => exact ⟨0, Nat.zero_le _, rfl, World.ownsRow_nil _ _ _ _, Below.refl _ _⟩
  case round =>
    obtain ⟨k, hk, rfl, hrow, hb⟩ := hrel
    have HROW := Lib.hid hrow
    have HB := Lib.hid hb
    have hwl := whoL_len L k s
    obtain ⟨AL, cL, hbz, he⟩ := HZ.out.fr (Fr.of_below hb)
    have z0 : wr.cell? ⟨Z, 0, none⟩ = some (.slice AL L.length cL) := by rw [hbz.cell]; rfl
    by_cases hlt : k < L.length
    · obtain ⟨ad, rfl, hab, A1, c1, A2, c2, _, g0, g1, g2, r1, r2⟩ := he.at_ hlt
      have CW := within_any s A2 c2 L[k].m wr r2 (by have := HD.out _ (List.getElem_mem hlt); omega)
      have hnx := whoL_take hlt s
      obtain ⟨m, hm⟩ : ∃ m, m = L[k].m := ⟨_, rfl⟩
      obtain ⟨nk, hnk⟩ : ∃ nk, nk = L[k].n := ⟨_, rfl⟩
      rw [← hm] at g2 CW hnx
      rw [← hnk] at g0 hnx
      obtain ⟨ns, hns⟩ : ∃ ns, ns = whoL (L.take k) s := ⟨_, rfl⟩
      rw [← hns] at hnx hwl HROW
      have HNX := Lib.hid hnx
      have HJ : Hid (k + 1 ≤ L.length) := Lib.hid hlt
      have hsz := hb.size
      clear hm hnk hns hnx r1 r2 g1 hrow hb hbz he
      by_cases hmm : s ∈ m
      · rw [decide_eq_true hmm] at CW
        have HN2 : Hid (whoL (L.take (k + 1)) s = ns ++ [nk]) := Lib.hid (by rw [HNX.out, if_pos hmm])
        clear hmm HNX
        go_wp2_with fail
        refine CW.mono ?_
        rintro e w2 ⟨rfl, rfl⟩
        clear CW
        go_wp2_with (first
          | (at_builtin; go_loud (refine wpList_append_own _ rfl (.tmp 26) (.tmp 35) 46 rfl w.heap.size 3 i0 (.int .i64 0) 1 8 Try.underlying46 hi hz0 hz1 hz2 rfl (by decide) u5 _ _ rfl (HROW.out.alloc _) ⟨w2.heap.size, 0, none⟩ 1 1 [.int .i64 nk] rfl rfl (cell_one_new _ _ _) (by simp [Value.oneCell']) (by unfold maxLen; omega) (by omega) (by simp; omega) ?_); intro v' w3 hown3 hg3 _)
          | fail)
        have hb3 := (HB.out.alloc hsz (.cells #[.int .i64 nk] 3)).grown hg3 (by simp; omega) (fun k e => (HROW.out.lt k e).1)
        have hrow3 : w3.ownsRow w.heap.size 3 1 v' (whoL (L.take (k + 1)) s).length ((whoL (L.take (k + 1)) s).map (Value.int .i64)) := by
          rw [HN2.out]
          simpa using hown3
        have HB3 := Lib.hid hb3
        have HROW3 := Lib.hid hrow3
        clear hb3 hrow3 hown3 hg3 z0 g0 g2
        go_wp2
        go_roundw
        case rel => exact ⟨k + 1, HJ.out, by go_num, HROW3.out, HB3.out⟩
        case measure => simp [intOf]; have := HJ.out; omega
      · rw [decide_eq_false hmm] at CW
        have HN2 : Hid (whoL (L.take (k + 1)) s = ns) := Lib.hid (by rw [HNX.out, if_neg hmm]; simp)
        clear hmm HNX
        go_wp2_with fail
        refine CW.mono ?_
        rintro e w2 ⟨rfl, rfl⟩
        clear CW
        go_wp2
        go_roundw
        case rel => exact ⟨k + 1, HJ.out, by go_num, by rw [HN2.out]; exact HROW.out, HB.out⟩
        case measure => simp [intOf]; have := HJ.out; omega
    · obtain rfl : k = L.length := by omega
      rw [List.take_length] at HROW
      have hfin : IntsOut w (whoL L s) (.returned u5) wr := ⟨u5, rfl, HROW.out, HB.out⟩
      have HFIN := Lib.hid hfin
      clear hfin hrow hb he hbz
      go_wp2
      go_ret
      exact HFIN.out

end Go.Proofs.Ytkjmknmcbkofbaa
