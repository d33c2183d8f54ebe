/-
  The reference's Rise: labels, rising, each once.
  Its conditions: as each theorem states them.
-/
import Derived.Test.YtkjmknmcbkofbaaRef
import Derived.Test.YtkjmknmcbkofbaaWho
import Derived.Test.YtkjmknmcbkofbaaLook
import Derived.Deep.QuietTactic
import Derived.BigQuiet
import Derived.Deep.AppendLies
import Derived.Deep.RegionLaw
import Derived.BigRegion
import Derived.Sort.Walk0
namespace Go.Proofs.Ytkjmknmcbkofbaa
open Go Go.Proofs Go.RowKit Go.Maps Go.Sort Go.Shelf
set_option linter.unusedVariables false
set_option linter.unusedSimpArgs false

/-- What Rise hands back. -/
def RowUp (w : World) (ss : List Str) (e : Ending) (w' : World) : Prop :=
  ∃ v, e = .returned v ∧ w'.ownsRow w.heap.size 9 1 v (riseL ss).length ((riseL ss).map encStr) ∧ Below w.heap.size w w'

theorem rise_in {out : List Str} {l : List Str} {k : Nat} (hk : k < l.length) (ho : out = riseL (l.take k)) (hm : l[k] ∈ out) : out = riseL (l.take (k + 1)) := by
  refine Up.ext (by rw [ho]; exact up_riseL _) (up_riseL _) (fun s => ?_)
  rw [mem_riseL, mem_take_next hk, ho, mem_riseL]
  constructor
  · exact fun h => .inl h
  · rintro (h | rfl)
    · exact h
    · rw [ho, mem_riseL] at hm; exact hm

theorem up_insert {out : List Str} (hu : Up out) {x : Str} {p : Nat} (hx : x ∉ out) (hp : p ≤ out.length) (hlo : ∀ s ∈ out.take p, s < x) (hhi : ∀ h : p < out.length, ¬ out[p] < x) : Up (out.take p ++ ([x] ++ out.drop p)) := by
  have hsp : out.take p ++ out.drop p = out := List.take_append_drop p out
  have hu2 : Up (out.take p ++ out.drop p) := by rw [hsp]; exact hu
  obtain ⟨u1, u2, u3⟩ := List.pairwise_append.1 hu2
  have hge : ∀ s ∈ out.drop p, x < s := by
    intro s hs
    rcases Nat.lt_or_ge p out.length with h | h
    · have h1 : x < out[p] := by
        rcases str_total x out[p] with h2 | h2 | h2
        · exact h2
        · exact absurd (h2 ▸ List.getElem_mem h) hx
        · exact absurd h2 (hhi h)
      rw [List.drop_eq_getElem_cons h] at hs u2
      rcases List.mem_cons.1 hs with rfl | hs
      · exact h1
      · exact str_lt_trans h1 ((List.pairwise_cons.1 u2).1 s hs)
    · rw [List.drop_eq_nil_of_le h] at hs
      cases hs
  refine List.pairwise_append.2 ⟨u1, List.pairwise_cons.2 ⟨by simpa using hge, by simpa using u2⟩, fun a ha b hb => ?_⟩
  rcases List.mem_append.1 hb with hb | hb
  · simp at hb; subst hb; exact hlo a ha
  · exact u3 a ha b hb

theorem rise_out {out : List Str} {l : List Str} {k : Nat} (hk : k < l.length) (ho : out = riseL (l.take k)) {x : Str} (hx : x = l[k]) (hn : x ∉ out) {p : Nat} (hp : p ≤ out.length) (hlo : ∀ s ∈ out.take p, s < x) (hhi : ∀ h : p < out.length, ¬ out[p] < x) :
    out.take p ++ ([x] ++ out.drop p) = riseL (l.take (k + 1)) := by
  refine Up.ext (up_insert (by rw [ho]; exact up_riseL _) hn hp hlo hhi) (up_riseL _) (fun s => ?_)
  rw [mem_riseL, mem_take_next hk, ← hx]
  have : s ∈ out ↔ s ∈ l.take k := by rw [ho, mem_riseL]
  rw [← this]
  conv => rhs; rw [← List.take_append_drop p out]
  simp only [List.mem_append, List.mem_singleton]
  constructor
  · rintro (h | h | h)
    · exact .inl (.inl h)
    · exact .inr h
    · exact .inl (.inr h)
  · rintro ((h | h) | h)
    · exact .inl h
    · exact .inr (.inr h)
    · exact .inr (.inl h)

theorem lss_eq (a b : Str) : binOp .lss 9 (encStr a) (encStr b) = pure (.bool (decide (a < b))) := by
  show binOp .lss 9 (.string ⟨a.toArray⟩) (.string ⟨b.toArray⟩) = _
  rw [binOp_string_lss, bytesLess_eq]
  simp

theorem reads_new (w : World) (u : Value) (t : TypeId) : Reads (w.alloc (.cells #[u] t)) (w.alloc (.cells #[u] t)).heap.size 1 (some ⟨w.heap.size, 0, none⟩) 1 [u] :=
  ⟨rfl, fun _ => ⟨_, rfl, by simp, cell_one_new w u t⟩⟩

theorem region_ne {w : World} {g n co : Nat} {p : Nat} {v : Value} {xs : List Value} {e : TypeId} (h : w.ownsRow (g + 1) e 1 v n xs) : v.ownBlock = none ∨ v.ownBlock ≠ (Value.slice (some ⟨g, 0, none⟩) p co).ownBlock := by
  rcases h.2 with ⟨rfl, _⟩ | ⟨g', cap, cur, rfl, hb, _⟩
  · exact .inl rfl
  · right
    simp [Value.ownBlock]
    omega

theorem nil_ne {w : World} {base n : Nat} {v : Value} {xs : List Value} {e : TypeId} (h : w.ownsRow base e 1 v n xs) : v.ownBlock = none ∨ v.ownBlock ≠ (Value.slice none 0 0).ownBlock := by
  rcases h.2 with ⟨rfl, _⟩ | ⟨g', cap, cur, rfl, hb, _⟩
  · exact .inl rfl
  · right
    simp [Value.ownBlock]

theorem nil_facts {w3 : World} {base : Nat} {v' : Value} (hown3 : w3.ownsRow base 9 1 v' (0 + 0) ([] ++ [])) : ∃ A' c', v' = .slice A' 0 c' ∧ w3.ownsRow base 9 1 (.slice A' 0 c') 0 [] := by
  have h := hown3
  rcases h.2 with ⟨rfl, h0⟩ | ⟨g', cap2, cur2, rfl, _⟩
  · exact ⟨none, 0, rfl, hown3⟩
  · exact ⟨_, _, rfl, hown3⟩

theorem region_facts {w V2 w3 : World} {ad2 : Addr} {n co p : Nat} {xs : List Value} {v' : Value} (hb : Below w.heap.size w V2) (hrow : V2.ownsRow w.heap.size 9 1 (.slice (some ad2) n co) n xs) (hp : p ≤ n)
    (hg3 : V2.grownBy w3 (Value.slice none 0 0).ownBlock) (hown3 : w3.ownsRow V2.heap.size 9 1 v' (0 + (n - p)) ([] ++ xs.drop p)) :
    ∃ g A' c', ad2 = ⟨g, 0, none⟩ ∧ v' = .slice A' (n - p) c' ∧ w3.ownsRow w.heap.size 9 1 (.slice (some ⟨g, 0, none⟩) p co) p (xs.take p) ∧ w3.ownsRow (g + 1) 9 1 (.slice A' (n - p) c') (n - p) (xs.drop p) ∧ Below w.heap.size w w3 ∧ w.heap.size ≤ g := by
  rw [Nat.zero_add, List.nil_append] at hown3
  rcases hrow.2 with ⟨e1, h0⟩ | ⟨g, cap', cur, hv, hbg, hh, _⟩
  · cases e1
  · injection hv with h1 _ _
    injection h1 with h1
    subst h1
    have hgl : g < V2.heap.size := (Array.getElem?_eq_some_iff.1 hh).1
    have hcut := (ownsRow_cut hrow hp).kept hg3 (.inr (by simp [Value.ownBlock]))
    have hb3 : Below w.heap.size w w3 := hb.grown hg3 hb.size (fun k e => by simp [Value.ownBlock] at e)
    have hm := ownsRow_base_a hown3 (base' := g + 1) hgl
    rcases hown3.2 with ⟨rfl, h0⟩ | ⟨g', cap2, cur2, rfl, _⟩
    · rw [h0] at hm ⊢
      exact ⟨g, none, 0, rfl, rfl, hcut, hm, hb3, hbg⟩
    · exact ⟨g, _, _, rfl, rfl, hcut, hm, hb3, hbg⟩

set_option maxRecDepth 100000 in
set_option maxHeartbeats 4000000 in
theorem riseR_any (A : Option Addr) (cap : Nat) (ss : List Str) (w : World) (hr : Reads w w.heap.size 1 A ss.length (ss.map encStr)) (hlen : ss.length ≤ 1073741824) :
    Calls Try.prog 28 #[.slice A ss.length cap] w (RowUp w ss) := by
  have HR := Lib.hid hr
  clear hr
  obtain ⟨i0, hi, hz0, hz1, hz2⟩ := info_parts info9
  go_enter Try.func28, Try.ntmps28
  go_wp2
  go_loopw [3, 4] (fun o i wr => ∃ (k : Nat) (out : List Str), k ≤ ss.length ∧ i = .int .i64 k ∧ out = riseL (ss.take k) ∧ wr.ownsRow w.heap.size 9 1 o out.length (out.map encStr) ∧ Below w.heap.size w wr) (fun _ i _ => ss.length - (intOf i).toNat)
  case atStart => exact ⟨0, [], Nat.zero_le _, rfl, by simpa using riseL_nil.symm, World.ownsRow_nil _ _ _ _, Below.refl _ _⟩
  case round =>
    obtain ⟨k, out, hk, rfl, ho, hrow, hb⟩ := hrel
    have hol : out.length ≤ k := by rw [ho]; exact Nat.le_trans (length_riseL _) (List.length_take_le _ _)
    have HO := Lib.hid ho
    have HROW := Lib.hid hrow
    have HB := Lib.hid hb
    clear ho
    by_cases hlt : k < ss.length
    · obtain ⟨ad, rfl, hab, hcell⟩ := ((HR.out.below hb)).one hlt rfl
      obtain ⟨x, hx⟩ : ∃ x, x = ss[k] := ⟨_, rfl⟩
      obtain ⟨Ao, co, rfl, hro⟩ := RowOf.own hrow
      have CW := within_any x Ao co out wr hro (by omega)
      rw [← hx] at hcell
      have HX := Lib.hid hx
      have HRO := Lib.hid hro
      have HJ : Hid (k + 1 ≤ ss.length) := Lib.hid hlt
      clear hro hx hrow hb
      by_cases hm : x ∈ out
      · have hin := rise_in hlt HO.out (by rw [← HX.out]; exact hm)
        have HIN := Lib.hid hin
        rw [decide_eq_true hm] at CW
        clear hin hm
        go_wp2_with fail
        refine CW.mono ?_
        rintro e w2 ⟨rfl, rfl⟩
        clear CW
        go_wp2
        go_roundw
        case rel => exact ⟨k + 1, out, HJ.out, by go_num, HIN.out, HROW.out, HB.out⟩
        case measure => simp [intOf]; have := HJ.out; omega
      · rw [decide_eq_false hm] at CW
        have HM := Lib.hid hm
        clear hm
        go_wp2_with fail
        refine CW.mono ?_
        rintro e w2 ⟨rfl, rfl⟩
        clear CW
        obtain ⟨V1, rfl⟩ : ∃ V1 : World, V1 = w2 := ⟨_, rfl⟩
        go_wp2
        go_loopw [5] (fun i wr => ∃ p q : Nat, p ≤ out.length ∧ i = .int .i64 p ∧ (∀ s ∈ out.take p, s < x) ∧ wr = V1.drewN q) (fun i _ => out.length - (intOf i).toNat)
        case atStart => exact ⟨0, 0, Nat.zero_le _, rfl, by simp, rfl⟩
        case round =>
          obtain ⟨p, q, hp, rfl, hlo, rfl⟩ := hrel
          have HLO := Lib.hid hlo
          clear hlo
          by_cases hpl : p < out.length
          · obtain ⟨ad2, rfl, hab2, hcell2⟩ := HRO.out.one hpl rfl
            have hlt2 := lss_eq out[p] x
            have htk := List.take_succ_eq_append_getElem hpl
            obtain ⟨y, hy⟩ : ∃ y, y = out[p] := ⟨_, rfl⟩
            rw [← hy] at hcell2 hlt2 htk
            have HY := Lib.hid hy
            have HTK := Lib.hid htk
            have HJP : Hid (p + 1 ≤ out.length) := Lib.hid hpl
            clear hy htk
            by_cases hyx : y < x
            · rw [decide_eq_true hyx] at hlt2
              have hlo2 : ∀ s ∈ out.take (p + 1), s < x := fun s hs => by
                rw [HTK.out] at hs
                rcases List.mem_append.1 hs with h | h
                · exact HLO.out s h
                · simp at h; subst h; exact hyx
              have HLO2 := Lib.hid hlo2
              clear hlo2 hyx
              go_wp2
              go_big_quiet (fail)
              go_wp2
              go_roundw
              case rel => exact ⟨p + 1, _, HJP.out, by go_num, HLO2.out, rfl⟩
              case measure => simp [intOf]; have := HJP.out; omega
            · rw [decide_eq_false hyx] at hlt2
              have hfin := rise_out hlt HO.out HX.out HM.out hp HLO.out (fun h => by rw [← HY.out]; exact hyx)
              have HFIN := Lib.hid hfin
              clear hfin hyx
              go_wp2
              go_big_quiet (fail)
              have hco : out.length ≤ co := by
                rcases HROW.out.2 with ⟨e1, h0⟩ | ⟨g, cap', cur, hv, _, _, hnc, _⟩
                · omega
                · injection hv with _ _ h3; omega
              have hrcut := (HRO.out.cut (k := p) (cap := co) hp hco).drewN (q + nq)
              have hle1 : out.length - p ≤ 1073741824 := by omega
              simp only [Nat.mul_one, Option.map_some] at hrcut
              rw [if_neg (show ¬ co = p by omega)] at hrcut
              obtain ⟨V2, hV2⟩ : ∃ V2, V1.drewN (q + nq) = V2 := ⟨_, rfl⟩
              rw [hV2] at hrcut
              have hne : ∀ u ∈ (out.map encStr).drop p, u.oneCell' = true := fun u hu => by
                obtain ⟨t, _, rfl⟩ := List.mem_map.1 (List.mem_of_mem_drop hu)
                rfl
              have HNE := Lib.hid hne
              have HRC := Lib.hid hrcut
              have HV2 : Hid (V2.heap = V1.heap) := Lib.hid (by rw [← hV2]; rfl)
              have HROW2 : Hid (V2.ownsRow w.heap.size 9 1 (.slice (some ad2) out.length co) out.length (out.map encStr)) := Lib.hid (by rw [← hV2]; exact HROW.out)
              have HB2 : Hid (Below w.heap.size w V2) := Lib.hid (by rw [← hV2]; exact Fr.below (by have := (Fr.of_below HB.out).drewN (q + nq); exact this))
              clear hrcut hne
              go_wp2_with (first
                | (at_builtin; go_loud (refine wpList_append_any _ rfl (.const (.slice none 0 0)) (.tmp 38) 27 rfl V2.heap.size 9 i0 (.string ⟨#[]⟩) 1 16 Try.underlying27 hi hz0 hz1 hz2 rfl (by decide) (.slice none 0 0) 0 [] rfl (World.ownsRow_nil _ _ _ _) _ _ (out.length - p) (co - p) _ rfl HRC.out HNE.out (by unfold maxLen; omega) (by omega) (Nat.le_refl _) ?_); intro v' w3 hown3 hg3 hor3)
                | fail)
              have F3 := region_facts HB2.out HROW2.out hp hg3 hown3
              obtain ⟨g, A', c', rfl, rfl, hcut, hrest, hbw3, hgl⟩ := F3
              have hcell3 : w3.cell? (ad.add k) = some (encStr x) := (hbw3.cell (p := ad.add k) (by rw [block_of_add]; exact hab)).trans ((HB.out.cell (p := ad.add k) (by rw [block_of_add]; exact hab)).symm.trans hcell)
              have hsz3 : w.heap.size ≤ w3.heap.size := hbw3.size
              have HCUT := Lib.hid hcut
              have HREST := Lib.hid hrest
              have HBW3 := Lib.hid hbw3
              have hp2 : p ≤ 1073741824 := by omega
              have hm2 : out.length - p ≤ 1073741824 := by omega
              have hpc : (p : Int) ≤ (co : Int) := by omega
              have hpc2 : p ≤ co := by omega
              have hp0 : (0 : Int) ≤ (p : Int) := by omega
              have HNEW : Hid (∀ u ∈ (out.map encStr).drop p, u.oneCell' = true) := HNE
              clear hg3 hown3 hor3 hcut hrest hbw3 HO hlt2 hcell2 HB2 HROW2
              go_region_law (first
                | (refine step_append_any _ rfl (.tmp 42) (.tmp 47) 27 rfl w.heap.size 9 i0 (.string ⟨#[]⟩) 1 16 Try.underlying27 hi hz0 hz1 hz2 rfl (by decide) (.slice (some ⟨g, 0, none⟩) p co) p ((out.map encStr).take p) rfl (HCUT.out.drew.alloc _) _ (some ⟨w3.heap.size, 0, none⟩) 1 1 [encStr x] rfl (reads_new _ _ _) (by simp [Value.oneCell']) (by unfold maxLen; omega) (by omega) (by simp; omega) ?_; intro v4 w4 hown4 hg4 hor4)
                | (refine step_append_any _ rfl (.tmp 48) (.tmp 49) 27 rfl w.heap.size 9 i0 (.string ⟨#[]⟩) 1 16 Try.underlying27 hi hz0 hz1 hz2 rfl (by decide) v4 (p + 1) _ rfl hown4 _ A' (out.length - p) c' ((out.map encStr).drop p) rfl (Reads.of_own ((HREST.out.drew.alloc _).kept hg4 (region_ne HREST.out))) HNEW.out (by unfold maxLen; omega) (by omega) (Nat.le_trans (by simp; omega) hg4.size) ?_; intro v5 w5 hown5 hg5 hor5))
              have hrow5 : w5.ownsRow w.heap.size 9 1 v5 (riseL (ss.take (k + 1))).length ((riseL (ss.take (k + 1))).map encStr) := by
                have h1 : (riseL (ss.take (k + 1))).map encStr = (out.map encStr).take p ++ [encStr x] ++ (out.map encStr).drop p := by
                  rw [← HFIN.out]; simp [List.map_take, List.map_drop]
                have h2 : (riseL (ss.take (k + 1))).length = p + 1 + (out.length - p) := by
                  rw [← HFIN.out]; simp; omega
                rw [h1, h2]
                exact hown5
              have hba := HBW3.out.alloc hsz3 (.cells #[encStr x] 9)
              have hbd : Below w.heap.size w (w3.alloc (.cells #[encStr x] 9)).drew := ⟨hba.os, hba.tape, hba.output, hba.size, hba.block⟩
              have hb4 := hbd.grown hg4 hbd.size (fun k e => by simp [Value.ownBlock] at e; omega)
              have hb5 := hb4.grown hg5 hb4.size (fun k e => (hown4.lt k e).1)
              have HROW5 := Lib.hid hrow5
              have HB5 := Lib.hid hb5
              clear hrow5 hba hbd hb4 hb5 hown4 hown5 hg4 hg5 hor4 hor5
              go_wp2
              go_roundw
              case rel => exact ⟨k + 1, _, HJ.out, by go_num, rfl, HROW5.out, HB5.out⟩
              case measure => simp [intOf]; have := HJ.out; omega
          · have hfin := rise_out hlt HO.out HX.out HM.out hp HLO.out (fun h => absurd h (by omega))
            have HFIN := Lib.hid hfin
            have HPE : Hid (p = out.length) := Lib.hid (by omega)
            have hge1 : decide ((p : Int) < (out.length : Int)) = false := decide_eq_false (by omega)
            have hge2 : decide (p < out.length) = false := decide_eq_false hpl
            clear hfin hpl
            rcases HROW.out.2 with ⟨e1, h0⟩ | ⟨g9, cap9, cur9, hv9, _⟩
            · obtain rfl : out = [] := List.eq_nil_of_length_eq_zero h0
              injection e1 with h1 h2 h3
              subst h1
              subst h3
              obtain rfl : p = 0 := HPE.out
              clear HRO HM HPE HLO hol hp h0
              go_wp2
              go_big_quiet (fail)
              obtain ⟨V2, hV2⟩ : ∃ V2, V1.drewN (q + nq) = V2 := ⟨_, rfl⟩
              have HB2 : Hid (Below w.heap.size w V2) := Lib.hid (by rw [← hV2]; exact Fr.below (by have := (Fr.of_below HB.out).drewN (q + nq); exact this))
              go_wp2_with (first
                | (at_builtin; go_loud (refine wpList_append_any _ rfl (.const (.slice none 0 0)) (.tmp 38) 27 rfl V2.heap.size 9 i0 (.string ⟨#[]⟩) 1 16 Try.underlying27 hi hz0 hz1 hz2 rfl (by decide) (.slice none 0 0) 0 [] rfl (World.ownsRow_nil _ _ _ _) V2.heap.size none 0 0 [] rfl Reads.none_ (by simp) (by unfold maxLen; omega) (by omega) (Nat.le_refl _) ?_); intro v' w3 hown3 hg3 hor3)
                | fail)
              have hb3 : Below w.heap.size w w3 := HB2.out.grown hg3 HB2.out.size (fun k e => by simp [Value.ownBlock] at e)
              have F3 := nil_facts hown3
              obtain ⟨A', c', rfl, hrest⟩ := F3
              have hcell3 : w3.cell? (ad.add k) = some (encStr x) := (hb3.cell (p := ad.add k) (by rw [block_of_add]; exact hab)).trans ((HB.out.cell (p := ad.add k) (by rw [block_of_add]; exact hab)).symm.trans hcell)
              have hsz3 : w.heap.size ≤ w3.heap.size := hb3.size
              have HREST := Lib.hid hrest
              have HBW3 := Lib.hid hb3
              clear hg3 hown3 hor3 hrest hb3 HO HB2 hV2 HROW hcell hge1 hge2 h2
              go_region_law (first
                | (refine step_append_any _ rfl (.tmp 42) (.tmp 47) 27 rfl w.heap.size 9 i0 (.string ⟨#[]⟩) 1 16 Try.underlying27 hi hz0 hz1 hz2 rfl (by decide) (.slice none 0 0) 0 [] rfl (World.ownsRow_nil _ _ _ _) _ (some ⟨w3.heap.size, 0, none⟩) 1 1 [encStr x] rfl (reads_new _ _ _) (by simp [Value.oneCell']) (by unfold maxLen; omega) (by omega) (by simp; omega) ?_; intro v4 w4 hown4 hg4 hor4)
                | (refine step_append_any _ rfl (.tmp 48) (.tmp 49) 27 rfl w.heap.size 9 i0 (.string ⟨#[]⟩) 1 16 Try.underlying27 hi hz0 hz1 hz2 rfl (by decide) v4 (0 + 1) _ rfl hown4 _ A' 0 c' [] rfl (Reads.of_own ((HREST.out.drew.alloc _).kept hg4 (nil_ne HREST.out))) (by simp) (by unfold maxLen; omega) (by omega) (Nat.le_trans (by simp; omega) hg4.size) ?_; intro v5 w5 hown5 hg5 hor5))
              have hrow5 : w5.ownsRow w.heap.size 9 1 v5 (riseL (ss.take (k + 1))).length ((riseL (ss.take (k + 1))).map encStr) := by
                have h1 : riseL (ss.take (k + 1)) = [x] := by rw [← HFIN.out]; simp
                rw [h1]
                exact hown5
              have hba := HBW3.out.alloc hsz3 (.cells #[encStr x] 9)
              have hbd : Below w.heap.size w (w3.alloc (.cells #[encStr x] 9)).drew := ⟨hba.os, hba.tape, hba.output, hba.size, hba.block⟩
              have hb4 := hbd.grown hg4 hbd.size (fun k e => by simp [Value.ownBlock] at e)
              have hb5 := hb4.grown hg5 hb4.size (fun k e => (hown4.lt k e).1)
              have HROW5 := Lib.hid hrow5
              have HB5 := Lib.hid hb5
              clear hrow5 hba hbd hb4 hb5 hown4 hown5 hg4 hg5 hor4 hor5
              go_wp2
              go_roundw
              case rel => exact ⟨k + 1, _, HJ.out, by go_num, rfl, HROW5.out, HB5.out⟩
              case measure => simp [intOf]; have := HJ.out; omega
            · injection hv9 with h1 h2 h3
              obtain ⟨ad2, had2⟩ : ∃ ad2 : Addr, ad2 = ⟨g9, 0, none⟩ := ⟨_, rfl⟩
              rw [← had2] at h1
              subst h1
              clear h2 h3 had2
              go_wp2
              go_big_quiet (fail)
              have hco : out.length ≤ co := by
                rcases HROW.out.2 with ⟨e1, h0⟩ | ⟨g, cap', cur, hv, _, _, hnc, _⟩
                · omega
                · injection hv with _ _ h3; omega
              by_cases hcp : co = p
              · subst hcp
                have hrcut := (HRO.out.cut (k := co) (cap := co) hp hco).drewN (q + nq)
                have hle1 : out.length - co ≤ 1073741824 := by omega
                simp only [Nat.mul_one, Option.map_some] at hrcut
                rw [if_pos trivial] at hrcut
                have hm0 : out.length - co = 0 := by omega
                rw [hm0] at hrcut
                obtain ⟨V2, hV2⟩ : ∃ V2, V1.drewN (q + nq) = V2 := ⟨_, rfl⟩
                rw [hV2] at hrcut
                have hne : ∀ u ∈ (out.map encStr).drop co, u.oneCell' = true := fun u hu => by
                  obtain ⟨t, _, rfl⟩ := List.mem_map.1 (List.mem_of_mem_drop hu)
                  rfl
                have HNE := Lib.hid hne
                have HRC := Lib.hid hrcut
                have HV2 : Hid (V2.heap = V1.heap) := Lib.hid (by rw [← hV2]; rfl)
                have HROW2 : Hid (V2.ownsRow w.heap.size 9 1 (.slice (some ad2) out.length co) out.length (out.map encStr)) := Lib.hid (by rw [← hV2]; exact HROW.out)
                have HB2 : Hid (Below w.heap.size w V2) := Lib.hid (by rw [← hV2]; exact Fr.below (by have := (Fr.of_below HB.out).drewN (q + nq); exact this))
                clear hrcut hne
                go_wp2_with (first
                  | (at_builtin; go_loud (refine wpList_append_any _ rfl (.const (.slice none 0 0)) (.tmp 38) 27 rfl V2.heap.size 9 i0 (.string ⟨#[]⟩) 1 16 Try.underlying27 hi hz0 hz1 hz2 rfl (by decide) (.slice none 0 0) 0 [] rfl (World.ownsRow_nil _ _ _ _) _ _ 0 0 _ rfl HRC.out HNE.out (by unfold maxLen; omega) (by omega) (Nat.le_refl _) ?_); intro v' w3 hown3 hg3 hor3)
                  | fail)
                clear HRC
                have F3 := region_facts HB2.out HROW2.out hp hg3 (by rw [hm0]; exact hown3)
                obtain ⟨g, A', c', rfl, rfl, hcut, hrest, hbw3, hgl⟩ := F3
                rw [hm0] at hrest
                rw [hm0]
                clear hm0
                have hcell3 : w3.cell? (ad.add k) = some (encStr x) := (hbw3.cell (p := ad.add k) (by rw [block_of_add]; exact hab)).trans ((HB.out.cell (p := ad.add k) (by rw [block_of_add]; exact hab)).symm.trans hcell)
                have hsz3 : w.heap.size ≤ w3.heap.size := hbw3.size
                have HCUT := Lib.hid hcut
                have HREST := Lib.hid hrest
                have HBW3 := Lib.hid hbw3
                have hp2 : co ≤ 1073741824 := by omega
                have hm2 : out.length - co ≤ 1073741824 := by omega
                have hpc : (co : Int) ≤ (co : Int) := by omega
                have hpc2 : co ≤ co := by omega
                have hp0 : (0 : Int) ≤ (co : Int) := by omega
                have HNEW : Hid (∀ u ∈ (out.map encStr).drop co, u.oneCell' = true) := HNE
                clear hg3 hown3 hor3 hcut hrest hbw3 HO HB2 HROW2
                go_region_law (first
                  | (refine step_append_any _ rfl (.tmp 42) (.tmp 47) 27 rfl w.heap.size 9 i0 (.string ⟨#[]⟩) 1 16 Try.underlying27 hi hz0 hz1 hz2 rfl (by decide) (.slice (some ⟨g, 0, none⟩) co co) co ((out.map encStr).take co) rfl (HCUT.out.drew.alloc _) _ (some ⟨w3.heap.size, 0, none⟩) 1 1 [encStr x] rfl (reads_new _ _ _) (by simp [Value.oneCell']) (by unfold maxLen; omega) (by omega) (by simp; omega) ?_; intro v4 w4 hown4 hg4 hor4)
                  | (refine step_append_any _ rfl (.tmp 48) (.tmp 49) 27 rfl w.heap.size 9 i0 (.string ⟨#[]⟩) 1 16 Try.underlying27 hi hz0 hz1 hz2 rfl (by decide) v4 (co + 1) _ rfl hown4 _ A' 0 c' ((out.map encStr).drop co) rfl (Reads.of_own ((HREST.out.drew.alloc _).kept hg4 (region_ne HREST.out))) HNEW.out (by unfold maxLen; omega) (by omega) (Nat.le_trans (by simp; omega) hg4.size) ?_; intro v5 w5 hown5 hg5 hor5))
                have hrow5 : w5.ownsRow w.heap.size 9 1 v5 (riseL (ss.take (k + 1))).length ((riseL (ss.take (k + 1))).map encStr) := by
                  have h1 : (riseL (ss.take (k + 1))).map encStr = (out.map encStr).take co ++ [encStr x] ++ (out.map encStr).drop co := by
                    rw [← HFIN.out]; simp [List.map_take, List.map_drop]
                  have h2 : (riseL (ss.take (k + 1))).length = co + 1 + 0 := by
                    rw [← HFIN.out]; simp; omega
                  rw [h1, h2]
                  exact hown5
                have hba := HBW3.out.alloc hsz3 (.cells #[encStr x] 9)
                have hbd : Below w.heap.size w (w3.alloc (.cells #[encStr x] 9)).drew := ⟨hba.os, hba.tape, hba.output, hba.size, hba.block⟩
                have hb4 := hbd.grown hg4 hbd.size (fun k e => by simp [Value.ownBlock] at e; omega)
                have hb5 := hb4.grown hg5 hb4.size (fun k e => (hown4.lt k e).1)
                have HROW5 := Lib.hid hrow5
                have HB5 := Lib.hid hb5
                clear hrow5 hba hbd hb4 hb5 hown4 hown5 hg4 hg5 hor4 hor5
                go_wp2
                go_roundw
                case rel => exact ⟨k + 1, _, HJ.out, by go_num, rfl, HROW5.out, HB5.out⟩
                case measure => simp [intOf]; have := HJ.out; omega
              · have hrcut := (HRO.out.cut (k := p) (cap := co) hp hco).drewN (q + nq)
                have hle1 : out.length - p ≤ 1073741824 := by omega
                simp only [Nat.mul_one, Option.map_some] at hrcut
                rw [if_neg hcp] at hrcut
                obtain ⟨V2, hV2⟩ : ∃ V2, V1.drewN (q + nq) = V2 := ⟨_, rfl⟩
                rw [hV2] at hrcut
                have hne : ∀ u ∈ (out.map encStr).drop p, u.oneCell' = true := fun u hu => by
                  obtain ⟨t, _, rfl⟩ := List.mem_map.1 (List.mem_of_mem_drop hu)
                  rfl
                have HNE := Lib.hid hne
                have HRC := Lib.hid hrcut
                have HV2 : Hid (V2.heap = V1.heap) := Lib.hid (by rw [← hV2]; rfl)
                have HROW2 : Hid (V2.ownsRow w.heap.size 9 1 (.slice (some ad2) out.length co) out.length (out.map encStr)) := Lib.hid (by rw [← hV2]; exact HROW.out)
                have HB2 : Hid (Below w.heap.size w V2) := Lib.hid (by rw [← hV2]; exact Fr.below (by have := (Fr.of_below HB.out).drewN (q + nq); exact this))
                clear hrcut hne
                go_wp2_with (first
                  | (at_builtin; go_loud (refine wpList_append_any _ rfl (.const (.slice none 0 0)) (.tmp 38) 27 rfl V2.heap.size 9 i0 (.string ⟨#[]⟩) 1 16 Try.underlying27 hi hz0 hz1 hz2 rfl (by decide) (.slice none 0 0) 0 [] rfl (World.ownsRow_nil _ _ _ _) _ _ (out.length - p) (co - p) _ rfl HRC.out HNE.out (by unfold maxLen; omega) (by omega) (Nat.le_refl _) ?_); intro v' w3 hown3 hg3 hor3)
                  | fail)
                clear HRC
                have F3 := region_facts HB2.out HROW2.out hp hg3 hown3
                obtain ⟨g, A', c', rfl, rfl, hcut, hrest, hbw3, hgl⟩ := F3
                have hcell3 : w3.cell? (ad.add k) = some (encStr x) := (hbw3.cell (p := ad.add k) (by rw [block_of_add]; exact hab)).trans ((HB.out.cell (p := ad.add k) (by rw [block_of_add]; exact hab)).symm.trans hcell)
                have hsz3 : w.heap.size ≤ w3.heap.size := hbw3.size
                have HCUT := Lib.hid hcut
                have HREST := Lib.hid hrest
                have HBW3 := Lib.hid hbw3
                have hp2 : p ≤ 1073741824 := by omega
                have hm2 : out.length - p ≤ 1073741824 := by omega
                have hpc : (p : Int) ≤ (co : Int) := by omega
                have hpc2 : p ≤ co := by omega
                have hp0 : (0 : Int) ≤ (p : Int) := by omega
                have HNEW : Hid (∀ u ∈ (out.map encStr).drop p, u.oneCell' = true) := HNE
                clear hg3 hown3 hor3 hcut hrest hbw3 HO HB2 HROW2
                go_region_law (first
                  | (refine step_append_any _ rfl (.tmp 42) (.tmp 47) 27 rfl w.heap.size 9 i0 (.string ⟨#[]⟩) 1 16 Try.underlying27 hi hz0 hz1 hz2 rfl (by decide) (.slice (some ⟨g, 0, none⟩) p co) p ((out.map encStr).take p) rfl (HCUT.out.drew.alloc _) _ (some ⟨w3.heap.size, 0, none⟩) 1 1 [encStr x] rfl (reads_new _ _ _) (by simp [Value.oneCell']) (by unfold maxLen; omega) (by omega) (by simp; omega) ?_; intro v4 w4 hown4 hg4 hor4)
                  | (refine step_append_any _ rfl (.tmp 48) (.tmp 49) 27 rfl w.heap.size 9 i0 (.string ⟨#[]⟩) 1 16 Try.underlying27 hi hz0 hz1 hz2 rfl (by decide) v4 (p + 1) _ rfl hown4 _ A' (out.length - p) c' ((out.map encStr).drop p) rfl (Reads.of_own ((HREST.out.drew.alloc _).kept hg4 (region_ne HREST.out))) HNEW.out (by unfold maxLen; omega) (by omega) (Nat.le_trans (by simp; omega) hg4.size) ?_; intro v5 w5 hown5 hg5 hor5))
                have hrow5 : w5.ownsRow w.heap.size 9 1 v5 (riseL (ss.take (k + 1))).length ((riseL (ss.take (k + 1))).map encStr) := by
                  have h1 : (riseL (ss.take (k + 1))).map encStr = (out.map encStr).take p ++ [encStr x] ++ (out.map encStr).drop p := by
                    rw [← HFIN.out]; simp [List.map_take, List.map_drop]
                  have h2 : (riseL (ss.take (k + 1))).length = p + 1 + (out.length - p) := by
                    rw [← HFIN.out]; simp; omega
                  rw [h1, h2]
                  exact hown5
                have hba := HBW3.out.alloc hsz3 (.cells #[encStr x] 9)
                have hbd : Below w.heap.size w (w3.alloc (.cells #[encStr x] 9)).drew := ⟨hba.os, hba.tape, hba.output, hba.size, hba.block⟩
                have hb4 := hbd.grown hg4 hbd.size (fun k e => by simp [Value.ownBlock] at e; omega)
                have hb5 := hb4.grown hg5 hb4.size (fun k e => (hown4.lt k e).1)
                have HROW5 := Lib.hid hrow5
                have HB5 := Lib.hid hb5
                clear hrow5 hba hbd hb4 hb5 hown4 hown5 hg4 hg5 hor4 hor5
                go_wp2
                go_roundw
                case rel => exact ⟨k + 1, _, HJ.out, by go_num, rfl, HROW5.out, HB5.out⟩
                case measure => simp [intOf]; have := HJ.out; omega
    · obtain rfl : k = ss.length := by omega
      rw [List.take_length] at HO
      have hfin : RowUp w ss (.returned u3) wr := ⟨u3, rfl, by rw [← HO.out]; exact HROW.out, HB.out⟩
      have HFIN := Lib.hid hfin
      clear hfin hrow hb
      go_wp2
      go_ret
      exact HFIN.out

end Go.Proofs.Ytkjmknmcbkofbaa
