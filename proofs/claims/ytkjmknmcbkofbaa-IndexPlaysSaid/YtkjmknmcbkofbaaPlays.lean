/-
  IndexPlays: an index to which anything is done tells what the document says; what is handed in stays, and is not kept.
  Its conditions: none.
-/
import Derived.Test.YtkjmknmcbkofbaaPlaysP
import Derived.Test.YtkjmknmcbkofbaaWakes
import Derived.Test.YtkjmknmcbkofbaaRows
import Derived.ProofKit
import Derived.OpenShut
import Derived.ShutString
import Derived.ChangeOld
import Derived.Deep.QuietTactic
import Derived.BigQuiet
import Derived.IntWalk
import Derived.Deep.RegionHeld3
namespace Go.Proofs.Ytkjmknmcbkofbaa.Plays
open Go Go.Proofs Go.RowKit Go.Proofs.Ytkjmknmcbkofbaa
open Go.ChangeShapes Go.WideShapes Go.ChangeAt
open Go.ChangeMaps (open_string shut_string)
set_option linter.unusedVariables false
set_option linter.unusedSimpArgs false

theorem cells_at {w : World} {a : A} {ad : Addr} (h : ActAt w a ad) : ∃ A1 c1 A2 c2, w.cell? ad = some (.int .i64 a.dd) ∧ w.cell? ⟨ad.block, ad.off + 1, none⟩ = some (.int .i64 a.n) ∧ w.cell? ⟨ad.block, ad.off + 2, none⟩ = some (.slice A1 a.d.length c1) ∧ w.cell? ⟨ad.block, ad.off + 3, none⟩ = some (.slice A2 a.m.length c2) ∧
    Reads w w.heap.size 1 A1 a.d.length (a.d.map encStr) ∧ Reads w w.heap.size 1 A2 a.m.length (a.m.map encStr) := h

theorem int_row {w : World} {base : Nat} {v : Value} {ns : List Int} (h : w.ownsRow base 3 1 v ns.length (ns.map (Value.int .i64))) : ∃ A c, v = .slice A ns.length c ∧ Reads w w.heap.size 1 A ns.length (ns.map (Value.int .i64)) := by
  have h2 := h
  rcases h.2 with ⟨rfl, h0⟩ | ⟨g, cap, cur, rfl, _⟩
  · obtain rfl : ns = [] := List.eq_nil_of_length_eq_zero h0
    exact ⟨none, 0, rfl, Reads.none_⟩
  · exact ⟨_, cap, rfl, Reads.of_own h2⟩

theorem same_true (A1 A2 : Option Addr) (cap1 cap2 : Nat) (l : List Str) (w : World) (hr1 : Reads w w.heap.size 1 A1 l.length (l.map encStr)) (hr2 : Reads w w.heap.size 1 A2 l.length (l.map encStr)) (hl : l.length ≤ 1099511627776) :
    Calls Try.prog 17 #[.slice A1 l.length cap1, .slice A2 l.length cap2] w (SameOut w true) := by
  have := same_any A1 A2 cap1 cap2 l l w hr1 hr2 hl hl
  rwa [decide_eq_true rfl] at this
theorem ints_true (A1 A2 : Option Addr) (cap1 cap2 : Nat) (l : List Int) (w : World) (hr1 : Reads w w.heap.size 1 A1 l.length (l.map (Value.int .i64))) (hr2 : Reads w w.heap.size 1 A2 l.length (l.map (Value.int .i64))) (hl : l.length ≤ 1099511627776) :
    Calls Try.prog 22 #[.slice A1 l.length cap1, .slice A2 l.length cap2] w (SameOut w true) := by
  have := ints_any A1 A2 cap1 cap2 l l w hr1 hr2 hl hl
  rwa [decide_eq_true rfl] at this

set_option maxRecDepth 100000 in
set_option maxHeartbeats 80000000 in
theorem walk (A0 : Option Addr) (cap : Nat) (l : List A) (s : Str) (hs : s.length ≤ maxLen) (n0 : Int) (hn0 : (Lit.int .i64 n0).wf = true) (w : World) (hA : Acts w A0 l) (hF : Fine l) :
    Calls Try.prog 4 #[.slice A0 l.length cap, encStr s, .int .i64 n0] w fun e w' => e = .returned (.bool true) ∧ Below w.heap.size w w' := by
  have HA := Lib.hid hA
  have HF := Lib.hid hF
  have HS := Lib.hid hs
  have HN0 := Lib.hid hn0
  have G := great_any A0 cap l w hA hF
  clear hA hF hs hn0
  go_enter Try.func4, Try.ntmps4
  go_wp2_with fail
  refine G.mono ?_
  rintro e w1 ⟨b, rfl, hb, q, hq⟩
  have F1 : Hid (Fr w w1 []) := Lib.hid (by rw [hq]; exact (Fr.refl' w).drewN q)
  clear G hq
  cases b with
  | true =>
    clear hb
    go_wp2_with fail
    refine (wakes_any _).mono ?_
    rintro e w3 ⟨rfl, hb3⟩
    have HB3 := Lib.hid hb3
    clear hb3
    go_wp2
    go_ret
    exact ⟨rfl, (F1.out.trans (Fr.of_below HB3.out)).below⟩
  | false =>
    obtain ⟨h100, h600⟩ := hb rfl
    clear hb
    go_wp2_with fail
    refine (new_any (G := No) _).mono ?_
    rintro e w2 ⟨X, be, bd, bm, bc, rfl, b1, b2, b3, b4, hi, hbel⟩
    have hs1 := F1.out.size
    have f2 : Fr w w2 [] := by have := F1.out.trans (Fr.of_below hbel); simpa using this
    have hs2 := f2.size
    obtain ⟨w3, hw3⟩ : ∃ w3, w2.alloc (.cells #[.slice none 0 0] 39) = w3 := ⟨_, rfl⟩
    have f3 : Fr w2 w3 [] := by rw [← hw3]; exact (Fr.refl' _).alloc _
    have B0 : Hid (Both No w w3 X be bd bm bc w2.heap.size 0 [] []) := Lib.hid ⟨hi.fr f3 (by simp), ⟨none, 0, by rw [← hw3]; exact Blk.new w2 39 _, fun h0 => absurd h0 (by simp)⟩, List.Pairwise.nil, fun e => Iff.rfl, fr_trans0 f2 f3, by omega, by omega, by omega, by omega, by omega⟩
    obtain ⟨Z, hZ⟩ : ∃ Z, w2.heap.size = Z := ⟨_, rfl⟩
    rw [hZ] at B0
    clear hi hbel f2 f3 hs1 hs2
    go_wp2
    go_loopw [9] (fun i wr => ∃ (k N : Nat) (L : List E), k ≤ l.length ∧ i = .int .i64 k ∧ Both No w wr X be bd bm bc Z N (run (l.take k)) L ∧ N ≤ lens (l.take k) + k) (fun i _ => l.length - (intOf i).toNat)
    case atStart => exact ⟨0, 0, [], Nat.zero_le _, rfl, by simpa [run] using B0.out, Nat.zero_le _⟩
    case round =>
      obtain ⟨k, N, L, hk, rfl, ht, hN⟩ := hrel
      have hll := lens_take_le l k
      have HT := Lib.hid ht
      by_cases hlt : k < l.length
      · obtain ⟨ad, e0, hab, hat⟩ := (HA.out.fr ht.fr).at_ hlt
        obtain ⟨_, hwn, hld, hlm, hsd, hsm⟩ := HF.out.2 l[k] (List.getElem_mem hlt)
        have hst := run_take hlt
        have hlens := lens_take hlt
        have htot := tot_run l k hk
        have htot2 := tot_run l (k + 1) (by omega)
        have hll2 := lens_take_le l (k + 1)
        obtain ⟨a, ha⟩ : ∃ a, a = l[k] := ⟨_, rfl⟩
        rw [← ha] at hat hwn hsd hsm hst hlens
        obtain ⟨A1, c1, A2, c2, L0, L1, L2, L3, r1, r2⟩ := cells_at hat
        have HJ : Hid (k + 1 ≤ l.length) := Lib.hid hlt
        have HR1 := Lib.hid r1
        have HR2 := Lib.hid r2
        have HSD := Lib.hid hsd
        have HSM := Lib.hid hsm
        have HST := Lib.hid hst
        have HLENS := Lib.hid hlens
        have HWN := Lib.hid hwn
        subst e0
        clear ht hat r1 r2 hst hsd hsm hwn ha hlens
        have hn1 := (wf64 HWN.out).2
        obtain ⟨i9, hj_, hy0, hy1, hy2⟩ := info_parts info9
        obtain ⟨VP, hVP⟩ : ∃ VP, wr.alloc (.cells #[.int .i64 a.dd, .int .i64 a.n, .slice A1 a.d.length c1, .slice A2 a.m.length c2] 33) = VP := ⟨_, rfl⟩
        have fP : Fr wr VP [] := by rw [← hVP]; exact (Fr.refl' _).alloc _
        have kP : ∀ i, VP.cell? ⟨wr.heap.size, i, none⟩ = #[Value.int .i64 a.dd, Value.int .i64 a.n, Value.slice A1 a.d.length c1, Value.slice A2 a.m.length c2][i]? := fun i => by rw [← hVP]; exact World.cell?_alloc_new _ _ _ _
        have P0 := kP 0
        have P1 := kP 1
        have P2 := kP 2
        have P3 := kP 3
        have hszP : VP.heap.size = wr.heap.size + 1 := by rw [← hVP]; simp
        have HTP := Lib.hid (HT.out.frame fP)
        have HFP := Lib.hid fP
        obtain ⟨st, hst0⟩ : ∃ st, st = run (l.take k) := ⟨_, rfl⟩
        rw [← hst0] at HTP htot
        have HST0 := Lib.hid hst0
        clear kP fP hst0
        go_upto_if 42 with fail
        go_cut [11, 12, 13, 14] (fun va vb ea eb wd => ∃ (N' : Nat) (L' : List E) (told : List Str) (er : Int), ea = .int .i64 er ∧ eb = .int .i64 er ∧ told.length ≤ 4000 ∧ RowO No wd va told ∧ RowO No wd vb told ∧ Both No w wd X be bd bm bc Z N' (run (l.take (k + 1))) L' ∧ N' ≤ lens (l.take (k + 1)) + (k + 1))
        case first =>
          by_cases h0 : a.dd = 0
          · have e0 : (a.dd == 0) = true := by simpa using h0
            have e1 : run (l.take (k + 1)) = stepS st a.n [] [] := by rw [HST.out, HST0.out]; unfold actS; rw [h0]; rfl
            have E1 := Lib.hid e1
            have DS := drop_step X be bd bm bc N st a.n hn1 VP HTP.out.ix (by omega) (fun b h => h.elim)
            clear h0 e1 L0 L1 L2 L3 hVP
            go_wp2_with fail
            refine DS.mono ?_
            rintro e wb ⟨va, told, rfl, ho, hu, hm, hib, fb⟩
            have PS := putR_step Z st _ N _ HTP.out.ix.wf HTP.out.srt HTP.out.mem a.n none none 0 0 [] [] wb (HTP.out.rx.fr fb) Reads.none_ Reads.none_ (by simp) (by simp) (by omega) hib.wf (by rw [← E1.out]; omega) (fun b h => h.elim) told hu hm
            have P1b : wb.cell? ⟨wr.heap.size, 1, none⟩ = some (.int .i64 a.n) := fb.cell_some P1
            have htl : told.length ≤ 4000 := by
              have h0 := told_len hu hm
              have h1 := length_known st
              have h2 := length_known (stepS st a.n [] [])
              rw [← E1.out] at h0 h2
              omega
            have HO := Lib.hid ho
            have HIB := Lib.hid hib
            have HFB := Lib.hid fb
            clear DS ho hu hm hib fb P0 P1 P2 P3
            go_wp2_with fail
            refine PS.mono ?_
            rintro e wc ⟨L', ⟨vb, rfl, hob, hrx, fz⟩, hs', hm'⟩
            obtain ⟨hB, ha, hb⟩ := HTP.out.step (fun b h => h.elim) HIB.out HFB.out HO.out hob hrx fz hs' hm'
            rw [← E1.out] at hB
            have HB := Lib.hid hB
            have HAA := Lib.hid ha
            have HBB := Lib.hid hb
            clear PS hob hrx fz hs' hm' hB ha hb
            go_wp2
            go_meet
            exact ⟨_, L', told, errS a.n, rfl, rfl, htl, HAA.out, HBB.out, HB.out, htot2⟩
          · have e0 : (a.dd == 0) = false := by simpa using h0
            have e1 : run (l.take (k + 1)) = stepS st a.n a.d a.m := by
              rw [HST.out, HST0.out]; unfold actS actD; rw [if_neg h0, if_neg h0]
            have E1 := Lib.hid e1
            have hla : a.d.length ≤ 600 ∧ a.m.length ≤ 600 := by have := HLENS.out; omega
            have ra1 := Lib.hid (HFP.out.reads HR1.out)
            have ra2 := Lib.hid (HFP.out.reads HR2.out)
            have on1 := Lib.hid (str_one (l := a.d))
            have on2 := Lib.hid (str_one (l := a.m))
            clear h0 e1 L0 L1 L2 L3 hVP
            go_upto_region 15 with (first
              | (at_builtin; go_loud (refine wpList_append_any _ rfl (.const (.slice none 0 0)) (.tmp 58) 27 rfl VP.heap.size 9 i9 (.string ⟨#[]⟩) 1 16 Try.underlying27 hj_ hy0 hy1 hy2 rfl (by decide) (.slice none 0 0) 0 [] rfl (World.ownsRow_nil _ _ _ _) _ A1 a.d.length c1 _ rfl ra1.out on1.out (by unfold maxLen; omega) (by omega) (Nat.le_refl _) ?_); intro v1 w4 hown1 hg1 hor1)
              | fail)
            have f4 : Fr VP w4 [] := fr_grown hg1
            obtain ⟨D1, e1, rfl, hrow1, hrd1⟩ := row_copy hown1
            have Q0 : w4.cell? ⟨wr.heap.size, 0, none⟩ = some (.int .i64 a.dd) := f4.cell_some P0
            have Q1 : w4.cell? ⟨wr.heap.size, 1, none⟩ = some (.int .i64 a.n) := f4.cell_some P1
            have Q2 : w4.cell? ⟨wr.heap.size, 2, none⟩ = some (.slice A1 a.d.length c1) := f4.cell_some P2
            have Q3 : w4.cell? ⟨wr.heap.size, 3, none⟩ = some (.slice A2 a.m.length c2) := f4.cell_some P3
            have sb2 := Lib.hid (f4.reads ra2.out)
            have sb1 := Lib.hid (f4.reads ra1.out)
            have F4 := Lib.hid f4
            have RW1 := Lib.hid hrow1
            have RD1 := Lib.hid hrd1
            clear P0 P1 P2 P3 f4 hown1 hg1 hor1 hrow1 hrd1
            go_upto_region 16 with (first
              | (at_builtin; go_loud (refine wpList_append_any _ rfl (.const (.slice none 0 0)) (.tmp 61) 27 rfl w4.heap.size 9 i9 (.string ⟨#[]⟩) 1 16 Try.underlying27 hj_ hy0 hy1 hy2 rfl (by decide) (.slice none 0 0) 0 [] rfl (World.ownsRow_nil _ _ _ _) _ A2 a.m.length c2 _ rfl sb2.out on2.out (by unfold maxLen; omega) (by omega) (Nat.le_refl _) ?_); intro v2 w5 hown2 hg2 hor2)
              | fail)
            have f5 : Fr w4 w5 [] := fr_grown hg2
            obtain ⟨D2, e2, rfl, hrow2, hrd2⟩ := row_copy hown2
            have f45 : Fr VP w5 [] := fr_trans0 F4.out f5
            have R1' : w5.cell? ⟨wr.heap.size, 1, none⟩ = some (.int .i64 a.n) := f5.cell_some Q1
            have R2' : w5.cell? ⟨wr.heap.size, 2, none⟩ = some (.slice A1 a.d.length c1) := f5.cell_some Q2
            have R3' : w5.cell? ⟨wr.heap.size, 3, none⟩ = some (.slice A2 a.m.length c2) := f5.cell_some Q3
            have hs45 := f45.size
            obtain ⟨G, hGd⟩ : ∃ G : Nat → Prop, G = fun b => VP.heap.size ≤ b ∧ b < w5.heap.size := ⟨_, rfl⟩
            have hGlo : ∀ b, G b → VP.heap.size ≤ b := by rw [hGd]; exact fun b h => h.1
            have hGhi : ∀ b, G b → b < w5.heap.size := by rw [hGd]; exact fun b h => h.2
            have HB5 := Lib.hid (HTP.out.old f45 hGlo)
            have DS := put_step X be bd bm bc N st a.n hn1 D1 D2 e1 e2 a.d a.m w5 HB5.out.ix (f5.reads RD1.out) hrd2 HSD.out HSM.out (by omega) (by omega) (by omega) hGhi
            have c1' := Lib.hid (f5.reads sb1.out)
            have c2' := Lib.hid (f5.reads sb2.out)
            have RD1' := Lib.hid (f5.reads RD1.out)
            have RD2 := Lib.hid hrd2
            have RW1' := Lib.hid (f5.own RW1.out)
            have RW2 := Lib.hid hrow2
            have HGD := Lib.hid hGd
            have HGLO := Lib.hid hGlo
            have HGHI := Lib.hid hGhi
            clear hGd hGlo hGhi f5 f45 hown2 hg2 hor2 hrow2 hrd2 Q0 Q1 Q2 Q3 sb1 sb2 RW1 RD1 F4
            go_wp2_with fail
            refine DS.mono ?_
            rintro e wb ⟨va, told, rfl, ho, hu, hm, hib, fb⟩
            have PS := putR_step Z st _ N _ HTP.out.ix.wf HTP.out.srt HTP.out.mem a.n A1 A2 c1 c2 a.d a.m wb (HB5.out.rx.fr fb) (fb.reads c1'.out) (fb.reads c2'.out) (by omega) (by omega) (by omega) hib.wf (by rw [← E1.out]; omega) (fun b h => Nat.lt_of_lt_of_le (HGHI.out b h) fb.size) told hu hm
            have S1 : wb.cell? ⟨wr.heap.size, 1, none⟩ = some (.int .i64 a.n) := fb.cell_some R1'
            have S2 : wb.cell? ⟨wr.heap.size, 2, none⟩ = some (.slice A1 a.d.length c1) := fb.cell_some R2'
            have S3 : wb.cell? ⟨wr.heap.size, 3, none⟩ = some (.slice A2 a.m.length c2) := fb.cell_some R3'
            have htl : told.length ≤ 4000 := by
              have h0 := told_len hu hm
              have h1 := length_known st
              have h2 := length_known (stepS st a.n a.d a.m)
              rw [← E1.out] at h0 h2
              omega
            have HO := Lib.hid ho
            have HIB := Lib.hid hib
            have HFB := Lib.hid fb
            clear DS ho hu hm hib fb R1' R2' R3'
            go_wp2_with fail
            refine PS.mono ?_
            rintro e wc ⟨L', ⟨vb, rfl, hob, hrx, fz⟩, hs', hm'⟩
            obtain ⟨hB, ha, hb⟩ := HB5.out.step HGHI.out HIB.out HFB.out HO.out hob hrx fz hs' hm'
            rw [← E1.out] at hB
            have HB := Lib.hid hB
            have HAA := Lib.hid ha
            have HBB := Lib.hid hb
            obtain ⟨_, _, hzb, _⟩ := HB5.out.rx.fr HFB.out
            have hzl := HT.out.zlt
            have hszb := HFB.out.size
            have T2 : wc.cell? ⟨wr.heap.size, 2, none⟩ = some (.slice A1 a.d.length c1) := fz.cell S2 (show wr.heap.size < wb.heap.size by omega) (show wr.heap.size ≠ Z by omega)
            have T3 : wc.cell? ⟨wr.heap.size, 3, none⟩ = some (.slice A2 a.m.length c2) := fz.cell S3 (show wr.heap.size < wb.heap.size by omega) (show wr.heap.size ≠ Z by omega)
            have SM1 := same_any D1 A1 e1 c1 a.d a.d wc ((HFB.out.reads RD1'.out).fz fz hzb) ((HFB.out.reads c1'.out).fz fz hzb) (by omega) (by omega)
            rw [decide_eq_true rfl] at SM1
            have x2a := Lib.hid ((HFB.out.reads RD2.out).fz fz hzb)
            have x2b := Lib.hid ((HFB.out.reads c2'.out).fz fz hzb)
            have OW1 := Lib.hid (own_fz (HFB.out.own RW1'.out) fz hzb)
            have HOW5 := RW1'
            clear PS hob hrx fz hs' hm' hB ha hb hzb S1 S2 S3
            go_wp2_with fail
            refine SM1.mono ?_
            rintro e wd ⟨rfl, q1, hq1⟩
            have fd : Fr wc wd [] := by rw [hq1]; exact (Fr.refl' _).drewN _
            have T3' : wd.cell? ⟨wr.heap.size, 3, none⟩ = some (.slice A2 a.m.length c2) := fd.cell_some T3
            have SM2 := same_any D2 A2 e2 c2 a.m a.m wd (fd.reads x2a.out) (fd.reads x2b.out) (by omega) (by omega)
            rw [decide_eq_true rfl] at SM2
            have FD := Lib.hid fd
            clear SM1 hq1 fd T2 T3
            go_wp2_with fail
            refine SM2.mono ?_
            rintro e we ⟨rfl, q2, hq2⟩
            have FE : Hid (Fr wc we []) := Lib.hid (fr_trans0 FD.out (by rw [hq2]; exact (Fr.refl' _).drewN _))
            have OWE := Lib.hid (FE.out.own OW1.out)
            have HBE := Lib.hid (HB.out.frame FE.out)
            have HAE := Lib.hid (HAA.out.fr FE.out)
            have HBBE := Lib.hid (HBB.out.fr FE.out)
            clear SM2 hq2 T3'
            go_wp2
            go_loopw [17] (fun i wr2 => ∃ (j : Nat) (xs : List Value), j ≤ a.d.length ∧ i = .int .i64 j ∧ wr2.ownsRow VP.heap.size 9 1 (.slice D1 a.d.length e1) a.d.length xs ∧ Fg G we wr2) (fun i _ => a.d.length - (intOf i).toNat)
            case atStart => exact ⟨0, _, Nat.zero_le _, rfl, OWE.out, fg_refl _⟩
            case round =>
              obtain ⟨j, xs, hj, rfl, hrow, hfg⟩ := hrel
              have HROW := Lib.hid hrow
              have HFG := Lib.hid hfg
              by_cases hjl : j < a.d.length
              · obtain ⟨g1, cg, hv, _, _⟩ := hrow.form (by omega)
                injection hv with hv1 hv2 hv3
                subst hv1
                have hgg : G g1 := by
                  rw [HGD.out]
                  exact HOW5.out.lt g1 rfl
                have hxl := hrow.1
                obtain ⟨xj, hcell⟩ : ∃ xj, wr.cell? ⟨g1, j, none⟩ = some xj := ⟨_, (hrow.cellAt j (by omega)).trans (List.getElem?_eq_getElem (by omega))⟩
                have hfrz := hrow.frozenAt j
                have hst2 := Lib.hid (hrow.stored j (.string ⟨#[115, 112, 111, 105, 108, 116]⟩)).1
                have hfg2 := Lib.hid (hfg.trans (Fg.set _ ⟨g1, j, none⟩ (.string ⟨#[115, 112, 111, 105, 108, 116]⟩) hgg))
                have HJ2 : Hid (j + 1 ≤ a.d.length) := Lib.hid hjl
                clear hrow hfg hgg hxl
                go_wp2
                go_roundw
                case rel => exact ⟨j + 1, _, HJ2.out, by go_num, hst2.out, hfg2.out⟩
                case measure => simp [intOf]; have := HJ2.out; omega
              · obtain rfl : j = a.d.length := by omega
                have hfin := HBE.out.spoilt HFG.out (fun b h => Nat.le_trans (HTP.out.fr.size) (HGLO.out b h)) (HTP.out.nots HGLO.out)
                have HFI := Lib.hid hfin
                have HF1 := Lib.hid (HAE.out.fg HFG.out)
                have HF2 := Lib.hid (HBBE.out.fg HFG.out)
                clear hfin hrow hfg
                go_wp2
                go_meet
                exact ⟨_, L', told, errS a.n, rfl, rfl, htl, HF1.out, HF2.out, HFI.out, htot2⟩
        case rest =>
          obtain ⟨N', L', told, er, rfl, rfl, htl, ha, hb, hB, hN'⟩ := hcut
          obtain ⟨V1, rfl⟩ : ∃ V1 : World, V1 = wc := ⟨_, rfl⟩
          obtain ⟨Aa, ca, rfl, hra, -⟩ := ha
          obtain ⟨Ab, cb, rfl, hrb, -⟩ := hb
          obtain ⟨st', hst1⟩ : ∃ st', st' = run (l.take (k + 1)) := ⟨_, rfl⟩
          rw [← hst1] at hB htot2
          have hp := srt_perm hB.srt hB.ix.wf hB.mem
          have htL := tot_perm hp
          have hLl : L'.length ≤ 2000 := by rw [hp.length_eq]; have := len_tot (st := st'); omega
          have hLe : ∀ e ∈ L', e.d.length ≤ 1073741824 ∧ e.m.length ≤ 1073741824 := fun e he => by have := le_tot ((hB.mem e).1 he); omega
          have HX := has_any X be bd bm bc N' st' n0 HN0.out s HS.out V1 hB.ix
          have hgd := perm_getD (find_srt hB.srt hB.ix.wf hB.mem) hB.ix.wf hp n0 s
          have hgm := perm_getM (find_srt hB.srt hB.ix.wf hB.mem) hB.ix.wf hp n0 s
          obtain ⟨b1, hb1⟩ : ∃ b, b = decide (s ∈ getD st' n0) := ⟨_, rfl⟩
          obtain ⟨b2, hb2⟩ : ∃ b, b = decide (s ∈ getM st' n0) := ⟨_, rfl⟩
          rw [← hb1, ← hb2] at HX
          rw [← hb1] at hgd
          rw [← hb2] at hgm
          have HGD2 := Lib.hid hgd
          have HGM2 := Lib.hid hgm
          have HB1 := Lib.hid hB
          have HST1 := Lib.hid hst1
          have HPM := Lib.hid hp
          have HLE := Lib.hid hLe
          have HRA := Lib.hid hra
          have HRB := Lib.hid hrb
          clear hgd hgm hB hst1 hp hLe hra hrb hb1 hb2 htL L0 L1 L2 L3 P0 P1 P2 P3 hVP
          go_wp2_with fail
          refine HX.mono ?_
          rintro e W2 ⟨rfl, bel2⟩
          have HB2 := Lib.hid (HB1.out.frame (Fr.of_below bel2))
          have F2' := Lib.hid (Fr.of_below bel2)
          have HR := hasR_any Z L' n0 s W2 HB2.out.rx (by omega) HLE.out
          rw [HGD2.out, HGM2.out] at HR
          clear HX bel2
          go_wp2_with fail
          refine HR.mono ?_
          rintro e W3 ⟨rfl, q3, hq3⟩
          have f3 : Fr W2 W3 [] := by rw [hq3]; exact (Fr.refl' _).drewN _
          have HB3 := Lib.hid (HB2.out.frame f3)
          have F3' := Lib.hid (fr_trans0 F2'.out f3)
          have HK := known_any X be bd bm bc N' st' W3 HB3.out.ix (by omega)
          clear HR hq3 f3
          go_wp2_with fail
          refine HK.mono ?_
          rintro e W4 ⟨vk, rfl, hok, -, belk⟩
          have fk : Fr W3 W4 [] := Fr.of_below belk
          have HB4 := Lib.hid (HB3.out.frame fk)
          have FK := Lib.hid fk
          have F4' := Lib.hid (fr_trans0 F3'.out fk)
          obtain ⟨Ak, ck, rfl, hrk⟩ := RowOf.own hok
          have HOK := Lib.hid hok
          have HRK := Lib.hid hrk
          have hkl : (known st').length ≤ 2000 := Nat.le_trans (length_known st') (by omega)
          have hwl : (who st' s).length ≤ 2000 := Nat.le_trans (length_who st' s) (by omega)
          have hlL : (L'.flatMap (·.d)).length ≤ 1000000 := by have := length_labels L'; rw [tot_perm HPM.out] at this; omega
          have hkeq : known L' = known st' := mem_known_of HB4.out.mem
          have hweq : whoL L' s = who st' s := srt_who HB4.out.srt HB4.out.ix.wf HB4.out.mem s
          have hceq : cnt L' s = cnt st' s := perm_cnt HPM.out s
          have hleq : L'.length = st'.length := HPM.out.length_eq
          obtain ⟨kx, hkx⟩ : ∃ kx, kx = known st' := ⟨_, rfl⟩
          obtain ⟨wx, hwx⟩ : ∃ wx, wx = who st' s := ⟨_, rfl⟩
          obtain ⟨cx, hcx⟩ : ∃ cx, cx = cnt st' s := ⟨_, rfl⟩
          obtain ⟨lx, hlx⟩ : ∃ lx, lx = st'.length := ⟨_, rfl⟩
          rw [← hkx] at hkeq hkl HOK HRK ⊢
          rw [← hwx] at hweq hwl
          rw [← hcx] at hceq
          rw [← hlx] at hleq
          have C17a : Hid (∀ W, Fr W4 W [] → Calls Try.prog 17 #[.slice Aa told.length ca, .slice Ab told.length cb] W (SameOut W true)) := Lib.hid (fun W f => by
            have := same_any Aa Ab ca cb told told W ((fr_trans0 F4'.out f).reads HRA.out) ((fr_trans0 F4'.out f).reads HRB.out) (by omega) (by omega)
            rwa [decide_eq_true rfl] at this)
          have C20 : Hid (∀ W, Fr W4 W [] → Calls Try.prog 20 #[.pointer (some ⟨Z, 0, none⟩)] W fun e w' => ∃ v, e = .returned v ∧ w'.ownsRow W.heap.size 9 1 v kx.length (kx.map encStr) ∧ Below W.heap.size W w') := Lib.hid (fun W f => by
            have := knownR_any Z L' W (HB4.out.rx.fr f) (by omega) (by omega)
            rwa [hkeq] at this)
          have C13 : Hid (∀ W, Fr W4 W [] → Calls Try.prog 13 #[.pointer (some ⟨X, 0, none⟩), encStr s] W fun e w' => e = .returned (.int .i64 (cx : Int)) ∧ W = w') := Lib.hid (fun W f => by rw [hcx]; exact defined_any X be bd bm bc N' st' s HS.out W (HB4.out.ix.fr f (by simp)))
          have C21 : Hid (∀ W, Fr W4 W [] → Calls Try.prog 21 #[.pointer (some ⟨Z, 0, none⟩), encStr s] W fun e w' => e = .returned (.int .i64 (cx : Int)) ∧ W = w') := Lib.hid (fun W f => by rw [← hceq]; exact definedR_any Z L' s W (HB4.out.rx.fr f) (by omega) (fun e he => (HLE.out e he).1))
          have C23 : Hid (∀ W, Fr W4 W [] → Calls Try.prog 23 #[.pointer (some ⟨X, 0, none⟩), encStr s] W (IntsOut W wx)) := Lib.hid (fun W f => by rw [hwx]; exact who_any X be bd bm bc N' st' s HS.out W (HB4.out.ix.fr f (by simp)) (by omega))
          have C24 : Hid (∀ W, Fr W4 W [] → Calls Try.prog 24 #[.pointer (some ⟨Z, 0, none⟩), encStr s] W (IntsOut W wx)) := Lib.hid (fun W f => by rw [← hweq]; exact whoR_any Z L' s W (HB4.out.rx.fr f) (by omega) HLE.out)
          have C25 : Hid (∀ W, Fr W4 W [] → Calls Try.prog 25 #[.pointer (some ⟨X, 0, none⟩)] W fun e w' => e = .returned (.int .i64 (lx : Int)) ∧ W = w') := Lib.hid (fun W f => by rw [hlx]; exact len_any X be bd bm bc N' st' W (HB4.out.ix.fr f (by simp)))
          clear HK hok belk fk hrk hkeq hweq hceq hkx hwx hcx
          go_upto_region 27 with fail
          go_cut [174] (fun t wd => t = .bool false ∧ Fr W4 wd [])
          case first =>
            obtain ⟨AL, cal, hbk, _⟩ := HB4.out.rx
            have LZ0 := hbk.cell 0
            rw [hleq] at LZ0
            have LZ : W4.cell? ⟨Z, 0, none⟩ = some (.slice AL lx cal) := LZ0
            clear hbk LZ0 hleq HF HS HN0 F1 hw3 hZ B0 HT HR1 HR2 HSD HSM HST HLENS HWN HA hszP HFP HTP HST0 HGD2 HGM2 HB1 HST1 HPM HLE HRA HRB HB2 F2' HB3 F3' HB4 FK F4' HOK hj_ hy0 hy1 hy2
            go_region_held3 (fun W => W.cell? ⟨Z, 0, none⟩ = some (.slice AL lx cal) ∧ Hid (Fr W4 W [])) ((first | exact ⟨LZ, Lib.hid (Fr.refl' _).drew⟩ | exact ⟨(show Fr W4 _ [] from Hid.out (by assumption)).cell_some LZ, by assumption⟩)) (first
              | ((go_at_call 17); ((with_reducible refine (C17a.out _ ?_).mono ?_); (first | exact Hid.out (by assumption) | exact (Fr.refl' _).drew | exact (Fr.refl' _)); rintro e W5 ⟨rfl, q5, hq5⟩; have F5 : Hid (Fr W4 W5 []) := Lib.hid (by rw [hq5]; exact (Fr.refl' _).drew.drewN q5); have LZ5 := (Hid.out F5).cell_some LZ; clear hq5))
              | ((go_at_call 20); ((with_reducible refine (C20.out _ ?_).mono ?_); (first | exact Hid.out (by assumption) | exact (Fr.refl' _).drew | exact (Fr.refl' _)); rintro e W6 ⟨v6, rfl, ho6, bel6⟩; obtain ⟨Ar, cr, rfl, hr6⟩ := RowOf.own ho6; have F6 : Hid (Fr W4 W6 []) := Lib.hid (fr_trans0 (by first | exact Hid.out (by assumption) | exact (Fr.refl' _).drew) (Fr.of_below bel6)); have LZ6 := (Hid.out F6).cell_some LZ; have C17b : Hid (∀ W, Fr W6 W [] → Calls Try.prog 17 #[.slice Ak kx.length ck, .slice Ar kx.length cr] W (SameOut W true)) := Lib.hid (fun W f => same_true Ak Ar ck cr kx W ((fr_trans0 (Hid.out F6) f).reads HRK.out) (f.reads hr6) (by omega)); clear ho6 hr6 bel6))
              | ((go_at_call 17); ((with_reducible refine (C17b.out _ ?_).mono ?_); (first | exact Hid.out (by assumption) | exact (Fr.refl' _).drew | exact (Fr.refl' _)); rintro e W7 ⟨rfl, q7, hq7⟩; have F7 : Hid (Fr W4 W7 []) := Lib.hid (by rw [hq7]; exact F6.out.drewN q7); have LZ7 := (Hid.out F7).cell_some LZ; clear hq7))
              | ((go_at_call 13); ((with_reducible refine (C13.out _ ?_).mono ?_); (first | exact Hid.out (by assumption) | exact (Fr.refl' _).drew | exact (Fr.refl' _)); rintro e w9 ⟨rfl, rfl⟩))
              | ((go_at_call 21); ((with_reducible refine (C21.out _ ?_).mono ?_); (first | exact Hid.out (by assumption) | exact (Fr.refl' _).drew | exact (Fr.refl' _)); rintro e w9 ⟨rfl, rfl⟩))
              | ((go_at_call 25); ((with_reducible refine (C25.out _ ?_).mono ?_); (first | exact Hid.out (by assumption) | exact (Fr.refl' _).drew | exact (Fr.refl' _)); rintro e w9 ⟨rfl, rfl⟩))
              | ((go_at_call 23); ((with_reducible refine (C23.out _ ?_).mono ?_); (first | exact Hid.out (by assumption) | exact (Fr.refl' _).drew | exact (Fr.refl' _)); rintro e W8 ⟨v8, rfl, ho8, bel8⟩; obtain ⟨Aw, cw, rfl, hr8⟩ := int_row ho8; have F8 : Hid (Fr W4 W8 []) := Lib.hid (fr_trans0 (by first | exact Hid.out (by assumption) | exact (Fr.refl' _).drew) (Fr.of_below bel8)); have LZ8 := (Hid.out F8).cell_some LZ; have HR8 := Lib.hid hr8; have HF8 := Lib.hid (Fr.of_below bel8); clear ho8 hr8 bel8))
              | ((go_at_call 24); ((with_reducible refine (C24.out _ ?_).mono ?_); (first | exact Hid.out (by assumption) | exact (Fr.refl' _).drew | exact (Fr.refl' _)); rintro e W9 ⟨v9, rfl, ho9, bel9⟩; obtain ⟨Av, cv, rfl, hr9⟩ := int_row ho9; have F9 : Hid (Fr W4 W9 []) := Lib.hid (fr_trans0 (by first | exact Hid.out (by assumption) | exact (Fr.refl' _).drew) (Fr.of_below bel9)); have LZ9 := (Hid.out F9).cell_some LZ; have HR9 := Lib.hid hr9; have HF9 := Lib.hid (Fr.of_below bel9); clear ho9 hr9 bel9))
              | ((go_at_call 22); ((with_reducible refine (ints_true _ _ _ _ wx _ ?_ ?_ ?_).mono ?_); (first | exact HR8.out | exact HF9.out.reads HR8.out); (first | exact HR9.out | exact HF8.out.reads HR9.out); omega; rintro e W10 ⟨rfl, q10, hq10⟩; have F10 : Hid (Fr W4 W10 []) := Lib.hid (by rw [hq10]; exact Fr.drewN (Hid.out (by assumption)) q10); have LZ10 := (Hid.out F10).cell_some LZ; clear hq10)))
            all_goals
              go_wp2
              go_meet
              exact ⟨rfl, Hid.out (by assumption)⟩
          case rest =>
            obtain ⟨rfl, hfw⟩ := hcut
            obtain ⟨V5, rfl⟩ : ∃ V5 : World, V5 = wc := ⟨_, rfl⟩
            obtain ⟨G2, hG2⟩ : ∃ G2 : Nat → Prop, G2 = fun b => W3.heap.size ≤ b ∧ b < W4.heap.size := ⟨_, rfl⟩
            have hGlo : ∀ b, G2 b → W3.heap.size ≤ b := by rw [hG2]; exact fun b h => h.1
            have HB5 := Lib.hid (HB3.out.old (fr_trans0 FK.out hfw) hGlo)
            have OW5 := Lib.hid (hfw.own HOK.out)
            have HG2 := Lib.hid hG2
            have HGLO2 := Lib.hid hGlo
            clear hG2 hGlo hfw C17a C20 C13 C21 C23 C24 C25
            go_wp2
            go_loopw [23] (fun i wr2 => ∃ (j : Nat) (xs : List Value), j ≤ kx.length ∧ i = .int .i64 j ∧ wr2.ownsRow W3.heap.size 9 1 (.slice Ak kx.length ck) kx.length xs ∧ Fg G2 V5 wr2) (fun i _ => kx.length - (intOf i).toNat)
            case atStart => exact ⟨0, _, Nat.zero_le _, rfl, OW5.out, fg_refl _⟩
            case round =>
              obtain ⟨j, xs, hj, rfl, hrow, hfg⟩ := hrel
              have HROW := Lib.hid hrow
              have HFG := Lib.hid hfg
              by_cases hjl : j < kx.length
              · obtain ⟨g1, cg, hv, _, _⟩ := hrow.form (by omega)
                injection hv with hv1 hv2 hv3
                subst hv1
                have hgg : G2 g1 := by
                  rw [HG2.out]
                  exact HOK.out.lt g1 rfl
                have hxl := hrow.1
                obtain ⟨xj, hcell⟩ : ∃ xj, wr.cell? ⟨g1, j, none⟩ = some xj := ⟨_, (hrow.cellAt j (by omega)).trans (List.getElem?_eq_getElem (by omega))⟩
                have hfrz := hrow.frozenAt j
                have hst2 := Lib.hid (hrow.stored j (.string ⟨#[115, 112, 111, 105, 108, 116]⟩)).1
                have hfg2 := Lib.hid (hfg.trans (Fg.set _ ⟨g1, j, none⟩ (.string ⟨#[115, 112, 111, 105, 108, 116]⟩) hgg))
                have HJ2 : Hid (j + 1 ≤ kx.length) := Lib.hid hjl
                clear hrow hfg hgg hxl
                go_wp2
                go_roundw
                case rel => exact ⟨j + 1, _, HJ2.out, by go_num, hst2.out, hfg2.out⟩
                case measure => simp [intOf]; have := HJ2.out; omega
              · obtain rfl : j = kx.length := by omega
                have hfin := HB5.out.spoilt HFG.out (fun b h => Nat.le_trans (HB3.out.fr.size) (HGLO2.out b h)) (HB3.out.nots HGLO2.out)
                rw [HST1.out] at hfin
                have HFI := Lib.hid hfin
                clear hfin hrow hfg
                go_wp2
                go_roundw
                case rel => exact ⟨k + 1, N', L', HJ.out, by go_num, HFI.out, hN'⟩
                case measure => simp [intOf]; have := HJ.out; omega
      · obtain rfl : k = l.length := by omega
        obtain ⟨V1, rfl⟩ : ∃ V1 : World, V1 = wr := ⟨_, rfl⟩
        have htot := tot_run l l.length (Nat.le_refl _)
        obtain ⟨st', hst1⟩ : ∃ st', st' = run (l.take l.length) := ⟨_, rfl⟩
        rw [← hst1] at htot
        have hB : Both No w V1 X be bd bm bc Z N st' L := by rw [hst1]; exact HT.out
        have hp := srt_perm hB.srt hB.ix.wf hB.mem
        have hkl : (known st').length ≤ 2000 := Nat.le_trans (length_known st') (by omega)
        have hlL : (L.flatMap (·.d)).length ≤ 1000000 := by have := length_labels L; rw [tot_perm hp] at this; omega
        have hLl : L.length ≤ 2000 := by rw [hp.length_eq]; have := len_tot (st := st'); omega
        have hkeq : known L = known st' := mem_known_of hB.mem
        obtain ⟨kx, hkx⟩ : ∃ kx, kx = known st' := ⟨_, rfl⟩
        have HK := known_any X be bd bm bc N st' V1 hB.ix (by omega)
        rw [← hkx] at HK hkl hkeq
        have HBE := Lib.hid hB
        have HKE := Lib.hid hkeq
        clear ht hB hp hkeq hkx hst1
        go_wp2_with fail
        refine HK.mono ?_
        rintro e W2 ⟨v1, rfl, ho1, _, bel1⟩
        obtain ⟨Aa, ca, rfl, ra⟩ := RowOf.own ho1
        have f1 : Fr V1 W2 [] := Fr.of_below bel1
        have HR := knownR_any Z L W2 (HBE.out.rx.fr f1) (by omega) (by omega)
        rw [HKE.out] at HR
        have HF1 := Lib.hid f1
        have HRA := Lib.hid ra
        clear HK ho1 bel1 ra f1
        go_wp2_with fail
        refine HR.mono ?_
        rintro e W3 ⟨v2, rfl, ho2, bel2⟩
        obtain ⟨Ab, cb, rfl, rb⟩ := RowOf.own ho2
        have f2 : Fr W2 W3 [] := Fr.of_below bel2
        have SM := same_any Aa Ab ca cb kx kx W3 (f2.reads HRA.out) rb (by omega) (by omega)
        rw [decide_eq_true rfl] at SM
        have HF2 := Lib.hid (fr_trans0 HF1.out f2)
        clear HR ho2 bel2 rb f2
        go_wp2_with fail
        refine SM.mono ?_
        rintro e W4 ⟨rfl, q9, hq9⟩
        have HF4 := Lib.hid (fr_trans0 HF2.out (by rw [hq9]; exact (Fr.refl' _).drewN q9 : Fr W3 W4 []))
        clear SM hq9
        go_wp2_with fail
        refine (wakes_any _).mono ?_
        rintro e w9 ⟨rfl, hb9⟩
        have hfin : Below w.heap.size w w9 := (fr_trans0 (fr_trans0 HBE.out.fr HF4.out) (Fr.of_below hb9)).below
        have HFIN := Lib.hid hfin
        clear hb9 hfin
        go_wp2
        go_ret
        exact ⟨rfl, HFIN.out⟩

theorem own : ownKnob Try.prog.godebug = none := by kernel_rfl

set_option maxRecDepth 100000 in
theorem lifted (os : Os) (started : os.Started) (H : Type) (enc : TypeId × Value → H) :
    ReturnsInHanded {} Try.checked os 4 .any (Rows.indexPlaysSpec.pre6 enc Try.prog Try.f4 Rows.indexPlaysRow.domain false) (Rows.indexPlaysSpec.post enc Try.prog Try.f4 false true false false) := by
  refine returnsInHanded_of_change (C := Try.checked) own started (by kernel_rfl) Try.func4
    (ChangeSpec.witness6 (enc := enc) (C := Try.checked) false ⟨#[], #[.slice none 0 0, .string ⟨#[]⟩, .int .i64 0], []⟩ 8 (by kernel_rfl) (by kernel_rfl) (by kernel_rfl) (by kernel_rfl)) ?_
  intro W base args ds gs before hval0 hW hcnd _
  have hval : ∀ (j : Nat) t v, Try.f4.params[j]? = some t → args[j]? = some v → Value.okWide Try.prog W .any base t v := hval0
  have hW' := hW
  obtain ⟨p, q, hA0, hV, rfl, hfz, hnd⟩ := hW
  have hA : DataW.TrodAll enc Try.prog W 0 (fun _ => true) true Try.f4.params.toList args.toList ds p := hA0
  rw [Try.params4] at hA hval
  obtain ⟨v0, vs0, d0, ds0, p0, q0, hargs, rfl, rfl, h0, r0⟩ := trodAll_cons hA
  obtain ⟨v1, vs1, d1, ds1, p1, q1, rfl, rfl, rfl, h1, r1⟩ := trodAll_cons r0
  obtain ⟨v2, vs2, d2, ds2, p2, q2, rfl, rfl, rfl, h2, r2⟩ := trodAll_cons r1
  obtain ⟨rfl, rfl, rfl⟩ := trodAll_nil r2
  obtain rfl : args = #[v0, v1, v2] := by cases args; simp_all
  obtain ⟨rfl, rfl⟩ := trodVars_none hV
  obtain ⟨a0, len0, cap0, rfl⟩ := okWide_slice Try.underlying22 (hval 0 22 v0 rfl rfl)
  have k0 := h0
  have lt0 : ∀ x ∈ p0, x.block < W.heap.size := by obtain ⟨m, hm⟩ := k0; exact DataW.trod_lt m _ _ _ hm
  obtain ⟨s1, rfl, rfl, rfl, w1⟩ := open_string Try.underlying9 (hval 1 9 v1 rfl rfl) h1
  obtain ⟨a2, rfl, rfl, rfl, w2⟩ := open_int Try.underlying3 (hval 2 3 v2 rfl rfl) h2
  clear hA0 hval0
  obtain ⟨fuel, hfl⟩ := h0
  obtain ⟨A0, l, cap, hv, hacts, hfine⟩ := open_acts hfl lt0
  rw [hv] at hW' k0 ⊢
  have hs : (.string s1 : Value) = encStr s1.data.toList := rfl
  refine (walk A0 cap l s1.data.toList w1 a2 w2 W hacts hfine).mono fun e W' ⟨he, bel⟩ => ?_
  subst he
  exact ⟨_, rfl, _, _, _, [], _, [], hW', trodAll_mk1 (shut_bool Try.underlying4 _), (trodAll_cons_mk (Below.trod laidOut (by kernel_rfl) (of_decide_eq_true (by kernel_rfl)) k0 bel lt0) (trodAll_cons_mk (shut_string Try.underlying9 w1) (trodAll_cons_mk (shut_int Try.underlying3 w2) trodAll_mk0))), rfl, bel.frame _, fun h => by cases h⟩

theorem over : Rows.indexPlaysRow.holds Try.pinned (OpenSpec.ofChange Rows.indexPlaysSpec) :=
  OpenClaim.holds_of_wide 4 Try.f4 rfl rfl rfl rfl rfl rfl rfl ⟨rfl, rfl, rfl, rfl, rfl⟩ rfl rfl rfl rfl rfl (by kernel_rfl) Try.func4 (by kernel_rfl)
    (of_decide_eq_true (by kernel_rfl)) (by unfold Func.isWrapper; first | (rw [if_pos (by decide +kernel)]; kernel_rfl) | (rw [if_neg (by decide +kernel)]; exact ⟨rfl, rfl⟩))
    (fun os started H enc _ => lifted os started H enc)

end Go.Proofs.Ytkjmknmcbkofbaa.Plays

namespace Go.Proofs.Ytkjmknmcbkofbaa
/-- THE STATEMENT. -/
theorem indexPlays_holds : Rows.IndexPlaysSaid := Plays.over
#print axioms indexPlays_holds
end Go.Proofs.Ytkjmknmcbkofbaa
