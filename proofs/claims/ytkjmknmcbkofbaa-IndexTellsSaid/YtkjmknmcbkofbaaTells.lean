/-
  IndexTells: what each act tells is what became known, and what is known no more.
  Its conditions: none.
-/
import Derived.Test.YtkjmknmcbkofbaaTellsP
import Derived.Test.YtkjmknmcbkofbaaWakes
import Derived.Test.YtkjmknmcbkofbaaRows
import Derived.ProofKit
import Derived.OpenShut
import Derived.ShutString
import Derived.ChangeOld
import Derived.Deep.QuietTactic
import Derived.BigQuiet
import Derived.IntWalk
namespace Go.Proofs.Ytkjmknmcbkofbaa.Tells
open Go Go.Proofs Go.RowKit Go.Proofs.Ytkjmknmcbkofbaa
open Go.ChangeShapes Go.WideShapes Go.ChangeAt
set_option linter.unusedVariables false

set_option maxRecDepth 100000 in
set_option maxHeartbeats 4000000 in
theorem walk (A0 : Option Addr) (cap : Nat) (l : List A) (w : World) (hA : Acts w A0 l) (hF : Fine l) :
    Calls Try.prog 3 #[.slice A0 l.length cap] w fun e w' => e = .returned (.bool true) ∧ Below w.heap.size w w' := by
  have HA := Lib.hid hA
  have HF := Lib.hid hF
  have G := great_any A0 cap l w hA hF
  clear hA hF
  go_enter Try.func3, Try.ntmps3
  go_wp2_with fail
  refine G.mono ?_
  rintro e w1 ⟨b, rfl, hb, q, hq⟩
  have F1 : Hid (Fr w w1 []) := Lib.hid (by rw [hq]; exact (Fr.refl' w).drewN q)
  clear G hq
  cases b with
  | true =>
    clear hb
    go_wp2_with fail
    refine (wakes_any _).mono ?_
    rintro e w3 ⟨rfl, hb3⟩
    have HB3 := Lib.hid hb3
    clear hb3
    go_wp2
    go_ret
    exact ⟨rfl, (F1.out.trans (Fr.of_below HB3.out)).below⟩
  | false =>
    obtain ⟨h100, h600⟩ := hb rfl
    clear hb
    go_wp2_with fail
    refine (new_any _).mono ?_
    rintro e w2 ⟨X, be, bd, bm, bc, rfl, b1, b2, b3, b4, hi, hbel⟩
    have F2 : Hid (Fr w w2 []) := Lib.hid (by have := F1.out.trans (Fr.of_below hbel); simpa using this)
    have hs1 := F1.out.size
    have HI := Lib.hid hi
    clear hi hbel
    go_wp2
    go_loopw [4] (fun i wr => ∃ k N : Nat, k ≤ l.length ∧ i = .int .i64 k ∧ Idx wr X be bd bm bc N (run (l.take k)) ∧ N ≤ lens (l.take k) + k ∧ Fr w wr []) (fun i _ => l.length - (intOf i).toNat)
    case atStart => exact ⟨0, 0, Nat.zero_le _, rfl, by simpa [run] using HI.out, Nat.zero_le _, F2.out⟩
    case round =>
      obtain ⟨k, N, hk, rfl, hi, hN, hf⟩ := hrel
      have hll := lens_take_le l k
      have HFR := Lib.hid hf
      by_cases hlt : k < l.length
      · obtain ⟨ad, e0, hab, A1, c1, A2, c2, g0, g1, g2, g3, r1, r2⟩ := (HA.out.fr hf).at_ hlt
        obtain ⟨_, hwn, hld, hlm, hsd, hsm⟩ := HF.out.2 l[k] (List.getElem_mem hlt)
        have hst := run_take hlt
        have hlens := lens_take hlt
        have htot := tot_run l (k + 1) (by omega)
        have hll2 := lens_take_le l (k + 1)
        obtain ⟨a, ha⟩ : ∃ a, a = l[k] := ⟨_, rfl⟩
        rw [← ha] at g0 g1 g2 g3 r1 r2 hwn hsd hsm hst hlens
        obtain ⟨st, hst0⟩ : ∃ st, st = run (l.take k) := ⟨_, rfl⟩
        rw [← hst0] at hi hst
        obtain ⟨st', hst1⟩ : ∃ st', st' = actS st a := ⟨_, rfl⟩
        rw [← hst1] at hst
        rw [hst] at htot
        have hn1 := (wf64 hwn).2
        have hk1 : (known st).length ≤ 1000 := by
          have h1 := length_known st
          have h2 := tot_run l k hk
          rw [← hst0] at h2
          omega
        have hk2 : (known st').length ≤ 1000 := by
          have h1 := length_known st'
          omega
        subst e0
        have K1 := known_any X be bd bm bc N st wr hi (by omega)
        obtain ⟨kw, hkw⟩ : ∃ kw, kw = known st := ⟨_, rfl⟩
        obtain ⟨kn, hkn⟩ : ∃ kn, kn = known st' := ⟨_, rfl⟩
        rw [← hkw] at K1 hk1
        rw [← hkn] at hk2
        have HKW := Lib.hid hkw
        have HKN := Lib.hid hkn
        clear hkw hkn
        have G0 := Lib.hid g0
        have G1 := Lib.hid g1
        have G2 := Lib.hid g2
        have G3 := Lib.hid g3
        have R1 := Lib.hid r1
        have R2 := Lib.hid r2
        have HI' := Lib.hid hi
        have HST := Lib.hid hst
        have HST0 := Lib.hid hst0
        have HST1 := Lib.hid hst1
        have HSD := Lib.hid hsd
        have HSM := Lib.hid hsm
        have HLENS := Lib.hid hlens
        clear g0 g1 g2 g3 r1 r2 hi hst hst0 hst1 hsd hsm hwn ha hf hlens
        go_wp2_with fail
        refine K1.mono ?_
        rintro e wa ⟨v1, rfl, ho1, _, bel1⟩
        clear K1
        obtain ⟨Aw, cw, rfl, rw1⟩ := RowOf.own ho1
        have fa : Fr wr wa [] := Fr.of_below bel1
        have hia := HI'.out.fr fa (by simp)
        have ra1 := fa.reads R1.out
        have ra2 := fa.reads R2.out
        have L0 := (fa.cell (by rw [block_of_add]; exact hab)).trans G0.out
        have L1 : wa.cell? ⟨(ad.add (k * 4)).block, (ad.add (k * 4)).off + 1, none⟩ = _ := (fa.cell (p := (ad.add (k * 4)).add 1) (by rw [block_of_add, block_of_add]; exact hab)).trans G1.out
        have L2 : wa.cell? ⟨(ad.add (k * 4)).block, (ad.add (k * 4)).off + 2, none⟩ = _ := (fa.cell (p := (ad.add (k * 4)).add 2) (by rw [block_of_add, block_of_add]; exact hab)).trans G2.out
        have L3 : wa.cell? ⟨(ad.add (k * 4)).block, (ad.add (k * 4)).off + 3, none⟩ = _ := (fa.cell (p := (ad.add (k * 4)).add 3) (by rw [block_of_add, block_of_add]; exact hab)).trans G3.out
        have DS := done_step X be bd bm bc N st a.dd a.n hn1 A1 A2 c1 c2 a.d a.m wa hia ra1 ra2 HSD.out HSM.out (by omega) (by have := HLENS.out; omega) (by have := HLENS.out; omega)
        have e1 : stepS st a.n (actD a.dd a.d) (actD a.dd a.m) = st' := HST1.out.symm
        rw [e1] at DS
        have FA := Lib.hid fa
        have RW1 := Lib.hid rw1
        clear ho1 bel1 rw1 fa hia ra1 ra2 e1
        go_wp2_with fail
        refine DS.mono ?_
        rintro e wb ⟨v2, told, rfl, ho2, hu2, hm2, hib, fb0⟩
        obtain ⟨At, ct, rfl, rt⟩ := RowOf.own ho2
        have fb : Fr w wb [] := by
          have := (HFR.out.trans FA.out).trans fb0
          refine this.strip (fun b hb hlt => ?_) (fun b hb => by simp at hb)
          have := F1.out.size
          simp at hb
          omega
        have rwb := fb0.reads RW1.out
        have htl : told.length ≤ 2000 := by
          have := told_len hu2 hm2
          rw [← HKW.out, ← HKN.out] at this
          omega
        have K2 := known_any X be bd bm bc (tot st') st' wb hib (by omega)
        rw [← HKN.out] at K2
        have HIB := Lib.hid hib
        have FB := Lib.hid fb
        have RT := Lib.hid rt
        have RWB := Lib.hid rwb
        have HU := Lib.hid hu2
        have HM := Lib.hid hm2
        clear DS L0 L1 L2 L3 ho2 hu2 hm2 hib fb0 rt rwb fb RW1 FA R1 R2 HI' G0 G1 G2 G3 HSD HSM
        go_wp2_with fail
        refine K2.mono ?_
        rintro e wc ⟨v3, rfl, ho3, _, bel3⟩
        obtain ⟨An, cn, rfl, rn⟩ := RowOf.own ho3
        have fc : Fr wb wc [] := Fr.of_below bel3
        have hic := HIB.out.fr fc (by simp)
        have HIC := Lib.hid hic
        have RT' := Lib.hid (fc.reads RT.out)
        have RW' := Lib.hid (fc.reads RWB.out)
        have RN' := Lib.hid rn
        have FC : Hid (Fr w wc []) := Lib.hid (by have := FB.out.trans fc; simpa using this)
        clear K2 ho3 bel3 rn fc hic RT RWB HIB FB
        have hT : (errS a.n = 1 ∧ told = []) ∨ errS a.n = 0 := by
          by_cases hn : a.n < 0
          · refine .inl ⟨by unfold errS; rw [if_pos hn], told_nil (st := st) (fun s => by
              rw [HM.out s, HST1.out]
              unfold actS stepS
              rw [if_pos hn])⟩
          · exact .inr (by unfold errS; rw [if_neg hn])
        obtain ⟨er, her⟩ : ∃ er, errS a.n = er := ⟨_, rfl⟩
        rw [her] at hT
        have HT := Lib.hid hT
        go_upto_region 10 with fail
        clear her hT
        go_cut [42] (fun t wd => t = .bool false ∧ wd = wc)
        case first =>
          rcases HT.out with ⟨rfl, rfl⟩ | rfl
          · go_wp2
            go_meet
            exact ⟨rfl, rfl⟩
          · go_wp2
            go_meet
            exact ⟨rfl, rfl⟩
        case rest =>
          obtain ⟨rfl, rfl⟩ := hcut
          have CW : ∀ (s : Str) (W : World), Fr wc W [] → Calls Try.prog 12 #[encStr s, .slice Aw kw.length cw] W fun e w' => e = .returned (.bool (decide (s ∈ kw))) ∧ w' = W := fun s W f => within_any s Aw cw kw W (f.reads RW'.out) (by omega)
          have CN : ∀ (s : Str) (W : World), Fr wc W [] → Calls Try.prog 12 #[encStr s, .slice An kn.length cn] W fun e w' => e = .returned (.bool (decide (s ∈ kn))) ∧ w' = W := fun s W f => within_any s An cn kn W (f.reads RN'.out) (by omega)
          have CW' := Lib.hid CW
          have CN' := Lib.hid CN
          clear CW CN
          go_wp2
          go_loopw [9] (fun i wr2 => ∃ j : Nat, j ≤ told.length ∧ i = .int .i64 j ∧ Fr wc wr2 []) (fun i _ => told.length - (intOf i).toNat)
          case atStart => exact ⟨0, Nat.zero_le _, rfl, Fr.refl' _⟩
          case round =>
            obtain ⟨j, hj, rfl, hf2⟩ := hrel
            have HF2 := Lib.hid hf2
            clear hf2
            by_cases hjl : j < told.length
            · obtain ⟨ad2, rfl, hab2, hcell2⟩ := (HF2.out.reads RT'.out).one hjl rfl
              have hd := told_differ HM.out (List.getElem_mem hjl)
              have cw1 := fun n => CW'.out told[j] (wr.drewN n) (HF2.out.drewN n)
              have cn1 := fun n => CN'.out told[j] (wr.drewN n) (HF2.out.drewN n)
              rw [← HKW.out, ← HKN.out] at hd
              rw [hd] at cw1
              have hup := Lib.hid (fun h0 => up_at HU.out hjl h0)
              obtain ⟨s, hs⟩ : ∃ s, s = told[j] := ⟨_, rfl⟩
              rw [← hs] at hcell2 cw1 cn1 hup
              obtain ⟨b, hb⟩ : ∃ b, b = decide (s ∈ kn) := ⟨_, rfl⟩
              rw [← hb] at cw1 cn1
              have HNX : Hid (j + 1 ≤ told.length) := Lib.hid hjl
              have CW1 := Lib.hid cw1
              have CN1 := Lib.hid cn1
              clear cw1 cn1 hd hs hb
              rcases Nat.eq_zero_or_pos j with h0 | h0
              · have hz : decide ((0 : Int) < (j : Int)) = false := decide_eq_false (by omega)
                have hz2 : decide (0 < j) = false := decide_eq_false (by omega)
                clear h0
                cases b with
                | false =>
                  have CWQ : Hid (∀ n, Calls Try.prog 12 #[encStr s, Value.slice Aw kw.length cw] (wr.drewN n) fun e w'' => e = .returned (.bool true) ∧ ∃ m, w'' = wr.drewN m) := fun n => Calls.quiet_of_same (CW1.out n)
                  have CNQ : Hid (∀ n, Calls Try.prog 12 #[encStr s, Value.slice An kn.length cn] (wr.drewN n) fun e w'' => e = .returned (.bool false) ∧ ∃ m, w'' = wr.drewN m) := fun n => Calls.quiet_of_same (CN1.out n)
                  clear CW1 CN1
                  go_wp2
                  go_big_quiet (first | with_reducible exact CWQ.out _ | with_reducible exact CNQ.out _)
                  go_wp2
                  go_roundw
                  case rel => exact ⟨j + 1, HNX.out, by go_num, HF2.out.drewN _⟩
                  case measure => simp [intOf]; have := HNX.out; omega
                | true =>
                  have CWQ : Hid (∀ n, Calls Try.prog 12 #[encStr s, Value.slice Aw kw.length cw] (wr.drewN n) fun e w'' => e = .returned (.bool false) ∧ ∃ m, w'' = wr.drewN m) := fun n => Calls.quiet_of_same (CW1.out n)
                  have CNQ : Hid (∀ n, Calls Try.prog 12 #[encStr s, Value.slice An kn.length cn] (wr.drewN n) fun e w'' => e = .returned (.bool true) ∧ ∃ m, w'' = wr.drewN m) := fun n => Calls.quiet_of_same (CN1.out n)
                  clear CW1 CN1
                  go_wp2
                  go_big_quiet (first | with_reducible exact CWQ.out _ | with_reducible exact CNQ.out _)
                  go_wp2
                  go_roundw
                  case rel => exact ⟨j + 1, HNX.out, by go_num, HF2.out.drewN _⟩
                  case measure => simp [intOf]; have := HNX.out; omega
              · have hjm : j - 1 < told.length := by omega
                obtain ⟨ad3, e3, hab3, hcell3⟩ := (HF2.out.reads RT'.out).one hjm rfl
                injection e3 with e3
                subst e3
                have hlt3 := hup.out h0
                obtain ⟨s3, hs3⟩ : ∃ s3, s3 = told[j - 1] := ⟨_, rfl⟩
                rw [← hs3] at hcell3 hlt3
                have hge := geq_up hlt3
                have hz : decide ((0 : Int) < (j : Int)) = true := decide_eq_true (by omega)
                have hz2 : decide (0 < j) = true := decide_eq_true (by omega)
                have hw1 : IntKind.i64.wrap ((j : Int) - 1) = (j : Int) - 1 := IntWalk.i64_in _ (by omega)
                have hw2 : (0 : Int) ≤ (j : Int) - 1 := by omega
                have hw3 : ((j : Int) - 1).toNat = j - 1 := by omega
                have hw4 : ((j : Int) - 1) < (told.length : Int) := by omega
                clear hs3 hlt3 h0 hjm
                cases b with
                | false =>
                  have CWQ : Hid (∀ n, Calls Try.prog 12 #[encStr s, Value.slice Aw kw.length cw] (wr.drewN n) fun e w'' => e = .returned (.bool true) ∧ ∃ m, w'' = wr.drewN m) := fun n => Calls.quiet_of_same (CW1.out n)
                  have CNQ : Hid (∀ n, Calls Try.prog 12 #[encStr s, Value.slice An kn.length cn] (wr.drewN n) fun e w'' => e = .returned (.bool false) ∧ ∃ m, w'' = wr.drewN m) := fun n => Calls.quiet_of_same (CN1.out n)
                  clear CW1 CN1
                  go_wp2
                  go_big_quiet (first | with_reducible exact CWQ.out _ | with_reducible exact CNQ.out _)
                  go_wp2
                  go_roundw
                  case rel => exact ⟨j + 1, HNX.out, by go_num, HF2.out.drewN _⟩
                  case measure => simp [intOf]; have := HNX.out; omega
                | true =>
                  have CWQ : Hid (∀ n, Calls Try.prog 12 #[encStr s, Value.slice Aw kw.length cw] (wr.drewN n) fun e w'' => e = .returned (.bool false) ∧ ∃ m, w'' = wr.drewN m) := fun n => Calls.quiet_of_same (CW1.out n)
                  have CNQ : Hid (∀ n, Calls Try.prog 12 #[encStr s, Value.slice An kn.length cn] (wr.drewN n) fun e w'' => e = .returned (.bool true) ∧ ∃ m, w'' = wr.drewN m) := fun n => Calls.quiet_of_same (CN1.out n)
                  clear CW1 CN1
                  go_wp2
                  go_big_quiet (first | with_reducible exact CWQ.out _ | with_reducible exact CNQ.out _)
                  go_wp2
                  go_roundw
                  case rel => exact ⟨j + 1, HNX.out, by go_num, HF2.out.drewN _⟩
                  case measure => simp [intOf]; have := HNX.out; omega
            · obtain rfl : j = told.length := by omega
              obtain ⟨V1, rfl⟩ : ∃ V1 : World, V1 = wr := ⟨_, rfl⟩
              go_wp2
              go_loopw [10, 11] (fun nn i wr2 => ∃ j : Nat, j ≤ kw.length ∧ i = .int .i64 j ∧ nn = .int .i64 ((kw.take j).filter (fun s => decide (s ∉ kn))).length ∧ Fr wc wr2 []) (fun _ i _ => kw.length - (intOf i).toNat)
              case atStart => exact ⟨0, Nat.zero_le _, rfl, by simp, HF2.out⟩
              case round =>
                obtain ⟨j, hj, rfl, rfl, hf3⟩ := hrel
                have HF3 := Lib.hid hf3
                have hfl := take_filter_le kw j (fun s => decide (s ∉ kn))
                clear hf3
                by_cases hjl : j < kw.length
                · obtain ⟨ad2, rfl, hab2, hcell2⟩ := (HF3.out.reads RW'.out).one hjl rfl
                  have hnext := take_filter hjl (fun s => decide (s ∉ kn))
                  have cn1 := CN'.out kw[j] wr HF3.out
                  obtain ⟨s, hs⟩ : ∃ s, s = kw[j] := ⟨_, rfl⟩
                  rw [← hs] at hcell2 cn1 hnext
                  obtain ⟨z, hz⟩ : ∃ z, z = ((kw.take j).filter (fun s => decide (s ∉ kn))).length := ⟨_, rfl⟩
                  rw [← hz] at hnext hfl ⊢
                  have HNX := Lib.hid hnext
                  clear hnext hz
                  by_cases hm : s ∈ kn
                  · have hd : decide (s ∈ kn) = true := by simpa using hm
                    have hn2 : ((kw.take (j + 1)).filter (fun s => decide (s ∉ kn))).length = z := by rw [HNX.out]; simp [hm]
                    rw [hd] at cn1
                    have HN2 := Lib.hid hn2
                    clear hd hn2 hm hs
                    go_wp2_with (go_at_call 12; refine cn1.mono ?_; rintro e w9 ⟨rfl, rfl⟩)
                    go_roundw
                    case rel => exact ⟨j + 1, hjl, by go_num, by rw [HN2.out], HF3.out⟩
                    case measure => simp [intOf]; omega
                  · have hd : decide (s ∈ kn) = false := by simpa using hm
                    have hn2 : ((kw.take (j + 1)).filter (fun s => decide (s ∉ kn))).length = z + 1 := by rw [HNX.out]; simp [hm]
                    rw [hd] at cn1
                    have HN2 := Lib.hid hn2
                    clear hd hn2 hm hs
                    go_wp2_with (go_at_call 12; refine cn1.mono ?_; rintro e w9 ⟨rfl, rfl⟩)
                    go_roundw
                    case rel => exact ⟨j + 1, hjl, by go_num, by rw [HN2.out]; go_num, HF3.out⟩
                    case measure => simp [intOf]; omega
                · obtain rfl : j = kw.length := by omega
                  rw [List.take_length] at hfl ⊢
                  obtain ⟨V2, rfl⟩ : ∃ V2 : World, V2 = wr := ⟨_, rfl⟩
                  obtain ⟨y, hy⟩ : ∃ y, y = (kw.filter (fun s => decide (s ∉ kn))).length := ⟨_, rfl⟩
                  rw [← hy] at hfl ⊢
                  have HY := Lib.hid hy
                  clear hy
                  go_wp2
                  go_loopw [10, 12] (fun nn i wr2 => ∃ j : Nat, j ≤ kn.length ∧ i = .int .i64 j ∧ nn = .int .i64 ((y : Int) + ((kn.take j).filter (fun s => decide (s ∉ kw))).length) ∧ Fr wc wr2 []) (fun _ i _ => kn.length - (intOf i).toNat)
                  case atStart => exact ⟨0, Nat.zero_le _, rfl, by simp, HF3.out⟩
                  case round =>
                    clear HF3
                    obtain ⟨j, hj, rfl, rfl, hf3⟩ := hrel
                    have HF3 := Lib.hid hf3
                    have hfl2 := take_filter_le kn j (fun s => decide (s ∉ kw))
                    clear hf3
                    by_cases hjl : j < kn.length
                    · obtain ⟨ad2, rfl, hab2, hcell2⟩ := (HF3.out.reads RN'.out).one hjl rfl
                      have hnext := take_filter hjl (fun s => decide (s ∉ kw))
                      have cw1 := CW'.out kn[j] wr HF3.out
                      have hup := Lib.hid (fun h0 => up_at (by rw [HKN.out]; exact up_known st' : Up kn) hjl h0)
                      have hin : kn[j] ∈ known st' := by rw [← HKN.out]; exact List.getElem_mem hjl
                      have hcp := mem_known.1 hin
                      have hsl : kn[j].length ≤ maxLen := by
                        obtain ⟨e, he, hs⟩ := mem_cnt.1 hcp
                        exact (HIC.out.wf.str e he).1 _ hs
                      have d13 : ∀ n, Calls Try.prog 13 #[.pointer (some ⟨X, 0, none⟩), encStr kn[j]] (wr.drewN n) fun e w'' => e = .returned (.int .i64 (cnt st' kn[j])) ∧ ∃ m, w'' = wr.drewN m := fun n =>
                        (defined_any X be bd bm bc (tot st') st' kn[j] hsl (wr.drewN n) (HIC.out.fr (HF3.out.drewN n) (by simp))).mono fun _ _ ⟨he, hw⟩ => ⟨he, n, hw.symm⟩
                      obtain ⟨s, hs⟩ : ∃ s, s = kn[j] := ⟨_, rfl⟩
                      rw [← hs] at hcell2 cw1 hnext hup hcp d13
                      obtain ⟨c, hc⟩ : ∃ c, c = cnt st' s := ⟨_, rfl⟩
                      rw [← hc] at hcp d13
                      obtain ⟨z, hz⟩ : ∃ z, z = ((kn.take j).filter (fun s => decide (s ∉ kw))).length := ⟨_, rfl⟩
                      rw [← hz] at hnext hfl2 ⊢
                      have HNX := Lib.hid hnext
                      have D13 := Lib.hid d13
                      have HJ : Hid (j + 1 ≤ kn.length) := Lib.hid hjl
                      have hc1 : decide ((c : Int) < 1) = false := decide_eq_false (by omega)
                      have hc2 : decide (c < 1) = false := decide_eq_false (by omega)
                      clear hnext hz d13 hc hin hsl
                      by_cases hm : s ∈ kw
                      · have hd : decide (s ∈ kw) = true := by simpa using hm
                        have hn2 : ((kn.take (j + 1)).filter (fun s => decide (s ∉ kw))).length = z := by rw [HNX.out]; simp [hm]
                        rw [hd] at cw1
                        have HN2 := Lib.hid hn2
                        clear hd hn2 hm hs
                        rcases Nat.eq_zero_or_pos j with h0 | h0
                        · have hz : decide ((0 : Int) < (j : Int)) = false := decide_eq_false (by omega)
                          have hz2 : decide (0 < j) = false := decide_eq_false (by omega)
                          clear h0
                          go_wp2_with (go_at_call 12; refine cw1.mono ?_; rintro e w9 ⟨rfl, rfl⟩)
                          go_big_quiet (with_reducible exact D13.out _)
                          go_wp2
                          go_roundw
                          case rel => exact ⟨j + 1, HJ.out, by go_num, by rw [HN2.out], HF3.out.drewN _⟩
                          case measure => simp [intOf]; have := HJ.out; omega
                        · have hjm : j - 1 < kn.length := by omega
                          obtain ⟨ad3, e3, hab3, hcell3⟩ := (HF3.out.reads RN'.out).one hjm rfl
                          injection e3 with e3
                          subst e3
                          have hlt3 := hup.out h0
                          obtain ⟨s3, hs3⟩ : ∃ s3, s3 = kn[j - 1] := ⟨_, rfl⟩
                          rw [← hs3] at hcell3 hlt3
                          have hge := geq_up hlt3
                          have hz : decide ((0 : Int) < (j : Int)) = true := decide_eq_true (by omega)
                          have hz2 : decide (0 < j) = true := decide_eq_true (by omega)
                          have hw1 : IntKind.i64.wrap ((j : Int) - 1) = (j : Int) - 1 := IntWalk.i64_in _ (by omega)
                          have hw2 : (0 : Int) ≤ (j : Int) - 1 := by omega
                          have hw3 : ((j : Int) - 1).toNat = j - 1 := by omega
                          have hw4 : ((j : Int) - 1) < (kn.length : Int) := by omega
                          clear hs3 hlt3 h0 hjm
                          go_wp2_with (go_at_call 12; refine cw1.mono ?_; rintro e w9 ⟨rfl, rfl⟩)
                          go_big_quiet (with_reducible exact D13.out _)
                          go_wp2
                          go_roundw
                          case rel => exact ⟨j + 1, HJ.out, by go_num, by rw [HN2.out], HF3.out.drewN _⟩
                          case measure => simp [intOf]; have := HJ.out; omega
                      · have hd : decide (s ∈ kw) = false := by simpa using hm
                        have hn2 : ((kn.take (j + 1)).filter (fun s => decide (s ∉ kw))).length = z + 1 := by rw [HNX.out]; simp [hm]
                        rw [hd] at cw1
                        have HN2 := Lib.hid hn2
                        clear hd hn2 hm hs
                        rcases Nat.eq_zero_or_pos j with h0 | h0
                        · have hz : decide ((0 : Int) < (j : Int)) = false := decide_eq_false (by omega)
                          have hz2 : decide (0 < j) = false := decide_eq_false (by omega)
                          clear h0
                          go_wp2_with (go_at_call 12; refine cw1.mono ?_; rintro e w9 ⟨rfl, rfl⟩)
                          go_big_quiet (with_reducible exact D13.out _)
                          go_wp2
                          go_roundw
                          case rel => exact ⟨j + 1, HJ.out, by go_num, by rw [HN2.out]; go_num, HF3.out.drewN _⟩
                          case measure => simp [intOf]; have := HJ.out; omega
                        · have hjm : j - 1 < kn.length := by omega
                          obtain ⟨ad3, e3, hab3, hcell3⟩ := (HF3.out.reads RN'.out).one hjm rfl
                          injection e3 with e3
                          subst e3
                          have hlt3 := hup.out h0
                          obtain ⟨s3, hs3⟩ : ∃ s3, s3 = kn[j - 1] := ⟨_, rfl⟩
                          rw [← hs3] at hcell3 hlt3
                          have hge := geq_up hlt3
                          have hz : decide ((0 : Int) < (j : Int)) = true := decide_eq_true (by omega)
                          have hz2 : decide (0 < j) = true := decide_eq_true (by omega)
                          have hw1 : IntKind.i64.wrap ((j : Int) - 1) = (j : Int) - 1 := IntWalk.i64_in _ (by omega)
                          have hw2 : (0 : Int) ≤ (j : Int) - 1 := by omega
                          have hw3 : ((j : Int) - 1).toNat = j - 1 := by omega
                          have hw4 : ((j : Int) - 1) < (kn.length : Int) := by omega
                          clear hs3 hlt3 h0 hjm
                          go_wp2_with (go_at_call 12; refine cw1.mono ?_; rintro e w9 ⟨rfl, rfl⟩)
                          go_big_quiet (with_reducible exact D13.out _)
                          go_wp2
                          go_roundw
                          case rel => exact ⟨j + 1, HJ.out, by go_num, by rw [HN2.out]; go_num, HF3.out.drewN _⟩
                          case measure => simp [intOf]; have := HJ.out; omega
                    · obtain rfl : j = kn.length := by omega
                      rw [List.take_length]
                      have htc := told_count HU.out HM.out
                      rw [← HKW.out, ← HKN.out, ← HY.out] at htc
                      rw [show (y : Int) + ((kn.filter (fun s => decide (s ∉ kw))).length : Nat) = (told.length : Int) by omega]
                      have hfin : Fr w wr [] := by have := FC.out.trans HF3.out; simpa using this
                      have hidx := HIC.out.fr HF3.out (by simp)
                      rw [← HST.out] at hidx
                      have HIDX := Lib.hid hidx
                      have HFIN := Lib.hid hfin
                      have htot' : tot st' ≤ lens (l.take (k + 1)) + (k + 1) := htot
                      rw [← HST.out] at htot'
                      have HTT := Lib.hid htot'
                      have hk1' : Hid (k + 1 ≤ l.length) := Lib.hid hlt
                      clear htc hfin hidx htot' hfl2
                      go_wp2
                      go_roundw
                      case rel => exact ⟨k + 1, _, hk1'.out, by go_num, HIDX.out, HTT.out, HFIN.out⟩
                      case measure => simp [intOf]; have := hk1'.out; omega
      · obtain rfl : k = l.length := by omega
        obtain ⟨V1, rfl⟩ : ∃ V1 : World, V1 = wr := ⟨_, rfl⟩
        clear hi hf
        go_wp2_with fail
        refine (wakes_any _).mono ?_
        rintro e w3 ⟨rfl, hb3⟩
        have HB3 := Lib.hid hb3
        clear hb3
        go_wp2
        go_ret
        exact ⟨rfl, (HFR.out.trans (Fr.of_below HB3.out)).below⟩

theorem own : ownKnob Try.prog.godebug = none := by kernel_rfl

set_option maxRecDepth 100000 in
theorem lifted (os : Os) (started : os.Started) (H : Type) (enc : TypeId × Value → H) :
    ReturnsInHanded {} Try.checked os 3 .any (Rows.indexTellsSpec.pre6 enc Try.prog Try.f3 Rows.indexTellsRow.domain false) (Rows.indexTellsSpec.post enc Try.prog Try.f3 false true false false) := by
  refine returnsInHanded_of_change (C := Try.checked) own started (by kernel_rfl) Try.func3
    (ChangeSpec.witness6 (enc := enc) (C := Try.checked) false ⟨#[], #[.slice none 0 0], []⟩ 8 (by kernel_rfl) (by kernel_rfl) (by kernel_rfl) (by kernel_rfl)) ?_
  intro W base args ds gs before hval0 hW hcnd _
  have hval : ∀ (j : Nat) t v, Try.f3.params[j]? = some t → args[j]? = some v → Value.okWide Try.prog W .any base t v := hval0
  have hW' := hW
  obtain ⟨p, q, hA0, hV, rfl, hfz, hnd⟩ := hW
  have hA : DataW.TrodAll enc Try.prog W 0 (fun _ => true) true Try.f3.params.toList args.toList ds p := hA0
  rw [Try.params3] at hA hval
  obtain ⟨v0, vs0, d0, ds0, p0, q0, hargs, rfl, rfl, h0, r0⟩ := trodAll_cons hA
  obtain ⟨rfl, rfl, rfl⟩ := trodAll_nil r0
  obtain rfl : args = #[v0] := by cases args; simp_all
  obtain ⟨rfl, rfl⟩ := trodVars_none hV
  obtain ⟨a0, len0, cap0, rfl⟩ := okWide_slice Try.underlying22 (hval 0 22 v0 rfl rfl)
  have k0 := h0
  have lt0 : ∀ x ∈ p0, x.block < W.heap.size := by obtain ⟨m, hm⟩ := k0; exact DataW.trod_lt m _ _ _ hm
  clear hA0 hval0
  obtain ⟨fuel, hfl⟩ := h0
  obtain ⟨A0, l, cap, hv, hacts, hfine⟩ := open_acts hfl lt0
  rw [hv] at hW' k0 ⊢
  refine (walk A0 cap l W hacts hfine).mono fun e W' ⟨he, bel⟩ => ?_
  subst he
  exact ⟨_, rfl, _, _, _, [], _, [], hW', trodAll_mk1 (shut_bool Try.underlying4 _), (trodAll_cons_mk (Below.trod laidOut (by kernel_rfl) (of_decide_eq_true (by kernel_rfl)) k0 bel lt0) trodAll_mk0), rfl, bel.frame _, fun h => by cases h⟩

theorem over : Rows.indexTellsRow.holds Try.pinned (OpenSpec.ofChange Rows.indexTellsSpec) :=
  OpenClaim.holds_of_wide 3 Try.f3 rfl rfl rfl rfl rfl rfl rfl ⟨rfl, rfl, rfl, rfl, rfl⟩ rfl rfl rfl rfl rfl (by kernel_rfl) Try.func3 (by kernel_rfl)
    (of_decide_eq_true (by kernel_rfl)) (by unfold Func.isWrapper; first | (rw [if_pos (by decide +kernel)]; kernel_rfl) | (rw [if_neg (by decide +kernel)]; exact ⟨rfl, rfl⟩))
    (fun os started H enc _ => lifted os started H enc)

end Go.Proofs.Ytkjmknmcbkofbaa.Tells

namespace Go.Proofs.Ytkjmknmcbkofbaa
/-- THE STATEMENT. -/
theorem indexTells_holds : Rows.IndexTellsSaid := Tells.over
#print axioms indexTells_holds
end Go.Proofs.Ytkjmknmcbkofbaa
