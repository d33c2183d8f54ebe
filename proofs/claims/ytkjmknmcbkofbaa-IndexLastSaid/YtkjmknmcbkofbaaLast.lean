/-
  IndexLast: an index hangs on the last that was said of each number alone.
  Its conditions: none.
-/
import Derived.Test.YtkjmknmcbkofbaaLastP
import Derived.Test.YtkjmknmcbkofbaaWakes
import Derived.Test.YtkjmknmcbkofbaaRows
import Derived.ProofKit
import Derived.OpenShut
import Derived.ShutString
import Derived.ChangeOld
import Derived.Deep.QuietTactic
import Derived.BigQuiet
import Derived.IntWalk
namespace Go.Proofs.Ytkjmknmcbkofbaa.Last
open Go Go.Proofs Go.RowKit Go.Proofs.Ytkjmknmcbkofbaa
open Go.ChangeShapes Go.WideShapes Go.ChangeAt
open Go.ChangeMaps (open_string shut_string)
set_option linter.unusedVariables false
set_option linter.unusedSimpArgs false

/-- Two indexes in one world. -/
structure Two (w wr : World) (X be bd bm bc Y ye yd ym yc N M : Nat) (st sy : St) : Prop where
  ix : Idx wr X be bd bm bc N st
  iy : Idx wr Y ye yd ym yc M sy
  fr : Fr w wr []

theorem Two.step {w wr w' : World} {X be bd bm bc Y ye yd ym yc N M : Nat} {st sy : St} (h : Two w wr X be bd bm bc Y ye yd ym yc N M st sy) (f : Fr wr w' []) : Two w w' X be bd bm bc Y ye yd ym yc N M st sy :=
  ⟨h.ix.fr f (by simp), h.iy.fr f (by simp), by have := h.fr.trans f; simpa using this⟩
theorem Two.stepX {w wr w' : World} {X be bd bm bc Y ye yd ym yc N M N' B : Nat} {st sy st' : St} (h : Two w wr X be bd bm bc Y ye yd ym yc N M st sy) (f : Fr wr w' [be, bd, bm, bc]) (hi : Idx w' X be bd bm bc N' st')
    (h1 : w.heap.size ≤ be ∧ w.heap.size ≤ bd ∧ w.heap.size ≤ bm ∧ w.heap.size ≤ bc) (h2 : be < B ∧ bd < B ∧ bm < B ∧ bc < B) (h3 : B ≤ ye ∧ B ≤ yd ∧ B ≤ ym ∧ B ≤ yc) : Two w w' X be bd bm bc Y ye yd ym yc N' M st' sy :=
  ⟨hi, h.iy.fr f (by simp; omega), (h.fr.trans f).strip (fun b hb hlt => by simp at hb; omega) (fun b hb => by simp at hb)⟩
theorem Two.stepY {w wr w' : World} {X be bd bm bc Y ye yd ym yc N M M' B : Nat} {st sy sy' : St} (h : Two w wr X be bd bm bc Y ye yd ym yc N M st sy) (f : Fr wr w' [ye, yd, ym, yc]) (hi : Idx w' Y ye yd ym yc M' sy')
    (h1 : w.heap.size ≤ be ∧ w.heap.size ≤ bd ∧ w.heap.size ≤ bm ∧ w.heap.size ≤ bc) (h2 : be < B ∧ bd < B ∧ bm < B ∧ bc < B) (h3 : B ≤ ye ∧ B ≤ yd ∧ B ≤ ym ∧ B ≤ yc) : Two w w' X be bd bm bc Y ye yd ym yc N M' st sy' :=
  ⟨h.ix.fr f (by simp; omega), hi, (h.fr.trans f).strip (fun b hb hlt => by simp at hb; omega) (fun b hb => by simp at hb)⟩

theorem Idx.lts {w : World} {X be bd bm bc N : Nat} {st : St} (h : Idx w X be bd bm bc N st) : be < w.heap.size ∧ bd < w.heap.size ∧ bm < w.heap.size ∧ bc < w.heap.size :=
  ⟨h.ent.choose_spec.1.lt intK, h.def_.lt saidK, h.men.lt saidK, h.cnt.lt strK⟩

theorem int_row {w : World} {base : Nat} {v : Value} {ns : List Int} (h : w.ownsRow base 3 1 v ns.length (ns.map (Value.int .i64))) : ∃ A c, v = .slice A ns.length c ∧ Reads w w.heap.size 1 A ns.length (ns.map (Value.int .i64)) := by
  have h2 := h
  rcases h.2 with ⟨rfl, h0⟩ | ⟨g, cap, cur, rfl, _⟩
  · obtain rfl : ns = [] := List.eq_nil_of_length_eq_zero h0
    exact ⟨none, 0, rfl, Reads.none_⟩
  · exact ⟨_, cap, rfl, Reads.of_own h2⟩

/-- An act's cells, as the walk asks for them. -/
theorem cells_at {w : World} {a : A} {ad : Addr} (h : ActAt w a ad) : ∃ A1 c1 A2 c2, w.cell? ad = some (.int .i64 a.dd) ∧ w.cell? ⟨ad.block, ad.off + 1, none⟩ = some (.int .i64 a.n) ∧ w.cell? ⟨ad.block, ad.off + 2, none⟩ = some (.slice A1 a.d.length c1) ∧ w.cell? ⟨ad.block, ad.off + 3, none⟩ = some (.slice A2 a.m.length c2) ∧
    Reads w w.heap.size 1 A1 a.d.length (a.d.map encStr) ∧ Reads w w.heap.size 1 A2 a.m.length (a.m.map encStr) := h

set_option maxRecDepth 100000 in
set_option maxHeartbeats 4000000 in
theorem walk (A0 : Option Addr) (cap : Nat) (l : List A) (s : Str) (hs : s.length ≤ maxLen) (w : World) (hA : Acts w A0 l) (hF : Fine l) :
    Calls Try.prog 6 #[.slice A0 l.length cap, encStr s] w fun e w' => e = .returned (.bool true) ∧ Below w.heap.size w w' := by
  have HA := Lib.hid hA
  have HF := Lib.hid hF
  have HS := Lib.hid hs
  have G := great_any A0 cap l w hA hF
  clear hA hF hs
  go_enter Try.func6, Try.ntmps6
  go_wp2_with fail
  refine G.mono ?_
  rintro e w1 ⟨b, rfl, hb, q, hq⟩
  have F1 : Hid (Fr w w1 []) := Lib.hid (by rw [hq]; exact (Fr.refl' w).drewN q)
  clear G hq
  cases b with
  | true =>
    clear hb
    go_wp2_with fail
    refine (wakes_any _).mono ?_
    rintro e w3 ⟨rfl, hb3⟩
    have HB3 := Lib.hid hb3
    clear hb3
    go_wp2
    go_ret
    exact ⟨rfl, (F1.out.trans (Fr.of_below HB3.out)).below⟩
  | false =>
    obtain ⟨h100, h600⟩ := hb rfl
    clear hb
    go_wp2_with fail
    refine (new_any _).mono ?_
    rintro e w2 ⟨X, be, bd, bm, bc, rfl, b1, b2, b3, b4, hi, hbel⟩
    have F2 : Hid (Fr w w2 []) := Lib.hid (by have := F1.out.trans (Fr.of_below hbel); simpa using this)
    have hs1 := F1.out.size
    have HB1 : Hid (w.heap.size ≤ be ∧ w.heap.size ≤ bd ∧ w.heap.size ≤ bm ∧ w.heap.size ≤ bc) := Lib.hid (by omega)
    have HB2 := Lib.hid (Idx.lts hi)
    have HI := Lib.hid hi
    clear hi hbel hs1 b1 b2 b3 b4
    go_wp2_with fail
    refine (new_any _).mono ?_
    rintro e w3 ⟨Y, ye, yd, ym, yc, rfl, b1, b2, b3, b4, hi, hbel⟩
    have HB3 : Hid (w2.heap.size ≤ ye ∧ w2.heap.size ≤ yd ∧ w2.heap.size ≤ ym ∧ w2.heap.size ≤ yc) := Lib.hid ⟨b1, b2, b3, b4⟩
    have T0 : Hid (Two w w3 X be bd bm bc Y ye yd ym yc 0 0 [] []) := Lib.hid ⟨HI.out.fr (Fr.of_below hbel) (by simp), hi, by have := F2.out.trans (Fr.of_below hbel); simpa using this⟩
    clear hi hbel b1 b2 b3 b4
    go_wp2
    go_loopw [7] (fun i wr => ∃ k N : Nat, k ≤ l.length ∧ i = .int .i64 k ∧ Two w wr X be bd bm bc Y ye yd ym yc N 0 (run (l.take k)) [] ∧ N ≤ lens (l.take k) + k) (fun i _ => l.length - (intOf i).toNat)
    case atStart => exact ⟨0, 0, Nat.zero_le _, rfl, by simpa [run] using T0.out, Nat.zero_le _⟩
    case round =>
      obtain ⟨k, N, hk, rfl, ht, hN⟩ := hrel
      have hll := lens_take_le l k
      have HT := Lib.hid ht
      by_cases hlt : k < l.length
      · obtain ⟨ad, e0, hab, hat⟩ := (HA.out.fr ht.fr).at_ hlt
        obtain ⟨_, hwn, hld, hlm, hsd, hsm⟩ := HF.out.2 l[k] (List.getElem_mem hlt)
        have hst := run_take hlt
        have hlens := lens_take hlt
        have htot := tot_run l (k + 1) (by omega)
        have hll2 := lens_take_le l (k + 1)
        obtain ⟨a, ha⟩ : ∃ a, a = l[k] := ⟨_, rfl⟩
        rw [← ha] at hat hwn hsd hsm hst hlens
        obtain ⟨A1, c1, A2, c2, L0, L1, L2, L3, r1, r2⟩ := cells_at hat
        have hn1 := (wf64 hwn).2
        have DS := done_step X be bd bm bc N (run (l.take k)) a.dd a.n hn1 A1 A2 c1 c2 a.d a.m wr ht.ix r1 r2 hsd hsm (by omega) (by omega) (by omega)
        have e1 : stepS (run (l.take k)) a.n (actD a.dd a.d) (actD a.dd a.m) = run (l.take (k + 1)) := hst.symm
        rw [e1] at DS
        have HTT := Lib.hid htot
        have HJ : Hid (k + 1 ≤ l.length) := Lib.hid hlt
        subst e0
        clear ht hat r1 r2 e1 hst hsd hsm hwn ha hlens htot
        go_wp2_with fail
        refine DS.mono ?_
        rintro e wb ⟨v2, told, rfl, ho2, hu2, hm2, hib, fb0⟩
        have T1 := Lib.hid (HT.out.stepX fb0 hib HB1.out HB2.out HB3.out)
        clear DS L0 L1 L2 L3 ho2 hu2 hm2 hib fb0
        go_wp2
        go_roundw
        case rel => exact ⟨k + 1, _, HJ.out, by go_num, T1.out, HTT.out⟩
        case measure => simp [intOf]; have := HJ.out; omega
      · obtain rfl : k = l.length := by omega
        obtain ⟨V1, rfl⟩ : ∃ V1 : World, V1 = wr := ⟨_, rfl⟩
        clear ht
        go_wp2
        go_loopw [8] (fun i wr => ∃ m M : Nat, ∃ sy : St, m ≤ l.length ∧ i = .int .i64 ((m : Int) - 1) ∧ Two w wr X be bd bm bc Y ye yd ym yc N M (run (l.take l.length)) sy ∧ M ≤ lens (l.drop m) + (l.length - m) ∧ tot sy ≤ lens (l.drop m) + (l.length - m) ∧ ∀ e, e ∈ sy ↔ Left (l.drop m) e) (fun i _ => (intOf i + 1).toNat)
        case atStart => exact ⟨l.length, 0, [], Nat.le_refl _, rfl, HT.out, Nat.zero_le _, by simp [tot], fun e => by simpa using left_nil⟩
        case round =>
          obtain ⟨m, M, sy, hm, rfl, ht, hM, hMt, hsy⟩ := hrel
          have HT2 := Lib.hid ht
          have HSY := Lib.hid hsy
          clear ht hsy
          rcases Nat.eq_zero_or_pos m with rfl | h0
          · obtain ⟨V2, rfl⟩ : ∃ V2 : World, V2 = wr := ⟨_, rfl⟩
            have hperm : (run (l.take l.length)).Perm sy := same_perm HT2.out.ix.wf HT2.out.iy.wf (fun e => by
              rw [mem_run l l.length (Nat.le_refl _) e, HSY.out e, List.take_length, List.drop_zero])
            have hN9 : N ≤ 2000 := by have := lens_take_le l l.length; omega
            have hM9 : M ≤ 2000 := by have := lens_drop_le l 0; omega
            have htx : tot (run (l.take l.length)) ≤ 2000 := by have := tot_run l l.length (Nat.le_refl _); have := lens_take_le l l.length; omega
            have hty : tot sy ≤ 2000 := by have := lens_drop_le l 0; omega
            obtain ⟨sx, hsx⟩ : ∃ sx, sx = run (l.take l.length) := ⟨_, rfl⟩
            rw [← hsx] at hperm htx
            have HT3 : Hid (Two w V2 X be bd bm bc Y ye yd ym yc N M sx sy) := Lib.hid (by rw [hsx]; exact HT2.out)
            have HP := Lib.hid hperm
            have hkl : (known sx).length ≤ 2000 := Nat.le_trans (length_known sx) htx
            have hkl2 : (known sy).length ≤ 2000 := Nat.le_trans (length_known sy) hty
            have hwl : (who sx s).length ≤ 2000 := Nat.le_trans (length_who sx s) htx
            have hwl2 : (who sy s).length ≤ 2000 := Nat.le_trans (length_who sy s) hty
            have hkeq := perm_known hperm
            have hweq := perm_who hperm s
            have hceq := perm_cnt hperm s
            have hleq : sx.length = sy.length := hperm.length_eq
            obtain ⟨kx, hkx⟩ : ∃ kx, kx = known sx := ⟨_, rfl⟩
            obtain ⟨wx, hwx⟩ : ∃ wx, wx = who sx s := ⟨_, rfl⟩
            obtain ⟨cx, hcx⟩ : ∃ cx, cx = cnt sx s := ⟨_, rfl⟩
            obtain ⟨lx, hlx⟩ : ∃ lx, lx = sx.length := ⟨_, rfl⟩
            rw [← hkx] at hkeq hkl
            rw [← hwx] at hweq hwl
            rw [← hcx] at hceq
            rw [← hlx] at hleq
            have CKX : Hid (∀ W, Fr V2 W [] → Calls Try.prog 10 #[.pointer (some ⟨X, 0, none⟩)] W (RowOut W kx)) := Lib.hid (fun W f => by rw [hkx]; exact known_any X be bd bm bc N sx W (HT3.out.ix.fr f (by simp)) (by omega))
            have CKY : Hid (∀ W, Fr V2 W [] → Calls Try.prog 10 #[.pointer (some ⟨Y, 0, none⟩)] W (RowOut W kx)) := Lib.hid (fun W f => by rw [hkeq]; exact known_any Y ye yd ym yc M sy W (HT3.out.iy.fr f (by simp)) (by omega))
            have CLX : Hid (∀ W, Fr V2 W [] → Calls Try.prog 25 #[.pointer (some ⟨X, 0, none⟩)] W fun e w' => e = .returned (.int .i64 (lx : Int)) ∧ W = w') := Lib.hid (fun W f => by rw [hlx]; exact len_any X be bd bm bc N sx W (HT3.out.ix.fr f (by simp)))
            have CLY : Hid (∀ W, Fr V2 W [] → Calls Try.prog 25 #[.pointer (some ⟨Y, 0, none⟩)] W fun e w' => e = .returned (.int .i64 (lx : Int)) ∧ W = w') := Lib.hid (fun W f => by rw [hleq]; exact len_any Y ye yd ym yc M sy W (HT3.out.iy.fr f (by simp)))
            have CDX : Hid (∀ W, Fr V2 W [] → Calls Try.prog 13 #[.pointer (some ⟨X, 0, none⟩), encStr s] W fun e w' => e = .returned (.int .i64 (cx : Int)) ∧ W = w') := Lib.hid (fun W f => by rw [hcx]; exact defined_any X be bd bm bc N sx s HS.out W (HT3.out.ix.fr f (by simp)))
            have CDY : Hid (∀ W, Fr V2 W [] → Calls Try.prog 13 #[.pointer (some ⟨Y, 0, none⟩), encStr s] W fun e w' => e = .returned (.int .i64 (cx : Int)) ∧ W = w') := Lib.hid (fun W f => by rw [hceq]; exact defined_any Y ye yd ym yc M sy s HS.out W (HT3.out.iy.fr f (by simp)))
            have CWX : Hid (∀ W, Fr V2 W [] → Calls Try.prog 23 #[.pointer (some ⟨X, 0, none⟩), encStr s] W (IntsOut W wx)) := Lib.hid (fun W f => by rw [hwx]; exact who_any X be bd bm bc N sx s HS.out W (HT3.out.ix.fr f (by simp)) (by omega))
            have CWY : Hid (∀ W, Fr V2 W [] → Calls Try.prog 23 #[.pointer (some ⟨Y, 0, none⟩), encStr s] W (IntsOut W wx)) := Lib.hid (fun W f => by rw [hweq]; exact who_any Y ye yd ym yc M sy s HS.out W (HT3.out.iy.fr f (by simp)) (by omega))
            clear hperm hsx hkeq hweq hceq hleq hkx hwx hcx hlx hkl2 hwl2
            go_wp2_with fail
            refine (CKX.out _ (Fr.refl' _)).mono ?_
            rintro e wa ⟨v1, rfl, ho1, _, bel1⟩
            obtain ⟨Ax, cax, rfl, rx⟩ := RowOf.own ho1
            have FA := Lib.hid (Fr.of_below bel1)
            have RX := Lib.hid rx
            clear ho1 bel1 rx CKX
            go_wp2_with fail
            refine (CKY.out _ FA.out).mono ?_
            rintro e wb ⟨v2, rfl, ho2, _, bel2⟩
            obtain ⟨Ay, cay, rfl, ry⟩ := RowOf.own ho2
            have fb : Fr wa wb [] := Fr.of_below bel2
            have FB : Hid (Fr V2 wb []) := Lib.hid (by have := FA.out.trans fb; simpa using this)
            have SM := same_any Ax Ay cax cay kx kx wb (fb.reads RX.out) ry (by omega) (by omega)
            rw [decide_eq_true rfl] at SM
            have SM' := Lib.hid SM
            clear ho2 bel2 ry CKY fb SM RX FA
            go_wp2_with fail
            refine (SM'.out).mono ?_
            rintro e wc ⟨rfl, q9, hq9⟩
            have FC : Hid (Fr V2 wc []) := Lib.hid (by have := FB.out.trans ((Fr.refl' wb).drewN q9); rw [hq9]; simpa using this)
            clear hq9 SM' FB
            have cx1 := CLX.out wc FC.out
            have cy1 := CLY.out wc FC.out
            have dx1 := CDX.out wc FC.out
            have dy1 := CDY.out wc FC.out
            have wx1 := CWX.out wc FC.out
            clear CLX CLY CDX CDY CWX
            go_wp2_with fail
            refine cx1.mono ?_
            rintro e w9 ⟨rfl, rfl⟩
            clear cx1
            go_wp2_with fail
            refine cy1.mono ?_
            rintro e w9 ⟨rfl, rfl⟩
            clear cy1
            go_wp2_with fail
            refine dx1.mono ?_
            rintro e w9 ⟨rfl, rfl⟩
            clear dx1
            go_wp2_with fail
            refine dy1.mono ?_
            rintro e w9 ⟨rfl, rfl⟩
            clear dy1
            go_wp2_with fail
            refine wx1.mono ?_
            rintro e wd ⟨v3, rfl, ho3, bel3⟩
            obtain ⟨Aw, caw, rfl, rw3⟩ := int_row ho3
            have fd : Fr wc wd [] := Fr.of_below bel3
            have FD : Hid (Fr V2 wd []) := Lib.hid (by have := FC.out.trans fd; simpa using this)
            have wy1 := CWY.out wd FD.out
            have RW3 := Lib.hid rw3
            clear wx1 ho3 bel3 rw3 fd CWY FC
            go_wp2_with fail
            refine wy1.mono ?_
            rintro e we ⟨v4, rfl, ho4, bel4⟩
            obtain ⟨Av, cav, rfl, rw4⟩ := int_row ho4
            have fe : Fr wd we [] := Fr.of_below bel4
            have FE : Hid (Fr V2 we []) := Lib.hid (by have := FD.out.trans fe; simpa using this)
            have IM := ints_any Aw Av caw cav wx wx we (fe.reads RW3.out) rw4 (by omega) (by omega)
            rw [decide_eq_true rfl] at IM
            clear wy1 ho4 bel4 rw4 fe RW3 FD
            go_wp2_with fail
            refine IM.mono ?_
            rintro e wf ⟨rfl, q8, hq8⟩
            have FF : Hid (Fr V2 wf []) := Lib.hid (by have := FE.out.trans ((Fr.refl' we).drewN q8); rw [hq8]; simpa using this)
            clear hq8 IM FE
            go_wp2
            go_loopw [11] (fun i wr => ∃ k : Nat, k ≤ l.length ∧ i = .int .i64 k ∧ Fr V2 wr []) (fun i _ => l.length - (intOf i).toNat)
            case atStart => exact ⟨0, Nat.zero_le _, rfl, FF.out⟩
            case round =>
              clear FF
              obtain ⟨k, hk, rfl, hf4⟩ := hrel
              have HF4 := Lib.hid hf4
              clear hf4
              by_cases hlt : k < l.length
              · obtain ⟨ad, e0, hab, hat⟩ := ((HA.out.fr HT2.out.fr).fr HF4.out).at_ hlt
                obtain ⟨_, hwn, _⟩ := HF.out.2 l[k] (List.getElem_mem hlt)
                obtain ⟨a, ha⟩ : ∃ a, a = l[k] := ⟨_, rfl⟩
                rw [← ha] at hat hwn
                obtain ⟨_, _, _, _, _, L1, _⟩ := cells_at hat
                obtain ⟨bd1, hbd1⟩ : ∃ b, b = decide (s ∈ getD sx a.n) := ⟨_, rfl⟩
                obtain ⟨bm1, hbm1⟩ : ∃ b, b = decide (s ∈ getM sx a.n) := ⟨_, rfl⟩
                have hbd2 := hbd1.trans (perm_getD HT3.out.ix.wf HT3.out.iy.wf HP.out a.n s)
                have hbm2 := hbm1.trans (perm_getM HT3.out.ix.wf HT3.out.iy.wf HP.out a.n s)
                have HX := has_any X be bd bm bc N sx a.n hwn s HS.out wr (HT3.out.ix.fr HF4.out (by simp))
                rw [← hbd1, ← hbm1] at HX
                have CHY : Hid (∀ W, Fr V2 W [] → Calls Try.prog 18 #[.pointer (some ⟨Y, 0, none⟩), .int .i64 a.n, encStr s] W fun e w' => e = .returned (.tuple #[.bool bd1, .bool bm1]) ∧ Below W.heap.size W w') := Lib.hid (fun W f => by
                  rw [hbd2, hbm2]
                  exact has_any Y ye yd ym yc M sy a.n hwn s HS.out W (HT3.out.iy.fr f (by simp)))
                have HJ : Hid (k + 1 ≤ l.length) := Lib.hid hlt
                have HAT := Lib.hid hat
                obtain ⟨n, hn⟩ : ∃ n, n = a.n := ⟨_, rfl⟩
                rw [← hn] at L1 HX CHY
                subst e0
                have hab9 : (ad.add (k * 4)).block < wr.heap.size := by rw [block_of_add]; exact hab
                clear hat hwn hbd1 hbm1 hbd2 hbm2 ha hn
                go_wp2_with fail
                refine HX.mono ?_
                rintro e wg ⟨rfl, bel5⟩
                have fg : Fr wr wg [] := Fr.of_below bel5
                have L1' : wg.cell? ⟨(ad.add (k * 4)).block, (ad.add (k * 4)).off + 1, none⟩ = some (.int .i64 n) := (fg.cell (p := ⟨(ad.add (k * 4)).block, (ad.add (k * 4)).off + 1, none⟩) hab9).trans L1
                have FG : Hid (Fr V2 wg []) := Lib.hid (by have := HF4.out.trans fg; simpa using this)
                have HY := CHY.out wg FG.out
                clear HX CHY bel5 fg L1
                go_wp2_with fail
                refine HY.mono ?_
                rintro e wh ⟨rfl, bel6⟩
                have FH : Hid (Fr V2 wh []) := Lib.hid (by have := FG.out.trans (Fr.of_below bel6); simpa using this)
                have e1 : (bd1 != bd1) = false := by cases bd1 <;> rfl
                have e2 : (bm1 != bm1) = false := by cases bm1 <;> rfl
                clear HY bel6
                go_wp2
                go_roundw
                case rel => exact ⟨k + 1, HJ.out, by go_num, FH.out⟩
                case measure => simp [intOf]; have := HJ.out; omega
              · obtain rfl : k = l.length := by omega
                obtain ⟨V4, rfl⟩ : ∃ V4 : World, V4 = wr := ⟨_, rfl⟩
                go_wp2_with fail
                refine (wakes_any _).mono ?_
                rintro e w9 ⟨rfl, hb9⟩
                have hfin : Below w.heap.size w w9 := (by have := (HT3.out.fr.trans HF4.out).trans (Fr.of_below hb9); simpa using this : Fr w w9 []).below
                have HFIN := Lib.hid hfin
                clear hb9 hfin
                go_wp2
                go_ret
                exact ⟨rfl, HFIN.out⟩
          · obtain ⟨j, rfl⟩ : ∃ j, m = j + 1 := ⟨m - 1, by omega⟩
            rw [show ((j + 1 : Nat) : Int) - 1 = (j : Int) by omega]
            obtain ⟨V2, rfl⟩ : ∃ V2 : World, V2 = wr := ⟨_, rfl⟩
            obtain ⟨adj, e0, habj, hatj⟩ := (HA.out.fr HT2.out.fr).at_ (show j < l.length by omega)
            obtain ⟨_, hwn, hld, hlm, hsd, hsm⟩ := HF.out.2 l[j] (List.getElem_mem (by omega))
            have hdj := lens_drop (show j < l.length by omega)
            have hdc := drop_cons (show j < l.length by omega)
            have hld1 := lens_drop_le l j
            have hld2 := lens_drop_le l (j + 1)
            obtain ⟨a, ha⟩ : ∃ a, a = l[j] := ⟨_, rfl⟩
            rw [← ha] at hatj hwn hsd hsm hdj hdc
            have hn1 := (wf64 hwn).2
            have HATJ := Lib.hid hatj
            have HSD := Lib.hid hsd
            have HSM := Lib.hid hsm
            have HDJ := Lib.hid hdj
            have HDC := Lib.hid hdc
            subst e0
            clear hatj hsd hsm hdj hdc hwn ha
            go_wp2
            go_loopw [9, 10] (fun la i wr2 => ∃ k : Nat, j + 1 ≤ k ∧ k ≤ l.length ∧ i = .int .i64 k ∧ la = .bool (noneOf l a.n (j + 1) k) ∧ Fr V2 wr2 []) (fun _ i _ => l.length - (intOf i).toNat)
            case atStart => exact ⟨j + 1, Nat.le_refl _, hm, by go_num, by rw [noneOf_start], Fr.refl' _⟩
            case round =>
              obtain ⟨k, hjk, hk, rfl, rfl, hf3⟩ := hrel
              have HF3 := Lib.hid hf3
              clear hf3
              by_cases hlt : k < l.length
              · have hat3 := ((HA.out.fr HT2.out.fr).fr HF3.out) (by omega)
                obtain ⟨ad3, e3, _, hatk⟩ := hat3
                injection e3 with e3
                subst e3
                have hck := hatk k hlt
                have hno := noneOf_next (n := a.n) hjk hlt
                obtain ⟨_, _, _, _, _, K1, _⟩ := cells_at hck
                obtain ⟨_, _, _, _, _, J1, _⟩ := cells_at (HATJ.out.fr HF3.out (by rw [block_of_add]; exact habj))
                obtain ⟨nk, hnk⟩ : ∃ nk, nk = l[k].n := ⟨_, rfl⟩
                obtain ⟨nj, hnj⟩ : ∃ nj, nj = a.n := ⟨_, rfl⟩
                rw [← hnk] at K1 hno
                rw [← hnj] at J1 hno ⊢
                obtain ⟨b, hb⟩ : ∃ b, b = noneOf l nj (j + 1) k := ⟨_, rfl⟩
                rw [← hb] at hno ⊢
                have HJ : Hid (k + 1 ≤ l.length) := Lib.hid hlt
                have hjk1 : Hid (j + 1 ≤ k + 1) := Lib.hid (by omega)
                cases b with
                | false =>
                  have HNO := Lib.hid hno
                  clear hno hb hnk hnj hatk hck
                  go_wp2
                  go_big_quiet (fail)
                  go_wp2
                  go_roundw
                  case rel => exact ⟨k + 1, hjk1.out, HJ.out, by go_num, by rw [HNO.out]; rfl, HF3.out.drewN _⟩
                  case measure => simp [intOf]; have := HJ.out; omega
                | true =>
                  by_cases he : nk = nj
                  · subst he
                    have HNO : Hid (noneOf l nk (j + 1) (k + 1) = false) := Lib.hid (by rw [hno]; simp)
                    have e1 : (nk != nk) = false := by simp
                    clear hno hb hnk hnj hatk hck
                    go_wp2
                    go_big_quiet (fail)
                    go_wp2
                    go_roundw
                    case rel => exact ⟨k + 1, hjk1.out, HJ.out, by go_num, by rw [HNO.out], HF3.out.drewN _⟩
                    case measure => simp [intOf]; have := HJ.out; omega
                  · have HNO : Hid (noneOf l nj (j + 1) (k + 1) = true) := Lib.hid (by rw [hno]; simp [he])
                    have e1 : (nk != nj) = true := by simp [he]
                    have e2 : (nk == nj) = false := by simp [he]
                    have e3 : decide (nk = nj) = false := by simp [he]
                    clear hno hb hnk hnj hatk hck
                    go_wp2
                    go_big_quiet (fail)
                    go_wp2
                    go_roundw
                    case rel => exact ⟨k + 1, hjk1.out, HJ.out, by go_num, by rw [HNO.out], HF3.out.drewN _⟩
                    case measure => simp [intOf]; have := HJ.out; omega
              · obtain rfl : k = l.length := by omega
                obtain ⟨V3, rfl⟩ : ∃ V3 : World, V3 = wr := ⟨_, rfl⟩
                have hend := noneOf_end (l := l) (n := a.n) (i := j + 1)
                have T3 := Lib.hid (HT2.out.step HF3.out)
                obtain ⟨b, hb⟩ : ∃ b, b = noneOf l a.n (j + 1) l.length := ⟨_, rfl⟩
                rw [← hb] at hend ⊢
                have hjl : Hid (j ≤ l.length) := Lib.hid (by omega)
                cases b with
                | false =>
                  have hskip := mem_skip HSY.out (a := a) (fun h => by have := hend.2 h; cases this)
                  rw [← HDC.out] at hskip
                  have HSK := Lib.hid hskip
                  have HM1 : Hid (M ≤ lens (l.drop j) + (l.length - j)) := Lib.hid (by have := HDJ.out; omega)
                  have HM2 : Hid (tot sy ≤ lens (l.drop j) + (l.length - j)) := Lib.hid (by have := HDJ.out; omega)
                  clear hskip hend hb
                  go_wp2
                  go_roundw
                  case rel => exact ⟨j, M, sy, hjl.out, rfl, T3.out, HM1.out, HM2.out, HSK.out⟩
                  case measure => simp [intOf]
                | true =>
                  have hback := mem_back HSY.out (hend.1 rfl)
                  rw [← HDC.out] at hback
                  have HBK := Lib.hid hback
                  obtain ⟨A1, c1, A2, c2, L0, L1, L2, L3, r1, r2⟩ := cells_at (HATJ.out.fr HF3.out (by rw [block_of_add]; exact habj))
                  have DS := done_step Y ye yd ym yc M sy a.dd a.n hn1 A1 A2 c1 c2 a.d a.m V3 T3.out.iy r1 r2 HSD.out HSM.out (by omega) (by have := HDJ.out; omega) (by have := HDJ.out; omega)
                  have e1 : stepS sy a.n (actD a.dd a.d) (actD a.dd a.m) = actS sy a := rfl
                  rw [e1] at DS
                  have htot := tot_actS sy a
                  have HM2 : Hid (tot (actS sy a) ≤ lens (l.drop j) + (l.length - j)) := Lib.hid (by have := HDJ.out; omega)
                  clear hback hend hb r1 r2 e1 htot
                  go_wp2_with fail
                  refine DS.mono ?_
                  rintro e wb ⟨v2, told, rfl, ho2, hu2, hm2, hib, fb0⟩
                  have T4 := Lib.hid (T3.out.stepY fb0 hib HB1.out HB2.out HB3.out)
                  clear DS L0 L1 L2 L3 ho2 hu2 hm2 hib fb0
                  go_wp2
                  go_roundw
                  case rel => exact ⟨j, _, _, hjl.out, rfl, T4.out, HM2.out, HM2.out, HBK.out⟩
                  case measure => simp [intOf]

theorem own : ownKnob Try.prog.godebug = none := by kernel_rfl

set_option maxRecDepth 100000 in
theorem lifted (os : Os) (started : os.Started) (H : Type) (enc : TypeId × Value → H) :
    ReturnsInHanded {} Try.checked os 6 .any (Rows.indexLastSpec.pre6 enc Try.prog Try.f6 Rows.indexLastRow.domain false) (Rows.indexLastSpec.post enc Try.prog Try.f6 false true false false) := by
  refine returnsInHanded_of_change (C := Try.checked) own started (by kernel_rfl) Try.func6
    (ChangeSpec.witness6 (enc := enc) (C := Try.checked) false ⟨#[], #[.slice none 0 0, .string ⟨#[]⟩], []⟩ 8 (by kernel_rfl) (by kernel_rfl) (by kernel_rfl) (by kernel_rfl)) ?_
  intro W base args ds gs before hval0 hW hcnd _
  have hval : ∀ (j : Nat) t v, Try.f6.params[j]? = some t → args[j]? = some v → Value.okWide Try.prog W .any base t v := hval0
  have hW' := hW
  obtain ⟨p, q, hA0, hV, rfl, hfz, hnd⟩ := hW
  have hA : DataW.TrodAll enc Try.prog W 0 (fun _ => true) true Try.f6.params.toList args.toList ds p := hA0
  rw [Try.params6] at hA hval
  obtain ⟨v0, vs0, d0, ds0, p0, q0, hargs, rfl, rfl, h0, r0⟩ := trodAll_cons hA
  obtain ⟨v1, vs1, d1, ds1, p1, q1, rfl, rfl, rfl, h1, r1⟩ := trodAll_cons r0
  obtain ⟨rfl, rfl, rfl⟩ := trodAll_nil r1
  obtain rfl : args = #[v0, v1] := by cases args; simp_all
  obtain ⟨rfl, rfl⟩ := trodVars_none hV
  obtain ⟨a0, len0, cap0, rfl⟩ := okWide_slice Try.underlying22 (hval 0 22 v0 rfl rfl)
  have k0 := h0
  have lt0 : ∀ x ∈ p0, x.block < W.heap.size := by obtain ⟨m, hm⟩ := k0; exact DataW.trod_lt m _ _ _ hm
  obtain ⟨s1, rfl, rfl, rfl, w1⟩ := open_string Try.underlying9 (hval 1 9 v1 rfl rfl) h1
  clear hA0 hval0
  obtain ⟨fuel, hfl⟩ := h0
  obtain ⟨A0, l, cap, hv, hacts, hfine⟩ := open_acts hfl lt0
  rw [hv] at hW' k0 ⊢
  have hs : (.string s1 : Value) = encStr s1.data.toList := rfl
  refine (walk A0 cap l s1.data.toList w1 W hacts hfine).mono fun e W' ⟨he, bel⟩ => ?_
  subst he
  exact ⟨_, rfl, _, _, _, [], _, [], hW', trodAll_mk1 (shut_bool Try.underlying4 _), (trodAll_cons_mk (Below.trod laidOut (by kernel_rfl) (of_decide_eq_true (by kernel_rfl)) k0 bel lt0) (trodAll_cons_mk (shut_string Try.underlying9 w1) trodAll_mk0)), rfl, bel.frame _, fun h => by cases h⟩

theorem over : Rows.indexLastRow.holds Try.pinned (OpenSpec.ofChange Rows.indexLastSpec) :=
  OpenClaim.holds_of_wide 6 Try.f6 rfl rfl rfl rfl rfl rfl rfl ⟨rfl, rfl, rfl, rfl, rfl⟩ rfl rfl rfl rfl rfl (by kernel_rfl) Try.func6 (by kernel_rfl)
    (of_decide_eq_true (by kernel_rfl)) (by unfold Func.isWrapper; first | (rw [if_pos (by decide +kernel)]; kernel_rfl) | (rw [if_neg (by decide +kernel)]; exact ⟨rfl, rfl⟩))
    (fun os started H enc _ => lifted os started H enc)

end Go.Proofs.Ytkjmknmcbkofbaa.Last

namespace Go.Proofs.Ytkjmknmcbkofbaa
/-- THE STATEMENT. -/
theorem indexLast_holds : Rows.IndexLastSaid := Last.over
#print axioms indexLast_holds
end Go.Proofs.Ytkjmknmcbkofbaa
