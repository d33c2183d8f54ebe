/-
  The reference's Put: the walk.
  Its conditions: as each theorem states them.
-/
import Derived.Test.YtkjmknmcbkofbaaRefP
namespace Go.Proofs.Ytkjmknmcbkofbaa
open Go Go.Proofs Go.RowKit Go.Maps Go.Sort Go.Shelf
variable {G : Nat → Prop}
set_option linter.unusedVariables false
set_option linter.unusedSimpArgs false

/-- What the reference's Put hands back. -/
def PutROut (G : Nat → Prop) (w : World) (Z : Nat) (L L' : List E) (out : List Str) (err : Int) (e : Ending) (w' : World) : Prop :=
  ∃ v, e = .returned (.tuple #[v, .int .i64 err]) ∧ w'.ownsRow w.heap.size 9 1 v out.length (out.map encStr) ∧ RIdx G w' Z L' ∧ Fz w w' Z

theorem fr_trans0 {w w1 w2 : World} (f : Fr w w1 []) (k : Fr w1 w2 []) : Fr w w2 [] := by have := f.trans k; simpa using this

theorem fz_refl (w : World) (Z : Nat) : Fz w w Z := ⟨rfl, rfl, rfl, Nat.le_refl _, fun _ _ _ => rfl⟩

set_option maxRecDepth 100000 in
theorem putR_neg (Z : Nat) (L : List E) (n : Int) (hn : n < 0) (v1 v2 : Value) (w : World) (h : RIdx G w Z L) : Calls Try.prog 15 #[.pointer (some ⟨Z, 0, none⟩), .int .i64 n, v1, v2] w (PutROut G w Z L L [] 1) := by
  have hfin : PutROut G w Z L L [] 1 (.returned (.tuple #[.slice none 0 0, .int .i64 1])) w := ⟨_, rfl, World.ownsRow_nil _ _ _ _, h, fz_refl w Z⟩
  have HF := Lib.hid hfin
  have hd : decide (n < 0) = true := by simpa using hn
  clear hfin h
  go_enter Try.func15, Try.ntmps15
  go_wp2
  go_ret2
  exact HF.out

set_option maxRecDepth 100000 in
set_option maxHeartbeats 8000000 in
theorem putR_pos (Z : Nat) (L : List E) (n : Int) (hn : 0 ≤ n) (A1 A2 : Option Addr) (cap1 cap2 : Nat) (ds ms : List Str) (w : World) (h : RIdx G w Z L)
    (hr1 : Reads w w.heap.size 1 A1 ds.length (ds.map encStr)) (hr2 : Reads w w.heap.size 1 A2 ms.length (ms.map encStr)) (hl1 : ds.length ≤ 1000000) (hl2 : ms.length ≤ 1000000)
    (hL : L.length ≤ 1000000) (hLd : (L.flatMap (·.d)).length ≤ 1000000) (hLd2 : ((putL L n (enR n ds ms) (d0R ds ms)).flatMap (·.d)).length ≤ 1000000) (hG : ∀ b, G b → b < w.heap.size) :
    Calls Try.prog 15 #[.pointer (some ⟨Z, 0, none⟩), .int .i64 n, .slice A1 ds.length cap1, .slice A2 ms.length cap2] w (PutROut G w Z L (putL L n (enR n ds ms) (d0R ds ms)) (riseL (outR (known L) (known (putL L n (enR n ds ms) (d0R ds ms))))) 0) := by
  have HZ := Lib.hid h
  have HR1 := Lib.hid hr1
  have HR2 := Lib.hid hr2
  have CK := knownR_any Z L w h (by omega) (by omega)
  have hkl : (known L).length ≤ 1000000 := Nat.le_trans (length_riseL _) hLd
  have hd : decide (n < 0) = false := by simpa using hn
  obtain ⟨i62, hi, hz0, hz1, hz2⟩ := info_parts info62
  obtain ⟨i9, hj_, hy0, hy1, hy2⟩ := info_parts info9
  clear h hr1 hr2
  go_enter Try.func15, Try.ntmps15
  go_wp2_with fail
  refine CK.mono ?_
  rintro e w1 ⟨vw, rfl, how, hbw⟩
  obtain ⟨Aw, cw, rfl, rw1⟩ := RowOf.own how
  have fw : Fr w w1 [] := Fr.of_below hbw
  have HW := Lib.hid rw1
  have HZ1 := Lib.hid (HZ.out.fr fw)
  have HQ1 := Lib.hid (fw.reads HR1.out)
  have HQ2 := Lib.hid (fw.reads HR2.out)
  have HBW := Lib.hid hbw
  have HGG : Hid (∀ b, G b → b < w1.heap.size) := Lib.hid (fun b hb => Nat.lt_of_lt_of_le (hG b hb) hbw.size)
  obtain ⟨kw, hkw⟩ : ∃ kw, kw = known L := ⟨_, rfl⟩
  rw [← hkw] at HW hkl ⊢
  have HKW := Lib.hid hkw
  obtain ⟨d0, hd0⟩ : ∃ d0, d0 = d0R ds ms := ⟨_, rfl⟩
  rw [← hd0] at hLd2 ⊢
  have HD0 := Lib.hid hd0
  obtain ⟨en, hen⟩ : ∃ en, en = enR n ds ms := ⟨_, rfl⟩
  rw [← hen] at hLd2 ⊢
  have HEN := Lib.hid hen
  obtain ⟨Lp, hLp⟩ : ∃ Lp, Lp = putL L n en d0 := ⟨_, rfl⟩
  rw [← hLp] at hLd2 ⊢
  have HLP := Lib.hid hLp
  clear hen hLp
  clear hG
  clear CK how hbw rw1 fw hkw hd0 HR1 HR2
  go_upto_region 5 with fail
  go_cut [12] (fun t wd => t = .bool d0 ∧ wd = w1)
  case first =>
    by_cases h1 : ds.length = 0
    · by_cases h2 : ms.length = 0
      · have hv : d0 = true := by rw [HD0.out]; simp [d0R, h1, h2]
        have e3 : ((ds.length : Int) == 0) = true := by simp [h1]
        have e4 : ((ms.length : Int) == 0) = true := by simp [h2]
        clear HQ1 HQ2 HD0 h1 h2
        subst hv
        go_wp2
        go_meet
        exact ⟨rfl, rfl⟩
      · have hv : d0 = false := by rw [HD0.out]; simp [d0R, h2]
        have e3 : ((ms.length : Int) == 0) = false := by simp; intro h; simp [h] at h2
        have e4 : ((ds.length : Int) == 0) = true := by simp [h1]
        clear HQ1 HQ2 HD0 h1 h2
        subst hv
        go_wp2
        go_meet
        exact ⟨rfl, rfl⟩
    · have hv : d0 = false := by rw [HD0.out]; simp [d0R, h1]
      have e3 : ((ds.length : Int) == 0) = false := by simp; intro h; simp [h] at h1
      clear HQ1 HQ2 HD0 h1
      subst hv
      go_wp2
      go_meet
      exact ⟨rfl, rfl⟩
  case rest =>
    obtain ⟨rfl, rfl⟩ := hcut
    obtain ⟨W1, rfl⟩ : ∃ W1 : World, W1 = wc := ⟨_, rfl⟩
    go_wp2
    go_loopw [11, 12, 13] (fun l dn i wr => ∃ (k : Nat) (xs : List Value), k ≤ L.length ∧ i = .int .i64 k ∧ dn = .bool (foldL L n en d0 k).2 ∧ wr.ownsRow W1.heap.size 62 3 l (foldL L n en d0 k).1.length xs ∧ RX G wr l (foldL L n en d0 k).1 xs ∧ Below W1.heap.size W1 wr) (fun _ _ i _ => L.length - (intOf i).toNat)
    case atStart => exact ⟨0, [], Nat.zero_le _, rfl, rfl, World.ownsRow_nil _ _ _ _, RX.nil _ _, Below.refl _ _⟩
    case round =>
      obtain ⟨k, xs, hk, rfl, rfl, hrow, hrx, hb⟩ := hrel
      have HROW := Lib.hid hrow
      have HRX := Lib.hid hrx
      have HB := Lib.hid hb
      have hfl := foldL_len L n en d0 k hk
      have hsz := hb.size
      obtain ⟨AL, cL, hbz, he⟩ := HZ1.out.fr (Fr.of_below hb)
      have z0 : wr.cell? ⟨Z, 0, none⟩ = some (.slice AL L.length cL) := by rw [hbz.cell]; rfl
      by_cases hlt : k < L.length
      · obtain ⟨ad, rfl, hab, B1, c1, B2, c2, _, g0, g1, g2, r1, r2⟩ := he.at_ hlt
        have hnx := foldL_next hlt n en d0
        obtain ⟨⟨acc, dn⟩, hp⟩ : ∃ p, p = foldL L n en d0 k := ⟨_, rfl⟩
        rw [← hp] at hnx hfl HROW HRX ⊢
        simp only [] at hfl ⊢
        obtain ⟨x, hx⟩ : ∃ x, x = L[k] := ⟨_, rfl⟩
        rw [← hx] at hnx g0 g1 g2 r1 r2
        have HXE := Lib.hid hx
        have HX1 := Lib.hid r1
        have HX2 := Lib.hid r2
        have HG0 := Lib.hid g0
        have HG1 := Lib.hid g1
        have HG2 := Lib.hid g2
        have HJ : Hid (k + 1 ≤ L.length) := Lib.hid hlt
        have HNX := Lib.hid hnx
        have habk : (ad.add (k * 3)).block < wr.heap.size := by rw [block_of_add]; exact hab
        obtain ⟨xn, hxn⟩ : ∃ xn, xn = x.n := ⟨_, rfl⟩
        rw [← hxn] at g0
        have HXN := Lib.hid hxn
        obtain ⟨ins, hins⟩ : ∃ ins, ins = (!dn && decide (xn ≥ n)) := ⟨_, rfl⟩
        obtain ⟨acc', hacc'⟩ : ∃ acc', acc' = if ins then acc ++ [en] else acc := ⟨_, rfl⟩
        obtain ⟨dn', hdn'⟩ : ∃ dn', dn' = if ins then true else dn := ⟨_, rfl⟩
        have HINS := Lib.hid hins
        have HACC := Lib.hid hacc'
        have HDN := Lib.hid hdn'
        clear r1 r2 g1 g2 hp hx hnx hrow hrx hb he hbz hxn hins hacc' hdn'
        go_upto_region 9 with fail
        go_cut [52] (fun t wd => t = .bool ins ∧ wd = wr)
        case first =>
          cases dn with
          | true =>
            have hv : ins = false := by rw [HINS.out]; rfl
            clear HINS HACC HDN
            subst hv
            go_wp2
            go_meet
            exact ⟨rfl, rfl⟩
          | false =>
            have hv : ins = decide (xn ≥ n) := by rw [HINS.out]; rfl
            clear HINS HACC HDN
            subst hv
            go_wp2
            go_meet
            exact ⟨rfl, rfl⟩
        case rest =>
          obtain ⟨rfl, rfl⟩ := hcut
          obtain ⟨V1, rfl⟩ : ∃ V1 : World, V1 = wc := ⟨_, rfl⟩
          go_upto_if 52 with fail
          go_cut [11, 12] (fun l t wd => ∃ xs', t = .bool dn' ∧ wd.ownsRow W1.heap.size 62 3 l acc'.length xs' ∧ RX G wd l acc' xs' ∧ Below W1.heap.size W1 wd)
          case first =>
            cases ins with
            | false =>
              have hv1 : acc' = acc := HACC.out
              have hv2 : dn' = dn := HDN.out
              subst hv1 hv2
              clear HACC HDN HINS
              go_wp2
              go_meet
              exact ⟨_, rfl, HROW.out, HRX.out, HB.out⟩
            | true =>
              have hv1 : acc' = acc ++ [en] := HACC.out
              have hv2 : dn' = true := HDN.out
              subst hv2
              have RC1 := riseR_any A1 cap1 ds V1 ((Fr.of_below HB.out).reads HQ1.out) (by omega)
              have HV1 := Lib.hid hv1
              clear HACC HDN HINS hv1
              go_wp2_with fail
              refine RC1.mono ?_
              rintro e V2 ⟨v1, rfl, ho1, hb1⟩
              obtain ⟨D1, e1, rfl, sd1⟩ := Sep.new HROW.out ho1 (fun b hb => Nat.lt_of_lt_of_le (HGG.out b hb) hsz)
              have f1 : Fr V1 V2 [] := Fr.of_below hb1
              have hb12 : Fr W1 V2 [] := by have := (Fr.of_below HB.out).trans f1; simpa using this
              have RC2 := riseR_any A2 cap2 ms V2 (hb12.reads HQ2.out) (by omega)
              have F1 := Lib.hid f1
              have F12 := Lib.hid hb12
              have SD1 := Lib.hid sd1
              have HROW2 := Lib.hid (f1.own HROW.out)
              clear RC1 ho1 hb1 sd1 f1 hb12
              go_wp2_with fail
              refine RC2.mono ?_
              rintro e V3 ⟨v2, rfl, ho2, hb2⟩
              obtain ⟨D2, e2, rfl, sd2⟩ := Sep.new HROW2.out ho2 (fun b hb => Nat.lt_of_lt_of_le (HGG.out b hb) F12.out.size)
              have f2 : Fr V2 V3 [] := Fr.of_below hb2
              have F13 : Hid (Fr W1 V3 []) := Lib.hid (by have := F12.out.trans f2; simpa using this)
              have FV3 : Hid (Fr V1 V3 []) := Lib.hid (by have := F1.out.trans f2; simpa using this)
              have SD1' := Lib.hid (SD1.out.fr f2)
              have SD2 := Lib.hid sd2
              have HROW3 := Lib.hid (FV3.out.own HROW.out)
              have HRX3 := Lib.hid (HRX.out.fr FV3.out)
              have hsz3 := F13.out.size
              obtain ⟨kd, hkd⟩ : ∃ kd, kd = riseL ds := ⟨_, rfl⟩
              obtain ⟨km, hkm⟩ : ∃ km, km = riseL ms := ⟨_, rfl⟩
              rw [← hkd] at SD1' ⊢
              rw [← hkm] at SD2 ⊢
              have HEN2 : Hid (en = ⟨n, kd, km⟩) := Lib.hid (by rw [HEN.out, hkd, hkm]; rfl)
              clear RC2 ho2 hb2 sd2 f2 SD1 hkd hkm
              go_wp2_with (first
                | (at_builtin; go_loud (refine wpList_append_any _ rfl (.tmp 53) (.tmp 60) 37 rfl W1.heap.size 62 i62 (.agg #[.int .i64 0, .slice none 0 0, .slice none 0 0]) 3 56 Try.underlying37 hi hz0 hz1 hz2 rfl (by decide) u11 _ _ rfl (HROW3.out.alloc _) _ (some ⟨V3.heap.size, 0, none⟩) 1 1 [.int .i64 n, .slice D1 kd.length e1, .slice D2 km.length e2] rfl (reads_three _ _ _ _ _) (by simp [Value.oneCell']) (by unfold maxLen; omega) (by omega) (by simp; omega) ?_); intro v' w3 hown3 hg3 hor3)
                | fail)
              have fal : Fr V3 (V3.alloc (.cells #[.int .i64 n, .slice D1 kd.length e1, .slice D2 km.length e2] 62)) [] := (Fr.refl' _).alloc _
              have hx3 := (HRX3.out.app fal hg3 hor3).snoc ⟨n, kd, km⟩ (c1 := e1) (c2 := e2) (SD1'.out.app fal hg3 hor3) (SD2.out.app fal hg3 hor3)
              have hacc2 : acc' = acc ++ [⟨n, kd, km⟩] := by rw [HV1.out, HEN2.out]
              rw [← hacc2] at hx3
              have hrow3 : w3.ownsRow W1.heap.size 62 3 v' acc'.length (xs ++ [.int .i64 n, .slice D1 kd.length e1, .slice D2 km.length e2]) := by
                rw [HV1.out, List.length_append]
                exact hown3
              have hb3 : Below W1.heap.size W1 w3 := ((fr_trans0 F13.out fal).below).grown hg3 (fr_trans0 F13.out fal).size (fun k e => (HROW3.out.lt k e).1)
              go_meet
              exact ⟨_, rfl, hrow3, hx3, hb3⟩
          case rest =>
            obtain ⟨xs', rfl, hrow', hrx', hb'⟩ := hcut
            have hstep : foldL L n en d0 (k + 1) = (if xn = n then acc' else acc' ++ [x], dn') := by
              rw [HNX.out]
              unfold stepL
              rw [HACC.out, HDN.out, ← HXN.out]
              have hi2 := HINS.out
              cases hins : ins with
              | true =>
                rw [hins] at hi2
                simp only [← hi2, if_true]
              | false =>
                rw [hins] at hi2
                simp only [← hi2, Bool.false_eq_true, if_false]
            have hacl : acc'.length ≤ 2 * k + 1 := by
              rw [HACC.out]
              split
              · simp; omega
              · omega
            obtain ⟨V4, rfl⟩ : ∃ V4 : World, V4 = wc := ⟨_, rfl⟩
            obtain ⟨AL2, cL2, hZ1, hE1⟩ := HZ1.out
            have f4 : Fr W1 V4 [] := Fr.of_below hb'
            have z2 : V4.cell? ⟨Z, 0, none⟩ = some (.slice AL2 L.length cL2) := by rw [(f4.blk hZ1).cell]; rfl
            obtain ⟨ad2, rfl, hab2, D1, e1, D2, e2, hof9, p0, p1, p2, t1, t2⟩ := hE1.at_ hlt
            have q0 : V4.cell? (ad2.add (k * 3)) = some (.int .i64 x.n) := by rw [HXE.out]; exact (f4.cell (by rw [block_of_add]; exact hab2)).trans p0
            have q1 : V4.cell? ⟨(ad2.add (k * 3)).block, (ad2.add (k * 3)).off + 1, none⟩ = some (.slice D1 x.d.length e1) := by rw [HXE.out]; exact (f4.cell (p := ⟨(ad2.add (k * 3)).block, (ad2.add (k * 3)).off + 1, none⟩) (by rw [block_of_add]; exact hab2)).trans p1
            have q2 : V4.cell? ⟨(ad2.add (k * 3)).block, (ad2.add (k * 3)).off + 2, none⟩ = some (.slice D2 x.m.length e2) := by rw [HXE.out]; exact (f4.cell (p := ⟨(ad2.add (k * 3)).block, (ad2.add (k * 3)).off + 2, none⟩) (by rw [block_of_add]; exact hab2)).trans p2
            have sx1 : Sep G V4 u11 D1 x.d.length (x.d.map encStr) := by rw [HXE.out]; exact Sep.old t1 hof9.1 f4 hrow'
            have sx2 : Sep G V4 u11 D2 x.m.length (x.m.map encStr) := by rw [HXE.out]; exact Sep.old t2 hof9.2 f4 hrow'
            rw [← HXN.out] at q0
            have HSX1 := Lib.hid sx1
            have HSX2 := Lib.hid sx2
            have HROW4 := Lib.hid hrow'
            have HRX4 := Lib.hid hrx'
            have HB4 := Lib.hid hb'
            have HST := Lib.hid hstep
            have hsz4 := hb'.size
            clear p0 p1 p2 t1 t2 sx1 sx2 hrow' hrx' hb' hstep hZ1 hE1 f4 z0 g0
            by_cases he : xn = n
            · have HS2 : Hid (foldL L n en d0 (k + 1) = (acc', dn')) := Lib.hid (by rw [HST.out, if_pos he])
              have e9 : (xn != n) = false := by simp [he]
              clear he HST
              go_wp2
              go_roundw
              case rel => exact ⟨k + 1, xs', HJ.out, by go_num, by rw [HS2.out], by rw [HS2.out]; exact HROW4.out, by rw [HS2.out]; exact HRX4.out, HB4.out⟩
              case measure => simp [intOf]; have := HJ.out; omega
            · have HS2 : Hid (foldL L n en d0 (k + 1) = (acc' ++ [x], dn')) := Lib.hid (by rw [HST.out, if_neg he])
              have e9 : (xn != n) = true := by simp [he]
              clear he HST
              go_wp2_with (first
                | (at_builtin; go_loud (refine wpList_append_any _ rfl (.tmp 72) (.tmp 80) 37 rfl W1.heap.size 62 i62 (.agg #[.int .i64 0, .slice none 0 0, .slice none 0 0]) 3 56 Try.underlying37 hi hz0 hz1 hz2 rfl (by decide) u11 _ _ rfl (HROW4.out.alloc _) _ (some ⟨V4.heap.size, 0, none⟩) 1 1 [.int .i64 xn, .slice D1 x.d.length e1, .slice D2 x.m.length e2] rfl (reads_three _ _ _ _ _) (by simp [Value.oneCell']) (by unfold maxLen; omega) (by omega) (by simp; omega) ?_); intro v' w3 hown3 hg3 hor3)
                | fail)
              have fal : Fr V4 (V4.alloc (.cells #[.int .i64 xn, .slice D1 x.d.length e1, .slice D2 x.m.length e2] 62)) [] := (Fr.refl' _).alloc _
              have hx3 := (HRX4.out.app fal hg3 hor3).snoc x (c1 := e1) (c2 := e2) (HSX1.out.app fal hg3 hor3) (HSX2.out.app fal hg3 hor3)
              rw [← HXN.out] at hx3
              have hrow3 : w3.ownsRow W1.heap.size 62 3 v' (acc' ++ [x]).length (xs' ++ [.int .i64 xn, .slice D1 x.d.length e1, .slice D2 x.m.length e2]) := by
                rw [List.length_append]
                exact hown3
              have fr4 : Fr W1 (V4.alloc (.cells #[.int .i64 xn, .slice D1 x.d.length e1, .slice D2 x.m.length e2] 62)) [] := fr_trans0 (Fr.of_below HB4.out) fal
              have hb3 : Below W1.heap.size W1 w3 := fr4.below.grown hg3 fr4.size (fun k e => (HROW4.out.lt k e).1)
              have HX3 := Lib.hid hx3
              have HROW3 := Lib.hid hrow3
              have HB3 := Lib.hid hb3
              clear hx3 hrow3 hb3 fr4 fal hown3 hg3 hor3 z2 q0 q1 q2
              go_wp2
              go_roundw
              case rel => exact ⟨k + 1, _, HJ.out, by go_num, by rw [HS2.out], by rw [HS2.out]; exact HROW3.out, by rw [HS2.out]; exact HX3.out, HB3.out⟩
              case measure => simp [intOf]; have := HJ.out; omega
      · obtain rfl : k = L.length := by omega
        obtain ⟨V5, rfl⟩ : ∃ V5 : World, V5 = wr := ⟨_, rfl⟩
        obtain ⟨⟨acc, dn⟩, hp⟩ : ∃ p, p = foldL L n en d0 L.length := ⟨_, rfl⟩
        have hlp := HLP.out
        unfold putL at hlp
        rw [← hp] at hlp hfl HROW HRX ⊢
        simp only [] at hfl hlp ⊢
        have HLP2 := Lib.hid hlp
        have hz5 := Lib.hid hbz
        clear hp hlp hrow hrx hb hbz he
        go_upto_region 14 with fail
        go_cut [83] (fun t wd => t = .bool (!dn) ∧ wd = V5)
        case first =>
          go_wp2
          go_meet
          exact ⟨rfl, rfl⟩
        case rest =>
          obtain ⟨rfl, rfl⟩ := hcut
          obtain ⟨V5, rfl⟩ : ∃ V5 : World, V5 = wc := ⟨_, rfl⟩
          go_upto_if 83 with fail
          go_cut [11] (fun l wd => ∃ xs', wd.ownsRow W1.heap.size 62 3 l Lp.length xs' ∧ RX G wd l Lp xs' ∧ Below W1.heap.size W1 wd)
          case first =>
            cases dn with
            | true =>
              have hv1 : Lp = acc := HLP2.out
              go_wp2
              go_meet
              exact ⟨xs, by rw [hv1]; exact HROW.out, by rw [hv1]; exact HRX.out, HB.out⟩
            | false =>
              have hv1 : Lp = acc ++ [en] := HLP2.out
              have RC1 := riseR_any A1 cap1 ds V5 ((Fr.of_below HB.out).reads HQ1.out) (by omega)
              have HV1 := Lib.hid hv1
              clear hv1
              go_wp2_with fail
              refine RC1.mono ?_
              rintro e V2 ⟨v1, rfl, ho1, hb1⟩
              obtain ⟨D1, e1, rfl, sd1⟩ := Sep.new HROW.out ho1 (fun b hb => Nat.lt_of_lt_of_le (HGG.out b hb) hsz)
              have f1 : Fr V5 V2 [] := Fr.of_below hb1
              have hb12 : Fr W1 V2 [] := by have := (Fr.of_below HB.out).trans f1; simpa using this
              have RC2 := riseR_any A2 cap2 ms V2 (hb12.reads HQ2.out) (by omega)
              have F1 := Lib.hid f1
              have F12 := Lib.hid hb12
              have SD1 := Lib.hid sd1
              have HROW2 := Lib.hid (f1.own HROW.out)
              clear RC1 ho1 hb1 sd1 f1 hb12
              go_wp2_with fail
              refine RC2.mono ?_
              rintro e V3 ⟨v2, rfl, ho2, hb2⟩
              obtain ⟨D2, e2, rfl, sd2⟩ := Sep.new HROW2.out ho2 (fun b hb => Nat.lt_of_lt_of_le (HGG.out b hb) F12.out.size)
              have f2 : Fr V2 V3 [] := Fr.of_below hb2
              have F13 : Hid (Fr W1 V3 []) := Lib.hid (by have := F12.out.trans f2; simpa using this)
              have FV3 : Hid (Fr V5 V3 []) := Lib.hid (by have := F1.out.trans f2; simpa using this)
              have SD1' := Lib.hid (SD1.out.fr f2)
              have SD2 := Lib.hid sd2
              have HROW3 := Lib.hid (FV3.out.own HROW.out)
              have HRX3 := Lib.hid (HRX.out.fr FV3.out)
              have hsz3 := F13.out.size
              obtain ⟨kd, hkd⟩ : ∃ kd, kd = riseL ds := ⟨_, rfl⟩
              obtain ⟨km, hkm⟩ : ∃ km, km = riseL ms := ⟨_, rfl⟩
              rw [← hkd] at SD1' ⊢
              rw [← hkm] at SD2 ⊢
              have HEN2 : Hid (en = ⟨n, kd, km⟩) := Lib.hid (by rw [HEN.out, hkd, hkm]; rfl)
              clear RC2 ho2 hb2 sd2 f2 SD1 hkd hkm
              go_wp2_with (first
                | (at_builtin; go_loud (refine wpList_append_any _ rfl (.tmp 84) (.tmp 91) 37 rfl W1.heap.size 62 i62 (.agg #[.int .i64 0, .slice none 0 0, .slice none 0 0]) 3 56 Try.underlying37 hi hz0 hz1 hz2 rfl (by decide) u11 _ _ rfl (HROW3.out.alloc _) _ (some ⟨V3.heap.size, 0, none⟩) 1 1 [.int .i64 n, .slice D1 kd.length e1, .slice D2 km.length e2] rfl (reads_three _ _ _ _ _) (by simp [Value.oneCell']) (by unfold maxLen; omega) (by omega) (by simp; omega) ?_); intro v' w3 hown3 hg3 hor3)
                | fail)
              have fal : Fr V3 (V3.alloc (.cells #[.int .i64 n, .slice D1 kd.length e1, .slice D2 km.length e2] 62)) [] := (Fr.refl' _).alloc _
              have hx3 := (HRX3.out.app fal hg3 hor3).snoc ⟨n, kd, km⟩ (c1 := e1) (c2 := e2) (SD1'.out.app fal hg3 hor3) (SD2.out.app fal hg3 hor3)
              have hacc2 : Lp = acc ++ [⟨n, kd, km⟩] := by rw [HV1.out, HEN2.out]
              rw [← hacc2] at hx3
              have hrow3 : w3.ownsRow W1.heap.size 62 3 v' Lp.length (xs ++ [.int .i64 n, .slice D1 kd.length e1, .slice D2 km.length e2]) := by
                rw [HV1.out, List.length_append]
                exact hown3
              have hb3 : Below W1.heap.size W1 w3 := ((fr_trans0 F13.out fal).below).grown hg3 (fr_trans0 F13.out fal).size (fun k e => (HROW3.out.lt k e).1)
              go_meet
              exact ⟨_, hrow3, hx3, hb3⟩
          case rest =>
            obtain ⟨xs', hrow', hrx', hb'⟩ := hcut
            obtain ⟨W2, rfl⟩ : ∃ W2 : World, W2 = wc := ⟨_, rfl⟩
            obtain ⟨AP, cP, rfl, hents⟩ := RX.ents hrow' hrx' HGG.out
            obtain ⟨AL2, cL2, hZ1, _⟩ := HZ1.out
            have hZ2 := (Fr.of_below hb').blk hZ1
            have z2 : W2.cell? ⟨Z, 0, none⟩ = some (.slice AL2 L.length cL2) := by rw [hZ2.cell]; rfl
            have fz2 : W2.frozen? ⟨Z, 0, none⟩ = false := hZ2.frozen 0
            obtain ⟨W3, hW3⟩ : ∃ W3, W2.setCell ⟨Z, 0, none⟩ (.slice AP Lp.length cP) = W3 := ⟨_, rfl⟩
            have FZ3 : Fz W2 W3 Z := by rw [← hW3]; exact Fz.set W2 Z _
            have HZ3 : RIdx G W3 Z Lp := ⟨AP, cP, by rw [← hW3]; exact hZ2.set_ 0 _, Ents.set hrow' hents FZ3 hZ2⟩
            have RW3 : Reads W3 W3.heap.size 1 Aw kw.length (kw.map encStr) := ((Fr.of_below hb').reads HW.out).fz FZ3 hZ2
            have hLl : Lp.length ≤ 3000000 := by
              rw [HLP2.out]; split
              · omega
              · simp; omega
            have CK3 := knownR_any Z Lp W3 HZ3 (by omega) (by omega)
            have FZ : Fz w W3 Z := ((Fz.of_below Z HBW.out).trans (Fz.of_below Z hb')).trans FZ3
            have HFZ := Lib.hid FZ
            have HZ3' := Lib.hid HZ3
            have HRW3 := Lib.hid RW3
            have hkn : (known Lp).length ≤ 1000000 := Nat.le_trans (length_riseL _) hLd2
            obtain ⟨kn, hkn1⟩ : ∃ kn, kn = known Lp := ⟨_, rfl⟩
            rw [← hkn1] at CK3 hkn
            have HKN := Lib.hid hkn1
            have hW3' := hW3
            clear FZ HZ3 RW3 hents hZ1 hZ2 FZ3 hrow' hrx' hb' hkn1 HROW HRX HB hz5 HQ1 HQ2 HBW HZ1 HW
            go_wp2_with fail
            refine CK3.mono ?_
            rintro e W4 ⟨v4, rfl, ho4, hb4⟩
            obtain ⟨An, cn, rfl, rn4⟩ := RowOf.own ho4
            have f4 : Fr W3 W4 [] := Fr.of_below hb4
            have RW4 := Lib.hid (f4.reads HRW3.out)
            have RN4 := Lib.hid rn4
            have HZ4 := Lib.hid (HZ3'.out.fr f4)
            have HFZ4 := Lib.hid (HFZ.out.trans (Fz.of_below Z hb4))
            clear CK3 ho4 hb4 rn4 f4 HRW3 HZ3' HFZ hW3 hW3' z2 fz2
            go_wp2
            go_loopw [15, 16] (fun o i wr => ∃ j : Nat, j ≤ kw.length ∧ i = .int .i64 j ∧ wr.ownsRow W4.heap.size 9 1 o ((kw.take j).filter (fun s => decide (s ∉ kn))).length (((kw.take j).filter (fun s => decide (s ∉ kn))).map encStr) ∧ Below W4.heap.size W4 wr) (fun _ i _ => kw.length - (intOf i).toNat)
            case atStart => exact ⟨0, Nat.zero_le _, rfl, by simpa using World.ownsRow_nil _ _ _ _, Below.refl _ _⟩
            case round =>
              obtain ⟨j, hj, rfl, hrow, hb⟩ := hrel
              have HROW := Lib.hid hrow
              have HB := Lib.hid hb
              have hfl := take_filter_le kw j (fun s => decide (s ∉ kn))
              have hsz := hb.size
              by_cases hjl : j < kw.length
              · obtain ⟨ad, rfl, hab, hcell⟩ := ((Fr.of_below hb).reads RW4.out).one hjl rfl
                have hnext := take_filter2 hjl (fun s => decide (s ∉ kn))
                have CW := within_any kw[j] An cn kn wr ((Fr.of_below hb).reads RN4.out) (by omega)
                obtain ⟨x, hx⟩ : ∃ x, x = kw[j] := ⟨_, rfl⟩
                rw [← hx] at hcell CW hnext
                obtain ⟨ol, hol⟩ : ∃ ol, ol = (kw.take j).filter (fun s => decide (s ∉ kn)) := ⟨_, rfl⟩
                rw [← hol] at hnext hfl HROW
                have HNX := Lib.hid hnext
                have HJ : Hid (j + 1 ≤ kw.length) := Lib.hid hjl
                clear hnext hol hx hrow hb
                by_cases hm : x ∈ kn
                · rw [decide_eq_true hm] at CW
                  have HN2 : Hid ((kw.take (j + 1)).filter (fun s => decide (s ∉ kn)) = ol) := Lib.hid (by rw [HNX.out]; simp [hm])
                  clear hm HNX
                  go_wp2_with fail
                  refine CW.mono ?_
                  rintro e w9 ⟨rfl, rfl⟩
                  clear CW
                  go_wp2
                  go_roundw
                  case rel => exact ⟨j + 1, HJ.out, by go_num, by rw [HN2.out]; exact HROW.out, HB.out⟩
                  case measure => simp [intOf]; have := HJ.out; omega
                · rw [decide_eq_false hm] at CW
                  have HN2 : Hid ((kw.take (j + 1)).filter (fun s => decide (s ∉ kn)) = ol ++ [x]) := Lib.hid (by rw [HNX.out]; simp [hm])
                  clear hm HNX
                  go_wp2_with fail
                  refine CW.mono ?_
                  rintro e w9 ⟨rfl, rfl⟩
                  clear CW
                  go_wp2_with (first
                    | (at_builtin; go_loud (refine wpList_append_own _ rfl (.tmp 112) (.tmp 117) 27 rfl W4.heap.size 9 i9 (.string ⟨#[]⟩) 1 16 Try.underlying27 hj_ hy0 hy1 hy2 rfl (by decide) u15 _ _ rfl (HROW.out.alloc _) ⟨w9.heap.size, 0, none⟩ 1 1 [encStr x] rfl rfl (cell_one_new _ _ _) (by simp [Value.oneCell']) (by unfold maxLen; omega) (by omega) (by simp; omega) ?_); intro v' w3 hown3 hg3 _)
                    | fail)
                  have hb3 := (HB.out.alloc hsz (.cells #[encStr x] 9)).grown hg3 (by simp; omega) (fun k e => (HROW.out.lt k e).1)
                  have hrow3 : w3.ownsRow W4.heap.size 9 1 v' ((kw.take (j + 1)).filter (fun s => decide (s ∉ kn))).length (((kw.take (j + 1)).filter (fun s => decide (s ∉ kn))).map encStr) := by
                    rw [HN2.out]
                    simpa using hown3
                  have HB3 := Lib.hid hb3
                  have HROW3 := Lib.hid hrow3
                  clear hb3 hrow3 hown3 hg3
                  go_wp2
                  go_roundw
                  case rel => exact ⟨j + 1, HJ.out, by go_num, HROW3.out, HB3.out⟩
                  case measure => simp [intOf]; have := HJ.out; omega
              · obtain rfl : j = kw.length := by omega
                rw [List.take_length] at HROW hfl
                obtain ⟨V6, rfl⟩ : ∃ V6 : World, V6 = wr := ⟨_, rfl⟩
                obtain ⟨o1, ho1⟩ : ∃ o1, o1 = kw.filter (fun s => decide (s ∉ kn)) := ⟨_, rfl⟩
                rw [← ho1] at HROW hfl
                have HO1 := Lib.hid ho1
                clear ho1 hrow hb
                go_wp2
                go_loopw [15, 17] (fun o i wr => ∃ j : Nat, j ≤ kn.length ∧ i = .int .i64 j ∧ wr.ownsRow W4.heap.size 9 1 o (o1 ++ (kn.take j).filter (fun s => decide (s ∉ kw))).length ((o1 ++ (kn.take j).filter (fun s => decide (s ∉ kw))).map encStr) ∧ Below W4.heap.size W4 wr) (fun _ i _ => kn.length - (intOf i).toNat)
                case atStart => exact ⟨0, Nat.zero_le _, rfl, by simpa using HROW.out, HB.out⟩
                case round =>
                  clear HROW HB
                  obtain ⟨j, hj, rfl, hrow, hb⟩ := hrel
                  have HROW := Lib.hid hrow
                  have HB := Lib.hid hb
                  have hfl2 := take_filter_le kn j (fun s => decide (s ∉ kw))
                  have hsz2 := hb.size
                  by_cases hjl : j < kn.length
                  · obtain ⟨ad, rfl, hab, hcell⟩ := ((Fr.of_below hb).reads RN4.out).one hjl rfl
                    have hnext := take_filter2 hjl (fun s => decide (s ∉ kw))
                    have CW := within_any kn[j] Aw cw kw wr ((Fr.of_below hb).reads RW4.out) (by omega)
                    obtain ⟨x, hx⟩ : ∃ x, x = kn[j] := ⟨_, rfl⟩
                    rw [← hx] at hcell CW hnext
                    obtain ⟨of, hof⟩ : ∃ of, of = (kn.take j).filter (fun s => decide (s ∉ kw)) := ⟨_, rfl⟩
                    rw [← hof] at hnext hfl2 HROW
                    obtain ⟨ol, hol⟩ : ∃ ol, ol = o1 ++ of := ⟨_, rfl⟩
                    have hll : ol.length ≤ 4000000 := by rw [hol, List.length_append]; omega
                    rw [← hol] at HROW
                    have HNX := Lib.hid hnext
                    have HOL := Lib.hid hol
                    have HJ : Hid (j + 1 ≤ kn.length) := Lib.hid hjl
                    clear hnext hol hof hx hrow hb
                    by_cases hm : x ∈ kw
                    · rw [decide_eq_true hm] at CW
                      have HN2 : Hid (o1 ++ (kn.take (j + 1)).filter (fun s => decide (s ∉ kw)) = ol) := Lib.hid (by rw [HNX.out, HOL.out]; simp [hm])
                      clear hm HNX
                      go_wp2_with fail
                      refine CW.mono ?_
                      rintro e w9 ⟨rfl, rfl⟩
                      clear CW
                      go_wp2
                      go_roundw
                      case rel => exact ⟨j + 1, HJ.out, by go_num, by rw [HN2.out]; exact HROW.out, HB.out⟩
                      case measure => simp [intOf]; have := HJ.out; omega
                    · rw [decide_eq_false hm] at CW
                      have HN2 : Hid (o1 ++ (kn.take (j + 1)).filter (fun s => decide (s ∉ kw)) = ol ++ [x]) := Lib.hid (by rw [HNX.out, HOL.out]; simp [hm])
                      clear hm HNX
                      go_wp2_with fail
                      refine CW.mono ?_
                      rintro e w9 ⟨rfl, rfl⟩
                      clear CW
                      go_wp2_with (first
                        | (at_builtin; go_loud (refine wpList_append_own _ rfl (.tmp 132) (.tmp 137) 27 rfl W4.heap.size 9 i9 (.string ⟨#[]⟩) 1 16 Try.underlying27 hj_ hy0 hy1 hy2 rfl (by decide) u15 _ _ rfl (HROW.out.alloc _) ⟨w9.heap.size, 0, none⟩ 1 1 [encStr x] rfl rfl (cell_one_new _ _ _) (by simp [Value.oneCell']) (by unfold maxLen; omega) (by omega) (by simp; omega) ?_); intro v' w3 hown3 hg3 _)
                        | fail)
                      have hb3 := (HB.out.alloc hsz2 (.cells #[encStr x] 9)).grown hg3 (by simp; omega) (fun k e => (HROW.out.lt k e).1)
                      have hrow3 : w3.ownsRow W4.heap.size 9 1 v' (o1 ++ (kn.take (j + 1)).filter (fun s => decide (s ∉ kw))).length ((o1 ++ (kn.take (j + 1)).filter (fun s => decide (s ∉ kw))).map encStr) := by
                        rw [HN2.out]
                        simpa using hown3
                      have HB3 := Lib.hid hb3
                      have HROW3 := Lib.hid hrow3
                      clear hb3 hrow3 hown3 hg3
                      go_wp2
                      go_roundw
                      case rel => exact ⟨j + 1, HJ.out, by go_num, HROW3.out, HB3.out⟩
                      case measure => simp [intOf]; have := HJ.out; omega
                  · obtain rfl : j = kn.length := by omega
                    rw [List.take_length] at HROW hfl2
                    have hout : o1 ++ kn.filter (fun s => decide (s ∉ kw)) = outR kw kn := by rw [HO1.out]; rfl
                    have hol2 : (outR kw kn).length ≤ 4000000 := by rw [← hout, List.length_append]; omega
                    rw [hout] at HROW
                    obtain ⟨ou, hou⟩ : ∃ ou, ou = outR kw kn := ⟨_, rfl⟩
                    rw [← hou] at HROW hol2
                    obtain ⟨Ao, co, rfl, rou⟩ := RowOf.own HROW.out
                    have CR := riseR_any Ao co ou wr rou (by omega)
                    have HOU := Lib.hid hou
                    clear hout hou rou hrow hb hfl2
                    go_wp2_with fail
                    refine CR.mono ?_
                    rintro e W9 ⟨v9, rfl, ho9, hb9⟩
                    have f9 : Fr W4 W9 [] := fr_trans0 (Fr.of_below HB.out) (Fr.of_below hb9)
                    have hfin : PutROut G w Z L Lp (riseL (outR kw kn)) 0 (.returned (.tuple #[v9, .int .i64 0])) W9 := ⟨v9, rfl, by rw [← HOU.out]; exact ownsRow_base_a ho9 (by have h1 := HFZ4.out.size; have h2 := HB.out.size; omega), HZ4.out.fr f9, HFZ4.out.trans (Fz.of_below Z f9.below)⟩
                    rw [HKN.out, HKW.out, HLP.out, HEN.out, HD0.out] at hfin
                    have HFIN := Lib.hid hfin
                    clear hfin ho9 hb9 f9 CR
                    go_wp2
                    go_ret2
                    exact HFIN.out

end Go.Proofs.Ytkjmknmcbkofbaa
