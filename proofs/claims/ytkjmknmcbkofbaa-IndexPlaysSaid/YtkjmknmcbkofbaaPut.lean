/-
  Put: the walk.
  Its conditions: as each theorem states them.
-/
import Derived.Test.YtkjmknmcbkofbaaPutE
import Derived.Deep.DeepCutAuto
import Derived.Deep.CutBlock
namespace Go.Proofs.Ytkjmknmcbkofbaa
set_option linter.unusedVariables false
set_option linter.unusedSimpArgs false
open Go Go.Proofs Go.RowKit Go.Maps Go.Sort Go.Shelf
variable {G : Nat → Prop}

set_option maxRecDepth 100000 in
set_option maxHeartbeats 4000000 in
theorem put_any (X be bd bm bc N : Nat) (st : St) (n : Int) (hn0 : 0 ≤ n) (hn1 : n ≤ 9223372036854775807) (A1 A2 : Option Addr) (cap1 cap2 : Nat) (ds ms : List Str) (w : World) (h : Idx G w X be bd bm bc N st)
    (hr1 : Reads w w.heap.size 1 A1 ds.length (ds.map encStr)) (hr2 : Reads w w.heap.size 1 A2 ms.length (ms.map encStr)) (hs1 : ∀ s ∈ ds, s.length ≤ maxLen) (hs2 : ∀ s ∈ ms, s.length ≤ maxLen)
    (hN : N ≤ 1073741824) (hl1 : ds.length ≤ 1073741824) (hl2 : ms.length ≤ 1073741824) (hG : ∀ b, G b → b < w.heap.size) :
    Calls Try.prog 16 #[.pointer (some ⟨X, 0, none⟩), .int .i64 n, .slice A1 ds.length cap1, .slice A2 ms.length cap2] w (PutOut G w X be bd bm bc st n (riseL ds) (riseL ms)) := by
  have hmm := @run_makeMap Try.prog
  have hneg : decide (n < 0) = false := by simp; omega
  have hX : X < w.heap.size := h.blk.lt
  have c0 : w.cell? ⟨X, 0, none⟩ = some (.map (some be)) := by rw [h.blk.cell]; rfl
  obtain ⟨ev, hev, hrows⟩ := h.ent
  have hnw : (Lit.int .i64 n).wf = true := WalkArith.wf_i64 (by omega)
  obtain ⟨vo1, vo2, hvo, ⟨Ao1, co1, rfl, hro1⟩, ⟨Ao2, co2, rfl, hro2⟩⟩ : ∃ vo1 vo2, ((entF st ev) n).getD (.agg #[.slice none 0 0, .slice none 0 0]) = .agg #[vo1, vo2] ∧ RowOf w vo1 (getD st n) ∧ RowOf w vo2 (getM st n) := by
    unfold entF
    by_cases hh : has st n = true
    · obtain ⟨e, he, e1⟩ := List.any_eq_true.1 hh
      obtain rfl : e.n = n := by simpa using e1
      rw [if_pos hh]
      exact ⟨_, _, rfl, by rw [getD_of h.wf he]; exact (hrows e he).1.1, by rw [getM_of h.wf he]; exact (hrows e he).2.1⟩
    · rw [if_neg hh]
      have hnone : st.find? (fun e => decide (e.n = n)) = none := by
        rw [List.find?_eq_none]
        intro x hx hx'
        exact hh (List.any_eq_true.2 ⟨x, hx, hx'⟩)
      exact ⟨_, _, rfl, by unfold getD; rw [hnone]; exact RowOf.nil w, by unfold getM; rw [hnone]; exact RowOf.nil w⟩
  have HI := Lib.hid h
  have look0 : ∀ o1 o2 o3, Sem.run Try.prog (Instr.lookup 52 (.map (some be)) (.int .i64 n) false) (((w.alloc o1).alloc o2).alloc o3) = .ok (.agg #[.slice Ao1 (getD st n).length co1, .slice Ao2 (getM st n).length co2]) (((w.alloc o1).alloc o2).alloc o3) := fun o1 o2 o3 => by
    have := (((hev.alloc intK o1).alloc intK o2).alloc intK o3).look intK Try.underlying52 (Try.zeroValue67 _) (a := n) hnw
    rw [hvo] at this
    exact this
  have c0' : ∀ o1 o2 o3, (((w.alloc o1).alloc o2).alloc o3).cell? ⟨X, 0, none⟩ = some (.map (some be)) := fun o1 o2 o3 =>
    (((Fr.refl' w).alloc o1).alloc o2 |>.alloc o3).cell_some c0
  obtain ⟨od, hod⟩ : ∃ od, od = getD st n := ⟨_, rfl⟩
  obtain ⟨om, hom⟩ : ∃ om, om = getM st n := ⟨_, rfl⟩
  rw [← hod] at hro1 look0
  rw [← hom] at hro2 look0
  have HOD := Lib.hid hod
  have HOM := Lib.hid hom
  obtain ⟨W0, hW0⟩ : ∃ W0, (((w.alloc (.cells #[.pointer (some ⟨X, 0, none⟩)] 25)).alloc (.map #[] 0)).alloc (.cells #[.map (some (w.heap.size + 1))] 64)).alloc (.cells #[.slice Ao1 od.length co1, .slice Ao2 om.length co2] 67) = W0 := ⟨_, rfl⟩
  have hf0 : Fr w W0 [] := by rw [← hW0]; exact ((((Fr.refl' w).alloc _).alloc _).alloc _).alloc _
  have hz0 : W0.heap.size = w.heap.size + 4 := by rw [← hW0]; simp
  have k1 : W0.cell? ⟨w.heap.size, 0, none⟩ = some (.pointer (some ⟨X, 0, none⟩)) := by
    rw [← hW0]
    exact ((((Fr.refl' _).alloc _).alloc _).alloc _).cell_some (World.cell?_alloc_new w _ _ 0)
  have k2 : W0.cell? ⟨w.heap.size + 1 + 1, 0, none⟩ = some (.map (some (w.heap.size + 1))) := by
    rw [← hW0]
    refine ((Fr.refl' _).alloc _).cell_some ?_
    have := World.cell?_alloc_new ((w.alloc (.cells #[.pointer (some ⟨X, 0, none⟩)] 25)).alloc (.map #[] 0)) #[.map (some (w.heap.size + 1))] 64 0
    simp only [World.size_alloc] at this
    exact this
  have k3 : ∀ i, W0.cell? ⟨w.heap.size + 1 + 1 + 1, i, none⟩ = #[Value.slice Ao1 od.length co1, Value.slice Ao2 om.length co2][i]? := fun i => by
    rw [← hW0]
    have := World.cell?_alloc_new (((w.alloc (.cells #[.pointer (some ⟨X, 0, none⟩)] 25)).alloc (.map #[] 0)).alloc (.cells #[.map (some (w.heap.size + 1))] 64)) #[Value.slice Ao1 od.length co1, Value.slice Ao2 om.length co2] 67 i
    simp only [World.size_alloc] at this
    exact this
  have k4 := k3 0
  have k5 := k3 1
  have hv0 : View strK W0 (w.heap.size + 1) 0 (wasF (cnt st) []) := by
    have := ((View.made strK (w.alloc (.cells #[.pointer (some ⟨X, 0, none⟩)] 25))).alloc strK (.cells #[.map (some (w.heap.size + 1))] 64)).alloc strK (.cells #[.slice Ao1 od.length co1, .slice Ao2 om.length co2] 67)
    rw [World.size_alloc] at this
    rw [← hW0]
    exact this.congr strK (fun a _ => by simp [wasF])
  have hr1' := hf0.reads hr1
  have hr2' := hf0.reads hr2
  clear h hev hvo hnw hrows hod hom
  go_enter Try.func16, Try.ntmps16
  go_upto_region 8 with fail
  clear look0 c0' hmm c0 hW0 k3
  have R1 := rise_row A1 cap1 ds W0 hr1' (by omega)
  have R2 : ∀ W1, Below W0.heap.size W0 W1 → Calls Try.prog 30 #[.slice A2 ms.length cap2] W1 (RiseRow W1 ms) := fun W1 hb => rise_row A2 cap2 ms W1 ((hr2'.below hb).more hb.size) (by omega)
  go_upto_region 9 with (first
    | (go_at_call 30; refine R1.mono ?_; rintro e W1 ⟨An1, cn1, rfl, hrn1, hfr1, hb1⟩; have R3 := R2 W1 hb1)
    | (go_at_call 30; refine R3.mono ?_; rintro e W2 ⟨An2, cn2, rfl, hrn2, hfr2, hb2⟩))
  obtain ⟨nd, hnd⟩ : ∃ nd, nd = riseL ds := ⟨_, rfl⟩
  obtain ⟨nm, hnm⟩ : ∃ nm, nm = riseL ms := ⟨_, rfl⟩
  rw [← hnd] at hrn1 hfr1
  rw [← hnm] at hrn2 hfr2
  have HG1 : Hid (∀ ad n c, Value.slice An1 nd.length cn1 = .slice (some ad) n c → 0 < nd.length → ¬ G ad.block) := Lib.hid (fun ad n c e h0 hg => by
    injection e with e1
    have h1 := hfr1 ad e1 h0
    have h2 := hG _ hg
    omega)
  have HG2 : Hid (∀ ad n c, Value.slice An2 nm.length cn2 = .slice (some ad) n c → 0 < nm.length → ¬ G ad.block) := Lib.hid (fun ad n c e h0 hg => by
    injection e with e1
    have h1 := hfr2 ad e1 h0
    have h2 := hG _ hg
    have h3 := hb1.size
    omega)
  clear hfr1 hfr2 hG
  have f1 : Fr W0 W2 [] := (Fr.of_below hb1).trans (Fr.of_below hb2)
  obtain ⟨W, hW⟩ : ∃ W, W2.alloc (.cells #[.slice An1 nd.length cn1, .slice An2 nm.length cn2] 67) = W := ⟨_, rfl⟩
  have f2 : Fr W2 W [] := by rw [← hW]; exact (Fr.refl' _).alloc _
  have f3 : Fr W0 W [] := f1.trans f2
  have fw : Fr w W [] := hf0.trans f3
  have kn : ∀ i, W.cell? ⟨W2.heap.size, i, none⟩ = #[Value.slice An1 nd.length cn1, Value.slice An2 nm.length cn2][i]? := fun i => by rw [← hW]; exact World.cell?_alloc_new _ _ _ _
  have hP : PS X be bd bm bc w.heap.size (w.heap.size + 1 + 1) (w.heap.size + 1) (w.heap.size + 1 + 1 + 1) W2.heap.size Ao1 Ao2 An1 An2 co1 co2 cn1 cn2 od om nd nm W := by
    have cx := fun i => HI.out.blk.cell i
    exact ⟨fw.cell_some (cx 0), fw.cell_some (cx 1), fw.cell_some (cx 2), fw.cell_some (cx 3), f3.cell_some k1, f3.cell_some k2, f3.cell_some k4, f3.cell_some k5, kn 0, kn 1, fw.reads hro1, fw.reads hro2,
      f2.reads ((Fr.of_below hb2).reads hrn1), f2.reads hrn2⟩
  have hvW : View strK W (w.heap.size + 1) 0 (wasF (cnt st) []) := hv0.fr strK f3 (by simp)
  have hIW : Idx G W X be bd bm bc N st := HI.out.fr fw (by simp)
  rw [hnd.symm, hnm.symm, hW]
  have hbc : bc < w.heap.size := HI.out.cnt.lt strK
  have hbd : bd < w.heap.size := HI.out.def_.lt saidK
  have hbm : bm < w.heap.size := HI.out.men.lt saidK
  have hbe : be < w.heap.size := HI.out.ent.choose_spec.1.lt intK
  have hwf := HI.out.wf
  have sod : ∀ s ∈ od, s.length ≤ maxLen := fun s hs => by
    rw [HOD.out] at hs
    obtain ⟨e, he, _, hm⟩ := (mem_getD hwf).1 hs
    exact (hwf.str e he).1 s hm
  have lod : od.length ≤ 1073741824 := by
    rw [HOD.out]; unfold getD
    split
    · rename_i e he; have := (hwf.len e (List.mem_of_find?_eq_some he)).1; omega
    · simp
  have snd_ : ∀ s ∈ nd, s.length ≤ maxLen := fun s hs => by rw [hnd, mem_riseL] at hs; exact hs1 s hs
  have lnd : nd.length ≤ 1073741824 := by rw [hnd]; have := length_riseL ds; omega
  have lnm : nm.length ≤ 1073741824 := by rw [hnm]; have := length_riseL ms; omega
  have L1 := look_any (w.heap.size + 1 + 1) w.heap.size (w.heap.size + 1) 0 Ao1 co1 od [] X be bd bm bc N st W hIW (by omega) hP.wb hP.bx hvW hP.ro1 sod (by omega) (by omega)
  rw [List.nil_append, Nat.zero_add] at L1
  have L2 : ∀ W3, LookOut W (w.heap.size + 1) od.length (cnt st) od (.returned (.tuple #[])) W3 → Calls Try.prog 29 #[.slice An1 nd.length cn1, .pointer (some ⟨w.heap.size + 1 + 1, 0, none⟩), .pointer (some ⟨w.heap.size, 0, none⟩)] W3 (LookOut W3 (w.heap.size + 1) (od.length + nd.length) (cnt st) (od ++ nd)) := fun W3 ho => by
    have hf := ho.2.2
    exact look_any (w.heap.size + 1 + 1) w.heap.size (w.heap.size + 1) od.length An1 cn1 nd od X be bd bm bc N st W3 (hIW.fr hf (by simp; omega)) (by omega) (hP.fr hf).wb (hP.fr hf).bx ho.2.1 (hP.fr hf).rn1 snd_ (by omega) (by omega)
  have ho1 := hP.o1
  have hn1' : ∀ W3, LookOut W (w.heap.size + 1) od.length (cnt st) od (.returned (.tuple #[])) W3 → W3.cell? ⟨W2.heap.size, 0, none⟩ = some (.slice An1 nd.length cn1) := fun W3 ho => (hP.fr ho.2.2).n1
  have HND := Lib.hid hnd
  have HNM := Lib.hid hnm
  have HBC := Lib.hid hbc
  have FW := Lib.hid fw
  have HSN := Lib.hid snd_
  have HSM : Hid (∀ s ∈ nm, s.length ≤ maxLen) := Lib.hid (fun s hs => by rw [hnm, mem_riseL] at hs; exact hs2 s hs)
  clear R1 R2 R3 hr1' hr2' k1 k2 k4 k5 kn hrn1 hrn2 hv0 hro1 hro2 hr1 hr2 hb1 hb2 hnd hnm hW f1 f2 f3 hf0 hz0 hvW fw hs1 hs2 sod snd_ hwf
  go_upto_region 11 with (first
    | (go_at_call 29; refine L1.mono ?_; clear L1; rintro e W3 ⟨rfl, hq1, hq2⟩; have L3 := L2 W3 ⟨rfl, hq1, hq2⟩; have hc3 := hn1' W3 ⟨rfl, hq1, hq2⟩)
    | (go_at_call 29; refine L3.mono ?_; clear L3; rintro e W4 ⟨rfl, hq3, hq4⟩))
  have hP4 := hP.fr (hq2.trans hq4)
  have hI4 := hIW.fr (hq2.trans hq4) (by simp; omega)
  have fW4 := FW.out.trans (hq2.trans hq4)
  have hud : Up od := by
    rw [HOD.out]; unfold getD
    split
    · rename_i e he; exact HI.out.wf.upd e (List.mem_of_find?_eq_some he)
    · exact List.Pairwise.nil
  have sod : ∀ s ∈ od, s.length ≤ maxLen := fun s hs => by
    rw [HOD.out] at hs
    obtain ⟨e, he, _, hm⟩ := (mem_getD HI.out.wf).1 hs
    exact (HI.out.wf.str e he).1 s hm
  have hd0 : View saidK W4 bd N (setF (sDown (getD st) n od 0)) := hI4.def_.congr saidK (fun a _ => by unfold setF sDown; simp)
  have hc0 : View strK W4 bc N (cntF (cDown (cnt (drop st n)) od 0)) := hI4.cnt.congr strK (fun s _ => by
    unfold cntF cDown
    rw [cnt_drop (n := n) HI.out.wf s, ← HOD.out]
    simp)
  have hnw : (Lit.int .i64 n).wf = true := WalkArith.wf_i64 (by omega)
  have hcb : ∀ s, cnt (drop st n) s ≤ 1073741824 := fun s => by
    have h1 := cnt_le (drop st n) s
    have h2 := (wf_drop (n := n) HI.out.wf).size
    omega
  have ho1' := hP4.o1
  have HP := Lib.hid hP4
  have HI4 := Lib.hid hI4
  have HUD := Lib.hid hud
  have HQ3 := Lib.hid hq3
  have HD0 := Lib.hid hd0
  have HC0 := Lib.hid hc0
  have HF4 := Lib.hid fW4
  have HMd := Lib.hid (HI4.out.def_.isMapBlock saidK)
  have HMc := Lib.hid (HI4.out.cnt.isMapBlock strK)
  clear hP4 hI4 hud hq3 hd0 hc0 hq1 hq2 hq4 hP hIW ho1 hn1' hc3 L2 fW4
  go_wp2
  go_loopw [55] (fun i wr => ∃ k : Nat, k ≤ od.length ∧ i = .int .i64 k ∧ Fr W4 wr [bd, bc] ∧ View saidK wr bd N (setF (sDown (getD st) n od k)) ∧ View strK wr bc (N + k) (cntF (cDown (cnt (drop st n)) od k))) (fun i _ => od.length - (intOf i).toNat)
  case atStart => exact ⟨0, Nat.zero_le _, rfl, (Fr.refl' _).sub (by simp) (fun b hb _ => by simp at hb; rcases hb with rfl | rfl; exact HMd.out; exact HMc.out), HD0.out, HC0.out⟩
  case round =>
    obtain ⟨k, hk, rfl, hf, hvd, hvc⟩ := hrel
    have hPr := HP.out.fr hf
    have p1 := hPr.x1
    have p3 := hPr.x3
    have pb := hPr.bx
    by_cases hlt : k < od.length
    · obtain ⟨ad, rfl, hab, hcell⟩ := hPr.ro1.one hlt rfl
      have hsl := sod _ (List.getElem_mem hlt)
      have sd := Lib.hid (sDown_step (g := getD st) (n := n) hlt)
      have cd := Lib.hid (cDown_step (c0 := cnt (drop st n)) HUD.out hlt)
      have ca := Lib.hid (cDown_at (c0 := cnt (drop st n)) hlt)
      obtain ⟨c, hc⟩ : ∃ c, c = cnt (drop st n) od[k] := ⟨_, rfl⟩
      have hcc := hcb od[k]
      rw [← hc] at cd ca hcc
      obtain ⟨s, hs⟩ : ∃ s, s = od[k] := ⟨_, rfl⟩
      rw [← hs] at hcell hsl sd cd ca
      have hne : bd ≠ bc := HI.out.ne.2.2.2.2.1
      obtain ⟨w1, hr1, hv1, ht1⟩ := hvd.drop saidK Try.underlying53 (a := (s, n)) ⟨hsl, hnw⟩ 0
      change (Builtin.delete_ #[53, 69] 0 #[.map (some bd), .agg #[encStr s, .int .i64 n]]).run Try.prog wr = _ at hr1
      have f1 : Fr wr w1 [bd] := Fr.of_turned ht1
      have hvc1 : View strK w1 bc (N + k) (cntF (cDown (cnt (drop st n)) od k)) := hvc.fr strK f1 (by simp; exact fun e => hne e.symm)
      have hl1 : Sem.run Try.prog (Instr.lookup 54 (.map (some bc)) (encStr s) false) w1 = .ok (.int .i64 ((c : Int) + 1)) w1 := by
        have := cnt_look hvc1 hsl
        rw [ca.out] at this
        simpa using this
      obtain ⟨w2, hr2, hv2, ht2⟩ := hvc1.store strK Try.underlying54 (by unfold maxLen; omega) (a := s) hsl (.int .i64 (c : Int))
      change Sem.run Try.prog (Instr.mapUpdate 54 (.map (some bc)) (encStr s) (.int .i64 (c : Int))) w1 = _ at hr2
      have f2 : Fr w1 w2 [bc] := Fr.of_turned ht2
      have hl2 : Sem.run Try.prog (Instr.lookup 54 (.map (some bc)) (encStr s) false) w2 = .ok (.int .i64 (c : Int)) w2 := by
        have := hv2.look strK Try.underlying54 (Try.zeroValue3 _) (a := s) hsl
        rw [upd_same] at this
        exact this
      have hP1 := hPr.fr f1
      have hP2 := hP1.fr f2
      have q3 := hP1.x3
      have qb := hP1.bx
      have r3 := hP2.x3
      have rb := hP2.bx
      have hvd2 : View saidK w2 bd N (setF (sDown (getD st) n od (k + 1))) := by
        rw [sd.out]
        exact hv1.fr saidK f2 (by simp; exact hne)
      have hfr2 : Fr W4 w2 [bd, bc] := ((hf.trans f1).trans f2).strip (fun b hb _ => by simp at hb ⊢; omega) (fun b hb => by simp at hb; rcases hb with rfl | rfl; exact HMd.out; exact HMc.out)
      have HVD := Lib.hid hvd2
      have HFR := Lib.hid hfr2
      have HHF := Lib.hid hf
      by_cases h0 : c = 0
      · subst h0
        obtain ⟨w3, hr3, hv3, ht3⟩ := hv2.drop strK Try.underlying54 (a := s) hsl 0
        change (Builtin.delete_ #[54, 9] 0 #[.map (some bc), encStr s]).run Try.prog w2 = _ at hr3
        have f3 : Fr w2 w3 [bc] := Fr.of_turned ht3
        have hvd3 : View saidK w3 bd N (setF (sDown (getD st) n od (k + 1))) := hvd2.fr saidK f3 (by simp; exact hne)
        have hvc3 : View strK w3 bc (N + (k + 1)) (cntF (cDown (cnt (drop st n)) od (k + 1))) := by
          rw [cd.out, if_neg (by omega)]
          rw [upd_upd] at hv3
          exact hv3
        have hfr3 : Fr W4 w3 [bd, bc] := (hfr2.trans f3).strip (fun b hb _ => by simp at hb ⊢; omega) (fun b hb => by simp at hb; rcases hb with rfl | rfl; exact HMd.out; exact HMc.out)
        have H1 := Lib.hid hvd3
        have H2 := Lib.hid hvc3
        have H3 := Lib.hid hfr3
        clear hf hvd hvc hPr hv1 hv2 ht1 ht2 hvc1 hP1 hP2 hvd2 hfr2 hv3 ht3 hvd3 hvc3 hfr3 f1 f2 f3 hs hc
        simp only [Int.ofNat_zero, Int.zero_add, Int.cast_ofNat_Int] at hl1 hl2 hr2
        go_wp2
        go_roundw
        case rel => exact ⟨k + 1, by omega, by go_num, H3.out, H1.out, H2.out⟩
        case measure => simp [intOf]; omega
      · have h0' : ((c : Int) == 0) = false := by simp; omega
        have hvc3 : View strK w2 bc (N + (k + 1)) (cntF (cDown (cnt (drop st n)) od (k + 1))) := by
          rw [cd.out, if_pos (by omega)]
          exact hv2
        have H2 := Lib.hid hvc3
        clear hf hvd hvc hPr hv1 hv2 ht1 ht2 hvc1 hP1 hP2 hvd2 hfr2 hvc3 f1 f2 hs hc h0
        go_wp2
        go_roundw
        case rel => exact ⟨k + 1, by omega, by go_num, HFR.out, HVD.out, H2.out⟩
        case measure => simp [intOf]; omega
    · obtain rfl : k = od.length := by omega
      obtain ⟨V1, rfl⟩ : ∃ V1 : World, V1 = wr := ⟨_, rfl⟩
      have V1a := Lib.hid hf
      have V1b := Lib.hid hvd
      have V1c := Lib.hid hvc
      have V1d := Lib.hid hPr
      have hbe0 := hPr.o2
      have hMm := Lib.hid (HI4.out.men.isMapBlock saidK)
      have hvm0 : View saidK V1 bm N (setF (sDown (getM st) n om 0)) := (HI4.out.men.fr saidK hf (by have := HI.out.ne; simp; omega)).congr saidK (fun a _ => by unfold setF sDown; simp)
      have V1e := Lib.hid hvm0
      have som : ∀ s ∈ om, s.length ≤ maxLen := fun s hs => by
        rw [HOM.out] at hs
        obtain ⟨e, he, _, hm⟩ := (mem_getM HI.out.wf).1 hs
        exact (HI.out.wf.str e he).2 s hm
      have lom : om.length ≤ 1073741824 := by
        rw [HOM.out]; unfold getM
        split
        · rename_i e he; have := (HI.out.wf.len e (List.mem_of_find?_eq_some he)).2; omega
        · simp
      clear hf hvd hvc hPr hvm0 sod
      go_wp2
      go_loopw [89] (fun i wr => ∃ k : Nat, k ≤ om.length ∧ i = .int .i64 k ∧ Fr V1 wr [bm] ∧ View saidK wr bm N (setF (sDown (getM st) n om k))) (fun i _ => om.length - (intOf i).toNat)
      case atStart => exact ⟨0, Nat.zero_le _, rfl, (Fr.refl' _).sub (by simp) (fun b hb _ => by simp at hb; subst hb; exact V1e.out.isMapBlock saidK), V1e.out⟩
      case round =>
        obtain ⟨k, hk, rfl, hf, hvm⟩ := hrel
        have hPr := V1d.out.fr hf
        have p2 := hPr.x2
        have pb := hPr.bx
        by_cases hlt : k < om.length
        · obtain ⟨ad, rfl, hab, hcell⟩ := hPr.ro2.one hlt rfl
          have hsl := som _ (List.getElem_mem hlt)
          have sd := Lib.hid (sDown_step (g := getM st) (n := n) hlt)
          obtain ⟨s, hs⟩ : ∃ s, s = om[k] := ⟨_, rfl⟩
          rw [← hs] at hcell hsl sd
          obtain ⟨w1, hr1, hv1, ht1⟩ := hvm.drop saidK Try.underlying53 (a := (s, n)) ⟨hsl, hnw⟩ 0
          change (Builtin.delete_ #[53, 69] 0 #[.map (some bm), .agg #[encStr s, .int .i64 n]]).run Try.prog wr = _ at hr1
          have hfr := (hf.trans (Fr.of_turned ht1)).strip (cs := [bm]) (fun b hb _ => by simp at hb ⊢; omega) (fun b hb => by simp at hb; subst hb; exact V1e.out.isMapBlock saidK)
          have H1 : Hid (View saidK w1 bm N (setF (sDown (getM st) n om (k + 1)))) := Lib.hid (by rw [sd.out]; exact hv1)
          have H2 := Lib.hid hfr
          clear hf hvm hPr hv1 ht1 hfr hs
          go_wp2
          go_roundw
          case rel => exact ⟨k + 1, by omega, by go_num, H2.out, H1.out⟩
          case measure => simp [intOf]; omega
        · obtain rfl : k = om.length := by omega
          obtain ⟨V2, rfl⟩ : ∃ V2 : World, V2 = wr := ⟨_, rfl⟩
          have V2a := Lib.hid hf
          have V2b := Lib.hid hvm
          have V2d := Lib.hid hPr
          have hne := HI.out.ne
          obtain ⟨ev, hev, hrows⟩ := HI4.out.ent
          have hevx : View intK V2 be N (entF st ev) := (hev.fr intK V1a.out (by simp; omega)).fr intK hf (by simp; omega)
          have hrx : ∀ e ∈ st, RowG G V2 (ev e.n).1 e.d ∧ RowG G V2 (ev e.n).2 e.m := fun e he => ⟨((hrows e he).1.fr V1a.out).fr hf, ((hrows e he).2.fr V1a.out).fr hf⟩
          obtain ⟨w1, hr1, hv1, ht1⟩ := hevx.drop intK Try.underlying52 (a := n) hnw 0
          change (Builtin.delete_ #[52, 3] 0 #[.map (some be), .int .i64 n]).run Try.prog V2 = _ at hr1
          have f1 := Fr.of_turned ht1
          have hP1 := hPr.fr f1
          have p0 := hPr.x0
          have q0 := hP1.x0
          have qb := hP1.bx
          have qn1 := hP1.n1
          have qn2 := hP1.n2
          have HV1 := Lib.hid hv1
          have HF1 := Lib.hid f1
          have HP1 := Lib.hid hP1
          have HRX := Lib.hid hrx
          have HEV := Lib.hid (HI4.out.ent)
          have HNE := Lib.hid hne
          clear hf hvm hPr hev hrows hevx hrx hv1 ht1 f1 hP1 hne som
          go_upto_if 113 with fail
          go_cut [] (fun wc => EntAt G V2 wc be N (put st n nd nm))
          case first =>
            by_cases hlen : 0 < nd.length + nm.length
            · have hne2 : ¬ (nd = [] ∧ nm = []) := fun ⟨e1, e2⟩ => by rw [e1, e2] at hlen; simp at hlen
              have hvd : View intK w1.drew be N (upd (entF st ev) n none) := HV1.out
              obtain ⟨w2, hr2, hv2, ht2⟩ := hvd.store intK Try.underlying52 (by unfold maxLen; omega) (a := n) hnw (.agg #[.slice An1 nd.length cn1, .slice An2 nm.length cn2])
              change Sem.run Try.prog (Instr.mapUpdate 52 (.map (some be)) (.int .i64 n) (.agg #[.slice An1 nd.length cn1, .slice An2 nm.length cn2])) w1.drew = _ at hr2
              have f12 : Fr V2 w2 [be] := ((HF1.out.drew).trans (Fr.of_turned ht2)).strip (fun b hb _ => by simp at hb ⊢; omega) (fun b hb => by simp at hb; subst hb; exact (HF1.out.maps b ((HF1.out.size |> fun h => by have := hvd.lt intK; have h3 := HI4.out.ent.choose_spec.1.lt intK; have := V1a.out.size; have := V2a.out.size; omega)) (by simp)).1)
              have hfin : EntAt G V2 w2 be N (put st n nd nm) := by
                refine ⟨f12, (fun k => if k = n then (.slice An1 nd.length cn1, .slice An2 nm.length cn2) else ev k), hv2.congr intK (fun a _ => by rw [entF_some _ _ hne2]; rfl), rows_put (fun e he => ⟨(HRX.out e he).1.fr f12, (HRX.out e he).2.fr f12⟩) ⟨⟨_, _, rfl, (V2d.out.fr f12).rn1⟩, HG1.out⟩ ⟨⟨_, _, rfl, (V2d.out.fr f12).rn2⟩, HG2.out⟩⟩
              have HFIN := Lib.hid hfin
              clear hfin hvd hv2 ht2 f12
              go_wp2_with fail
              go_region
              all_goals (go_wp2_with fail; go_meet; exact HFIN.out)
            · have hne2 : nd = [] ∧ nm = [] := ⟨List.eq_nil_of_length_eq_zero (by omega), List.eq_nil_of_length_eq_zero (by omega)⟩
              have f12 : Fr V2 w1 [be] := HF1.out
              have hfin : EntAt G V2 w1 be N (put st n nd nm) := by
                refine ⟨f12, (fun k => if k = n then (.slice An1 nd.length cn1, .slice An2 nm.length cn2) else ev k), (HV1.out.mono intK (Nat.le_succ _)).congr intK (fun a _ => by rw [entF_none _ _ hne2]; rfl), rows_put (fun e he => ⟨(HRX.out e he).1.fr f12, (HRX.out e he).2.fr f12⟩) ⟨⟨_, _, rfl, (V2d.out.fr f12).rn1⟩, HG1.out⟩ ⟨⟨_, _, rfl, (V2d.out.fr f12).rn2⟩, HG2.out⟩⟩
              have HFIN := Lib.hid hfin
              clear hfin f12 hne2
              go_wp2_with fail
              go_meet
              exact HFIN.out
          case rest =>
            obtain ⟨V3, rfl⟩ : ∃ V3 : World, V3 = wc := ⟨_, rfl⟩
            have hE := Lib.hid hcut
            have hf3 := hcut.1
            have hP3 := V2d.out.fr hf3
            have V3d := Lib.hid hP3
            have r1 := hP3.n1
            have hne := HI.out.ne
            have hvd3 : View saidK V3 bd N (setF (sUp (getD st) n nd 0)) := ((V1b.out.fr saidK V2a.out (by simp; omega)).fr saidK hf3 (by simp; omega)).congr saidK (fun a _ => by rw [sUp_zero HOD.out])
            have hvc3 : View strK V3 bc (N + od.length) (cntF (cUp (cnt (drop st n)) nd 0)) := ((V1c.out.fr strK V2a.out (by simp; omega)).fr strK hf3 (by simp; omega)).congr strK (fun a _ => by rw [cUp_zero _ od nd])
            have V3b := Lib.hid hvd3
            have V3c := Lib.hid hvc3
            have hundd : Up nd := by rw [HND.out]; exact up_riseL ds
            have HUN := Lib.hid hundd
            clear hcut hf3 hP3 hne hvd3 hvc3 hundd q0 qb qn1 qn2 hr1
            have snd2 : ∀ s ∈ nd, s.length ≤ maxLen := fun s hs => HSN.out s hs
            have snm2 : ∀ s ∈ nm, s.length ≤ maxLen := fun s hs => HSM.out s hs
            go_wp2_with fail
            go_loopw [123] (fun i wr => ∃ k : Nat, k ≤ nd.length ∧ i = .int .i64 k ∧ Fr V3 wr [bd, bc] ∧ View saidK wr bd (N + k) (setF (sUp (getD st) n nd k)) ∧ View strK wr bc (N + od.length + k) (cntF (cUp (cnt (drop st n)) nd k))) (fun i _ => nd.length - (intOf i).toNat)
            case atStart => exact ⟨0, Nat.zero_le _, rfl, (Fr.refl' _).sub (by simp) (fun b hb _ => by simp at hb; rcases hb with rfl | rfl; exact V3b.out.isMapBlock saidK; exact V3c.out.isMapBlock strK), V3b.out, V3c.out⟩
            case round =>
              obtain ⟨k, hk, rfl, hf, hvd, hvc⟩ := hrel
              have hPr := V3d.out.fr hf
              have p1 := hPr.x1
              have pb := hPr.bx
              by_cases hlt : k < nd.length
              · obtain ⟨ad, rfl, hab, hcell⟩ := hPr.rn1.one hlt rfl
                have hsl := snd2 _ (List.getElem_mem hlt)
                have sd := Lib.hid (sUp_step (g := getD st) (n := n) hlt)
                have cd := Lib.hid (cUp_step (c0 := cnt (drop st n)) hlt)
                have ca := Lib.hid (cUp_at (c0 := cnt (drop st n)) HUN.out hlt)
                obtain ⟨c, hc⟩ : ∃ c, c = cnt (drop st n) nd[k] := ⟨_, rfl⟩
                have hcc := hcb nd[k]
                rw [← hc] at cd ca hcc
                obtain ⟨s, hs⟩ : ∃ s, s = nd[k] := ⟨_, rfl⟩
                rw [← hs] at hcell hsl sd cd ca
                have hne : bd ≠ bc := HI.out.ne.2.2.2.2.1
                obtain ⟨w1', hr1, hv1, ht1⟩ := hvd.store saidK Try.underlying53 (by unfold maxLen; omega) (a := (s, n)) ⟨hsl, hnw⟩ (.bool true)
                change Sem.run Try.prog (Instr.mapUpdate 53 (.map (some bd)) (.agg #[encStr s, .int .i64 n]) (.bool true)) wr = _ at hr1
                have f1 : Fr wr w1' [bd] := Fr.of_turned ht1
                have hvc1 : View strK w1' bc (N + od.length + k) (cntF (cUp (cnt (drop st n)) nd k)) := hvc.fr strK f1 (by simp; exact fun e => hne e.symm)
                have hl1 : Sem.run Try.prog (Instr.lookup 54 (.map (some bc)) (encStr s) false) w1' = .ok (.int .i64 (c : Int)) w1' := by
                  have := cnt_look hvc1 hsl
                  rw [ca.out] at this
                  exact this
                obtain ⟨w2, hr2, hv2, ht2⟩ := hvc1.store strK Try.underlying54 (by unfold maxLen; omega) (a := s) hsl (.int .i64 ((c : Int) + 1))
                change Sem.run Try.prog (Instr.mapUpdate 54 (.map (some bc)) (encStr s) (.int .i64 ((c : Int) + 1))) w1' = _ at hr2
                have f2 : Fr w1' w2 [bc] := Fr.of_turned ht2
                have hP1 := hPr.fr f1
                have q3 := hP1.x3
                have qb := hP1.bx
                have hvd2 : View saidK w2 bd (N + (k + 1)) (setF (sUp (getD st) n nd (k + 1))) := by
                  rw [sd.out]
                  exact hv1.fr saidK f2 (by simp; exact hne)
                have hvc2 : View strK w2 bc (N + od.length + (k + 1)) (cntF (cUp (cnt (drop st n)) nd (k + 1))) := by
                  rw [cd.out]
                  exact hv2
                have hfr2 : Fr V3 w2 [bd, bc] := ((hf.trans f1).trans f2).strip (fun b hb _ => by simp at hb ⊢; omega) (fun b hb => by simp at hb; rcases hb with rfl | rfl; exact V3b.out.isMapBlock saidK; exact V3c.out.isMapBlock strK)
                have HVD := Lib.hid hvd2
                have HVC := Lib.hid hvc2
                have HFR := Lib.hid hfr2
                clear hf hvd hvc hPr hv1 hv2 ht1 ht2 hvc1 hP1 hvd2 hfr2 hvc2 f1 f2 hs hc
                go_wp2
                go_roundw
                case rel => exact ⟨k + 1, by omega, by go_num, HFR.out, HVD.out, HVC.out⟩
                case measure => simp [intOf]; omega
              · obtain rfl : k = nd.length := by omega
                obtain ⟨V4, rfl⟩ : ∃ V4 : World, V4 = wr := ⟨_, rfl⟩
                have V4a := Lib.hid hf
                have V4b := Lib.hid hvd
                have V4c := Lib.hid hvc
                have V4d := Lib.hid hPr
                have s2 := hPr.n2
                have hne := HI.out.ne
                have hvm4 : View saidK V4 bm N (setF (sUp (getM st) n nm 0)) := ((V2b.out.fr saidK hE.out.1 (by simp; omega)).fr saidK hf (by simp; omega)).congr saidK (fun a _ => by rw [sUp_zero HOM.out])
                have V4e := Lib.hid hvm4
                clear hf hvd hvc hPr hvm4 hne snd2
                go_wp2
                go_loopw [145] (fun i wr => ∃ k : Nat, k ≤ nm.length ∧ i = .int .i64 k ∧ Fr V4 wr [bm] ∧ View saidK wr bm (N + k) (setF (sUp (getM st) n nm k))) (fun i _ => nm.length - (intOf i).toNat)
                case atStart => exact ⟨0, Nat.zero_le _, rfl, (Fr.refl' _).sub (by simp) (fun b hb _ => by simp at hb; subst hb; exact V4e.out.isMapBlock saidK), V4e.out⟩
                case round =>
                  obtain ⟨k, hk, rfl, hf, hvm⟩ := hrel
                  have hPr := V4d.out.fr hf
                  have p2 := hPr.x2
                  have pb := hPr.bx
                  by_cases hlt : k < nm.length
                  · obtain ⟨ad, rfl, hab, hcell⟩ := hPr.rn2.one hlt rfl
                    have hsl := snm2 _ (List.getElem_mem hlt)
                    have sd := Lib.hid (sUp_step (g := getM st) (n := n) hlt)
                    obtain ⟨s, hs⟩ : ∃ s, s = nm[k] := ⟨_, rfl⟩
                    rw [← hs] at hcell hsl sd
                    obtain ⟨w1', hr1, hv1, ht1⟩ := hvm.store saidK Try.underlying53 (by unfold maxLen; omega) (a := (s, n)) ⟨hsl, hnw⟩ (.bool true)
                    change Sem.run Try.prog (Instr.mapUpdate 53 (.map (some bm)) (.agg #[encStr s, .int .i64 n]) (.bool true)) wr = _ at hr1
                    have hfr := (hf.trans (Fr.of_turned ht1)).strip (cs := [bm]) (fun b hb _ => by simp at hb ⊢; omega) (fun b hb => by simp at hb; subst hb; exact V4e.out.isMapBlock saidK)
                    have H1 : Hid (View saidK w1' bm (N + (k + 1)) (setF (sUp (getM st) n nm (k + 1)))) := Lib.hid (by rw [sd.out]; exact hv1)
                    have H2 := Lib.hid hfr
                    clear hf hvm hPr hv1 ht1 hfr hs
                    go_wp2
                    go_roundw
                    case rel => exact ⟨k + 1, by omega, by go_num, H2.out, H1.out⟩
                    case measure => simp [intOf]; omega
                  · obtain rfl : k = nm.length := by omega
                    obtain ⟨V5, rfl⟩ : ∃ V5 : World, V5 = wr := ⟨_, rfl⟩
                    have V5a := Lib.hid hf
                    have V5b := Lib.hid hvm
                    have V5d := Lib.hid hPr
                    have hne := HI.out.ne
                    have twb := hPr.wb
                    have hw5 : View strK V5 (w.heap.size + 1) (od.length + nd.length) (wasF (cnt st) (od ++ nd)) :=
                      ((((HQ3.out.fr strK V1a.out (by simp; omega)).fr strK V2a.out (by simp; omega)).fr strK hE.out.1 (by simp; omega)).fr strK V4a.out (by simp; omega)).fr strK hf (by simp; omega)
                    have hc5 : View strK V5 bc (N + od.length + nd.length) (cntF (cUp (cnt (drop st n)) nd nd.length)) := V4c.out.fr strK hf (by simp; omega)
                    obtain ⟨Dw, hownw, hDw⟩ := hw5
                    have hszw : Maps.size Dw ≤ od.length + nd.length := hownw.size_le
                    have T0 := Lib.hid (ToldAt.start (c' := cUp (cnt (drop st n)) nd nd.length) (fun s hs => (hDw s hs).1))
                    have HDW := Lib.hid hDw
                    have V5c := Lib.hid hc5
                    obtain ⟨i0, hi, hz0, hz1, hz2⟩ := info_parts info9
                    have hcb2 : ∀ s, cUp (cnt (drop st n)) nd nd.length s ≤ 1073741825 := fun s => by
                      have := hcb s
                      unfold cUp
                      split <;> omega
                    clear hf hvm hPr hne hDw hc5 snm2
                    go_wp2_with (first | (at_range; refine wpList_range_own _ rfl _ 64 rfl 9 4 (string_keyed Try.underlying9) Try.underlying64 _ (w.heap.size + 1) (od.length + nd.length) Dw rfl hownw ?_; intro w0 hrg0 hg0 hs0) | fail)
                    go_frame
                    go_loopw [22] (fun v wr => ∃ (left : Lit → Bool) (cnt' : Nat) (told : List Str), wr.ranges Try.prog 9 tok (w.heap.size + 1) V5.heap.size (od.length + nd.length) Dw left cnt' ∧ told.length + cnt' ≤ Maps.size Dw ∧ ToldAt (od ++ nd) (cnt st) (cUp (cnt (drop st n)) nd nd.length) left told ∧ wr.ownsRow (V5.heap.size + 1) 9 1 v told.length (told.map encStr) ∧ Below V5.heap.size V5 wr ∧ V5.heap.size + 1 ≤ wr.heap.size)
                      (fun _ wr => wr.rangeLeft (w.heap.size + 1) V5.heap.size)
                    case atStart => exact ⟨_, _, [], hrg0, by simp, T0.out, World.ownsRow_nil _ _ _ _, Fr.below (Fr.of_below ⟨hg0.os, hg0.tape, hg0.output, hg0.size, fun i hi => hg0.block i hi (by simp)⟩), by omega⟩
                    case round =>
                      obtain ⟨left, cnt', told, hrg, hcs, hT, hrow, hb, hsw⟩ := hrel
                      have HT := Lib.hid hT
                      have HB := Lib.hid hb
                      clear hT
                      go_wp2_with (first
                        | (at_next; refine wpList_next_ranges _ rfl _ rfl 9 (string_keyed Try.underlying9) tok (fun a : {x : Str // x.length ≤ maxLen} => encStr a.1) (id : Value → Value) (fun key kl hk => by obtain ⟨x, hx, _, hl⟩ := Maps.keyOf_str Try.underlying9 hk; exact ⟨⟨x, hl⟩, hx⟩) (fun v _ _ => ⟨v, rfl⟩) (w.heap.size + 1) V5.heap.size (od.length + nd.length) _ _ _ rfl hrg ?_ ?_)
                        | fail)
                      · intro hc0 hl0
                        obtain ⟨At, ct, rfl, hrt⟩ := RowOf.own hrow
                        have HR := rise_any At ct told wr hrt (by omega)
                        have hTE := fun s => told_end (nm := nm) HI.out.wf HOD.out HSN.out (fun s => cUp_end (nm := nm) s) HT.out hl0 s
                        have hfin : ∀ v' w', w'.ownsRow wr.heap.size 9 1 v' (riseL told).length ((riseL told).map encStr) → Below wr.heap.size wr w' → PutOut G w X be bd bm bc st n nd nm (.returned (.tuple #[v', .int .i64 0])) w' := fun v' w' ho hbw => by
                          have fa : Fr V5 w' [] := (Fr.of_below HB.out).trans (Fr.of_below hbw)
                          have fb : Fr V4 w' ([bm] ++ []) := V5a.out.trans fa
                          have fc : Fr V3 w' _ := V4a.out.trans fb
                          have fd : Fr w w' _ := (((HF4.out.trans V1a.out).trans V2a.out).trans hE.out.1).trans fc
                          have hne := HI.out.ne
                          have hle := fd.size
                          have h5 := HB.out.size
                          have hw5 : w.heap.size ≤ wr.heap.size := by
                            have := ((((HF4.out.trans V1a.out).trans V2a.out).trans hE.out.1).trans (V4a.out.trans V5a.out)).size
                            omega
                          have hwf' := wf_put (n := n) HI.out.wf hn0 hn1 HUN.out (by rw [HNM.out]; exact up_riseL ms) HSN.out HSM.out
                          obtain ⟨ev, hev, hrows⟩ := hE.out.2
                          refine ⟨v', riseL told, rfl, ownsRow_base_a ho hw5, up_riseL told, hTE, ?_, ?_⟩
                          · refine idx_tight hwf' (fd.blk HI.out.blk) hne ⟨ev, hev.fr intK fc (by simp; omega), fun e he => ⟨(hrows e he).1.fr fc, (hrows e he).2.fr fc⟩⟩ ((V4b.out.fr saidK fb (by simp; omega)).congr saidK (fun a _ => sUp_end HI.out.wf a)) ((V5b.out.fr saidK fa (by simp)).congr saidK (fun a _ => sUp_endM HI.out.wf a)) ((V4c.out.fr strK fb (by simp; omega)).congr strK (fun a _ => ?_))
                            unfold cntF
                            rw [cUp_end (nm := nm)]
                          · refine fd.strip (fun b hb hlt => by simp at hb ⊢; omega) (fun b hb => ?_)
                            simp at hb
                            rcases hb with rfl | rfl | rfl | rfl
                            · exact HI.out.ent.choose_spec.1.isMapBlock intK
                            · exact HI.out.def_.isMapBlock saidK
                            · exact HI.out.men.isMapBlock saidK
                            · exact HI.out.cnt.isMapBlock strK
                        have HFIN := Lib.hid hfin
                        clear hfin hTE hl0 hrow hb
                        go_wp2_with (go_at_call 30; refine HR.mono ?_; rintro e w9 ⟨v9, rfl, ho9, _, hb9⟩)
                        go_ret2
                        have hgo := HFIN.out v9 w9 ho9 hb9
                        rw [HND.out, HNM.out] at hgo
                        exact hgo
                      · intro x hx c kl yd yp w2 cnt2 hkey hlk hv hat hrg2 hlt hg2 hs2 hen
                        have hkl : kl = .string x := by
                          have h1 := strK.of (a := x) hx
                          have h2 : keyOf Try.prog 9 (encStr x) = some kl := hkey
                          rw [show strK.key x = encStr x from rfl, h2] at h1
                          exact Option.some.inj h1
                        subst hkl
                        have hhas : Maps.has Dw (.string x) = true := Maps.has_true_of_atKey hat
                        have hmem : x ∈ od ++ nd := by
                          have := (HDW.out x hx).1
                          rw [show strK.lit x = Lit.string x from rfl, hhas] at this
                          unfold wasF at this
                          by_cases hm : x ∈ od ++ nd
                          · exact hm
                          · rw [if_neg hm] at this; cases this
                        have hcv : c = .bool (decide (0 < cnt st x)) := by
                          have h1 := (HDW.out x hx).2 .nil (.bool (decide (0 < cnt st x))) (by unfold wasF; rw [if_pos hmem])
                          rw [show strK.lit x = Lit.string x from rfl, hat .nil] at h1
                          simp only [tok, Option.some.injEq, Prod.mk.injEq] at hv
                          rw [h1] at hv
                          exact (by have := hv.1; injection this)
                        have hrow2 : w2.ownsRow (V5.heap.size + 1) 9 1 u22 told.length (told.map encStr) := hrow.kept hg2 (row_ne_iter_I hrow hrg)
                        have hb2 : Below V5.heap.size V5 w2 := hb.grown hg2 hb.size (fun k e => by cases e; exact Nat.le_refl _)
                        have hsw2 : V5.heap.size + 1 ≤ w2.heap.size := by omega
                        have hP2 := V5d.out.fr (Fr.of_below hb2)
                        have q3 := hP2.x3
                        have qb := hP2.bx
                        have hl1 := cnt_look (V5c.out.fr strK (Fr.of_below hb2) (by simp)) hx
                        have HB2 := Lib.hid hb2
                        have HR2 := Lib.hid hrow2
                        have hcx := hcb2 x
                        subst hcv
                        have hTy := HT.out.yes hx hmem
                        have hTn := fun h => HT.out.no (s := x) h
                        obtain ⟨c', hc'⟩ : ∃ c', c' = cUp (cnt (drop st n)) nd nd.length x := ⟨_, rfl⟩
                        rw [← hc'] at hTy hTn hl1 hcx
                        obtain ⟨p, hp⟩ : ∃ p : Bool, p = decide (0 < cnt st x) := ⟨_, rfl⟩
                        rw [← hp] at hTy hTn hen hv
                        have HTy := Lib.hid hTy
                        have HTn := Lib.hid hTn
                        clear hkey hlk hv hat hhas hmem hrow hb hs2 hP2 hb2 hrow2 hg2 hTy hTn hp hc'
                        cases p with
                        | true =>
                          by_cases h0 : 0 < c'
                          · go_wp2
                            go_roundw
                            case rel => exact ⟨_, cnt2, told, hrg2, by omega, HTn.out (by simp [h0]), HR2.out, HB2.out, hsw2⟩
                            case measure => rw [hrg2.left_eq, hrg.left_eq]; exact hlt
                          · obtain rfl : c' = 0 := by omega
                            have hrow2 := HR2.out
                            go_wp2_with (first
                              | (at_builtin; refine wpList_append_own _ rfl (.tmp 173) (.tmp 175) 27 rfl (V5.heap.size + 1) 9 i0 (.string ⟨#[]⟩) 1 16 Try.underlying27 hi hz0 hz1 hz2 rfl (by decide) u22 _ _ rfl (hrow2.alloc _) ⟨w2.heap.size, 0, none⟩ 1 1 [encStr x] rfl rfl (cell_one_new _ _ _) (by simp [Value.oneCell', encStr]) (by unfold maxLen; omega) (by omega) (by simp; omega) ?_; intro v' w3 hown3 hg3 _)
                              | fail)
                            have hg4 : w2.grownBy w3 u22.ownBlock := (World.grownBy_alloc w2 _ _).trans hg3
                            have hrg3 := hrg2.kept hg4 (ne_own_map hrow2 hrg2.owns) (ne_own_iter hrow2 hrg2)
                            have hb3 : Below V5.heap.size V5 w3 := HB2.out.grown hg4 HB2.out.size (fun k e => Nat.le_of_succ_le (hrow2.lt k e).1)
                            have hsw3 : V5.heap.size + 1 ≤ w3.heap.size := Nat.le_trans hsw2 hg4.size
                            clear hg3 hg4 hen hrow2 hsw2 hownw
                            go_wp2
                            go_roundw
                            case rel => exact ⟨_, cnt2, told ++ [x], hrg3, by simp; omega, HTy.out (by simp [h0]), by simpa using hown3, hb3, hsw3⟩
                            case measure => rw [hrg3.left_eq, hrg.left_eq]; exact hlt
                        | false =>
                          by_cases h0 : 0 < c'
                          · have hrow2 := HR2.out
                            go_wp2_with (first
                              | (at_builtin; refine wpList_append_own _ rfl (.tmp 173) (.tmp 175) 27 rfl (V5.heap.size + 1) 9 i0 (.string ⟨#[]⟩) 1 16 Try.underlying27 hi hz0 hz1 hz2 rfl (by decide) u22 _ _ rfl (hrow2.alloc _) ⟨w2.heap.size, 0, none⟩ 1 1 [encStr x] rfl rfl (cell_one_new _ _ _) (by simp [Value.oneCell', encStr]) (by unfold maxLen; omega) (by omega) (by simp; omega) ?_; intro v' w3 hown3 hg3 _)
                              | fail)
                            have hg4 : w2.grownBy w3 u22.ownBlock := (World.grownBy_alloc w2 _ _).trans hg3
                            have hrg3 := hrg2.kept hg4 (ne_own_map hrow2 hrg2.owns) (ne_own_iter hrow2 hrg2)
                            have hb3 : Below V5.heap.size V5 w3 := HB2.out.grown hg4 HB2.out.size (fun k e => Nat.le_of_succ_le (hrow2.lt k e).1)
                            have hsw3 : V5.heap.size + 1 ≤ w3.heap.size := Nat.le_trans hsw2 hg4.size
                            clear hg3 hg4 hen hrow2 hsw2 hownw
                            go_wp2
                            go_roundw
                            case rel => exact ⟨_, cnt2, told ++ [x], hrg3, by simp; omega, HTy.out (by simp [h0]), by simpa using hown3, hb3, hsw3⟩
                            case measure => rw [hrg3.left_eq, hrg.left_eq]; exact hlt
                          · obtain rfl : c' = 0 := by omega
                            go_wp2
                            go_roundw
                            case rel => exact ⟨_, cnt2, told, hrg2, by omega, HTn.out (by simp [h0]), HR2.out, HB2.out, hsw2⟩
                            case measure => rw [hrg2.left_eq, hrg.left_eq]; exact hlt

end Go.Proofs.Ytkjmknmcbkofbaa
