/-
  IndexPlays, words: what is handed in is overwritten, and both indexes stand.
  Its conditions: as each theorem states them.
-/
import Derived.Test.YtkjmknmcbkofbaaPutR
import Derived.Test.YtkjmknmcbkofbaaLastP
namespace Go.Proofs.Ytkjmknmcbkofbaa
open Go Go.Proofs Go.RowKit Go.Maps Go.Sort Go.Shelf
set_option linter.unusedVariables false
set_option linter.unusedSimpArgs false
variable {G : Nat → Prop}

/-- Only blocks of G have turned. -/
structure Fg (G : Nat → Prop) (w w' : World) : Prop where
  os : w'.os = w.os
  tape : w'.tape = w.tape
  output : w'.output = w.output
  size : w.heap.size ≤ w'.heap.size
  keep : ∀ i, i < w.heap.size → ¬ G i → w'.heap[i]? = w.heap[i]?

theorem fg_refl (w : World) : Fg G w w := ⟨rfl, rfl, rfl, Nat.le_refl _, fun _ _ _ => rfl⟩
theorem Fg.trans {w w1 w2 : World} (h : Fg G w w1) (k : Fg G w1 w2) : Fg G w w2 :=
  ⟨k.os.trans h.os, k.tape.trans h.tape, k.output.trans h.output, Nat.le_trans h.size k.size, fun i hi hn => (k.keep i (Nat.lt_of_lt_of_le hi h.size) hn).trans (h.keep i hi hn)⟩
theorem Fg.set (w : World) (p : Addr) (v : Value) (hp : G p.block) : Fg G w (w.setCell p v) :=
  ⟨rfl, rfl, rfl, by simp [World.setCell], fun i hi hn => Below.heap_setCell w p v i (fun e => hn (e ▸ hp))⟩
theorem Fg.fr {w0 w w' : World} (h : Fr w0 w []) (f : Fg G w w') (hG : ∀ b, G b → w0.heap.size ≤ b) : Fr w0 w' [] :=
  ⟨f.os.trans h.os, f.tape.trans h.tape, f.output.trans h.output, Nat.le_trans h.size f.size, fun i hi hn => (f.keep i (Nat.lt_of_lt_of_le hi h.size) (fun hg => by have := hG i hg; omega)).trans (h.keep i hi hn), fun i hi hm => by simp at hm⟩
theorem Reads.fg {w w' : World} (f : Fg G w w') {A : Option Addr} {n : Nat} {xs : List Value} (h : Reads w w.heap.size 1 A n xs) (ho : Off G A n) : Reads w' w'.heap.size 1 A n xs :=
  ⟨h.1, fun hn => by
    obtain ⟨ad, e, hb, hc⟩ := h.2 hn
    exact ⟨ad, e, Nat.lt_of_lt_of_le hb f.size, fun j u hu => (World.cell?_of_block (f.keep _ (by rw [block_of_add]; exact hb) (by rw [block_of_add]; exact ho hn ad e))).trans (hc j u hu)⟩⟩

theorem Idx.fg {w w' : World} {X be bd bm bc N : Nat} {st : St} (h : Idx G w X be bd bm bc N st) (f : Fg G w w') (hX : ¬ G X ∧ ¬ G be ∧ ¬ G bd ∧ ¬ G bm ∧ ¬ G bc) : Idx (fun _ => False) w' X be bd bm bc N st := by
  obtain ⟨ev, he, hr⟩ := h.ent
  refine ⟨(f.keep X h.blk.lt hX.1).trans h.blk, h.ne, ⟨ev, he.same intK (f.keep _ (he.lt intK) hX.2.1), fun e hm => ?_⟩, h.def_.same saidK (f.keep _ (h.def_.lt saidK) hX.2.2.1), h.men.same saidK (f.keep _ (h.men.lt saidK) hX.2.2.2.1), h.cnt.same strK (f.keep _ (h.cnt.lt strK) hX.2.2.2.2), h.wf⟩
  obtain ⟨⟨⟨A1, c1, e1, r1⟩, g1⟩, ⟨⟨A2, c2, e2, r2⟩, g2⟩⟩ := hr e hm
  exact ⟨⟨⟨A1, c1, e1, r1.fg f (fun hn a ea => g1 a _ _ (by rw [e1, ea]) hn)⟩, fun _ _ _ _ _ h => h⟩, ⟨⟨A2, c2, e2, r2.fg f (fun hn a ea => g2 a _ _ (by rw [e2, ea]) hn)⟩, fun _ _ _ _ _ h => h⟩⟩

theorem RIdx.fg {w w' : World} {Z : Nat} {L : List E} (h : RIdx G w Z L) (f : Fg G w w') (hZ : ¬ G Z) : RIdx (fun _ => False) w' Z L := by
  obtain ⟨AL, cap, hb, he⟩ := h
  refine ⟨AL, cap, (f.keep Z hb.lt hZ).trans hb, fun h0 => ?_⟩
  obtain ⟨ad, e, hab, hg, hk⟩ := he h0
  refine ⟨ad, e, Nat.lt_of_lt_of_le hab f.size, fun h => h, fun k hkl => ?_⟩
  obtain ⟨A1, c1, A2, c2, ho, h0, h1, h2, r1, r2⟩ := hk k hkl
  have hc : ∀ p : Addr, p.block = ad.block → w'.cell? p = w.cell? p := fun p hp => World.cell?_of_block (f.keep _ (by rw [hp]; exact hab) (by rw [hp]; exact hg))
  exact ⟨A1, c1, A2, c2, ⟨fun _ _ _ h => h, fun _ _ _ h => h⟩, (hc _ (block_of_add _ _)).trans h0, (hc ⟨(ad.add (k * 3)).block, (ad.add (k * 3)).off + 1, none⟩ (block_of_add ad (k * 3))).trans h1, (hc ⟨(ad.add (k * 3)).block, (ad.add (k * 3)).off + 2, none⟩ (block_of_add ad (k * 3))).trans h2, r1.fg f ho.1, r2.fg f ho.2⟩

/-- What lay there lies in no block that has come since. -/
theorem Idx.old {w w' : World} {X be bd bm bc N : Nat} {st : St} (h : Idx (fun _ => False) w X be bd bm bc N st) (f : Fr w w' []) (hG : ∀ b, G b → w.heap.size ≤ b) : Idx G w' X be bd bm bc N st := by
  have h2 := h.fr f (by simp)
  obtain ⟨ev, he, hr⟩ := h.ent
  refine ⟨h2.blk, h2.ne, ⟨ev, he.same intK (f.keep _ (he.lt intK) (by simp)), fun e hm => ?_⟩, h2.def_, h2.men, h2.cnt, h2.wf⟩
  have one : ∀ (v : Value) (ss : List Str), RowOf w v ss → RowG G w' v ss := fun v ss hrow => ⟨hrow.fr f, fun ad n c e0 hn hg => by
    obtain ⟨A, cap, ev, hr⟩ := hrow
    obtain ⟨ad2, e2, hb, _⟩ := hr.2 hn
    rw [e0] at ev
    injection ev with e3
    rw [e2] at e3
    injection e3 with e3
    have := hG _ hg
    rw [e3] at this
    omega⟩
  exact ⟨one _ _ (hr e hm).1.1, one _ _ (hr e hm).2.1⟩
theorem RIdx.old {w w' : World} {Z : Nat} {L : List E} (h : RIdx (fun _ => False) w Z L) (f : Fr w w' []) (hG : ∀ b, G b → w.heap.size ≤ b) : RIdx G w' Z L := by
  obtain ⟨AL, cap, hb, he⟩ := h
  refine ⟨AL, cap, f.blk hb, fun h0 => ?_⟩
  obtain ⟨ad, e, hab, _, hk⟩ := he h0
  refine ⟨ad, e, Nat.lt_of_lt_of_le hab f.size, fun hg => by have := hG _ hg; omega, fun k hkl => ?_⟩
  obtain ⟨A1, c1, A2, c2, ho, h0, h1, h2, r1, r2⟩ := hk k hkl
  have off : ∀ (A : Option Addr) (n : Nat) (xs : List Value), Reads w w.heap.size 1 A n xs → Off G A n := fun A n xs hr hn a ea hg => by
    obtain ⟨ad2, e2, hb2, _⟩ := hr.2 hn
    rw [ea] at e2
    injection e2 with e2
    have := hG _ hg
    rw [e2] at this
    omega
  have hc : ∀ p : Addr, p.block = ad.block → w'.cell? p = w.cell? p := fun p hp => f.cell (by rw [hp]; exact hab)
  exact ⟨A1, c1, A2, c2, ⟨off _ _ _ r1, off _ _ _ r2⟩, (hc _ (block_of_add _ _)).trans h0, (hc ⟨(ad.add (k * 3)).block, (ad.add (k * 3)).off + 1, none⟩ (block_of_add ad (k * 3))).trans h1, (hc ⟨(ad.add (k * 3)).block, (ad.add (k * 3)).off + 2, none⟩ (block_of_add ad (k * 3))).trans h2, f.reads r1, f.reads r2⟩

theorem tot_perm {L st : List E} (h : L.Perm st) : tot L = tot st := (h.map _).sum_nat
theorem errS_neg {n : Int} (h : n < 0) : errS n = 1 := by unfold errS; rw [if_pos h]
theorem errS_pos {n : Int} (h : ¬ n < 0) : errS n = 0 := by unfold errS; rw [if_neg h]

/-- The reference's Put beside the index's: the same is told, and the lists stay the same entries. -/
theorem putR_step (Z : Nat) (st L : List E) (N N' : Nat) (hw : Wf st N) (hs : Srt L) (hm : ∀ e, e ∈ L ↔ e ∈ st) (n : Int) (A1 A2 : Option Addr) (cap1 cap2 : Nat) (ds ms : List Str) (w : World) (h : RIdx G w Z L)
    (hr1 : Reads w w.heap.size 1 A1 ds.length (ds.map encStr)) (hr2 : Reads w w.heap.size 1 A2 ms.length (ms.map encStr)) (hl1 : ds.length ≤ 1000) (hl2 : ms.length ≤ 1000)
    (ht : tot st ≤ 2000) (hw' : Wf (stepS st n ds ms) N') (ht' : tot (stepS st n ds ms) ≤ 2000) (hG : ∀ b, G b → b < w.heap.size) (told : List Str) (hu : Up told) (hto : ∀ s, s ∈ told ↔ differ st (stepS st n ds ms) s = true) :
    Calls Try.prog 15 #[.pointer (some ⟨Z, 0, none⟩), .int .i64 n, .slice A1 ds.length cap1, .slice A2 ms.length cap2] w (fun e w' => ∃ L', PutROut G w Z L L' told (errS n) e w' ∧ Srt L' ∧ ∀ e, e ∈ L' ↔ e ∈ stepS st n ds ms) := by
  by_cases hn : n < 0
  · have h1 : stepS st n ds ms = st := by unfold stepS; rw [if_pos hn]
    rw [h1] at hto ⊢
    have h2 : told = [] := told_nil hto
    subst h2
    rw [errS_neg hn]
    exact (putR_neg Z L n hn _ _ w h).mono fun e w' hp => ⟨L, hp, hs, hm⟩
  · obtain ⟨hs', hm'⟩ := putL_step hs hm n (by omega) ds ms
    have hp := srt_perm hs hw hm
    have hp' := srt_perm hs' hw' hm'
    have e1 : riseL (outR (known L) (known (putL L n (enR n ds ms) (d0R ds ms)))) = told := by
      rw [mem_known_of hm, mem_known_of hm']
      exact outR_told hu hto
    rw [errS_pos hn]
    have hc := putR_pos Z L n (by omega) A1 A2 cap1 cap2 ds ms w h hr1 hr2 (by omega) (by omega) (by rw [hp.length_eq]; have := len_tot (st := st); omega) (by have := length_labels L; rw [tot_perm hp] at this; omega) (by have := length_labels (putL L n (enR n ds ms) (d0R ds ms)); rw [tot_perm hp'] at this; omega) hG
    rw [e1] at hc
    exact hc.mono fun e w' ho => ⟨_, ho, hs', hm'⟩

abbrev No : Nat → Prop := fun _ => False

/-- Both indexes in one world, and what ties them. -/
structure Both (G : Nat → Prop) (w wr : World) (X be bd bm bc Z N : Nat) (st : St) (L : List E) : Prop where
  ix : Idx G wr X be bd bm bc N st
  rx : RIdx G wr Z L
  srt : Srt L
  mem : ∀ e, e ∈ L ↔ e ∈ st
  fr : Fr w wr []
  lo : w.heap.size ≤ be ∧ w.heap.size ≤ bd ∧ w.heap.size ≤ bm ∧ w.heap.size ≤ bc ∧ w.heap.size ≤ Z

/-- A row of strings that lies in no block of G. -/
def RowO (G : Nat → Prop) (w : World) (v : Value) (ss : List Str) : Prop := ∃ A c, v = .slice A ss.length c ∧ Reads w w.heap.size 1 A ss.length (ss.map encStr) ∧ Off G A ss.length

theorem RowO.own {w : World} {base : Nat} {v : Value} {ss : List Str} (h : w.ownsRow base 9 1 v ss.length (ss.map encStr)) (hG : ∀ b, G b → b < base) : RowO G w v ss := by
  obtain ⟨A, c, e, hr⟩ := RowOf.own h
  refine ⟨A, c, e, hr, fun hn a ea hg => ?_⟩
  subst e ea
  rcases h.2 with ⟨_, h0⟩ | ⟨g, cap, cur, hv, hb, _⟩
  · omega
  · injection hv with hv
    injection hv with hv
    subst hv
    have := hG _ hg
    simp only [] at this
    omega
theorem RowO.fz {w w' : World} {Z : Nat} {v : Value} {ss : List Str} (f : Fz w w' Z) {S : Option Addr} {sn sc : Nat} (hz : Blk w Z 39 #[.slice S sn sc]) : RowO G w v ss → RowO G w' v ss
  | ⟨A, c, e, hr, ho⟩ => ⟨A, c, e, hr.fz f hz, ho⟩
theorem RowO.fg {w w' : World} {v : Value} {ss : List Str} (f : Fg G w w') : RowO G w v ss → RowO No w' v ss
  | ⟨A, c, e, hr, ho⟩ => ⟨A, c, e, hr.fg f ho, fun _ _ _ h => h⟩
theorem RowO.fr {w w' : World} {bs : List Nat} {v : Value} {ss : List Str} (f : Fr w w' bs) : RowO G w v ss → RowO G w' v ss
  | ⟨A, c, e, hr, ho⟩ => ⟨A, c, e, f.reads hr, ho⟩

theorem Both.frame {w wr w' : World} {X be bd bm bc Z N : Nat} {st : St} {L : List E} (h : Both G w wr X be bd bm bc Z N st L) (f : Fr wr w' []) : Both G w w' X be bd bm bc Z N st L :=
  ⟨h.ix.fr f (by simp), h.rx.fr f, h.srt, h.mem, fr_trans0 h.fr f, h.lo⟩

theorem Both.step {w V wb wc : World} {X be bd bm bc Z N N' : Nat} {st st' : St} {L L' : List E} (h : Both G w V X be bd bm bc Z N st L) (hG : ∀ b, G b → b < V.heap.size)
    (hi : Idx G wb X be bd bm bc N' st') (hf : Fr V wb [be, bd, bm, bc]) {va vb : Value} {told : List Str} (ho : wb.ownsRow V.heap.size 9 1 va told.length (told.map encStr))
    (hob : wc.ownsRow wb.heap.size 9 1 vb told.length (told.map encStr)) (hrx : RIdx G wc Z L') (fz : Fz wb wc Z) (hs : Srt L') (hm : ∀ e, e ∈ L' ↔ e ∈ st') :
    Both G w wc X be bd bm bc Z N' st' L' ∧ RowO G wc va told ∧ RowO G wc vb told := by
  obtain ⟨AL, cL, hb, _⟩ := h.rx.fr hf
  have lo := h.lo
  have f1 : Fr w wb [] := (h.fr.trans hf).strip (fun b hb hlt => by simp at hb; omega) (fun b hb => by simp at hb)
  exact ⟨⟨hi.fz fz hb, hrx, hs, hm, fz.fr f1 (by omega), lo⟩, (RowO.own ho hG).fz fz hb, RowO.own hob (fun b hg => Nat.lt_of_lt_of_le (hG b hg) hf.size)⟩

/-- What was handed in has been overwritten. -/
theorem Both.spoilt {w V w' : World} {X be bd bm bc Z N : Nat} {st : St} {L : List E} (h : Both G w V X be bd bm bc Z N st L) (f : Fg G V w') (hG : ∀ b, G b → w.heap.size ≤ b) (hn : ¬ G X ∧ ¬ G be ∧ ¬ G bd ∧ ¬ G bm ∧ ¬ G bc ∧ ¬ G Z) : Both No w w' X be bd bm bc Z N st L :=
  ⟨h.ix.fg f ⟨hn.1, hn.2.1, hn.2.2.1, hn.2.2.2.1, hn.2.2.2.2.1⟩, h.rx.fg f hn.2.2.2.2.2, h.srt, h.mem, f.fr h.fr hG, h.lo⟩
theorem Both.old {w V w' : World} {X be bd bm bc Z N : Nat} {st : St} {L : List E} (h : Both No w V X be bd bm bc Z N st L) (f : Fr V w' []) (hG : ∀ b, G b → V.heap.size ≤ b) : Both G w w' X be bd bm bc Z N st L :=
  ⟨h.ix.old f hG, h.rx.old f hG, h.srt, h.mem, fr_trans0 h.fr f, h.lo⟩

theorem fr_grown {w w' : World} (hg : w.grownBy w' (Value.slice none 0 0).ownBlock) : Fr w w' [] :=
  Fr.of_below ⟨hg.os, hg.tape, hg.output, hg.size, fun i hi => hg.block i hi (by simp [Value.ownBlock])⟩
theorem row_copy {w : World} {base : Nat} {v : Value} {ss : List Str} (h : w.ownsRow base 9 1 v (0 + ss.length) ([] ++ ss.map encStr)) : ∃ A c, v = .slice A ss.length c ∧ w.ownsRow base 9 1 (.slice A ss.length c) ss.length (ss.map encStr) ∧ Reads w w.heap.size 1 A ss.length (ss.map encStr) := by
  rw [Nat.zero_add, List.nil_append] at h
  obtain ⟨A, c, rfl, hr⟩ := RowOf.own h
  exact ⟨A, c, rfl, h, hr⟩

theorem own_fz {w w' : World} {Z base n : Nat} {v : Value} {xs : List Value} (h : w.ownsRow base 9 1 v n xs) (f : Fz w w' Z) {S : Option Addr} {sn sc : Nat} (hz : Blk w Z 39 #[.slice S sn sc]) : w'.ownsRow base 9 1 v n xs := by
  refine ⟨h.1, ?_⟩
  rcases h.2 with h0 | ⟨g, cap, cur, hv, hb, hh, r⟩
  · exact .inl h0
  · refine .inr ⟨g, cap, cur, hv, hb, (f.keep g (Array.getElem?_eq_some_iff.1 hh).1 (fun e => ?_)).trans hh, r⟩
    subst e
    unfold Blk at hz
    rw [hz] at hh
    injection hh with hh
    injection hh with _ ht
    cases ht
theorem Both.nots {w V : World} {X be bd bm bc Z N : Nat} {st : St} {L : List E} {G H : Nat → Prop} (h : Both H w V X be bd bm bc Z N st L) (hG : ∀ b, G b → V.heap.size ≤ b) : ¬ G X ∧ ¬ G be ∧ ¬ G bd ∧ ¬ G bm ∧ ¬ G bc ∧ ¬ G Z := by
  have h1 := h.ix.blk.lt
  have h2 := h.ix.ent.choose_spec.1.lt intK
  have h3 := h.ix.def_.lt saidK
  have h4 := h.ix.men.lt saidK
  have h5 := h.ix.cnt.lt strK
  obtain ⟨_, _, hb, _⟩ := h.rx
  have h6 := hb.lt
  exact ⟨fun g => by have := hG _ g; omega, fun g => by have := hG _ g; omega, fun g => by have := hG _ g; omega, fun g => by have := hG _ g; omega, fun g => by have := hG _ g; omega, fun g => by have := hG _ g; omega⟩
theorem Both.zlt {w V : World} {X be bd bm bc Z N : Nat} {st : St} {L : List E} (h : Both G w V X be bd bm bc Z N st L) : Z < V.heap.size := by
  obtain ⟨_, _, hb, _⟩ := h.rx
  exact hb.lt
theorem Fz.cell {w w' : World} {Z : Nat} (f : Fz w w' Z) {p : Addr} {u : Value} (h : w.cell? p = some u) (hp : p.block < w.heap.size) (hne : p.block ≠ Z) : w'.cell? p = some u :=
  (World.cell?_of_block (f.keep _ hp hne)).trans h

end Go.Proofs.Ytkjmknmcbkofbaa
