/-
  Put, the plain part of its stages.
  Its conditions: as each theorem states them.
-/
import Derived.Test.YtkjmknmcbkofbaaPutW
namespace Go.Proofs.Ytkjmknmcbkofbaa
set_option linter.unusedVariables false
set_option linter.unusedSimpArgs false
open Go Go.Proofs Go.RowKit Go.Maps Go.Sort Go.Shelf
variable {G : Nat → Prop}

/-- What Put hands back. -/
def PutOut (G : Nat → Prop) (w : World) (X be bd bm bc : Nat) (st : St) (n : Int) (d m : List Str) (e : Ending) (w' : World) : Prop :=
  ∃ v told, e = .returned (.tuple #[v, .int .i64 0]) ∧ w'.ownsRow w.heap.size 9 1 v told.length (told.map encStr) ∧ Up told ∧
    (∀ s, s ∈ told ↔ (decide (0 < cnt st s) != decide (0 < cnt (put st n d m) s)) = true) ∧ Idx G w' X be bd bm bc (tot (put st n d m)) (put st n d m) ∧ Fr w w' [be, bd, bm, bc]

def RiseRow (w : World) (ss : List Str) (e : Ending) (w' : World) : Prop :=
  ∃ A cap, e = .returned (.slice A (riseL ss).length cap) ∧ Reads w' w'.heap.size 1 A (riseL ss).length ((riseL ss).map encStr) ∧ (∀ ad, A = some ad → 0 < (riseL ss).length → w.heap.size ≤ ad.block) ∧ Below w.heap.size w w'
theorem rise_row (A : Option Addr) (cap : Nat) (ss : List Str) (w : World) (hr : Reads w w.heap.size 1 A ss.length (ss.map encStr)) (hlen : ss.length ≤ 1099511627776) :
    Calls Try.prog 30 #[.slice A ss.length cap] w (RiseRow w ss) :=
  (rise_any A cap ss w hr hlen).mono fun e w' ⟨v, he, ho, _, hb⟩ => by
    have hfr : ∀ ad n c, v = .slice (some ad) n c → 0 < (riseL ss).length → w.heap.size ≤ ad.block := fun ad n c e h0 => by
      rcases ho.2 with ⟨_, h1⟩ | ⟨g, cap, cur, hv, hbg, _⟩
      · omega
      · rw [e] at hv
        injection hv with hv
        injection hv with hv
        rw [hv]; exact hbg
    obtain ⟨A', cap', rfl, hr'⟩ := RowOf.own ho
    exact ⟨A', cap', he, hr', fun ad e h0 => hfr ad _ _ (by rw [e]) h0, hb⟩

theorem Fr.strip {w w' : World} {bs cs : List Nat} (h : Fr w w' bs) (hb : ∀ b, b ∈ bs → b < w.heap.size → b ∈ cs) (hm : ∀ b, b ∈ cs → ∃ es c, w.heap[b]? = some (.map es c)) : Fr w w' cs where
  os := h.os
  tape := h.tape
  output := h.output
  size := h.size
  keep i hi hn := h.keep i hi (fun hb' => hn (hb i hb' hi))
  maps i hi hc := by
    by_cases h1 : i ∈ bs
    · exact h.maps i hi h1
    · exact ⟨hm i hc, by rw [h.keep i hi h1]; exact hm i hc⟩

/-- The counts while the old entry's labels are taken away: k of them are. -/
def cDown (c0 : Str → Nat) (od : List Str) (k : Nat) (s : Str) : Nat := c0 s + if s ∈ od.drop k then 1 else 0
/-- .. while the new entry's labels are added. -/
def cUp (c0 : Str → Nat) (nd : List Str) (k : Nat) (s : Str) : Nat := c0 s + if s ∈ nd.take k then 1 else 0
/-- The pairs that are left while the old entry's are taken away. -/
def sDown (g : Int → List Str) (n : Int) (od : List Str) (k : Nat) : Str × Int → Prop := fun x => x.1 ∈ g x.2 ∧ ¬ (x.2 = n ∧ x.1 ∈ od.take k)
instance (g : Int → List Str) (n : Int) (od : List Str) (k : Nat) : DecidablePred (sDown g n od k) := fun x => by unfold sDown; exact inferInstance
def sUp (g : Int → List Str) (n : Int) (nd : List Str) (k : Nat) : Str × Int → Prop := fun x => (x.2 ≠ n ∧ x.1 ∈ g x.2) ∨ (x.2 = n ∧ x.1 ∈ nd.take k)
instance (g : Int → List Str) (n : Int) (nd : List Str) (k : Nat) : DecidablePred (sUp g n nd k) := fun x => by unfold sUp; exact inferInstance

theorem mem_take_next {l : List Str} {k : Nat} (hk : k < l.length) (s : Str) : s ∈ l.take (k + 1) ↔ s ∈ l.take k ∨ s = l[k] := by
  rw [List.take_succ_eq_append_getElem hk, List.mem_append, List.mem_singleton]
theorem mem_drop_at {l : List Str} {k : Nat} (hk : k < l.length) (s : Str) : s ∈ l.drop k ↔ s = l[k] ∨ s ∈ l.drop (k + 1) := by
  rw [List.drop_eq_getElem_cons hk, List.mem_cons]
theorem up_parts {l : List Str} (h : Up l) {k : Nat} (hk : k < l.length) : l[k] ∉ l.take k ∧ l[k] ∉ l.drop (k + 1) := by
  have hnd := h.nodup
  rw [← List.take_append_drop k l, List.drop_eq_getElem_cons hk] at hnd
  obtain ⟨_, h2, h3⟩ := List.nodup_append.1 hnd
  exact ⟨fun hm => h3 _ hm _ List.mem_cons_self rfl, (List.nodup_cons.1 h2).1⟩
theorem setF_pos {S : Str × Int → Prop} [DecidablePred S] {x : Str × Int} (h : S x) : setF S x = some (.bool true) := if_pos h
theorem setF_neg {S : Str × Int → Prop} [DecidablePred S] {x : Str × Int} (h : ¬ S x) : setF S x = none := if_neg h

theorem sDown_step {g : Int → List Str} {n : Int} {od : List Str} {k : Nat} (hk : k < od.length) : setF (sDown g n od (k + 1)) = upd (setF (sDown g n od k)) (od[k], n) none := by
  funext x
  unfold upd
  by_cases h : x = (od[k], n)
  · rw [if_pos h]
    exact setF_neg (fun hx => hx.2 ⟨congrArg Prod.snd h, (mem_take_next hk _).2 (.inr (congrArg Prod.fst h))⟩)
  · rw [if_neg h]
    have e : sDown g n od (k + 1) x ↔ sDown g n od k x := by
      unfold sDown
      rw [mem_take_next hk]
      constructor
      · rintro ⟨h1, h2⟩; exact ⟨h1, fun ⟨h3, h4⟩ => h2 ⟨h3, .inl h4⟩⟩
      · rintro ⟨h1, h2⟩
        refine ⟨h1, ?_⟩
        rintro ⟨h3, h4 | h4⟩
        · exact h2 ⟨h3, h4⟩
        · exact h (Prod.ext h4 h3)
    by_cases hs : sDown g n od k x
    · rw [setF_pos hs, setF_pos (e.2 hs)]
    · rw [setF_neg hs, setF_neg (fun h' => hs (e.1 h'))]
theorem sUp_step {g : Int → List Str} {n : Int} {nd : List Str} {k : Nat} (hk : k < nd.length) : setF (sUp g n nd (k + 1)) = upd (setF (sUp g n nd k)) (nd[k], n) (some (.bool true)) := by
  funext x
  unfold upd
  by_cases h : x = (nd[k], n)
  · rw [if_pos h]
    exact setF_pos (.inr ⟨congrArg Prod.snd h, (mem_take_next hk _).2 (.inr (congrArg Prod.fst h))⟩)
  · rw [if_neg h]
    have e : sUp g n nd (k + 1) x ↔ sUp g n nd k x := by
      unfold sUp
      rw [mem_take_next hk]
      constructor
      · rintro (h1 | ⟨h1, h2 | h2⟩)
        · exact .inl h1
        · exact .inr ⟨h1, h2⟩
        · exact absurd (Prod.ext h2 h1) h
      · rintro (h1 | ⟨h1, h2⟩)
        · exact .inl h1
        · exact .inr ⟨h1, .inl h2⟩
    by_cases hs : sUp g n nd k x
    · rw [setF_pos hs, setF_pos (e.2 hs)]
    · rw [setF_neg hs, setF_neg (fun h' => hs (e.1 h'))]
theorem cDown_at {c0 : Str → Nat} {od : List Str} {k : Nat} (hk : k < od.length) : cDown c0 od k od[k] = c0 od[k] + 1 := by
  unfold cDown; rw [if_pos ((mem_drop_at hk _).2 (.inl rfl))]
theorem cDown_step {c0 : Str → Nat} {od : List Str} (hu : Up od) {k : Nat} (hk : k < od.length) : cntF (cDown c0 od (k + 1)) = upd (cntF (cDown c0 od k)) od[k] (if 0 < c0 od[k] then some (.int .i64 (c0 od[k])) else none) := by
  funext s
  unfold cntF upd
  by_cases h : s = od[k]
  · rw [if_pos h, h]
    have : cDown c0 od (k + 1) od[k] = c0 od[k] := by unfold cDown; rw [if_neg (up_parts hu hk).2]; rfl
    rw [this]
  · rw [if_neg h]
    have : cDown c0 od (k + 1) s = cDown c0 od k s := by
      unfold cDown
      have e : s ∈ od.drop k ↔ s ∈ od.drop (k + 1) := by rw [mem_drop_at hk]; exact ⟨fun h' => h'.resolve_left h, .inr⟩
      by_cases hd : s ∈ od.drop k
      · rw [if_pos hd, if_pos (e.1 hd)]
      · rw [if_neg hd, if_neg (fun h' => hd (e.2 h'))]
    rw [this]
theorem upd_upd (f : Str → Option Value) (a : Str) (u v : Option Value) : upd (upd f a u) a v = upd f a v := by
  funext x; unfold upd; split <;> rfl
theorem upd_same (f : Str → Option Value) (a : Str) (v : Option Value) : upd f a v a = v := by unfold upd; simp
theorem cUp_at {c0 : Str → Nat} {nd : List Str} (hu : Up nd) {k : Nat} (hk : k < nd.length) : cUp c0 nd k nd[k] = c0 nd[k] := by
  unfold cUp; rw [if_neg (up_parts hu hk).1]; rfl
theorem cUp_step {c0 : Str → Nat} {nd : List Str} {k : Nat} (hk : k < nd.length) : cntF (cUp c0 nd (k + 1)) = upd (cntF (cUp c0 nd k)) nd[k] (some (.int .i64 ((c0 nd[k] : Int) + 1))) := by
  funext s
  unfold cntF upd
  by_cases h : s = nd[k]
  · rw [if_pos h, h]
    have : cUp c0 nd (k + 1) nd[k] = c0 nd[k] + 1 := by unfold cUp; rw [if_pos ((mem_take_next hk _).2 (.inr rfl))]
    rw [this, if_pos (by omega)]
    rfl
  · rw [if_neg h]
    have : cUp c0 nd (k + 1) s = cUp c0 nd k s := by
      unfold cUp
      have e : s ∈ nd.take (k + 1) ↔ s ∈ nd.take k := by rw [mem_take_next hk]; exact ⟨fun h' => h'.resolve_right h, .inl⟩
      by_cases hd : s ∈ nd.take k
      · rw [if_pos hd, if_pos (e.2 hd)]
      · rw [if_neg hd, if_neg (fun h' => hd (e.1 h'))]
    rw [this]

/-- The cells that Put's rest reads. -/
structure PS (X be bd bm bc Bx Bw bw Bo Bn : Nat) (Ao1 Ao2 An1 An2 : Option Addr) (co1 co2 cn1 cn2 : Nat) (od om nd nm : List Str) (W : World) : Prop where
  x0 : W.cell? ⟨X, 0, none⟩ = some (.map (some be))
  x1 : W.cell? ⟨X, 1, none⟩ = some (.map (some bd))
  x2 : W.cell? ⟨X, 2, none⟩ = some (.map (some bm))
  x3 : W.cell? ⟨X, 3, none⟩ = some (.map (some bc))
  bx : W.cell? ⟨Bx, 0, none⟩ = some (.pointer (some ⟨X, 0, none⟩))
  wb : W.cell? ⟨Bw, 0, none⟩ = some (.map (some bw))
  o1 : W.cell? ⟨Bo, 0, none⟩ = some (.slice Ao1 od.length co1)
  o2 : W.cell? ⟨Bo, 1, none⟩ = some (.slice Ao2 om.length co2)
  n1 : W.cell? ⟨Bn, 0, none⟩ = some (.slice An1 nd.length cn1)
  n2 : W.cell? ⟨Bn, 1, none⟩ = some (.slice An2 nm.length cn2)
  ro1 : Reads W W.heap.size 1 Ao1 od.length (od.map encStr)
  ro2 : Reads W W.heap.size 1 Ao2 om.length (om.map encStr)
  rn1 : Reads W W.heap.size 1 An1 nd.length (nd.map encStr)
  rn2 : Reads W W.heap.size 1 An2 nm.length (nm.map encStr)

theorem lt_of_cell {w : World} {p : Addr} {u : Value} (hc : w.cell? p = some u) : p.block < w.heap.size := by
  rcases Nat.lt_or_ge p.block w.heap.size with hl | hg
  · exact hl
  · rw [World.cell?, Array.getElem?_eq_none hg] at hc; cases hc
theorem Fr.cell_some {w w' : World} {bs : List Nat} (h : Fr w w' bs) {p : Addr} {u : Value} (hc : w.cell? p = some u) : w'.cell? p = some u := (h.cell (lt_of_cell hc)).trans hc

section
variable {X be bd bm bc Bx Bw bw Bo Bn : Nat} {Ao1 Ao2 An1 An2 : Option Addr} {co1 co2 cn1 cn2 : Nat} {od om nd nm : List Str} {W W' : World} {bs : List Nat}
theorem PS.fr (h : PS X be bd bm bc Bx Bw bw Bo Bn Ao1 Ao2 An1 An2 co1 co2 cn1 cn2 od om nd nm W) (f : Fr W W' bs) : PS X be bd bm bc Bx Bw bw Bo Bn Ao1 Ao2 An1 An2 co1 co2 cn1 cn2 od om nd nm W' :=
  ⟨f.cell_some h.x0, f.cell_some h.x1, f.cell_some h.x2, f.cell_some h.x3, f.cell_some h.bx, f.cell_some h.wb, f.cell_some h.o1, f.cell_some h.o2, f.cell_some h.n1, f.cell_some h.n2, f.reads h.ro1, f.reads h.ro2, f.reads h.rn1, f.reads h.rn2⟩
end


theorem entF_some {st : St} {n : Int} {d m : List Str} {ev : Int → Value × Value} (v1 v2 : Value) (hne : ¬ (d = [] ∧ m = [])) :
    entF (put st n d m) (fun k => if k = n then (v1, v2) else ev k) = fun x => if x = n then some (.agg #[v1, v2]) else if x = n then none else entF st ev x := by
  funext x
  unfold entF
  rw [has_put]
  by_cases h : x = n
  · subst h; simp [hne]
  · simp [h]
theorem entF_none {st : St} {n : Int} {d m : List Str} {ev : Int → Value × Value} (v1 v2 : Value) (hn : d = [] ∧ m = []) :
    entF (put st n d m) (fun k => if k = n then (v1, v2) else ev k) = fun x => if x = n then none else entF st ev x := by
  funext x
  unfold entF
  rw [has_put]
  by_cases h : x = n
  · subst h; simp [hn]
  · simp [h]
theorem rows_put {st : St} {n : Int} {d m : List Str} {ev : Int → Value × Value} {w : World} {v1 v2 : Value} (h : ∀ e ∈ st, RowG G w (ev e.n).1 e.d ∧ RowG G w (ev e.n).2 e.m) (h1 : RowG G w v1 d) (h2 : RowG G w v2 m) :
    ∀ e ∈ put st n d m, RowG G w (((fun k => if k = n then (v1, v2) else ev k) e.n)).1 e.d ∧ RowG G w (((fun k => if k = n then (v1, v2) else ev k) e.n)).2 e.m := by
  intro e he
  have hdr : e ∈ drop st n → RowG G w (((fun k => if k = n then (v1, v2) else ev k) e.n)).1 e.d ∧ RowG G w (((fun k => if k = n then (v1, v2) else ev k) e.n)).2 e.m := fun hm => by
    obtain ⟨h3, h4⟩ := mem_drop.1 hm
    simp only [if_neg h4]
    exact h e h3
  unfold put at he
  split at he
  · exact hdr he
  · rcases List.mem_cons.1 he with rfl | he
    · simp only [if_true]; exact ⟨h1, h2⟩
    · exact hdr he

/-- The entries' map behind 'delete' and, if there is something, the store. -/
def EntAt (G : Nat → Prop) (V wc : World) (be N : Nat) (st' : St) : Prop :=
  Fr V wc [be] ∧ ∃ ev, View intK wc be (N + 1) (entF st' ev) ∧ ∀ e ∈ st', RowG G wc (ev e.n).1 e.d ∧ RowG G wc (ev e.n).2 e.m

theorem sUp_zero {g : Int → List Str} {n : Int} {od nd : List Str} (h : od = g n) : setF (sUp g n nd 0) = setF (sDown g n od od.length) := by
  funext x
  have e : sUp g n nd 0 x ↔ sDown g n od od.length x := by
    unfold sUp sDown
    subst h
    simp only [List.take_zero, List.not_mem_nil, and_false, or_false, List.take_length]
    constructor
    · rintro ⟨h1, h2⟩; exact ⟨h2, fun h => h1 h.1⟩
    · rintro ⟨h1, h2⟩; exact ⟨fun h => h2 ⟨h, h ▸ h1⟩, h1⟩
  by_cases hs : sDown g n od od.length x
  · rw [setF_pos hs, setF_pos (e.2 hs)]
  · rw [setF_neg hs, setF_neg (fun h' => hs (e.1 h'))]
theorem cUp_zero (c0 : Str → Nat) (od nd : List Str) : cUp c0 nd 0 = cDown c0 od od.length := by
  funext s; simp [cUp, cDown]

end Go.Proofs.Ytkjmknmcbkofbaa
