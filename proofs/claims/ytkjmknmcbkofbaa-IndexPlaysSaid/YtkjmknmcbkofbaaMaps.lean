/-
  Maps in memory, told by a function from keys to values: look-ups, stores, deletes, how many; three kinds of keys (strings, ints, a struct of both).
  Its conditions: as each theorem states them.
-/
import Derived.Test.YtkjmknmcbkofbaaProg
import Derived.Test.YtkjmknmcbkofbaaPure
import Derived.Maps.OwnSet
import Derived.Maps.RangeWalk
import Derived.DeepKeys4
import Derived.KernelRfl
namespace Go.Proofs.Ytkjmknmcbkofbaa
set_option linter.unusedVariables false
set_option linter.unusedSimpArgs false
open Go Go.Proofs Go.RowKit Go.Maps

structure KeyKind (K : TypeId) (α : Type) where
  key : α → Value
  lit : α → Lit
  ok : α → Prop
  law : Keyed Try.prog K
  of : ∀ {a}, ok a → keyOf Try.prog K (key a) = some (lit a)
  inv : ∀ {v l}, keyOf Try.prog K v = some l → ∃ a, ok a ∧ v = key a ∧ l = lit a
  inj : ∀ {a b}, key a = key b → a = b

theorem KeyKind.lit_inj {K : TypeId} {α : Type} (kk : KeyKind K α) {a b : α} (ha : kk.ok a) (hb : kk.ok b) (h : kk.lit a = kk.lit b) : a = b :=
  kk.inj (kk.law.inj (kk.of ha) (h ▸ kk.of hb))

theorem KeyKind.isKey {K : TypeId} {α : Type} (kk : KeyKind K α) {a : α} (ha : kk.ok a) : WideAt.IsKeyLit (kk.lit a) := kk.law.key (kk.of ha)

/-- Whatever value: told by itself. -/
def tok (v : Value) : Option (DataW Value × List MemPlace) := some (.held v, [])

section
variable {K : TypeId} {α : Type} [DecidableEq α] (kk : KeyKind K α) {w w' : World} {b n : Nat} {f : α → Option Value}

/-- Block b is a map of at most n entries whose values f tells. -/
def View (w : World) (b n : Nat) (f : α → Option Value) : Prop :=
  ∃ D, w.ownsMap Try.prog K tok b n D ∧ ∀ a, kk.ok a → Maps.has D (kk.lit a) = (f a).isSome ∧ ∀ z v, f a = some v → D.atKey (kk.lit a) z = .held v

omit [DecidableEq α] in
theorem View.lt (h : View kk w b n f) : b < w.heap.size := h.choose_spec.1.lt
omit [DecidableEq α] in
theorem View.mono (h : View kk w b n f) {n' : Nat} (hn : n ≤ n') : View kk w b n' f := by
  obtain ⟨D, h1, h2⟩ := h
  exact ⟨D, h1.mono hn, h2⟩
omit [DecidableEq α] in
theorem View.congr (h : View kk w b n f) {g : α → Option Value} (hg : ∀ a, kk.ok a → g a = f a) : View kk w b n g := by
  obtain ⟨D, h1, h2⟩ := h
  exact ⟨D, h1, fun a ha => by rw [hg a ha]; exact h2 a ha⟩
omit [DecidableEq α] in
/-- It stays while its block does. -/
theorem View.same (h : View kk w b n f) (he : w'.heap[b]? = w.heap[b]?) : View kk w' b n f := by
  obtain ⟨D, ⟨es, clock, hb, r⟩, h2⟩ := h
  exact ⟨D, ⟨es, clock, he.trans hb, r⟩, h2⟩
omit [DecidableEq α] in
theorem View.isMapBlock (h : View kk w b n f) : ∃ es c, w.heap[b]? = some (.map es c) := by
  obtain ⟨D, ⟨es, clock, hb, _⟩, _⟩ := h
  exact ⟨es, clock, hb⟩

omit [DecidableEq α] in
theorem View.made (w : World) : View kk (w.alloc (.map #[] 0)) w.heap.size 0 (fun _ => none) :=
  ⟨.map [], World.ownsMap_made _ _ _ _, fun a _ => ⟨rfl, fun z v h => by cases h⟩⟩

omit [DecidableEq α] in
theorem View.look (h : View kk w b n f) {t e : TypeId} (ht : Try.prog.underlying t = some (.map K e)) {z : Value} (hz : (zeroValue e).run Try.prog w = .ok z w) {a : α} (ha : kk.ok a) :
    (Instr.lookup t (.map (some b)) (kk.key a) false).run Try.prog w = .ok ((f a).getD z) w := by
  obtain ⟨D, h1, h2⟩ := h
  obtain ⟨g1, g2⟩ := h2 a ha
  obtain ⟨v, ps, hrun, hv⟩ := h1.lookup kk.law ht hz (zd := .held z) (zp := []) rfl (kk.of ha)
  have e1 : D.atKey (kk.lit a) (.held z) = .held v := by
    simp only [tok, Option.some.injEq, Prod.mk.injEq] at hv
    exact hv.1.symm
  cases hf : f a with
  | none =>
    rw [hf] at g1
    rw [Maps.atKey_of_not_has g1] at e1
    cases e1
    exact hrun
  | some v' =>
    rw [g2 _ _ hf] at e1
    cases e1
    exact hrun

omit [DecidableEq α] in
theorem View.look_ok (h : View kk w b n f) {t e : TypeId} (ht : Try.prog.underlying t = some (.map K e)) {z : Value} (hz : (zeroValue e).run Try.prog w = .ok z w) {a : α} (ha : kk.ok a) :
    (Instr.lookup t (.map (some b)) (kk.key a) true).run Try.prog w = .ok (.tuple #[(f a).getD z, .bool (f a).isSome]) w := by
  obtain ⟨D, h1, h2⟩ := h
  obtain ⟨g1, g2⟩ := h2 a ha
  obtain ⟨v, ps, hrun, hv⟩ := h1.look_ok kk.law ht hz (zd := .held z) (zp := []) rfl (kk.of ha)
  have e1 : D.atKey (kk.lit a) (.held z) = .held v := by
    simp only [tok, Option.some.injEq, Prod.mk.injEq] at hv
    exact hv.1.symm
  rw [g1] at hrun
  cases hf : f a with
  | none =>
    rw [hf] at g1 hrun
    rw [Maps.atKey_of_not_has g1] at e1
    cases e1
    exact hrun
  | some v' =>
    rw [hf] at hrun
    rw [g2 _ _ hf] at e1
    cases e1
    exact hrun

/-- One key's value set, or struck. -/
def upd (f : α → Option Value) (a : α) (v : Option Value) : α → Option Value := fun x => if x = a then v else f x

theorem View.store (h : View kk w b n f) {t e : TypeId} (ht : Try.prog.underlying t = some (.map K e)) (hn : n < maxLen) {a : α} (ha : kk.ok a) (v : Value) :
    ∃ w', (Instr.mapUpdate t (.map (some b)) (kk.key a) v).run Try.prog w = .ok () w' ∧ View kk w' b (n + 1) (upd f a (some v)) ∧ w.mapTurned w' b := by
  obtain ⟨D, h1, h2⟩ := h
  obtain ⟨w', hrun, r1, r2⟩ := h1.store kk.law ht hn (kk.of ha) (val := v) rfl
  refine ⟨w', hrun, ⟨_, r1, fun x hx => ?_⟩, r2⟩
  unfold upd
  by_cases e : x = a
  · subst e
    rw [if_pos rfl]
    exact ⟨Maps.has_put_same h1.isMap (kk.isKey ha) _, fun z v' hv' => by cases hv'; exact Maps.atKey_put_same h1.isMap (kk.isKey ha) _ _⟩
  · rw [if_neg e]
    have hne : kk.lit x ≠ kk.lit a := fun h => e (kk.lit_inj hx ha h)
    exact ⟨by rw [Maps.has_put_other hne]; exact (h2 x hx).1, fun z v' hv' => by rw [Maps.atKey_put_other hne]; exact (h2 x hx).2 z v' hv'⟩

theorem View.drop (h : View kk w b n f) {t e : TypeId} (ht : Try.prog.underlying t = some (.map K e)) {a : α} (ha : kk.ok a) (ty : TypeId) :
    ∃ w', (Builtin.delete_ #[t, K] ty #[.map (some b), kk.key a]).run Try.prog w = .ok (.tuple #[]) w' ∧ View kk w' b n (upd f a none) ∧ w.mapTurned w' b := by
  obtain ⟨D, h1, h2⟩ := h
  obtain ⟨w', hrun, r1, r2⟩ := h1.drop kk.law ht (kk.of ha) ty
  refine ⟨w', hrun, ⟨_, r1, fun x hx => ?_⟩, r2⟩
  unfold upd
  by_cases e : x = a
  · subst e
    rw [if_pos rfl]
    exact ⟨Maps.has_del_same, fun z v' hv' => by cases hv'⟩
  · rw [if_neg e]
    have hne : kk.lit x ≠ kk.lit a := fun h => e (kk.lit_inj hx ha h)
    exact ⟨by rw [Maps.has_del_other hne]; exact (h2 x hx).1, fun z v' hv' => by rw [Maps.atKey_del_other hne]; exact (h2 x hx).2 z v' hv'⟩

omit [DecidableEq α] in
/-- How many entries: as many as there are keys. -/
theorem View.len (h : View kk w b n f) {t e : TypeId} (ht : Try.prog.underlying t = some (.map K e)) (ty : TypeId) {L : List α} (hnd : L.Nodup) (hok : ∀ a ∈ L, kk.ok a) (hm : ∀ a, kk.ok a → ((f a).isSome = true ↔ a ∈ L)) :
    (Builtin.len_ #[t] ty #[.map (some b)]).run Try.prog w = .ok (.int .i64 (L.length : Int)) w := by
  obtain ⟨D, h1, h2⟩ := h
  rw [h1.len ht ty]
  obtain ⟨es, hD, hpw, _⟩ := h1.entries kk.law
  obtain ⟨es', hD', hko⟩ := h1.keysOf
  obtain rfl : es = es' := by rw [hD] at hD'; simpa using hD'
  subst hD
  have hkey : ∀ p ∈ es, ∃ a, kk.ok a ∧ p.1 = kk.lit a := fun p hp => by
    obtain ⟨v, hv⟩ := hko p hp
    obtain ⟨a, ha, _, hl⟩ := kk.inv hv
    exact ⟨a, ha, hl⟩
  have hper : (es.map (·.1)).Perm (L.map kk.lit) := by
    refine (List.perm_ext_iff_of_nodup (List.pairwise_map.2 hpw) ?_).2 fun l => ?_
    · exact List.pairwise_map.2 (hnd.imp_of_mem fun {a b} ha hb hne e => hne (kk.lit_inj (hok a ha) (hok b hb) e))
    · constructor
      · intro hl
        obtain ⟨p, hp, rfl⟩ := List.mem_map.1 hl
        obtain ⟨a, ha, hla⟩ := hkey p hp
        have hh : Maps.has (.map es) (kk.lit a) = true := List.any_eq_true.2 ⟨p, hp, by rw [hla]; exact WideAt.sameKey_self (kk.isKey ha)⟩
        rw [(h2 a ha).1] at hh
        exact List.mem_map.2 ⟨a, (hm a ha).1 hh, hla.symm⟩
      · intro hl
        obtain ⟨a, ha, rfl⟩ := List.mem_map.1 hl
        have hh := (hm a (hok a ha)).2 ha
        rw [← (h2 a (hok a ha)).1] at hh
        obtain ⟨p, hp, hs⟩ := List.any_eq_true.1 hh
        exact List.mem_map.2 ⟨p, hp, WideAt.sameKey_eq hs⟩
  have : Maps.size (.map es) = L.length := by
    have := hper.length_eq
    simpa [Maps.size] using this
  rw [this]

end

/-! ### the three kinds of keys -/
theorem keyOf_int_inv' {v : Value} {l : Lit} (h : keyOf Try.prog 3 v = some l) : ∃ a : Int, (Lit.int .i64 a).wf = true ∧ v = .int .i64 a ∧ l = .int .i64 a := by
  obtain ⟨x, h1, h2, h3⟩ := Maps.keyOf_int_inv Try.underlying3 h
  exact ⟨x, h3, h1, h2⟩

def intK : KeyKind 3 Int where
  key := Value.int .i64
  lit := Lit.int .i64
  ok a := (Lit.int .i64 a).wf = true
  law := int_keyed Try.underlying3
  of h := keyOf_int_mk Try.underlying3 h
  inv := keyOf_int_inv'
  inj h := by simpa using h

def strK : KeyKind 9 Str where
  key := encStr
  lit := Lit.string
  ok a := a.length ≤ maxLen
  law := string_keyed Try.underlying9
  of {a} h := by
    have h1 : (⟨a.toArray⟩ : ByteArray).size ≤ maxLen := h
    simp [keyOf, Try.underlying9, mapKey, encStr, h1]
  inv h := by
    obtain ⟨x, h1, h2, h3⟩ := Maps.keyOf_str Try.underlying9 h
    exact ⟨x, h3, h1, h2⟩
  inj h := encStr_inj h

theorem laidOut : laidOutB Try.prog = true := by kernel_rfl
theorem row69 : (69 : TypeId) < Try.prog.types.size := of_decide_eq_true (by kernel_rfl)
theorem cells69 : Try.prog.cellsOf 69 = 2 := by kernel_rfl
theorem cells9 : Try.prog.cellsOf 9 = 1 := by kernel_rfl
theorem cells3 : Try.prog.cellsOf 3 = 1 := by kernel_rfl
theorem deep69 : Try.prog.keyTypeAt (Try.prog.types.size + 1) 69 = true := by kernel_rfl
theorem wide69 : (match Try.prog.underlying 69 with | some (.array _ _) | some (.struct _) => true | _ => false) = true := by rw [Try.underlying69]
theorem key69 : Try.prog.keyTypeAt 2 69 = true := by kernel_rfl
set_option maxRecDepth 100000 in
theorem law69 : Keyed Try.prog 69 := Keyed.of_law (deep_law_laid laidOut (m := 2) (by decide) row69 key69 wide69)

def saidKey (x : Str × Int) : Value := .agg #[encStr x.1, .int .i64 x.2]
def saidLit (x : Str × Int) : Lit := .string (keyBytes [.string x.1, .int .i64 x.2])
def saidOk (x : Str × Int) : Prop := x.1.length ≤ maxLen ∧ (Lit.int .i64 x.2).wf = true

theorem keyLits69 (d : Nat) (c0 c1 : Value) : Try.prog.keyLits (d + 2) 69 [c0, c1] = (do let a ← Try.prog.keyLits (d + 1) 9 [c0]; let b ← Try.prog.keyLits (d + 1) 3 [c1]; some (a ++ b)) := by
  conv => lhs; unfold Program.keyLits
  simp only [Try.underlying69, cells69]
  rw [if_pos (by simp)]
  simp [List.mapM_cons, cells9, cells3]
  cases Try.prog.keyLits (d + 1) 9 [c0] <;> simp
  cases Try.prog.keyLits (d + 1) 3 [c1] <;> simp

theorem keyLits9 (d : Nat) (s : ByteArray) : Try.prog.keyLits (d + 1) 9 [.string s] = if s.size ≤ maxLen then some [.string s.data.toList] else none := by
  unfold Program.keyLits; simp only [Try.underlying9]
theorem keyLits3 (d : Nat) (n : Int) : Try.prog.keyLits (d + 1) 3 [.int .i64 n] = if (Lit.int .i64 n).wf = true then some [.int .i64 n] else none := by
  unfold Program.keyLits; simp [Try.underlying3]

theorem said_of {x : Str × Int} (h : saidOk x) : keyOf Try.prog 69 (saidKey x) = some (saidLit x) := by
  obtain ⟨s, n⟩ := x
  obtain ⟨h1, h2⟩ := h
  have hd : ∃ d, Try.prog.types.size + 1 = d + 2 := ⟨Try.prog.types.size - 1, by have h0 : 0 < Try.prog.types.size := Nat.lt_of_le_of_lt (Nat.zero_le 69) row69; omega⟩
  obtain ⟨d, hd⟩ := hd
  have hk : Try.prog.keyType 69 = true := deep69
  have hf : (saidKey (s, n)).formed Try.prog 69 = true := by simp [saidKey, Value.formed, Try.underlying69, cells69]
  unfold keyOf
  simp only [Try.underlying69, hk, hf, Bool.and_self, if_true, hd]
  show ((Try.prog.keyLits (d + 2) 69 [encStr s, .int .i64 n]).map fun ls => Lit.string (keyBytes ls)) = _
  rw [keyLits69, encStr, keyLits9, keyLits3, if_pos (show (⟨s.toArray⟩ : ByteArray).size ≤ maxLen from h1), if_pos h2]
  rfl

set_option maxRecDepth 100000 in
theorem said_inv {v : Value} {l : Lit} (h : keyOf Try.prog 69 v = some l) : ∃ x, saidOk x ∧ v = saidKey x ∧ l = saidLit x := by
  obtain ⟨xs, L, rfl, hl, rfl⟩ := keyOf_top (P := Try.prog) (k := 69) wide69 h
  have hd : ∃ d, Try.prog.types.size + 1 = d + 2 := ⟨Try.prog.types.size - 1, by have h0 : 0 < Try.prog.types.size := Nat.lt_of_le_of_lt (Nat.zero_le 69) row69; omega⟩
  obtain ⟨d, hd⟩ := hd
  rw [hd] at hl
  obtain ⟨xs⟩ := xs
  simp only at hl
  match xs, hl with
  | [], hl => unfold Program.keyLits at hl; simp [Try.underlying69, cells69] at hl
  | [_], hl => unfold Program.keyLits at hl; simp [Try.underlying69, cells69] at hl
  | _ :: _ :: _ :: _, hl => unfold Program.keyLits at hl; simp [Try.underlying69, cells69] at hl
  | [c0, c1], hl =>
    rw [keyLits69] at hl
    cases h9 : Try.prog.keyLits (d + 1) 9 [c0] with
    | none => rw [h9] at hl; simp at hl
    | some a =>
      cases h3 : Try.prog.keyLits (d + 1) 3 [c1] with
      | none => rw [h9, h3] at hl; simp at hl
      | some b =>
        rw [h9, h3] at hl
        simp only [Option.bind_eq_bind, Option.bind_some, Option.some.injEq] at hl
        have e0 : ∃ s : ByteArray, c0 = .string s := by
          cases c0 <;> (unfold Program.keyLits at h9; simp [Try.underlying9] at h9)
          exact ⟨_, rfl⟩
        have e1 : ∃ n : Int, c1 = .int .i64 n := by
          cases c1 <;> (unfold Program.keyLits at h3; simp [Try.underlying3] at h3)
          exact ⟨_, by rw [h3.1.1]⟩
        obtain ⟨s, rfl⟩ := e0
        obtain ⟨n, rfl⟩ := e1
        rw [keyLits9] at h9
        rw [keyLits3] at h3
        split at h9
        · split at h3
          · rename_i hs hn
            cases h9
            cases h3
            subst hl
            refine ⟨(s.data.toList, n), ⟨(by show s.data.toList.length ≤ maxLen; rw [Array.length_toList]; exact hs), hn⟩, ?_, rfl⟩
            simp [saidKey, encStr]
          · cases h3
        · cases h9

def saidK : KeyKind 69 (Str × Int) where
  key := saidKey
  lit := saidLit
  ok := saidOk
  law := law69
  of := said_of
  inv := said_inv
  inj {a b} h := by
    simp only [saidKey, Value.agg.injEq] at h
    have h1 := congrArg (fun x : Array Value => x.toList) h
    simp at h1
    exact Prod.ext h1.1 h1.2

end Go.Proofs.Ytkjmknmcbkofbaa
