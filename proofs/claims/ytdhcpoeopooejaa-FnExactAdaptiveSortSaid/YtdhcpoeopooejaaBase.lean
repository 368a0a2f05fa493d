/- Rows of one-cell elements in one block, and how the world may change: small laws without the program. -/
import Derived.Test.YtdhcpoeopooejaaRows
import Derived.WalkKit
import Derived.WalkSpells
import Derived.WalkLawsBesides
import Derived.Lib.Hide
import Derived.Deep.Draws
import Derived.Deep.QuietTactic
import Derived.BigQuiet
import Derived.Laws.AppendOwnNone
namespace Go.Proofs.Ytdhcpoeopooejaa
open Go.RowKit
set_option linter.unusedVariables false
set_option linter.unusedSimpArgs false

/-- Block b holds, from cell off on, the values xs, with room for c in all; nothing of it is frozen. -/
def Row (w : World) (e b off c : Nat) (xs : List Value) : Prop :=
  ∃ cs, w.heap[b]? = some (.cells cs e (0, 0)) ∧ xs.length ≤ c ∧ off + c ≤ cs.size ∧ c ≤ maxLen ∧ ∀ i (h : i < xs.length), cs[off + i]? = some xs[i]

/-- Value v is a slice that reads as xs. -/
def Sl (w : World) (e : Nat) (v : Value) (xs : List Value) : Prop :=
  ∃ ao c, v = .slice ao xs.length c ∧ ((ao = none ∧ xs = [] ∧ c = 0) ∨ ∃ b off, ao = some ⟨b, off, none⟩ ∧ Row w e b off c xs)

def ints (xs : List Int) : List Value := xs.map (Value.int .i64)
def bools (xs : List Bool) : List Value := xs.map Value.bool
@[simp] theorem ints_length (xs : List Int) : (ints xs).length = xs.length := by simp [ints]
@[simp] theorem bools_length (xs : List Bool) : (bools xs).length = xs.length := by simp [bools]

theorem Row.lt {w : World} {e b off c : Nat} {xs : List Value} (h : Row w e b off c xs) : b < w.heap.size := by
  obtain ⟨cs, h1, _⟩ := h
  exact (Array.getElem?_eq_some_iff.1 h1).1
theorem Row.cell {w : World} {e b off c : Nat} {xs : List Value} (h : Row w e b off c xs) {i : Nat} (hi : i < xs.length) : w.cell? ⟨b, off + i, none⟩ = some xs[i] := by
  obtain ⟨cs, h1, _, _, _, h5⟩ := h
  rw [cell_of_row w b _ cs e (0, 0) h1]
  exact h5 i hi
theorem Row.frozen {w : World} {e b off c : Nat} {xs : List Value} (h : Row w e b off c xs) (j : Nat) : w.frozen? ⟨b, j, none⟩ = false := by
  obtain ⟨cs, h1, _⟩ := h
  exact frozen_of_row w b j cs e h1
theorem Row.of_block {w w' : World} {e b off c : Nat} {xs : List Value} (h : Row w e b off c xs) (hb : w'.heap[b]? = w.heap[b]?) : Row w' e b off c xs := by
  obtain ⟨cs, h1, r⟩ := h
  exact ⟨cs, hb.trans h1, r⟩
theorem Row.le {w : World} {e b off c : Nat} {xs : List Value} (h : Row w e b off c xs) : xs.length ≤ c := by
  obtain ⟨cs, _, h2, _⟩ := h
  exact h2
theorem Row.capLe {w : World} {e b off c : Nat} {xs : List Value} (h : Row w e b off c xs) : c ≤ maxLen := by
  obtain ⟨cs, _, _, _, h4, _⟩ := h
  exact h4
theorem Row.set {w : World} {e b off c : Nat} {xs : List Value} (h : Row w e b off c xs) {i : Nat} (hi : i < xs.length) (v : Value) : Row (w.setCell ⟨b, off + i, none⟩ v) e b off c (xs.set i v) := by
  obtain ⟨cs, h1, h2, h3, h4, h5⟩ := h
  refine ⟨cs.setIfInBounds (off + i) v, ?_, by simpa using h2, by simpa using h3, h4, ?_⟩
  · exact heap_setCell_same w b (off + i) cs e v h1
  · intro j hj
    have hj' : j < xs.length := by simpa using hj
    rw [Array.getElem?_setIfInBounds]
    by_cases hij : i = j
    · subst hij
      simp; omega
    · rw [if_neg (by omega), h5 j hj', List.getElem_set_ne hij]
theorem Row.drew {w : World} {e b off c : Nat} {xs : List Value} (h : Row w e b off c xs) : Row w.drew e b off c xs := h
theorem Row.drewN {w : World} {e b off c : Nat} {xs : List Value} (h : Row w e b off c xs) (n : Nat) : Row (w.drewN n) e b off c xs := h
theorem Row.alloc {w : World} {e b off c : Nat} {xs : List Value} (h : Row w e b off c xs) (o : Obj) : Row (w.alloc o) e b off c xs :=
  h.of_block (Below.heap_alloc w o b h.lt)
theorem Row.setOther {w : World} {e b off c : Nat} {xs : List Value} (h : Row w e b off c xs) {a : Addr} (ha : b ≠ a.block) (v : Value) : Row (w.setCell a v) e b off c xs :=
  h.of_block (heap_setCell_other w a b v ha)
theorem Row.grown {w w' : World} {e b off c : Nat} {xs : List Value} (h : Row w e b off c xs) {r : Option Nat} (hg : w.grownBy w' r) (hr : some b ≠ r) : Row w' e b off c xs :=
  h.of_block (hg.block b h.lt hr)
theorem Row.below {w w' : World} {B e b off c : Nat} {xs : List Value} (h : Row w e b off c xs) (hg : Below B w w') (hb : b < B) : Row w' e b off c xs :=
  h.of_block (hg.block b hb)
theorem Row.take {w : World} {e b off c : Nat} {xs : List Value} (h : Row w e b off c xs) (k : Nat) : Row w e b off c (xs.take k) := by
  obtain ⟨cs, h1, h2, h3, h4, h5⟩ := h
  refine ⟨cs, h1, by simp; omega, h3, h4, fun i hi => ?_⟩
  have hi' : i < xs.length := by simp at hi; omega
  rw [h5 i hi', List.getElem_take]
theorem Row.drop {w : World} {e b off c : Nat} {xs : List Value} (h : Row w e b off c xs) {k : Nat} (hk : k ≤ c) : Row w e b (off + k) (c - k) (xs.drop k) := by
  obtain ⟨cs, h1, h2, h3, h4, h5⟩ := h
  refine ⟨cs, h1, by simp; omega, by omega, by omega, fun i hi => ?_⟩
  have hi' : k + i < xs.length := by simp at hi; omega
  rw [List.getElem_drop, Nat.add_assoc, h5 (k + i) hi']
/-- What the kit calls an owned row, and this text's word. -/
theorem Row.of_owns {w : World} {base e : Nat} {g n cap : Nat} {xs : List Value} (h : w.ownsRow base e 1 (.slice (some ⟨g, 0, none⟩) n cap) n xs) : Row w e g 0 cap xs := by
  obtain ⟨hl, hh⟩ := h
  rcases hh with ⟨h, _⟩ | ⟨g', cap', cur, hv, _, hg, hn, hm, hs, ht⟩
  · simp at h
  · simp at hv
    obtain ⟨rfl, rfl⟩ := hv
    refine ⟨cur, hg, by omega, by omega, hm, fun i hi => ?_⟩
    have h2 : xs[i]? = some xs[i] := List.getElem?_eq_getElem hi
    have h3 : i < n := by omega
    rw [← h2, ← ht, List.getElem?_take]
    simp [h3]
theorem Row.owns {w : World} {e g cap : Nat} {xs : List Value} {cs : Array Value} (hg : w.heap[g]? = some (.cells cs e (0, 0))) (hc : cs.size = cap) (hl : xs.length ≤ cap) (hm : cap ≤ maxLen) (ht : cs.toList.take xs.length = xs) :
    w.ownsRow g e 1 (.slice (some ⟨g, 0, none⟩) xs.length cap) xs.length xs :=
  ⟨by simp, .inr ⟨g, cap, cs, rfl, Nat.le_refl _, hg, hl, hm, by omega, by simpa using ht⟩⟩

theorem Sl.nil (w : World) (e : Nat) : Sl w e (.slice none 0 0) [] := ⟨none, 0, rfl, .inl ⟨rfl, rfl, rfl⟩⟩
theorem Sl.of_row {w : World} {e b off c : Nat} {xs : List Value} (h : Row w e b off c xs) : Sl w e (.slice (some ⟨b, off, none⟩) xs.length c) xs := ⟨_, _, rfl, .inr ⟨b, off, rfl, h⟩⟩
theorem Sl.of_owns {w : World} {base e : Nat} {v : Value} {n : Nat} {xs : List Value} (h : w.ownsRow base e 1 v n xs) : Sl w e v xs := by
  have h' := h
  obtain ⟨hl, hh⟩ := h
  rcases hh with ⟨rfl, hn⟩ | ⟨g, cap, cur, rfl, _⟩
  · have : xs = [] := List.eq_nil_of_length_eq_zero (by omega)
    subst this
    exact Sl.nil w e
  · have hr := Row.of_owns h'
    have : n = xs.length := by omega
    subst this
    exact Sl.of_row hr
/-- Which block a slice value lies in; none for nil. -/
theorem Sl.of_block {w w' : World} {e : Nat} {v : Value} {xs : List Value} (h : Sl w e v xs) (hb : ∀ k, v.ownBlock = some k → w'.heap[k]? = w.heap[k]?) : Sl w' e v xs := by
  obtain ⟨ao, c, rfl, h⟩ := h
  refine ⟨ao, c, rfl, ?_⟩
  rcases h with h | ⟨b, off, rfl, hr⟩
  · exact .inl h
  · exact .inr ⟨b, off, rfl, hr.of_block (hb b rfl)⟩
theorem Sl.lt {w : World} {e : Nat} {v : Value} {xs : List Value} (h : Sl w e v xs) : ∀ k, v.ownBlock = some k → k < w.heap.size := by
  obtain ⟨ao, c, rfl, h⟩ := h
  intro k hk
  rcases h with ⟨rfl, _⟩ | ⟨b, off, rfl, hr⟩
  · simp [Value.ownBlock] at hk
  · simp [Value.ownBlock] at hk
    subst hk
    exact hr.lt
theorem Sl.grown {w w' : World} {e : Nat} {v : Value} {xs : List Value} {r : Option Nat} (h : Sl w e v xs) (hg : w.grownBy w' r) (hr : v.ownBlock = none ∨ v.ownBlock ≠ r) : Sl w' e v xs :=
  h.of_block fun k hk => hg.block k (h.lt k hk) (by rw [← hk]; rcases hr with hr | hr; · rw [hr] at hk; cases hk
                                                    · exact hr)
theorem Sl.below {w w' : World} {B e : Nat} {v : Value} {xs : List Value} (h : Sl w e v xs) (hg : Below B w w') (hr : ∀ k, v.ownBlock = some k → k < B) : Sl w' e v xs :=
  h.of_block fun k hk => hg.block k (hr k hk)
theorem Sl.drew {w : World} {e : Nat} {v : Value} {xs : List Value} (h : Sl w e v xs) : Sl w.drew e v xs := h
theorem Sl.drewN {w : World} {e : Nat} {v : Value} {xs : List Value} (h : Sl w e v xs) (n : Nat) : Sl (w.drewN n) e v xs := h

/-- Element i of a list of ints: a plain name that simp does not open. -/
def gi (xs : List Int) (i : Nat) : Int := xs.getD i 0
def gb (xs : List Bool) (i : Nat) : Bool := xs.getD i false
theorem gi_eq {xs : List Int} {i : Nat} (h : i < xs.length) : gi xs i = xs[i] := by simp [gi, h]
theorem gb_eq {xs : List Bool} {i : Nat} (h : i < xs.length) : gb xs i = xs[i] := by simp [gb, h]
theorem ints_get {xs : List Int} {i : Nat} (h : i < xs.length) (h' : i < (ints xs).length) : (ints xs)[i] = .int .i64 (gi xs i) := by
  rw [gi_eq h]; simp [ints]
theorem bools_get {xs : List Bool} {i : Nat} (h : i < xs.length) (h' : i < (bools xs).length) : (bools xs)[i] = .bool (gb xs i) := by
  rw [gb_eq h]; simp [bools]
theorem ints_set (xs : List Int) (i : Nat) (x : Int) : ints (xs.set i x) = (ints xs).set i (.int .i64 x) := by simp [ints, List.map_set]
theorem bools_set (xs : List Bool) (i : Nat) (x : Bool) : bools (xs.set i x) = (bools xs).set i (.bool x) := by simp [bools, List.map_set]
theorem made_ints (n : Nat) : (madeCells #[Value.int IntKind.i64 0] n).toList = ints (List.replicate n 0) := by
  rw [toList_madeCells_one]; simp [ints]
theorem made_bools (n : Nat) : (madeCells #[Value.bool false] n).toList = bools (List.replicate n false) := by
  rw [toList_madeCells_one]; simp [bools]
theorem Row.cellInt {w : World} {e b off c : Nat} {xs : List Int} (h : Row w e b off c (ints xs)) {i : Nat} (hi : i < xs.length) : w.cell? ⟨b, off + i, none⟩ = some (.int .i64 (gi xs i)) := by
  rw [h.cell (by simpa using hi), ints_get hi]
theorem Row.cellBool {w : World} {e b off c : Nat} {xs : List Bool} (h : Row w e b off c (bools xs)) {i : Nat} (hi : i < xs.length) : w.cell? ⟨b, off + i, none⟩ = some (.bool (gb xs i)) := by
  rw [h.cell (by simpa using hi), bools_get hi]
theorem Row.setInt {w : World} {e b off c : Nat} {xs : List Int} (h : Row w e b off c (ints xs)) {i : Nat} (hi : i < xs.length) (x : Int) : Row (w.setCell ⟨b, off + i, none⟩ (.int .i64 x)) e b off c (ints (xs.set i x)) := by
  rw [ints_set]; exact h.set (by simpa using hi) _
theorem Row.setBool {w : World} {e b off c : Nat} {xs : List Bool} (h : Row w e b off c (bools xs)) {i : Nat} (hi : i < xs.length) (x : Bool) : Row (w.setCell ⟨b, off + i, none⟩ (.bool x)) e b off c (bools (xs.set i x)) := by
  rw [bools_set]; exact h.set (by simpa using hi) _
/-- A slice of ints, opened: its length, and each element's cell where there is one. -/
theorem Sl.openInts {w : World} {e : Nat} {v : Value} {xs : List Int} (h : Sl w e v (ints xs)) :
    ∃ ao c, v = .slice ao xs.length c ∧ xs.length ≤ maxLen ∧ xs.length ≤ c ∧ c ≤ maxLen ∧ (0 < xs.length → ∃ b off, ao = some ⟨b, off, none⟩ ∧ Row w e b off c (ints xs)) := by
  obtain ⟨ao, c, rfl, h⟩ := h
  rcases h with ⟨rfl, h, rfl⟩ | ⟨b, off, rfl, hr⟩
  · have : xs = [] := by simpa [ints] using h
    subst this
    exact ⟨_, _, rfl, Nat.zero_le _, Nat.le_refl _, Nat.zero_le _, fun h => absurd h (by simp)⟩
  · have := hr.le
    have := hr.capLe
    rw [ints_length] at *
    exact ⟨_, _, rfl, by omega, by omega, by omega, fun _ => ⟨b, off, rfl, hr⟩⟩
theorem Sl.rowInts {w : World} {e n c : Nat} {ao : Option Addr} {xs : List Int} (h : Sl w e (.slice ao n c) (ints xs)) (hp : 0 < n) :
    ∃ b off, ao = some ⟨b, off, none⟩ ∧ xs.length = n ∧ Row w e b off c (ints xs) := by
  obtain ⟨ao', c', hv, h⟩ := h
  simp at hv
  obtain ⟨rfl, rfl, rfl⟩ := hv
  rcases h with ⟨_, h, _⟩ | ⟨b, off, rfl, hr⟩
  · rw [show xs = [] by simpa [ints] using h] at hp
    simp at hp
  · exact ⟨b, off, rfl, rfl, hr⟩
theorem Sl.lenInts {w : World} {e n c : Nat} {ao : Option Addr} {xs : List Int} (h : Sl w e (.slice ao n c) (ints xs)) : xs.length = n := by
  obtain ⟨ao', c', hv, _⟩ := h
  simp at hv
  exact hv.2.1.symm
theorem Sl.setInt {w : World} {e n c b off : Nat} {xs : List Int} (h : Sl w e (.slice (some ⟨b, off, none⟩) n c) (ints xs)) {i : Nat} (hi : i < n) (x : Int) :
    Sl (w.setCell ⟨b, off + i, none⟩ (.int .i64 x)) e (.slice (some ⟨b, off, none⟩) n c) (ints (xs.set i x)) := by
  obtain ⟨b', off', hb, hn, hr⟩ := h.rowInts (by omega)
  simp at hb
  obtain ⟨rfl, rfl⟩ := hb
  have := Sl.of_row (hr.setInt (i := i) (by omega) x)
  rwa [ints_length, List.length_set, hn] at this
theorem grownBy.setIn {a b : World} {g : Nat} (h : a.grownBy b (some g)) {p : Addr} (hp : p.block = g) {v : Value} : a.grownBy (b.setCell p v) (some g) :=
  ⟨h.os, h.tape, h.output, by simpa [World.setCell] using h.size, fun k hk hr => (heap_setCell_other b p k v (by rintro rfl; exact hr (by rw [hp]))).trans (h.block k hk hr)⟩
/-- A slice of ints that can be read, as it comes in. -/
def Rd (w : World) (v : Value) (xs : List Int) : Prop :=
  ∃ ao c, v = .slice ao xs.length c ∧ xs.length ≤ c ∧ c ≤ maxLen ∧ (0 < xs.length → ∃ b off, ao = some ⟨b, off, none⟩ ∧ ∀ i, i < xs.length → w.cell? ⟨b, off + i, none⟩ = some (.int .i64 (gi xs i)))
theorem Sl.rd {w : World} {e : Nat} {v : Value} {xs : List Int} (h : Sl w e v (ints xs)) : Rd w v xs := by
  obtain ⟨ao, c, rfl, h1, h2, h3, h4⟩ := h.openInts
  exact ⟨ao, c, rfl, h2, h3, fun hp => by obtain ⟨b, off, rfl, hr⟩ := h4 hp; exact ⟨b, off, rfl, fun i hi => hr.cellInt hi⟩⟩
theorem Rd.below {w w' : World} {v : Value} {xs : List Int} (h : Rd w v xs) (hb : Below w.heap.size w w') : Rd w' v xs := by
  obtain ⟨ao, c, rfl, h1, h2, h3⟩ := h
  refine ⟨ao, c, rfl, h1, h2, fun hp => ?_⟩
  obtain ⟨b, off, rfl, hr⟩ := h3 hp
  refine ⟨b, off, rfl, fun i hi => ?_⟩
  have := hr i hi
  rw [hb.cell (p := ⟨b, off + i, none⟩) (block_lt_of_cell this)]
  exact this
theorem ints_one (xs : List Int) : ∀ y ∈ ints xs, y.oneCell' = true := by
  intro y hy
  simp [ints] at hy
  obtain ⟨n, _, rfl⟩ := hy
  rfl
theorem bools_one (xs : List Bool) : ∀ y ∈ bools xs, y.oneCell' = true := by
  intro y hy
  simp [bools] at hy
  rcases hy with ⟨_, rfl⟩ | ⟨_, rfl⟩ <;> rfl
theorem Rd.drewN {w : World} {v : Value} {xs : List Int} (h : Rd w v xs) (n : Nat) : Rd (w.drewN n) v xs := h
/-- The first place where p holds, or -1. -/
def ixf {α : Type} (p : α → Bool) (xs : List α) : Int := match xs.findIdx? p with | some i => i | none => -1
theorem ixf_none {α : Type} {p : α → Bool} {xs : List α} (h : ∀ j (hj : j < xs.length), p xs[j] = false) : ixf p xs = -1 := by
  have : xs.findIdx? p = none := by
    rw [List.findIdx?_eq_none_iff]
    intro x hx
    obtain ⟨j, hj, rfl⟩ := List.getElem_of_mem hx
    exact h j hj
  simp [ixf, this]
theorem ixf_some {α : Type} {p : α → Bool} {xs : List α} {k : Nat} (hk : k < xs.length) (hp : p xs[k] = true) (h : ∀ j (hj : j < k), p (xs[j]'(by omega)) = false) : ixf p xs = k := by
  have : xs.findIdx? p = some k := by
    rw [List.findIdx?_eq_some_iff_getElem]
    exact ⟨hk, hp, fun j hj => by simp [h j hj]⟩
  simp [ixf, this]
theorem ixf_nonneg {α : Type} (p : α → Bool) (xs : List α) : decide (0 ≤ ixf p xs) = xs.any p := by
  unfold ixf
  cases h : xs.findIdx? p with
  | none =>
    rw [List.findIdx?_eq_none_iff] at h
    simp
    exact h
  | some i =>
    rw [List.findIdx?_eq_some_iff_getElem] at h
    obtain ⟨hi, hp, _⟩ := h
    simp
    exact ⟨_, List.getElem_mem hi, hp⟩
theorem any_not {α : Type} (p : α → Bool) (xs : List α) : (!xs.any fun x => !p x) = xs.all p := by
  rw [List.all_eq_not_any_not]
/-- The list that a walk has copied so far. -/
theorem take_set (xs : List Int) (n k : Nat) (hn : xs.length = n) (hk : k < n) : (xs.take k ++ List.replicate (n - k) 0).set k (gi xs k) = xs.take (k + 1) ++ List.replicate (n - (k + 1)) 0 := by
  apply List.ext_getElem?
  intro i
  rw [List.getElem?_set]
  simp only [List.length_append, List.length_take, List.length_replicate]
  by_cases h : k = i
  · subst h
    rw [if_pos rfl, if_pos (by omega), List.getElem?_append_left (by simp; omega)]
    rw [gi_eq (by omega)]
    simp
  · rw [if_neg h]
    by_cases h2 : i < k
    · rw [List.getElem?_append_left (by simp; omega), List.getElem?_append_left (by simp; omega)]
      simp [h2, Nat.lt_succ_of_lt h2]
    · rw [List.getElem?_append_right (by simp; omega), List.getElem?_append_right (by simp; omega)]
      simp only [List.length_take, List.getElem?_replicate]
      have : i - min k xs.length < n - k ↔ i - min (k + 1) xs.length < n - (k + 1) := by omega
      simp [this]

theorem grownBy.trans {a b c : World} {r : Option Nat} (h : a.grownBy b r) (k : b.grownBy c r) : a.grownBy c r :=
  ⟨k.os.trans h.os, k.tape.trans h.tape, k.output.trans h.output, Nat.le_trans h.size k.size, fun i hi hr => (k.block i (Nat.lt_of_lt_of_le hi h.size) hr).trans (h.block i hi hr)⟩
theorem grownBy.setNew {a b : World} {r : Option Nat} (h : a.grownBy b r) {p : Addr} (hp : a.heap.size ≤ p.block) {v : Value} : a.grownBy (b.setCell p v) r :=
  ⟨h.os, h.tape, h.output, by simpa [World.setCell] using h.size, fun k hk hr => (heap_setCell_other b p k v (by omega)).trans (h.block k hk hr)⟩
theorem grownBy.of_below {a b : World} (h : Below a.heap.size a b) (r : Option Nat) : a.grownBy b r :=
  ⟨h.os, h.tape, h.output, h.size, fun k hk _ => h.block k hk⟩
theorem grownBy.below {a b : World} (h : a.grownBy b none) : Below a.heap.size a b :=
  ⟨h.os, h.tape, h.output, h.size, fun k hk => h.block k hk (by simp)⟩
theorem Below.drewN {B : Nat} {a w : World} (h : Below B a w) (n : Nat) : Below B a (w.drewN n) := ⟨h.os, h.tape, h.output, h.size, h.block⟩
/-- One call after another: the second may write only what the first made. -/
theorem Below.thenGrown {B : Nat} {a b c : World} {r : Option Nat} (h : Below B a b) (k : b.grownBy c r) (hB : B ≤ b.heap.size) (hr : ∀ q, r = some q → B ≤ q) : Below B a c :=
  h.grown k hB hr

/-- Slice type T of one-cell elements of type e. -/
def EltOk (T e : TypeId) : Prop := ∃ i z bytes, Try.prog.underlying T = some (.slice e) ∧ Try.prog.info? e = some i ∧ i.zero = some z ∧ i.size = 1 ∧ i.bytes = bytes ∧ bytes ≤ 64 ∧ z.cells.size = 1
/-- A slice that the call itself appends to: it owns xs. -/
def Own (w : World) (e B : Nat) (v : Value) (xs : List Value) : Prop := w.ownsRow B e 1 v xs.length xs
theorem Own.nil (w : World) (e B : Nat) : Own w e B (.slice none 0 0) [] := World.ownsRow_nil _ _ _ _
theorem Own.alloc {w : World} {e B : Nat} {v : Value} {xs : List Value} (h : Own w e B v xs) (o : Obj) : Own (w.alloc o) e B v xs := World.ownsRow.alloc h o
theorem Own.drew {w : World} {e B : Nat} {v : Value} {xs : List Value} (h : Own w e B v xs) : Own w.drew e B v xs := h
theorem Own.drewN {w : World} {e B : Nat} {v : Value} {xs : List Value} (h : Own w e B v xs) (n : Nat) : Own (w.drewN n) e B v xs := h
theorem Own.sl {w : World} {e B : Nat} {v : Value} {xs : List Value} (h : Own w e B v xs) : Sl w e v xs := Sl.of_owns h
theorem Own.lt {w : World} {e B : Nat} {v : Value} {xs : List Value} (h : Own w e B v xs) : ∀ k, v.ownBlock = some k → B ≤ k ∧ k < w.heap.size := World.ownsRow.lt h
theorem Own.kept {w w' : World} {e B : Nat} {v : Value} {xs : List Value} {r : Option Nat} (h : Own w e B v xs) (hg : w.grownBy w' r) (hne : v.ownBlock = none ∨ v.ownBlock ≠ r) : Own w' e B v xs := World.ownsRow.kept h hg hne
/-- A new empty slice 'T(brace)(brace)': a block without cells. -/
theorem Own.empty (w : World) (e : Nat) : Own (w.alloc (.cells #[] e)) e w.heap.size (.slice (some ⟨w.heap.size, 0, none⟩) 0 0) [] :=
  World.ownsRow_made w #[] 0 (Nat.le_refl _) (Nat.zero_le _) (by simp)
/-- It stays what it is while others work in new memory. -/
theorem Own.keepEmpty {w w' : World} {e : Nat} (h : Below (w.alloc (.cells #[] e)).heap.size (w.alloc (.cells #[] e)) w') :
    Own w' e w.heap.size (.slice (some ⟨w.heap.size, 0, none⟩) 0 0) [] ∧ Below w.heap.size w w' := by
  refine ⟨(Own.empty w e).kept (r := none) ⟨h.os, h.tape, h.output, h.size, fun k hk _ => h.block k hk⟩ (.inr (by simp [Value.ownBlock])), ((Below.refl w.heap.size w).alloc (Nat.le_refl _) (.cells #[] e)).trans (h.mono ?_)⟩
  simp
/-- 'append(s, x)', x one value in a new cell. -/
theorem wpList_append_one {ops : Array Oper} {rest : List Oper} {o : Oper} {a : Act} {Q : Exit → Act → World → Prop} {w : World} {y : Value} {e T : TypeId} (E : EltOk T e) (hgd : o.guard = none) (s x : Operand)
    (ho : o.op = .call { callee := .builtin .append, args := #[s, x], argTypes := #[T, T] }) (B : Nat) (v : Value) (xs : List Value) (hs : a.eval s = v) (hown : Own w e B v xs)
    (hx : a.eval x = .slice (some ⟨w.heap.size, 0, none⟩) 1 1) (hy : y.oneCell' = true) (hl : xs.length ≤ 1000000000) (hB : B ≤ w.heap.size)
    (h : ∀ v' w', Own w' e B v' (xs ++ [y]) → w.grownBy w' v.ownBlock → wpList Try.prog ops Q rest (a.put o.dst v') w') : wpList Try.prog ops Q (o :: rest) a (w.alloc (.cells #[y] e)) := by
  obtain ⟨i, z, bytes, ht, hi, hz, hsz, hby, hb64, hzs⟩ := E
  refine wpList_append_own _ hgd s x T ho B e i z 1 bytes ht hi hz hsz hby hzs (by decide) v xs.length xs hs (hown.alloc _) ⟨w.heap.size, 0, none⟩ 1 1 [y] hx rfl ?_ ?_ ?_ ?_ ?_ ?_
  · intro j u hj
    match j, hj with
    | 0, hj =>
      simp at hj
      subst hj
      rw [Addr.add_lit]
      simp [go_sem]
    | n + 1, hj => simp at hj
  · intro u hu
    simp at hu
    subst hu
    exact hy
  · unfold maxLen; omega
  · have : (xs.length + 1) * bytes ≤ 1000000001 * 64 := Nat.mul_le_mul (by omega) hb64
    omega
  · have : (w.alloc (.cells #[y] e)).heap.size = w.heap.size + 1 := by simp
    omega
  · intro v' w' ho' hg _
    refine h v' w' ?_ ?_
    · unfold Own
      rw [List.length_append]
      exact ho'
    · have h1 := World.grownBy_alloc w (.cells #[y] e) v.ownBlock
      exact ⟨hg.os.trans h1.os, hg.tape.trans h1.tape, hg.output.trans h1.output, Nat.le_trans h1.size hg.size, fun k hk hr => (hg.block k (Nat.lt_of_lt_of_le hk h1.size) hr).trans (h1.block k hk hr)⟩

/-- A slice of one-cell elements that can be read. -/
def RdV (w : World) (v : Value) (ys : List Value) : Prop :=
  ∃ ao c, v = .slice ao ys.length c ∧ (ao = none → ys.length = 0 ∧ c = 0) ∧ ∀ ad, ao = some ad → ∀ i, (h : i < ys.length) → w.cell? (ad.add i) = some ys[i]
theorem RdV.of_sl {w : World} {e : Nat} {v : Value} {ys : List Value} (h : Sl w e v ys) : RdV w v ys := by
  obtain ⟨ao, c, rfl, h⟩ := h
  refine ⟨ao, c, rfl, ?_, ?_⟩
  · rintro rfl
    rcases h with ⟨_, rfl, rfl⟩ | ⟨b, off, hb, _⟩
    · exact ⟨rfl, rfl⟩
    · cases hb
  · rintro ad rfl i hi
    rcases h with ⟨h, _⟩ | ⟨b, off, hb, hr⟩
    · cases h
    · cases hb
      rw [Addr.add_lit]
      exact hr.cell hi
/-- 'append(s, u...)'. -/
theorem wpList_append_all {ops : Array Oper} {rest : List Oper} {o : Oper} {a : Act} {Q : Exit → Act → World → Prop} {w : World} {e T : TypeId} (E : EltOk T e) (hgd : o.guard = none) (s x : Operand)
    (ho : o.op = .call { callee := .builtin .append, args := #[s, x], argTypes := #[T, T] }) (B : Nat) (v : Value) (xs : List Value) (hs : a.eval s = v) (hown : Own w e B v xs)
    (u : Value) (ys : List Value) (hx : a.eval x = u) (hu : RdV w u ys) (hy : ∀ y ∈ ys, y.oneCell' = true) (hl : xs.length + ys.length ≤ 1000000000) (hB : B ≤ w.heap.size)
    (h : ∀ v' w', Own w' e B v' (xs ++ ys) → w.grownBy w' v.ownBlock → wpList Try.prog ops Q rest (a.put o.dst v') w') : wpList Try.prog ops Q (o :: rest) a w := by
  obtain ⟨i, z, bytes, ht, hi, hz, hsz, hby, hb64, hzs⟩ := E
  obtain ⟨ao, c, rfl, hn, hc⟩ := hu
  cases ao with
  | none =>
    obtain ⟨h0, rfl⟩ := hn rfl
    have : ys = [] := List.eq_nil_of_length_eq_zero h0
    subst this
    refine wpList_append_own_none hgd s x T ho B e i 1 ht hi v xs.length xs hs hown hx ?_
    exact h v w (by simpa using hown) (World.grownBy.refl _ _)
  | some ad =>
    refine wpList_append_own _ hgd s x T ho B e i z 1 bytes ht hi hz hsz hby hzs (by decide) v xs.length xs hs hown ad ys.length c ys hx (by simp) ?_ hy ?_ ?_ hB ?_
    · intro j u hj
      obtain ⟨hj', rfl⟩ := List.getElem?_eq_some_iff.1 hj
      exact hc ad rfl j hj'
    · unfold maxLen; omega
    · have : (xs.length + ys.length) * bytes ≤ 1000000000 * 64 := Nat.mul_le_mul hl hb64
      omega
    · intro v' w' ho' hg _
      refine h v' w' ?_ hg
      unfold Own
      rw [List.length_append]
      exact ho'

theorem results_tmp4 {fn : Func} {t u v x : Tmp} (h : fn.results = #[.tmp t, .tmp u, .tmp v, .tmp x]) (tmps : Array Value) (P : Program) (w : World) :
    (results fn tmps).run P w = .ok (.tuple #[tmps.getD t undef, tmps.getD u undef, tmps.getD v undef, tmps.getD x undef]) w := by
  simp [results, h]
/-- A call in a quiet region, where the world has been drawn from before. -/
theorem quietA {P : Program} {f : FuncId} {args : Array Value} {w : World} {a n : Nat} {v : Value} (h : Calls P f args (w.drewN (a + n)) fun e w' => e = .returned v ∧ w.drewN (a + n) = w') :
    Calls P f args (w.drewN (a + n)) fun e w'' => e = .returned v ∧ ∃ m, w'' = w.drewN (a + m) := h.mono fun _ _ ⟨he, hm⟩ => ⟨he, n, hm.symm⟩
theorem quietB {P : Program} {f : FuncId} {args : Array Value} {w : World} {n : Nat} {v : Value} (h : Calls P f args (w.drewN n) fun e w' => e = .returned v ∧ w.drewN n = w') :
    Calls P f args (w.drewN n) fun e w'' => e = .returned v ∧ ∃ m, w'' = w.drewN m := h.mono fun _ _ ⟨he, hm⟩ => ⟨he, n, hm.symm⟩
theorem ret_bool {a b : Bool} (h : a = b) : Ending.returned (.bool a) = .returned (.bool b) := by rw [h]
theorem ret_int {a b : Int} (h : a = b) : Ending.returned (.int .i64 a) = .returned (.int .i64 b) := by rw [h]

theorem info3 : (Try.prog.info? 3).map (fun i => (i.zero, i.size, i.bytes)) = some (some (.int .i64 0), 1, 8) := by kernel_rfl
theorem eltInt : EltOk 22 3 := by
  obtain ⟨i, h1, h2, h3, h4⟩ := info_parts info3
  exact ⟨i, _, 8, Try.underlying22, h1, h2, h3, h4, by omega, rfl⟩
theorem info4 : (Try.prog.info? 4).map (fun i => (i.zero, i.size, i.bytes)) = some (some (.bool false), 1, 1) := by kernel_rfl
end Go.Proofs.Ytdhcpoeopooejaa
