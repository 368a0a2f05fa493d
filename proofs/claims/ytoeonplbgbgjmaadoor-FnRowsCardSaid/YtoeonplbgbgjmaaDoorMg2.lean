/- What the laws' frames share: a slice of ints that came in, as this seat's walks read it; facts carried from world to world. Bounds and valid lists: l1In, in, isKey, l2List, all[int], IsValidList. Valid permutations: l3Good, IsValidPermutation. A list at some indices: apply, ComposePermutations, ApplyPermutation. A copy of a list of ints: copyOf, l1Own. The sign of a permutation: by inversions, and by cycles. No program. Stable sorting of lists of places: what the library's steps do, in plain lists. No program. Two small steps of a list of places. Blocks that are sorted by themselves, in plain lists. No program. LessString. -/
import Derived.Test.YtoeonplbgbgjmaaDoorMg1
import Derived.ProofKit
import Derived.OpenShut
import Derived.ShutString
import Derived.ChangeOld
import Derived.Below
namespace Go.Proofs.YtoeonplbgbgjmaaDoor
open Go.ChangeShapes Go.WideShapes Go.ChangeAt Go.RowKit

theorem own : ownKnob Tryd.prog.godebug = none := by kernel_rfl
theorem laidOut : laidOutB Tryd.prog = true := by kernel_rfl

/-- A slice of integers that came in: it is nil; or it leads to a row of 'cap' cells, the numbers 'zs' (the first 'len' are its elements, the rest its spare room), each fitting its kind. -/
def IsRow (k : IntKind) (w : World) (a : Option Addr) (len cap : Nat) (zs : List Int) : Prop :=
  (a = none ∧ len = 0 ∧ cap = 0 ∧ zs = []) ∨
  ∃ x, a = some x ∧ len ≤ cap ∧ cap ≤ maxLen ∧ zs.length = cap ∧ (∀ i, i < zs.length → w.cell? (x.add i) = some (.int k (zs.getD i 0))) ∧ ∀ n ∈ zs, (Lit.int k n).wf = true
/-- Each number fits 64 bits. -/
def I64s (xs : List Int) : Prop := ∀ i, i < xs.length → -9223372036854775808 ≤ gi xs i ∧ gi xs i ≤ 9223372036854775807
theorem spot_of_cell {w : World} {a : Addr} {v : Value} (h : w.cell? a = some v) : a.spot = none := by
  unfold World.cell? at h
  split at h
  · split at h
    · cases h
    · rename_i hs
      simpa using hs
  · cases h
theorem IsRow.rd {w : World} {a : Option Addr} {len cap : Nat} {zs : List Int} (h : IsRow .i64 w a len cap zs) : ∃ xs, Rd w (.slice a len cap) xs ∧ I64s xs := by
  rcases h with ⟨rfl, rfl, rfl, rfl⟩ | ⟨x, rfl, hl, hm, hz, hc, hw⟩
  · exact ⟨[], ⟨none, 0, rfl, Nat.le_refl _, Nat.zero_le _, fun h => absurd h (by simp)⟩, fun i hi => absurd hi (by simp)⟩
  · have hlen : (zs.take len).length = len := by simp; omega
    refine ⟨zs.take len, ⟨some x, cap, by rw [hlen], by omega, hm, fun hp => ?_⟩, fun i hi => ?_⟩
    · have hs := spot_of_cell (hc 0 (by omega))
      have hx : x = ⟨x.block, x.off, none⟩ := by
        have : x.spot = none := by
          have h0 : (x.add 0).spot = x.spot := by unfold Addr.add; split <;> simp_all
          rw [← h0]; exact hs
        cases x
        simp_all
      refine ⟨x.block, x.off, by rw [← hx], fun i hi => ?_⟩
      have := hc i (by omega)
      rw [hx, Addr.add_lit] at this
      rw [this]
      have hi' : i < len := by omega
      rw [gi_eq hi, List.getElem_take]
      simp [show i < zs.length by omega]
    · rw [gi_eq hi, List.getElem_take]
      have := hw _ (List.getElem_mem (l := zs) (n := i) (by omega))
      exact bounds_i64 this

theorem Below.next {w0 w w' : World} (h : Below w0.heap.size w0 w) (hb : Below w.heap.size w w') : Below w0.heap.size w0 w' := h.trans (hb.mono h.size)
theorem Below.quiet {w w' : World} (h : ∃ q, w' = w.drewN q) : Below w.heap.size w w' := by obtain ⟨q, rfl⟩ := h; exact Below.drewN (Below.refl _ _) q
theorem Rd.next {w0 w : World} {v : Value} {xs : List Int} (h : Rd w0 v xs) (hb : Below w0.heap.size w0 w) : Rd w v xs := h.below hb

/-! What a value occupies: the blocks F. -/
/-- All blocks of F are new since B. -/
def Fr (B : Nat) (F : List Nat) : Prop := ∀ b ∈ F, B ≤ b
/-- All blocks of F are there. -/
def Lt (w : World) (F : List Nat) : Prop := ∀ b ∈ F, b < w.heap.size
/-- F and G share no block. -/
def Dj (F G : List Nat) : Prop := ∀ b ∈ F, ¬ b ∈ G
theorem Dj.symm {F G : List Nat} (h : Dj F G) : Dj G F := fun b hb hf => h b hf hb
theorem Dj.of {w : World} {F G : List Nat} (h : Lt w F) (k : Fr w.heap.size G) : Dj F G := fun b hb hg => by have := h b hb; have := k b hg; omega
theorem Fr.of {w0 w : World} {F : List Nat} (h : Below w0.heap.size w0 w) (k : Fr w.heap.size F) : Fr w0.heap.size F := fun b hb => Nat.le_trans h.size (k b hb)
theorem Fr.le {A B : Nat} {F : List Nat} (h : A ≤ B) (k : Fr B F) : Fr A F := fun b hb => Nat.le_trans h (k b hb)
/-- Of what was there, the blocks F alone may have been written. -/
structure Ex (F : List Nat) (w w' : World) : Prop where
  os : w'.os = w.os
  tape : w'.tape = w.tape
  output : w'.output = w.output
  size : w.heap.size ≤ w'.heap.size
  block : ∀ k, k < w.heap.size → ¬ k ∈ F → w'.heap[k]? = w.heap[k]?
theorem Ex.refl (F : List Nat) (w : World) : Ex F w w := ⟨rfl, rfl, rfl, Nat.le_refl _, fun _ _ _ => rfl⟩
theorem Ex.trans {F : List Nat} {a b c : World} (h : Ex F a b) (k : Ex F b c) : Ex F a c :=
  ⟨k.os.trans h.os, k.tape.trans h.tape, k.output.trans h.output, Nat.le_trans h.size k.size, fun i hi hf => (k.block i (Nat.lt_of_lt_of_le hi h.size) hf).trans (h.block i hi hf)⟩
theorem Ex.mono {F G : List Nat} {a b : World} (h : Ex F a b) (hs : ∀ x ∈ F, x ∈ G) : Ex G a b :=
  ⟨h.os, h.tape, h.output, h.size, fun i hi hf => h.block i hi fun k => hf (hs i k)⟩
theorem Ex.of_below {F : List Nat} {a b : World} (h : Below a.heap.size a b) : Ex F a b := ⟨h.os, h.tape, h.output, h.size, fun i hi _ => h.block i hi⟩
theorem Ex.of_grown {v : Value} {a b : World} (h : a.grownBy b v.ownBlock) : Ex v.ownBlock.toList a b :=
  ⟨h.os, h.tape, h.output, h.size, fun i hi hf => h.block i hi (fun e => hf (by simp [← e]))⟩
theorem Ex.setIn {F : List Nat} {a b : World} (h : Ex F a b) {p : Addr} (hp : p.block ∈ F) {v : Value} : Ex F a (b.setCell p v) :=
  ⟨h.os, h.tape, h.output, by simpa [World.setCell] using h.size, fun k hk hr => (heap_setCell_other b p k v (by rintro rfl; exact hr hp)).trans (h.block k hk hr)⟩
theorem Ex.drewN {F : List Nat} {a b : World} (h : Ex F a b) (n : Nat) : Ex F a (b.drewN n) := ⟨h.os, h.tape, h.output, h.size, h.block⟩
theorem Below.ex {F : List Nat} {w0 w w' : World} (h : Below w0.heap.size w0 w) (k : Ex F w w') (f : Fr w0.heap.size F) : Below w0.heap.size w0 w' :=
  h.trans ⟨k.os, k.tape, k.output, k.size, fun i hi => k.block i (Nat.lt_of_lt_of_le hi h.size) (fun hf => by have := f i hf; omega)⟩

/-! A slice of ints as the laws see it. -/
abbrev TIntS := List Int
def DIntS (w : World) (v : Value) (x : List Int) : Prop := Rd w v x ∧ I64s x
def RIntS (w : World) (v : Value) (x : List Int) (F : List Nat) : Prop := Sl w 3 v (ints x) ∧ F = v.ownBlock.toList
theorem DIntS.next {w0 w : World} {v : Value} {x : List Int} (h : DIntS w0 v x) (hb : Below w0.heap.size w0 w) : DIntS w v x := ⟨h.1.below hb, h.2⟩
theorem DIntS.len {w : World} {v : Value} {x : List Int} (h : DIntS w v x) : x.length ≤ 9223372036854775807 := by
  obtain ⟨⟨ao, c, rfl, h1, h2, _⟩, _⟩ := h
  unfold maxLen at h2
  omega
theorem DIntS.shape {w : World} {v : Value} {x : List Int} (h : DIntS w v x) : ∃ ao c, v = .slice ao x.length c := by
  obtain ⟨⟨ao, c, rfl, _⟩, _⟩ := h
  exact ⟨ao, c, rfl⟩
theorem RIntS.of_block {w w' : World} {v : Value} {x : List Int} {F : List Nat} (h : RIntS w v x F) (hb : ∀ b ∈ F, w'.heap[b]? = w.heap[b]?) : RIntS w' v x F := by
  obtain ⟨h, rfl⟩ := h
  exact ⟨h.of_block fun k hk => hb k (by simp [hk]), rfl⟩
theorem RIntS.lt {w : World} {v : Value} {x : List Int} {F : List Nat} (h : RIntS w v x F) : Lt w F := by
  obtain ⟨h, rfl⟩ := h
  intro b hb
  exact h.lt b (by simpa using hb)
theorem RIntS.next {w w' : World} {v : Value} {x : List Int} {F : List Nat} (h : RIntS w v x F) (hb : Below w.heap.size w w') : RIntS w' v x F :=
  h.of_block fun b hf => hb.block b (h.lt b hf)
theorem RIntS.ex {w w' : World} {v : Value} {x : List Int} {F G : List Nat} (h : RIntS w v x F) (k : Ex G w w') (d : Dj F G) : RIntS w' v x F :=
  h.of_block fun b hf => k.block b (h.lt b hf) (d b hf)
theorem RIntS.rd {w : World} {v : Value} {x : List Int} {F : List Nat} (h : RIntS w v x F) : Rd w v x := h.1.rd

set_option maxRecDepth 100000 in
/-- A slice of ints among the arguments. -/
theorem argIntS {H : Type} {enc : TypeId × Value → H} {W : World} {base : Nat} {v : Value} {d : DataW H} {p : List MemPlace} (hval : Value.okWide Tryd.prog W .any base 106 v)
    (h : DataW.Trod enc Tryd.prog W 0 (fun _ => true) true 106 v d p) : ∃ x, DIntS W v x := by
  obtain ⟨a0, len0, cap0, rfl⟩ := okWide_slice Tryd.underlying106 hval
  obtain ⟨z0, w0⟩ : ∃ zs, IsRow .i64 W a0 len0 cap0 zs := by
    obtain ⟨fuel, hf⟩ := h
    rcases open_ints Tryd.underlying106 Tryd.underlying3 (by kernel_rfl) hf with ⟨hcs, _⟩ | ⟨x, l, c, zs, hcs, _, hl, hm, hz, _, hcell, hwz⟩
    · simp [Value.cells] at hcs
      obtain ⟨rfl, rfl, rfl⟩ := hcs
      exact ⟨[], .inl ⟨rfl, rfl, rfl, rfl⟩⟩
    · simp [Value.cells] at hcs
      obtain ⟨rfl, rfl, rfl⟩ := hcs
      exact ⟨zs, .inr ⟨_, rfl, hl, hm, by simpa using hz, hcell, hwz⟩⟩
  obtain ⟨xs, h1, h2⟩ := w0.rd
  exact ⟨xs, h1, h2⟩
end Go.Proofs.YtoeonplbgbgjmaaDoor
namespace Go.Proofs.YtoeonplbgbgjmaaDoor
open Go.RowKit
set_option linter.unusedVariables false
set_option linter.unusedSimpArgs false

/-- a ≤ x ≤ b. -/
def inB (x a b : Int) : Bool := decide (a ≤ x) && decide (x ≤ b)
def keyB (x : Int) : Bool := inB x (-100000) 100000
/-- A valid list. -/
def vlist (xs : List Int) : Bool := decide (xs.length ≤ 64) && xs.all keyB
theorem inB_iff {x a b : Int} : inB x a b = true ↔ a ≤ x ∧ x ≤ b := by simp [inB]
theorem keyB_iff {x : Int} : keyB x = true ↔ -100000 ≤ x ∧ x ≤ 100000 := inB_iff
theorem vlist_bad {xs : List Int} {k : Nat} (hk : k < xs.length) (h : keyB (gi xs k) = false) : vlist xs = false := by
  rw [gi_eq hk] at h
  have : xs.all keyB = false := by
    rw [List.all_eq_false]
    exact ⟨_, List.getElem_mem hk, by simp [h]⟩
  simp [vlist, this]
theorem vlist_good {xs : List Int} (hl : xs.length ≤ 64) (h : ∀ j, j < xs.length → keyB (gi xs j) = true) : vlist xs = true := by
  have : xs.all keyB = true := by
    rw [List.all_eq_true]
    intro x hx
    obtain ⟨j, hj, rfl⟩ := List.getElem_of_mem hx
    have := h j hj
    rwa [gi_eq hj] at this
  simp [vlist, this, hl]
theorem vlist_long {xs : List Int} (hl : 64 < xs.length) : vlist xs = false := by
  have : decide (xs.length ≤ 64) = false := decide_eq_false (by omega)
  simp [vlist, this]
theorem vlist_iff {xs : List Int} : vlist xs = true ↔ xs.length ≤ 64 ∧ ∀ j, j < xs.length → -100000 ≤ gi xs j ∧ gi xs j ≤ 100000 := by
  constructor
  · intro h
    simp [vlist] at h
    refine ⟨h.1, fun j hj => ?_⟩
    rw [gi_eq hj]
    exact keyB_iff.1 (h.2 _ (List.getElem_mem hj))
  · intro h
    exact vlist_good h.1 fun j hj => keyB_iff.2 (h.2 j hj)

set_option maxHeartbeats 400000 in
theorem l1In_any (x a b : Int) (w : World) :
    Calls Tryd.prog 89 #[.int .i64 x, .int .i64 a, .int .i64 b] w fun e w' => e = .returned (.bool (inB x a b)) ∧ w = w' := by
  by_cases h : a ≤ x
  · go_enter Tryd.func89, Tryd.ntmps89
    go_wp2
    go_ret
    exact ⟨ret_bool (by simp [inB, h]), rfl⟩
  · go_enter Tryd.func89, Tryd.ntmps89
    go_wp2
    go_ret
    have h2 : ¬ a ≤ x := by omega
    exact ⟨ret_bool (by simp [inB, h2]), rfl⟩

set_option maxHeartbeats 400000 in
theorem in_any (x a b : Int) (w : World) :
    Calls Tryd.prog 88 #[.int .i64 x, .int .i64 a, .int .i64 b] w fun e w' => e = .returned (.bool (inB x a b)) ∧ w = w' := by
  by_cases h : a ≤ x
  · go_enter Tryd.func88, Tryd.ntmps88
    go_wp2
    go_ret
    exact ⟨ret_bool (by simp [inB, h]), rfl⟩
  · go_enter Tryd.func88, Tryd.ntmps88
    go_wp2
    go_ret
    have h2 : ¬ a ≤ x := by omega
    exact ⟨ret_bool (by simp [inB, h2]), rfl⟩









end Go.Proofs.YtoeonplbgbgjmaaDoor
namespace Go.Proofs.YtoeonplbgbgjmaaDoor
open Go.RowKit
set_option linter.unusedVariables false
set_option linter.unusedSimpArgs false

/-- Element k of the list may stand in a permutation: in range, and not met before. -/
def permAt (xs : List Int) (k : Nat) : Bool := inB (gi xs k) 0 ((xs.length : Int) - 1) && !(xs.take k).contains (gi xs k)
/-- A valid permutation. -/
def goodP (xs : List Int) : Bool := decide (xs.length ≤ 64) && (List.range xs.length).all (permAt xs)
/-- Which of 0 .. n - 1 are among the first k. -/
def seenL (n : Nat) (xs : List Int) (k : Nat) : List Bool := (List.range n).map fun (j : Nat) => (xs.take k).contains (j : Int)
@[simp] theorem seenL_length (n : Nat) (xs : List Int) (k : Nat) : (seenL n xs k).length = n := by simp [seenL]
theorem seenL_zero (n : Nat) (xs : List Int) : seenL n xs 0 = List.replicate n false := by
  apply List.ext_getElem (by simp)
  intro i h1 h2
  simp [seenL]
theorem seenL_at (n : Nat) (xs : List Int) (k j : Nat) (hj : j < n) : gb (seenL n xs k) j = (xs.take k).contains (j : Int) := by
  rw [gb_eq (by simpa using hj)]; simp [seenL]
theorem seenL_step (n : Nat) (xs : List Int) (k j : Nat) (hk : k < xs.length) (hx : gi xs k = j) : (seenL n xs k).set j true = seenL n xs (k + 1) := by
  apply List.ext_getElem (by simp)
  intro i h1 h2
  have ht : xs.take (k + 1) = xs.take k ++ [(j : Int)] := by
    rw [List.take_succ_eq_append_getElem hk, ← hx, gi_eq hk]
  rw [List.getElem_set]
  simp only [seenL, List.getElem_map, List.getElem_range, ht]
  by_cases h : j = i
  · subst h; simp
  · rw [if_neg h, Bool.eq_iff_iff]
    simp
    intro h'; omega
theorem goodP_long {xs : List Int} (h : 64 < xs.length) : goodP xs = false := by
  have : decide (xs.length ≤ 64) = false := decide_eq_false (by omega)
  simp [goodP, this]
theorem goodP_bad {xs : List Int} {k : Nat} (hk : k < xs.length) (h : permAt xs k = false) : goodP xs = false := by
  have : (List.range xs.length).all (permAt xs) = false := by
    rw [List.all_eq_false]
    exact ⟨k, by simpa using hk, by simp [h]⟩
  simp [goodP, this]
theorem goodP_good {xs : List Int} (hl : xs.length ≤ 64) (h : ∀ j, j < xs.length → permAt xs j = true) : goodP xs = true := by
  have : (List.range xs.length).all (permAt xs) = true := by
    rw [List.all_eq_true]
    intro j hj
    exact h j (by simpa using hj)
  simp [goodP, this, hl]
theorem permAt_iff {xs : List Int} {k : Nat} : permAt xs k = true ↔ (0 ≤ gi xs k ∧ gi xs k ≤ (xs.length : Int) - 1) ∧ ¬ gi xs k ∈ xs.take k := by
  simp [permAt, inB_iff]
theorem goodP_iff {xs : List Int} : goodP xs = true ↔ xs.length ≤ 64 ∧ ∀ k, k < xs.length → permAt xs k = true := by
  constructor
  · intro h
    simp [goodP] at h
    exact ⟨h.1, h.2⟩
  · intro h
    exact goodP_good h.1 h.2



end Go.Proofs.YtoeonplbgbgjmaaDoor
namespace Go.Proofs.YtoeonplbgbgjmaaDoor
open Go.RowKit
set_option linter.unusedVariables false
set_option linter.unusedSimpArgs false

/-- list at p. -/
def apF (p list : List Int) : List Int := p.map fun x => gi list x.toNat
theorem apF_snoc (p list : List Int) (k : Nat) (h : k < p.length) : apF (p.take (k + 1)) list = apF (p.take k) list ++ [gi list (gi p k).toNat] := by
  unfold apF; rw [List.take_succ_eq_append_getElem h, gi_eq h, List.map_append]; rfl
theorem apF_take_length (p list : List Int) (k : Nat) : (apF (p.take k) list).length ≤ k := by simp [apF]; omega
/-- All of p lies in 0 .. n - 1. -/
def inR (p : List Int) (n : Nat) : Prop := ∀ i, i < p.length → 0 ≤ gi p i ∧ gi p i < n
theorem inR_good {p : List Int} (h : goodP p = true) : inR p p.length := fun i hi => by
  have := permAt_iff.1 ((goodP_iff.1 h).2 i hi)
  omega
/-- A slice that a call made for itself: it reads as xs, in new memory. -/
def Fresh (w w' : World) (r : Value) (xs : List Int) : Prop := Sl w' 3 r (ints xs) ∧ (∀ k, r.ownBlock = some k → w.heap.size ≤ k) ∧ Below w.heap.size w w'
theorem Fresh.law {w w' : World} {r : Value} {xs : List Int} (h : Fresh w w' r xs) : RIntS w' r xs r.ownBlock.toList ∧ Fr w.heap.size r.ownBlock.toList ∧ Below w.heap.size w w' :=
  ⟨⟨h.1, rfl⟩, fun b hb => h.2.1 b (by simpa using hb), h.2.2⟩
theorem Fresh.of_own {w w' : World} {r : Value} {xs : List Int} (h : Own w' 3 w.heap.size r (ints xs)) (hb : Below w.heap.size w w') : Fresh w w' r xs :=
  ⟨h.sl, fun k hk => (h.lt k hk).1, hb⟩
theorem Fresh.nil {w w' : World} (hb : Below w.heap.size w w') : Fresh w w' (.slice none 0 0) [] := ⟨Sl.nil _ _, fun k hk => by simp [Value.ownBlock] at hk, hb⟩
theorem Fresh.empty {w w1 : World} (hb : Below w.heap.size w w1) : Fresh w (w1.alloc (.cells #[] 3)) (.slice (some ⟨w1.heap.size, 0, none⟩) 0 0) [] :=
  ⟨(Own.empty w1 _).sl, fun k hk => by simp [Value.ownBlock] at hk; have := hb.size; omega, hb.alloc hb.size _⟩
/-- Behind an append to a slice that the call owns. -/
theorem Below.appended {B : Nat} {a w w' : World} {v : Value} {e : Nat} {xs : List Value} (h : Below B a w) (ho : Own w e B v xs) (hg : w.grownBy w' v.ownBlock) (hB : B ≤ w.heap.size) : Below B a w' :=
  h.grown hg hB fun k hk => (ho.lt k hk).1

end Go.Proofs.YtoeonplbgbgjmaaDoor
namespace Go.Proofs.YtoeonplbgbgjmaaDoor
open Go.RowKit
set_option linter.unusedVariables false
set_option linter.unusedSimpArgs false

/-- A slice that the call may append to and write: it owns xs, in new memory. -/
def FreshOwn (w w' : World) (r : Value) (xs : List Int) : Prop := Own w' 3 w.heap.size r (ints xs) ∧ Below w.heap.size w w'
theorem FreshOwn.fresh {w w' : World} {r : Value} {xs : List Int} (h : FreshOwn w w' r xs) : Fresh w w' r xs := Fresh.of_own h.1 h.2
theorem FreshOwn.shape {w w' : World} {r : Value} {xs : List Int} (h : FreshOwn w w' r xs) : ∃ ao c, r = .slice ao xs.length c ∧ xs.length ≤ c ∧ c ≤ maxLen ∧
    (0 < xs.length → ∃ g, ao = some ⟨g, 0, none⟩ ∧ w.heap.size ≤ g ∧ Row w' 3 g 0 c (ints xs)) := by
  obtain ⟨h1, h2⟩ := h
  have h1' := h1
  obtain ⟨hl, hh⟩ := h1
  rcases hh with ⟨rfl, hn⟩ | ⟨g, cap, cur, rfl, hg, _, h3, h4, _⟩
  · rw [ints_length] at hn
    exact ⟨none, 0, by rw [hn], by omega, Nat.zero_le _, fun h => by omega⟩
  · rw [ints_length] at *
    refine ⟨_, _, rfl, h3, h4, fun _ => ⟨g, rfl, hg, Row.of_owns (base := w.heap.size) (n := xs.length) ?_⟩⟩
    unfold Own at h1'
    rw [ints_length] at h1'
    exact h1'

theorem Own.below {w w' : World} {e B : Nat} {v : Value} {xs : List Value} (h : Own w e B v xs) (hb : Below w.heap.size w w') : Own w' e B v xs :=
  h.kept (r := none) (grownBy.of_below hb none) (by cases h : v.ownBlock <;> simp)
/-- A copy that has been written in place. -/
theorem FreshOwn.wrote {w w1 w2 w3 : World} {r : Value} {xs L : List Int} (hb : Below w.heap.size w w1) (hf : FreshOwn w1 w2 r xs) (hs : Sl w3 3 r (ints L)) (hex : Ex r.ownBlock.toList w2 w3) : Fresh w w3 r L :=
  ⟨hs, fun k hk => Nat.le_trans hb.size (hf.1.lt k hk).1, Below.ex (Below.next hb hf.2) hex fun b h => Nat.le_trans hb.size (hf.1.lt b (by simpa using h)).1⟩
/-- An older slice reads on while new memory is made and written. -/
theorem Rd.ex {w2 w3 wr : World} {v : Value} {gs : List Int} {F : List Nat} (hu : Rd w2 v gs) (hb : Below w2.heap.size w2 w3) (hex : Ex F w3 wr) (hF : ∀ b ∈ F, w2.heap.size ≤ b) : Rd wr v gs := by
  obtain ⟨ao, c, rfl, h1, h2, h3⟩ := hu
  refine ⟨ao, c, rfl, h1, h2, fun hp => ?_⟩
  obtain ⟨b, off, rfl, hr⟩ := h3 hp
  refine ⟨b, off, rfl, fun i hi => ?_⟩
  have h0 := hr i hi
  have hlt : b < w2.heap.size := block_lt_of_cell h0
  rw [World.cell?_of_block (w := w3) (hex.block b (Nat.lt_of_lt_of_le hlt hb.size) (fun hm => by have := hF b hm; omega)), World.cell?_of_block (w := w2) (hb.block b hlt)]
  exact h0
theorem FreshOwn.sl {w w' : World} {r : Value} {xs : List Int} (h : FreshOwn w w' r xs) : Sl w' 3 r (ints xs) := h.1.sl
end Go.Proofs.YtoeonplbgbgjmaaDoor
namespace Go.Proofs.YtoeonplbgbgjmaaDoor
open Go.RowKit
set_option linter.unusedVariables false
set_option linter.unusedSimpArgs false

/-- The parity of the number of inversions. -/
def par (l : List Int) : Nat := invs l % 2
theorem par_lt (l : List Int) : par l < 2 := Nat.mod_lt _ (by omega)
/-- An exchange of neighbours that differ turns the parity. -/
theorem par_adj (A B : List Int) (x y : Int) (h : x ≠ y) : par (A ++ y :: x :: B) = (par (A ++ x :: y :: B) + 1) % 2 := by
  have h1 := invs_swap A B x y
  unfold par
  by_cases h2 : x < y
  · rw [if_neg (by omega), if_pos h2] at h1; omega
  · rw [if_pos (by omega), if_neg h2] at h1; omega
/-- x moved over B. -/
theorem par_move (A B C : List Int) (x : Int) (h : ¬ x ∈ B) : par (A ++ B ++ x :: C) = (par (A ++ x :: B ++ C) + B.length) % 2 := by
  induction B generalizing A with
  | nil => simp [par]
  | cons b B ih =>
    have h1 : x ≠ b := fun e => h (by simp [e])
    have h2 : ¬ x ∈ B := fun e => h (by simp [e])
    have e1 := ih (A ++ [b]) h2
    have e2 := par_adj A (B ++ C) x b h1
    simp only [List.append_assoc, List.cons_append, List.nil_append, List.length_cons] at e1 e2 ⊢
    rw [e1, e2]
    omega
/-- An exchange of two elements that differ, wherever they stand. -/
theorem par_swap (A B C : List Int) (x y : Int) (hx : ¬ x ∈ B) (hy : ¬ y ∈ B) (h : x ≠ y) : par (A ++ y :: B ++ x :: C) = (par (A ++ x :: B ++ y :: C) + 1) % 2 := by
  have e1 := par_move A B (y :: C) x hx
  have e2 := par_move A B (x :: C) y hy
  have e3 := par_adj (A ++ B) C x y h
  simp only [List.append_assoc, List.cons_append, List.nil_append] at e1 e2 e3 ⊢
  have := par_lt (A ++ (x :: (B ++ y :: C)))
  have := par_lt (A ++ (y :: (B ++ x :: C)))
  omega
theorem split2 (l : List Int) (i j : Nat) (hij : i < j) (hj : j < l.length) :
    l = l.take i ++ gi l i :: (l.drop (i + 1)).take (j - i - 1) ++ gi l j :: l.drop (j + 1) ∧
    swp l i j = l.take i ++ gi l j :: (l.drop (i + 1)).take (j - i - 1) ++ gi l i :: l.drop (j + 1) := by
  have key : ∀ (a b : Int), (l.set i a).set j b = l.take i ++ a :: (l.drop (i + 1)).take (j - i - 1) ++ b :: l.drop (j + 1) := by
    intro a b
    apply List.ext_getElem?
    intro k
    rw [List.getElem?_set, List.getElem?_set]
    simp only [List.length_set]
    have hl1 : (l.take i).length = i := by simp; omega
    have hl2 : ((l.drop (i + 1)).take (j - i - 1)).length = j - i - 1 := by simp; omega
    by_cases h1 : j = k
    · subst h1
      rw [if_pos rfl, if_pos hj, List.getElem?_append_right (by simp; omega)]
      simp only [List.length_append, List.length_cons, hl1, hl2]
      rw [show j - (i + (j - i - 1 + 1)) = 0 by omega]; rfl
    · rw [if_neg h1]
      by_cases h2 : i = k
      · subst h2
        rw [if_pos rfl, if_pos (by omega), List.getElem?_append_left (by simp; omega), List.getElem?_append_right (by omega), hl1, Nat.sub_self]; rfl
      · rw [if_neg h2]
        by_cases h3 : k < i
        · rw [List.getElem?_append_left (by simp; omega), List.getElem?_append_left (by omega), List.getElem?_take, if_pos h3]
        · by_cases h4 : k < j
          · rw [List.getElem?_append_left (by simp; omega), List.getElem?_append_right (by omega), hl1, show k - i = (k - i - 1) + 1 by omega, List.getElem?_cons_succ, List.getElem?_take, if_pos (by omega), List.getElem?_drop]
            congr 1; omega
          · rw [List.getElem?_append_right (by simp; omega)]
            simp only [List.length_append, List.length_cons, hl1, hl2]
            rw [show k - (i + (j - i - 1 + 1)) = (k - j - 1) + 1 by omega, List.getElem?_cons_succ, List.getElem?_drop]
            congr 1; omega
  refine ⟨?_, key _ _⟩
  have := key (gi l i) (gi l j)
  rw [← this]
  rw [gi_eq (by omega), gi_eq hj]
  simp
/-- Distinct elements. -/
def Dist (l : List Int) : Prop := ∀ i j, i < j → j < l.length → gi l i ≠ gi l j
theorem par_swp {l : List Int} (hd : Dist l) {i j : Nat} (hij : i < j) (hj : j < l.length) : par (swp l i j) = (par l + 1) % 2 := by
  obtain ⟨h1, h2⟩ := split2 l i j hij hj
  have hmem : ∀ x, x ∈ (l.drop (i + 1)).take (j - i - 1) → ∃ k, i < k ∧ k < j ∧ gi l k = x := by
    intro x hx
    obtain ⟨k, hk, rfl⟩ := List.getElem_of_mem hx
    simp at hk
    refine ⟨i + 1 + k, by omega, by omega, ?_⟩
    rw [gi_eq (by omega)]
    simp
  have e := par_swap (l.take i) ((l.drop (i + 1)).take (j - i - 1)) (l.drop (j + 1)) (gi l i) (gi l j)
    (fun h => by obtain ⟨k, k1, k2, k3⟩ := hmem _ h; exact hd i k k1 (by omega) k3.symm)
    (fun h => by obtain ⟨k, k1, k2, k3⟩ := hmem _ h; exact hd k j k2 hj k3)
    (hd i j hij hj)
  rw [h2]
  conv => rhs; rw [h1]
  exact e
theorem gi_set {l : List Int} {i k : Nat} {x : Int} (hi : i < l.length) : gi (l.set i x) k = if i = k then x else gi l k := by
  unfold gi
  rw [List.getD_eq_getElem?_getD, List.getD_eq_getElem?_getD, List.getElem?_set]
  by_cases h : i = k
  · subst h; simp [hi]
  · simp [h]
theorem gi_swp {l : List Int} {i j k : Nat} (hi : i < l.length) (hj : j < l.length) : gi (swp l i j) k = if k = j then gi l i else if k = i then gi l j else gi l k := by
  unfold swp
  rw [gi_set (by simpa using hj), gi_set hi]
  by_cases h1 : j = k
  · subst h1; simp
  · rw [if_neg h1, if_neg (show ¬ k = j from fun h => h1 h.symm)]
    by_cases h2 : i = k
    · subst h2; simp
    · rw [if_neg h2, if_neg (show ¬ k = i from fun h => h2 h.symm)]
theorem swp_comm {l : List Int} {i j : Nat} (hi : i < l.length) (hj : j < l.length) : swp l i j = swp l j i := by
  apply List.ext_getElem (by simp)
  intro k h1 h2
  rw [← gi_eq h1, ← gi_eq h2, gi_swp hi hj, gi_swp hj hi]
  by_cases a : k = j
  · by_cases b : k = i
    · rw [if_pos a, if_pos b, ← a, ← b]
    · rw [if_pos a, if_neg b, if_pos a]
  · by_cases b : k = i
    · rw [if_neg a, if_pos b, if_pos b]
    · rw [if_neg a, if_neg b, if_neg b, if_neg a]
/-- Where the element at place k of the turned list stood. -/
def swi (i j k : Nat) : Nat := if k = j then i else if k = i then j else k
theorem gi_swi {l : List Int} {i j k : Nat} (hi : i < l.length) (hj : j < l.length) : gi (swp l i j) k = gi l (swi i j k) := by
  rw [gi_swp hi hj]
  unfold swi
  split
  · rfl
  · split <;> rfl
theorem Dist.swp {l : List Int} (hd : Dist l) {i j : Nat} (hi : i < l.length) (hj : j < l.length) : Dist (swp l i j) := by
  intro a b hab hb he
  rw [swp_length] at hb
  rw [gi_swi hi hj, gi_swi hi hj] at he
  have h1 : swi i j a ≠ swi i j b := by
    unfold swi
    split <;> split <;> (try split) <;> (try split) <;> omega
  have h2 : swi i j a < l.length := by unfold swi; split <;> (try split) <;> omega
  have h3 : swi i j b < l.length := by unfold swi; split <;> (try split) <;> omega
  rcases Nat.lt_or_gt_of_ne h1 with h | h
  · exact hd _ _ h h3 he
  · exact hd _ _ h h2 he.symm
theorem par_swp' {l : List Int} (hd : Dist l) {i j : Nat} (hij : i ≠ j) (hi : i < l.length) (hj : j < l.length) : par (swp l i j) = (par l + 1) % 2 := by
  rcases Nat.lt_or_gt_of_ne hij with h | h
  · exact par_swp hd h hj
  · rw [swp_comm hi hj]; exact par_swp hd h hi
theorem goodP_dist {p : List Int} (h : goodP p = true) : Dist p := by
  intro i j hij hj he
  have := (permAt_iff.1 ((goodP_iff.1 h).2 j hj)).2
  apply this
  rw [← he, gi_eq (by omega)]
  rw [List.mem_take_iff_getElem]
  exact ⟨i, by omega, rfl⟩
end Go.Proofs.YtoeonplbgbgjmaaDoor
namespace Go.Proofs.YtoeonplbgbgjmaaDoor
open Go.RowKit
set_option linter.unusedVariables false
set_option linter.unusedSimpArgs false

/-- A comparison of places: antisymmetric, and 'at most' is transitive. -/
structure Pre (cv : Int → Int → Int) : Prop where
  anti : ∀ x y, cv x y < 0 ↔ 0 < cv y x
  tr : ∀ x y z, cv x y ≤ 0 → cv y z ≤ 0 → cv x z ≤ 0
/-- The stable order: by the comparison, then by the place. -/
def ll (cv : Int → Int → Int) (x y : Int) : Prop := cv x y < 0 ∨ (cv x y = 0 ∧ x < y)
theorem Pre.irr {cv : Int → Int → Int} (h : Pre cv) (x : Int) : ¬ ll cv x x := by
  rintro (h1 | ⟨_, h1⟩)
  · have := (h.anti x x).1 h1; omega
  · omega
theorem Pre.lt_trans {cv : Int → Int → Int} (h : Pre cv) {x y z : Int} (h1 : cv x y ≤ 0) (h2 : cv y z ≤ 0) (h3 : cv x y < 0 ∨ cv y z < 0) : cv x z < 0 := by
  have h4 := h.tr x y z h1 h2
  rcases Int.lt_or_eq_of_le h4 with h5 | h5
  · exact h5
  · exfalso
    have z0 : cv z x ≤ 0 := by
      rcases Int.lt_or_le 0 (cv z x) with h6 | h6
      · have := (h.anti x z).2 h6; omega
      · exact h6
    rcases h3 with h3 | h3
    · have e1 := h.tr y z x h2 z0
      have e2 := (h.anti x y).1 h3
      omega
    · have e1 := h.tr z x y z0 h1
      have e2 := (h.anti y z).1 h3
      omega
theorem Pre.trans {cv : Int → Int → Int} (h : Pre cv) {x y z : Int} (h1 : ll cv x y) (h2 : ll cv y z) : ll cv x z := by
  rcases h1 with h1 | ⟨h1, k1⟩
  · rcases h2 with h2 | ⟨h2, k2⟩
    · exact .inl (h.lt_trans (by omega) (by omega) (.inl h1))
    · exact .inl (h.lt_trans (by omega) (by omega) (.inl h1))
  · rcases h2 with h2 | ⟨h2, k2⟩
    · exact .inl (h.lt_trans (by omega) (by omega) (.inr h2))
    · have h4 := h.tr x y z (by omega) (by omega)
      rcases Int.lt_or_eq_of_le h4 with h5 | h5
      · exact .inl h5
      · exact .inr ⟨h5, by omega⟩
theorem Pre.tri {cv : Int → Int → Int} (h : Pre cv) {x y : Int} (hn : x ≠ y) : ll cv x y ∨ ll cv y x := by
  rcases Int.lt_or_le (cv x y) 0 with h1 | h1
  · exact .inl (.inl h1)
  · rcases Int.lt_or_le (cv y x) 0 with h2 | h2
    · exact .inr (.inl h2)
    · have e1 : cv x y = 0 := by
        rcases Int.lt_or_le 0 (cv x y) with h3 | h3
        · have := (h.anti y x).2 h3; omega
        · omega
      have e2 : cv y x = 0 := by
        rcases Int.lt_or_le 0 (cv y x) with h3 | h3
        · have := (h.anti x y).2 h3; omega
        · omega
      rcases Int.lt_or_gt_of_ne hn with h3 | h3
      · exact .inl (.inr ⟨e1, h3⟩)
      · exact .inr (.inr ⟨e2, h3⟩)
theorem Pre.asym {cv : Int → Int → Int} (h : Pre cv) {x y : Int} (h1 : ll cv x y) : ¬ ll cv y x := fun h2 => h.irr x (h.trans h1 h2)
/-- What is compared tells the order, where the first place is the later one. -/
theorem ll_of_cmp {cv : Int → Int → Int} {x y : Int} (hxy : y < x) : ll cv x y ↔ cv x y < 0 := by
  constructor
  · rintro (h | ⟨_, h⟩)
    · exact h
    · omega
  · exact .inl
theorem Pre.not_ll {cv : Int → Int → Int} (h : Pre cv) {x y : Int} (hn : x ≠ y) (hl : ¬ ll cv x y) : ll cv y x := (h.tri hn).resolve_left hl

/-- Places a .. b - 1 of the list are in order. -/
def Srt (cv : Int → Int → Int) (D : List Int) (a b : Nat) : Prop := ∀ i j, a ≤ i → i < j → j < b → ll cv (gi D i) (gi D j)
/-- D' is D, moved within a .. b - 1. -/
structure Mv (D D' : List Int) (a b : Nat) : Prop where
  perm : D'.Perm D
  out : ∀ i, i < a ∨ b ≤ i → gi D' i = gi D i
  ins : ∀ i, a ≤ i → i < b → ∃ i', a ≤ i' ∧ i' < b ∧ gi D' i = gi D i'
theorem Mv.len {D D' : List Int} {a b : Nat} (h : Mv D D' a b) : D'.length = D.length := h.perm.length_eq
theorem Mv.refl (D : List Int) (a b : Nat) : Mv D D a b := ⟨List.Perm.refl _, fun _ _ => rfl, fun i h1 h2 => ⟨i, h1, h2, rfl⟩⟩
theorem Mv.trans {D D' D'' : List Int} {a b : Nat} (h : Mv D D' a b) (k : Mv D' D'' a b) : Mv D D'' a b :=
  ⟨k.perm.trans h.perm, fun i hi => (k.out i hi).trans (h.out i hi), fun i h1 h2 => by
    obtain ⟨j, j1, j2, j3⟩ := k.ins i h1 h2
    obtain ⟨m, m1, m2, m3⟩ := h.ins j j1 j2
    exact ⟨m, m1, m2, j3.trans m3⟩⟩
theorem Mv.mono {D D' : List Int} {a b a' b' : Nat} (h : Mv D D' a b) (ha : a' ≤ a) (hb : b ≤ b') : Mv D D' a' b' :=
  ⟨h.perm, fun i hi => h.out i (by omega), fun i h1 h2 => by
    by_cases e : a ≤ i ∧ i < b
    · obtain ⟨j, j1, j2, j3⟩ := h.ins i e.1 e.2
      exact ⟨j, by omega, by omega, j3⟩
    · exact ⟨i, h1, h2, h.out i (by omega)⟩⟩
theorem swpPerm {l : List Int} {i j : Nat} (hij : i < j) (hj : j < l.length) : (swp l i j).Perm l := by
  obtain ⟨h1, h2⟩ := split2 l i j hij hj
  rw [h2]
  conv => rhs; rw [h1]
  simp only [List.append_assoc, List.cons_append]
  refine List.Perm.append_left _ ?_
  exact (List.Perm.cons _ List.perm_middle).trans ((List.Perm.swap _ _ _).trans (List.Perm.cons _ List.perm_middle.symm))
theorem Mv.swp {D : List Int} {a b i j : Nat} (ha : a ≤ i) (hij : i < j) (hb : j < b) (hl : j < D.length) : Mv D (swp D i j) a b := by
  refine ⟨swpPerm hij hl, fun k hk => ?_, fun k h1 h2 => ?_⟩
  · rw [gi_swp (by omega) hl, if_neg (by omega), if_neg (by omega)]
  · rw [gi_swi (by omega) hl]
    refine ⟨_, ?_, ?_, rfl⟩ <;> unfold swi <;> split <;> (try split) <;> omega
theorem Mv.dist {D D' : List Int} {a b : Nat} (h : Mv D D' a b) (hd : Dist D) : Dist D' := by
  have h1 : D.Nodup := by
    rw [List.Nodup, List.pairwise_iff_getElem]
    intro i j hi hj hij
    have := hd i j hij hj
    rwa [gi_eq hi, gi_eq hj] at this
  have h2 := h1.perm h.perm.symm
  intro i j hij hj
  rw [List.Nodup, List.pairwise_iff_getElem] at h2
  have := h2 i j (by omega) hj hij
  rwa [gi_eq (by omega), gi_eq hj]
theorem Srt.mono {cv : Int → Int → Int} {D : List Int} {a b a' b' : Nat} (h : Srt cv D a b) (ha : a ≤ a') (hb : b' ≤ b) : Srt cv D a' b' := fun i j h1 h2 h3 => h i j (by omega) h2 (by omega)
theorem Srt.congr {cv : Int → Int → Int} {D D' : List Int} {a b : Nat} (h : Srt cv D a b) (he : ∀ i, a ≤ i → i < b → gi D' i = gi D i) : Srt cv D' a b := fun i j h1 h2 h3 => by
  rw [he i h1 (by omega), he j (by omega) h3]; exact h i j h1 h2 h3
theorem Srt.one (cv : Int → Int → Int) (D : List Int) {a b : Nat} (h : b ≤ a + 1) : Srt cv D a b := fun i j h1 h2 h3 => by omega

/-! Insertion. -/
/-- Places a .. i are in order, but for what stands at k. -/
def SrtX (cv : Int → Int → Int) (D : List Int) (a i k : Nat) : Prop := ∀ p q, a ≤ p → p < q → q ≤ i → q ≠ k → ll cv (gi D p) (gi D q)
theorem SrtX.start {cv : Int → Int → Int} {D : List Int} {a i : Nat} (h : Srt cv D a i) : SrtX cv D a i i := fun p q h1 h2 h3 h4 => h p q h1 h2 (by omega)
theorem SrtX.done {cv : Int → Int → Int} (hc : Pre cv) {D : List Int} {a i k : Nat} (h : SrtX cv D a i k) (hk : k = a ∨ ll cv (gi D (k - 1)) (gi D k)) : Srt cv D a (i + 1) := by
  intro p q h1 h2 h3
  by_cases e : q = k
  · subst e
    rcases hk with rfl | hk
    · omega
    · by_cases e2 : p = q - 1
      · rw [e2]; exact hk
      · exact hc.trans (h p (q - 1) h1 (by omega) (by omega) (by omega)) hk
  · exact h p q h1 h2 (by omega) e
theorem SrtX.step {cv : Int → Int → Int} {D : List Int} {a i m : Nat} (h : SrtX cv D a i (m + 1)) (ha : a ≤ m) (hi : m + 1 ≤ i) (hl : i < D.length) (hgt : ll cv (gi D (m + 1)) (gi D m)) : SrtX cv (swp D m (m + 1)) a i m := by
  intro p q h1 h2 h3 h4
  rw [gi_swp (by omega) (by omega), gi_swp (by omega) (by omega)]
  by_cases eb : q = m + 1
  · subst eb
    rw [if_pos rfl, if_neg (show ¬ p = m + 1 by omega)]
    by_cases ea : p = m
    · rw [if_pos ea]; exact hgt
    · rw [if_neg ea]; exact h p m h1 (by omega) (by omega) (by omega)
  · rw [if_neg eb, if_neg h4]
    by_cases ea : p = m + 1
    · rw [if_pos ea]; exact h m q ha (by omega) h3 eb
    · rw [if_neg ea]
      by_cases ea2 : p = m
      · rw [if_pos ea2]; exact h (m + 1) q (by omega) (by omega) h3 eb
      · rw [if_neg ea2]; exact h p q h1 h2 h3 eb

/-! The merge of two runs that lie side by side. -/
/-- What the left run holds came from earlier places than what the right one holds. -/
def Xs (D : List Int) (a m b : Nat) : Prop := ∀ i j, a ≤ i → i < m → m ≤ j → j < b → gi D i < gi D j
/-- The first of the left run alone, put to its place p. -/
theorem merge_first {cv : Int → Int → Int} (hc : Pre cv) {D D' : List Int} {a b p : Nat} (hw : Srt cv D (a + 1) b) (hx : Xs D a (a + 1) b) (hp1 : a + 1 ≤ p) (hp2 : p ≤ b) (h1 : ∀ h, a + 1 ≤ h → h < p → cv (gi D h) (gi D a) < 0) (h2 : ∀ h, p ≤ h → h < b → ¬ cv (gi D h) (gi D a) < 0)
    (hD : ∀ t, a ≤ t → t < b → gi D' t = if t + 1 < p then gi D (t + 1) else if t + 1 = p then gi D a else gi D t) : Srt cv D' a b := by
  have k1 : ∀ h, a + 1 ≤ h → h < p → ll cv (gi D h) (gi D a) := fun h g1 g2 => .inl (h1 h g1 g2)
  have k2 : ∀ h, p ≤ h → h < b → ll cv (gi D a) (gi D h) := fun h g1 g2 => by
    have hlt := hx a h (Nat.le_refl _) (by omega) (by omega) g2
    exact hc.not_ll (by omega) (fun e => h2 h g1 g2 ((ll_of_cmp hlt).1 e))
  intro i j g1 g2 g3
  rw [hD i g1 (by omega), hD j (by omega) g3]
  by_cases a1 : j + 1 < p
  · rw [if_pos (by omega), if_pos a1]; exact hw (i + 1) (j + 1) (by omega) (by omega) (by omega)
  · rw [if_neg a1]
    by_cases a2 : j + 1 = p
    · rw [if_pos a2, if_pos (by omega)]; exact k1 (i + 1) (by omega) (by omega)
    · rw [if_neg a2]
      by_cases a3 : i + 1 < p
      · rw [if_pos a3]
        by_cases a4 : i + 1 = j
        · omega
        · exact hw (i + 1) j (by omega) (by omega) g3
      · rw [if_neg a3]
        by_cases a4 : i + 1 = p
        · rw [if_pos a4]; exact k2 j (by omega) g3
        · rw [if_neg a4]; exact hw i j (by omega) g2 g3
/-- The only one of the right run, put to its place p. -/
theorem merge_last {cv : Int → Int → Int} (hc : Pre cv) {D D' : List Int} {a m p : Nat} (hu : Srt cv D a m) (hx : Xs D a m (m + 1)) (hp1 : a ≤ p) (hp2 : p ≤ m) (h1 : ∀ h, a ≤ h → h < p → ¬ cv (gi D m) (gi D h) < 0) (h2 : ∀ h, p ≤ h → h < m → cv (gi D m) (gi D h) < 0)
    (hD : ∀ t, a ≤ t → t < m + 1 → gi D' t = if t < p then gi D t else if t = p then gi D m else gi D (t - 1)) : Srt cv D' a (m + 1) := by
  have k1 : ∀ h, a ≤ h → h < p → ll cv (gi D h) (gi D m) := fun h g1 g2 => by
    have hlt := hx h m g1 (by omega) (Nat.le_refl _) (by omega)
    exact hc.not_ll (by omega) (fun e => h1 h g1 g2 ((ll_of_cmp hlt).1 e))
  have k2 : ∀ h, p ≤ h → h < m → ll cv (gi D m) (gi D h) := fun h g1 g2 => .inl (h2 h g1 g2)
  intro i j g1 g2 g3
  rw [hD i g1 (by omega), hD j (by omega) g3]
  by_cases a1 : j < p
  · rw [if_pos (by omega), if_pos a1]; exact hu i j g1 g2 (by omega)
  · rw [if_neg a1]
    by_cases a2 : j = p
    · rw [if_pos a2, if_pos (by omega)]; exact k1 i g1 (by omega)
    · rw [if_neg a2]
      by_cases a3 : i < p
      · rw [if_pos a3]
        by_cases a4 : i < j - 1
        · exact hu i (j - 1) g1 a4 (by omega)
        · omega
      · rw [if_neg a3]
        by_cases a4 : i = p
        · rw [if_pos a4]; exact k2 (j - 1) (by omega) (by omega)
        · rw [if_neg a4]; exact hu (i - 1) (j - 1) (by omega) (by omega) (by omega)

/-- T is D with a .. m - 1 and m .. b - 1 exchanged in order. -/
def Rt (D T : List Int) (a m b : Nat) : Prop := ∀ t, gi T t = if a ≤ t ∧ t < a + (b - m) then gi D (t + (m - a)) else if a + (b - m) ≤ t ∧ t < b then gi D (t - (b - m)) else gi D t
/-- D' is D with n elements from a on and n elements from b on exchanged. -/
def Sw (D D' : List Int) (a b n : Nat) : Prop := ∀ t, gi D' t = if a ≤ t ∧ t < a + n then gi D (t - a + b) else if b ≤ t ∧ t < b + n then gi D (t - b + a) else gi D t
theorem Sw.zero (D : List Int) (a b : Nat) : Sw D D a b 0 := fun t => by rw [if_neg (by omega), if_neg (by omega)]
theorem Sw.step {D D' : List Int} {a b n k : Nat} (h : Sw D D' a b k) (hk : k < n) (hab : a + n ≤ b) (hl : b + n ≤ D'.length) : Sw D (swp D' (a + k) (b + k)) a b (k + 1) := by
  intro t
  rw [gi_swp (by omega) (by omega), h, h, h]
  by_cases e1 : t = b + k
  · subst e1
    rw [if_pos rfl, if_neg (by omega), if_neg (by omega), if_neg (by omega), if_pos (by omega)]
    congr 1; omega
  · rw [if_neg e1]
    by_cases e2 : t = a + k
    · subst e2
      rw [if_pos rfl, if_neg (by omega), if_neg (by omega), if_pos (by omega)]
      congr 1; omega
    · rw [if_neg e2]
      by_cases e3 : a ≤ t ∧ t < a + k
      · rw [if_pos e3, if_pos (by omega)]
      · rw [if_neg e3, if_neg (show ¬ (a ≤ t ∧ t < a + (k + 1)) by omega)]
        by_cases e4 : b ≤ t ∧ t < b + k
        · rw [if_pos e4, if_pos (by omega)]
        · rw [if_neg e4, if_neg (by omega)]
theorem Rt.left {D D' T : List Int} {m i j : Nat} (h : Rt D T (m - i) m (m + j)) (hi : i ≤ m) (hij : j < i) (hs : Sw D D' (m - i) m j) : Rt D' T (m - (i - j)) m (m + j) := by
  intro t
  rw [h]
  by_cases c1 : t < m - i
  · rw [if_neg (by omega), if_neg (by omega), if_neg (by omega), if_neg (by omega), hs, if_neg (by omega), if_neg (by omega)]
  · by_cases c2 : t < m - i + j
    · rw [if_pos (by omega), if_neg (by omega), if_neg (by omega), hs, if_pos (by omega)]; congr 1; omega
    · by_cases c3 : t < m + j
      · rw [if_neg (by omega), if_pos (by omega)]
        by_cases c4 : t < m - (i - j) + j
        · rw [if_pos (by omega), hs, if_neg (by omega), if_pos (by omega)]; congr 1; omega
        · rw [if_neg (by omega), if_pos (by omega), hs, if_neg (by omega), if_neg (by omega)]
      · rw [if_neg (by omega), if_neg (by omega), if_neg (by omega), if_neg (by omega), hs, if_neg (by omega), if_neg (by omega)]
theorem Rt.right {D D' T : List Int} {m i j : Nat} (h : Rt D T (m - i) m (m + j)) (hi : i ≤ m) (hij : i < j) (hs : Sw D D' (m - i) (m + j - i) i) : Rt D' T (m - i) m (m + (j - i)) := by
  intro t
  rw [h]
  by_cases c1 : t < m - i
  · rw [if_neg (by omega), if_neg (by omega), if_neg (by omega), if_neg (by omega), hs, if_neg (by omega), if_neg (by omega)]
  · by_cases c2 : t < m + j - i
    · rw [if_pos (by omega)]
      by_cases c3 : t < m - i + (j - i)
      · rw [if_pos (by omega), hs, if_neg (by omega), if_neg (by omega)]
      · rw [if_neg (by omega), if_pos (by omega), hs, if_pos (by omega)]; congr 1; omega
    · by_cases c3 : t < m + j
      · rw [if_neg (by omega), if_pos (by omega), if_neg (by omega), if_neg (by omega), hs, if_neg (by omega), if_pos (by omega)]; congr 1; omega
      · rw [if_neg (by omega), if_neg (by omega), if_neg (by omega), if_neg (by omega), hs, if_neg (by omega), if_neg (by omega)]
theorem Rt.last {D D' T : List Int} {m i : Nat} (h : Rt D T (m - i) m (m + i)) (hi : i ≤ m) (hs : Sw D D' (m - i) m i) : ∀ t, gi D' t = gi T t := by
  intro t
  rw [h, hs]
  by_cases c1 : m - i ≤ t ∧ t < m - i + i
  · rw [if_pos c1, if_pos (by omega)]; congr 1; omega
  · rw [if_neg c1]
    by_cases c2 : m ≤ t ∧ t < m + i
    · rw [if_pos c2, if_neg (by omega), if_pos (by omega)]; congr 1; omega
    · rw [if_neg c2, if_neg (by omega), if_neg (by omega)]
/-- The list that a rotation makes. -/
def rotL (D : List Int) (a m b : Nat) : List Int := (List.range D.length).map fun t => if a ≤ t ∧ t < a + (b - m) then gi D (t + (m - a)) else if a + (b - m) ≤ t ∧ t < b then gi D (t - (b - m)) else gi D t
theorem rotL_rt {D : List Int} {a m b : Nat} (h1 : a ≤ m) (h2 : m ≤ b) (hb : b ≤ D.length) : Rt D (rotL D a m b) a m b := by
  intro t
  by_cases ht : t < D.length
  · rw [gi_eq (by simp [rotL]; exact ht)]; simp [rotL]
  · rw [if_neg (by omega), if_neg (by omega)]
    have e : ∀ l : List Int, l.length = D.length → gi l t = 0 := fun l hl => by
      unfold gi
      rw [List.getD_eq_getElem?_getD, List.getElem?_eq_none (by omega)]; rfl
    rw [e _ (by simp [rotL]), e D rfl]

/-- The split of a merge at start: what the two halves then hold. -/
theorem cut_halves {cv : Int → Int → Int} (hc : Pre cv) {D D1 : List Int} {a m b mid start fin : Nat} (hu : Srt cv D a m) (hw : Srt cv D m b) (hx : Xs D a m b) (h1 : a ≤ start) (h2 : start ≤ m) (h3 : m ≤ fin) (h4 : fin ≤ b) (h5 : start + fin = mid + m) (h6 : a < mid) (h7 : mid < b)
    (c1 : a < start → fin < b → ¬ cv (gi D fin) (gi D (start - 1)) < 0) (c2 : start < m → m < fin → cv (gi D (fin - 1)) (gi D start) < 0) (hr : Rt D D1 start m fin) :
    Srt cv D1 a start ∧ Srt cv D1 start mid ∧ Srt cv D1 mid fin ∧ Srt cv D1 fin b ∧ Xs D1 a start mid ∧ Xs D1 mid fin b ∧ (∀ i j, a ≤ i → i < mid → mid ≤ j → j < b → ll cv (gi D1 i) (gi D1 j)) := by
  have e1 : ∀ t, a ≤ t → t < start → gi D1 t = gi D t := fun t g1 g2 => by rw [hr, if_neg (by omega), if_neg (by omega)]
  have e2 : ∀ t, start ≤ t → t < mid → gi D1 t = gi D (t + (m - start)) := fun t g1 g2 => by rw [hr, if_pos (by omega)]
  have e3 : ∀ t, mid ≤ t → t < fin → gi D1 t = gi D (t - (fin - m)) := fun t g1 g2 => by rw [hr, if_neg (by omega), if_pos (by omega)]
  have e4 : ∀ t, fin ≤ t → gi D1 t = gi D t := fun t g1 => by rw [hr, if_neg (by omega), if_neg (by omega)]
  -- u before w where the cut says so
  have k1 : ∀ p q, a ≤ p → p < start → fin ≤ q → q < b → ll cv (gi D p) (gi D q) := by
    intro p q g1 g2 g3 g4
    have hlt := hx (start - 1) fin (by omega) (by omega) h3 (by omega)
    have hb : ll cv (gi D (start - 1)) (gi D fin) := hc.not_ll (by omega) (fun e => c1 (by omega) (by omega) ((ll_of_cmp hlt).1 e))
    have l1 : p = start - 1 ∨ ll cv (gi D p) (gi D (start - 1)) := by
      by_cases e : p = start - 1
      · exact .inl e
      · exact .inr (hu p (start - 1) g1 (by omega) (by omega))
    have l2 : ll cv (gi D p) (gi D fin) := by
      rcases l1 with rfl | l1
      · exact hb
      · exact hc.trans l1 hb
    by_cases e : q = fin
    · rw [e]; exact l2
    · exact hc.trans l2 (hw fin q h3 (by omega) g4)
  have k2 : ∀ p q, start ≤ p → p < m → m ≤ q → q < fin → ll cv (gi D q) (gi D p) := by
    intro p q g1 g2 g3 g4
    have hb : ll cv (gi D (fin - 1)) (gi D start) := .inl (c2 (by omega) (by omega))
    have l2 : ll cv (gi D q) (gi D start) := by
      by_cases e : q = fin - 1
      · rw [e]; exact hb
      · exact hc.trans (hw q (fin - 1) g3 (by omega) (by omega)) hb
    by_cases e : p = start
    · rw [e]; exact l2
    · exact hc.trans l2 (hu start p h1 (by omega) g2)
  refine ⟨?_, ?_, ?_, ?_, ?_, ?_, ?_⟩
  · exact (hu.mono (Nat.le_refl _) h2).congr (fun i g1 g2 => e1 i g1 g2)
  · intro i j g1 g2 g3
    rw [e2 i g1 (by omega), e2 j (by omega) g3]
    exact hw _ _ (by omega) (by omega) (by omega)
  · intro i j g1 g2 g3
    rw [e3 i g1 (by omega), e3 j (by omega) g3]
    exact hu _ _ (by omega) (by omega) (by omega)
  · exact (hw.mono h3 (Nat.le_refl _)).congr (fun i g1 g2 => e4 i g1)
  · intro i j g1 g2 g3 g4
    rw [e1 i g1 g2, e2 j g3 g4]
    exact hx _ _ g1 (by omega) (by omega) (by omega)
  · intro i j g1 g2 g3 g4
    rw [e3 i g1 g2, e4 j g3]
    exact hx _ _ (by omega) (by omega) (by omega) g4
  · intro i j g1 g2 g3 g4
    by_cases a1 : i < start
    · rw [e1 i g1 a1]
      by_cases a2 : j < fin
      · rw [e3 j g3 a2]; exact hu _ _ g1 (by omega) (by omega)
      · rw [e4 j (by omega)]; exact k1 i j g1 a1 (by omega) g4
    · rw [e2 i (by omega) g2]
      by_cases a2 : j < fin
      · rw [e3 j g3 a2]; exact k2 _ _ (by omega) (by omega) (by omega) (by omega)
      · rw [e4 j (by omega)]; exact hw _ _ (by omega) (by omega) g4
/-- The halves sorted, the whole is. -/
theorem halves_done {cv : Int → Int → Int} {D1 D2 D3 : List Int} {a b mid : Nat} (h12 : Mv D1 D2 a mid) (h23 : Mv D2 D3 mid b) (s1 : Srt cv D2 a mid) (s2 : Srt cv D3 mid b) (hx : ∀ i j, a ≤ i → i < mid → mid ≤ j → j < b → ll cv (gi D1 i) (gi D1 j)) (h1 : a ≤ mid) (h2 : mid ≤ b) :
    Srt cv D3 a b ∧ Mv D1 D3 a b := by
  refine ⟨fun i j g1 g2 g3 => ?_, (h12.mono (Nat.le_refl _) h2).trans (h23.mono h1 (Nat.le_refl _))⟩
  by_cases a1 : j < mid
  · rw [h23.out i (by omega), h23.out j (by omega)]; exact s1 i j g1 g2 a1
  · by_cases a2 : i < mid
    · obtain ⟨j', q1, q2, q3⟩ := h23.ins j (by omega) g3
      rw [h23.out i (by omega), q3, h12.out j' (by omega)]
      obtain ⟨i', p1, p2, p3⟩ := h12.ins i g1 a2
      rw [p3]; exact hx i' j' p1 p2 q1 q2
    · exact s2 i j (by omega) g2 g3
/-- Two arrangements of the same places that are in order are one. -/
theorem srt_unique {cv : Int → Int → Int} (hc : Pre cv) {A B : List Int} (ha : Srt cv A 0 A.length) (hb : Srt cv B 0 B.length) (h : A.Perm B) : A = B := by
  have pw : ∀ {L : List Int}, Srt cv L 0 L.length → L.Pairwise (ll cv) := fun {L} hL => by
    rw [List.pairwise_iff_getElem]
    intro i j hi hj hij
    have := hL i j (Nat.zero_le _) hij hj
    rwa [gi_eq hi, gi_eq hj] at this
  exact h.eq_of_pairwise (fun x y _ _ h1 h2 => absurd h2 (hc.asym h1)) (pw ha) (pw hb)
end Go.Proofs.YtoeonplbgbgjmaaDoor
namespace Go.Proofs.YtoeonplbgbgjmaaDoor
open Go.RowKit
set_option linter.unusedVariables false
set_option linter.unusedSimpArgs false

theorem up_step {D D' : List Int} {a k : Nat} (ha : a ≤ k) (hl : k + 1 < D'.length) (h : ∀ t, gi D' t = if a ≤ t ∧ t < k then gi D (t + 1) else if t = k then gi D a else gi D t) :
    ∀ t, gi (swp D' k (k + 1)) t = if a ≤ t ∧ t < k + 1 then gi D (t + 1) else if t = k + 1 then gi D a else gi D t := by
  intro t
  rw [gi_swp (by omega) hl, h, h, h]
  by_cases e1 : t = k + 1
  · subst e1
    rw [if_pos rfl, if_neg (by omega), if_pos rfl, if_neg (by omega), if_pos rfl]
  · rw [if_neg e1]
    by_cases e2 : t = k
    · subst e2
      rw [if_pos rfl, if_neg (by omega), if_neg (by omega), if_pos (by omega)]
    · rw [if_neg e2]
      by_cases e3 : a ≤ t ∧ t < k
      · rw [if_pos e3, if_pos (by omega)]
      · rw [if_neg e3, if_neg e2, if_neg (by omega), if_neg e1]
theorem down_step {D D' : List Int} {m k : Nat} (hk : k + 1 ≤ m) (hl : k + 1 < D'.length) (h : ∀ t, gi D' t = if k + 1 < t ∧ t ≤ m then gi D (t - 1) else if t = k + 1 then gi D m else gi D t) :
    ∀ t, gi (swp D' k (k + 1)) t = if k < t ∧ t ≤ m then gi D (t - 1) else if t = k then gi D m else gi D t := by
  intro t
  rw [gi_swp (by omega) hl, h, h, h]
  by_cases e1 : t = k + 1
  · subst e1
    rw [if_pos rfl, if_neg (by omega), if_neg (by omega), if_pos (by omega)]
    congr 1
  · rw [if_neg e1]
    by_cases e2 : t = k
    · subst e2
      rw [if_pos rfl, if_neg (by omega), if_pos rfl, if_neg (by omega), if_pos rfl]
    · rw [if_neg e2]
      by_cases e3 : k + 1 < t ∧ t ≤ m
      · rw [if_pos e3, if_pos (by omega)]
      · rw [if_neg e3, if_neg e1, if_neg (by omega), if_neg e2]
/-- A call that only reads, in a quiet region, where the world has been drawn from before. -/
theorem quietC {P : Program} {f : FuncId} {args : Array Value} {w : World} {a n : Nat} {v : Value} (h : Calls P f args (w.drewN (a + n)) fun e w' => e = .returned v ∧ ∃ m, w' = (w.drewN (a + n)).drewN m) :
    Calls P f args (w.drewN (a + n)) fun e w'' => e = .returned v ∧ ∃ m, w'' = w.drewN (a + m) := h.mono fun _ _ ⟨he, m, hm⟩ => ⟨he, n + m, by rw [hm, World.drewN_drewN, Nat.add_assoc]⟩
theorem Rt.idl (D : List Int) (m q : Nat) : Rt D D m m q := fun t => by
  split
  · congr 1; omega
  · split
    · omega
    · rfl
theorem Rt.idr (D : List Int) (p m : Nat) : Rt D D p m m := fun t => by
  split
  · omega
  · split
    · congr 1; omega
    · rfl

end Go.Proofs.YtoeonplbgbgjmaaDoor
namespace Go.Proofs.YtoeonplbgbgjmaaDoor
open Go.RowKit
set_option linter.unusedVariables false
set_option linter.unusedSimpArgs false

/-- Places lo .. hi - 1 hold places of their own blocks of bs, each block in order. -/
def Lv (cv : Int → Int → Int) (D : List Int) (bs lo hi : Nat) : Prop :=
  (∀ i, lo ≤ i → i < hi → 0 ≤ gi D i ∧ (gi D i).toNat / bs = i / bs) ∧ ∀ i j, lo ≤ i → i < j → j < hi → i / bs = j / bs → ll cv (gi D i) (gi D j)
theorem Lv.none (cv : Int → Int → Int) (D : List Int) (bs lo : Nat) : Lv cv D bs lo lo := ⟨fun i h1 h2 => by omega, fun i j h1 h2 h3 => by omega⟩
/-- One more block of 20, sorted by insertion. -/
theorem Lv.first {cv : Int → Int → Int} {D D' : List Int} {a e t n : Nat} (h : Lv cv D 20 0 a) (ha : a = 20 * t) (he : a ≤ e) (he2 : e ≤ a + 20) (hen : e ≤ n) (hid : ∀ i, a ≤ i → i < n → gi D i = (i : Int)) (hm : Mv D D' a e) (hs : Srt cv D' a e) : Lv cv D' 20 0 e := by
  refine ⟨fun i h1 h2 => ?_, fun i j h1 h2 h3 h4 => ?_⟩
  · by_cases e1 : i < a
    · rw [hm.out i (.inl e1)]; exact h.1 i h1 e1
    · obtain ⟨i', g1, g2, g3⟩ := hm.ins i (by omega) h2
      rw [g3, hid i' g1 (by omega)]
      omega
  · by_cases e1 : j < a
    · rw [hm.out i (.inl (by omega)), hm.out j (.inl e1)]; exact h.2 i j h1 h2 e1 h4
    · by_cases e2 : i < a
      · omega
      · exact hs i j (by omega) h2 h3
theorem Lv.congr {cv : Int → Int → Int} {D D' : List Int} {bs lo hi : Nat} (h : Lv cv D bs lo hi) (he : ∀ i, lo ≤ i → i < hi → gi D' i = gi D i) : Lv cv D' bs lo hi :=
  ⟨fun i h1 h2 => by rw [he i h1 h2]; exact h.1 i h1 h2, fun i j h1 h2 h3 h4 => by rw [he i h1 (by omega), he j (by omega) h3]; exact h.2 i j h1 h2 h3 h4⟩
theorem Lv.mono {cv : Int → Int → Int} {D : List Int} {bs lo hi lo' hi' : Nat} (h : Lv cv D bs lo hi) (h1 : lo ≤ lo') (h2 : hi' ≤ hi) : Lv cv D bs lo' hi' :=
  ⟨fun i g1 g2 => h.1 i (by omega) (by omega), fun i j g1 g2 g3 g4 => h.2 i j (by omega) g2 (by omega) g4⟩
/-- What a merge asks of two neighbouring blocks. -/
theorem Lv.pair {cv : Int → Int → Int} {D : List Int} {bs a e n u : Nat} (hbs : bs = 20 ∨ bs = 40) (h : Lv cv D bs a n) (ha : a = 2 * bs * u) (he : e ≤ a + 2 * bs) (he1 : a + bs < e) (hen : e ≤ n) : Srt cv D a (a + bs) ∧ Srt cv D (a + bs) e ∧ Xs D a (a + bs) e := by
  rcases hbs with rfl | rfl
  · refine ⟨fun i j h1 h2 h3 => h.2 i j h1 h2 (by omega) (by omega), fun i j h1 h2 h3 => h.2 i j (by omega) h2 (by omega) (by omega), fun i j h1 h2 h3 h4 => ?_⟩
    have k1 := h.1 i h1 (by omega)
    have k2 := h.1 j (by omega) (by omega)
    omega
  · refine ⟨fun i j h1 h2 h3 => h.2 i j h1 h2 (by omega) (by omega), fun i j h1 h2 h3 => h.2 i j (by omega) h2 (by omega) (by omega), fun i j h1 h2 h3 h4 => ?_⟩
    have k1 := h.1 i h1 (by omega)
    have k2 := h.1 j (by omega) (by omega)
    omega
/-- Two blocks merged are one of the next size. -/
theorem Lv.merged {cv : Int → Int → Int} {D D' : List Int} {bs a e n u : Nat} (hbs : bs = 20 ∨ bs = 40) (h1 : Lv cv D (2 * bs) 0 a) (h : Lv cv D bs a n) (ha : a = 2 * bs * u) (he : e ≤ a + 2 * bs) (hae : a ≤ e) (hen : e ≤ n) (hm : Mv D D' a e) (hs : Srt cv D' a e) : Lv cv D' (2 * bs) 0 e ∧ Lv cv D' bs e n := by
  refine ⟨⟨fun i g1 g2 => ?_, fun i j g1 g2 g3 g4 => ?_⟩, (h.mono hae (Nat.le_refl _)).congr (fun i g1 g2 => hm.out i (.inr g1))⟩
  · by_cases e1 : i < a
    · rw [hm.out i (.inl e1)]; exact h1.1 i g1 e1
    · obtain ⟨i', k1, k2, k3⟩ := hm.ins i (by omega) g2
      have k4 := h.1 i' k1 (by omega)
      rw [k3]
      rcases hbs with rfl | rfl <;> omega
  · by_cases e1 : j < a
    · rw [hm.out i (.inl (by omega)), hm.out j (.inl e1)]; exact h1.2 i j g1 g2 e1 g4
    · by_cases e2 : i < a
      · rcases hbs with rfl | rfl <;> omega
      · exact hs i j (by omega) g2 g3
/-- A block alone at the end. -/
theorem Lv.alone {cv : Int → Int → Int} {D : List Int} {bs a n u : Nat} (hbs : bs = 20 ∨ bs = 40) (h1 : Lv cv D (2 * bs) 0 a) (h : Lv cv D bs a n) (ha : a = 2 * bs * u) (hn : n ≤ a + bs) : Lv cv D (2 * bs) 0 n := by
  refine ⟨fun i g1 g2 => ?_, fun i j g1 g2 g3 g4 => ?_⟩
  · by_cases e1 : i < a
    · exact h1.1 i g1 e1
    · have := h.1 i (by omega) g2
      rcases hbs with rfl | rfl <;> omega
  · by_cases e1 : j < a
    · exact h1.2 i j g1 g2 e1 g4
    · by_cases e2 : i < a
      · rcases hbs with rfl | rfl <;> omega
      · exact h.2 i j (by omega) g2 g3 (by rcases hbs with rfl | rfl <;> omega)
theorem Lv.whole {cv : Int → Int → Int} {D : List Int} {bs n : Nat} (h : Lv cv D bs 0 n) (hn : n ≤ bs) (hb : 0 < bs) : Srt cv D 0 n := fun i j h1 h2 h3 => h.2 i j h1 h2 h3 (by rw [Nat.div_eq_of_lt (by omega), Nat.div_eq_of_lt (by omega)])
end Go.Proofs.YtoeonplbgbgjmaaDoor
namespace Go.Proofs.YtoeonplbgbgjmaaDoor
open Go.RowKit
set_option linter.unusedVariables false
set_option linter.unusedSimpArgs false

set_option maxHeartbeats 400000 in
theorem spec_LessString_law {a b : ByteArray} {w : World} (_ : a.size ≤ maxLen) (_ : b.size ≤ maxLen) :
    Calls Tryd.prog 40 #[.string a, .string b] w fun e w' => e = .returned (.bool (Op.bytesLess a.toList b.toList)) ∧ Below w.heap.size w w' := by
  go_enter Tryd.func40, Tryd.ntmps40
  go_wp2
  go_ret
  exact ⟨rfl, Below.refl _ _⟩
set_option maxHeartbeats 400000 in
theorem impl_LessString_law {a b : ByteArray} {w : World} (_ : a.size ≤ maxLen) (_ : b.size ≤ maxLen) :
    Calls Tryd.prog 39 #[.string a, .string b] w fun e w' => e = .returned (.bool (Op.bytesLess a.toList b.toList)) ∧ Below w.heap.size w w' := by
  go_enter Tryd.func39, Tryd.ntmps39
  go_wp2
  go_ret
  exact ⟨rfl, Below.refl _ _⟩

end Go.Proofs.YtoeonplbgbgjmaaDoor
