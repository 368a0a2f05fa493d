/- What the laws' frames share: a slice of ints that came in, as this seat's walks read it; facts carried from world to world. -/
import Derived.Test.YtdhcpoeopooejaaBase
import Derived.ProofKit
import Derived.OpenShut
import Derived.ShutString
import Derived.ChangeOld
import Derived.Below
namespace Go.Proofs.Ytdhcpoeopooejaa
open Go.ChangeShapes Go.WideShapes Go.ChangeAt Go.RowKit

theorem own : ownKnob Try.prog.godebug = none := by kernel_rfl
theorem laidOut : laidOutB Try.prog = true := by kernel_rfl

/-- A slice of integers that came in: it is nil; or it leads to a row of 'cap' cells, the numbers 'zs' (the first 'len' are its elements, the rest its spare room), each fitting its kind. -/
def IsRow (k : IntKind) (w : World) (a : Option Addr) (len cap : Nat) (zs : List Int) : Prop :=
  (a = none ∧ len = 0 ∧ cap = 0 ∧ zs = []) ∨
  ∃ x, a = some x ∧ len ≤ cap ∧ cap ≤ maxLen ∧ zs.length = cap ∧ (∀ i, i < zs.length → w.cell? (x.add i) = some (.int k (zs.getD i 0))) ∧ ∀ n ∈ zs, (Lit.int k n).wf = true
/-- Each number fits 64 bits. -/
def I64s (xs : List Int) : Prop := ∀ i, i < xs.length → -9223372036854775808 ≤ gi xs i ∧ gi xs i ≤ 9223372036854775807
theorem spot_of_cell {w : World} {a : Addr} {v : Value} (h : w.cell? a = some v) : a.spot = none := by
  unfold World.cell? at h
  split at h
  · split at h
    · cases h
    · rename_i hs
      simpa using hs
  · cases h
theorem IsRow.rd {w : World} {a : Option Addr} {len cap : Nat} {zs : List Int} (h : IsRow .i64 w a len cap zs) : ∃ xs, Rd w (.slice a len cap) xs ∧ I64s xs := by
  rcases h with ⟨rfl, rfl, rfl, rfl⟩ | ⟨x, rfl, hl, hm, hz, hc, hw⟩
  · exact ⟨[], ⟨none, 0, rfl, Nat.le_refl _, Nat.zero_le _, fun h => absurd h (by simp)⟩, fun i hi => absurd hi (by simp)⟩
  · have hlen : (zs.take len).length = len := by simp; omega
    refine ⟨zs.take len, ⟨some x, cap, by rw [hlen], by omega, hm, fun hp => ?_⟩, fun i hi => ?_⟩
    · have hs := spot_of_cell (hc 0 (by omega))
      have hx : x = ⟨x.block, x.off, none⟩ := by
        have : x.spot = none := by
          have h0 : (x.add 0).spot = x.spot := by unfold Addr.add; split <;> simp_all
          rw [← h0]; exact hs
        cases x
        simp_all
      refine ⟨x.block, x.off, by rw [← hx], fun i hi => ?_⟩
      have := hc i (by omega)
      rw [hx, Addr.add_lit] at this
      rw [this]
      have hi' : i < len := by omega
      rw [gi_eq hi, List.getElem_take]
      simp [show i < zs.length by omega]
    · rw [gi_eq hi, List.getElem_take]
      have := hw _ (List.getElem_mem (l := zs) (n := i) (by omega))
      exact bounds_i64 this

theorem Below.next {w0 w w' : World} (h : Below w0.heap.size w0 w) (hb : Below w.heap.size w w') : Below w0.heap.size w0 w' := h.trans (hb.mono h.size)
theorem Below.quiet {w w' : World} (h : ∃ q, w' = w.drewN q) : Below w.heap.size w w' := by obtain ⟨q, rfl⟩ := h; exact Below.drewN (Below.refl _ _) q
theorem Rd.next {w0 w : World} {v : Value} {xs : List Int} (h : Rd w0 v xs) (hb : Below w0.heap.size w0 w) : Rd w v xs := h.below hb

/-! What a value occupies: the blocks F. -/
/-- All blocks of F are new since B. -/
def Fr (B : Nat) (F : List Nat) : Prop := ∀ b ∈ F, B ≤ b
/-- All blocks of F are there. -/
def Lt (w : World) (F : List Nat) : Prop := ∀ b ∈ F, b < w.heap.size
/-- F and G share no block. -/
def Dj (F G : List Nat) : Prop := ∀ b ∈ F, ¬ b ∈ G
theorem Dj.symm {F G : List Nat} (h : Dj F G) : Dj G F := fun b hb hf => h b hf hb
theorem Dj.of {w : World} {F G : List Nat} (h : Lt w F) (k : Fr w.heap.size G) : Dj F G := fun b hb hg => by have := h b hb; have := k b hg; omega
theorem Fr.of {w0 w : World} {F : List Nat} (h : Below w0.heap.size w0 w) (k : Fr w.heap.size F) : Fr w0.heap.size F := fun b hb => Nat.le_trans h.size (k b hb)
theorem Fr.le {A B : Nat} {F : List Nat} (h : A ≤ B) (k : Fr B F) : Fr A F := fun b hb => Nat.le_trans h (k b hb)
/-- Of what was there, the blocks F alone may have been written. -/
structure Ex (F : List Nat) (w w' : World) : Prop where
  os : w'.os = w.os
  tape : w'.tape = w.tape
  output : w'.output = w.output
  size : w.heap.size ≤ w'.heap.size
  block : ∀ k, k < w.heap.size → ¬ k ∈ F → w'.heap[k]? = w.heap[k]?
theorem Ex.refl (F : List Nat) (w : World) : Ex F w w := ⟨rfl, rfl, rfl, Nat.le_refl _, fun _ _ _ => rfl⟩
theorem Ex.trans {F : List Nat} {a b c : World} (h : Ex F a b) (k : Ex F b c) : Ex F a c :=
  ⟨k.os.trans h.os, k.tape.trans h.tape, k.output.trans h.output, Nat.le_trans h.size k.size, fun i hi hf => (k.block i (Nat.lt_of_lt_of_le hi h.size) hf).trans (h.block i hi hf)⟩
theorem Ex.mono {F G : List Nat} {a b : World} (h : Ex F a b) (hs : ∀ x ∈ F, x ∈ G) : Ex G a b :=
  ⟨h.os, h.tape, h.output, h.size, fun i hi hf => h.block i hi fun k => hf (hs i k)⟩
theorem Ex.of_below {F : List Nat} {a b : World} (h : Below a.heap.size a b) : Ex F a b := ⟨h.os, h.tape, h.output, h.size, fun i hi _ => h.block i hi⟩
theorem Ex.of_grown {v : Value} {a b : World} (h : a.grownBy b v.ownBlock) : Ex v.ownBlock.toList a b :=
  ⟨h.os, h.tape, h.output, h.size, fun i hi hf => h.block i hi (fun e => hf (by simp [← e]))⟩
theorem Ex.setIn {F : List Nat} {a b : World} (h : Ex F a b) {p : Addr} (hp : p.block ∈ F) {v : Value} : Ex F a (b.setCell p v) :=
  ⟨h.os, h.tape, h.output, by simpa [World.setCell] using h.size, fun k hk hr => (heap_setCell_other b p k v (by rintro rfl; exact hr hp)).trans (h.block k hk hr)⟩
theorem Ex.drewN {F : List Nat} {a b : World} (h : Ex F a b) (n : Nat) : Ex F a (b.drewN n) := ⟨h.os, h.tape, h.output, h.size, h.block⟩
theorem Below.ex {F : List Nat} {w0 w w' : World} (h : Below w0.heap.size w0 w) (k : Ex F w w') (f : Fr w0.heap.size F) : Below w0.heap.size w0 w' :=
  h.trans ⟨k.os, k.tape, k.output, k.size, fun i hi => k.block i (Nat.lt_of_lt_of_le hi h.size) (fun hf => by have := f i hf; omega)⟩

/-! A slice of ints as the laws see it. -/
abbrev TIntS := List Int
def DIntS (w : World) (v : Value) (x : List Int) : Prop := Rd w v x ∧ I64s x
def RIntS (w : World) (v : Value) (x : List Int) (F : List Nat) : Prop := Sl w 3 v (ints x) ∧ F = v.ownBlock.toList
theorem DIntS.next {w0 w : World} {v : Value} {x : List Int} (h : DIntS w0 v x) (hb : Below w0.heap.size w0 w) : DIntS w v x := ⟨h.1.below hb, h.2⟩
theorem DIntS.len {w : World} {v : Value} {x : List Int} (h : DIntS w v x) : x.length ≤ 9223372036854775807 := by
  obtain ⟨⟨ao, c, rfl, h1, h2, _⟩, _⟩ := h
  unfold maxLen at h2
  omega
theorem DIntS.shape {w : World} {v : Value} {x : List Int} (h : DIntS w v x) : ∃ ao c, v = .slice ao x.length c := by
  obtain ⟨⟨ao, c, rfl, _⟩, _⟩ := h
  exact ⟨ao, c, rfl⟩
theorem RIntS.of_block {w w' : World} {v : Value} {x : List Int} {F : List Nat} (h : RIntS w v x F) (hb : ∀ b ∈ F, w'.heap[b]? = w.heap[b]?) : RIntS w' v x F := by
  obtain ⟨h, rfl⟩ := h
  exact ⟨h.of_block fun k hk => hb k (by simp [hk]), rfl⟩
theorem RIntS.lt {w : World} {v : Value} {x : List Int} {F : List Nat} (h : RIntS w v x F) : Lt w F := by
  obtain ⟨h, rfl⟩ := h
  intro b hb
  exact h.lt b (by simpa using hb)
theorem RIntS.next {w w' : World} {v : Value} {x : List Int} {F : List Nat} (h : RIntS w v x F) (hb : Below w.heap.size w w') : RIntS w' v x F :=
  h.of_block fun b hf => hb.block b (h.lt b hf)
theorem RIntS.ex {w w' : World} {v : Value} {x : List Int} {F G : List Nat} (h : RIntS w v x F) (k : Ex G w w') (d : Dj F G) : RIntS w' v x F :=
  h.of_block fun b hf => k.block b (h.lt b hf) (d b hf)
theorem RIntS.rd {w : World} {v : Value} {x : List Int} {F : List Nat} (h : RIntS w v x F) : Rd w v x := h.1.rd

set_option maxRecDepth 100000 in
/-- A slice of ints among the arguments. -/
theorem argIntS {H : Type} {enc : TypeId × Value → H} {W : World} {base : Nat} {v : Value} {d : DataW H} {p : List MemPlace} (hval : Value.okWide Try.prog W .any base 22 v)
    (h : DataW.Trod enc Try.prog W 0 (fun _ => true) true 22 v d p) : ∃ x, DIntS W v x := by
  obtain ⟨a0, len0, cap0, rfl⟩ := okWide_slice Try.underlying22 hval
  obtain ⟨z0, w0⟩ : ∃ zs, IsRow .i64 W a0 len0 cap0 zs := by
    obtain ⟨fuel, hf⟩ := h
    rcases open_ints Try.underlying22 Try.underlying3 (by kernel_rfl) hf with ⟨hcs, _⟩ | ⟨x, l, c, zs, hcs, _, hl, hm, hz, _, hcell, hwz⟩
    · simp [Value.cells] at hcs
      obtain ⟨rfl, rfl, rfl⟩ := hcs
      exact ⟨[], .inl ⟨rfl, rfl, rfl, rfl⟩⟩
    · simp [Value.cells] at hcs
      obtain ⟨rfl, rfl, rfl⟩ := hcs
      exact ⟨zs, .inr ⟨_, rfl, hl, hm, by simpa using hz, hcell, hwz⟩⟩
  obtain ⟨xs, h1, h2⟩ := w0.rd
  exact ⟨xs, h1, h2⟩
end Go.Proofs.Ytdhcpoeopooejaa
