/- Slices of rows: how they lie in memory; as an argument. -/
import Derived.Test.YtoeonplbgbgjmaaDoorIntSS
import Derived.Test.YtoeonplbgbgjmaaDoorMg5
import Derived.Test.YtoeonplbgbgjmaaDoorMg8
namespace Go.Proofs.YtoeonplbgbgjmaaDoor
open Go.RowKit Go.ChangeShapes Go.WideShapes Go.ChangeAt Go.Joins

theorem gf_snoc_lt {x : List (List ByteArray)} {c : List ByteArray} {i : Nat} (h : i < x.length) : gf (x ++ [c]) i = gf x i := by simp [gf, List.getD_eq_getElem?_getD, List.getElem?_append_left h]
theorem gf_snoc_eq {x : List (List ByteArray)} {c : List ByteArray} : gf (x ++ [c]) x.length = c := by simp [gf]
theorem gf_ext {x y : List (List ByteArray)} (hl : x.length = y.length) (h : ∀ j, j < x.length → gf x j = gf y j) : x = y := by
  apply List.ext_getElem hl
  intro i h1 h2
  have := h i h1
  rwa [gf_eq h1, gf_eq h2] at this
theorem gf_set {x : List (List ByteArray)} {k q : Nat} {c : List ByteArray} (hk : k < x.length) : gf (x.set k c) q = if k = q then c else gf x q := by
  unfold gf
  rw [List.getD_eq_getElem?_getD, List.getElem?_set, List.getD_eq_getElem?_getD]
  by_cases h : k = q
  · subst h; simp [hk]
  · simp [h]
/-- The rows us of a header v read as x, each in blocks of its own, none below B. -/
structure InR (w : World) (B : Nat) (v : Value) (us : List Value) (x : List (List ByteArray)) : Prop where
  len : us.length = x.length
  sl : ∀ i, i < x.length → RStringS w (gv us i) (gf x i) (gv us i).ownBlock.toList
  low : ∀ i, i < x.length → ∀ b, (gv us i).ownBlock = some b → B ≤ b
  hd : ∀ i, i < x.length → ∀ b, (gv us i).ownBlock = some b → v.ownBlock ≠ some b
  dj : ∀ i j, i < x.length → j < x.length → i ≠ j → ∀ b, (gv us i).ownBlock = some b → (gv us j).ownBlock ≠ some b
theorem InR.nil (w : World) (B : Nat) (v : Value) : InR w B v [] [] := ⟨rfl, fun _ h => absurd h (by simp), fun _ h => absurd h (by simp), fun _ h => absurd h (by simp), fun _ _ h => absurd h (by simp)⟩
theorem InR.lt {w : World} {B : Nat} {v : Value} {us : List Value} {x : List (List ByteArray)} (h : InR w B v us x) {i : Nat} (hi : i < x.length) {b : Nat} (hb : (gv us i).ownBlock = some b) : b < w.heap.size := (h.sl i hi).lt b (by simp [hb])
theorem InR.of_block {w w' : World} {B : Nat} {v : Value} {us : List Value} {x : List (List ByteArray)} (h : InR w B v us x) (hb : ∀ i, i < x.length → ∀ b, (gv us i).ownBlock = some b → w'.heap[b]? = w.heap[b]?) : InR w' B v us x :=
  ⟨h.len, fun i hi => (h.sl i hi).of_block (fun b hb2 => hb i hi b (by simpa using hb2)), h.low, h.hd, h.dj⟩
theorem InR.below {w w' : World} {B : Nat} {v : Value} {us : List Value} {x : List (List ByteArray)} (h : InR w B v us x) (hb : Below w.heap.size w w') : InR w' B v us x :=
  h.of_block fun _ hi b hq => hb.block b (h.lt hi hq)
theorem InR.snoc {w : World} {B : Nat} {v v' u : Value} {us : List Value} {x : List (List ByteArray)} {c : List ByteArray} (h : InR w B v us x) (hu : RStringS w u c u.ownBlock.toList)
    (h1 : ∀ b, u.ownBlock = some b → B ≤ b ∧ v'.ownBlock ≠ some b ∧ ∀ i, i < x.length → (gv us i).ownBlock ≠ some b)
    (h2 : ∀ i, i < x.length → ∀ b, (gv us i).ownBlock = some b → v'.ownBlock ≠ some b) : InR w B v' (us ++ [u]) (x ++ [c]) := by
  have key : ∀ i, i < (x ++ [c]).length → (i < x.length ∧ gv (us ++ [u]) i = gv us i ∧ gf (x ++ [c]) i = gf x i) ∨ (i = x.length ∧ gv (us ++ [u]) i = u ∧ gf (x ++ [c]) i = c) := by
    intro i hi
    simp at hi
    by_cases e : i < x.length
    · exact .inl ⟨e, gv_snoc_lt (by rw [h.len]; exact e), gf_snoc_lt e⟩
    · have : i = x.length := by omega
      subst this
      exact .inr ⟨rfl, by rw [← h.len]; exact gv_snoc_eq, gf_snoc_eq⟩
  refine ⟨by simp [h.len], ?_, ?_, ?_, ?_⟩
  · intro i hi
    rcases key i hi with ⟨a, e1, e2⟩ | ⟨a, e1, e2⟩
    · rw [e1, e2]; exact h.sl i a
    · rw [e1, e2]; exact hu
  · intro i hi b hb
    rcases key i hi with ⟨a, e1, e2⟩ | ⟨a, e1, e2⟩
    · rw [e1] at hb; exact h.low i a b hb
    · rw [e1] at hb; exact (h1 b hb).1
  · intro i hi b hb
    rcases key i hi with ⟨a, e1, e2⟩ | ⟨a, e1, e2⟩
    · rw [e1] at hb; exact h2 i a b hb
    · rw [e1] at hb; exact (h1 b hb).2.1
  · intro i j hi hj hij b hb
    rcases key i hi with ⟨a, e1, e2⟩ | ⟨a, e1, e2⟩ <;> rcases key j hj with ⟨a', e1', e2'⟩ | ⟨a', e1', e2'⟩
    · rw [e1] at hb; rw [e1']; exact h.dj i j a a' hij b hb
    · rw [e1] at hb; rw [e1']; intro hc; exact (h1 b hc).2.2 i a hb
    · rw [e1] at hb; rw [e1']; exact (h1 b hb).2.2 j a'
    · omega

def szToR (x : List (List ByteArray)) : Nat → Nat
  | 0 => 0
  | i + 1 => szToR x i + szRow (gf x i)
def szRowS (x : List (List ByteArray)) : Nat := x.length + szToR x x.length
theorem szToR_le (x : List (List ByteArray)) (i j : Nat) (h : i ≤ j) : szToR x i ≤ szToR x j := by
  induction j with
  | zero => have : i = 0 := by omega
            subst this; exact Nat.le_refl _
  | succ j ih =>
    by_cases e : i = j + 1
    · subst e; exact Nat.le_refl _
    · have := ih (by omega)
      rw [szToR]; omega
abbrev TRowS := List (List ByteArray)
def RRowS (w : World) (v : Value) (x : List (List ByteArray)) (F : List Nat) : Prop := ∃ us, Sl w 40 v us ∧ InR w 0 v us x ∧ F = v.ownBlock.toList ++ fbl us
theorem RRowS.of_block {w w' : World} {v : Value} {x : List (List ByteArray)} {F : List Nat} (h : RRowS w v x F) (hb : ∀ b ∈ F, w'.heap[b]? = w.heap[b]?) : RRowS w' v x F := by
  obtain ⟨us, h1, h2, rfl⟩ := h
  exact ⟨us, h1.of_block fun k hk => hb k (by simp [hk]), h2.of_block fun i hi b h => hb b (List.mem_append_right _ (mem_fbl.2 ⟨i, by rw [h2.len]; exact hi, h⟩)), rfl⟩
theorem RRowS.lt {w : World} {v : Value} {x : List (List ByteArray)} {F : List Nat} (h : RRowS w v x F) : Lt w F := by
  obtain ⟨us, h1, h2, rfl⟩ := h
  intro b hb
  rcases List.mem_append.1 hb with hb | hb
  · exact h1.lt b (by simpa using hb)
  · obtain ⟨i, hi, hb⟩ := mem_fbl.1 hb
    exact h2.lt (by rw [← h2.len]; exact hi) hb
theorem RRowS.next {w w' : World} {v : Value} {x : List (List ByteArray)} {F : List Nat} (h : RRowS w v x F) (hb : Below w.heap.size w w') : RRowS w' v x F :=
  h.of_block fun b hf => hb.block b (h.lt b hf)
theorem RRowS.ex {w w' : World} {v : Value} {x : List (List ByteArray)} {F G : List Nat} (h : RRowS w v x F) (k : Ex G w w') (d : Dj F G) : RRowS w' v x F :=
  h.of_block fun b hf => k.block b (h.lt b hf) (d b hf)
/-- What a call has made, in the words of the laws. -/
theorem RRowS.made {w w' : World} {v : Value} {us : List Value} {x : List (List ByteArray)} (h1 : Own w' 40 w.heap.size v us) (h2 : InR w' w.heap.size v us x) (hb : Below w.heap.size w w') :
    ∃ F, RRowS w' v x F ∧ Fr w.heap.size F ∧ Below w.heap.size w w' := by
  refine ⟨_, ⟨us, h1.sl, ⟨h2.len, h2.sl, fun _ _ _ _ => Nat.zero_le _, h2.hd, h2.dj⟩, rfl⟩, ?_, hb⟩
  intro b hb
  rcases List.mem_append.1 hb with hb | hb
  · exact (h1.lt b (by simpa using hb)).1
  · obtain ⟨i, hi, hb⟩ := mem_fbl.1 hb
    exact h2.low i (by rw [← h2.len]; exact hi) b hb
theorem infoRow : (Tryd.prog.info? 40).map (fun i => (i.zero, i.size, i.bytes)) = some (some (.agg #[.slice none 0 0]), 1, 24) := by kernel_rfl
theorem addr_plainR {w : World} {a : Addr} {v : Value} (h : w.cell? (a.add 0) = some v) : a = ⟨a.block, a.off, none⟩ := by
  have hs := spot_of_cell h
  have h1 : (a.add 0).spot = a.spot := by unfold Addr.add; simp
  rw [h1] at hs
  cases a
  simp_all
/-- A slice of rows that can be read. -/
def RdRR (w : World) (v : Value) (x : List (List ByteArray)) : Prop :=
  ∃ ao c us, v = .slice ao x.length c ∧ x.length ≤ c ∧ c ≤ maxLen ∧ us.length = x.length ∧ (0 < x.length → ∃ b off, ao = some ⟨b, off, none⟩ ∧ ∀ i, i < x.length → w.cell? ⟨b, off + i, none⟩ = some (gv us i)) ∧ ∀ i, i < x.length → RdS w (gv us i) (gf x i)
theorem RdRR.below {w w' : World} {v : Value} {x : List (List ByteArray)} (h : RdRR w v x) (hb : Below w.heap.size w w') : RdRR w' v x := by
  obtain ⟨ao, c, us, rfl, h1, h2, h3, h4, h5⟩ := h
  refine ⟨ao, c, us, rfl, h1, h2, h3, fun hp => ?_, fun i hi => (h5 i hi).below hb⟩
  obtain ⟨b, off, rfl, hr⟩ := h4 hp
  refine ⟨b, off, rfl, fun i hi => ?_⟩
  have := hr i hi
  rw [hb.cell (p := ⟨b, off + i, none⟩) (block_lt_of_cell this)]
  exact this
theorem RRowS.rd {w : World} {v : Value} {x : List (List ByteArray)} {F : List Nat} (h : RRowS w v x F) : RdRR w v x := by
  obtain ⟨us, h1, h2, _⟩ := h
  obtain ⟨ao, c, rfl, h3, h4, h5⟩ := h1.opened
  have hl := h2.len
  refine ⟨ao, c, us, by rw [hl], by omega, h4, hl, fun hp => ?_, fun i hi => (h2.sl i hi).rd⟩
  obtain ⟨b, off, rfl, hr⟩ := h5 (by omega)
  exact ⟨b, off, rfl, fun i hi => by rw [hr.cell (by omega), gv_eq (by omega)]⟩
def DRowS (w : World) (v : Value) (x : List (List ByteArray)) : Prop := RdRR w v x
theorem DRowS.next {w0 w : World} {v : Value} {x : List (List ByteArray)} (h : DRowS w0 v x) (hb : Below w0.heap.size w0 w) : DRowS w v x := RdRR.below h hb
theorem DRowS.shape {w : World} {v : Value} {x : List (List ByteArray)} (h : DRowS w v x) : ∃ ao c, v = .slice ao x.length c := by
  obtain ⟨ao, c, us, rfl, _⟩ := h
  exact ⟨ao, c, rfl⟩
theorem rowCell {H : Type} {enc : TypeId × Value → H} {W : World} {fuel : Nat} {u : Value} {x : DataW H × List MemPlace} (hf : DataW.trod enc Tryd.prog W 0 (fun _ => true) true fuel 36 [u] = some x) : ∃ x, RdS W u x := by
  obtain ⟨y0, n, hx, _, h0⟩ := trod_struct1 Tryd.underlying36 hf
  have hC2 : Tryd.prog.cellsOf 34 = 1 := by kernel_rfl
  exact strCell (u := u) (by simpa [Value.cells, hC2] using h0)
set_option maxRecDepth 100000 in
/-- A slice of rows among the arguments. -/
theorem argRowS {H : Type} {enc : TypeId × Value → H} {W : World} {base : Nat} {v : Value} {d : DataW H} {p : List MemPlace} (hval : Value.okWide Tryd.prog W .any base 44 v)
    (h : DataW.Trod enc Tryd.prog W 0 (fun _ => true) true 44 v d p) : ∃ x, DRowS W v x := by
  obtain ⟨a0, len0, cap0, rfl⟩ := okWide_slice Tryd.underlying44 hval
  obtain ⟨fuel, hf⟩ := h
  have hC : Tryd.prog.cellsOf 36 = 1 := by kernel_rfl
  rcases DataW.trod_slice Tryd.underlying44 hf with ⟨hcs, _⟩ | ⟨a, len, cap, elems, rest, n, _, hcs, _, _, hl, hm, hlen, hel, _, _⟩
  · simp [Value.cells] at hcs
    obtain ⟨rfl, rfl, rfl⟩ := hcs
    exact ⟨[], none, 0, [], rfl, Nat.le_refl _, Nat.zero_le _, rfl, fun h => absurd h (by simp), fun i hi => absurd hi (by simp)⟩
  · simp [Value.cells] at hcs
    obtain ⟨rfl, rfl, rfl⟩ := hcs
    have each : ∀ i, ∃ (u : Value) (y : List ByteArray), i < len0 → W.cell? (a.add i) = some u ∧ RdS W u y := by
      intro i
      by_cases hi : i < len0
      · have he := hel i hi
        rw [hC, Nat.mul_one, List.getElem?_eq_getElem (by omega), Option.bind_eq_some_iff] at he
        obtain ⟨cs', h1, h2⟩ := he
        obtain ⟨u, rfl⟩ : ∃ u, cs' = [u] := by
          have := (World.cells?_some h1).2.1
          match cs', this with
          | [u], _ => exact ⟨u, rfl⟩
        obtain ⟨y, hy⟩ := rowCell h2
        exact ⟨u, y, fun _ => ⟨cell_of_cells?_one h1, hy⟩⟩
      · exact ⟨.bool false, [], fun h => absurd h hi⟩
    obtain ⟨f, hf⟩ := Classical.axiomOfChoice each
    obtain ⟨g, hg⟩ := Classical.axiomOfChoice hf
    have e1 : ∀ i, i < len0 → gv ((List.range len0).map f) i = f i := fun i hi => by rw [gv_eq (by simpa using hi)]; simp
    have e2 : ∀ i, i < len0 → gf ((List.range len0).map g) i = g i := fun i hi => by rw [gf_eq (by simpa using hi)]; simp
    refine ⟨(List.range len0).map g, some a, cap0, (List.range len0).map f, by simp, by simpa using hl, hm, by simp, fun hp => ?_, fun i hi => ?_⟩
    · have hp' : 0 < len0 := by simpa using hp
      have hxa := addr_plainR (hg 0 hp').1
      refine ⟨a.block, a.off, by rw [← hxa], fun i hi => ?_⟩
      have hi' : i < len0 := by simpa using hi
      rw [e1 i hi', ← (hg i hi').1]
      conv => rhs; rw [hxa, Addr.add_lit]
    · have hi' : i < len0 := by simpa using hi
      rw [e1 i hi', e2 i hi']
      exact (hg i hi').2
end Go.Proofs.YtoeonplbgbgjmaaDoor
