/- Slices of slices of bools: how they lie in memory; as an argument. -/
import Derived.Test.YtdhcpoeopooejaaIntSS
namespace Go.Proofs.Ytdhcpoeopooejaa
open Go.RowKit Go.ChangeShapes Go.WideShapes Go.ChangeAt

def gbl (x : List (List Bool)) (i : Nat) : List Bool := x.getD i []
theorem gbl_eq {x : List (List Bool)} {i : Nat} (h : i < x.length) : gbl x i = x[i] := by simp [gbl, h]
theorem gbl_snoc_lt {x : List (List Bool)} {c : List Bool} {i : Nat} (h : i < x.length) : gbl (x ++ [c]) i = gbl x i := by simp [gbl, List.getD_eq_getElem?_getD, List.getElem?_append_left h]
theorem gbl_snoc_eq {x : List (List Bool)} {c : List Bool} : gbl (x ++ [c]) x.length = c := by simp [gbl]
theorem gbl_ext {x y : List (List Bool)} (hl : x.length = y.length) (h : ∀ j, j < x.length → gbl x j = gbl y j) : x = y := by
  apply List.ext_getElem hl
  intro i h1 h2
  have := h i h1
  rwa [gbl_eq h1, gbl_eq h2] at this

/-- The elements us of a header v read as x, each in blocks of its own, none below B. -/
structure InB (w : World) (B : Nat) (v : Value) (us : List Value) (x : List (List Bool)) : Prop where
  len : us.length = x.length
  sl : ∀ i, i < x.length → Sl w 4 (gv us i) (bools (gbl x i))
  low : ∀ i, i < x.length → ∀ b, (gv us i).ownBlock = some b → B ≤ b
  hd : ∀ i, i < x.length → ∀ b, (gv us i).ownBlock = some b → v.ownBlock ≠ some b
  dj : ∀ i j, i < x.length → j < x.length → i ≠ j → ∀ b, (gv us i).ownBlock = some b → (gv us j).ownBlock ≠ some b
theorem InB.nil (w : World) (B : Nat) (v : Value) : InB w B v [] [] := ⟨rfl, fun _ h => absurd h (by simp), fun _ h => absurd h (by simp), fun _ h => absurd h (by simp), fun _ _ h => absurd h (by simp)⟩
theorem InB.lt {w : World} {B : Nat} {v : Value} {us : List Value} {x : List (List Bool)} (h : InB w B v us x) {i : Nat} (hi : i < x.length) {b : Nat} (hb : (gv us i).ownBlock = some b) : b < w.heap.size := (h.sl i hi).lt b hb
theorem InB.of_block {w w' : World} {B : Nat} {v : Value} {us : List Value} {x : List (List Bool)} (h : InB w B v us x) (hb : ∀ i, i < x.length → ∀ b, (gv us i).ownBlock = some b → w'.heap[b]? = w.heap[b]?) : InB w' B v us x :=
  ⟨h.len, fun i hi => (h.sl i hi).of_block (hb i hi), h.low, h.hd, h.dj⟩
theorem InB.snoc {w : World} {B : Nat} {v v' u : Value} {us : List Value} {x : List (List Bool)} {c : List Bool} (h : InB w B v us x) (hu : Sl w 4 u (bools c))
    (h1 : ∀ b, u.ownBlock = some b → B ≤ b ∧ v'.ownBlock ≠ some b ∧ ∀ i, i < x.length → (gv us i).ownBlock ≠ some b)
    (h2 : ∀ i, i < x.length → ∀ b, (gv us i).ownBlock = some b → v'.ownBlock ≠ some b) : InB w B v' (us ++ [u]) (x ++ [c]) := by
  have key : ∀ i, i < (x ++ [c]).length → (i < x.length ∧ gv (us ++ [u]) i = gv us i ∧ gbl (x ++ [c]) i = gbl x i) ∨ (i = x.length ∧ gv (us ++ [u]) i = u ∧ gbl (x ++ [c]) i = c) := by
    intro i hi
    simp at hi
    by_cases e : i < x.length
    · exact .inl ⟨e, gv_snoc_lt (by rw [h.len]; exact e), gbl_snoc_lt e⟩
    · have : i = x.length := by omega
      subst this
      exact .inr ⟨rfl, by rw [← h.len]; exact gv_snoc_eq, gbl_snoc_eq⟩
  refine ⟨by simp [h.len], ?_, ?_, ?_, ?_⟩
  · intro i hi
    rcases key i hi with ⟨a, e1, e2⟩ | ⟨a, e1, e2⟩
    · rw [e1, e2]; exact h.sl i a
    · rw [e1, e2]; exact hu
  · intro i hi b hb
    rcases key i hi with ⟨a, e1, e2⟩ | ⟨a, e1, e2⟩
    · rw [e1] at hb; exact h.low i a b hb
    · rw [e1] at hb; exact (h1 b hb).1
  · intro i hi b hb
    rcases key i hi with ⟨a, e1, e2⟩ | ⟨a, e1, e2⟩
    · rw [e1] at hb; exact h2 i a b hb
    · rw [e1] at hb; exact (h1 b hb).2.1
  · intro i j hi hj hij b hb
    rcases key i hi with ⟨a, e1, e2⟩ | ⟨a, e1, e2⟩ <;> rcases key j hj with ⟨a', e1', e2'⟩ | ⟨a', e1', e2'⟩
    · rw [e1] at hb; rw [e1']; exact h.dj i j a a' hij b hb
    · rw [e1] at hb; rw [e1']; intro hc; exact (h1 b hc).2.2 i a hb
    · rw [e1] at hb; rw [e1']; exact (h1 b hb).2.2 j a'
    · omega

def szToB (x : List (List Bool)) : Nat → Nat
  | 0 => 0
  | i + 1 => szToB x i + (gbl x i).length
def szBoolSS (x : List (List Bool)) : Nat := x.length + szToB x x.length
theorem szToB_le (x : List (List Bool)) (i j : Nat) (h : i ≤ j) : szToB x i ≤ szToB x j := by
  induction j with
  | zero => have : i = 0 := by omega
            subst this; exact Nat.le_refl _
  | succ j ih =>
    by_cases e : i = j + 1
    · subst e; exact Nat.le_refl _
    · have := ih (by omega)
      rw [szToB]; omega
theorem gb_ext {x y : List Bool} (hl : x.length = y.length) (h : ∀ j, j < x.length → gb x j = gb y j) : x = y := by
  apply List.ext_getElem hl
  intro i h1 h2
  have := h i h1
  rwa [gb_eq h1, gb_eq h2] at this
abbrev TBoolSS := List (List Bool)
def RBoolSS (w : World) (v : Value) (x : List (List Bool)) (F : List Nat) : Prop := ∃ us, Sl w 56 v us ∧ InB w 0 v us x ∧ F = v.ownBlock.toList ++ fbl us
theorem RBoolSS.of_block {w w' : World} {v : Value} {x : List (List Bool)} {F : List Nat} (h : RBoolSS w v x F) (hb : ∀ b ∈ F, w'.heap[b]? = w.heap[b]?) : RBoolSS w' v x F := by
  obtain ⟨us, h1, h2, rfl⟩ := h
  exact ⟨us, h1.of_block fun k hk => hb k (by simp [hk]), h2.of_block fun i hi b h => hb b (List.mem_append_right _ (mem_fbl.2 ⟨i, by rw [h2.len]; exact hi, h⟩)), rfl⟩
theorem RBoolSS.lt {w : World} {v : Value} {x : List (List Bool)} {F : List Nat} (h : RBoolSS w v x F) : Lt w F := by
  obtain ⟨us, h1, h2, rfl⟩ := h
  intro b hb
  rcases List.mem_append.1 hb with hb | hb
  · exact h1.lt b (by simpa using hb)
  · obtain ⟨i, hi, hb⟩ := mem_fbl.1 hb
    exact h2.lt (by rw [← h2.len]; exact hi) hb
theorem RBoolSS.next {w w' : World} {v : Value} {x : List (List Bool)} {F : List Nat} (h : RBoolSS w v x F) (hb : Below w.heap.size w w') : RBoolSS w' v x F :=
  h.of_block fun b hf => hb.block b (h.lt b hf)
theorem RBoolSS.ex {w w' : World} {v : Value} {x : List (List Bool)} {F G : List Nat} (h : RBoolSS w v x F) (k : Ex G w w') (d : Dj F G) : RBoolSS w' v x F :=
  h.of_block fun b hf => k.block b (h.lt b hf) (d b hf)
/-- What a call has made, in the words of the laws. -/
theorem RBoolSS.made {w w' : World} {v : Value} {us : List Value} {x : List (List Bool)} (h1 : Own w' 56 w.heap.size v us) (h2 : InB w' w.heap.size v us x) (hb : Below w.heap.size w w') :
    ∃ F, RBoolSS w' v x F ∧ Fr w.heap.size F ∧ Below w.heap.size w w' := by
  refine ⟨_, ⟨us, h1.sl, ⟨h2.len, h2.sl, fun _ _ _ _ => Nat.zero_le _, h2.hd, h2.dj⟩, rfl⟩, ?_, hb⟩
  intro b hb
  rcases List.mem_append.1 hb with hb | hb
  · exact (h1.lt b (by simpa using hb)).1
  · obtain ⟨i, hi, hb⟩ := mem_fbl.1 hb
    exact h2.low i (by rw [← h2.len]; exact hi) b hb
theorem infoBoolS : (Try.prog.info? 56).map (fun i => (i.zero, i.size, i.bytes)) = some (some (.slice none 0 0), 1, 24) := by kernel_rfl
theorem eltBoolS : EltOk 28 56 := by
  obtain ⟨i, h1, h2, h3, h4⟩ := info_parts infoBoolS
  exact ⟨i, _, 24, Try.underlying28, h1, h2, h3, h4, by omega, rfl⟩
theorem addr_plain' {w : World} {a : Addr} {v : Value} (h : w.cell? (a.add 0) = some v) : a = ⟨a.block, a.off, none⟩ := by
  have hs := spot_of_cell h
  have h1 : (a.add 0).spot = a.spot := by unfold Addr.add; simp
  rw [h1] at hs
  cases a
  simp_all
/-- A slice of bools that can be read, as it comes in. -/
def RdB (w : World) (v : Value) (xs : List Bool) : Prop :=
  ∃ ao c, v = .slice ao xs.length c ∧ xs.length ≤ c ∧ c ≤ maxLen ∧ (0 < xs.length → ∃ b off, ao = some ⟨b, off, none⟩ ∧ ∀ i, i < xs.length → w.cell? ⟨b, off + i, none⟩ = some (.bool (gb xs i)))
/-- A slice of slices of bools that can be read. -/
def RdBB (w : World) (v : Value) (x : List (List Bool)) : Prop :=
  ∃ ao c us, v = .slice ao x.length c ∧ x.length ≤ c ∧ c ≤ maxLen ∧ us.length = x.length ∧ (0 < x.length → ∃ b off, ao = some ⟨b, off, none⟩ ∧ ∀ i, i < x.length → w.cell? ⟨b, off + i, none⟩ = some (gv us i)) ∧ ∀ i, i < x.length → RdB w (gv us i) (gbl x i)
theorem Sl.openBools {w : World} {e : Nat} {v : Value} {xs : List Bool} (h : Sl w e v (bools xs)) :
    ∃ ao c, v = .slice ao xs.length c ∧ xs.length ≤ maxLen ∧ xs.length ≤ c ∧ c ≤ maxLen ∧ (0 < xs.length → ∃ b off, ao = some ⟨b, off, none⟩ ∧ Row w e b off c (bools xs)) := by
  obtain ⟨ao, c, rfl, h⟩ := h
  rcases h with ⟨rfl, h, rfl⟩ | ⟨b, off, rfl, hr⟩
  · have : xs = [] := by simpa [bools] using h
    subst this
    exact ⟨_, _, rfl, Nat.zero_le _, Nat.le_refl _, Nat.zero_le _, fun h => absurd h (by simp)⟩
  · have := hr.le
    have := hr.capLe
    rw [bools_length] at *
    exact ⟨_, _, rfl, by omega, by omega, by omega, fun _ => ⟨b, off, rfl, hr⟩⟩
theorem Sl.rdB {w : World} {e : Nat} {v : Value} {xs : List Bool} (h : Sl w e v (bools xs)) : RdB w v xs := by
  obtain ⟨ao, c, rfl, h1, h2, h3, h4⟩ := h.openBools
  exact ⟨ao, c, rfl, h2, h3, fun hp => by obtain ⟨b, off, rfl, hr⟩ := h4 hp; exact ⟨b, off, rfl, fun i hi => hr.cellBool hi⟩⟩
theorem RdB.below {w w' : World} {v : Value} {xs : List Bool} (h : RdB w v xs) (hb : Below w.heap.size w w') : RdB w' v xs := by
  obtain ⟨ao, c, rfl, h1, h2, h3⟩ := h
  refine ⟨ao, c, rfl, h1, h2, fun hp => ?_⟩
  obtain ⟨b, off, rfl, hr⟩ := h3 hp
  refine ⟨b, off, rfl, fun i hi => ?_⟩
  have := hr i hi
  rw [hb.cell (p := ⟨b, off + i, none⟩) (block_lt_of_cell this)]
  exact this
theorem RdB.drewN {w : World} {v : Value} {xs : List Bool} (h : RdB w v xs) (n : Nat) : RdB (w.drewN n) v xs := h
theorem RdBB.below {w w' : World} {v : Value} {x : List (List Bool)} (h : RdBB w v x) (hb : Below w.heap.size w w') : RdBB w' v x := by
  obtain ⟨ao, c, us, rfl, h1, h2, h3, h4, h5⟩ := h
  refine ⟨ao, c, us, rfl, h1, h2, h3, fun hp => ?_, fun i hi => (h5 i hi).below hb⟩
  obtain ⟨b, off, rfl, hr⟩ := h4 hp
  refine ⟨b, off, rfl, fun i hi => ?_⟩
  have := hr i hi
  rw [hb.cell (p := ⟨b, off + i, none⟩) (block_lt_of_cell this)]
  exact this
theorem RBoolSS.rd {w : World} {v : Value} {x : List (List Bool)} {F : List Nat} (h : RBoolSS w v x F) : RdBB w v x := by
  obtain ⟨us, h1, h2, _⟩ := h
  obtain ⟨ao, c, rfl, h3, h4, h5⟩ := h1.opened
  have hl := h2.len
  refine ⟨ao, c, us, by rw [hl], by omega, h4, hl, fun hp => ?_, fun i hi => (h2.sl i hi).rdB⟩
  obtain ⟨b, off, rfl, hr⟩ := h5 (by omega)
  exact ⟨b, off, rfl, fun i hi => by rw [hr.cell (by omega), gv_eq (by omega)]⟩
def DBoolSS (w : World) (v : Value) (x : List (List Bool)) : Prop := RdBB w v x
theorem DBoolSS.next {w0 w : World} {v : Value} {x : List (List Bool)} (h : DBoolSS w0 v x) (hb : Below w0.heap.size w0 w) : DBoolSS w v x := RdBB.below h hb
theorem DBoolSS.shape {w : World} {v : Value} {x : List (List Bool)} (h : DBoolSS w v x) : ∃ ao c, v = .slice ao x.length c := by
  obtain ⟨ao, c, us, rfl, _⟩ := h
  exact ⟨ao, c, rfl⟩
theorem boolCell {H : Type} {enc : TypeId × Value → H} {W : World} {fuel : Nat} {u : Value} {x : DataW H × List MemPlace} (hf : DataW.trod enc Try.prog W 0 (fun _ => true) true fuel 56 [u] = some x) : ∃ x, RdB W u x := by
  have hC : Try.prog.cellsOf 4 = 1 := by kernel_rfl
  rcases DataW.trod_slice Try.underlying56 hf with ⟨hcs, _⟩ | ⟨a, len, cap, elems, rest, n, _, hcs, _, _, hl, hm, hlen, hel, _, _⟩
  · simp at hcs
    subst hcs
    exact ⟨[], none, 0, rfl, Nat.le_refl _, Nat.zero_le _, fun h => absurd h (by simp)⟩
  · simp at hcs
    subst hcs
    have each : ∀ i, i < len → ∃ b : Bool, W.cell? (a.add i) = some (.bool b) := by
      intro i hi
      have he := hel i hi
      rw [hC, Nat.mul_one, List.getElem?_eq_getElem (by omega), Option.bind_eq_some_iff] at he
      obtain ⟨cs', h1, h2⟩ := he
      obtain ⟨b, rfl, _⟩ := DataW.trod_bool Try.underlying4 h2
      exact ⟨b, cell_of_cells?_one h1⟩
    let f : Nat → Bool := fun i => match W.cell? (a.add i) with | some (.bool b) => b | _ => false
    have hg : ∀ i, i < len → gb ((List.range len).map f) i = f i := by
      intro i hi
      rw [gb_eq (by simpa using hi)]
      simp
    refine ⟨(List.range len).map f, some a, cap, by simp, by simpa using hl, hm, fun hp => ?_⟩
    have hp' : 0 < len := by simpa using hp
    obtain ⟨b0, h0⟩ := each 0 hp'
    have hxa := addr_plain' h0
    refine ⟨a.block, a.off, by rw [← hxa], fun i hi => ?_⟩
    have hi' : i < len := by simpa using hi
    obtain ⟨b, hb⟩ := each i hi'
    rw [hg i hi']
    have hfi : f i = b := by simp [f, hb]
    rw [hfi, ← hb]
    conv => rhs; rw [hxa, Addr.add_lit]
set_option maxRecDepth 100000 in
/-- A slice of slices of bools among the arguments. -/
theorem argBoolSS {H : Type} {enc : TypeId × Value → H} {W : World} {base : Nat} {v : Value} {d : DataW H} {p : List MemPlace} (hval : Value.okWide Try.prog W .any base 28 v)
    (h : DataW.Trod enc Try.prog W 0 (fun _ => true) true 28 v d p) : ∃ x, DBoolSS W v x := by
  obtain ⟨a0, len0, cap0, rfl⟩ := okWide_slice Try.underlying28 hval
  obtain ⟨fuel, hf⟩ := h
  have hC : Try.prog.cellsOf 56 = 1 := by kernel_rfl
  rcases DataW.trod_slice Try.underlying28 hf with ⟨hcs, _⟩ | ⟨a, len, cap, elems, rest, n, _, hcs, _, _, hl, hm, hlen, hel, _, _⟩
  · simp [Value.cells] at hcs
    obtain ⟨rfl, rfl, rfl⟩ := hcs
    exact ⟨[], none, 0, [], rfl, Nat.le_refl _, Nat.zero_le _, rfl, fun h => absurd h (by simp), fun i hi => absurd hi (by simp)⟩
  · simp [Value.cells] at hcs
    obtain ⟨rfl, rfl, rfl⟩ := hcs
    have each : ∀ i, ∃ (u : Value) (y : List Bool), i < len0 → W.cell? (a.add i) = some u ∧ RdB W u y := by
      intro i
      by_cases hi : i < len0
      · have he := hel i hi
        rw [hC, Nat.mul_one, List.getElem?_eq_getElem (by omega), Option.bind_eq_some_iff] at he
        obtain ⟨cs', h1, h2⟩ := he
        obtain ⟨u, rfl⟩ : ∃ u, cs' = [u] := by
          have := (World.cells?_some h1).2.1
          match cs', this with
          | [u], _ => exact ⟨u, rfl⟩
        obtain ⟨y, hy⟩ := boolCell h2
        exact ⟨u, y, fun _ => ⟨cell_of_cells?_one h1, hy⟩⟩
      · exact ⟨.bool false, [], fun h => absurd h hi⟩
    obtain ⟨f, hf⟩ := Classical.axiomOfChoice each
    obtain ⟨g, hg⟩ := Classical.axiomOfChoice hf
    have e1 : ∀ i, i < len0 → gv ((List.range len0).map f) i = f i := fun i hi => by rw [gv_eq (by simpa using hi)]; simp
    have e2 : ∀ i, i < len0 → gbl ((List.range len0).map g) i = g i := fun i hi => by rw [gbl_eq (by simpa using hi)]; simp
    refine ⟨(List.range len0).map g, some a, cap0, (List.range len0).map f, by simp, by simpa using hl, hm, by simp, fun hp => ?_, fun i hi => ?_⟩
    · have hp' : 0 < len0 := by simpa using hp
      have hxa := addr_plain' (hg 0 hp').1
      refine ⟨a.block, a.off, by rw [← hxa], fun i hi => ?_⟩
      have hi' : i < len0 := by simpa using hi
      rw [e1 i hi', ← (hg i hi').1]
      conv => rhs; rw [hxa, Addr.add_lit]
    · have hi' : i < len0 := by simpa using hi
      rw [e1 i hi', e2 i hi']
      exact (hg i hi').2
end Go.Proofs.Ytdhcpoeopooejaa
