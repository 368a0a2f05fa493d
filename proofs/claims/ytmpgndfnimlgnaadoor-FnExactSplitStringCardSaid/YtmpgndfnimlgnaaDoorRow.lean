/- Rows as the laws see them; IsValidRow. -/
import Derived.Test.YtmpgndfnimlgnaaDoorStr
import Derived.Lib.SmallJoins
namespace Go.Proofs.YtmpgndfnimlgnaaDoor
open Go.RowKit Go.ChangeShapes Go.WideShapes Go.ChangeAt Go.Joins

/-! Slices of strings in the words of the laws. -/
abbrev TStringS := List ByteArray
def DStringS (w : World) (v : Value) (x : List ByteArray) : Prop := RdS w v x
def RStringS (w : World) (v : Value) (x : List ByteArray) (F : List Nat) : Prop := (Sl w 9 v (strs x) ∧ ∀ i, i < x.length → (gs x i).size ≤ maxLen) ∧ F = v.ownBlock.toList
theorem DStringS.next {w0 w : World} {v : Value} {x : List ByteArray} (h : DStringS w0 v x) (hb : Below w0.heap.size w0 w) : DStringS w v x := RdS.below h hb
theorem DStringS.shape {w : World} {v : Value} {x : List ByteArray} (h : DStringS w v x) : ∃ ao c, v = .slice ao x.length c := RdS.shape h
theorem DStringS.len {w : World} {v : Value} {x : List ByteArray} (h : DStringS w v x) : x.length ≤ 9223372036854775807 := RdS.len h
theorem RStringS.of_block {w w' : World} {v : Value} {x : List ByteArray} {F : List Nat} (h : RStringS w v x F) (hb : ∀ b ∈ F, w'.heap[b]? = w.heap[b]?) : RStringS w' v x F := by
  obtain ⟨⟨h, hs⟩, rfl⟩ := h
  exact ⟨⟨h.of_block fun k hk => hb k (by simp [hk]), hs⟩, rfl⟩
theorem RStringS.lt {w : World} {v : Value} {x : List ByteArray} {F : List Nat} (h : RStringS w v x F) : Lt w F := by
  obtain ⟨⟨h, _⟩, rfl⟩ := h
  intro b hb
  exact h.lt b (by simpa using hb)
theorem RStringS.next {w w' : World} {v : Value} {x : List ByteArray} {F : List Nat} (h : RStringS w v x F) (hb : Below w.heap.size w w') : RStringS w' v x F :=
  h.of_block fun b hf => hb.block b (h.lt b hf)
theorem RStringS.ex {w w' : World} {v : Value} {x : List ByteArray} {F G : List Nat} (h : RStringS w v x F) (k : Ex G w w') (d : Dj F G) : RStringS w' v x F :=
  h.of_block fun b hf => k.block b (h.lt b hf) (d b hf)
theorem RStringS.rd {w : World} {v : Value} {x : List ByteArray} {F : List Nat} (h : RStringS w v x F) : RdS w v x := h.1.1.rdS h.1.2
theorem eqStringS_law {v u : Value} {x y : List ByteArray} {F G : List Nat} {w : World} (h : RStringS w v x F) (k : RStringS w u y G) :
    Calls Tryd.prog 14 #[v, u] w fun e w' => e = .returned (.bool (decide (x = y))) ∧ Below w.heap.size w w' :=
  (eqStringS_any v u x y w h.rd k.rd).mono fun _ _ ⟨he, hb⟩ => ⟨he, Below.quiet hb⟩
theorem strCell {H : Type} {enc : TypeId × Value → H} {W : World} {fuel : Nat} {u : Value} {x : DataW H × List MemPlace} (hf : DataW.trod enc Tryd.prog W 0 (fun _ => true) true fuel 28 [u] = some x) : ∃ x, DStringS W u x := by
  rcases open_strings Tryd.underlying28 Tryd.underlying9 (by kernel_rfl) hf with ⟨hcs, _⟩ | ⟨a, len, cap, ss, hcs, _, hl, hm, hz, _, hcell, hws⟩
  · simp at hcs
    subst hcs
    exact ⟨[], none, 0, rfl, Nat.le_refl _, Nat.zero_le _, fun i hi => absurd hi (by simp), fun h => absurd h (by simp)⟩
  · simp at hcs
    subst hcs
    have hz' : ss.length = cap := by simpa using hz
    have hln : (ss.take len).length = len := by simp; omega
    have hg : ∀ i, i < len → gs (ss.take len) i = ss.getD i ByteArray.empty := by
      intro i hi
      rw [gs_eq (by omega), List.getElem_take]
      simp [show i < ss.length by omega]
    refine ⟨ss.take len, some a, cap, by rw [hln], by omega, hm, fun i hi => ?_, fun hp => ?_⟩
    · rw [hg i (by omega)]
      apply hws
      have : i < ss.length := by omega
      simp [this]
    · have h0 := hcell 0 (by omega)
      have hs := spot_of_cell h0
      have h1 : (a.add 0).spot = a.spot := by unfold Addr.add; simp
      rw [h1] at hs
      have hxa : a = ⟨a.block, a.off, none⟩ := by cases a; simp_all
      refine ⟨a.block, a.off, by rw [← hxa], fun i hi => ?_⟩
      have := hcell i (by omega)
      rw [hxa, Addr.add_lit] at this
      rw [this, hg i (by omega)]
set_option maxRecDepth 100000 in
/-- A slice of strings among the arguments. -/
theorem argStringS {H : Type} {enc : TypeId × Value → H} {W : World} {base : Nat} {v : Value} {d : DataW H} {p : List MemPlace} (hval : Value.okWide Tryd.prog W .any base 28 v)
    (h : DataW.Trod enc Tryd.prog W 0 (fun _ => true) true 28 v d p) : ∃ x, DStringS W v x := by
  obtain ⟨a0, len0, cap0, rfl⟩ := okWide_slice Tryd.underlying28 hval
  obtain ⟨fuel, hf⟩ := h
  exact strCell (by simpa [Value.cells] using hf)

end Go.Proofs.YtmpgndfnimlgnaaDoor
