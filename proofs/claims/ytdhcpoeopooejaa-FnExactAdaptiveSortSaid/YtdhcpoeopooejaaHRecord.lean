/- Slices of records as the laws see them. -/
import Derived.Test.YtdhcpoeopooejaaRec
import Derived.Deep.SlicePairs
namespace Go.Proofs.Ytdhcpoeopooejaa
open Go.RowKit Go.ChangeShapes Go.WideShapes Go.ChangeAt Go.Deep

abbrev TRecordS := List (Int × Int)
def szRecordS (x : List (Int × Int)) : Nat := x.length
def DRecordS (w : World) (v : Value) (x : List (Int × Int)) : Prop := RdR w v x
def ownL (v : Value) : List Nat := v.ownBlock.toList
def RRecordS (w : World) (v : Value) (x : List (Int × Int)) (F : List Nat) : Prop := SlR w v x ∧ F = v.ownBlock.toList
theorem DRecordS.next {w0 w : World} {v : Value} {x : List (Int × Int)} (h : DRecordS w0 v x) (hb : Below w0.heap.size w0 w) : DRecordS w v x := RdR.below h hb
theorem DRecordS.shape {w : World} {v : Value} {x : List (Int × Int)} (h : DRecordS w v x) : ∃ ao c, v = .slice ao x.length c := by
  obtain ⟨ao, c, rfl, _⟩ := h
  exact ⟨ao, c, rfl⟩
theorem SlR.of_block {w w' : World} {v : Value} {x : List (Int × Int)} (h : SlR w v x) (hb : ∀ k, v.ownBlock = some k → w'.heap[k]? = w.heap[k]?) : SlR w' v x := by
  obtain ⟨ao, c, rfl, h⟩ := h
  refine ⟨ao, c, rfl, ?_⟩
  rcases h with h | ⟨b, off, rfl, hc, hr⟩
  · exact .inl h
  · exact .inr ⟨b, off, rfl, hc, hr.of_block (hb b rfl)⟩
theorem SlR.lt {w : World} {v : Value} {x : List (Int × Int)} (h : SlR w v x) : ∀ k, v.ownBlock = some k → k < w.heap.size := by
  obtain ⟨ao, c, rfl, h⟩ := h
  intro k hk
  rcases h with ⟨rfl, _⟩ | ⟨b, off, rfl, hc, hr⟩
  · simp [Value.ownBlock] at hk
  · simp [Value.ownBlock] at hk
    subst hk
    exact hr.lt
theorem RRecordS.of_block {w w' : World} {v : Value} {x : List (Int × Int)} {F : List Nat} (h : RRecordS w v x F) (hb : ∀ b ∈ F, w'.heap[b]? = w.heap[b]?) : RRecordS w' v x F := by
  obtain ⟨h, rfl⟩ := h
  exact ⟨h.of_block fun k hk => hb k (by simp [hk]), rfl⟩
theorem RRecordS.lt {w : World} {v : Value} {x : List (Int × Int)} {F : List Nat} (h : RRecordS w v x F) : Lt w F := by
  obtain ⟨h, rfl⟩ := h
  intro b hb
  exact h.lt b (by simpa using hb)
theorem RRecordS.next {w w' : World} {v : Value} {x : List (Int × Int)} {F : List Nat} (h : RRecordS w v x F) (hb : Below w.heap.size w w') : RRecordS w' v x F :=
  h.of_block fun b hf => hb.block b (h.lt b hf)
theorem RRecordS.ex {w w' : World} {v : Value} {x : List (Int × Int)} {F G : List Nat} (h : RRecordS w v x F) (k : Ex G w w') (d : Dj F G) : RRecordS w' v x F :=
  h.of_block fun b hf => k.block b (h.lt b hf) (d b hf)
theorem RRecordS.rd {w : World} {v : Value} {x : List (Int × Int)} {F : List Nat} (h : RRecordS w v x F) : RdR w v x := h.1.rd

theorem szRecordS_yes {v : Value} {x : List (Int × Int)} {k : Int} {w : World} (h : DRecordS w v x) (hk2 : k ≤ 1048576) (hle : (szRecordS x : Int) ≤ k) :
    Calls Try.prog 28 #[v, .int .i64 k] w fun e w' => e = .returned (.int .i64 (k - (szRecordS x : Int))) ∧ Below w.heap.size w w' :=
  (szRecordS_any v x k w h (by omega) hk2).mono fun _ _ ⟨he, hb⟩ => ⟨by rw [he, if_pos (show (x.length : Int) ≤ k from hle)]; rfl, hb ▸ Below.refl _ _⟩
theorem szRecordS_no {v : Value} {x : List (Int × Int)} {k : Int} {w : World} (h : DRecordS w v x) (hk : 0 ≤ k) (hk2 : k ≤ 1048576) (hle : ¬ (szRecordS x : Int) ≤ k) :
    Calls Try.prog 28 #[v, .int .i64 k] w fun e w' => e = .returned (.int .i64 (-1)) ∧ Below w.heap.size w w' :=
  (szRecordS_any v x k w h hk hk2).mono fun _ _ ⟨he, hb⟩ => ⟨by rw [he, if_neg (show ¬ (x.length : Int) ≤ k from hle)], hb ▸ Below.refl _ _⟩
theorem toRecordS_law {v : Value} {x : List (Int × Int)} {w : World} (h : DRecordS w v x) (hl : szRecordS x ≤ 1048576) :
    Calls Try.prog 30 #[v] w fun e w' => ∃ u F, e = .returned u ∧ RRecordS w' u x F ∧ Fr w.heap.size F ∧ Below w.heap.size w w' :=
  (toRecordS_any v x w h hl).mono fun _ _ ⟨he, hs, hb⟩ => ⟨_, _, he, ⟨hs, rfl⟩, by intro b hb; simp [Value.ownBlock] at hb; omega, hb⟩
theorem eqRecordS_law {v u : Value} {x y : List (Int × Int)} {F G : List Nat} {w : World} (h : RRecordS w v x F) (k : RRecordS w u y G) :
    Calls Try.prog 32 #[v, u] w fun e w' => e = .returned (.bool (decide (x = y))) ∧ Below w.heap.size w w' :=
  eqRecordS_any v u x y w h.rd k.rd

set_option maxRecDepth 100000 in
/-- A slice of records among the arguments. -/
theorem argRecordS {H : Type} {enc : TypeId × Value → H} {W : World} {base : Nat} {v : Value} {d : DataW H} {p : List MemPlace} (hval : Value.okWide Try.prog W .any base 41 v)
    (h : DataW.Trod enc Try.prog W 0 (fun _ => true) true 41 v d p) : ∃ x, DRecordS W v x := by
  obtain ⟨a0, len0, cap0, rfl⟩ := okWide_slice Try.underlying41 hval
  obtain ⟨fuel, hf⟩ := h
  rcases open_slice_pairs Try.underlying41 Try.underlying74 (by kernel_rfl) rfl rfl (by kernel_rfl) (by kernel_rfl) hf with ⟨hcs, _⟩ | ⟨a, len, cap, m, n, V0, V1, D0, D1, P0, P1, hcs, _, hl, hm, hmm, _, hx⟩
  · simp [Value.cells] at hcs
    obtain ⟨rfl, rfl, rfl⟩ := hcs
    exact ⟨[], none, 0, rfl, Nat.le_refl _, Nat.zero_le _, fun h => absurd h (by simp)⟩
  · simp [Value.cells] at hcs
    obtain ⟨rfl, rfl, rfl⟩ := hcs
    have hm2 : m = cap0 := by simpa using hmm
    subst hm2
    refine ⟨(List.range len0).map fun i => (intOf (V0 i), intOf (V1 i)), some a, m, by simp, by simpa using hl, hm, fun hp => ?_⟩
    have hp' : 0 < len0 := by simpa using hp
    have h0 := hx 0 (by omega)
    have hxa := addr_plain h0.1
    refine ⟨a.block, a.off, by rw [← hxa], fun i hi => ?_⟩
    have hi' : i < len0 := by simpa using hi
    have hh := hx i (by omega)
    rw [hxa, Addr.add_lit, Addr.add_lit] at hh
    have hg : gr ((List.range len0).map fun i => (intOf (V0 i), intOf (V1 i))) i = (intOf (V0 i), intOf (V1 i)) := by rw [gr_eq hi]; simp
    rw [hg]
    obtain ⟨hc0, hc1, ht0, ht1⟩ := hh
    have hc1' : W.cell? ⟨a.block, a.off + i * 2 + 1, none⟩ = some (V1 i) := by rw [Nat.add_assoc]; exact hc1
    obtain ⟨k0, e0, _⟩ := DataW.trod_int Try.underlying3 ht0
    obtain ⟨k1, e1, _⟩ := DataW.trod_int Try.underlying3 ht1
    rw [hc0, hc1', (List.cons.inj e0).1, (List.cons.inj e1).1]
    exact ⟨rfl, rfl⟩
end Go.Proofs.Ytdhcpoeopooejaa
