/- slices.SortStableFunc at rows, under SortRows$1: exchanges of ranges, rotation, insertion. -/
import Derived.Test.YtoeonplbgbgjmaaDoorStbM
import Derived.Test.YtoeonplbgbgjmaaDoorCmpI
import Derived.Test.YtoeonplbgbgjmaaDoorIntSS
import Derived.BigRegion
import Derived.RegionTactic
import Derived.Deep.RegionHeld3
namespace Go.Proofs.YtoeonplbgbgjmaaDoor
open Go.RowKit
set_option linter.unusedVariables false
set_option linter.unusedSimpArgs false

/-- The data reads as the rows X at the places D (one cell a row: the header of its fields). -/
def RV (w : World) (b off c n : Nat) (X : List Value) (D : List Int) : Prop := Row w 40 b off c (D.map fun i => gv X i.toNat) ∧ n ≤ c ∧ n = D.length
def HdV (X : List Value) : Prop := ∀ i, ∃ a m c, gv X i = .slice a m c
theorem gv_map {X : List Value} {D : List Int} {i : Nat} (hi : i < D.length) (h : i < (D.map fun i => gv X i.toNat).length) : (D.map fun i => gv X i.toNat)[i] = gv X (gi D i).toNat := by
  rw [List.getElem_map, gi_eq hi]
theorem RV.cells {w : World} {b off c n : Nat} {X : List Value} {D : List Int} (h : RV w b off c n X D) {i : Nat} (hi : i < n) (hn : D.length = n) :
    w.cell? ⟨b, off + i, none⟩ = some (gv X (gi D i).toNat) ∧ ∀ j, w.frozen? ⟨b, j, none⟩ = false := by
  have h1 := h.1.cell (i := i) (by simp; omega)
  rw [gv_map (by omega)] at h1
  exact ⟨h1, fun j => h.1.frozen j⟩
theorem RV.drewN {w : World} {b off c n : Nat} {X : List Value} {D : List Int} (h : RV w b off c n X D) (q : Nat) : RV (w.drewN q) b off c n X D := h
theorem RV.lt {w : World} {b off c n : Nat} {X : List Value} {D : List Int} (h : RV w b off c n X D) : b < w.heap.size := h.1.lt
theorem RV.below {w w' : World} {b off c n : Nat} {X : List Value} {D : List Int} (h : RV w b off c n X D) (hb : Below w.heap.size w w') : RV w' b off c n X D := ⟨h.1.below hb h.1.lt, h.2⟩
theorem map_swpV {X : List Value} {D : List Int} {i j : Nat} :
    ((D.map fun i => gv X i.toNat).set i (gv X (gi D j).toNat)).set j (gv X (gi D i).toNat) = (swp D i j).map fun i => gv X i.toNat := by
  unfold swp
  rw [List.map_set, List.map_set]
/-- Two rows exchanged in memory. -/
theorem RV.swap {w : World} {b off c n : Nat} {X : List Value} {D : List Int} (h : RV w b off c n X D) {i j : Nat} (hi : i < n) (hj : j < n) (hn : D.length = n) :
    RV ((w.setCell ⟨b, off + i, none⟩ (gv X (gi D j).toNat)).setCell ⟨b, off + j, none⟩ (gv X (gi D i).toNat)) b off c n X (swp D i j) := by
  have h1 := (h.1.set (i := i) (by simp; omega) (gv X (gi D j).toNat)).set (i := j) (by simp; omega) (gv X (gi D i).toNat)
  rw [map_swpV] at h1
  exact ⟨h1, h.2.1, by rw [h.2.2]; simp [swp]⟩
theorem Ex.set2V {F : List Nat} {w0 w : World} {b i1 i2 : Nat} {x y : Value} (h : Ex F w0 w) (hb : b ∈ F) : Ex F w0 ((w.setCell ⟨b, i1, none⟩ x).setCell ⟨b, i2, none⟩ y) :=
  Ex.setIn (p := ⟨b, i2, none⟩) (Ex.setIn (p := ⟨b, i1, none⟩) h hb) hb
/-- The comparison works wherever only the block of the data has been written. -/
def CmpV (w0 : World) (b sp : Nat) (X : List Value) (cv : Int → Int → Int) : Prop := ∀ w' (x y : Int), Ex [b] w0 w' →
  Calls Tryd.prog 79 #[.agg #[gv X x.toNat], .agg #[gv X y.toNat], .pointer (some ⟨sp, 0, none⟩)] w' fun e w'' => e = .returned (.int .i64 (cv x y)) ∧ Below w'.heap.size w' w''

set_option maxRecDepth 10000 in
set_option maxHeartbeats 4000000 in
theorem swapRangeV_any (w0 : World) (b off c n : Nat) (X : List Value) (hXs : HdV X) (fv : Value) (D : List Int) (w : World) (hR : RV w b off c n X D) (hn : D.length = n) (hx : Ex [b] w0 w) (p q k : Nat) (hpq : p + k ≤ q) (hq : q + k ≤ n) (hc1 : n ≤ 1000000000) :
    Calls Tryd.prog 177 #[.slice (some ⟨b, off, none⟩) n c, .int .i64 (p : Nat), .int .i64 (q : Nat), .int .i64 (k : Nat), fv] w fun e w' => e = .returned (.tuple #[]) ∧ ∃ D', RV w' b off c n X D' ∧ Ex [b] w0 w' ∧ Sw D D' p q k ∧ Mv D D' p (q + k) := by
  replace hR := Lib.hid hR
  replace hx := Lib.hid hx
  replace hn := Lib.hid hn
  replace hXs := Lib.hid hXs
  go_enter Tryd.func177, Tryd.ntmps177
  go_wp2
  go_loopw [10] (fun iv wr => ∃ (i : Nat) (D' : List Int), i ≤ k ∧ iv = .int .i64 (i : Nat) ∧ RV wr b off c n X D' ∧ Ex [b] w0 wr ∧ Sw D D' p q i ∧ Mv D D' p (q + k)) (fun iv _ => k - (intOf iv).toNat)
  case atStart => exact ⟨0, D, Nat.zero_le _, rfl, hR.out, hx.out, Sw.zero _ _ _, Mv.refl _ _ _⟩
  case round =>
    clear hR hx
    obtain ⟨i, D', hi, rfl, hR, hx, hs, hm⟩ := hrel
    have hl := hm.len
    rw [hn.out] at hl
    replace hl := Lib.hid hl
    by_cases hlt : i < k
    · have hlti : (i : Int) < (k : Int) := by omega
      obtain ⟨e, he⟩ : ∃ e, e = p + i := ⟨_, rfl⟩
      obtain ⟨f, hf⟩ : ∃ f, f = q + i := ⟨_, rfl⟩
      have hei : (p : Int) + (i : Int) = (e : Int) := by omega
      have hfi : (q : Int) + (i : Int) = (f : Int) := by omega
      obtain ⟨hc1', hfz⟩ := hR.cells (i := e) (by omega) hl.out
      obtain ⟨hc2', _⟩ := hR.cells (i := f) (by omega) hl.out
      have hf1 := hfz (off + e)
      have hf2 := hfz (off + f)
      have hs2 := Lib.hid (hs.step hlt hpq (by rw [hl.out]; exact hq))
      have hm2 := Lib.hid (hm.trans (Mv.swp (D := D') (a := p) (b := q + k) (i := e) (j := f) (by omega) (by omega) (by omega) (by rw [hl.out]; omega)))
      rw [← he, ← hf] at hs2
      have hset := Lib.hid (hR.swap (i := e) (j := f) (by omega) (by omega) hl.out)
      have hn1 : ¬ e = f := by omega
      have hn2 : ¬ f = e := by omega
      have hi1 : (e : Int) < (n : Int) := by omega
      have hi2 : (f : Int) < (n : Int) := by omega
      replace hx := Lib.hid hx
      replace he := Lib.hid he
      replace hf := Lib.hid hf
      clear hs hm hR hfz
      have hUs := hXs.out (gi D' e).toNat
      have hVs := hXs.out (gi D' f).toNat
      generalize gv X (gi D' e).toNat = U at *
      generalize gv X (gi D' f).toNat = V at *
      obtain ⟨u1, u2, u3, rfl⟩ := hUs
      obtain ⟨v1, v2, v3, rfl⟩ := hVs
      go_wp2
      go_region
      go_wp2
      go_roundw
      case rel => exact ⟨i + 1, _, by omega, by go_num, hset.out, Ex.set2V (hx.out.drewN _) (by simp), hs2.out, hm2.out⟩
      case measure => simp [intOf]; omega
    · obtain rfl : i = k := by omega
      replace hR := Lib.hid hR
      replace hx := Lib.hid hx
      replace hs := Lib.hid hs
      replace hm := Lib.hid hm
      go_wp2
      go_end0
      exact ⟨rfl, D', hR.out, hx.out, hs.out, hm.out⟩
end Go.Proofs.YtoeonplbgbgjmaaDoor
