/- slices.SortStableFunc at records, under compareKeys: exchanges of ranges, rotation, insertion. -/
import Derived.Test.YtdhcpoeopooejaaStbM
import Derived.Test.YtdhcpoeopooejaaMSorted
import Derived.Test.YtdhcpoeopooejaaRecOwn
import Derived.BigRegion
import Derived.RegionTactic
import Derived.Deep.RegionHeld3
namespace Go.Proofs.Ytdhcpoeopooejaa
open Go.RowKit
set_option linter.unusedVariables false
set_option linter.unusedSimpArgs false

/-- The data reads as the records X at the places D. -/
def RQ (w : World) (b off c n : Nat) (X : List (Int × Int)) (D : List Int) : Prop := SlQ 72 w (.slice (some ⟨b, off, none⟩) n c) (D.map fun i => gr X i.toNat)
theorem gr_map {X : List (Int × Int)} {D : List Int} {i : Nat} (hi : i < D.length) : gr (D.map fun i => gr X i.toNat) i = gr X (gi D i).toNat := by
  rw [gr_eq (by simpa using hi), List.getElem_map, gi_eq hi]
theorem RQ.cells {w : World} {b off c n : Nat} {X : List (Int × Int)} {D : List Int} (h : RQ w b off c n X D) {i : Nat} (hi : i < n) (hn : D.length = n) :
    w.cell? ⟨b, off + i * 2, none⟩ = some (.int .i64 (gr X (gi D i).toNat).1) ∧ w.cell? ⟨b, off + i * 2 + 1, none⟩ = some (.int .i64 (gr X (gi D i).toNat).2) ∧ ∀ j, w.frozen? ⟨b, j, none⟩ = false := by
  have := SlQ.cells h hi
  rwa [gr_map (by omega)] at this
theorem RQ.drewN {w : World} {b off c n : Nat} {X : List (Int × Int)} {D : List Int} (h : RQ w b off c n X D) (q : Nat) : RQ (w.drewN q) b off c n X D := SlQ.of_block h (fun _ _ => rfl)
theorem RQ.below {w w' : World} {b off c n : Nat} {X : List (Int × Int)} {D : List Int} (h : RQ w b off c n X D) (hb : Below w.heap.size w w') : RQ w' b off c n X D := SlQ.of_block h (fun k hk => hb.block k (SlQ.lt h k hk))
theorem RQ.lt {w : World} {b off c n : Nat} {X : List (Int × Int)} {D : List Int} (h : RQ w b off c n X D) : b < w.heap.size := SlQ.lt h b rfl
theorem map_swp {X : List (Int × Int)} {D : List Int} {i j : Nat} (hi : i < D.length) (hj : j < D.length) :
    ((D.map fun i => gr X i.toNat).set i (gr X (gi D j).toNat)).set j (gr X (gi D i).toNat) = (swp D i j).map fun i => gr X i.toNat := by
  unfold swp
  rw [List.map_set, List.map_set]
/-- Two records exchanged in memory. -/
theorem RQ.swap {w : World} {b off c n : Nat} {X : List (Int × Int)} {D : List Int} (h : RQ w b off c n X D) {i j : Nat} (hi : i < n) (hj : j < n) (hn : D.length = n) :
    RQ ((((w.setCell ⟨b, off + i * 2, none⟩ (.int .i64 (gr X (gi D j).toNat).1)).setCell ⟨b, off + i * 2 + 1, none⟩ (.int .i64 (gr X (gi D j).toNat).2)).setCell ⟨b, off + j * 2, none⟩ (.int .i64 (gr X (gi D i).toNat).1)).setCell ⟨b, off + j * 2 + 1, none⟩ (.int .i64 (gr X (gi D i).toNat).2)) b off c n X (swp D i j) := by
  have h1 := (SlQ.set h hi (gr X (gi D j).toNat).1 (gr X (gi D j).toNat).2).set hj (gr X (gi D i).toNat).1 (gr X (gi D i).toNat).2
  unfold RQ
  rw [← map_swp (by omega) (by omega)]
  exact h1
theorem Ex.set4 {F : List Nat} {w0 w : World} {b i1 i2 i3 i4 : Nat} {x y z t : Value} (h : Ex F w0 w) (hb : b ∈ F) : Ex F w0 ((((w.setCell ⟨b, i1, none⟩ x).setCell ⟨b, i2, none⟩ y).setCell ⟨b, i3, none⟩ z).setCell ⟨b, i4, none⟩ t) :=
  Ex.setIn (p := ⟨b, i4, none⟩) (Ex.setIn (p := ⟨b, i3, none⟩) (Ex.setIn (p := ⟨b, i2, none⟩) (Ex.setIn (p := ⟨b, i1, none⟩) h hb) hb) hb) hb

set_option maxRecDepth 10000 in
set_option maxHeartbeats 4000000 in
theorem swapRangeR_any (w0 : World) (b off c n : Nat) (X : List (Int × Int)) (fv : Value) (D : List Int) (w : World) (hR : RQ w b off c n X D) (hn : D.length = n) (hx : Ex [b] w0 w) (p q k : Nat) (hpq : p + k ≤ q) (hq : q + k ≤ n) (hc1 : n ≤ 1000000000) :
    Calls Try.prog 157 #[.slice (some ⟨b, off, none⟩) n c, .int .i64 (p : Nat), .int .i64 (q : Nat), .int .i64 (k : Nat), fv] w fun e w' => e = .returned (.tuple #[]) ∧ ∃ D', RQ w' b off c n X D' ∧ Ex [b] w0 w' ∧ Sw D D' p q k ∧ Mv D D' p (q + k) := by
  replace hR := Lib.hid hR
  replace hx := Lib.hid hx
  replace hn := Lib.hid hn
  go_enter Try.func157, Try.ntmps157
  go_wp2
  go_loopw [10] (fun iv wr => ∃ (i : Nat) (D' : List Int), i ≤ k ∧ iv = .int .i64 (i : Nat) ∧ RQ wr b off c n X D' ∧ Ex [b] w0 wr ∧ Sw D D' p q i ∧ Mv D D' p (q + k)) (fun iv _ => k - (intOf iv).toNat)
  case atStart => exact ⟨0, D, Nat.zero_le _, rfl, hR.out, hx.out, Sw.zero _ _ _, Mv.refl _ _ _⟩
  case round =>
    clear hR hx
    obtain ⟨i, D', hi, rfl, hR, hx, hs, hm⟩ := hrel
    have hl := hm.len
    rw [hn.out] at hl
    replace hl := Lib.hid hl
    by_cases hlt : i < k
    · have hlti : (i : Int) < (k : Int) := by omega
      obtain ⟨e, he⟩ : ∃ e, e = p + i := ⟨_, rfl⟩
      obtain ⟨f, hf⟩ : ∃ f, f = q + i := ⟨_, rfl⟩
      have hei : (p : Int) + (i : Int) = (e : Int) := by omega
      have hfi : (q : Int) + (i : Int) = (f : Int) := by omega
      obtain ⟨hc1', hc1b, hfz⟩ := hR.cells (i := e) (by omega) hl.out
      obtain ⟨hc2', hc2b, _⟩ := hR.cells (i := f) (by omega) hl.out
      have hf1 := hfz (off + e * 2)
      have hf1b := hfz (off + e * 2 + 1)
      have hf2 := hfz (off + f * 2)
      have hf2b := hfz (off + f * 2 + 1)
      have hs2 := Lib.hid (hs.step hlt hpq (by rw [hl.out]; exact hq))
      have hm2 := Lib.hid (hm.trans (Mv.swp (D := D') (a := p) (b := q + k) (i := e) (j := f) (by omega) (by omega) (by omega) (by rw [hl.out]; omega)))
      rw [← he, ← hf] at hs2
      have hset := Lib.hid (hR.swap (i := e) (j := f) (by omega) (by omega) hl.out)
      have hn1 : ¬ e = f := by omega
      have hn2 : ¬ f = e := by omega
      have hi1 : (e : Int) < (n : Int) := by omega
      have hi2 : (f : Int) < (n : Int) := by omega
      have ha1 : ¬ off + f * 2 = off + e * 2 := by omega
      have ha2 : ¬ off + f * 2 = off + e * 2 + 1 := by omega
      have ha3 : ¬ off + f * 2 + 1 = off + e * 2 := by omega
      have ha4 : ¬ off + f * 2 + 1 = off + e * 2 + 1 := by omega
      have ha5 : ¬ off + e * 2 = off + f * 2 := by omega
      have ha6 : ¬ off + e * 2 + 1 = off + f * 2 := by omega
      replace hx := Lib.hid hx
      replace he := Lib.hid he
      replace hf := Lib.hid hf
      clear hs hm hR hfz
      generalize gr X (gi D' e).toNat = U at *
      generalize gr X (gi D' f).toNat = V at *
      obtain ⟨u1, u2⟩ := U
      obtain ⟨v1, v2⟩ := V
      dsimp only at hc1' hc1b hc2' hc2b hset
      go_wp2
      go_region
      go_wp2
      go_roundw
      case rel => exact ⟨i + 1, _, by omega, by go_num, hset.out, Ex.set4 (hx.out.drewN _) (by simp), hs2.out, hm2.out⟩
      case measure => simp [intOf]; omega
    · obtain rfl : i = k := by omega
      replace hR := Lib.hid hR
      replace hx := Lib.hid hx
      replace hs := Lib.hid hs
      replace hm := Lib.hid hm
      go_wp2
      go_end0
      exact ⟨rfl, D', hR.out, hx.out, hs.out, hm.out⟩
end Go.Proofs.Ytdhcpoeopooejaa
