/- slices.SortStableFunc at rows, under SortRows$1: exchanges of ranges, rotation, insertion. slices.SortStableFunc at rows: rotation, insertion. slices.symMergeCmpFunc at rows. slices.stableCmpFunc, slices.SortStableFunc at rows. slices.SortStableFunc at no rows. -/
import Derived.Test.YtoeonplbgbgjmaaDoorMg2
import Derived.Test.YtoeonplbgbgjmaaDoorMg10
import Derived.Test.YtoeonplbgbgjmaaDoorIntSS
import Derived.BigRegion
import Derived.RegionTactic
import Derived.Deep.RegionHeld3
namespace Go.Proofs.YtoeonplbgbgjmaaDoor
open Go.RowKit
set_option linter.unusedVariables false
set_option linter.unusedSimpArgs false

/-- The data reads as the rows X at the places D (one cell a row: the header of its fields). -/
def RV (w : World) (b off c n : Nat) (X : List Value) (D : List Int) : Prop := Row w 40 b off c (D.map fun i => gv X i.toNat) ∧ n ≤ c ∧ n = D.length
def HdV (X : List Value) : Prop := ∀ i, ∃ a m c, gv X i = .slice a m c
theorem gv_map {X : List Value} {D : List Int} {i : Nat} (hi : i < D.length) (h : i < (D.map fun i => gv X i.toNat).length) : (D.map fun i => gv X i.toNat)[i] = gv X (gi D i).toNat := by
  rw [List.getElem_map, gi_eq hi]
theorem RV.cells {w : World} {b off c n : Nat} {X : List Value} {D : List Int} (h : RV w b off c n X D) {i : Nat} (hi : i < n) (hn : D.length = n) :
    w.cell? ⟨b, off + i, none⟩ = some (gv X (gi D i).toNat) ∧ ∀ j, w.frozen? ⟨b, j, none⟩ = false := by
  have h1 := h.1.cell (i := i) (by simp; omega)
  rw [gv_map (by omega)] at h1
  exact ⟨h1, fun j => h.1.frozen j⟩
theorem RV.drewN {w : World} {b off c n : Nat} {X : List Value} {D : List Int} (h : RV w b off c n X D) (q : Nat) : RV (w.drewN q) b off c n X D := h
theorem RV.lt {w : World} {b off c n : Nat} {X : List Value} {D : List Int} (h : RV w b off c n X D) : b < w.heap.size := h.1.lt
theorem RV.below {w w' : World} {b off c n : Nat} {X : List Value} {D : List Int} (h : RV w b off c n X D) (hb : Below w.heap.size w w') : RV w' b off c n X D := ⟨h.1.below hb h.1.lt, h.2⟩
theorem map_swpV {X : List Value} {D : List Int} {i j : Nat} :
    ((D.map fun i => gv X i.toNat).set i (gv X (gi D j).toNat)).set j (gv X (gi D i).toNat) = (swp D i j).map fun i => gv X i.toNat := by
  unfold swp
  rw [List.map_set, List.map_set]
/-- Two rows exchanged in memory. -/
theorem RV.swap {w : World} {b off c n : Nat} {X : List Value} {D : List Int} (h : RV w b off c n X D) {i j : Nat} (hi : i < n) (hj : j < n) (hn : D.length = n) :
    RV ((w.setCell ⟨b, off + i, none⟩ (gv X (gi D j).toNat)).setCell ⟨b, off + j, none⟩ (gv X (gi D i).toNat)) b off c n X (swp D i j) := by
  have h1 := (h.1.set (i := i) (by simp; omega) (gv X (gi D j).toNat)).set (i := j) (by simp; omega) (gv X (gi D i).toNat)
  rw [map_swpV] at h1
  exact ⟨h1, h.2.1, by rw [h.2.2]; simp [swp]⟩
theorem Ex.set2V {F : List Nat} {w0 w : World} {b i1 i2 : Nat} {x y : Value} (h : Ex F w0 w) (hb : b ∈ F) : Ex F w0 ((w.setCell ⟨b, i1, none⟩ x).setCell ⟨b, i2, none⟩ y) :=
  Ex.setIn (p := ⟨b, i2, none⟩) (Ex.setIn (p := ⟨b, i1, none⟩) h hb) hb
/-- The comparison works wherever only the block of the data has been written. -/
def CmpV (w0 : World) (b sp : Nat) (X : List Value) (cv : Int → Int → Int) : Prop := ∀ w' (x y : Int), Ex [b] w0 w' →
  Calls Tryd.prog 79 #[.agg #[gv X x.toNat], .agg #[gv X y.toNat], .pointer (some ⟨sp, 0, none⟩)] w' fun e w'' => e = .returned (.int .i64 (cv x y)) ∧ Below w'.heap.size w' w''

set_option maxRecDepth 10000 in
set_option maxHeartbeats 4000000 in
theorem swapRangeV_any (w0 : World) (b off c n : Nat) (X : List Value) (hXs : HdV X) (fv : Value) (D : List Int) (w : World) (hR : RV w b off c n X D) (hn : D.length = n) (hx : Ex [b] w0 w) (p q k : Nat) (hpq : p + k ≤ q) (hq : q + k ≤ n) (hc1 : n ≤ 1000000000) :
    Calls Tryd.prog 177 #[.slice (some ⟨b, off, none⟩) n c, .int .i64 (p : Nat), .int .i64 (q : Nat), .int .i64 (k : Nat), fv] w fun e w' => e = .returned (.tuple #[]) ∧ ∃ D', RV w' b off c n X D' ∧ Ex [b] w0 w' ∧ Sw D D' p q k ∧ Mv D D' p (q + k) := by
  replace hR := Lib.hid hR
  replace hx := Lib.hid hx
  replace hn := Lib.hid hn
  replace hXs := Lib.hid hXs
  go_enter Tryd.func177, Tryd.ntmps177
  go_wp2
  go_loopw [10] (fun iv wr => ∃ (i : Nat) (D' : List Int), i ≤ k ∧ iv = .int .i64 (i : Nat) ∧ RV wr b off c n X D' ∧ Ex [b] w0 wr ∧ Sw D D' p q i ∧ Mv D D' p (q + k)) (fun iv _ => k - (intOf iv).toNat)
  case atStart => exact ⟨0, D, Nat.zero_le _, rfl, hR.out, hx.out, Sw.zero _ _ _, Mv.refl _ _ _⟩
  case round =>
    clear hR hx
    obtain ⟨i, D', hi, rfl, hR, hx, hs, hm⟩ := hrel
    have hl := hm.len
    rw [hn.out] at hl
    replace hl := Lib.hid hl
    by_cases hlt : i < k
    · have hlti : (i : Int) < (k : Int) := by omega
      obtain ⟨e, he⟩ : ∃ e, e = p + i := ⟨_, rfl⟩
      obtain ⟨f, hf⟩ : ∃ f, f = q + i := ⟨_, rfl⟩
      have hei : (p : Int) + (i : Int) = (e : Int) := by omega
      have hfi : (q : Int) + (i : Int) = (f : Int) := by omega
      obtain ⟨hc1', hfz⟩ := hR.cells (i := e) (by omega) hl.out
      obtain ⟨hc2', _⟩ := hR.cells (i := f) (by omega) hl.out
      have hf1 := hfz (off + e)
      have hf2 := hfz (off + f)
      have hs2 := Lib.hid (hs.step hlt hpq (by rw [hl.out]; exact hq))
      have hm2 := Lib.hid (hm.trans (Mv.swp (D := D') (a := p) (b := q + k) (i := e) (j := f) (by omega) (by omega) (by omega) (by rw [hl.out]; omega)))
      rw [← he, ← hf] at hs2
      have hset := Lib.hid (hR.swap (i := e) (j := f) (by omega) (by omega) hl.out)
      have hn1 : ¬ e = f := by omega
      have hn2 : ¬ f = e := by omega
      have hi1 : (e : Int) < (n : Int) := by omega
      have hi2 : (f : Int) < (n : Int) := by omega
      replace hx := Lib.hid hx
      replace he := Lib.hid he
      replace hf := Lib.hid hf
      clear hs hm hR hfz
      have hUs := hXs.out (gi D' e).toNat
      have hVs := hXs.out (gi D' f).toNat
      generalize gv X (gi D' e).toNat = U at *
      generalize gv X (gi D' f).toNat = V at *
      obtain ⟨u1, u2, u3, rfl⟩ := hUs
      obtain ⟨v1, v2, v3, rfl⟩ := hVs
      go_wp2
      go_region
      go_wp2
      go_roundw
      case rel => exact ⟨i + 1, _, by omega, by go_num, hset.out, Ex.set2V (hx.out.drewN _) (by simp), hs2.out, hm2.out⟩
      case measure => simp [intOf]; omega
    · obtain rfl : i = k := by omega
      replace hR := Lib.hid hR
      replace hx := Lib.hid hx
      replace hs := Lib.hid hs
      replace hm := Lib.hid hm
      go_wp2
      go_end0
      exact ⟨rfl, D', hR.out, hx.out, hs.out, hm.out⟩
end Go.Proofs.YtoeonplbgbgjmaaDoor
namespace Go.Proofs.YtoeonplbgbgjmaaDoor
open Go.RowKit
set_option linter.unusedVariables false
set_option linter.unusedSimpArgs false

set_option maxRecDepth 10000 in
set_option maxHeartbeats 4000000 in
theorem rotateV_any (w0 : World) (b off c n : Nat) (X : List Value) (hXs : HdV X) (fv : Value) (D : List Int) (w : World) (hR : RV w b off c n X D) (hn : D.length = n) (hx : Ex [b] w0 w) (p m q : Nat) (hpm : p < m) (hmq : m < q) (hq : q ≤ n) (hc1 : n ≤ 1000000000) :
    Calls Tryd.prog 164 #[.slice (some ⟨b, off, none⟩) n c, .int .i64 (p : Nat), .int .i64 (m : Nat), .int .i64 (q : Nat), fv] w fun e w' => e = .returned (.tuple #[]) ∧ ∃ D', RV w' b off c n X D' ∧ Ex [b] w0 w' ∧ Rt D D' p m q ∧ Mv D D' p q := by
  replace hR := Lib.hid hR
  replace hx := Lib.hid hx
  replace hXs := Lib.hid hXs
  have hrt := Lib.hid (rotL_rt (D := D) (Nat.le_of_lt hpm) (Nat.le_of_lt hmq) (by rw [hn]; exact hq))
  replace hn := Lib.hid hn
  generalize rotL D p m q = T at hrt
  have e1 : (m : Int) - (p : Int) = ((m - p : Nat) : Int) := by omega
  have e2 : (q : Int) - (m : Int) = ((q - m : Nat) : Int) := by omega
  go_enter Tryd.func164, Tryd.ntmps164
  go_wp2
  try rw [e1, e2]
  clear e1 e2
  go_loopw [10, 11] (fun iv jv wr => ∃ (i j : Nat) (D' : List Int), 0 < i ∧ 0 < j ∧ i + p ≤ m ∧ m + j ≤ q ∧ iv = .int .i64 (i : Nat) ∧ jv = .int .i64 (j : Nat) ∧ RV wr b off c n X D' ∧ Ex [b] w0 wr ∧ Rt D' T (m - i) m (m + j) ∧ Mv D D' p q) (fun iv jv _ => (intOf iv).toNat + (intOf jv).toNat)
  case atStart => exact ⟨m - p, q - m, D, by omega, by omega, by omega, by omega, rfl, rfl, hR.out, hx.out, by rw [show m - (m - p) = p by omega, show m + (q - m) = q by omega]; exact hrt.out, Mv.refl _ _ _⟩
  case round =>
    clear hR hx
    obtain ⟨i, j, D', hi0, hj0, hip, hjq, rfl, rfl, hR, hx, hr, hm⟩ := hrel
    have hl := hm.len
    rw [hn.out] at hl
    replace hr := Lib.hid hr
    replace hm := Lib.hid hm
    have e1 : (m : Int) - (i : Int) = ((m - i : Nat) : Int) := by omega
    by_cases hne : i = j
    · subst hne
      have hsw := Lib.hid (swapRangeV_any w0 b off c n X hXs.out fv D' wr hR hl hx (m - i) m i (by omega) (by omega) hc1)
      clear hR hx
      go_wp2_with fail
      try rw [e1]
      refine hsw.out.mono ?_
      rintro e w1 ⟨rfl, D2, hR2, hx2, hs2, hm2⟩
      have hfin := Lib.hid (hr.out.last (by omega) hs2)
      have hmv := Lib.hid (hm.out.trans (hm2.mono (by omega) (by omega)))
      replace hR2 := Lib.hid hR2
      replace hx2 := Lib.hid hx2
      clear hsw hs2 hm2 e1
      go_wp2
      go_end0
      exact ⟨rfl, D2, hR2.out, hx2.out, fun t => by rw [hfin.out t]; exact hrt.out t, hmv.out⟩
    · have hnei : ¬ (i : Int) = (j : Int) := by omega
      by_cases hgt : j < i
      · have hgti : (i : Int) > (j : Int) := by omega
        have hsw := Lib.hid (swapRangeV_any w0 b off c n X hXs.out fv D' wr hR hl hx (m - i) m j (by omega) (by omega) hc1)
        clear hR hx
        go_wp2_with fail
        try rw [e1]
        refine hsw.out.mono ?_
        rintro e w1 ⟨rfl, D2, hR2, hx2, hs2, hm2⟩
        have hr2 := Lib.hid (hr.out.left (by omega) hgt hs2)
        have hmv := Lib.hid (hm.out.trans (hm2.mono (by omega) (by omega)))
        replace hR2 := Lib.hid hR2
        replace hx2 := Lib.hid hx2
        have e3 : (i : Int) - (j : Int) = ((i - j : Nat) : Int) := by omega
        clear hsw hs2 hm2 e1
        go_wp2
        go_roundw
        case rel => exact ⟨i - j, j, D2, by omega, by omega, by omega, by omega, by first | rfl | (rw [← e3]; rfl) | go_num, rfl, hR2.out, hx2.out, hr2.out, hmv.out⟩
        case measure => simp [intOf]; omega
      · have hgti : ¬ (i : Int) > (j : Int) := by omega
        have hsw := Lib.hid (swapRangeV_any w0 b off c n X hXs.out fv D' wr hR hl hx (m - i) (m + j - i) i (by omega) (by omega) hc1)
        clear hR hx
        have e2 : (m : Int) + (j : Int) - (i : Int) = ((m + j - i : Nat) : Int) := by omega
        go_wp2_with fail
        try rw [e1, e2]
        refine hsw.out.mono ?_
        rintro e w1 ⟨rfl, D2, hR2, hx2, hs2, hm2⟩
        have hr2 := Lib.hid (hr.out.right (by omega) (by omega) hs2)
        have hmv := Lib.hid (hm.out.trans (hm2.mono (by omega) (by omega)))
        replace hR2 := Lib.hid hR2
        replace hx2 := Lib.hid hx2
        have e3 : (j : Int) - (i : Int) = ((j - i : Nat) : Int) := by omega
        clear hsw hs2 hm2 e1 e2
        go_wp2
        go_roundw
        case rel => exact ⟨i, j - i, D2, by omega, by omega, by omega, by omega, rfl, by first | rfl | (rw [← e3]; rfl) | go_num, hR2.out, hx2.out, hr2.out, hmv.out⟩
        case measure => simp [intOf]; omega

set_option maxRecDepth 10000 in
set_option maxHeartbeats 8000000 in
theorem insCmpV_any (w0 : World) (b off c n sp : Nat) (X : List Value) (cv : Int → Int → Int) (hcv : Pre cv) (hcmp : CmpV w0 b sp X cv) (hXs : HdV X) (D : List Int) (w : World) (hR : RV w b off c n X D) (hn : D.length = n) (hx : Ex [b] w0 w)
    (p q : Nat) (hpq : p ≤ q) (hq : q ≤ n) (hc1 : n ≤ 1000000000) (hid : ∀ i j, p ≤ i → i < j → j < q → gi D i < gi D j) :
    Calls Tryd.prog 139 #[.slice (some ⟨b, off, none⟩) n c, .int .i64 (p : Nat), .int .i64 (q : Nat), .func (.func 79) #[] #[.pointer (some ⟨sp, 0, none⟩)]] w fun e w' => e = .returned (.tuple #[]) ∧ ∃ D', RV w' b off c n X D' ∧ Ex [b] w0 w' ∧ Mv D D' p q ∧ Srt cv D' p q := by
  replace hR := Lib.hid hR
  replace hx := Lib.hid hx
  replace hn := Lib.hid hn
  replace hcv := Lib.hid hcv
  replace hcmp := Lib.hid hcmp
  replace hXs := Lib.hid hXs
  replace hid := Lib.hid hid
  go_enter Tryd.func139, Tryd.ntmps139
  go_wp2
  go_loopw [8] (fun iv wr => ∃ (i : Nat) (D' : List Int), p + 1 ≤ i ∧ (i ≤ q ∨ i = p + 1) ∧ iv = .int .i64 (i : Nat) ∧ RV wr b off c n X D' ∧ Ex [b] w0 wr ∧ Mv D D' p i ∧ Srt cv D' p i) (fun iv _ => q + 1 - (intOf iv).toNat)
  case atStart => exact ⟨p + 1, D, Nat.le_refl _, .inr rfl, by go_num, hR.out, hx.out, Mv.refl _ _ _, Srt.one _ _ (Nat.le_refl _)⟩
  case round =>
    clear hR hx
    obtain ⟨wo, rfl⟩ : ∃ wo : World, wo = wr := ⟨_, rfl⟩
    obtain ⟨i, D', hpi, hiq, rfl, hR, hx, hm, hs⟩ := hrel
    replace hR := Lib.hid hR
    replace hx := Lib.hid hx
    replace hm := Lib.hid hm
    replace hs := Lib.hid hs
    by_cases hlt : i < q
    · have hlti : (i : Int) < (q : Int) := by omega
      have hXe : gi D' i = gi D i := hm.out.out i (by omega)
      have hsm : ∀ t, p ≤ t → t ≤ i → t ≠ i → gi D' t < gi D i := fun t g1 g2 g3 => by
        obtain ⟨t', k1, k2, k3⟩ := hm.out.ins t g1 (by omega)
        rw [k3]; exact hid.out t' i k1 k2 hlt
      have hm2 := Lib.hid (hm.out.mono (a' := p) (b' := i + 1) (Nat.le_refl _) (by omega))
      have hsx := Lib.hid (SrtX.start hs.out)
      replace hsm := Lib.hid hsm
      generalize gi D i = K at *
      replace hXe := Lib.hid hXe
      go_wp2
      go_loopw [9] (fun jv wr => ∃ (j : Nat) (D' : List Int), p ≤ j ∧ j ≤ i ∧ jv = .int .i64 (j : Nat) ∧ RV wr b off c n X D' ∧ Ex [b] w0 wr ∧ Mv D D' p (i + 1) ∧ SrtX cv D' p i j ∧ gi D' j = K ∧ ∀ t, p ≤ t → t ≤ i → t ≠ j → gi D' t < K) (fun jv _ => (intOf jv).toNat)
      case atStart => exact ⟨i, D', by omega, Nat.le_refl _, rfl, hR.out, hx.out, hm2.out, hsx.out, hXe.out, hsm.out⟩
      case round =>
        clear hR hx hm hs hm2 hsx hsm hXe
        obtain ⟨wi, rfl⟩ : ∃ wi : World, wi = wr := ⟨_, rfl⟩
        obtain ⟨j, D', hpj, hji, rfl, hR, hx, hm, hsx, hXj, hsm⟩ := hrel
        have hl := hm.len
        rw [hn.out] at hl
        replace hl := Lib.hid hl
        by_cases hjp : p < j
        · obtain ⟨m, hjm⟩ : ∃ m, j = m + 1 := ⟨j - 1, by omega⟩
          have hjpi : (p : Int) < (j : Int) := by omega
          have hYX := hsm m (by omega) (by omega) (by omega)
          obtain ⟨hc1', hfz⟩ := hR.cells (i := j) (by omega) hl.out
          obtain ⟨hc2', _⟩ := hR.cells (i := m) (by omega) hl.out
          have hbw := hR.lt
          -- what a swap makes of the data, in whatever world reads as this one
          have hsw : ∀ w9, RV w9 b off c n X D' → _ := fun w9 h9 => RV.swap h9 (i := j) (j := m) (by omega) (by omega) hl.out
          rw [hXj] at hc1' hsw
          have hE1 : cv K (gi D' m) < 0 → SrtX cv (swp D' m j) p i m := fun hh => by
            subst hjm
            exact hsx.step (by omega) hji (by rw [hl.out]; omega) (by rw [hXj]; exact .inl hh)
          have hE0 : ¬ cv K (gi D' m) < 0 → Srt cv D' p (i + 1) := fun hh => hsx.done hcv.out (.inr (by
            rw [show j - 1 = m by omega, hXj]
            exact hcv.out.not_ll (by omega) (fun e => hh ((ll_of_cmp hYX).1 e))))
          have hm2 := Lib.hid (hm.trans (Mv.swp (D := D') (a := p) (b := i + 1) (i := m) (j := j) (by omega) (by omega) (by omega) (by rw [hl.out]; omega)))
          have hX2 := Lib.hid (show gi (swp D' m j) m = K by rw [gi_swp (by rw [hl.out]; omega) (by rw [hl.out]; omega), if_neg (by omega), if_pos rfl, hXj])
          have hsm2 := Lib.hid (show ∀ t, p ≤ t → t ≤ i → t ≠ m → gi (swp D' m j) t < K from fun t g1 g2 g3 => by
            rw [gi_swp (by rw [hl.out]; omega) (by rw [hl.out]; omega)]
            by_cases e : t = j
            · rw [if_pos e]; exact hYX
            · rw [if_neg e, if_neg g3]; exact hsm t g1 g2 e)
          have hcomm := Lib.hid (swp_comm (l := D') (i := j) (j := m) (by rw [hl.out]; omega) (by rw [hl.out]; omega))
          have hmE := Lib.hid hm
          have hcl := Lib.hid (hcmp.out wi.drew K (gi D' m) (show Ex [b] w0 wi.drew from hx.drewN 1))
          clear hsx hsm hm hXj
          replace hR := Lib.hid hR
          replace hx := Lib.hid hx
          replace hsw := Lib.hid hsw
          have hi3 : (j : Int) - 1 = (m : Int) := by omega
          have hmn : (m : Int) < (n : Int) := by omega
          have hjn : (j : Int) < (n : Int) := by omega
          have hi7 : IntKind.i64.wrap ((j : Int) - 1) = (m : Int) := by rw [hi3]; exact IntWalk.i64_in _ (by omega)
          have hi8 : (0 : Int) ≤ (m : Int) := by omega
          have hi9 : IntKind.i64.wrap (m : Int) = (m : Int) := IntWalk.i64_in _ (by omega)
          have hi10 : (0 : Int) ≤ (j : Int) := by omega
          replace hjm := Lib.hid hjm
          generalize hz : cv K (gi D' m) = z at *
          have hUs := hXs.out K.toNat
          have hVs := hXs.out (gi D' m).toNat
          generalize gv X K.toNat = U at *
          generalize gv X (gi D' m).toNat = V at *
          obtain ⟨u1, u2, u3, rfl⟩ := hUs
          obtain ⟨v1, v2, v3, rfl⟩ := hVs
          replace hz := Lib.hid hz
          by_cases hz0 : z < 0
          · have hE := Lib.hid (hE1 hz0)
            clear hE1 hE0
            go_wp2
            go_region_held3 (fun w' => w'.cell? ⟨b, off + j, none⟩ = some (.slice u1 u2 u3) ∧ w'.cell? ⟨b, off + m, none⟩ = some (.slice v1 v2 v3)) ((first | exact ⟨(hbel.cell (p := ⟨b, off + j, none⟩) hbw).trans hc1', (hbel.cell (p := ⟨b, off + m, none⟩) hbw).trans hc2'⟩ | go_keep)) ((go_at_call 79; refine hcl.out.mono ?_; rintro e w' ⟨rfl, hbel⟩))
            obtain ⟨d1, d2⟩ : _ ∧ _ := ‹w'.cell? ⟨b, off + j, none⟩ = some (.slice u1 u2 u3) ∧ w'.cell? ⟨b, off + m, none⟩ = some (.slice v1 v2 v3)›
            have hR2 : RV w' b off c n X D' := (show RV wi.drew b off c n X D' from hR.out.drewN 1).below hbel
            have hx2 : Hid (Ex [b] w0 w') := Lib.hid ((show Ex [b] w0 wi.drew from hx.out.drewN 1).trans (Ex.of_below hbel))
            have hfz2 := (hR2.cells (i := m) (by omega) hl.out).2
            have hf1 := hfz2 (off + j)
            have hf2 := hfz2 (off + m)
            have hset0 := hsw.out w' hR2
            rw [hcomm.out] at hset0
            have hset := Lib.hid hset0
            have hn1 : ¬ j = m := by omega
            have hn2 : ¬ m = j := by omega
            clear hbel hc1' hc2' hfz hfz2 hset0 hR hx hR2 hsw
            go_wp2
            go_region
            go_wp2
            go_roundw
            case rel => exact ⟨m, _, by have := hjm.out; omega, by have := hjm.out; omega, by first | rfl | go_num, hset.out, Ex.set2V (hx2.out.drewN _) (by simp), hm2.out, hE.out, hX2.out, hsm2.out⟩
            case measure => have := hjm.out; first | (simp [intOf]; done) | (simp [intOf]; omega)
          · have hE := Lib.hid (hE0 hz0)
            clear hE1 hE0
            go_wp2
            go_region_held3 (fun w' => w'.cell? ⟨b, off + j, none⟩ = some (.slice u1 u2 u3) ∧ w'.cell? ⟨b, off + m, none⟩ = some (.slice v1 v2 v3)) ((first | exact ⟨(hbel.cell (p := ⟨b, off + j, none⟩) hbw).trans hc1', (hbel.cell (p := ⟨b, off + m, none⟩) hbw).trans hc2'⟩ | go_keep)) ((go_at_call 79; refine hcl.out.mono ?_; rintro e w' ⟨rfl, hbel⟩))
            obtain ⟨d1, d2⟩ : _ ∧ _ := ‹w'.cell? ⟨b, off + j, none⟩ = some (.slice u1 u2 u3) ∧ w'.cell? ⟨b, off + m, none⟩ = some (.slice v1 v2 v3)›
            have hR2 : RV w' b off c n X D' := (show RV wi.drew b off c n X D' from hR.out.drewN 1).below hbel
            have hx2 : Hid (Ex [b] w0 w') := Lib.hid ((show Ex [b] w0 wi.drew from hx.out.drewN 1).trans (Ex.of_below hbel))
            replace hR2 := Lib.hid hR2
            clear hbel d1 d2
            go_wp2
            go_roundw
            case rel => exact ⟨i + 1, D', by omega, by omega, by go_num, hR2.out, hx2.out, hmE.out, hE.out⟩
            case measure => simp [intOf]; omega
        · obtain rfl : j = p := by omega
          have hjpi : ¬ (j : Int) < (j : Int) := by omega
          have hjd : decide ((j : Int) < (j : Int)) = false := by simp
          have hE := Lib.hid (hsx.done hcv.out (.inl rfl))
          replace hR := Lib.hid hR
          replace hx := Lib.hid hx
          replace hm := Lib.hid hm
          clear hsx hXj hsm
          go_wp2
          go_quiet (fail)
          try go_wp2
          go_roundw
          case rel => exact ⟨i + 1, D', by omega, by omega, by go_num, hR.out.drewN _, hx.out.drewN _, hm.out, hE.out⟩
          case measure => simp [intOf]; omega
    · have hlti : ¬ (i : Int) < (q : Int) := by omega
      have hfin : Mv D D' p q ∧ Srt cv D' p q := by
        by_cases e : i = q
        · subst e; exact ⟨hm.out, hs.out⟩
        · obtain rfl : p = q := by omega
          have hi : i = p + 1 := by omega
          subst hi
          refine ⟨⟨hm.out.perm, fun t ht => ?_, fun t h1 h2 => by omega⟩, Srt.one _ _ (by omega)⟩
          by_cases e2 : t = p
          · subst e2
            obtain ⟨t', k1, k2, k3⟩ := hm.out.ins t (Nat.le_refl _) (by omega)
            rw [k3]; congr 1; omega
          · exact hm.out.out t (by omega)
      replace hfin := Lib.hid hfin
      clear hs hm
      go_wp2
      go_end0
      exact ⟨rfl, D', hR.out, hx.out, hfin.out.1, hfin.out.2⟩
end Go.Proofs.YtoeonplbgbgjmaaDoor
namespace Go.Proofs.YtoeonplbgbgjmaaDoor
open Go.RowKit
set_option linter.unusedVariables false
set_option linter.unusedSimpArgs false

set_option maxRecDepth 10000 in
set_option maxHeartbeats 16000000 in
theorem symMergeV_any (w0 : World) (b off c n sp : Nat) (X : List Value) (cv : Int → Int → Int) (hcv : Pre cv) (hcmp : CmpV w0 b sp X cv) (hXs : HdV X) (hc1 : n ≤ 1000000000) : ∀ (N : Nat) (D : List Int) (w : World), RV w b off c n X D → D.length = n → Ex [b] w0 w →
    Dist D → ∀ (p m q : Nat), p < m → m < q → q ≤ n → q - p ≤ N → Srt cv D p m → Srt cv D m q → Xs D p m q →
    Calls Tryd.prog 140 #[.slice (some ⟨b, off, none⟩) n c, .int .i64 (p : Nat), .int .i64 (m : Nat), .int .i64 (q : Nat), .func (.func 79) #[] #[.pointer (some ⟨sp, 0, none⟩)]] w fun e w' => e = .returned (.tuple #[]) ∧ ∃ D', RV w' b off c n X D' ∧ Ex [b] w0 w' ∧ Mv D D' p q ∧ Srt cv D' p q := by
  replace hcv := Lib.hid hcv
  replace hcmp := Lib.hid hcmp
  replace hXs := Lib.hid hXs
  intro N
  induction N with
  | zero => intro D w _ _ _ _ p m q h1 h2 h3 h4; omega
  | succ N ih =>
  replace ih := Lib.hid ih
  intro D w hR hn hx hd p m q hpm hmq hq hN su sw hX
  replace hd := Lib.hid hd
  replace su := Lib.hid su
  replace sw := Lib.hid sw
  replace hX := Lib.hid hX
  have hbl0 := hR.lt
  have hcells : Hid (∀ w', Below w.heap.size w w' → ∀ x, x < n → w'.cell? ⟨b, off + x, none⟩ = some (gv X (gi D x).toNat)) := Lib.hid (fun w' hb x hx1 => ((hR.below hb).cells hx1 hn).1)
  replace hn := Lib.hid hn
  replace hR := Lib.hid hR
  replace hx := Lib.hid hx
  by_cases hm1 : m = p + 1
  · have e0 : (m : Int) - (p : Int) = 1 := by omega
    replace hm1 := Lib.hid hm1
    go_enter Tryd.func140, Tryd.ntmps140
    go_wp2
    go_loopw [10, 11] (fun iv jv wr => ∃ (i j : Nat), m ≤ i ∧ i ≤ j ∧ j ≤ q ∧ iv = .int .i64 (i : Nat) ∧ jv = .int .i64 (j : Nat) ∧ Below w.heap.size w wr ∧ (∀ h, m ≤ h → h < i → cv (gi D h) (gi D p) < 0) ∧ (∀ h, j ≤ h → h < q → 0 ≤ cv (gi D h) (gi D p))) (fun iv jv _ => (intOf jv).toNat - (intOf iv).toNat)
    case atStart => exact ⟨m, q, Nat.le_refl _, by omega, Nat.le_refl _, rfl, rfl, Below.refl _ _, fun h h1 h2 => by omega, fun h h1 h2 => by omega⟩
    case round =>
      obtain ⟨i, j, hmi, hij, hjq, rfl, rfl, hbl, hlo, hhi⟩ := hrel
      have hbw : b < wr.heap.size := Nat.lt_of_lt_of_le hbl0 hbl.size
      replace hlo := Lib.hid hlo
      replace hhi := Lib.hid hhi
      by_cases hlt : i < j
      · have hlti : (i : Int) < (j : Int) := by omega
        have hw1 : IntKind.u64.wrap ((i : Int) + (j : Int)) = (i : Int) + (j : Int) := IntWalk.u64_in _ (by omega)
        obtain ⟨h, hh⟩ : ∃ h, h = (i + j) / 2 := ⟨_, rfl⟩
        have hw2 : ((i : Int) + (j : Int)) / 2 = (h : Int) := by omega
        have hw3 : IntKind.i64.wrap (h : Int) = (h : Int) := IntWalk.i64_in _ (by omega)
        have hih : i ≤ h := by omega
        have hhj : h < j := by omega
        replace hh := Lib.hid hh
        have hc1' := hcells.out wr hbl h (by omega)
        have hc2' := hcells.out wr hbl p (by omega)
        have hh0 : (0 : Int) ≤ (h : Int) := by omega
        have hp0 : (0 : Int) ≤ (p : Int) := by omega
        have hhn : (h : Int) < (n : Int) := by omega
        have hpn : (p : Int) < (n : Int) := by omega
        -- what the comparison tells of the places between
        have hlo2 : cv (gi D h) (gi D p) < 0 → ∀ x, m ≤ x → x < h + 1 → cv (gi D x) (gi D p) < 0 := fun hz x h1 h2 => by
          by_cases e : x = h
          · rw [e]; exact hz
          · have := sw.out x h h1 (by omega) (by omega)
            exact hcv.out.lt_trans (by rcases this with g | g <;> omega) (by omega) (.inr hz)
        have hhi2 : ¬ cv (gi D h) (gi D p) < 0 → ∀ x, h ≤ x → x < q → 0 ≤ cv (gi D x) (gi D p) := fun hz x h1 h2 => by
          by_cases e : x = h
          · rw [e]; omega
          · have := sw.out h x (by omega) (by omega) h2
            rcases Int.lt_or_le (cv (gi D x) (gi D p)) 0 with g | g
            · exact absurd (hcv.out.lt_trans (by rcases this with g | g <;> omega) (by omega) (.inr g)) hz
            · exact g
        have hcl := Lib.hid (hcmp.out wr.drew (gi D h) (gi D p) (show Ex [b] w0 wr.drew from (hx.out.trans (Ex.of_below hbl)).drewN 1))
        generalize hz : cv (gi D h) (gi D p) = z at *
        have hUs := hXs.out (gi D h).toNat
        have hVs := hXs.out (gi D p).toNat
        generalize gv X (gi D h).toNat = U at *
        generalize gv X (gi D p).toNat = V at *
        obtain ⟨u1, u2, u3, rfl⟩ := hUs
        obtain ⟨v1, v2, v3, rfl⟩ := hVs
        replace hbl := Lib.hid hbl
        replace hz := Lib.hid hz
        by_cases hz0 : z < 0
        · have hE := Lib.hid (hlo2 hz0)
          clear hlo2 hhi2
          go_wp2
          go_region_held3 (fun w' => w'.cell? ⟨b, off + h, none⟩ = some (.slice u1 u2 u3) ∧ w'.cell? ⟨b, off + p, none⟩ = some (.slice v1 v2 v3)) ((first | exact ⟨(hbel.cell (p := ⟨b, off + h, none⟩) hbw).trans hc1', (hbel.cell (p := ⟨b, off + p, none⟩) hbw).trans hc2'⟩ | go_keep)) ((go_at_call 79; refine hcl.out.mono ?_; rintro e w' ⟨rfl, hbel⟩))
          have hbl2 := Lib.hid (Below.next hbl.out (show Below wr.heap.size wr w' from Below.next (w := wr.drew) (Below.drewN (Below.refl _ _) 1) hbel))
          clear hbel
          go_wp2
          go_roundw
          case rel => exact ⟨h + 1, j, by omega, by omega, by omega, by go_num, rfl, hbl2.out, hE.out, hhi.out⟩
          case measure => simp [intOf]; omega
        · have hE := Lib.hid (hhi2 hz0)
          clear hlo2 hhi2
          go_wp2
          go_region_held3 (fun w' => w'.cell? ⟨b, off + h, none⟩ = some (.slice u1 u2 u3) ∧ w'.cell? ⟨b, off + p, none⟩ = some (.slice v1 v2 v3)) ((first | exact ⟨(hbel.cell (p := ⟨b, off + h, none⟩) hbw).trans hc1', (hbel.cell (p := ⟨b, off + p, none⟩) hbw).trans hc2'⟩ | go_keep)) ((go_at_call 79; refine hcl.out.mono ?_; rintro e w' ⟨rfl, hbel⟩))
          have hbl2 := Lib.hid (Below.next hbl.out (show Below wr.heap.size wr w' from Below.next (w := wr.drew) (Below.drewN (Below.refl _ _) 1) hbel))
          clear hbel
          go_wp2
          go_roundw
          case rel => exact ⟨i, h, hmi, by omega, by omega, rfl, rfl, hbl2.out, hlo.out, hE.out⟩
          case measure => simp [intOf]; omega
      · obtain rfl : i = j := by omega
        have hlti : ¬ (i : Int) < (i : Int) := by omega
        have hRk := Lib.hid (hR.out.below hbl)
        have hxk := Lib.hid (hx.out.trans (Ex.of_below hbl))
        clear hR hx hcells ih
        go_wp2
        go_loopw [13] (fun kv wr => ∃ (kk : Nat) (D' : List Int), p ≤ kk ∧ kk + 1 ≤ i ∧ kv = .int .i64 (kk : Nat) ∧ RV wr b off c n X D' ∧ Ex [b] w0 wr ∧ Mv D D' p q ∧ ∀ t, gi D' t = if p ≤ t ∧ t < kk then gi D (t + 1) else if t = kk then gi D p else gi D t) (fun kv _ => q - (intOf kv).toNat)
        case atStart => exact ⟨p, D, Nat.le_refl _, by omega, rfl, hRk.out, hxk.out, Mv.refl _ _ _, fun t => by
          rw [if_neg (by omega)]
          split
          · rename_i e; rw [e]
          · rfl⟩
        case round =>
          clear hRk hxk
          obtain ⟨kk, D', hpk, hki, rfl, hR, hx, hm, hf⟩ := hrel
          have hl := hm.len
          rw [hn.out] at hl
          replace hl := Lib.hid hl
          by_cases hk : kk + 1 < i
          · have hki1 : (kk : Int) < (i : Int) - 1 := by omega
            obtain ⟨k1, hk1⟩ : ∃ k1, k1 = kk + 1 := ⟨_, rfl⟩
            have hk1i : (kk : Int) + 1 = (k1 : Int) := by omega
            obtain ⟨hc1', hfz⟩ := hR.cells (i := kk) (by omega) hl.out
            obtain ⟨hc2', _⟩ := hR.cells (i := k1) (by omega) hl.out
            have hf1 := hfz (off + kk)
            have hf2 := hfz (off + k1)
            have hset0 := hR.swap (i := kk) (j := k1) (by omega) (by omega) hl.out
            have hset := Lib.hid hset0
            have hm2 := Lib.hid (hm.trans (Mv.swp (D := D') (a := p) (b := q) (i := kk) (j := k1) (by omega) (by omega) (by omega) (by rw [hl.out]; omega)))
            have hfu : Hid (∀ t, gi (swp D' kk k1) t = if p ≤ t ∧ t < k1 then gi D (t + 1) else if t = k1 then gi D p else gi D t) := Lib.hid (by
              subst hk1
              exact up_step hpk (by rw [hl.out]; omega) hf)
            have hkn : (kk : Int) < (n : Int) := by omega
            have hkn2 : (k1 : Int) < (n : Int) := by omega
            have hnk : ¬ kk = k1 := by omega
            have hnk2 : ¬ k1 = kk := by omega
            replace hk1 := Lib.hid hk1
            replace hx := Lib.hid hx
            clear hR hm hf hset0 hfz
            have hUs := hXs.out (gi D' kk).toNat
            have hVs := hXs.out (gi D' k1).toNat
            generalize gv X (gi D' kk).toNat = U at *
            generalize gv X (gi D' k1).toNat = V at *
            obtain ⟨u1, u2, u3, rfl⟩ := hUs
            obtain ⟨v1, v2, v3, rfl⟩ := hVs
            go_wp2
            go_region
            go_wp2
            go_roundw
            case rel => exact ⟨k1, _, by have := hk1.out; omega, by have := hk1.out; omega, by first | rfl | go_num, hset.out, Ex.set2V (hx.out.drewN _) (by simp), hm2.out, hfu.out⟩
            case measure => simp [intOf]; omega
          · have hki1 : ¬ (kk : Int) < (i : Int) - 1 := by omega
            have hki2 : kk + 1 = i := by omega
            have hfin := Lib.hid (merge_first hcv.out (D := D) (D' := D') (a := p) (b := q) (p := i) (by rw [← hm1.out]; exact sw.out) (by rw [← hm1.out]; exact hX.out) (by have := hm1.out; omega) hjq (fun h h1 h2 => hlo.out h (by have := hm1.out; omega) h2) (fun h h1 h2 => by have := hhi.out h h1 h2; omega) (fun t h1 h2 => by
              rw [hf t]
              by_cases c1 : t < kk
              · rw [if_pos ⟨h1, c1⟩, if_pos (by omega)]
              · rw [if_neg (by omega), if_neg (show ¬ t + 1 < i by omega)]
                by_cases c2 : t = kk
                · rw [if_pos c2, if_pos (by omega)]
                · rw [if_neg c2, if_neg (by omega)]))
            replace hR := Lib.hid hR
            replace hx := Lib.hid hx
            replace hm := Lib.hid hm
            replace hki2 := Lib.hid hki2
            clear hf
            go_wp2
            try simp only [Exit.inBlock, Exit.then]
            refine bodyPost_ret (results_none rfl _ _ _) rfl ?_
            exact ⟨rfl, D', hR.out, hx.out, hm.out, hfin.out⟩
  · have e0 : ((m : Int) - (p : Int) == 1) = false := by simp; omega
    by_cases hm2 : q = m + 1
    · have e1 : (q : Int) - (m : Int) = 1 := by omega
      replace hm2 := Lib.hid hm2
      go_enter Tryd.func140, Tryd.ntmps140
      go_wp2
      go_loopw [14, 15] (fun iv jv wr => ∃ (i j : Nat), p ≤ i ∧ i ≤ j ∧ j ≤ m ∧ iv = .int .i64 (i : Nat) ∧ jv = .int .i64 (j : Nat) ∧ Below w.heap.size w wr ∧ (∀ h, p ≤ h → h < i → 0 ≤ cv (gi D m) (gi D h)) ∧ (∀ h, j ≤ h → h < m → cv (gi D m) (gi D h) < 0)) (fun iv jv _ => (intOf jv).toNat - (intOf iv).toNat)
      case atStart => exact ⟨p, m, Nat.le_refl _, by omega, Nat.le_refl _, rfl, rfl, Below.refl _ _, fun h h1 h2 => by omega, fun h h1 h2 => by omega⟩
      case round =>
        obtain ⟨i, j, hmi, hij, hjq, rfl, rfl, hbl, hlo, hhi⟩ := hrel
        have hbw : b < wr.heap.size := Nat.lt_of_lt_of_le hbl0 hbl.size
        replace hlo := Lib.hid hlo
        replace hhi := Lib.hid hhi
        by_cases hlt : i < j
        · have hlti : (i : Int) < (j : Int) := by omega
          have hw1 : IntKind.u64.wrap ((i : Int) + (j : Int)) = (i : Int) + (j : Int) := IntWalk.u64_in _ (by omega)
          obtain ⟨h, hh⟩ : ∃ h, h = (i + j) / 2 := ⟨_, rfl⟩
          have hw2 : ((i : Int) + (j : Int)) / 2 = (h : Int) := by omega
          have hw3 : IntKind.i64.wrap (h : Int) = (h : Int) := IntWalk.i64_in _ (by omega)
          have hih : i ≤ h := by omega
          have hhj : h < j := by omega
          replace hh := Lib.hid hh
          have hc1' := hcells.out wr hbl h (by omega)
          have hc2' := hcells.out wr hbl m (by omega)
          have hh0 : (0 : Int) ≤ (h : Int) := by omega
          have hm0 : (0 : Int) ≤ (m : Int) := by omega
          have hhn : (h : Int) < (n : Int) := by omega
          have hpn : (m : Int) < (n : Int) := by omega
          have hlo2 : ¬ cv (gi D m) (gi D h) < 0 → ∀ x, p ≤ x → x < h + 1 → 0 ≤ cv (gi D m) (gi D x) := fun hz x h1 h2 => by
            by_cases e : x = h
            · rw [e]; omega
            · have := su.out x h h1 (by omega) (by omega)
              rcases Int.lt_or_le (cv (gi D m) (gi D x)) 0 with g | g
              · exact absurd (hcv.out.lt_trans (by omega) (by rcases this with g | g <;> omega) (.inl g)) hz
              · exact g
          have hhi2 : cv (gi D m) (gi D h) < 0 → ∀ x, h ≤ x → x < m → cv (gi D m) (gi D x) < 0 := fun hz x h1 h2 => by
            by_cases e : x = h
            · rw [e]; exact hz
            · have := su.out h x (by omega) (by omega) h2
              exact hcv.out.lt_trans (by omega) (by rcases this with g | g <;> omega) (.inl hz)
          have hcl := Lib.hid (hcmp.out wr.drew (gi D m) (gi D h) (show Ex [b] w0 wr.drew from (hx.out.trans (Ex.of_below hbl)).drewN 1))
          generalize hz : cv (gi D m) (gi D h) = z at *
          have hUs := hXs.out (gi D h).toNat
          have hVs := hXs.out (gi D m).toNat
          generalize gv X (gi D h).toNat = U at *
          generalize gv X (gi D m).toNat = V at *
          obtain ⟨u1, u2, u3, rfl⟩ := hUs
          obtain ⟨v1, v2, v3, rfl⟩ := hVs
          replace hbl := Lib.hid hbl
          replace hz := Lib.hid hz
          by_cases hz0 : z < 0
          · have hE := Lib.hid (hhi2 hz0)
            clear hlo2 hhi2
            go_wp2
            go_region_held3 (fun w' => w'.cell? ⟨b, off + h, none⟩ = some (.slice u1 u2 u3) ∧ w'.cell? ⟨b, off + m, none⟩ = some (.slice v1 v2 v3)) ((first | exact ⟨(hbel.cell (p := ⟨b, off + h, none⟩) hbw).trans hc1', (hbel.cell (p := ⟨b, off + m, none⟩) hbw).trans hc2'⟩ | go_keep)) ((go_at_call 79; refine hcl.out.mono ?_; rintro e w' ⟨rfl, hbel⟩))
            have hbl2 := Lib.hid (Below.next hbl.out (show Below wr.heap.size wr w' from Below.next (w := wr.drew) (Below.drewN (Below.refl _ _) 1) hbel))
            clear hbel
            go_wp2
            go_roundw
            case rel => exact ⟨i, h, hmi, by omega, by omega, rfl, rfl, hbl2.out, hlo.out, hE.out⟩
            case measure => simp [intOf]; omega
          · have hE := Lib.hid (hlo2 hz0)
            have hzd : decide (z < 0) = false := decide_eq_false hz0
            have hzp : 0 ≤ z := by omega
            clear hlo2 hhi2
            go_wp2
            go_region_held3 (fun w' => w'.cell? ⟨b, off + h, none⟩ = some (.slice u1 u2 u3) ∧ w'.cell? ⟨b, off + m, none⟩ = some (.slice v1 v2 v3)) ((first | exact ⟨(hbel.cell (p := ⟨b, off + h, none⟩) hbw).trans hc1', (hbel.cell (p := ⟨b, off + m, none⟩) hbw).trans hc2'⟩ | go_keep)) ((go_at_call 79; refine hcl.out.mono ?_; rintro e w' ⟨rfl, hbel⟩))
            have hbl2 := Lib.hid (Below.next hbl.out (show Below wr.heap.size wr w' from Below.next (w := wr.drew) (Below.drewN (Below.refl _ _) 1) hbel))
            clear hbel
            try rw [hzd]
            go_wp2
            go_roundw
            case rel => exact ⟨h + 1, j, by omega, by omega, by omega, by go_num, rfl, hbl2.out, hE.out, hhi.out⟩
            case measure => simp [intOf]; omega
        · obtain rfl : i = j := by omega
          have hlti : ¬ (i : Int) < (i : Int) := by omega
          have hRk := Lib.hid (hR.out.below hbl)
          have hxk := Lib.hid (hx.out.trans (Ex.of_below hbl))
          clear hR hx hcells ih
          go_wp2
          go_loopw [17] (fun kv wr => ∃ (kk : Nat) (D' : List Int), i ≤ kk ∧ kk ≤ m ∧ kv = .int .i64 (kk : Nat) ∧ RV wr b off c n X D' ∧ Ex [b] w0 wr ∧ Mv D D' p q ∧ ∀ t, gi D' t = if kk < t ∧ t ≤ m then gi D (t - 1) else if t = kk then gi D m else gi D t) (fun kv _ => (intOf kv).toNat)
          case atStart => exact ⟨m, D, by omega, Nat.le_refl _, rfl, hRk.out, hxk.out, Mv.refl _ _ _, fun t => by
            rw [if_neg (by omega)]
            split
            · rename_i e; rw [e]
            · rfl⟩
          case round =>
            clear hRk hxk
            obtain ⟨kk, D', hpk, hki, rfl, hR, hx, hm, hf⟩ := hrel
            have hl := hm.len
            rw [hn.out] at hl
            replace hl := Lib.hid hl
            by_cases hk : i < kk
            · have hki1 : (i : Int) < (kk : Int) := by omega
              obtain ⟨k', hk'⟩ : ∃ k', kk = k' + 1 := ⟨kk - 1, by omega⟩
              obtain ⟨hc1', hfz⟩ := hR.cells (i := kk) (by omega) hl.out
              obtain ⟨hc2', _⟩ := hR.cells (i := k') (by omega) hl.out
              have hf1 := hfz (off + kk)
              have hf2 := hfz (off + k')
              have hset0 := hR.swap (i := kk) (j := k') (by omega) (by omega) hl.out
              rw [swp_comm (by rw [hl.out]; omega) (by rw [hl.out]; omega)] at hset0
              have hset := Lib.hid hset0
              have hm2_ := Lib.hid (hm.trans (Mv.swp (D := D') (a := p) (b := q) (i := k') (j := kk) (by omega) (by omega) (by have := hm2.out; omega) (by rw [hl.out]; omega)))
              have hfu : Hid (∀ t, gi (swp D' k' kk) t = if k' < t ∧ t ≤ m then gi D (t - 1) else if t = k' then gi D m else gi D t) := Lib.hid (by
                subst hk'
                exact down_step (by omega) (by rw [hl.out]; omega) hf)
              have hkn : (kk : Int) < (n : Int) := by omega
              have hkn2 : (k' : Int) < (n : Int) := by omega
              have hkk : (kk : Int) - 1 = (k' : Int) := by omega
              have hnk : ¬ kk = k' := by omega
              have hnk2 : ¬ k' = kk := by omega
              replace hk' := Lib.hid hk'
              replace hx := Lib.hid hx
              clear hR hm hf hset0 hfz
              have hUs := hXs.out (gi D' kk).toNat
              have hVs := hXs.out (gi D' k').toNat
              generalize gv X (gi D' kk).toNat = U at *
              generalize gv X (gi D' k').toNat = V at *
              obtain ⟨u1, u2, u3, rfl⟩ := hUs
              obtain ⟨v1, v2, v3, rfl⟩ := hVs
              go_wp2
              go_region
              go_wp2
              go_roundw
              case rel => exact ⟨k', _, by have := hk'.out; omega, by have := hk'.out; omega, by first | rfl | go_num, hset.out, Ex.set2V (hx.out.drewN _) (by simp), hm2_.out, hfu.out⟩
              case measure => have := hk'.out; first | (simp [intOf]; done) | (simp [intOf]; omega)
            · have hki1 : ¬ (i : Int) < (kk : Int) := by omega
              have hki2 : kk = i := by omega
              have hfin : Hid (Srt cv D' p q) := Lib.hid (by
                rw [hm2.out]
                exact merge_last hcv.out (D := D) (D' := D') (a := p) (m := m) (p := i) su.out (by rw [← hm2.out]; exact hX.out) hmi hjq (fun h h1 h2 => by have := hlo.out h h1 h2; omega) (fun h h1 h2 => hhi.out h h1 h2) (fun t h1 h2 => by
                  rw [hf t]
                  by_cases c1 : t < i
                  · rw [if_pos c1, if_neg (by omega), if_neg (by omega)]
                  · rw [if_neg c1]
                    by_cases c2 : t = i
                    · rw [if_pos c2, if_neg (by omega), if_pos (by omega)]
                    · rw [if_neg c2, if_pos (by omega)]))
              replace hR := Lib.hid hR
              replace hx := Lib.hid hx
              replace hm := Lib.hid hm
              replace hki2 := Lib.hid hki2
              clear hf
              go_wp2
              try simp only [Exit.inBlock, Exit.then]
              refine bodyPost_ret (results_none rfl _ _ _) rfl ?_
              exact ⟨rfl, D', hR.out, hx.out, hm.out, hfin.out⟩
    · have e1 : ((q : Int) - (m : Int) == 1) = false := by simp; omega
      obtain ⟨mid, hmid⟩ : ∃ mid, mid = (p + q) / 2 := ⟨_, rfl⟩
      have hv1 : IntKind.u64.wrap ((p : Int) + (q : Int)) = (p : Int) + (q : Int) := IntWalk.u64_in _ (by omega)
      have hv2 : ((p : Int) + (q : Int)) / 2 = (mid : Int) := by omega
      have hv3 : IntKind.i64.wrap (mid : Int) = (mid : Int) := IntWalk.i64_in _ (by omega)
      obtain ⟨hb1, hb2, hb3, hb4⟩ : p < mid ∧ mid < q ∧ p + q ≤ 2 * mid + 1 ∧ 2 * mid ≤ p + q := by omega
      replace hmid := Lib.hid hmid
      by_cases hmm : mid < m
      · have hmmi : (m : Int) > (mid : Int) := by omega
        obtain ⟨s0, hs0⟩ : ∃ s0, s0 = mid + m - q := ⟨_, rfl⟩
        have hs0i : (mid : Int) + (m : Int) - (q : Int) = (s0 : Int) := by omega
        have hs0b : p ≤ s0 ∧ s0 ≤ mid ∧ s0 + q = mid + m := by omega
        replace hs0 := Lib.hid hs0
        go_enter Tryd.func140, Tryd.ntmps140
        go_wp2
        go_loopw [20, 21] (fun sv rv wr => ∃ (s r : Nat), s0 ≤ s ∧ s ≤ r ∧ r ≤ mid ∧ sv = .int .i64 (s : Nat) ∧ rv = .int .i64 (r : Nat) ∧ Below w.heap.size w wr ∧ (s = s0 ∨ 0 ≤ cv (gi D (mid + m - s)) (gi D (s - 1))) ∧ (r = mid ∨ cv (gi D (mid + m - 1 - r)) (gi D r) < 0)) (fun sv rv _ => (intOf rv).toNat - (intOf sv).toNat)
        case atStart => exact ⟨s0, mid, Nat.le_refl _, by omega, Nat.le_refl _, by first | rfl | (rw [← hs0i]; rfl), rfl, Below.refl _ _, .inl rfl, .inl rfl⟩
        case round =>
          obtain ⟨s, r, hs1, hsr, hr1, rfl, rfl, hbl, hlo, hhi⟩ := hrel
          have hbw : b < wr.heap.size := Nat.lt_of_lt_of_le hbl0 hbl.size
          replace hlo := Lib.hid hlo
          replace hhi := Lib.hid hhi
          by_cases hlt : s < r
          · have hlti : (s : Int) < (r : Int) := by omega
            have hw1 : IntKind.u64.wrap ((s : Int) + (r : Int)) = (s : Int) + (r : Int) := IntWalk.u64_in _ (by omega)
            obtain ⟨h, hh⟩ : ∃ h, h = (s + r) / 2 := ⟨_, rfl⟩
            have hw2 : ((s : Int) + (r : Int)) / 2 = (h : Int) := by omega
            have hw3 : IntKind.i64.wrap (h : Int) = (h : Int) := IntWalk.i64_in _ (by omega)
            have hih : s ≤ h := by omega
            have hhj : h < r := by omega
            replace hh := Lib.hid hh
            obtain ⟨e, he⟩ : ∃ e, e = mid + m - 1 - h := ⟨_, rfl⟩
            have hei : (mid : Int) + (m : Int) - 1 - (h : Int) = (e : Int) := by omega
            have heb : e < q ∧ m ≤ e := by omega
            have hc1' := hcells.out wr hbl h (by omega)
            have hc2' := hcells.out wr hbl e (by omega)
            have hh0 : (0 : Int) ≤ (h : Int) := by omega
            have hew : IntKind.i64.wrap ((mid : Int) + (m : Int) - 1 - (h : Int)) = (e : Int) := by rw [hei]; exact IntWalk.i64_in _ (by omega)
            have hew2 : IntKind.i64.wrap (e : Int) = (e : Int) := IntWalk.i64_in _ (by omega)
            have hhn : (h : Int) < (n : Int) := by omega
            have hen : (e : Int) < (n : Int) := by omega
            have he0 : (0 : Int) ≤ (e : Int) := by omega
            have hE1 : cv (gi D e) (gi D h) < 0 → (h = mid ∨ cv (gi D (mid + m - 1 - h)) (gi D h) < 0) := fun hz => .inr (by rw [← he]; exact hz)
            have hE0 : 0 ≤ cv (gi D e) (gi D h) → (h + 1 = s0 ∨ 0 ≤ cv (gi D (mid + m - (h + 1))) (gi D (h + 1 - 1))) := fun hz => .inr (by rw [show mid + m - (h + 1) = e by omega, Nat.add_sub_cancel]; exact hz)
            replace he := Lib.hid he
            have hcl := Lib.hid (hcmp.out wr.drew (gi D e) (gi D h) (show Ex [b] w0 wr.drew from (hx.out.trans (Ex.of_below hbl)).drewN 1))
            generalize hz : cv (gi D e) (gi D h) = z at *
            have hUs := hXs.out (gi D h).toNat
            have hVs := hXs.out (gi D e).toNat
            generalize gv X (gi D h).toNat = U at *
            generalize gv X (gi D e).toNat = V at *
            obtain ⟨u1, u2, u3, rfl⟩ := hUs
            obtain ⟨v1, v2, v3, rfl⟩ := hVs
            replace hbl := Lib.hid hbl
            replace hz := Lib.hid hz
            by_cases hz0 : z < 0
            · have hE := Lib.hid (hE1 hz0)
              clear hE1 hE0
              go_wp2
              go_region_held3 (fun w' => w'.cell? ⟨b, off + h, none⟩ = some (.slice u1 u2 u3) ∧ w'.cell? ⟨b, off + e, none⟩ = some (.slice v1 v2 v3)) ((first | exact ⟨(hbel.cell (p := ⟨b, off + h, none⟩) hbw).trans hc1', (hbel.cell (p := ⟨b, off + e, none⟩) hbw).trans hc2'⟩ | go_keep)) ((go_at_call 79; refine hcl.out.mono ?_; rintro e w' ⟨rfl, hbel⟩))
              have hbl2 := Lib.hid (Below.next hbl.out (show Below wr.heap.size wr w' from Below.next (w := wr.drew) (Below.drewN (Below.refl _ _) 1) hbel))
              clear hbel
              go_wp2
              go_roundw
              case rel => exact ⟨s, h, hs1, by omega, by omega, rfl, rfl, hbl2.out, hlo.out, hE.out⟩
              case measure => simp [intOf]; omega
            · have hzp : 0 ≤ z := by omega
              have hE := Lib.hid (hE0 hzp)
              have hzd : decide (z < 0) = false := decide_eq_false hz0
              clear hE1 hE0
              go_wp2
              go_region_held3 (fun w' => w'.cell? ⟨b, off + h, none⟩ = some (.slice u1 u2 u3) ∧ w'.cell? ⟨b, off + e, none⟩ = some (.slice v1 v2 v3)) ((first | exact ⟨(hbel.cell (p := ⟨b, off + h, none⟩) hbw).trans hc1', (hbel.cell (p := ⟨b, off + e, none⟩) hbw).trans hc2'⟩ | go_keep)) ((go_at_call 79; refine hcl.out.mono ?_; rintro e w' ⟨rfl, hbel⟩))
              have hbl2 := Lib.hid (Below.next hbl.out (show Below wr.heap.size wr w' from Below.next (w := wr.drew) (Below.drewN (Below.refl _ _) 1) hbel))
              clear hbel
              try rw [hzd]
              go_wp2
              go_roundw
              case rel => exact ⟨h + 1, r, by omega, by omega, hr1, by go_num, rfl, hbl2.out, hE.out, hhi.out⟩
              case measure => simp [intOf]; omega
          · obtain rfl : s = r := by omega
            have hlti : ¬ (s : Int) < (s : Int) := by omega
            obtain ⟨fin, hfin⟩ : ∃ fin, fin = mid + m - s := ⟨_, rfl⟩
            have hfi : (mid : Int) + (m : Int) - (s : Int) = (fin : Int) := by omega
            have hfb : m ≤ fin ∧ fin ≤ q ∧ s + fin = mid + m ∧ s ≤ m ∧ p ≤ s ∧ s ≤ mid := by omega
            have hk1 : Hid (p < s → fin < q → ¬ cv (gi D fin) (gi D (s - 1)) < 0) := Lib.hid (fun g1 g2 => by
              rcases hlo.out with e | e
              · omega
              · rw [← hfin] at e; omega)
            have hk2 : Hid (s < m → m < fin → cv (gi D (fin - 1)) (gi D s) < 0) := Lib.hid (fun g1 g2 => by
              rcases hhi.out with e | e
              · omega
              · rw [show fin - 1 = mid + m - 1 - s by omega]; exact e)
            have hRk := Lib.hid (hR.out.below hbl)
            have hxk := Lib.hid (hx.out.trans (Ex.of_below hbl))
            obtain ⟨hf1, hf2, hf3, hf4, hf5, hf6⟩ := hfb
            replace hfin := Lib.hid hfin
            clear hlo hhi hR hx hcells
            by_cases hsm : s < mid
            · skip
              have a1 : (s : Int) < (m : Int) := by omega
              have a2 : (m : Int) < (fin : Int) := by omega
              have hrr := Lib.hid (fun fv => rotateV_any w0 b off c n X hXs.out fv D wr hRk.out hn.out hxk.out s m fin (by omega) (by omega) (by omega) hc1)
              go_wp2_with fail
              refine (hrr.out _).mono ?_
              rintro e w1 ⟨rfl, D1, hR1, hx1, hrt, hmv⟩
              have hmv1 := Lib.hid (hmv.mono (a' := p) (b' := q) (by omega) (by omega))
              replace hR1 := Lib.hid hR1
              replace hx1 := Lib.hid hx1
              replace hrt := Lib.hid hrt
              clear hrr hmv hRk hxk
              obtain ⟨k1, k2, k3, k4, k5, k6, k7⟩ := cut_halves hcv.out su.out sw.out hX.out hf5 hf4 hf1 hf2 hf3 hb1 hb2 (fun g1 g2 => by have := hk1.out g1 g2; omega) hk2.out hrt.out
              replace k1 := Lib.hid k1
              replace k2 := Lib.hid k2
              replace k3 := Lib.hid k3
              replace k4 := Lib.hid k4
              replace k5 := Lib.hid k5
              replace k6 := Lib.hid k6
              replace k7 := Lib.hid k7
              have hl1 := Lib.hid (hmv1.out.len.trans hn.out)
              have hd1 := Lib.hid (hmv1.out.dist hd.out)
              by_cases hps : p < s
              · have g1 : (p : Int) < (s : Int) := by omega
                have g2 : (s : Int) < (mid : Int) := by omega
                have hr2 := Lib.hid (ih.out D1 w1 hR1.out hl1.out hx1.out hd1.out p s mid (by omega) (by omega) (by omega) (by omega) k1.out k2.out k5.out)
                go_wp2_with fail
                refine hr2.out.mono ?_
                rintro e w2 ⟨rfl, D2, hR2, hx2, hm12, hs2⟩
                have hl2 := Lib.hid (hm12.len.trans hl1.out)
                have hd2 := Lib.hid (hm12.dist hd1.out)
                replace hR2 := Lib.hid hR2
                replace hx2 := Lib.hid hx2
                replace hm12 := Lib.hid hm12
                replace hs2 := Lib.hid hs2
                clear hr2
                by_cases hfq : fin < q
                · have g3 : (mid : Int) < (fin : Int) := by omega
                  have g4 : (fin : Int) < (q : Int) := by omega
                  have hr3 := Lib.hid (ih.out D2 w2 hR2.out hl2.out hx2.out hd2.out mid fin q (by omega) (by omega) hq (by omega) (k3.out.congr (fun i g1 g2 => hm12.out.out i (by omega))) (k4.out.congr (fun i g1 g2 => hm12.out.out i (by omega))) (fun i j g1 g2 g3 g4 => by rw [hm12.out.out i (by omega), hm12.out.out j (by omega)]; exact k6.out i j g1 g2 g3 g4))
                  go_wp2_with fail
                  refine hr3.out.mono ?_
                  rintro e w3 ⟨rfl, D3, hR3, hx3, hm3, hs3⟩
                  have hdone := Lib.hid (halves_done hm12.out hm3 hs2.out hs3 k7.out (by omega) (by omega))
                  have hmvf := Lib.hid (hmv1.out.trans hdone.out.2)
                  replace hR3 := Lib.hid hR3
                  replace hx3 := Lib.hid hx3
                  clear hr3 hm3 hs3
                  go_wp2
                  go_end0
                  exact ⟨rfl, D3, hR3.out, hx3.out, hmvf.out, hdone.out.1⟩
                · have g3 : (mid : Int) < (fin : Int) := by omega
                  have g4 : ¬ (fin : Int) < (q : Int) := by omega
                  have hs3 : Srt cv D2 mid q := by
                    first
                      | (rw [show mid = fin by omega]; exact k4.out.congr (fun i g1 g2 => hm12.out.out i (by omega)))
                      | (rw [show q = fin by omega]; exact k3.out.congr (fun i g1 g2 => hm12.out.out i (by omega)))
                  have hdone := Lib.hid (halves_done hm12.out (Mv.refl _ mid q) hs2.out hs3 k7.out (by omega) (by omega))
                  have hmvf := Lib.hid (hmv1.out.trans hdone.out.2)
                  clear hs3
                  go_wp2
                  go_end0
                  exact ⟨rfl, D2, hR2.out, hx2.out, hmvf.out, hdone.out.1⟩
              · have g1 : ¬ (p : Int) < (s : Int) := by omega
                have hs2 : Hid (Srt cv D1 p mid) := Lib.hid (by
                  first
                    | (rw [show mid = s by omega]; exact k1.out)
                    | (rw [show p = s by omega]; exact k2.out))
                have hm12 := Lib.hid (Mv.refl D1 p mid)
                have hl2 := hl1
                have hd2 := hd1
                by_cases hfq : fin < q
                · have g3 : (mid : Int) < (fin : Int) := by omega
                  have g4 : (fin : Int) < (q : Int) := by omega
                  have hr3 := Lib.hid (ih.out D1 w1 hR1.out hl2.out hx1.out hd2.out mid fin q (by omega) (by omega) hq (by omega) (k3.out.congr (fun i g1 g2 => hm12.out.out i (by omega))) (k4.out.congr (fun i g1 g2 => hm12.out.out i (by omega))) (fun i j g1 g2 g3 g4 => by rw [hm12.out.out i (by omega), hm12.out.out j (by omega)]; exact k6.out i j g1 g2 g3 g4))
                  go_wp2_with fail
                  refine hr3.out.mono ?_
                  rintro e w3 ⟨rfl, D3, hR3, hx3, hm3, hs3⟩
                  have hdone := Lib.hid (halves_done hm12.out hm3 hs2.out hs3 k7.out (by omega) (by omega))
                  have hmvf := Lib.hid (hmv1.out.trans hdone.out.2)
                  replace hR3 := Lib.hid hR3
                  replace hx3 := Lib.hid hx3
                  clear hr3 hm3 hs3
                  go_wp2
                  go_end0
                  exact ⟨rfl, D3, hR3.out, hx3.out, hmvf.out, hdone.out.1⟩
                · have g3 : (mid : Int) < (fin : Int) := by omega
                  have g4 : ¬ (fin : Int) < (q : Int) := by omega
                  have hs3 : Srt cv D1 mid q := by
                    first
                      | (rw [show mid = fin by omega]; exact k4.out.congr (fun i g1 g2 => hm12.out.out i (by omega)))
                      | (rw [show q = fin by omega]; exact k3.out.congr (fun i g1 g2 => hm12.out.out i (by omega)))
                  have hdone := Lib.hid (halves_done hm12.out (Mv.refl _ mid q) hs2.out hs3 k7.out (by omega) (by omega))
                  have hmvf := Lib.hid (hmv1.out.trans hdone.out.2)
                  clear hs3
                  go_wp2
                  go_end0
                  exact ⟨rfl, D1, hR1.out, hx1.out, hmvf.out, hdone.out.1⟩
            · have a1 : (s : Int) < (m : Int) := by omega
              have a2 : ¬ (m : Int) < (fin : Int) := by omega
              have hfm : fin = m := by omega
              have hrt : Hid (Rt D D s m fin) := Lib.hid (by rw [hfm]; exact Rt.idr D s m)
              have hmv1 := Lib.hid (Mv.refl D p q)
              replace hfm := Lib.hid hfm
              obtain ⟨k1, k2, k3, k4, k5, k6, k7⟩ := cut_halves hcv.out su.out sw.out hX.out hf5 hf4 hf1 hf2 hf3 hb1 hb2 (fun g1 g2 => by have := hk1.out g1 g2; omega) hk2.out hrt.out
              replace k1 := Lib.hid k1
              replace k2 := Lib.hid k2
              replace k3 := Lib.hid k3
              replace k4 := Lib.hid k4
              replace k5 := Lib.hid k5
              replace k6 := Lib.hid k6
              replace k7 := Lib.hid k7
              have hl1 := Lib.hid (hmv1.out.len.trans hn.out)
              have hd1 := Lib.hid (hmv1.out.dist hd.out)
              have g1 : (p : Int) < (s : Int) := by omega
              have g2 : ¬ (s : Int) < (mid : Int) := by omega
              have hs2 : Hid (Srt cv D p mid) := Lib.hid (by
                first
                  | (rw [show mid = s by omega]; exact k1.out)
                  | (rw [show p = s by omega]; exact k2.out))
              have hm12 := Lib.hid (Mv.refl D p mid)
              have hl2 := hl1
              have hd2 := hd1
              have hfm2 := hfm.out
              have g3 : (mid : Int) < (fin : Int) := by omega
              have g4 : (fin : Int) < (q : Int) := by omega
              clear hfm2
              have hr3 := Lib.hid (ih.out D wr hRk.out hl2.out hxk.out hd2.out mid fin q (by omega) (by omega) hq (by omega) (k3.out.congr (fun i g1 g2 => hm12.out.out i (by omega))) (k4.out.congr (fun i g1 g2 => hm12.out.out i (by omega))) (fun i j g1 g2 g3 g4 => by rw [hm12.out.out i (by omega), hm12.out.out j (by omega)]; exact k6.out i j g1 g2 g3 g4))
              go_wp2_with fail
              refine hr3.out.mono ?_
              rintro e w3 ⟨rfl, D3, hR3, hx3, hm3, hs3⟩
              have hdone := Lib.hid (halves_done hm12.out hm3 hs2.out hs3 k7.out (by omega) (by omega))
              have hmvf := Lib.hid (hmv1.out.trans hdone.out.2)
              replace hR3 := Lib.hid hR3
              replace hx3 := Lib.hid hx3
              clear hr3 hm3 hs3
              go_wp2
              go_end0
              exact ⟨rfl, D3, hR3.out, hx3.out, hmvf.out, hdone.out.1⟩
      · have hmmi : ¬ (m : Int) > (mid : Int) := by omega
        go_enter Tryd.func140, Tryd.ntmps140
        go_wp2
        go_loopw [20, 21] (fun sv rv wr => ∃ (s r : Nat), p ≤ s ∧ s ≤ r ∧ r ≤ m ∧ sv = .int .i64 (s : Nat) ∧ rv = .int .i64 (r : Nat) ∧ Below w.heap.size w wr ∧ (s = p ∨ 0 ≤ cv (gi D (mid + m - s)) (gi D (s - 1))) ∧ (r = m ∨ cv (gi D (mid + m - 1 - r)) (gi D r) < 0)) (fun sv rv _ => (intOf rv).toNat - (intOf sv).toNat)
        case atStart => exact ⟨p, m, Nat.le_refl _, by omega, Nat.le_refl _, rfl, rfl, Below.refl _ _, .inl rfl, .inl rfl⟩
        case round =>
          obtain ⟨s, r, hs1, hsr, hr1, rfl, rfl, hbl, hlo, hhi⟩ := hrel
          have hbw : b < wr.heap.size := Nat.lt_of_lt_of_le hbl0 hbl.size
          replace hlo := Lib.hid hlo
          replace hhi := Lib.hid hhi
          by_cases hlt : s < r
          · have hlti : (s : Int) < (r : Int) := by omega
            have hw1 : IntKind.u64.wrap ((s : Int) + (r : Int)) = (s : Int) + (r : Int) := IntWalk.u64_in _ (by omega)
            obtain ⟨h, hh⟩ : ∃ h, h = (s + r) / 2 := ⟨_, rfl⟩
            have hw2 : ((s : Int) + (r : Int)) / 2 = (h : Int) := by omega
            have hw3 : IntKind.i64.wrap (h : Int) = (h : Int) := IntWalk.i64_in _ (by omega)
            have hih : s ≤ h := by omega
            have hhj : h < r := by omega
            replace hh := Lib.hid hh
            obtain ⟨e, he⟩ : ∃ e, e = mid + m - 1 - h := ⟨_, rfl⟩
            have hei : (mid : Int) + (m : Int) - 1 - (h : Int) = (e : Int) := by omega
            have heb : e < q ∧ m ≤ e := by omega
            have hc1' := hcells.out wr hbl h (by omega)
            have hc2' := hcells.out wr hbl e (by omega)
            have hh0 : (0 : Int) ≤ (h : Int) := by omega
            have hew : IntKind.i64.wrap ((mid : Int) + (m : Int) - 1 - (h : Int)) = (e : Int) := by rw [hei]; exact IntWalk.i64_in _ (by omega)
            have hew2 : IntKind.i64.wrap (e : Int) = (e : Int) := IntWalk.i64_in _ (by omega)
            have hhn : (h : Int) < (n : Int) := by omega
            have hen : (e : Int) < (n : Int) := by omega
            have he0 : (0 : Int) ≤ (e : Int) := by omega
            have hE1 : cv (gi D e) (gi D h) < 0 → (h = m ∨ cv (gi D (mid + m - 1 - h)) (gi D h) < 0) := fun hz => .inr (by rw [← he]; exact hz)
            have hE0 : 0 ≤ cv (gi D e) (gi D h) → (h + 1 = p ∨ 0 ≤ cv (gi D (mid + m - (h + 1))) (gi D (h + 1 - 1))) := fun hz => .inr (by rw [show mid + m - (h + 1) = e by omega, Nat.add_sub_cancel]; exact hz)
            replace he := Lib.hid he
            have hcl := Lib.hid (hcmp.out wr.drew (gi D e) (gi D h) (show Ex [b] w0 wr.drew from (hx.out.trans (Ex.of_below hbl)).drewN 1))
            generalize hz : cv (gi D e) (gi D h) = z at *
            have hUs := hXs.out (gi D h).toNat
            have hVs := hXs.out (gi D e).toNat
            generalize gv X (gi D h).toNat = U at *
            generalize gv X (gi D e).toNat = V at *
            obtain ⟨u1, u2, u3, rfl⟩ := hUs
            obtain ⟨v1, v2, v3, rfl⟩ := hVs
            replace hbl := Lib.hid hbl
            replace hz := Lib.hid hz
            by_cases hz0 : z < 0
            · have hE := Lib.hid (hE1 hz0)
              clear hE1 hE0
              go_wp2
              go_region_held3 (fun w' => w'.cell? ⟨b, off + h, none⟩ = some (.slice u1 u2 u3) ∧ w'.cell? ⟨b, off + e, none⟩ = some (.slice v1 v2 v3)) ((first | exact ⟨(hbel.cell (p := ⟨b, off + h, none⟩) hbw).trans hc1', (hbel.cell (p := ⟨b, off + e, none⟩) hbw).trans hc2'⟩ | go_keep)) ((go_at_call 79; refine hcl.out.mono ?_; rintro e w' ⟨rfl, hbel⟩))
              have hbl2 := Lib.hid (Below.next hbl.out (show Below wr.heap.size wr w' from Below.next (w := wr.drew) (Below.drewN (Below.refl _ _) 1) hbel))
              clear hbel
              go_wp2
              go_roundw
              case rel => exact ⟨s, h, hs1, by omega, by omega, rfl, rfl, hbl2.out, hlo.out, hE.out⟩
              case measure => simp [intOf]; omega
            · have hzp : 0 ≤ z := by omega
              have hE := Lib.hid (hE0 hzp)
              have hzd : decide (z < 0) = false := decide_eq_false hz0
              clear hE1 hE0
              go_wp2
              go_region_held3 (fun w' => w'.cell? ⟨b, off + h, none⟩ = some (.slice u1 u2 u3) ∧ w'.cell? ⟨b, off + e, none⟩ = some (.slice v1 v2 v3)) ((first | exact ⟨(hbel.cell (p := ⟨b, off + h, none⟩) hbw).trans hc1', (hbel.cell (p := ⟨b, off + e, none⟩) hbw).trans hc2'⟩ | go_keep)) ((go_at_call 79; refine hcl.out.mono ?_; rintro e w' ⟨rfl, hbel⟩))
              have hbl2 := Lib.hid (Below.next hbl.out (show Below wr.heap.size wr w' from Below.next (w := wr.drew) (Below.drewN (Below.refl _ _) 1) hbel))
              clear hbel
              try rw [hzd]
              go_wp2
              go_roundw
              case rel => exact ⟨h + 1, r, by omega, by omega, hr1, by go_num, rfl, hbl2.out, hE.out, hhi.out⟩
              case measure => simp [intOf]; omega
          · obtain rfl : s = r := by omega
            have hlti : ¬ (s : Int) < (s : Int) := by omega
            obtain ⟨fin, hfin⟩ : ∃ fin, fin = mid + m - s := ⟨_, rfl⟩
            have hfi : (mid : Int) + (m : Int) - (s : Int) = (fin : Int) := by omega
            have hfb : m ≤ fin ∧ fin ≤ q ∧ s + fin = mid + m ∧ s ≤ m ∧ p ≤ s ∧ s ≤ mid := by omega
            have hk1 : Hid (p < s → fin < q → ¬ cv (gi D fin) (gi D (s - 1)) < 0) := Lib.hid (fun g1 g2 => by
              rcases hlo.out with e | e
              · omega
              · rw [← hfin] at e; omega)
            have hk2 : Hid (s < m → m < fin → cv (gi D (fin - 1)) (gi D s) < 0) := Lib.hid (fun g1 g2 => by
              rcases hhi.out with e | e
              · omega
              · rw [show fin - 1 = mid + m - 1 - s by omega]; exact e)
            have hRk := Lib.hid (hR.out.below hbl)
            have hxk := Lib.hid (hx.out.trans (Ex.of_below hbl))
            obtain ⟨hf1, hf2, hf3, hf4, hf5, hf6⟩ := hfb
            replace hfin := Lib.hid hfin
            clear hlo hhi hR hx hcells
            by_cases hsm : s < m
            · skip
              have a1 : (s : Int) < (m : Int) := by omega
              have a2 : (m : Int) < (fin : Int) := by omega
              have hrr := Lib.hid (fun fv => rotateV_any w0 b off c n X hXs.out fv D wr hRk.out hn.out hxk.out s m fin (by omega) (by omega) (by omega) hc1)
              go_wp2_with fail
              refine (hrr.out _).mono ?_
              rintro e w1 ⟨rfl, D1, hR1, hx1, hrt, hmv⟩
              have hmv1 := Lib.hid (hmv.mono (a' := p) (b' := q) (by omega) (by omega))
              replace hR1 := Lib.hid hR1
              replace hx1 := Lib.hid hx1
              replace hrt := Lib.hid hrt
              clear hrr hmv hRk hxk
              obtain ⟨k1, k2, k3, k4, k5, k6, k7⟩ := cut_halves hcv.out su.out sw.out hX.out hf5 hf4 hf1 hf2 hf3 hb1 hb2 (fun g1 g2 => by have := hk1.out g1 g2; omega) hk2.out hrt.out
              replace k1 := Lib.hid k1
              replace k2 := Lib.hid k2
              replace k3 := Lib.hid k3
              replace k4 := Lib.hid k4
              replace k5 := Lib.hid k5
              replace k6 := Lib.hid k6
              replace k7 := Lib.hid k7
              have hl1 := Lib.hid (hmv1.out.len.trans hn.out)
              have hd1 := Lib.hid (hmv1.out.dist hd.out)
              by_cases hps : p < s
              · have g1 : (p : Int) < (s : Int) := by omega
                have g2 : (s : Int) < (mid : Int) := by omega
                have hr2 := Lib.hid (ih.out D1 w1 hR1.out hl1.out hx1.out hd1.out p s mid (by omega) (by omega) (by omega) (by omega) k1.out k2.out k5.out)
                go_wp2_with fail
                refine hr2.out.mono ?_
                rintro e w2 ⟨rfl, D2, hR2, hx2, hm12, hs2⟩
                have hl2 := Lib.hid (hm12.len.trans hl1.out)
                have hd2 := Lib.hid (hm12.dist hd1.out)
                replace hR2 := Lib.hid hR2
                replace hx2 := Lib.hid hx2
                replace hm12 := Lib.hid hm12
                replace hs2 := Lib.hid hs2
                clear hr2
                by_cases hfq : fin < q
                · have g3 : (mid : Int) < (fin : Int) := by omega
                  have g4 : (fin : Int) < (q : Int) := by omega
                  have hr3 := Lib.hid (ih.out D2 w2 hR2.out hl2.out hx2.out hd2.out mid fin q (by omega) (by omega) hq (by omega) (k3.out.congr (fun i g1 g2 => hm12.out.out i (by omega))) (k4.out.congr (fun i g1 g2 => hm12.out.out i (by omega))) (fun i j g1 g2 g3 g4 => by rw [hm12.out.out i (by omega), hm12.out.out j (by omega)]; exact k6.out i j g1 g2 g3 g4))
                  go_wp2_with fail
                  refine hr3.out.mono ?_
                  rintro e w3 ⟨rfl, D3, hR3, hx3, hm3, hs3⟩
                  have hdone := Lib.hid (halves_done hm12.out hm3 hs2.out hs3 k7.out (by omega) (by omega))
                  have hmvf := Lib.hid (hmv1.out.trans hdone.out.2)
                  replace hR3 := Lib.hid hR3
                  replace hx3 := Lib.hid hx3
                  clear hr3 hm3 hs3
                  go_wp2
                  go_end0
                  exact ⟨rfl, D3, hR3.out, hx3.out, hmvf.out, hdone.out.1⟩
                · have g3 : (mid : Int) < (fin : Int) := by omega
                  have g4 : ¬ (fin : Int) < (q : Int) := by omega
                  have hs3 : Srt cv D2 mid q := by
                    first
                      | (rw [show mid = fin by omega]; exact k4.out.congr (fun i g1 g2 => hm12.out.out i (by omega)))
                      | (rw [show q = fin by omega]; exact k3.out.congr (fun i g1 g2 => hm12.out.out i (by omega)))
                  have hdone := Lib.hid (halves_done hm12.out (Mv.refl _ mid q) hs2.out hs3 k7.out (by omega) (by omega))
                  have hmvf := Lib.hid (hmv1.out.trans hdone.out.2)
                  clear hs3
                  go_wp2
                  go_end0
                  exact ⟨rfl, D2, hR2.out, hx2.out, hmvf.out, hdone.out.1⟩
              · have g1 : ¬ (p : Int) < (s : Int) := by omega
                have hs2 : Hid (Srt cv D1 p mid) := Lib.hid (by
                  first
                    | (rw [show mid = s by omega]; exact k1.out)
                    | (rw [show p = s by omega]; exact k2.out))
                have hm12 := Lib.hid (Mv.refl D1 p mid)
                have hl2 := hl1
                have hd2 := hd1
                by_cases hfq : fin < q
                · have g3 : (mid : Int) < (fin : Int) := by omega
                  have g4 : (fin : Int) < (q : Int) := by omega
                  have hr3 := Lib.hid (ih.out D1 w1 hR1.out hl2.out hx1.out hd2.out mid fin q (by omega) (by omega) hq (by omega) (k3.out.congr (fun i g1 g2 => hm12.out.out i (by omega))) (k4.out.congr (fun i g1 g2 => hm12.out.out i (by omega))) (fun i j g1 g2 g3 g4 => by rw [hm12.out.out i (by omega), hm12.out.out j (by omega)]; exact k6.out i j g1 g2 g3 g4))
                  go_wp2_with fail
                  refine hr3.out.mono ?_
                  rintro e w3 ⟨rfl, D3, hR3, hx3, hm3, hs3⟩
                  have hdone := Lib.hid (halves_done hm12.out hm3 hs2.out hs3 k7.out (by omega) (by omega))
                  have hmvf := Lib.hid (hmv1.out.trans hdone.out.2)
                  replace hR3 := Lib.hid hR3
                  replace hx3 := Lib.hid hx3
                  clear hr3 hm3 hs3
                  go_wp2
                  go_end0
                  exact ⟨rfl, D3, hR3.out, hx3.out, hmvf.out, hdone.out.1⟩
                · have g3 : (mid : Int) < (fin : Int) := by omega
                  have g4 : ¬ (fin : Int) < (q : Int) := by omega
                  have hs3 : Srt cv D1 mid q := by
                    first
                      | (rw [show mid = fin by omega]; exact k4.out.congr (fun i g1 g2 => hm12.out.out i (by omega)))
                      | (rw [show q = fin by omega]; exact k3.out.congr (fun i g1 g2 => hm12.out.out i (by omega)))
                  have hdone := Lib.hid (halves_done hm12.out (Mv.refl _ mid q) hs2.out hs3 k7.out (by omega) (by omega))
                  have hmvf := Lib.hid (hmv1.out.trans hdone.out.2)
                  clear hs3
                  go_wp2
                  go_end0
                  exact ⟨rfl, D1, hR1.out, hx1.out, hmvf.out, hdone.out.1⟩
            · have a1 : ¬ (s : Int) < (m : Int) := by omega
              have hfm : s = m := by omega
              have hrt : Hid (Rt D D s m fin) := Lib.hid (by rw [hfm]; exact Rt.idl D m fin)
              have hmv1 := Lib.hid (Mv.refl D p q)
              replace hfm := Lib.hid hfm
              obtain ⟨k1, k2, k3, k4, k5, k6, k7⟩ := cut_halves hcv.out su.out sw.out hX.out hf5 hf4 hf1 hf2 hf3 hb1 hb2 (fun g1 g2 => by have := hk1.out g1 g2; omega) hk2.out hrt.out
              replace k1 := Lib.hid k1
              replace k2 := Lib.hid k2
              replace k3 := Lib.hid k3
              replace k4 := Lib.hid k4
              replace k5 := Lib.hid k5
              replace k6 := Lib.hid k6
              replace k7 := Lib.hid k7
              have hl1 := Lib.hid (hmv1.out.len.trans hn.out)
              have hd1 := Lib.hid (hmv1.out.dist hd.out)
              by_cases hps : s < mid
              · have hfm2 := hfm.out
                have g1 : (p : Int) < (s : Int) := by omega
                have g2 : (s : Int) < (mid : Int) := by omega
                clear hfm2
                have hr2 := Lib.hid (ih.out D wr hRk.out hl1.out hxk.out hd1.out p s mid (by omega) (by omega) (by omega) (by omega) k1.out k2.out k5.out)
                go_wp2_with fail
                refine hr2.out.mono ?_
                rintro e w2 ⟨rfl, D2, hR2, hx2, hm12, hs2⟩
                have hl2 := Lib.hid (hm12.len.trans hl1.out)
                have hd2 := Lib.hid (hm12.dist hd1.out)
                replace hR2 := Lib.hid hR2
                replace hx2 := Lib.hid hx2
                replace hm12 := Lib.hid hm12
                replace hs2 := Lib.hid hs2
                clear hr2
                have hfm3 := hfm.out
                have g3 : ¬ (mid : Int) < (fin : Int) := by omega
                clear hfm3
                have hs3 : Srt cv D2 mid q := by
                  first
                    | (rw [show mid = fin by omega]; exact k4.out.congr (fun i g1 g2 => hm12.out.out i (by omega)))
                    | (rw [show q = fin by omega]; exact k3.out.congr (fun i g1 g2 => hm12.out.out i (by omega)))
                have hdone := Lib.hid (halves_done hm12.out (Mv.refl _ mid q) hs2.out hs3 k7.out (by omega) (by omega))
                have hmvf := Lib.hid (hmv1.out.trans hdone.out.2)
                clear hs3
                go_wp2
                go_end0
                exact ⟨rfl, D2, hR2.out, hx2.out, hmvf.out, hdone.out.1⟩
              · have hfm2 := hfm.out
                have g1 : (p : Int) < (s : Int) := by omega
                have g2 : ¬ (s : Int) < (mid : Int) := by omega
                clear hfm2
                have hs2 : Hid (Srt cv D p mid) := Lib.hid (by
                  first
                    | (rw [show mid = s by omega]; exact k1.out)
                    | (rw [show p = s by omega]; exact k2.out))
                have hm12 := Lib.hid (Mv.refl D p mid)
                have hl2 := hl1
                have hd2 := hd1
                have hfm3 := hfm.out
                have g3 : ¬ (mid : Int) < (fin : Int) := by omega
                clear hfm3
                have hs3 : Srt cv D mid q := by
                  first
                    | (rw [show mid = fin by omega]; exact k4.out.congr (fun i g1 g2 => hm12.out.out i (by omega)))
                    | (rw [show q = fin by omega]; exact k3.out.congr (fun i g1 g2 => hm12.out.out i (by omega)))
                have hdone := Lib.hid (halves_done hm12.out (Mv.refl _ mid q) hs2.out hs3 k7.out (by omega) (by omega))
                have hmvf := Lib.hid (hmv1.out.trans hdone.out.2)
                clear hs3
                go_wp2
                go_end0
                exact ⟨rfl, D, hRk.out, hxk.out, hmvf.out, hdone.out.1⟩
end Go.Proofs.YtoeonplbgbgjmaaDoor
namespace Go.Proofs.YtoeonplbgbgjmaaDoor
open Go.RowKit
set_option linter.unusedVariables false
set_option linter.unusedSimpArgs false

set_option maxRecDepth 10000 in
set_option maxHeartbeats 8000000 in
theorem stableV_any (w0 : World) (b off c n sp : Nat) (X : List Value) (cv : Int → Int → Int) (hcv : Pre cv) (hcmp : CmpV w0 b sp X cv) (hXs : HdV X) (hc1 : n ≤ 1000000000) (hn64 : n ≤ 64) (D : List Int) (w : World) (hR : RV w b off c n X D) (hn : D.length = n) (hx : Ex [b] w0 w) (hid : ∀ i, i < n → gi D i = (i : Int)) :
    Calls Tryd.prog 117 #[.slice (some ⟨b, off, none⟩) n c, .int .i64 (n : Nat), .func (.func 79) #[] #[.pointer (some ⟨sp, 0, none⟩)]] w fun e w' => e = .returned (.tuple #[]) ∧ ∃ D', RV w' b off c n X D' ∧ Ex [b] w0 w' ∧ Mv D D' 0 n ∧ Srt cv D' 0 n := by
  have hd : Hid (Dist D) := Lib.hid (fun i j hij hj => by rw [hid i (by omega), hid j (by omega)]; omega)
  replace hcv := Lib.hid hcv
  replace hcmp := Lib.hid hcmp
  replace hXs := Lib.hid hXs
  replace hid := Lib.hid hid
  replace hR := Lib.hid hR
  replace hx := Lib.hid hx
  replace hn := Lib.hid hn
  go_enter Tryd.func117, Tryd.ntmps117
  go_wp2
  go_loopw [7, 8] (fun av bv wr => ∃ (a t : Nat) (D' : List Int), a = 20 * t ∧ a ≤ n ∧ av = .int .i64 (a : Nat) ∧ bv = .int .i64 ((a : Int) + 20) ∧ RV wr b off c n X D' ∧ Ex [b] w0 wr ∧ Mv D D' 0 n ∧ Lv cv D' 20 0 a ∧ ∀ i, a ≤ i → i < n → gi D' i = (i : Int)) (fun av _ _ => n - (intOf av).toNat)
  case atStart => exact ⟨0, 0, D, rfl, Nat.zero_le _, rfl, by first | rfl | go_num, hR.out, hx.out, Mv.refl _ _ _, Lv.none _ _ _ _, fun i _ h => hid.out i h⟩
  case round =>
    clear hR hx hid
    obtain ⟨a, t, D', hat, han, rfl, rfl, hR, hx, hm, hlv, hid⟩ := hrel
    have hl := hm.len.trans hn.out
    replace hm := Lib.hid hm
    replace hlv := Lib.hid hlv
    replace hat := Lib.hid hat
    by_cases hlt : a + 20 ≤ n
    · have hlti : (a : Int) + 20 ≤ (n : Int) := by omega
      have hins := Lib.hid (insCmpV_any w0 b off c n sp X cv hcv.out hcmp.out hXs.out D' wr hR hl hx a (a + 20) (by omega) hlt hc1 (fun i j h1 h2 h3 => by rw [hid i h1 (by omega), hid j (by omega) (by omega)]; omega))
      replace hid := Lib.hid hid
      clear hR hx
      have he : ((a + 20 : Nat) : Int) = (a : Int) + 20 := by omega
      go_wp2_with fail
      rw [← he]
      refine hins.out.mono ?_
      rintro e w1 ⟨rfl, D2, hR2, hx2, hm2, hs2⟩
      have hlv2 := Lib.hid (hlv.out.first hat.out (by omega) (Nat.le_refl _) hlt hid.out hm2 hs2)
      have hid2 := Lib.hid (show ∀ i, a + 20 ≤ i → i < n → gi D2 i = (i : Int) from fun i h1 h2 => by rw [hm2.out i (.inr h1)]; exact hid.out i (by omega) h2)
      have hmm := Lib.hid (hm.out.trans (hm2.mono (Nat.zero_le _) hlt))
      replace hR2 := Lib.hid hR2
      replace hx2 := Lib.hid hx2
      clear hins hm2 hs2 he
      go_wp2
      go_roundw
      case rel => exact ⟨a + 20, t + 1, D2, by have := hat.out; omega, by omega, by go_num, by first | rfl | go_num, hR2.out, hx2.out, hmm.out, hlv2.out, hid2.out⟩
      case measure => simp [intOf]; omega
    · have hlti : ¬ (a : Int) + 20 ≤ (n : Int) := by omega
      have hins := Lib.hid (insCmpV_any w0 b off c n sp X cv hcv.out hcmp.out hXs.out D' wr hR hl hx a n (by omega) (Nat.le_refl _) hc1 (fun i j h1 h2 h3 => by rw [hid i h1 (by omega), hid j (by omega) (by omega)]; omega))
      replace hid := Lib.hid hid
      clear hR hx
      go_wp2_with fail
      refine hins.out.mono ?_
      rintro e w1 ⟨rfl, D2, hR2, hx2, hm2, hs2⟩
      have hlv2 := Lib.hid (hlv.out.first hat.out (by omega) (by omega) (Nat.le_refl _) hid.out hm2 hs2)
      have hmm := Lib.hid (hm.out.trans (hm2.mono (Nat.zero_le _) (Nat.le_refl _)))
      replace hR2 := Lib.hid hR2
      replace hx2 := Lib.hid hx2
      clear hins hm2 hs2 hm hlv hid hl
      go_wp2
      go_loopw [6] (fun sv wr => ∃ (bs : Nat) (D' : List Int), (bs = 20 ∨ bs = 40 ∨ bs = 80) ∧ sv = .int .i64 (bs : Nat) ∧ RV wr b off c n X D' ∧ Ex [b] w0 wr ∧ Mv D D' 0 n ∧ Lv cv D' bs 0 n) (fun sv _ => 100 - (intOf sv).toNat)
      case atStart => exact ⟨20, D2, .inl rfl, rfl, hR2.out, hx2.out, hmm.out, hlv2.out⟩
      case round =>
        clear hR2 hx2 hmm hlv2
        obtain ⟨bs, D', hbs, rfl, hR, hx, hm, hlv⟩ := hrel
        replace hR := Lib.hid hR
        replace hx := Lib.hid hx
        replace hm := Lib.hid hm
        replace hlv := Lib.hid hlv
        by_cases hlt2 : bs < n
        · have hlt2i : (bs : Int) < (n : Int) := by omega
          have hb2 : Hid (bs = 20 ∨ bs = 40) := Lib.hid (by omega)
          have hbb : 20 ≤ bs ∧ bs ≤ 40 := by omega
          replace hbs := Lib.hid hbs
          go_wp2
          go_loopw [7, 8] (fun av bv wr => ∃ (a u : Nat) (D' : List Int), a = 2 * bs * u ∧ a ≤ n ∧ av = .int .i64 (a : Nat) ∧ bv = .int .i64 ((a : Int) + 2 * (bs : Int)) ∧ RV wr b off c n X D' ∧ Ex [b] w0 wr ∧ Mv D D' 0 n ∧ Lv cv D' (2 * bs) 0 a ∧ Lv cv D' bs a n) (fun av _ _ => n - (intOf av).toNat)
          case atStart => exact ⟨0, 0, D', rfl, Nat.zero_le _, rfl, by first | rfl | go_num, hR.out, hx.out, hm.out, Lv.none _ _ _ _, hlv.out⟩
          case round =>
            clear hR hx hm hlv
            obtain ⟨a, u, D', hau, han2, rfl, rfl, hR, hx, hm, hl1, hl2⟩ := hrel
            have hl := hm.len.trans hn.out
            have hd' := Lib.hid (hm.dist hd.out)
            replace hm := Lib.hid hm
            replace hl1 := Lib.hid hl1
            replace hl2 := Lib.hid hl2
            replace hau := Lib.hid hau
            by_cases hlt3 : a + 2 * bs ≤ n
            · have hlt3i : (a : Int) + 2 * (bs : Int) ≤ (n : Int) := by omega
              obtain ⟨k1, k2, k3⟩ := hl2.out.pair hb2.out hau.out (Nat.le_refl _) (by omega) hlt3
              have hsm := Lib.hid (symMergeV_any w0 b off c n sp X cv hcv.out hcmp.out hXs.out hc1 (2 * bs) D' wr hR hl hx hd'.out a (a + bs) (a + 2 * bs) (by omega) (by omega) hlt3 (by omega) k1 k2 k3)
              have e1 : ((a + bs : Nat) : Int) = (a : Int) + (bs : Int) := by omega
              have e2 : ((a + 2 * bs : Nat) : Int) = (a : Int) + 2 * (bs : Int) := by omega
              rw [e1, e2] at hsm
              clear hR hx k1 k2 k3 e1 e2
              go_wp2_with fail
              refine hsm.out.mono ?_
              rintro e w2 ⟨rfl, D3, hR3, hx3, hm3, hs3⟩
              have hlv3 := Lib.hid (Lv.merged hb2.out hl1.out hl2.out hau.out (Nat.le_refl _) (by omega) hlt3 hm3 hs3)
              have hmm := Lib.hid (hm.out.trans (hm3.mono (Nat.zero_le _) hlt3))
              replace hR3 := Lib.hid hR3
              replace hx3 := Lib.hid hx3
              clear hsm hm3 hs3
              go_wp2
              go_roundw
              case rel => exact ⟨a + 2 * bs, u + 1, D3, by have := hau.out; rw [Nat.mul_add]; omega, hlt3, by go_num, by first | rfl | go_num, hR3.out, hx3.out, hmm.out, hlv3.out.1, hlv3.out.2⟩
              case measure => simp [intOf]; omega
            · have hlt3i : ¬ (a : Int) + 2 * (bs : Int) ≤ (n : Int) := by omega
              by_cases hlt4 : a + bs < n
              · have hlt4i : (a : Int) + (bs : Int) < (n : Int) := by omega
                obtain ⟨k1, k2, k3⟩ := hl2.out.pair hb2.out hau.out (e := n) (by omega) hlt4 (Nat.le_refl _)
                have hsm := Lib.hid (symMergeV_any w0 b off c n sp X cv hcv.out hcmp.out hXs.out hc1 (2 * bs) D' wr hR hl hx hd'.out a (a + bs) n (by omega) (by omega) (Nat.le_refl _) (by omega) k1 k2 k3)
                have e1 : ((a + bs : Nat) : Int) = (a : Int) + (bs : Int) := by omega
                rw [e1] at hsm
                clear hR hx k1 k2 k3 e1
                go_wp2_with fail
                refine hsm.out.mono ?_
                rintro e w2 ⟨rfl, D3, hR3, hx3, hm3, hs3⟩
                have hlv3 := Lib.hid (Lv.merged hb2.out hl1.out hl2.out hau.out (by omega) (by omega) (Nat.le_refl _) hm3 hs3).1
                have hmm := Lib.hid (hm.out.trans (hm3.mono (Nat.zero_le _) (Nat.le_refl _)))
                replace hR3 := Lib.hid hR3
                replace hx3 := Lib.hid hx3
                clear hsm hm3 hs3
                go_wp2
                go_roundw
                case rel => exact ⟨2 * bs, D3, by have := hb2.out; omega, by first | rfl | go_num, hR3.out, hx3.out, hmm.out, hlv3.out⟩
                case measure => simp [intOf]; omega
              · have hlt4i : ¬ (a : Int) + (bs : Int) < (n : Int) := by omega
                have hlv3 := Lib.hid (Lv.alone hb2.out hl1.out hl2.out hau.out (by omega))
                replace hR := Lib.hid hR
                replace hx := Lib.hid hx
                go_wp2
                go_roundw
                case rel => exact ⟨2 * bs, D', by have := hb2.out; omega, by first | rfl | go_num, hR.out, hx.out, hm.out, hlv3.out⟩
                case measure => simp [intOf]; omega
        · have hlt2i : ¬ (bs : Int) < (n : Int) := by omega
          have hfin := Lib.hid (hlv.out.whole (by omega) (by omega))
          clear hbs
          go_wp2
          go_end0
          exact ⟨rfl, D', hR.out, hx.out, hm.out, hfin.out⟩

set_option maxHeartbeats 1000000 in
theorem sortStableV_any (w0 : World) (b off c n sp : Nat) (X : List Value) (cv : Int → Int → Int) (hcv : Pre cv) (hcmp : CmpV w0 b sp X cv) (hXs : HdV X) (hc1 : n ≤ 1000000000) (hn64 : n ≤ 64) (D : List Int) (w : World) (hR : RV w b off c n X D) (hn : D.length = n) (hx : Ex [b] w0 w) (hid : ∀ i, i < n → gi D i = (i : Int)) :
    Calls Tryd.prog 78 #[.slice (some ⟨b, off, none⟩) n c, .func (.func 79) #[] #[.pointer (some ⟨sp, 0, none⟩)]] w fun e w' => e = .returned (.tuple #[]) ∧ ∃ D', RV w' b off c n X D' ∧ Ex [b] w0 w' ∧ Mv D D' 0 n ∧ Srt cv D' 0 n := by
  have hst := Lib.hid (stableV_any w0 b off c n sp X cv hcv hcmp hXs hc1 hn64 D w hR hn hx hid)
  clear hR hx hid hn hcv
  go_enter Tryd.func78, Tryd.ntmps78
  go_wp2_with fail
  refine hst.out.mono ?_
  rintro e w1 ⟨rfl, D', h1, h2, h3, h4⟩
  replace h1 := Lib.hid h1
  replace h2 := Lib.hid h2
  replace h3 := Lib.hid h3
  replace h4 := Lib.hid h4
  clear hst
  go_wp2
  go_end0
  exact ⟨rfl, D', h1.out, h2.out, h3.out, h4.out⟩
end Go.Proofs.YtoeonplbgbgjmaaDoor
namespace Go.Proofs.YtoeonplbgbgjmaaDoor
open Go.RowKit
set_option linter.unusedVariables false
set_option linter.unusedSimpArgs false

set_option maxHeartbeats 2000000 in
theorem insCmpV_zero (ao : Option Addr) (c sp : Nat) (w : World) :
    Calls Tryd.prog 139 #[.slice ao 0 c, .int .i64 0, .int .i64 0, .func (.func 79) #[] #[.pointer (some ⟨sp, 0, none⟩)]] w fun e w' => e = .returned (.tuple #[]) ∧ w' = w := by
  go_enter Tryd.func139, Tryd.ntmps139
  go_wp2
  go_loopw [8] (fun iv wr => iv = .int .i64 1 ∧ wr = w) (fun _ _ => 0)
  case atStart => exact ⟨rfl, rfl⟩
  case round =>
    obtain ⟨rfl, rfl⟩ := hrel
    go_wp2
    go_end0
    exact ⟨rfl, rfl⟩
set_option maxHeartbeats 2000000 in
theorem stableV_zero (ao : Option Addr) (c sp : Nat) (w : World) :
    Calls Tryd.prog 117 #[.slice ao 0 c, .int .i64 0, .func (.func 79) #[] #[.pointer (some ⟨sp, 0, none⟩)]] w fun e w' => e = .returned (.tuple #[]) ∧ w' = w := by
  go_enter Tryd.func117, Tryd.ntmps117
  go_wp2
  go_loopw [7, 8] (fun av bv wr => av = .int .i64 0 ∧ bv = .int .i64 20 ∧ wr = w) (fun _ _ _ => 0)
  case atStart => exact ⟨rfl, rfl, rfl⟩
  case round =>
    obtain ⟨rfl, rfl, rfl⟩ := hrel
    go_wp2_with fail
    refine (insCmpV_zero ao c sp _).mono ?_
    rintro e w1 ⟨rfl, rfl⟩
    go_wp2
    go_loopw [6] (fun av wr => av = .int .i64 20 ∧ wr = w1) (fun _ _ => 0)
    case atStart => exact ⟨rfl, rfl⟩
    case round =>
      obtain ⟨rfl, rfl⟩ := hrel
      go_wp2
      go_end0
      exact ⟨rfl, rfl⟩
set_option maxHeartbeats 2000000 in
theorem sortStableV_zero (ao : Option Addr) (c sp : Nat) (w : World) :
    Calls Tryd.prog 78 #[.slice ao 0 c, .func (.func 79) #[] #[.pointer (some ⟨sp, 0, none⟩)]] w fun e w' => e = .returned (.tuple #[]) ∧ w' = w := by
  go_enter Tryd.func78, Tryd.ntmps78
  go_wp2_with fail
  refine (stableV_zero ao c sp _).mono ?_
  rintro e w1 ⟨rfl, rfl⟩
  go_wp2
  go_end0
  exact ⟨rfl, rfl⟩
end Go.Proofs.YtoeonplbgbgjmaaDoor
