/- slices.SortStableFunc at rows: rotation, insertion. -/
import Derived.Test.YtoeonplbgbgjmaaDoorSvI
namespace Go.Proofs.YtoeonplbgbgjmaaDoor
open Go.RowKit
set_option linter.unusedVariables false
set_option linter.unusedSimpArgs false

set_option maxRecDepth 10000 in
set_option maxHeartbeats 4000000 in
theorem rotateV_any (w0 : World) (b off c n : Nat) (X : List Value) (hXs : HdV X) (fv : Value) (D : List Int) (w : World) (hR : RV w b off c n X D) (hn : D.length = n) (hx : Ex [b] w0 w) (p m q : Nat) (hpm : p < m) (hmq : m < q) (hq : q ≤ n) (hc1 : n ≤ 1000000000) :
    Calls Tryd.prog 164 #[.slice (some ⟨b, off, none⟩) n c, .int .i64 (p : Nat), .int .i64 (m : Nat), .int .i64 (q : Nat), fv] w fun e w' => e = .returned (.tuple #[]) ∧ ∃ D', RV w' b off c n X D' ∧ Ex [b] w0 w' ∧ Rt D D' p m q ∧ Mv D D' p q := by
  replace hR := Lib.hid hR
  replace hx := Lib.hid hx
  replace hXs := Lib.hid hXs
  have hrt := Lib.hid (rotL_rt (D := D) (Nat.le_of_lt hpm) (Nat.le_of_lt hmq) (by rw [hn]; exact hq))
  replace hn := Lib.hid hn
  generalize rotL D p m q = T at hrt
  have e1 : (m : Int) - (p : Int) = ((m - p : Nat) : Int) := by omega
  have e2 : (q : Int) - (m : Int) = ((q - m : Nat) : Int) := by omega
  go_enter Tryd.func164, Tryd.ntmps164
  go_wp2
  try rw [e1, e2]
  clear e1 e2
  go_loopw [10, 11] (fun iv jv wr => ∃ (i j : Nat) (D' : List Int), 0 < i ∧ 0 < j ∧ i + p ≤ m ∧ m + j ≤ q ∧ iv = .int .i64 (i : Nat) ∧ jv = .int .i64 (j : Nat) ∧ RV wr b off c n X D' ∧ Ex [b] w0 wr ∧ Rt D' T (m - i) m (m + j) ∧ Mv D D' p q) (fun iv jv _ => (intOf iv).toNat + (intOf jv).toNat)
  case atStart => exact ⟨m - p, q - m, D, by omega, by omega, by omega, by omega, rfl, rfl, hR.out, hx.out, by rw [show m - (m - p) = p by omega, show m + (q - m) = q by omega]; exact hrt.out, Mv.refl _ _ _⟩
  case round =>
    clear hR hx
    obtain ⟨i, j, D', hi0, hj0, hip, hjq, rfl, rfl, hR, hx, hr, hm⟩ := hrel
    have hl := hm.len
    rw [hn.out] at hl
    replace hr := Lib.hid hr
    replace hm := Lib.hid hm
    have e1 : (m : Int) - (i : Int) = ((m - i : Nat) : Int) := by omega
    by_cases hne : i = j
    · subst hne
      have hsw := Lib.hid (swapRangeV_any w0 b off c n X hXs.out fv D' wr hR hl hx (m - i) m i (by omega) (by omega) hc1)
      clear hR hx
      go_wp2_with fail
      try rw [e1]
      refine hsw.out.mono ?_
      rintro e w1 ⟨rfl, D2, hR2, hx2, hs2, hm2⟩
      have hfin := Lib.hid (hr.out.last (by omega) hs2)
      have hmv := Lib.hid (hm.out.trans (hm2.mono (by omega) (by omega)))
      replace hR2 := Lib.hid hR2
      replace hx2 := Lib.hid hx2
      clear hsw hs2 hm2 e1
      go_wp2
      go_end0
      exact ⟨rfl, D2, hR2.out, hx2.out, fun t => by rw [hfin.out t]; exact hrt.out t, hmv.out⟩
    · have hnei : ¬ (i : Int) = (j : Int) := by omega
      by_cases hgt : j < i
      · have hgti : (i : Int) > (j : Int) := by omega
        have hsw := Lib.hid (swapRangeV_any w0 b off c n X hXs.out fv D' wr hR hl hx (m - i) m j (by omega) (by omega) hc1)
        clear hR hx
        go_wp2_with fail
        try rw [e1]
        refine hsw.out.mono ?_
        rintro e w1 ⟨rfl, D2, hR2, hx2, hs2, hm2⟩
        have hr2 := Lib.hid (hr.out.left (by omega) hgt hs2)
        have hmv := Lib.hid (hm.out.trans (hm2.mono (by omega) (by omega)))
        replace hR2 := Lib.hid hR2
        replace hx2 := Lib.hid hx2
        have e3 : (i : Int) - (j : Int) = ((i - j : Nat) : Int) := by omega
        clear hsw hs2 hm2 e1
        go_wp2
        go_roundw
        case rel => exact ⟨i - j, j, D2, by omega, by omega, by omega, by omega, by first | rfl | (rw [← e3]; rfl) | go_num, rfl, hR2.out, hx2.out, hr2.out, hmv.out⟩
        case measure => simp [intOf]; omega
      · have hgti : ¬ (i : Int) > (j : Int) := by omega
        have hsw := Lib.hid (swapRangeV_any w0 b off c n X hXs.out fv D' wr hR hl hx (m - i) (m + j - i) i (by omega) (by omega) hc1)
        clear hR hx
        have e2 : (m : Int) + (j : Int) - (i : Int) = ((m + j - i : Nat) : Int) := by omega
        go_wp2_with fail
        try rw [e1, e2]
        refine hsw.out.mono ?_
        rintro e w1 ⟨rfl, D2, hR2, hx2, hs2, hm2⟩
        have hr2 := Lib.hid (hr.out.right (by omega) (by omega) hs2)
        have hmv := Lib.hid (hm.out.trans (hm2.mono (by omega) (by omega)))
        replace hR2 := Lib.hid hR2
        replace hx2 := Lib.hid hx2
        have e3 : (j : Int) - (i : Int) = ((j - i : Nat) : Int) := by omega
        clear hsw hs2 hm2 e1 e2
        go_wp2
        go_roundw
        case rel => exact ⟨i, j - i, D2, by omega, by omega, by omega, by omega, rfl, by first | rfl | (rw [← e3]; rfl) | go_num, hR2.out, hx2.out, hr2.out, hmv.out⟩
        case measure => simp [intOf]; omega

set_option maxRecDepth 10000 in
set_option maxHeartbeats 8000000 in
theorem insCmpV_any (w0 : World) (b off c n sp : Nat) (X : List Value) (cv : Int → Int → Int) (hcv : Pre cv) (hcmp : CmpV w0 b sp X cv) (hXs : HdV X) (D : List Int) (w : World) (hR : RV w b off c n X D) (hn : D.length = n) (hx : Ex [b] w0 w)
    (p q : Nat) (hpq : p ≤ q) (hq : q ≤ n) (hc1 : n ≤ 1000000000) (hid : ∀ i j, p ≤ i → i < j → j < q → gi D i < gi D j) :
    Calls Tryd.prog 139 #[.slice (some ⟨b, off, none⟩) n c, .int .i64 (p : Nat), .int .i64 (q : Nat), .func (.func 79) #[] #[.pointer (some ⟨sp, 0, none⟩)]] w fun e w' => e = .returned (.tuple #[]) ∧ ∃ D', RV w' b off c n X D' ∧ Ex [b] w0 w' ∧ Mv D D' p q ∧ Srt cv D' p q := by
  replace hR := Lib.hid hR
  replace hx := Lib.hid hx
  replace hn := Lib.hid hn
  replace hcv := Lib.hid hcv
  replace hcmp := Lib.hid hcmp
  replace hXs := Lib.hid hXs
  replace hid := Lib.hid hid
  go_enter Tryd.func139, Tryd.ntmps139
  go_wp2
  go_loopw [8] (fun iv wr => ∃ (i : Nat) (D' : List Int), p + 1 ≤ i ∧ (i ≤ q ∨ i = p + 1) ∧ iv = .int .i64 (i : Nat) ∧ RV wr b off c n X D' ∧ Ex [b] w0 wr ∧ Mv D D' p i ∧ Srt cv D' p i) (fun iv _ => q + 1 - (intOf iv).toNat)
  case atStart => exact ⟨p + 1, D, Nat.le_refl _, .inr rfl, by go_num, hR.out, hx.out, Mv.refl _ _ _, Srt.one _ _ (Nat.le_refl _)⟩
  case round =>
    clear hR hx
    obtain ⟨wo, rfl⟩ : ∃ wo : World, wo = wr := ⟨_, rfl⟩
    obtain ⟨i, D', hpi, hiq, rfl, hR, hx, hm, hs⟩ := hrel
    replace hR := Lib.hid hR
    replace hx := Lib.hid hx
    replace hm := Lib.hid hm
    replace hs := Lib.hid hs
    by_cases hlt : i < q
    · have hlti : (i : Int) < (q : Int) := by omega
      have hXe : gi D' i = gi D i := hm.out.out i (by omega)
      have hsm : ∀ t, p ≤ t → t ≤ i → t ≠ i → gi D' t < gi D i := fun t g1 g2 g3 => by
        obtain ⟨t', k1, k2, k3⟩ := hm.out.ins t g1 (by omega)
        rw [k3]; exact hid.out t' i k1 k2 hlt
      have hm2 := Lib.hid (hm.out.mono (a' := p) (b' := i + 1) (Nat.le_refl _) (by omega))
      have hsx := Lib.hid (SrtX.start hs.out)
      replace hsm := Lib.hid hsm
      generalize gi D i = K at *
      replace hXe := Lib.hid hXe
      go_wp2
      go_loopw [9] (fun jv wr => ∃ (j : Nat) (D' : List Int), p ≤ j ∧ j ≤ i ∧ jv = .int .i64 (j : Nat) ∧ RV wr b off c n X D' ∧ Ex [b] w0 wr ∧ Mv D D' p (i + 1) ∧ SrtX cv D' p i j ∧ gi D' j = K ∧ ∀ t, p ≤ t → t ≤ i → t ≠ j → gi D' t < K) (fun jv _ => (intOf jv).toNat)
      case atStart => exact ⟨i, D', by omega, Nat.le_refl _, rfl, hR.out, hx.out, hm2.out, hsx.out, hXe.out, hsm.out⟩
      case round =>
        clear hR hx hm hs hm2 hsx hsm hXe
        obtain ⟨wi, rfl⟩ : ∃ wi : World, wi = wr := ⟨_, rfl⟩
        obtain ⟨j, D', hpj, hji, rfl, hR, hx, hm, hsx, hXj, hsm⟩ := hrel
        have hl := hm.len
        rw [hn.out] at hl
        replace hl := Lib.hid hl
        by_cases hjp : p < j
        · obtain ⟨m, hjm⟩ : ∃ m, j = m + 1 := ⟨j - 1, by omega⟩
          have hjpi : (p : Int) < (j : Int) := by omega
          have hYX := hsm m (by omega) (by omega) (by omega)
          obtain ⟨hc1', hfz⟩ := hR.cells (i := j) (by omega) hl.out
          obtain ⟨hc2', _⟩ := hR.cells (i := m) (by omega) hl.out
          have hbw := hR.lt
          -- what a swap makes of the data, in whatever world reads as this one
          have hsw : ∀ w9, RV w9 b off c n X D' → _ := fun w9 h9 => RV.swap h9 (i := j) (j := m) (by omega) (by omega) hl.out
          rw [hXj] at hc1' hsw
          have hE1 : cv K (gi D' m) < 0 → SrtX cv (swp D' m j) p i m := fun hh => by
            subst hjm
            exact hsx.step (by omega) hji (by rw [hl.out]; omega) (by rw [hXj]; exact .inl hh)
          have hE0 : ¬ cv K (gi D' m) < 0 → Srt cv D' p (i + 1) := fun hh => hsx.done hcv.out (.inr (by
            rw [show j - 1 = m by omega, hXj]
            exact hcv.out.not_ll (by omega) (fun e => hh ((ll_of_cmp hYX).1 e))))
          have hm2 := Lib.hid (hm.trans (Mv.swp (D := D') (a := p) (b := i + 1) (i := m) (j := j) (by omega) (by omega) (by omega) (by rw [hl.out]; omega)))
          have hX2 := Lib.hid (show gi (swp D' m j) m = K by rw [gi_swp (by rw [hl.out]; omega) (by rw [hl.out]; omega), if_neg (by omega), if_pos rfl, hXj])
          have hsm2 := Lib.hid (show ∀ t, p ≤ t → t ≤ i → t ≠ m → gi (swp D' m j) t < K from fun t g1 g2 g3 => by
            rw [gi_swp (by rw [hl.out]; omega) (by rw [hl.out]; omega)]
            by_cases e : t = j
            · rw [if_pos e]; exact hYX
            · rw [if_neg e, if_neg g3]; exact hsm t g1 g2 e)
          have hcomm := Lib.hid (swp_comm (l := D') (i := j) (j := m) (by rw [hl.out]; omega) (by rw [hl.out]; omega))
          have hmE := Lib.hid hm
          have hcl := Lib.hid (hcmp.out wi.drew K (gi D' m) (show Ex [b] w0 wi.drew from hx.drewN 1))
          clear hsx hsm hm hXj
          replace hR := Lib.hid hR
          replace hx := Lib.hid hx
          replace hsw := Lib.hid hsw
          have hi3 : (j : Int) - 1 = (m : Int) := by omega
          have hmn : (m : Int) < (n : Int) := by omega
          have hjn : (j : Int) < (n : Int) := by omega
          have hi7 : IntKind.i64.wrap ((j : Int) - 1) = (m : Int) := by rw [hi3]; exact IntWalk.i64_in _ (by omega)
          have hi8 : (0 : Int) ≤ (m : Int) := by omega
          have hi9 : IntKind.i64.wrap (m : Int) = (m : Int) := IntWalk.i64_in _ (by omega)
          have hi10 : (0 : Int) ≤ (j : Int) := by omega
          replace hjm := Lib.hid hjm
          generalize hz : cv K (gi D' m) = z at *
          have hUs := hXs.out K.toNat
          have hVs := hXs.out (gi D' m).toNat
          generalize gv X K.toNat = U at *
          generalize gv X (gi D' m).toNat = V at *
          obtain ⟨u1, u2, u3, rfl⟩ := hUs
          obtain ⟨v1, v2, v3, rfl⟩ := hVs
          replace hz := Lib.hid hz
          by_cases hz0 : z < 0
          · have hE := Lib.hid (hE1 hz0)
            clear hE1 hE0
            go_wp2
            go_region_held3 (fun w' => w'.cell? ⟨b, off + j, none⟩ = some (.slice u1 u2 u3) ∧ w'.cell? ⟨b, off + m, none⟩ = some (.slice v1 v2 v3)) ((first | exact ⟨(hbel.cell (p := ⟨b, off + j, none⟩) hbw).trans hc1', (hbel.cell (p := ⟨b, off + m, none⟩) hbw).trans hc2'⟩ | go_keep)) ((go_at_call 79; refine hcl.out.mono ?_; rintro e w' ⟨rfl, hbel⟩))
            obtain ⟨d1, d2⟩ : _ ∧ _ := ‹w'.cell? ⟨b, off + j, none⟩ = some (.slice u1 u2 u3) ∧ w'.cell? ⟨b, off + m, none⟩ = some (.slice v1 v2 v3)›
            have hR2 : RV w' b off c n X D' := (show RV wi.drew b off c n X D' from hR.out.drewN 1).below hbel
            have hx2 : Hid (Ex [b] w0 w') := Lib.hid ((show Ex [b] w0 wi.drew from hx.out.drewN 1).trans (Ex.of_below hbel))
            have hfz2 := (hR2.cells (i := m) (by omega) hl.out).2
            have hf1 := hfz2 (off + j)
            have hf2 := hfz2 (off + m)
            have hset0 := hsw.out w' hR2
            rw [hcomm.out] at hset0
            have hset := Lib.hid hset0
            have hn1 : ¬ j = m := by omega
            have hn2 : ¬ m = j := by omega
            clear hbel hc1' hc2' hfz hfz2 hset0 hR hx hR2 hsw
            go_wp2
            go_region
            go_wp2
            go_roundw
            case rel => exact ⟨m, _, by have := hjm.out; omega, by have := hjm.out; omega, by first | rfl | go_num, hset.out, Ex.set2V (hx2.out.drewN _) (by simp), hm2.out, hE.out, hX2.out, hsm2.out⟩
            case measure => have := hjm.out; first | (simp [intOf]; done) | (simp [intOf]; omega)
          · have hE := Lib.hid (hE0 hz0)
            clear hE1 hE0
            go_wp2
            go_region_held3 (fun w' => w'.cell? ⟨b, off + j, none⟩ = some (.slice u1 u2 u3) ∧ w'.cell? ⟨b, off + m, none⟩ = some (.slice v1 v2 v3)) ((first | exact ⟨(hbel.cell (p := ⟨b, off + j, none⟩) hbw).trans hc1', (hbel.cell (p := ⟨b, off + m, none⟩) hbw).trans hc2'⟩ | go_keep)) ((go_at_call 79; refine hcl.out.mono ?_; rintro e w' ⟨rfl, hbel⟩))
            obtain ⟨d1, d2⟩ : _ ∧ _ := ‹w'.cell? ⟨b, off + j, none⟩ = some (.slice u1 u2 u3) ∧ w'.cell? ⟨b, off + m, none⟩ = some (.slice v1 v2 v3)›
            have hR2 : RV w' b off c n X D' := (show RV wi.drew b off c n X D' from hR.out.drewN 1).below hbel
            have hx2 : Hid (Ex [b] w0 w') := Lib.hid ((show Ex [b] w0 wi.drew from hx.out.drewN 1).trans (Ex.of_below hbel))
            replace hR2 := Lib.hid hR2
            clear hbel d1 d2
            go_wp2
            go_roundw
            case rel => exact ⟨i + 1, D', by omega, by omega, by go_num, hR2.out, hx2.out, hmE.out, hE.out⟩
            case measure => simp [intOf]; omega
        · obtain rfl : j = p := by omega
          have hjpi : ¬ (j : Int) < (j : Int) := by omega
          have hjd : decide ((j : Int) < (j : Int)) = false := by simp
          have hE := Lib.hid (hsx.done hcv.out (.inl rfl))
          replace hR := Lib.hid hR
          replace hx := Lib.hid hx
          replace hm := Lib.hid hm
          clear hsx hXj hsm
          go_wp2
          go_quiet (fail)
          try go_wp2
          go_roundw
          case rel => exact ⟨i + 1, D', by omega, by omega, by go_num, hR.out.drewN _, hx.out.drewN _, hm.out, hE.out⟩
          case measure => simp [intOf]; omega
    · have hlti : ¬ (i : Int) < (q : Int) := by omega
      have hfin : Mv D D' p q ∧ Srt cv D' p q := by
        by_cases e : i = q
        · subst e; exact ⟨hm.out, hs.out⟩
        · obtain rfl : p = q := by omega
          have hi : i = p + 1 := by omega
          subst hi
          refine ⟨⟨hm.out.perm, fun t ht => ?_, fun t h1 h2 => by omega⟩, Srt.one _ _ (by omega)⟩
          by_cases e2 : t = p
          · subst e2
            obtain ⟨t', k1, k2, k3⟩ := hm.out.ins t (Nat.le_refl _) (by omega)
            rw [k3]; congr 1; omega
          · exact hm.out.out t (by omega)
      replace hfin := Lib.hid hfin
      clear hs hm
      go_wp2
      go_end0
      exact ⟨rfl, D', hR.out, hx.out, hfin.out.1, hfin.out.2⟩
end Go.Proofs.YtoeonplbgbgjmaaDoor
