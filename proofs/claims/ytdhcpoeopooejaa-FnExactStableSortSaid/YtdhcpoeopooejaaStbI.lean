/- slices.SortStableFunc at []int, under the comparison that impl.sorting hands on: exchanges of ranges, rotation. -/
import Derived.Test.YtdhcpoeopooejaaStbM
import Derived.Test.YtdhcpoeopooejaaCopy
import Derived.BigRegion
import Derived.RegionTactic
import Derived.Deep.RegionWith
namespace Go.Proofs.Ytdhcpoeopooejaa
open Go.RowKit
set_option linter.unusedVariables false
set_option linter.unusedSimpArgs false

/-- Two elements exchanged in memory. -/
theorem Row.swapI {w : World} {e b off c : Nat} {D : List Int} (h : Row w e b off c (ints D)) {i j : Nat} (hi : i < D.length) (hj : j < D.length) :
    Row ((w.setCell ⟨b, off + i, none⟩ (.int .i64 (gi D j))).setCell ⟨b, off + j, none⟩ (.int .i64 (gi D i))) e b off c (ints (swp D i j)) := by
  unfold swp
  exact (h.setInt hi (gi D j)).setInt (by simpa using hj) (gi D i)
theorem Ex.swapI {F : List Nat} {w0 w : World} {b off i j : Nat} {x y : Value} (h : Ex F w0 w) (hb : b ∈ F) : Ex F w0 ((w.setCell ⟨b, off + i, none⟩ x).setCell ⟨b, off + j, none⟩ y) :=
  Ex.setIn (p := ⟨b, off + j, none⟩) (Ex.setIn (p := ⟨b, off + i, none⟩) h hb) hb

set_option maxRecDepth 10000 in
set_option maxHeartbeats 4000000 in
theorem swapRange_any (w0 : World) (b off c n : Nat) (fv : Value) (D : List Int) (w : World) (hR : Row w 3 b off c (ints D)) (hn : D.length = n) (hcn : n ≤ c) (hx : Ex [b] w0 w) (p q k : Nat) (hpq : p + k ≤ q) (hq : q + k ≤ n) (hc1 : n ≤ 1000000000) :
    Calls Try.prog 156 #[.slice (some ⟨b, off, none⟩) n c, .int .i64 (p : Nat), .int .i64 (q : Nat), .int .i64 (k : Nat), fv] w fun e w' => e = .returned (.tuple #[]) ∧ ∃ D', Row w' 3 b off c (ints D') ∧ Ex [b] w0 w' ∧ Sw D D' p q k ∧ Mv D D' p (q + k) := by
  replace hR := Lib.hid hR
  replace hx := Lib.hid hx
  replace hn := Lib.hid hn
  go_enter Try.func156, Try.ntmps156
  go_wp2
  go_loopw [10] (fun iv wr => ∃ (i : Nat) (D' : List Int), i ≤ k ∧ iv = .int .i64 (i : Nat) ∧ Row wr 3 b off c (ints D') ∧ Ex [b] w0 wr ∧ Sw D D' p q i ∧ Mv D D' p (q + k)) (fun iv _ => k - (intOf iv).toNat)
  case atStart => exact ⟨0, D, Nat.zero_le _, rfl, hR.out, hx.out, Sw.zero _ _ _, Mv.refl _ _ _⟩
  case round =>
    clear hR hx
    obtain ⟨i, D', hi, rfl, hR, hx, hs, hm⟩ := hrel
    have hl := hm.len
    rw [hn.out] at hl
    replace hl := Lib.hid hl
    by_cases hlt : i < k
    · have hlti : (i : Int) < (k : Int) := by omega
      have hc1' : wr.cell? ⟨b, off + (p + i), none⟩ = some (.int .i64 (gi D' (p + i))) := hR.cellInt (by rw [hl.out]; omega)
      have hc2' : wr.cell? ⟨b, off + (q + i), none⟩ = some (.int .i64 (gi D' (q + i))) := hR.cellInt (by rw [hl.out]; omega)
      have hf1 := hR.frozen (off + (p + i))
      have hf2 := hR.frozen (off + (q + i))
      have hs2 := Lib.hid (hs.step hlt hpq (by rw [hl.out]; exact hq))
      have hm2 := Lib.hid (hm.trans (Mv.swp (D := D') (a := p) (b := q + k) (i := p + i) (j := q + i) (by omega) (by omega) (by omega) (by rw [hl.out]; omega)))
      have hset := Lib.hid (hR.swapI (i := p + i) (j := q + i) (by rw [hl.out]; omega) (by rw [hl.out]; omega))
      have hn1 : ¬ p + i = q + i := by omega
      have hi1 : (p : Int) + (i : Int) < (n : Int) := by omega
      have hi2 : (q : Int) + (i : Int) < (n : Int) := by omega
      replace hx := Lib.hid hx
      clear hs hm hR
      generalize gi D' (p + i) = X at *
      generalize gi D' (q + i) = Y at *
      go_wp2
      go_region
      go_wp2
      go_roundw
      case rel => exact ⟨i + 1, _, by omega, by go_num, hset.out, Ex.swapI (hx.out.drewN _) (by simp), hs2.out, hm2.out⟩
      case measure => simp [intOf]; omega
    · obtain rfl : i = k := by omega
      replace hR := Lib.hid hR
      replace hx := Lib.hid hx
      replace hs := Lib.hid hs
      replace hm := Lib.hid hm
      go_wp2
      go_end0
      exact ⟨rfl, D', hR.out, hx.out, hs.out, hm.out⟩

set_option maxRecDepth 10000 in
set_option maxHeartbeats 4000000 in
theorem rotate_any (w0 : World) (b off c n : Nat) (fv : Value) (D : List Int) (w : World) (hR : Row w 3 b off c (ints D)) (hn : D.length = n) (hcn : n ≤ c) (hx : Ex [b] w0 w) (p m q : Nat) (hpm : p < m) (hmq : m < q) (hq : q ≤ n) (hc1 : n ≤ 1000000000) :
    Calls Try.prog 153 #[.slice (some ⟨b, off, none⟩) n c, .int .i64 (p : Nat), .int .i64 (m : Nat), .int .i64 (q : Nat), fv] w fun e w' => e = .returned (.tuple #[]) ∧ ∃ D', Row w' 3 b off c (ints D') ∧ Ex [b] w0 w' ∧ Rt D D' p m q ∧ Mv D D' p q := by
  replace hR := Lib.hid hR
  replace hx := Lib.hid hx
  have hrt := Lib.hid (rotL_rt (D := D) (Nat.le_of_lt hpm) (Nat.le_of_lt hmq) (by rw [hn]; exact hq))
  replace hn := Lib.hid hn
  generalize rotL D p m q = T at hrt
  have e1 : (m : Int) - (p : Int) = ((m - p : Nat) : Int) := by omega
  have e2 : (q : Int) - (m : Int) = ((q - m : Nat) : Int) := by omega
  go_enter Try.func153, Try.ntmps153
  go_wp2
  try rw [e1, e2]
  clear e1 e2
  go_loopw [10, 11] (fun iv jv wr => ∃ (i j : Nat) (D' : List Int), 0 < i ∧ 0 < j ∧ i + p ≤ m ∧ m + j ≤ q ∧ iv = .int .i64 (i : Nat) ∧ jv = .int .i64 (j : Nat) ∧ Row wr 3 b off c (ints D') ∧ Ex [b] w0 wr ∧ Rt D' T (m - i) m (m + j) ∧ Mv D D' p q) (fun iv jv _ => (intOf iv).toNat + (intOf jv).toNat)
  case atStart => exact ⟨m - p, q - m, D, by omega, by omega, by omega, by omega, rfl, rfl, hR.out, hx.out, by rw [show m - (m - p) = p by omega, show m + (q - m) = q by omega]; exact hrt.out, Mv.refl _ _ _⟩
  case round =>
    clear hR hx
    obtain ⟨i, j, D', hi0, hj0, hip, hjq, rfl, rfl, hR, hx, hr, hm⟩ := hrel
    have hl := hm.len
    rw [hn.out] at hl
    replace hr := Lib.hid hr
    replace hm := Lib.hid hm
    have e1 : (m : Int) - (i : Int) = ((m - i : Nat) : Int) := by omega
    by_cases hne : i = j
    · subst hne
      have hsw := Lib.hid (swapRange_any w0 b off c n fv D' wr hR hl hcn hx (m - i) m i (by omega) (by omega) hc1)
      clear hR hx
      go_wp2_with fail
      try rw [e1]
      refine hsw.out.mono ?_
      rintro e w1 ⟨rfl, D2, hR2, hx2, hs2, hm2⟩
      have hfin := Lib.hid (hr.out.last (by omega) hs2)
      have hmv := Lib.hid (hm.out.trans (hm2.mono (by omega) (by omega)))
      replace hR2 := Lib.hid hR2
      replace hx2 := Lib.hid hx2
      clear hsw hs2 hm2 e1
      go_wp2
      go_end0
      exact ⟨rfl, D2, hR2.out, hx2.out, fun t => by rw [hfin.out t]; exact hrt.out t, hmv.out⟩
    · have hnei : ¬ (i : Int) = (j : Int) := by omega
      by_cases hgt : j < i
      · have hgti : (i : Int) > (j : Int) := by omega
        have hsw := Lib.hid (swapRange_any w0 b off c n fv D' wr hR hl hcn hx (m - i) m j (by omega) (by omega) hc1)
        clear hR hx
        go_wp2_with fail
        try rw [e1]
        refine hsw.out.mono ?_
        rintro e w1 ⟨rfl, D2, hR2, hx2, hs2, hm2⟩
        have hr2 := Lib.hid (hr.out.left (by omega) hgt hs2)
        have hmv := Lib.hid (hm.out.trans (hm2.mono (by omega) (by omega)))
        replace hR2 := Lib.hid hR2
        replace hx2 := Lib.hid hx2
        have e3 : (i : Int) - (j : Int) = ((i - j : Nat) : Int) := by omega
        clear hsw hs2 hm2 e1
        go_wp2
        go_roundw
        case rel => exact ⟨i - j, j, D2, by omega, by omega, by omega, by omega, by first | rfl | (rw [← e3]; rfl) | go_num, rfl, hR2.out, hx2.out, hr2.out, hmv.out⟩
        case measure => simp [intOf]; omega
      · have hgti : ¬ (i : Int) > (j : Int) := by omega
        have hsw := Lib.hid (swapRange_any w0 b off c n fv D' wr hR hl hcn hx (m - i) (m + j - i) i (by omega) (by omega) hc1)
        clear hR hx
        have e2 : (m : Int) + (j : Int) - (i : Int) = ((m + j - i : Nat) : Int) := by omega
        go_wp2_with fail
        try rw [e1, e2]
        refine hsw.out.mono ?_
        rintro e w1 ⟨rfl, D2, hR2, hx2, hs2, hm2⟩
        have hr2 := Lib.hid (hr.out.right (by omega) (by omega) hs2)
        have hmv := Lib.hid (hm.out.trans (hm2.mono (by omega) (by omega)))
        replace hR2 := Lib.hid hR2
        replace hx2 := Lib.hid hx2
        have e3 : (j : Int) - (i : Int) = ((j - i : Nat) : Int) := by omega
        clear hsw hs2 hm2 e1 e2
        go_wp2
        go_roundw
        case rel => exact ⟨i, j - i, D2, by omega, by omega, by omega, by omega, rfl, by first | rfl | (rw [← e3]; rfl) | go_num, hR2.out, hx2.out, hr2.out, hmv.out⟩
        case measure => simp [intOf]; omega

/-- The comparison works wherever only the block of the data has been written. -/
def CmpI (w0 : World) (b n bp : Nat) (cv : Int → Int → Int) : Prop := ∀ w' (x y : Int), Ex [b] w0 w' → 0 ≤ x → x < (n : Int) → 0 ≤ y → y < (n : Int) →
  Calls Try.prog 104 #[.int .i64 x, .int .i64 y, .pointer (some ⟨bp, 0, none⟩)] w' fun e w'' => e = .returned (.int .i64 (cv x y)) ∧ ∃ q, w'' = w'.drewN q
theorem Mv.inR {D D' : List Int} {a b n : Nat} (h : Mv D D' a b) (hr : ∀ i, i < D.length → 0 ≤ gi D i ∧ gi D i < (n : Int)) : ∀ i, i < D'.length → 0 ≤ gi D' i ∧ gi D' i < (n : Int) := by
  intro i hi
  have hm : gi D' i ∈ D := h.perm.subset (by rw [gi_eq hi]; exact List.getElem_mem _)
  obtain ⟨j, hj, he⟩ := List.getElem_of_mem hm
  rw [← he, ← gi_eq hj]
  exact hr j hj

set_option maxRecDepth 10000 in
set_option maxHeartbeats 4000000 in
theorem insCmp_any (w0 : World) (b off c n bp : Nat) (cv : Int → Int → Int) (hcv : Pre cv) (hcmp : CmpI w0 b n bp cv) (D : List Int) (w : World) (hR : Row w 3 b off c (ints D)) (hn : D.length = n) (hcn : n ≤ c) (hx : Ex [b] w0 w) (hin : ∀ i, i < D.length → 0 ≤ gi D i ∧ gi D i < (n : Int))
    (p q : Nat) (hpq : p ≤ q) (hq : q ≤ n) (hc1 : n ≤ 1000000000) (hid : ∀ i j, p ≤ i → i < j → j < q → gi D i < gi D j) :
    Calls Try.prog 143 #[.slice (some ⟨b, off, none⟩) n c, .int .i64 (p : Nat), .int .i64 (q : Nat), .func (.func 104) #[] #[.pointer (some ⟨bp, 0, none⟩)]] w fun e w' => e = .returned (.tuple #[]) ∧ ∃ D', Row w' 3 b off c (ints D') ∧ Ex [b] w0 w' ∧ Mv D D' p q ∧ Srt cv D' p q := by
  replace hR := Lib.hid hR
  replace hx := Lib.hid hx
  replace hn := Lib.hid hn
  replace hcv := Lib.hid hcv
  replace hcmp := Lib.hid hcmp
  replace hin := Lib.hid hin
  replace hid := Lib.hid hid
  go_enter Try.func143, Try.ntmps143
  go_wp2
  go_loopw [8] (fun iv wr => ∃ (i : Nat) (D' : List Int), p + 1 ≤ i ∧ (i ≤ q ∨ i = p + 1) ∧ iv = .int .i64 (i : Nat) ∧ Row wr 3 b off c (ints D') ∧ Ex [b] w0 wr ∧ Mv D D' p i ∧ Srt cv D' p i) (fun iv _ => q + 1 - (intOf iv).toNat)
  case atStart => exact ⟨p + 1, D, Nat.le_refl _, .inr rfl, by go_num, hR.out, hx.out, Mv.refl _ _ _, Srt.one _ _ (Nat.le_refl _)⟩
  case round =>
    clear hR hx
    obtain ⟨wo, rfl⟩ : ∃ wo : World, wo = wr := ⟨_, rfl⟩
    obtain ⟨i, D', hpi, hiq, rfl, hR, hx, hm, hs⟩ := hrel
    replace hR := Lib.hid hR
    replace hx := Lib.hid hx
    replace hm := Lib.hid hm
    replace hs := Lib.hid hs
    by_cases hlt : i < q
    · have hlti : (i : Int) < (q : Int) := by omega
      have hXe : gi D' i = gi D i := hm.out.out i (by omega)
      have hsm : ∀ t, p ≤ t → t ≤ i → t ≠ i → gi D' t < gi D i := fun t g1 g2 g3 => by
        obtain ⟨t', k1, k2, k3⟩ := hm.out.ins t g1 (by omega)
        rw [k3]; exact hid.out t' i k1 k2 hlt
      have hXr := hin.out i (by rw [hn.out]; omega)
      have hm2 := Lib.hid (hm.out.mono (a' := p) (b' := i + 1) (Nat.le_refl _) (by omega))
      have hsx := Lib.hid (SrtX.start hs.out)
      replace hsm := Lib.hid hsm
      generalize gi D i = X at *
      replace hXe := Lib.hid hXe
      go_wp2
      go_loopw [9] (fun jv wr => ∃ (j : Nat) (D' : List Int), p ≤ j ∧ j ≤ i ∧ jv = .int .i64 (j : Nat) ∧ Row wr 3 b off c (ints D') ∧ Ex [b] w0 wr ∧ Mv D D' p (i + 1) ∧ SrtX cv D' p i j ∧ gi D' j = X ∧ ∀ t, p ≤ t → t ≤ i → t ≠ j → gi D' t < X) (fun jv _ => (intOf jv).toNat)
      case atStart => exact ⟨i, D', by omega, Nat.le_refl _, rfl, hR.out, hx.out, hm2.out, hsx.out, hXe.out, hsm.out⟩
      case round =>
        clear hR hx hm hs hm2 hsx hsm hXe
        obtain ⟨wi, rfl⟩ : ∃ wi : World, wi = wr := ⟨_, rfl⟩
        obtain ⟨j, D', hpj, hji, rfl, hR, hx, hm, hsx, hXj, hsm⟩ := hrel
        have hl := hm.len
        rw [hn.out] at hl
        replace hl := Lib.hid hl
        have hinD := Lib.hid (hm.inR hin.out)
        by_cases hjp : p < j
        · obtain ⟨m, hjm⟩ : ∃ m, j = m + 1 := ⟨j - 1, by omega⟩
          have hjpi : (p : Int) < (j : Int) := by omega
          have hYX := hsm m (by omega) (by omega) (by omega)
          have hYr := hinD.out m (by rw [hl.out]; omega)
          have hc1' : wi.cell? ⟨b, off + j, none⟩ = some (.int .i64 X) := by rw [← hXj]; exact hR.cellInt (by rw [hl.out]; omega)
          have hc2' : wi.cell? ⟨b, off + m, none⟩ = some (.int .i64 (gi D' m)) := hR.cellInt (by rw [hl.out]; omega)
          have hf1 := hR.frozen (off + j)
          have hf2 := hR.frozen (off + m)
          have hset0 := hR.swapI (i := j) (j := m) (by rw [hl.out]; omega) (by rw [hl.out]; omega)
          rw [hXj, swp_comm (by rw [hl.out]; omega) (by rw [hl.out]; omega)] at hset0
          have hset := Lib.hid hset0
          have hE1 : cv X (gi D' m) < 0 → SrtX cv (swp D' m j) p i m := fun hh => by
            subst hjm
            exact hsx.step (by omega) hji (by rw [hl.out]; omega) (by rw [hXj]; exact .inl hh)
          have hE0 : ¬ cv X (gi D' m) < 0 → Srt cv D' p (i + 1) := fun hh => hsx.done hcv.out (.inr (by
            rw [show j - 1 = m by omega, hXj]
            exact hcv.out.not_ll (by omega) (fun e => hh ((ll_of_cmp hYX).1 e))))
          have hm2 := Lib.hid (hm.trans (Mv.swp (D := D') (a := p) (b := i + 1) (i := m) (j := j) (by omega) (by omega) (by omega) (by rw [hl.out]; omega)))
          have hX2 := Lib.hid (show gi (swp D' m j) m = X by rw [gi_swp (by rw [hl.out]; omega) (by rw [hl.out]; omega), if_neg (by omega), if_pos rfl, hXj])
          have hsm2 := Lib.hid (show ∀ t, p ≤ t → t ≤ i → t ≠ m → gi (swp D' m j) t < X from fun t g1 g2 g3 => by
            rw [gi_swp (by rw [hl.out]; omega) (by rw [hl.out]; omega)]
            by_cases e : t = j
            · rw [if_pos e]; exact hYX
            · rw [if_neg e, if_neg g3]; exact hsm t g1 g2 e)
          have hmE := Lib.hid hm
          clear hsx hXj hsm hm
          replace hR := Lib.hid hR
          replace hx := Lib.hid hx
          have hi3 : (j : Int) - 1 = (m : Int) := by omega
          have hn1 : ¬ j = m := by omega
          have hn2 : ¬ m = j := by omega
          have hmn : (m : Int) < (n : Int) := by omega
          have hjn : (j : Int) < (n : Int) := by omega
          replace hjm := Lib.hid hjm
          generalize gi D' m = Y at *
          have hcall : ∀ z, z = cv X Y → ∀ qq, Calls Try.prog 104 #[.int .i64 X, .int .i64 Y, .pointer (some ⟨bp, 0, none⟩)] (wi.drewN qq) fun e w'' => e = .returned (.int .i64 z) ∧ ∃ q9, w'' = (wi.drewN qq).drewN q9 := fun z hz qq => by
            rw [hz]; exact hcmp.out _ X Y (hx.out.drewN qq) hXr.1 hXr.2 hYr.1 hYr.2
          generalize hz : cv X Y = z at *
          replace hcall := Lib.hid (hcall z rfl)
          replace hz := Lib.hid hz
          by_cases hz0 : z < 0
          · have hE := Lib.hid (hE1 hz0)
            clear hE1 hE0
            go_wp2
            go_quiet ((go_at_call 104; exact Calls.quiet_of (hcall.out _)))
            go_wp2
            go_region
            go_wp2
            go_roundw
            case rel => exact ⟨m, _, by have := hjm.out; omega, by have := hjm.out; omega, by first | rfl | go_num, hset.out, Ex.swapI (hx.out.drewN _) (by simp), hm2.out, hE.out, hX2.out, hsm2.out⟩
            case measure => have := hjm.out; first | (simp [intOf]; done) | (simp [intOf]; omega)
          · have hE := Lib.hid (hE0 hz0)
            clear hE1 hE0
            go_wp2
            go_quiet ((go_at_call 104; exact Calls.quiet_of (hcall.out _)))
            try go_wp2
            go_roundw
            case rel => exact ⟨i + 1, D', by omega, by omega, by go_num, hR.out, hx.out.drewN _, hmE.out, hE.out⟩
            case measure => simp [intOf]; omega
        · obtain rfl : j = p := by omega
          have hjpi : ¬ (j : Int) < (j : Int) := by omega
          have hjd : decide ((j : Int) < (j : Int)) = false := by simp
          have hE := Lib.hid (hsx.done hcv.out (.inl rfl))
          replace hR := Lib.hid hR
          replace hx := Lib.hid hx
          replace hm := Lib.hid hm
          clear hsx hXj hsm
          go_wp2
          go_quiet (fail)
          try go_wp2
          go_roundw
          case rel => exact ⟨i + 1, D', by omega, by omega, by go_num, hR.out, hx.out.drewN _, hm.out, hE.out⟩
          case measure => simp [intOf]; omega
    · have hlti : ¬ (i : Int) < (q : Int) := by omega
      have hmq := Lib.hid (hm.out.mono (a' := p) (b' := if i ≤ q then i else q + 1) (Nat.le_refl _) (by split <;> omega))
      have hfin : Mv D D' p q ∧ Srt cv D' p q := by
        by_cases e : i = q
        · subst e; exact ⟨hm.out, hs.out⟩
        · obtain rfl : p = q := by omega
          have hi : i = p + 1 := by omega
          subst hi
          refine ⟨⟨hm.out.perm, fun t ht => ?_, fun t h1 h2 => by omega⟩, Srt.one _ _ (by omega)⟩
          by_cases e2 : t = p
          · subst e2
            obtain ⟨t', k1, k2, k3⟩ := hm.out.ins t (Nat.le_refl _) (by omega)
            rw [k3]; congr 1; omega
          · exact hm.out.out t (by omega)
      replace hfin := Lib.hid hfin
      clear hmq hs hm
      go_wp2
      go_end0
      exact ⟨rfl, D', hR.out, hx.out, hfin.out.1, hfin.out.2⟩
end Go.Proofs.Ytdhcpoeopooejaa
