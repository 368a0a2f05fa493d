/- laws.FnExactCompareRows: the walk. -/
import Derived.Test.YtoeonplbgbgjmaaDoorCmpJ
import Derived.Test.YtoeonplbgbgjmaaDoorCmpK
import Derived.Deep.Cut
import Derived.Deep.RegionWith
import Derived.BigRegion
import Derived.RegionTactic
namespace Go.Proofs.YtoeonplbgbgjmaaDoor
open Go.RowKit
set_option linter.unusedVariables false
set_option linter.unusedSimpArgs false

set_option maxRecDepth 10000 in
set_option maxHeartbeats 8000000 in
theorem FnExactCompareRows_walk (vs : Value) (xs : TKeySpecS) (vA : Value) (xA : TRow) (vB : Value) (xB : TRow) (w : World) (DS : DKeySpecS w vs xs) (DA : DRow w vA xA) (DB : DRow w vB xB) (T : TabS w) :
    Calls Tryd.prog 5 #[vs, vA, vB] w fun e w' => e = .returned (.bool true) ∧ Below w.heap.size w w' := by
  obtain ⟨uA, rfl, dA⟩ := DA
  obtain ⟨uB, rfl, dB⟩ := DB
  obtain ⟨W0, hWd⟩ : ∃ W0, W0 = (w.alloc (.cells #[uA] 36)).alloc (.cells #[uB] 36) := ⟨_, rfl⟩
  have hBW : Below w.heap.size w W0 := by rw [hWd]; exact ((Below.refl _ _).alloc (Nat.le_refl _) _).alloc (by simp) _
  have hsz0 : W0.heap.size = w.heap.size + 2 := by rw [hWd]; simp
  have c5 : W0.cell? ⟨w.heap.size, 0, none⟩ = some uA := by rw [hWd]; simp [go_sem]
  have c6 : W0.cell? ⟨w.heap.size + 1, 0, none⟩ = some uB := by rw [hWd]; simp [go_sem]
  have hS : Hid (∀ w', Below W0.heap.size W0 w' → w'.cell? ⟨w.heap.size, 0, none⟩ = some uA ∧ w'.cell? ⟨w.heap.size + 1, 0, none⟩ = some uB) := Lib.hid (fun w' hw =>
    ⟨(hw.cell (p := ⟨w.heap.size, 0, none⟩) (by simp; omega)).trans c5, (hw.cell (p := ⟨w.heap.size + 1, 0, none⟩) (by simp; omega)).trans c6⟩)
  have hfin : Hid (∀ wr, Below W0.heap.size W0 wr → Below w.heap.size w wr) := Lib.hid (fun wr hw => Below.next hBW hw)
  have hDS : Hid (∀ w', Below W0.heap.size W0 w' → DKeySpecS w' vs xs) := Lib.hid (fun w' hw => DS.next (Below.next hBW hw))
  have hDA : Hid (∀ w', Below W0.heap.size W0 w' → DRow w' (.agg #[uA]) xA) := Lib.hid (fun w' hw => ⟨uA, rfl, dA.next (Below.next hBW hw)⟩)
  have hDB : Hid (∀ w', Below W0.heap.size W0 w' → DRow w' (.agg #[uB]) xB) := Lib.hid (fun w' hw => ⟨uB, rfl, dB.next (Below.next hBW hw)⟩)
  have hTT : Hid (∀ w', Below W0.heap.size W0 w' → TabS w') := Lib.hid (fun w' hw => T.next (Below.next hBW hw))
  obtain ⟨aoS, cS, rfl⟩ := DS.shape
  clear DS dA dB T hBW c5 c6
  replace hWd := Lib.hid hWd
  replace hsz0 := Lib.hid hsz0
  have hB0 : Hid (Below W0.heap.size W0 W0) := Lib.hid (Below.refl _ _)
  obtain ⟨nS, hnS⟩ : ∃ nS, xs.length = nS := ⟨_, rfl⟩
  rw [hnS] at hDS ⊢
  replace hnS := Lib.hid hnS
  have hnn : Hid (szKeySpecS xs = szKeySpecS xs) := Lib.hid rfl
  by_cases h1 : szKeySpecS xs ≤ 1048576
  · go_enter Tryd.func5, Tryd.ntmps5
    go_wp2_with fail
    rw [← hWd.out]
    refine (szKeySpecS_yes (hDS.out _ hB0.out) (by omega) (by omega)).mono ?_
    rintro e W1 ⟨rfl, b⟩
    have hB1 := Lib.hid b
    obtain ⟨d1, d2⟩ := hS.out _ b
    clear b
    by_cases h2 : szKeySpecS xs + szRow xA ≤ 1048576
    · go_wp2_with fail
      refine (szRow_yes (hDA.out _ hB1.out) (by omega) (by omega)).mono ?_
      rintro e W2 ⟨rfl, b⟩
      have hB2 := Lib.hid (Below.next hB1.out b)
      clear b d1 d2 hB1
      obtain ⟨d1, d2⟩ := hS.out _ hB2.out
      by_cases h3 : szKeySpecS xs + szRow xA + szRow xB ≤ 1048576
      · go_wp2_with fail
        refine (szRow_yes (hDB.out _ hB2.out) (by omega) (by omega)).mono ?_
        rintro e W3 ⟨rfl, b⟩
        have hB3 := Lib.hid (Below.next hB2.out b)
        clear b d1 d2 hB2
        obtain ⟨d1, d2⟩ := hS.out _ hB3.out
        obtain ⟨R, hR⟩ : ∃ R, crR xs xA xB = R := ⟨_, rfl⟩
        have hspec : Hid (∀ {vs va vb : Value} {F1 F2 F3 : List Nat} {w : World} (r1 : RKeySpecS w vs xs F1) (r2 : RRow w va xA F2) (r3 : RRow w vb xB F3), Calls Tryd.prog 21 #[vs, va, vb] w fun e w' => e = .returned (.tuple #[.int .i64 R.1, .bool R.2]) ∧ Below w.heap.size w w') := Lib.hid (fun r1 r2 r3 => hR ▸ spec_CompareRows_law r1 r2 r3)
        have himpl : Hid (∀ {vs va vb : Value} {F1 F2 F3 : List Nat} {w : World} (r1 : RKeySpecS w vs xs F1) (r2 : RRow w va xA F2) (r3 : RRow w vb xB F3) (hT : TabS w), Calls Tryd.prog 23 #[vs, va, vb] w fun e w' => e = .returned (.tuple #[.int .i64 R.1, .bool R.2]) ∧ Below w.heap.size w w') := Lib.hid (fun r1 r2 r3 hT => hR ▸ impl_CompareRows_law r1 r2 r3 hT)
        clear hR
        obtain ⟨R1, R2⟩ := R
        dsimp only at hspec himpl
        go_upto_region 11 with (fail)
        go_cut [8, 9] from 15 (fun a8 a9 wq => a8 = .int .i64 R1 ∧ a9 = .bool R2 ∧ Below W0.heap.size W0 wq)
        case first =>
          have hB3d := Lib.hid (show Below W0.heap.size W0 W3.drew from Below.drewN hB3.out 1)
          have mk := Lib.hid trivial
          go_region_with (first
            | (go_at_call 13; refine (toKeySpecS_law (hDS.out _ hB3d.out) (by omega)).mono ?_; rintro e W5 ⟨v4, F4, rfl, r4, fr, b⟩; have hB5 := Lib.hid (Below.next hB3d.out b); clear fr b; replace r4 := Lib.hid r4; have c5 := (hS.out _ hB5.out).1; have c6 := (hS.out _ hB5.out).2)
            | (go_at_call 22; clear mk; refine (toRow_law (hDA.out _ hB5.out) (by omega)).mono ?_; rintro e W7 ⟨v6, F6, rfl, r6, fr, b⟩; have hB7 := Lib.hid (Below.next hB5.out b); have r4b := Lib.hid (r4.out.next b); clear fr b; replace r6 := Lib.hid r6; have c7 := (hS.out _ hB7.out).1; have c8 := (hS.out _ hB7.out).2)
            | (go_at_call 22; refine (toRow_law (hDB.out _ hB7.out) (by omega)).mono ?_; rintro e W9 ⟨v8, F8, rfl, r8, fr, b⟩; have hB9 := Lib.hid (Below.next hB7.out b); have r4c := Lib.hid (r4b.out.next b); have r6c := Lib.hid (r6.out.next b); clear fr b; replace r8 := Lib.hid r8; have c9 := (hS.out _ hB9.out).1; have c10 := (hS.out _ hB9.out).2)
            | (go_at_call 21; refine (hspec.out r4c.out r6c.out r8.out).mono ?_; rintro e W10 ⟨rfl, b⟩; have hB10 := Lib.hid (Below.next hB9.out b); clear b))
          all_goals
            go_wp2_with fail
            go_meet
            case rel => exact ⟨rfl, rfl, hB10.out⟩
        case rest =>
          obtain ⟨rfl, rfl, hBc⟩ := hcut
          have hBc' := Lib.hid hBc
          clear d1 d2 hB3 hspec
          obtain ⟨d1, d2⟩ := hS.out _ hBc
          clear hBc
          go_wp2_with fail
          refine (toKeySpecS_law (hDS.out _ hBc'.out) (by omega)).mono ?_
          rintro e W12 ⟨v12, F12, rfl, r12, fr, b⟩
          have hB12 := Lib.hid (Below.next hBc'.out b)
          clear fr b d1 d2 hBc'
          replace r12 := Lib.hid r12
          obtain ⟨d1, d2⟩ := hS.out _ hB12.out
          go_wp2_with fail
          refine (toRow_law (hDA.out _ hB12.out) (by omega)).mono ?_
          rintro e W14 ⟨v14, F14, rfl, r14, fr, b⟩
          obtain ⟨x1, rfl, y1⟩ := r14
          obtain ⟨p1, k1, rfl⟩ := y1.rd.shape
          generalize hn1 : xA.length = n1 at *
          replace hn1 := Lib.hid hn1
          have hB14 := Lib.hid ((Below.next hB12.out b).alloc (Nat.le_trans hB12.out.size b.size) (.cells #[.slice p1 n1 k1] 40))
          have b14 : Below W14.heap.size W14 (W14.alloc (.cells #[.slice p1 n1 k1] 40)) := (Below.refl _ _).alloc (Nat.le_refl _) _
          replace r12 := Lib.hid ((r12.out.next b).next b14)
          have r14 : Hid (RRow (W14.alloc (.cells #[.slice p1 n1 k1] 40)) (.agg #[.slice p1 n1 k1]) xA F14) := Lib.hid ⟨_, rfl, y1.next b14⟩
          clear fr b d1 d2 y1 b14 hB12
          obtain ⟨d1, d2⟩ := hS.out _ hB14.out
          go_wp2_with fail
          refine (toRow_law (hDB.out _ hB14.out) (by omega)).mono ?_
          rintro e W16 ⟨v16, F16, rfl, r16, fr, b⟩
          obtain ⟨_, rfl, y2⟩ := r16
          obtain ⟨p2, k2, rfl⟩ := y2.rd.shape
          generalize hn2 : xB.length = n2 at *
          replace hn2 := Lib.hid hn2
          have hB16 := Lib.hid ((Below.next hB14.out b).alloc (Nat.le_trans hB14.out.size b.size) (.cells #[.slice p2 n2 k2] 40))
          have b16 : Below W16.heap.size W16 (W16.alloc (.cells #[.slice p2 n2 k2] 40)) := (Below.refl _ _).alloc (Nat.le_refl _) _
          replace r12 := Lib.hid ((r12.out.next b).next b16)
          replace r14 := Lib.hid ((r14.out.next b).next b16)
          have r16 : Hid (RRow (W16.alloc (.cells #[.slice p2 n2 k2] 40)) (.agg #[.slice p2 n2 k2]) xB F16) := Lib.hid ⟨_, rfl, y2.next b16⟩
          have e1 : (W16.alloc (.cells #[.slice p2 n2 k2] 40)).cell? ⟨W14.heap.size, 0, none⟩ = some (.slice p1 n1 k1) := (((b.mono (Nat.le_refl _)).alloc b.size (.cells #[.slice p2 n2 k2] 40)).cell (p := ⟨W14.heap.size, 0, none⟩) (by simp)).trans (by simp [go_sem])
          have e2 : (W16.alloc (.cells #[.slice p2 n2 k2] 40)).cell? ⟨W16.heap.size, 0, none⟩ = some (.slice p2 n2 k2) := by simp [go_sem]
          have hlt14 : W14.heap.size < W16.heap.size := by have := b.size; simp at this; omega
          obtain ⟨W6, hW6⟩ : ∃ W6, W6 = W16.alloc (.cells #[.slice p2 n2 k2] 40) := ⟨_, rfl⟩
          have hz6 : W6.heap.size = W16.heap.size + 1 := by rw [hW6]; simp
          have e1r := e1
          rw [← hW6] at r12 r14 r16 e1 e2 hB16
          have hS2 : Hid (∀ w', Below W6.heap.size W6 w' → Below W0.heap.size W0 w' ∧ w'.cell? ⟨w.heap.size, 0, none⟩ = some uA ∧ w'.cell? ⟨w.heap.size + 1, 0, none⟩ = some uB ∧ w'.cell? ⟨W14.heap.size, 0, none⟩ = some (.slice p1 n1 k1) ∧ w'.cell? ⟨W16.heap.size, 0, none⟩ = some (.slice p2 n2 k2) ∧ RRow w' (.agg #[.slice p1 n1 k1]) xA F14 ∧ RRow w' (.agg #[.slice p2 n2 k2]) xB F16 ∧ RKeySpecS w' v12 xs F12) := Lib.hid (fun w' hw =>
            ⟨Below.next hB16.out hw, (hS.out _ (Below.next hB16.out hw)).1, (hS.out _ (Below.next hB16.out hw)).2, (hw.cell (p := ⟨W14.heap.size, 0, none⟩) (by simp; omega)).trans e1, (hw.cell (p := ⟨W16.heap.size, 0, none⟩) (by simp; omega)).trans e2, r14.out.next hw, r16.out.next hw, r12.out.next hw⟩)
          replace hW6 := Lib.hid hW6
          replace hz6 := Lib.hid hz6
          clear fr b d1 d2 y2 b16 hB14 e1 e2 hlt14 r12 r14 r16
          have hC0 : Hid (Below W6.heap.size W6 W6) := Lib.hid (Below.refl _ _)
          go_wp2_with fail
          rw [← hW6.out]
          refine (himpl.out (hS2.out _ hC0.out).2.2.2.2.2.2.2 (hS2.out _ hC0.out).2.2.2.2.2.1 (hS2.out _ hC0.out).2.2.2.2.2.2.1 (hTT.out _ (hS2.out _ hC0.out).1)).mono ?_
          rintro e W17 ⟨rfl, b⟩
          have hC1 := Lib.hid b
          clear b e1r
          go_wp2_with fail
          refine (toKeySpecS_law (hDS.out _ (hS2.out _ hC1.out).1) (by omega)).mono ?_
          rintro e W18 ⟨v18, F18, rfl, r18, fr, b⟩
          have hC2 := Lib.hid (Below.next hC1.out b)
          replace r18 := Lib.hid r18
          clear fr b hC1
          go_wp2_with fail
          refine (eqKeySpecS_law (hS2.out _ hC2.out).2.2.2.2.2.2.2 r18.out).mono ?_
          rintro e W19 ⟨rfl, b⟩
          have hC3 := Lib.hid (Below.next hC2.out b)
          clear b hC2 r18
          go_upto_region 20 with (fail)
          go_cut [70] from 15 (fun c wq => c = .bool false ∧ Below W6.heap.size W6 wq)
          case first =>
            obtain ⟨g0, g1, g2, g3, g4, g5, g6, g7⟩ := hS2.out _ hC3.out
            have hC3d := Lib.hid (show Below W6.heap.size W6 W19.drew from Below.drewN hC3.out 1)
            clear g0 g5 g6 g7 g2 g4
            go_region_with (first
              | (go_at_call 22; refine (toRow_law (hDA.out _ (hS2.out _ hC3d.out).1) (by omega)).mono ?_; rintro e W20 ⟨v20, F20, rfl, r20, fr, b⟩; have hC4 := Lib.hid (Below.next hC3d.out b); clear fr b; replace r20 := Lib.hid r20; have f3 := (hS2.out _ hC4.out).2.2.2.1)
              | (go_at_call 24; refine (eqRow_law (hS2.out _ hC4.out).2.2.2.2.2.1 r20.out).mono ?_; rintro e W21 ⟨rfl, b⟩; have hC5 := Lib.hid (Below.next hC4.out b); clear b))
            all_goals
              go_wp2_with fail
              go_meet
              case rel => exact ⟨by simp, hC5.out⟩
          case rest =>
            obtain ⟨rfl, hC6⟩ := hcut
            have hC6' := Lib.hid hC6
            clear hC6 hC3
            go_upto_region 22 with (fail)
            obtain ⟨g0, g1, g2, g3, g4, g5, g6, g7⟩ := hS2.out _ hC6'.out
            have hC6d := Lib.hid (show Below W6.heap.size W6 wc.drew from Below.drewN hC6'.out 1)
            clear g0 g5 g6 g7 g1 g3
            go_region_with (first
              | (go_at_call 22; refine (toRow_law (hDB.out _ (hS2.out _ hC6d.out).1) (by omega)).mono ?_; rintro e W22 ⟨v22, F22, rfl, r22, fr, b⟩; have hC7 := Lib.hid (Below.next hC6d.out b); clear fr b; replace r22 := Lib.hid r22; have f3 := (hS2.out _ hC7.out).2.2.2.2.1)
              | (go_at_call 24; refine (eqRow_law (hS2.out _ hC7.out).2.2.2.2.2.2.1 r22.out).mono ?_; rintro e W23 ⟨rfl, b⟩; have hC8 := Lib.hid (Below.next hC7.out b); clear b))
            all_goals
              go_wp2
              go_ret
              exact ⟨rfl, hfin.out _ (hS2.out _ hC8.out).1⟩
      · go_wp2_with fail
        refine (szRow_no (hDB.out _ hB2.out) (by omega) (by omega) (by omega)).mono ?_
        rintro e W3 ⟨rfl, b⟩
        have hB3 := Lib.hid (Below.next hB2.out b)
        clear b d1 d2 hB2
        go_wp2
        go_ret
        exact ⟨rfl, hfin.out _ hB3.out⟩
    · go_wp2_with fail
      refine (szRow_no (hDA.out _ hB1.out) (by omega) (by omega) (by omega)).mono ?_
      rintro e W2 ⟨rfl, b⟩
      have hB2 := Lib.hid (Below.next hB1.out b)
      clear b d1 d2 hB1
      go_wp2
      go_ret
      exact ⟨rfl, hfin.out _ hB2.out⟩
  · go_enter Tryd.func5, Tryd.ntmps5
    go_wp2_with fail
    rw [← hWd.out]
    refine (szKeySpecS_no (hDS.out _ hB0.out) (by omega) (by omega) (by omega)).mono ?_
    rintro e W1 ⟨rfl, b⟩
    have hB1 := Lib.hid b
    clear b
    go_wp2
    go_ret
    exact ⟨rfl, hfin.out _ hB1.out⟩
end Go.Proofs.YtoeonplbgbgjmaaDoor
