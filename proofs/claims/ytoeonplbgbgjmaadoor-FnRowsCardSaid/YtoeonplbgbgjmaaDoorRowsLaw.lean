/- laws.FnRows: the walk. -/
import Derived.Test.YtoeonplbgbgjmaaDoorMg4
import Derived.Test.YtoeonplbgbgjmaaDoorVRows
import Derived.Test.YtoeonplbgbgjmaaDoorMg13
import Derived.Test.YtoeonplbgbgjmaaDoorMg12
import Derived.Test.YtoeonplbgbgjmaaDoorSrS
import Derived.Deep.Cut
import Derived.Deep.RegionHeld3
namespace Go.Proofs.YtoeonplbgbgjmaaDoor
open Go.RowKit
set_option linter.unusedVariables false
set_option linter.unusedSimpArgs false

theorem crR_yes {X : List KS} {A B : List ByteArray} (h : okC2 X A B = true) : crR X A B = (cmpRs A B X, true) := by simp [crR, h]
theorem okC2_iff {X : List KS} {A B : List ByteArray} : okC2 X A B = true ↔ okK X = true ∧ rowB A = true ∧ rowB B = true := by simp [okC2, and_assoc]
theorem crR_facts (X : List KS) (A B C : List ByteArray) (h : (crR X A B).2 = true) :
    (crR X B A).1 = -(crR X A B).1 ∧ ((crR X B C).2 = true → (crR X A C).2 = true → (crR X A B).1 ≤ 0 → (crR X B C).1 ≤ 0 → (crR X A C).1 ≤ 0) ∧ -1 ≤ (crR X A B).1 ∧ (crR X A B).1 ≤ 1 := by
  have hab : okC2 X A B = true := by
    by_cases e : okC2 X A B = true
    · exact e
    · simp [crR, e] at h
  obtain ⟨h1, h2, h3⟩ := okC2_iff.1 hab
  have hba : okC2 X B A = true := okC2_iff.2 ⟨h1, h3, h2⟩
  rw [crR_yes hab, crR_yes hba]
  refine ⟨(pre_rows X).anti A B, fun g1 g2 => ?_, (cmpRs_bd A B X).1, (cmpRs_bd A B X).2⟩
  have hbc : okC2 X B C = true := by
    by_cases e : okC2 X B C = true
    · exact e
    · simp [crR, e] at g1
  have hac : okC2 X A C = true := by
    by_cases e : okC2 X A C = true
    · exact e
    · simp [crR, e] at g2
  rw [crR_yes hbc, crR_yes hac]
  exact (pre_rows X).tr A B C
theorem svR_step {X : List KS} {Fs : List (List ByteArray)} {i : Nat} (h : okV X Fs = true) (hi : i + 1 < (stV X Fs).length) : crR X (gf (stV X Fs) i) (gf (stV X Fs) (i + 1)) = (cmpRs (gf (stV X Fs) i) (gf (stV X Fs) (i + 1)) X, true) ∧ cmpRs (gf (stV X Fs) i) (gf (stV X Fs) (i + 1)) X ≤ 0 := by
  obtain ⟨h1, _, h3, _⟩ := okV_facts h
  have hl := stV_length X Fs
  have hr : ∀ j, j < (stV X Fs).length → rowB (gf (stV X Fs) j) = true := fun j hj => by
    rw [gf_eq hj]
    exact List.all_eq_true.1 h3 _ ((stV_perm X Fs).mem_iff.1 (List.getElem_mem hj))
  exact ⟨crR_yes (okC2_iff.2 ⟨h1, hr i (by omega), hr (i + 1) hi⟩), stV_sorted (by omega)⟩

set_option maxRecDepth 10000 in
set_option maxHeartbeats 8000000 in
theorem FnRows_walk (d : Value) (w : World) (h : RdBy w d) (hd : ∀ b, d.ownBlock = some b → b < w.heap.size) (T : TabS w) :
    Calls Tryd.prog 10 #[d] w fun e w' => e = .returned (.bool true) ∧ Below w.heap.size w w' := by
  have hT := Lib.hid T
  clear T
  obtain ⟨ao, n, c, rfl, q1, q2, q3⟩ := id h
  replace h := Lib.hid h
  replace hd := Lib.hid hd
  clear q3
  unfold maxLen at q2
  by_cases hbig : (65536 : Int) < (n : Int)
  · have hbd : decide ((65536 : Int) < (n : Int)) = true := by simp; omega
    go_enter Tryd.func10, Tryd.ntmps10
    go_wp2_with fail
    refine vBig_law.mono ?_
    rintro e w1 ⟨rfl, rfl⟩
    rw [hbd]
    go_wp2
    go_ret
    exact ⟨rfl, Below.refl _ _⟩
  · have hbd : decide ((65536 : Int) < (n : Int)) = false := by simp; omega
    go_enter Tryd.func10, Tryd.ntmps10
    go_wp2_with fail
    refine vBig_law.mono ?_
    rintro e w0 ⟨rfl, rfl⟩
    rw [hbd]
    go_wp2_with fail
    refine (DrawCompareRows_law h.out hd.out).mono ?_
    rintro e w1 ⟨vs, X, F1, va, A, F2, vb, B, F3, rfl, rk, ra, rb, b1⟩
    obtain ⟨W0, hWd⟩ : ∃ W0, W0 = (w1.alloc (.cells #[va] 40)).alloc (.cells #[vb] 40) := ⟨_, rfl⟩
    have hBW : Below w1.heap.size w1 W0 := by rw [hWd]; exact ((Below.refl _ _).alloc (Nat.le_refl _) _).alloc (by simp) _
    have hsz0 : W0.heap.size = w1.heap.size + 2 := by rw [hWd]; simp
    have c5 : W0.cell? ⟨w1.heap.size, 0, none⟩ = some va := by rw [hWd]; simp [go_sem]
    have c6 : W0.cell? ⟨w1.heap.size + 1, 0, none⟩ = some vb := by rw [hWd]; simp [go_sem]
    have hS : Hid (∀ w', Below W0.heap.size W0 w' → w'.cell? ⟨w1.heap.size, 0, none⟩ = some va ∧ w'.cell? ⟨w1.heap.size + 1, 0, none⟩ = some vb) := Lib.hid (fun w' hw =>
      ⟨(hw.cell (p := ⟨w1.heap.size, 0, none⟩) (by simp; omega)).trans c5, (hw.cell (p := ⟨w1.heap.size + 1, 0, none⟩) (by simp; omega)).trans c6⟩)
    have hBw : Hid (∀ w', Below W0.heap.size W0 w' → Below w0.heap.size w0 w') := Lib.hid (fun w' hw => Below.next (Below.next b1 hBW) hw)
    have rk0 := Lib.hid (rk.next hBW)
    have ra0 := Lib.hid (ra.next hBW)
    have rb0 := Lib.hid (rb.next hBW)
    have hcI : Hid (∀ wr, Below W0.heap.size W0 wr → ∀ {va vb : Value} {A B : List ByteArray} {F2 F3 : List Nat}, RStringS wr va A F2 → RStringS wr vb B F3 → Calls Tryd.prog 23 #[vs, .agg #[va], .agg #[vb]] wr fun e w' => e = .returned (.tuple #[.int .i64 (crR X A B).1, .bool (crR X A B).2]) ∧ Below W0.heap.size W0 w' ∧ Below wr.heap.size wr w') := Lib.hid (fun wr hw _ _ _ _ _ _ r2 r3 =>
      (impl_CompareRows_law (rk0.out.next hw) ⟨_, rfl, r2⟩ ⟨_, rfl, r3⟩ (hT.out.next (hBw.out wr hw))).mono fun _ _ ⟨he, hb⟩ => ⟨he, Below.next hw hb, hb⟩)
    have hcS : Hid (∀ wr, Below W0.heap.size W0 wr → Calls Tryd.prog 21 #[vs, .agg #[va], .agg #[vb]] wr fun e w' => e = .returned (.tuple #[.int .i64 (crR X A B).1, .bool (crR X A B).2]) ∧ Below W0.heap.size W0 w') := Lib.hid (fun wr hw =>
      (spec_CompareRows_law (rk0.out.next hw) ⟨_, rfl, ra0.out.next hw⟩ ⟨_, rfl, rb0.out.next hw⟩).mono fun _ _ ⟨he, hb⟩ => ⟨he, Below.next hw hb⟩)
    have hvI : Hid (∀ wr, Below W0.heap.size W0 wr → Calls Tryd.prog 55 #[.agg #[va]] wr fun e w' => e = .returned (.bool (rowB A)) ∧ Below W0.heap.size W0 w') := Lib.hid (fun wr hw =>
      (impl_IsValidRow_law ⟨_, rfl, ra0.out.next hw⟩).mono fun _ _ ⟨he, hb⟩ => ⟨he, Below.next hw hb⟩)
    have hvS : Hid (∀ wr, Below W0.heap.size W0 wr → Calls Tryd.prog 56 #[.agg #[va]] wr fun e w' => e = .returned (.bool (rowB A)) ∧ Below W0.heap.size W0 w') := Lib.hid (fun wr hw =>
      (spec_IsValidRow_law ⟨_, rfl, ra0.out.next hw⟩).mono fun _ _ ⟨he, hb⟩ => ⟨he, Below.next hw hb⟩)
    have hfx := Lib.hid (fun C => crR_facts X A B C)
    have hn1 := Lib.hid hsz0
    obtain ⟨ka, kc, rfl, _⟩ := rk.rd
    obtain ⟨oa, oc, rfl⟩ := ra.rd.shape
    obtain ⟨pa, pc, rfl⟩ := rb.rd.shape
    generalize hXl : X.length = xl at *
    generalize hAl : A.length = al at *
    generalize hBl : B.length = bl at *
    replace hXl := Lib.hid hXl
    replace hAl := Lib.hid hAl
    replace hBl := Lib.hid hBl
    generalize hR1 : crR X A B = R at *
    replace hR1 := Lib.hid hR1
    obtain ⟨N, ok⟩ := R
    dsimp only at hcS hfx
    clear rk ra rb b1 c5 c6 hBW hsz0
    replace hWd := Lib.hid hWd
    have hB0 : Hid (Below W0.heap.size W0 W0) := Lib.hid (Below.refl _ _)
    obtain ⟨d1, d2⟩ := hS.out _ hB0.out
    have l1 := Lib.hid (hcI.out W0 hB0.out ra0.out rb0.out)
    rw [hR1.out] at l1
    dsimp only at l1
    go_wp2_with fail
    rw [← hWd.out]
    go_wp2_with fail
    refine l1.out.mono ?_
    rintro e w2 ⟨rfl, hB2, _⟩
    clear d1 d2 l1
    obtain ⟨d1, d2⟩ := hS.out _ hB2
    replace hB2 := Lib.hid hB2
    go_wp2_with fail
    refine (hcS.out _ hB2.out).mono ?_
    rintro e w3 ⟨rfl, hB3⟩
    clear d1 d2
    obtain ⟨d1, d2⟩ := hS.out _ hB3
    replace hB3 := Lib.hid (show Below W0.heap.size W0 w3.drew from Below.drewN hB3 1)
    generalize rowB A = bA at *
    have hmk := Lib.hid trivial
    go_wp2
    go_region_held3 (fun w' => w'.cell? ⟨w1.heap.size, 0, none⟩ = some (.slice oa al oc)) ((first | exact (hS.out _ hBx.out).1 | go_keep)) ((first
      | (go_at_call 55; refine (hvI.out _ (by first | exact hBx.out | exact hB3.out)).mono ?_; rintro e w' ⟨rfl, hBx⟩; replace hBx := Lib.hid hBx)
      | (go_at_call 56; refine (hvS.out _ (by first | exact hBx.out | exact hB3.out)).mono ?_; rintro e w' ⟨rfl, hBx⟩; replace hBx := Lib.hid hBx)))
    clear d1 d2 hmk
    obtain ⟨w4, rfl⟩ : ∃ w4, w4 = w' := ⟨_, rfl⟩
    go_upto_if 65 with (fail)
    go_cut [] from 10 (fun wq => Below w0.heap.size w0 wq)
    case first =>
      cases ok
      · go_wp2_with fail
        go_meet
        case rel => exact hBw.out _ hBx.out
      · obtain ⟨d3, d4⟩ := hS.out _ hBx.out
        have l2 := Lib.hid (hcI.out w4 hBx.out (rb0.out.next hBx.out) (ra0.out.next hBx.out))
        have hM := (hfx.out A (by trivial)).1
        have hNb := (hfx.out A (by trivial)).2.2
        rw [hM] at l2
        have hwN : IntKind.i64.wrap (-N) = -N := IntWalk.i64_in _ (by omega)
        generalize (crR X B A).2 = okm at *
        replace hM := Lib.hid hM
        go_wp2_with fail
        refine l2.out.mono ?_
        rintro e w5 ⟨rfl, hB5, _⟩
        replace hB5 := Lib.hid hB5
        clear d3 d4 l2
        have hbw5 := Lib.hid (hBw.out _ hB5.out)
        go_wp2_with fail
        refine (vCut_any (h.out.next hbw5.out) (fun a b c e => by simp at e; omega)).mono ?_
        rintro e w6 ⟨vr, rfl, hrd, hrl, b6⟩
        have hB6 := Lib.hid (Below.next hB5.out b6)
        clear b6
        go_wp2_with fail
        refine (DrawCompareRows_law hrd hrl).mono ?_
        rintro e w7 ⟨vs2, X2, G1, vc, C, G2, vd, D, G3, rfl, _, sc, sd, b7⟩
        obtain ⟨sa, sl, rfl⟩ := sc.rd.shape
        obtain ⟨ta, tl, rfl⟩ := sd.rd.shape
        generalize hCl : C.length = cl at *
        generalize D.length = dl at *
        replace hCl := Lib.hid hCl
        obtain ⟨W7, hW7⟩ : ∃ W7, W7 = (w7.alloc (.cells #[.slice sa cl sl] 40)).alloc (.cells #[.slice ta dl tl] 40) := ⟨_, rfl⟩
        have hb77 : Below w7.heap.size w7 W7 := by rw [hW7]; exact ((Below.refl _ _).alloc (Nat.le_refl _) _).alloc (by simp) _
        have hsz7 : W7.heap.size = w7.heap.size + 2 := by rw [hW7]; simp
        have hB7 := Lib.hid (Below.next (Below.next hB6.out b7) hb77)
        obtain ⟨d3, d4⟩ := hS.out _ hB7.out
        have c13 : W7.cell? ⟨w7.heap.size, 0, none⟩ = some (.slice sa cl sl) := by rw [hW7]; simp [go_sem]
        have sc7 := Lib.hid (sc.next hb77)
        have l3 := Lib.hid (hcI.out W7 hB7.out (rb0.out.next hB7.out) sc7.out)
        have htr := Lib.hid ((hfx.out C (by trivial)).2.1)
        clear sc sd b7 hb77 hrd hrl
        generalize hR2 : crR X B C = R2 at *
        generalize hR3 : crR X A C = R3 at *
        replace hR2 := Lib.hid hR2
        replace hR3 := Lib.hid hR3
        obtain ⟨x, one⟩ := R2
        obtain ⟨y, two⟩ := R3
        dsimp only at l3 htr
        have c13e := c13
        rw [hW7] at d3 d4 c13e
        replace hW7 := Lib.hid hW7
        replace hsz7 := Lib.hid hsz7
        replace c13 := Lib.hid c13
        go_wp2_with fail
        rw [← hW7.out]
        refine l3.out.mono ?_
        rintro e w8 ⟨rfl, hB8, hb8⟩
        clear d3 d4 c13e
        obtain ⟨d3, d4⟩ := hS.out _ hB8
        have c14 : w8.cell? ⟨w7.heap.size, 0, none⟩ = some (.slice sa cl sl) := (hb8.cell (p := ⟨w7.heap.size, 0, none⟩) (by have := hsz7.out; simp; omega)).trans c13.out
        have l4 := Lib.hid (hcI.out w8 hB8 (ra0.out.next hB8) (sc7.out.next hb8))
        rw [hR3.out] at l4
        dsimp only at l4
        clear c13 hb8
        replace hB8 := Lib.hid hB8
        go_wp2_with fail
        refine l4.out.mono ?_
        rintro e w9 ⟨rfl, hB9, _⟩
        have hfin := Lib.hid (hBw.out _ hB9)
        clear hB9 d3 d4 c14 l3 l4
        cases one
        · go_wp2_with fail
          go_meet
          case rel => exact hfin.out
        · cases two
          · go_wp2_with fail
            go_meet
            case rel => exact hfin.out
          · by_cases hN0 : N ≤ 0
            · by_cases hx0 : x ≤ 0
              · have hy0 : y ≤ 0 := htr.out (by trivial) (by trivial) hN0 hx0
                have hy1 : ¬ y > 0 := by omega
                go_wp2_with fail
                go_meet
                case rel => exact hfin.out
              · go_wp2_with fail
                go_meet
                case rel => exact hfin.out
            · go_wp2_with fail
              go_meet
              case rel => exact hfin.out
    case rest =>
      replace hcut := Lib.hid hcut
      clear hcI hcS hvI hvS hfx hS hBw rk0 ra0 rb0 hBx hB0 hB2 hB3
      go_wp2_with fail
      refine (DrawSortRows_law (h.out.next hcut.out) (lt_next hd.out hcut.out)).mono ?_
      rintro e w10 ⟨vk, K, G1, vr, Fs, G2, rfl, rk, rr, b⟩
      have hB10 := Lib.hid (Below.next hcut.out b)
      clear b hcut
      obtain ⟨ka2, kc2, rfl, _⟩ := rk.rd
      obtain ⟨ra2, rc2, _, rfl, _⟩ := rr.rd
      generalize hKl : K.length = kl at *
      generalize hFl : Fs.length = fl at *
      replace hKl := Lib.hid hKl
      go_wp2_with fail
      refine (impl_SortRows_law rk rr (hT.out.next hB10.out)).mono ?_
      rintro e w11 ⟨vh, G3, rfl, rh, _, b, _⟩
      have hB11 := Lib.hid (Below.next hB10.out b)
      have rk2 := Lib.hid (rk.next b)
      have rr2 := Lib.hid (rr.next b)
      clear b rk rr
      obtain ⟨ha, hc9, _, rfl, _⟩ := rh.rd
      replace rh := Lib.hid rh
      go_wp2_with fail
      refine (spec_SortRows_law rk2.out rr2.out).mono ?_
      rintro e w12 ⟨vm, G4, rfl, rm, _, b, _⟩
      have hB12 := Lib.hid (Below.next hB11.out b)
      have rk3 := Lib.hid (rk2.out.next b)
      replace rh := Lib.hid (rh.out.next b)
      clear b rk2 rr2
      have hvr := Lib.hid (vRows_any _ _ _ w12 rh.out.rd rm.rd)
      obtain ⟨ma, mc9, _, rfl, _⟩ := rm.rd
      have hst := Lib.hid (fun (h : okV K Fs = true) (i : Nat) hi => svR_step (i := i) h hi)
      have hSl := Lib.hid (stV_length K Fs)
      cases hok : okV K Fs
      · have hR : svR K Fs = ([], false) := by simp [svR, hok]
        rw [hR] at hvr
        simp only [hR]
        clear rm
        replace hR := Lib.hid hR
        replace hok := Lib.hid hok
        go_wp2_with fail
        refine hvr.out.mono ?_
        rintro e w13 ⟨rfl, q, rfl⟩
        go_wp2
        go_loopw [25] (fun iv wr => iv = .int .i64 0 ∧ wr = w12.drewN q) (fun _ _ => 0)
        case atStart => exact ⟨rfl, rfl⟩
        case round =>
          obtain ⟨rfl, rfl⟩ := hrel
          by_cases hf0 : fl = 0
          · subst hf0
            go_wp2
            go_ret
            exact ⟨rfl, Below.drewN hB12.out q⟩
          · have hf1 : ((0 : Int) == (fl : Int)) = false := by simp; omega
            go_wp2
            go_ret
            exact ⟨rfl, Below.drewN hB12.out q⟩
      · have hR : svR K Fs = (stV K Fs, true) := by simp [svR, hok]
        have h64 := (okV_facts hok).2.1
        rw [hFl] at h64
        have hst2 := Lib.hid (hst.out hok)
        rw [hR] at hvr
        simp only [hR] at rh ⊢
        have hSl2 := hSl.out
        rw [hFl] at hSl2
        clear rm hst hSl
        generalize hS : stV K Fs = S at *
        replace hR := Lib.hid hR
        replace hok := Lib.hid hok
        replace hS := Lib.hid hS
        replace hFl := Lib.hid hFl
        rw [hSl2] at hvr ⊢
        rw [hSl2] at rh
        replace hSl2 := Lib.hid hSl2
        go_wp2_with fail
        refine hvr.out.mono ?_
        rintro e w13 ⟨rfl, q, rfl⟩
        go_wp2
        go_loopw [25] (fun iv wr => ∃ i : Nat, (i + 1 ≤ fl ∨ i = 0) ∧ iv = .int .i64 (i : Nat) ∧ Below w12.heap.size w12 wr) (fun iv _ => fl - (intOf iv).toNat)
        case atStart => exact ⟨0, .inr rfl, rfl, Below.drewN (Below.refl _ _) q⟩
        case round =>
          obtain ⟨i, hi, rfl, hb⟩ := hrel
          by_cases hlt : i + 1 < fl
          · have hlti : (i : Int) + 1 < (fl : Int) := by omega
            obtain ⟨us, s1, s2, _⟩ := rh.out
            have hul := s2.len
            rw [hSl2.out] at hul
            obtain ⟨av, cv, e9, hA9⟩ := s1
            simp only [Value.slice.injEq] at e9
            obtain ⟨rfl, h99, rfl⟩ := e9
            clear h99
            rcases hA9 with ⟨_, h9, _⟩ | ⟨rb, ro, rfl, hrow⟩
            · rw [h9] at hul; simp at hul; omega
            · have hrw := hrow.below hb hrow.lt
              have e1 := hrw.cell (i := i) (by omega)
              have e2 := hrw.cell (i := i + 1) (by omega)
              rw [← gv_eq] at e1 e2
              have r1 := (s2.sl i (by rw [hSl2.out]; omega)).next hb
              have r2 := (s2.sl (i + 1) (by rw [hSl2.out]; omega)).next hb
              obtain ⟨g1, g2⟩ := hst2.out i (by rw [hSl2.out]; exact hlt)
              obtain ⟨xa, xc, ex⟩ := r1.rd.shape
              obtain ⟨ya, yc, ey⟩ := r2.rd.shape
              rw [ex] at e1 r1
              rw [ey] at e2 r2
              have hcl := Lib.hid (impl_CompareRows_law (w := wr.drew) (rk3.out.next (Below.drewN hb 1)) ⟨_, rfl, r1.next (Below.drewN (Below.refl _ _) 1)⟩ ⟨_, rfl, r2.next (Below.drewN (Below.refl _ _) 1)⟩ (hT.out.next (Below.next hB12.out (Below.drewN hb 1))))
              rw [g1] at hcl
              dsimp only at hcl
              generalize cmpRs (gf S i) (gf S (i + 1)) K = z at *
              generalize (gf S i).length = x1 at *
              generalize (gf S (i + 1)).length = y1 at *
              have hz : ¬ z > 0 := by omega
              have hbd := Lib.hid (show Below w12.heap.size w12 wr.drew from Below.drewN hb 1)
              have hlb : rb < wr.heap.size := hrw.lt
              obtain ⟨m, hm⟩ : ∃ m, i + 1 = m := ⟨_, rfl⟩
              rw [hm] at e2
              have hm1 : (i : Int) + 1 = (m : Int) := by omega
              have hm2 : IntKind.i64.wrap ((i : Int) + 1) = (m : Int) := by rw [hm1]; exact IntWalk.i64_in _ (by omega)
              have hm3 : (0 : Int) ≤ (m : Int) := by omega
              have hm4 : (m : Int) < (fl : Int) := by omega
              have hm5 : (0 : Int) ≤ (i : Int) := by omega
              have hm6 : (i : Int) < (fl : Int) := by omega
              have hm7 : IntKind.i64.wrap (m : Int) = (m : Int) := IntWalk.i64_in _ (by omega)
              replace hm := Lib.hid hm
              clear hrow hrw r1 r2 g1 ex ey s2 hul
              go_wp2
              go_region_held3 (fun w' => w'.cell? ⟨rb, ro + i, none⟩ = some (.slice xa x1 xc) ∧ w'.cell? ⟨rb, ro + m, none⟩ = some (.slice ya y1 yc)) ((first | exact ⟨(hbel.cell (p := ⟨rb, ro + i, none⟩) hlb).trans e1, (hbel.cell (p := ⟨rb, ro + m, none⟩) hlb).trans e2⟩ | go_keep)) ((go_at_call 23; refine hcl.out.mono ?_; rintro e w' ⟨rfl, hbel⟩))
              have hb2 := Lib.hid (Below.next hbd.out hbel)
              clear hbel hb
              go_wp2
              go_roundw
              case rel => exact ⟨m, .inl (by have := hm.out; omega), rfl, hb2.out⟩
              case measure => have := hm.out; simp [intOf]; omega
          · have hlti : ¬ (i : Int) + 1 < (fl : Int) := by omega
            have hbf := Lib.hid (Below.next hB12.out hb)
            clear hb
            go_wp2
            go_ret
            exact ⟨rfl, hbf.out⟩
end Go.Proofs.YtoeonplbgbgjmaaDoor
