/- laws.FnCycles: the walk. -/
import Derived.Test.YteccchdngclfoaaVHelp
import Derived.Test.YteccchdngclfoaaVInts
import Derived.Test.YteccchdngclfoaaCycM
import Derived.Test.YteccchdngclfoaaPCycles
import Derived.Test.YteccchdngclfoaaPSign
namespace Go.Proofs.Yteccchdngclfoaa
open Go.RowKit
set_option linter.unusedVariables false
set_option linter.unusedSimpArgs false

theorem vInts_q {v u : Value} {xs : List Int} {w : World} {a n : Nat} (hv : Sl w 3 v (ints xs)) (hu : Sl w 3 u (ints xs)) :
    Calls Try.prog 9 #[v, u] (w.drewN (a + n)) fun e w'' => e = .returned (.bool true) ∧ ∃ m, w'' = w.drewN (a + m) :=
  (vInts_any v u xs xs _ (hv.drewN _) (hu.drewN _)).mono fun _ _ ⟨he, q, hq⟩ => ⟨by rw [he]; simp, n + q, by rw [hq, World.drewN_drewN, Nat.add_assoc]⟩
theorem lenS_sz (x : List (List Int)) : lenS x = szIntSS x := by
  induction x with
  | nil => rfl
  | cons c x ih => rw [lenS, szIntSS, ih]

set_option maxRecDepth 10000 in
set_option maxHeartbeats 4000000 in
theorem FnCycles_walk (d : Value) (w : World) (h : RdBy w d) (hd : ∀ b, d.ownBlock = some b → b < w.heap.size) :
    Calls Try.prog 3 #[d] w fun e w' => e = .returned (.bool true) ∧ Below w.heap.size w w' := by
  obtain ⟨ao, n, c, rfl, q1, q2, q3⟩ := id h
  replace h := Lib.hid h
  clear q3
  unfold maxLen at q2
  by_cases hbig : (65536 : Int) < (n : Int)
  · have hbd : decide ((65536 : Int) < (n : Int)) = true := by simp; omega
    go_enter Try.func3, Try.ntmps3
    go_wp2_with fail
    refine vBig_law.mono ?_
    rintro e w1 ⟨rfl, rfl⟩
    rw [hbd]
    go_wp2
    go_ret
    exact ⟨rfl, Below.refl _ _⟩
  · have hbd : decide ((65536 : Int) < (n : Int)) = false := by simp; omega
    go_enter Try.func3, Try.ntmps3
    go_wp2_with fail
    refine vBig_law.mono ?_
    rintro e w1 ⟨rfl, rfl⟩
    rw [hbd]
    go_wp2_with fail
    refine (DrawPermutationCycles_law h.out hd).mono ?_
    rintro e w2 ⟨vp, p, Fp, rfl, rp, fp, hB, hpl⟩
    replace hB := Lib.hid hB
    replace rp := Lib.hid rp
    clear fp
    go_wp2_with fail
    refine (impl_PermutationCycles_law rp.out).mono ?_
    rintro e w3 ⟨vl, Fl, rfl, rl, fl, b, _⟩
    replace hB := Lib.hid (Below.next hB.out b)
    replace rp := Lib.hid (rp.out.next b)
    replace rl := Lib.hid rl
    clear b fl
    go_wp2_with fail
    refine (spec_PermutationCycles_law rp.out).mono ?_
    rintro e w4 ⟨vw, Fw, rfl, rw_, fw, b, _⟩
    replace hB := Lib.hid (Below.next hB.out b)
    replace rp := Lib.hid (rp.out.next b)
    replace rl := Lib.hid (rl.out.next b)
    replace rw_ := Lib.hid rw_
    clear b fw
    obtain ⟨us, hus, inu, _⟩ := rl.out
    obtain ⟨vs, hvs, inv, _⟩ := rw_.out
    obtain ⟨lo, lc, rfl, _, lb, HL⟩ := hus.opened
    obtain ⟨wo, wc, rfl, _, wb, HW⟩ := hvs.opened
    unfold maxLen at lb wb
    have el := inu.len
    have ew := inv.len
    have hcl := cycR_closed p
    obtain ⟨hcls, hgd, hsg⟩ := hcl
    generalize hC : cycR p = C at *
    obtain ⟨X, ok⟩ := C
    dsimp only at *
    have hsl := inu.sl
    have hsw := inv.sl
    rw [ew]
    rw [el] at HL ⊢
    rw [ew] at HW
    generalize hz : X.length = z at *
    have hzl : z ≤ 2 ^ 63 - 1 := by omega
    have hslp := rp.out.1
    obtain ⟨po, pc, rfl, pb, _, _, HP⟩ := hslp.openInts
    unfold maxLen at pb
    have hszl : ∀ k, k ≤ z → szTo X k ≤ 100000000000 := fun k hk => by
      have := szTo_le X k z hk
      have := szTo_all X
      rw [hz] at this
      omega
    replace hsl := Lib.hid hsl
    replace hsw := Lib.hid hsw
    replace HL := Lib.hid HL
    replace HW := Lib.hid HW
    replace HP := Lib.hid HP
    replace hcls := Lib.hid hcls
    replace hgd := Lib.hid hgd
    replace hsg := Lib.hid hsg
    replace hz := Lib.hid hz
    replace hC := Lib.hid hC
    replace hszl := Lib.hid hszl
    replace el := Lib.hid el
    replace ew := Lib.hid ew
    clear hus hvs inu inv rl rw_ hslp
    go_wp2
    go_loopw [8, 9] (fun nv iv wr => ∃ k q : Nat, k ≤ z ∧ iv = .int .i64 (k : Nat) ∧ nv = .int .i64 (szTo X k : Nat) ∧ wr = w4.drewN q) (fun _ iv _ => z - (intOf iv).toNat)
    case atStart => exact ⟨0, 0, Nat.zero_le _, rfl, rfl, rfl⟩
    case round =>
      obtain ⟨k, q, hk, rfl, rfl, rfl⟩ := hrel
      have hsk := hszl.out k hk
      by_cases hlt : k < z
      · obtain ⟨b, off, rfl, hR⟩ := HL.out (by omega)
        obtain ⟨b2, off2, rfl, hR2⟩ := HW.out (by omega)
        have hc1 : w4.cell? ⟨b, off + k, none⟩ = some (gv us k) := by rw [hR.cell (by rw [el.out]; omega), gv_eq (by rw [el.out]; omega)]
        have hc2 : w4.cell? ⟨b2, off2 + k, none⟩ = some (gv vs k) := by rw [hR2.cell (by rw [ew.out]; omega), gv_eq (by rw [ew.out]; omega)]
        have hsx := Lib.hid (hsl.out k hlt)
        have hsy := Lib.hid (hsw.out k hlt)
        have hsk1 := hszl.out (k + 1) hlt
        rw [szTo] at hsk1
        have hck := Lib.hid (hcls.out (gl X k) (by rw [gl_eq (by rw [hz.out]; exact hlt)]; exact List.getElem_mem _))
        clear hR hR2
        generalize hgx : gv us k = ux at *
        generalize hgy : gv vs k = uy at *
        replace hgx := Lib.hid hgx
        replace hgy := Lib.hid hgy
        obtain ⟨io, ic, rfl, ib, _, _, HI⟩ := hsx.out.openInts
        unfold maxLen at ib
        replace HI := Lib.hid HI
        generalize hm : (gl X k).length = m at *
        replace hm := Lib.hid hm
        go_wp2
        go_quiet ((go_at_call 9; exact vInts_q hsx.out hsy.out))
        go_wp2
        go_loopw [10] (fun jv wr => ∃ j q2 : Nat, j ≤ m ∧ jv = .int .i64 (j : Nat) ∧ wr = w4.drewN q2) (fun jv _ => m - (intOf jv).toNat)
        case atStart => exact ⟨0, _, Nat.zero_le _, rfl, by first | rfl | exact World.drewN_drewN ..⟩
        case round =>
          obtain ⟨j, q2, hj, rfl, rfl⟩ := hrel
          by_cases hjm : j < m
          · obtain ⟨b3, off3, rfl, hR3⟩ := HI.out (by omega)
            have hck2 := hck.out.2 j (by rw [hm.out]; exact hjm)
            rw [hm.out] at hck2
            obtain ⟨hy1, hy2, hy3⟩ := hck2
            obtain ⟨y, hy⟩ := Int.eq_ofNat_of_zero_le hy1
            have ht : (j + 1) % m < m := Nat.mod_lt _ (by omega)
            have hmod : ((j : Int) + 1).tmod (m : Int) = (((j + 1) % m : Nat) : Int) := by rw [Int.tmod_eq_emod_of_nonneg (by omega)]; simp
            have hc3 : w4.cell? ⟨b3, off3 + j, none⟩ = some (.int .i64 (y : Int)) := by rw [hR3.cellInt (by rw [hm.out]; exact hjm), hy]
            have hc4 : w4.cell? ⟨b3, off3 + (j + 1) % m, none⟩ = some (.int .i64 (gi (gl X k) ((j + 1) % m))) := hR3.cellInt (by rw [hm.out]; exact ht)
            obtain ⟨b4, off4, rfl, hR4⟩ := HP.out (by omega)
            have hyp : y < p.length := by omega
            have hc5 : w4.cell? ⟨b4, off4 + y, none⟩ = some (.int .i64 (gi p y)) := hR4.cellInt hyp
            rw [hy, Int.toNat_natCast] at hy3
            rw [hy3] at hc5
            clear hR3 hR4 hy1 hy2 hy3
            replace hy := Lib.hid hy
            generalize (j + 1) % m = t at *
            generalize hgt : gi (gl X k) t = x at *
            replace hgt := Lib.hid hgt
            have hmz : ¬ (m : Int) = 0 := by omega
            generalize hpn : p.length = pn at *
            go_wp2
            go_quiet (fail)
            go_wp2
            go_roundw
            case rel => exact ⟨j + 1, _, by omega, by go_num, by first | rfl | exact World.drewN_drewN ..⟩
            case measure => simp [intOf]; omega
          · obtain rfl : j = m := by omega
            go_wp2
            go_roundw
            case rel => exact ⟨k + 1, _, by omega, by go_num, by rw [szTo, hm.out]; go_num, rfl⟩
            case measure => simp [intOf]; omega
      · have hkz : k = z := by omega
        subst hkz
        have hsum : szTo X k = szIntSS X := by rw [← szTo_all, hz.out]
        rw [hsum]
        have hrp := Lib.hid (rp.out.next (Below.drewN (Below.refl w4.heap.size w4) q))
        have hBq := Lib.hid (Below.next hB.out (Below.drewN (Below.refl w4.heap.size w4) q))
        have hb2 := hgd.out
        have hs2 := hsg.out
        have hc2 := hC.out
        rw [lenS_sz] at hb2
        have hz2 := hz.out
        clear hgd hsg hC hz hcls hszl hsl hsw el ew HL HW HP rp hB hsum
        generalize hsz : szIntSS X = sx at *
        have hal := Lib.hid (impl_PermutationSign_law hrp.out)
        generalize hsp : signR p = sp at *
        obtain ⟨sv, told⟩ := sp
        dsimp only at *
        subst hs2
        generalize hpn : p.length = pn at *
        replace hpn := Lib.hid hpn
        replace hsp := Lib.hid hsp
        cases told
        · have hX : X = [] := by
            unfold cycR at hc2
            split at hc2
            · injection hc2 with _ h2; cases h2
            · injection hc2 with h1 _; exact h1.symm
          subst hX
          simp at hz2
          subst hz2
          have hsx0 : sx = 0 := by rw [← hsz]; rfl
          subst hsx0
          clear hc2 hb2 hsz
          go_wp2_with fail
          refine hal.out.mono ?_
          rintro e w6 ⟨rfl, b⟩
          replace b := Lib.hid b
          go_wp2
          go_ret
          exact ⟨rfl, Below.next hBq.out b.out⟩
        · obtain ⟨h1, h2, h3⟩ := hb2 rfl
          subst h1
          subst h3
          clear hc2 hb2 hsz
          have hmod : ((sx : Int) - (k : Int)).tmod 2 = (((sx - k) % 2 : Nat) : Int) := by rw [Int.tmod_eq_emod_of_nonneg (by omega)]; omega
          by_cases hpar : (sx - k) % 2 = 0
          · have hsg : sgn (sx - k) = 1 := by unfold sgn; rw [hpar]; rfl
            rw [hsg] at hal hsp
            rw [hpar] at hmod
            go_wp2_with fail
            refine hal.out.mono ?_
            rintro e w6 ⟨rfl, b⟩
            replace b := Lib.hid b
            go_wp2
            go_ret
            exact ⟨rfl, Below.next hBq.out b.out⟩
          · have hpar1 : (sx - k) % 2 = 1 := by omega
            have hsg : sgn (sx - k) = -1 := by unfold sgn; rw [hpar1]; rfl
            rw [hsg] at hal hsp
            rw [hpar1] at hmod
            go_wp2_with fail
            refine hal.out.mono ?_
            rintro e w6 ⟨rfl, b⟩
            replace b := Lib.hid b
            go_wp2
            go_ret
            exact ⟨rfl, Below.next hBq.out b.out⟩
end Go.Proofs.Yteccchdngclfoaa
