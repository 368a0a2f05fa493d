/- laws.FnInverse: the walk. -/
import Derived.Test.YtbfffpdcpoejnaaVLaw
import Derived.Test.YtbfffpdcpoejnaaInvM
import Derived.Test.YtbfffpdcpoejnaaDrawI
import Derived.Test.YtbfffpdcpoejnaaDrawL
namespace Go.Proofs.Ytbfffpdcpoejnaa
open Go.RowKit
set_option linter.unusedVariables false
set_option linter.unusedSimpArgs false

set_option maxRecDepth 10000 in
set_option maxHeartbeats 4000000 in
theorem FnInverse_walk (d : Value) (w : World) (h : RdBy w d) (hd : ∀ b, d.ownBlock = some b → b < w.heap.size) :
    Calls Try.prog 3 #[d] w fun e w' => e = .returned (.bool true) ∧ Below w.heap.size w w' := by
  obtain ⟨ao, n, c, rfl, q1, q2, q3⟩ := id h
  replace h := Lib.hid h
  replace hd := Lib.hid hd
  have hB := Lib.hid (Below.refl w.heap.size w)
  clear q3
  unfold maxLen at q2
  by_cases hbig : (65536 : Int) < (n : Int)
  · have hbd : decide ((65536 : Int) < (n : Int)) = true := by simp; omega
    go_enter Try.func3, Try.ntmps3
    go_wp2_with fail
    refine vBig_law.mono ?_
    rintro e w1 ⟨rfl, rfl⟩
    rw [hbd]
    go_wp2
    go_ret
    exact ⟨rfl, Below.refl _ _⟩
  · have hbd : decide ((65536 : Int) < (n : Int)) = false := by simp; omega
    go_enter Try.func3, Try.ntmps3
    go_wp2_with fail
    refine vBig_law.mono ?_
    rintro e w0 ⟨rfl, rfl⟩
    rw [hbd]
    go_wp2_with fail
    refine (DrawInversePermutation_law h.out hd.out).mono ?_
    rintro e w1 ⟨vp, p, Fp, rfl, rp, fp, b, hpl⟩
    replace hB := Lib.hid (Below.next hB.out b)
    replace h := Lib.hid (h.out.next b)
    replace hd := Lib.hid (lt_next hd.out b)
    replace rp := Lib.hid rp
    clear b
    clear fp
    obtain ⟨po, pc, rfl, _, _⟩ := rp.out.opened
    have hsnd := invR_snd p
    have hno : (invR p).2 = false → (invR p).1 = [] := fun h => invR_no h
    have hcb : (invR p).2 = true → (compR p (invR p).1).2 = true ∧ (compR p (invR p).1).1.length = p.length ∧ ∀ i, i < p.length → gi (compR p (invR p).1).1 i = (i : Int) := fun h => compR_back h
    have l1 := Lib.hid (fun w (r : RIntS w (.slice po p.length pc) p Fp) => impl_InversePermutation_law r)
    have l2 := Lib.hid (fun w (r : RIntS w (.slice po p.length pc) p Fp) => spec_InversePermutation_law r)
    have l3 := Lib.hid (fun w (r : RIntS w (.slice po p.length pc) p Fp) => impl_IsValidPermutation_law r)
    rw [← hsnd] at l3
    clear hsnd
    generalize hC : invR p = C at *
    obtain ⟨I, ok⟩ := C
    dsimp only at l1 l2 l3 hno hcb
    replace hno := Lib.hid hno
    replace hcb := Lib.hid hcb
    clear hC
    go_wp2_with fail
    refine (l1.out _ rp.out).mono ?_
    rintro e w2 ⟨vq, Fq, rfl, rq, fq, b, _⟩
    replace hB := Lib.hid (Below.next hB.out b)
    replace h := Lib.hid (h.out.next b)
    replace hd := Lib.hid (lt_next hd.out b)
    replace rp := Lib.hid (rp.out.next b)
    replace rq := Lib.hid rq
    clear b
    go_wp2_with fail
    refine (l2.out _ rp.out).mono ?_
    rintro e w3 ⟨vw, Fw, rfl, rw_, fw, b, _⟩
    replace hB := Lib.hid (Below.next hB.out b)
    replace h := Lib.hid (h.out.next b)
    replace hd := Lib.hid (lt_next hd.out b)
    replace rp := Lib.hid (rp.out.next b)
    replace rq := Lib.hid (rq.out.next b)
    replace rw_ := Lib.hid rw_
    clear b
    clear fq fw l1 l2
    go_wp2_with fail
    refine (vInts_same rq.out rw_.out).mono ?_
    rintro e w4 ⟨rfl, b⟩
    replace hB := Lib.hid (Below.next hB.out b)
    replace h := Lib.hid (h.out.next b)
    replace hd := Lib.hid (lt_next hd.out b)
    replace rp := Lib.hid (rp.out.next b)
    replace rq := Lib.hid (rq.out.next b)
    replace rw_ := Lib.hid (rw_.out.next b)
    clear b
    go_wp2_with fail
    refine (l3.out _ rp.out).mono ?_
    rintro e w5 ⟨rfl, b⟩
    replace hB := Lib.hid (Below.next hB.out b)
    replace h := Lib.hid (h.out.next b)
    replace hd := Lib.hid (lt_next hd.out b)
    replace rp := Lib.hid (rp.out.next b)
    replace rq := Lib.hid (rq.out.next b)
    replace rw_ := Lib.hid (rw_.out.next b)
    clear b
    clear rw_
    clear l3
    go_wp2_with fail
    refine (DrawApplyPermutation_law h.out hd.out).mono ?_
    rintro e w6 ⟨vr, r, Fr_, vl, l, Fl, rfl, rr, rl, b, hrl, hll⟩
    replace hB := Lib.hid (Below.next hB.out b)
    replace h := Lib.hid (h.out.next b)
    replace hd := Lib.hid (lt_next hd.out b)
    replace rp := Lib.hid (rp.out.next b)
    replace rq := Lib.hid (rq.out.next b)
    replace rr := Lib.hid rr
    replace rl := Lib.hid rl
    clear b
    clear h hd
    have hback : (appR r l).2 = true → appR (invR r).1 (appR r l).1 = (l, true) := fun h => appR_back h
    have l4 := Lib.hid (fun w (a : RIntS w vr r Fr_) (b : RIntS w vl l Fl) => impl_ApplyPermutation_law a b)
    have l5 := Lib.hid (fun w (a : RIntS w vr r Fr_) (b : RIntS w vl l Fl) => spec_ApplyPermutation_law a b)
    generalize hA : appR r l = A at *
    obtain ⟨M, fine⟩ := A
    dsimp only at l4 l5 hback
    replace hback := Lib.hid hback
    clear hA
    go_wp2_with fail
    refine (l4.out _ rr.out rl.out).mono ?_
    rintro e w7 ⟨vm, Fm, rfl, rm, fm, b, _⟩
    replace hB := Lib.hid (Below.next hB.out b)
    replace rp := Lib.hid (rp.out.next b)
    replace rq := Lib.hid (rq.out.next b)
    replace rr := Lib.hid (rr.out.next b)
    replace rl := Lib.hid (rl.out.next b)
    replace rm := Lib.hid rm
    clear b
    go_wp2_with fail
    refine (l5.out _ rr.out rl.out).mono ?_
    rintro e w8 ⟨vx, Fx, rfl, rx, fx, b, _⟩
    replace hB := Lib.hid (Below.next hB.out b)
    replace rp := Lib.hid (rp.out.next b)
    replace rq := Lib.hid (rq.out.next b)
    replace rr := Lib.hid (rr.out.next b)
    replace rl := Lib.hid (rl.out.next b)
    replace rm := Lib.hid (rm.out.next b)
    replace rx := Lib.hid rx
    clear b
    clear fm fx l4 l5
    go_wp2_with fail
    refine (vInts_same rm.out rx.out).mono ?_
    rintro e w9 ⟨rfl, b⟩
    replace hB := Lib.hid (Below.next hB.out b)
    replace rp := Lib.hid (rp.out.next b)
    replace rq := Lib.hid (rq.out.next b)
    replace rr := Lib.hid (rr.out.next b)
    replace rl := Lib.hid (rl.out.next b)
    replace rm := Lib.hid (rm.out.next b)
    replace rx := Lib.hid (rx.out.next b)
    clear b
    clear rx
    obtain ⟨qo, qc, rfl, _, _⟩ := rq.out.opened
    cases fine
    · skip
      clear hback
      cases ok
      · rw [hno.out rfl]
        go_wp2
        go_ret
        exact ⟨rfl, hB.out⟩
      · skip
        have l6 := Lib.hid (impl_ComposePermutations_law rp.out rq.out)
        obtain ⟨h1, h2, h3⟩ := hcb.out rfl
        generalize hC : compR p I = C at *
        obtain ⟨D, told⟩ := C
        dsimp only at h1 h2 h3 l6
        subst h1
        clear hC hcb hno
        replace h3 := Lib.hid h3
        go_wp2_with fail
        refine (l6.out).mono ?_
        rintro e w10 ⟨vi, Fi, rfl, ri, fi, b, _⟩
        replace hB := Lib.hid (Below.next hB.out b)
        replace rp := Lib.hid (rp.out.next b)
        replace rq := Lib.hid (rq.out.next b)
        replace rr := Lib.hid (rr.out.next b)
        replace rl := Lib.hid (rl.out.next b)
        replace rm := Lib.hid (rm.out.next b)
        replace ri := Lib.hid ri
        clear b
        obtain ⟨io, ic, rfl, hib, HI⟩ := ri.out.opened
        rw [h2] at HI hib ⊢
        generalize hn : p.length = n at *
        replace hn := Lib.hid hn
        replace HI := Lib.hid HI
        clear rp rq fi l6 h2
        go_wp2
        go_loopw [20] (fun iv wr => ∃ (i q : Nat), i ≤ n ∧ iv = .int .i64 (i : Nat) ∧ wr = w10.drewN q) (fun iv _ => n - (intOf iv).toNat)
        case atStart => exact ⟨0, 0, Nat.zero_le _, rfl, rfl⟩
        case round =>
          obtain ⟨i, q, hi, rfl, rfl⟩ := hrel
          by_cases hlt : i < n
          · obtain ⟨b, off, rfl, hR⟩ := HI.out (by omega)
            have hc1 := hR i hlt
            rw [h3.out i hlt] at hc1
            clear hR
            go_wp2
            go_roundw
            case rel => exact ⟨i + 1, _, by omega, by go_num, rfl⟩
            case measure => simp [intOf]; omega
          · obtain rfl : i = n := by omega
            go_wp2
            go_ret
            exact ⟨rfl, Below.next hB.out (Below.quiet ⟨_, rfl⟩)⟩
    · skip
      go_wp2_with fail
      refine (impl_InversePermutation_law rr.out).mono ?_
      rintro e w10 ⟨vu, Fu, rfl, ru, fu, b, _⟩
      replace hB := Lib.hid (Below.next hB.out b)
      replace rp := Lib.hid (rp.out.next b)
      replace rq := Lib.hid (rq.out.next b)
      replace rr := Lib.hid (rr.out.next b)
      replace rl := Lib.hid (rl.out.next b)
      replace rm := Lib.hid (rm.out.next b)
      replace ru := Lib.hid ru
      clear b
      have l7 := Lib.hid (impl_ApplyPermutation_law ru.out rm.out)
      rw [hback.out (by first | rfl | trivial)] at l7
      clear hback fu
      go_wp2_with fail
      refine (l7.out).mono ?_
      rintro e w11 ⟨vk, Fk, rfl, rk, fk, b, _⟩
      replace hB := Lib.hid (Below.next hB.out b)
      replace rp := Lib.hid (rp.out.next b)
      replace rq := Lib.hid (rq.out.next b)
      replace rr := Lib.hid (rr.out.next b)
      replace rl := Lib.hid (rl.out.next b)
      replace rm := Lib.hid (rm.out.next b)
      replace ru := Lib.hid (ru.out.next b)
      replace rk := Lib.hid rk
      clear b
      clear l7 fk
      go_wp2_with fail
      refine (vInts_same rk.out rl.out).mono ?_
      rintro e w12 ⟨rfl, b⟩
      replace hB := Lib.hid (Below.next hB.out b)
      replace rp := Lib.hid (rp.out.next b)
      replace rq := Lib.hid (rq.out.next b)
      replace rr := Lib.hid (rr.out.next b)
      replace rl := Lib.hid (rl.out.next b)
      replace rm := Lib.hid (rm.out.next b)
      replace ru := Lib.hid (ru.out.next b)
      replace rk := Lib.hid (rk.out.next b)
      clear b
      clear rk
      clear ru
      clear rl
      clear rm
      clear rr
      cases ok
      · rw [hno.out rfl]
        go_wp2
        go_ret
        exact ⟨rfl, hB.out⟩
      · skip
        have l6 := Lib.hid (impl_ComposePermutations_law rp.out rq.out)
        obtain ⟨h1, h2, h3⟩ := hcb.out rfl
        generalize hC : compR p I = C at *
        obtain ⟨D, told⟩ := C
        dsimp only at h1 h2 h3 l6
        subst h1
        clear hC hcb hno
        replace h3 := Lib.hid h3
        go_wp2_with fail
        refine (l6.out).mono ?_
        rintro e w13 ⟨vi, Fi, rfl, ri, fi, b, _⟩
        replace hB := Lib.hid (Below.next hB.out b)
        replace rp := Lib.hid (rp.out.next b)
        replace rq := Lib.hid (rq.out.next b)
        replace ri := Lib.hid ri
        clear b
        obtain ⟨io, ic, rfl, hib, HI⟩ := ri.out.opened
        rw [h2] at HI hib ⊢
        generalize hn : p.length = n at *
        replace hn := Lib.hid hn
        replace HI := Lib.hid HI
        clear rp rq fi l6 h2
        go_wp2
        go_loopw [20] (fun iv wr => ∃ (i q : Nat), i ≤ n ∧ iv = .int .i64 (i : Nat) ∧ wr = w13.drewN q) (fun iv _ => n - (intOf iv).toNat)
        case atStart => exact ⟨0, 0, Nat.zero_le _, rfl, rfl⟩
        case round =>
          obtain ⟨i, q, hi, rfl, rfl⟩ := hrel
          by_cases hlt : i < n
          · obtain ⟨b, off, rfl, hR⟩ := HI.out (by omega)
            have hc1 := hR i hlt
            rw [h3.out i hlt] at hc1
            clear hR
            go_wp2
            go_roundw
            case rel => exact ⟨i + 1, _, by omega, by go_num, rfl⟩
            case measure => simp [intOf]; omega
          · obtain rfl : i = n := by omega
            go_wp2
            go_ret
            exact ⟨rfl, Below.next hB.out (Below.quiet ⟨_, rfl⟩)⟩
end Go.Proofs.Ytbfffpdcpoejnaa
