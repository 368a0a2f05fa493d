/- laws.FnExchanges: the walk. -/
import Derived.Test.YtdhcpoeopooejaaVLaw
import Derived.Test.YtdhcpoeopooejaaExM
import Derived.Test.YtdhcpoeopooejaaCwI
import Derived.Test.YtdhcpoeopooejaaDrawS
namespace Go.Proofs.Ytdhcpoeopooejaa
open Go.RowKit
set_option linter.unusedVariables false
set_option linter.unusedSimpArgs false

set_option maxHeartbeats 1000000 in
theorem DrawSelectionSort_law {d : Value} {w : World} (h : RdBy w d) (hd : ∀ b, d.ownBlock = some b → b < w.heap.size) :
    Calls Try.prog 45 #[d] w fun e w' => ∃ (r : Value) (L : List Int) (F : List Nat), e = .returned r ∧ RIntS w' r L F ∧ Fr w.heap.size F ∧ Below w.heap.size w w' ∧ L.length ≤ 100 := by
  have hal := Lib.hid (DrawIsSorted_law h hd)
  clear hd
  obtain ⟨ao, n, c, rfl, h1, h2, _⟩ := h
  go_enter Try.func45, Try.ntmps45
  go_wp2_with fail
  refine hal.out.mono ?_
  rintro e w1 ⟨r, L, F, rfl, hR, hF, hB, hL⟩
  replace hR := Lib.hid hR
  replace hF := Lib.hid hF
  replace hB := Lib.hid hB
  clear hal
  go_wp2
  go_ret
  exact ⟨_, L, F, rfl, hR.out, hF.out, hB.out, hL⟩

set_option maxRecDepth 10000 in
set_option maxHeartbeats 8000000 in
theorem FnExchanges_walk (d : Value) (w : World) (h : RdBy w d) (hd : ∀ b, d.ownBlock = some b → b < w.heap.size) :
    Calls Try.prog 10 #[d] w fun e w' => e = .returned (.bool true) ∧ Below w.heap.size w w' := by
  obtain ⟨ao, n, c, rfl, q1, q2, q3⟩ := id h
  replace h := Lib.hid h
  replace hd := Lib.hid hd
  have hB := Lib.hid (Below.refl w.heap.size w)
  clear q3
  unfold maxLen at q2
  by_cases hbig : (65536 : Int) < (n : Int)
  · have hbd : decide ((65536 : Int) < (n : Int)) = true := by simp; omega
    go_enter Try.func10, Try.ntmps10
    go_wp2_with fail
    refine vBig_law.mono ?_
    rintro e w1 ⟨rfl, rfl⟩
    rw [hbd]
    go_wp2
    go_ret
    exact ⟨rfl, Below.refl _ _⟩
  · have hbd : decide ((65536 : Int) < (n : Int)) = false := by simp; omega
    go_enter Try.func10, Try.ntmps10
    go_wp2_with fail
    refine vBig_law.mono ?_
    rintro e w0 ⟨rfl, rfl⟩
    rw [hbd]
    go_wp2_with fail
    refine (DrawSelectionSort_law h.out hd.out).mono ?_
    rintro e w1 ⟨vp, p, Fp, rfl, rp, fp, b, hpl⟩
    replace hB := Lib.hid (Below.next hB.out b)
    replace h := Lib.hid (h.out.next b)
    replace hd := Lib.hid (lt_next hd.out b)
    replace rp := Lib.hid rp
    clear b
    clear fp h hd
    obtain ⟨po, pc, rfl, _, _⟩ := rp.out.opened
    have hyes := fun (k : vlist p = true) => exch_facts k
    have hno := fun (k : vlist p = false) => exch_none k
    have l1 := Lib.hid (fun w (r : RIntS w (.slice po p.length pc) p Fp) => impl_SelectionSort_law r)
    have l2 := Lib.hid (fun w (r : RIntS w (.slice po p.length pc) p Fp) => spec_SelectionSort_law r)
    have l3 := Lib.hid (fun w (r : RIntS w (.slice po p.length pc) p Fp) => impl_BubblePasses_law r)
    have l4 := Lib.hid (fun w (r : RIntS w (.slice po p.length pc) p Fp) => spec_BubblePasses_law r)
    have l5 := Lib.hid (fun w (r : RIntS w (.slice po p.length pc) p Fp) => impl_CycleWrites_law r)
    have l6 := Lib.hid (fun w (r : RIntS w (.slice po p.length pc) p Fp) => spec_CycleWrites_law r)
    have l7 := Lib.hid (fun w (r : RIntS w (.slice po p.length pc) p Fp) => impl_InsertionSort_law r)
    have l8 := Lib.hid (fun w (r : RIntS w (.slice po p.length pc) p Fp) => impl_IsSorted_law r)
    generalize hI : selR p = I at *
    obtain ⟨s, sw, ok⟩ := I
    generalize hK : bubR p = K at *
    obtain ⟨bs, bp, bx, fine⟩ := K
    generalize hC : cwR p = C at *
    obtain ⟨wr_, told⟩ := C
    generalize hN : insR p = N at *
    obtain ⟨ns, nc, nm, nok⟩ := N
    generalize hD : sortedR p = D at *
    obtain ⟨at_, known⟩ := D
    dsimp only at l1 l2 l3 l4 l5 l6 l7 l8 hyes hno
    replace hyes := Lib.hid hyes
    replace hno := Lib.hid hno
    clear hI hK hC hN hD
    cases hv : vlist p
    · skip
      obtain ⟨h1, h2⟩ := hno.out hv
      subst h1
      subst h2
      clear hno hyes
      go_wp2_with fail
      refine (l1.out _ rp.out).mono ?_
      rintro e w2 ⟨vs, Fs, rfl, rs, fs, b, _⟩
      replace hB := Lib.hid (Below.next hB.out b)
      replace rp := Lib.hid (rp.out.next b)
      replace rs := Lib.hid rs
      clear b
      go_wp2_with fail
      refine (l2.out _ rp.out).mono ?_
      rintro e w3 ⟨vs2, Fs2, rfl, rs2, fs2, b, _⟩
      replace hB := Lib.hid (Below.next hB.out b)
      replace rp := Lib.hid (rp.out.next b)
      replace rs := Lib.hid (rs.out.next b)
      replace rs2 := Lib.hid rs2
      clear b
      go_wp2_with fail
      refine (l3.out _ rp.out).mono ?_
      rintro e w4 ⟨vb, Fb, rfl, rb, fb, b, _⟩
      replace hB := Lib.hid (Below.next hB.out b)
      replace rp := Lib.hid (rp.out.next b)
      replace rs := Lib.hid (rs.out.next b)
      replace rs2 := Lib.hid (rs2.out.next b)
      replace rb := Lib.hid rb
      clear b
      go_wp2_with fail
      refine (l4.out _ rp.out).mono ?_
      rintro e w5 ⟨vb2, Fb2, rfl, rb2, fb2, b, _⟩
      replace hB := Lib.hid (Below.next hB.out b)
      replace rp := Lib.hid (rp.out.next b)
      replace rs := Lib.hid (rs.out.next b)
      replace rs2 := Lib.hid (rs2.out.next b)
      replace rb := Lib.hid (rb.out.next b)
      replace rb2 := Lib.hid rb2
      clear b
      go_wp2_with fail
      refine (l5.out _ rp.out).mono ?_
      rintro e w6 ⟨rfl, b⟩
      replace hB := Lib.hid (Below.next hB.out b)
      replace rp := Lib.hid (rp.out.next b)
      replace rs := Lib.hid (rs.out.next b)
      replace rs2 := Lib.hid (rs2.out.next b)
      replace rb := Lib.hid (rb.out.next b)
      replace rb2 := Lib.hid (rb2.out.next b)
      clear b
      go_wp2_with fail
      refine (l6.out _ rp.out).mono ?_
      rintro e w7 ⟨rfl, b⟩
      replace hB := Lib.hid (Below.next hB.out b)
      replace rp := Lib.hid (rp.out.next b)
      replace rs := Lib.hid (rs.out.next b)
      replace rs2 := Lib.hid (rs2.out.next b)
      replace rb := Lib.hid (rb.out.next b)
      replace rb2 := Lib.hid (rb2.out.next b)
      clear b
      go_wp2_with fail
      refine (vInts_same rs.out rs2.out).mono ?_
      rintro e w8 ⟨rfl, b⟩
      replace hB := Lib.hid (Below.next hB.out b)
      replace rp := Lib.hid (rp.out.next b)
      replace rs := Lib.hid (rs.out.next b)
      replace rs2 := Lib.hid (rs2.out.next b)
      replace rb := Lib.hid (rb.out.next b)
      replace rb2 := Lib.hid (rb2.out.next b)
      clear b
      go_wp2_with fail
      refine (vInts_same rb.out rb2.out).mono ?_
      rintro e w9 ⟨rfl, b⟩
      replace hB := Lib.hid (Below.next hB.out b)
      replace rp := Lib.hid (rp.out.next b)
      replace rs := Lib.hid (rs.out.next b)
      replace rs2 := Lib.hid (rs2.out.next b)
      replace rb := Lib.hid (rb.out.next b)
      replace rb2 := Lib.hid (rb2.out.next b)
      clear b
      clear fs fs2 fb fb2 l1 l2 l3 l4 l5 l6
      clear rs2
      clear rb2
      obtain ⟨so, sc, rfl, _, _⟩ := rs.out.opened
      go_wp2
      go_ret
      exact ⟨rfl, hB.out⟩
    · skip
      obtain ⟨h1, h2, h3, h4, h5, h6, h7, h8, h9, h10, h11, h12, h13, h14, h15, h16⟩ := hyes.out hv
      subst h2
      subst h3
      subst h9
      subst h12
      subst h13
      subst h14
      subst h15
      clear hno hyes
      have hsl := Lib.hid (sortL_length p)
      generalize hS : sortL p = S at *
      replace hS := Lib.hid hS
      replace h8 := Lib.hid h8
      replace h10 := Lib.hid h10
      go_wp2_with fail
      refine (l1.out _ rp.out).mono ?_
      rintro e w2 ⟨vs, Fs, rfl, rs, fs, b, _⟩
      replace hB := Lib.hid (Below.next hB.out b)
      replace rp := Lib.hid (rp.out.next b)
      replace rs := Lib.hid rs
      clear b
      go_wp2_with fail
      refine (l2.out _ rp.out).mono ?_
      rintro e w3 ⟨vs2, Fs2, rfl, rs2, fs2, b, _⟩
      replace hB := Lib.hid (Below.next hB.out b)
      replace rp := Lib.hid (rp.out.next b)
      replace rs := Lib.hid (rs.out.next b)
      replace rs2 := Lib.hid rs2
      clear b
      go_wp2_with fail
      refine (l3.out _ rp.out).mono ?_
      rintro e w4 ⟨vb, Fb, rfl, rb, fb, b, _⟩
      replace hB := Lib.hid (Below.next hB.out b)
      replace rp := Lib.hid (rp.out.next b)
      replace rs := Lib.hid (rs.out.next b)
      replace rs2 := Lib.hid (rs2.out.next b)
      replace rb := Lib.hid rb
      clear b
      go_wp2_with fail
      refine (l4.out _ rp.out).mono ?_
      rintro e w5 ⟨vb2, Fb2, rfl, rb2, fb2, b, _⟩
      replace hB := Lib.hid (Below.next hB.out b)
      replace rp := Lib.hid (rp.out.next b)
      replace rs := Lib.hid (rs.out.next b)
      replace rs2 := Lib.hid (rs2.out.next b)
      replace rb := Lib.hid (rb.out.next b)
      replace rb2 := Lib.hid rb2
      clear b
      go_wp2_with fail
      refine (l5.out _ rp.out).mono ?_
      rintro e w6 ⟨rfl, b⟩
      replace hB := Lib.hid (Below.next hB.out b)
      replace rp := Lib.hid (rp.out.next b)
      replace rs := Lib.hid (rs.out.next b)
      replace rs2 := Lib.hid (rs2.out.next b)
      replace rb := Lib.hid (rb.out.next b)
      replace rb2 := Lib.hid (rb2.out.next b)
      clear b
      go_wp2_with fail
      refine (l6.out _ rp.out).mono ?_
      rintro e w7 ⟨rfl, b⟩
      replace hB := Lib.hid (Below.next hB.out b)
      replace rp := Lib.hid (rp.out.next b)
      replace rs := Lib.hid (rs.out.next b)
      replace rs2 := Lib.hid (rs2.out.next b)
      replace rb := Lib.hid (rb.out.next b)
      replace rb2 := Lib.hid (rb2.out.next b)
      clear b
      go_wp2_with fail
      refine (vInts_same rs.out rs2.out).mono ?_
      rintro e w8 ⟨rfl, b⟩
      replace hB := Lib.hid (Below.next hB.out b)
      replace rp := Lib.hid (rp.out.next b)
      replace rs := Lib.hid (rs.out.next b)
      replace rs2 := Lib.hid (rs2.out.next b)
      replace rb := Lib.hid (rb.out.next b)
      replace rb2 := Lib.hid (rb2.out.next b)
      clear b
      go_wp2_with fail
      refine (vInts_same rb.out rb2.out).mono ?_
      rintro e w9 ⟨rfl, b⟩
      replace hB := Lib.hid (Below.next hB.out b)
      replace rp := Lib.hid (rp.out.next b)
      replace rs := Lib.hid (rs.out.next b)
      replace rs2 := Lib.hid (rs2.out.next b)
      replace rb := Lib.hid (rb.out.next b)
      replace rb2 := Lib.hid (rb2.out.next b)
      clear b
      clear fs fs2 fb fb2 l1 l2 l3 l4 l5 l6
      clear rs2
      clear rb2
      obtain ⟨so, sc, rfl, _, _⟩ := rs.out.opened
      go_wp2_with fail
      refine (l7.out _ rp.out).mono ?_
      rintro e w10 ⟨vi, Fi, rfl, ri, fi, b, _⟩
      replace hB := Lib.hid (Below.next hB.out b)
      replace rp := Lib.hid (rp.out.next b)
      replace rs := Lib.hid (rs.out.next b)
      replace rb := Lib.hid (rb.out.next b)
      clear b
      go_wp2_with fail
      refine (l8.out _ rp.out).mono ?_
      rintro e w11 ⟨rfl, b⟩
      replace hB := Lib.hid (Below.next hB.out b)
      replace rp := Lib.hid (rp.out.next b)
      replace rs := Lib.hid (rs.out.next b)
      replace rb := Lib.hid (rb.out.next b)
      clear b
      have l9 := Lib.hid (impl_IsSorted_law rs.out)
      rw [h8.out] at l9
      clear l7 l8 fi ri
      go_wp2_with fail
      refine (l9.out).mono ?_
      rintro e w12 ⟨rfl, b⟩
      replace hB := Lib.hid (Below.next hB.out b)
      replace rp := Lib.hid (rp.out.next b)
      replace rs := Lib.hid (rs.out.next b)
      replace rb := Lib.hid (rb.out.next b)
      clear b
      go_wp2_with fail
      refine (vInts_same rs.out rb.out).mono ?_
      rintro e w13 ⟨rfl, b⟩
      replace hB := Lib.hid (Below.next hB.out b)
      replace rp := Lib.hid (rp.out.next b)
      replace rs := Lib.hid (rs.out.next b)
      replace rb := Lib.hid (rb.out.next b)
      clear b
      clear l9
      have g1 : (sw : Int) ≤ (bx : Int) := by omega
      have g2 : (wr_ : Int) ≤ 2 * (sw : Int) := by omega
      have g3 : (wr_ : Int) ≤ (nm : Int) := by omega
      have g4 : (1 : Int) ≤ (bp : Int) := by omega
      have g5 : (at_ == -1) = ((bx : Int) == 0) := by
        rw [Bool.eq_iff_iff]
        simp only [beq_iff_eq]
        rw [h10.out]
        omega
      generalize hm : p.length = m at *
      by_cases hm0 : m = 0
      · skip
        subst hm0
        by_cases hbx : bx = 0
        · skip
          subst hbx
          have g7 : at_ = -1 := by rw [h10.out]
          subst g7
          go_wp2
          go_ret
          exact ⟨rfl, hB.out⟩
        · skip
          have g7 : ((bx : Int) == 0) = false := by simp; omega
          have g8 : (at_ == -1) = false := by rw [g5, g7]
          clear g5
          go_wp2
          go_ret
          exact ⟨rfl, hB.out⟩
      · skip
        have g6 : (sw : Int) < (m : Int) := by omega
        by_cases hbx : bx = 0
        · skip
          subst hbx
          have g7 : at_ = -1 := by rw [h10.out]
          subst g7
          go_wp2
          go_ret
          exact ⟨rfl, hB.out⟩
        · skip
          have g7 : ((bx : Int) == 0) = false := by simp; omega
          have g8 : (at_ == -1) = false := by rw [g5, g7]
          clear g5
          go_wp2
          go_ret
          exact ⟨rfl, hB.out⟩
end Go.Proofs.Ytdhcpoeopooejaa
