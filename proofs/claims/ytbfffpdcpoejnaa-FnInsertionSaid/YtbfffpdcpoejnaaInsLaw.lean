/- laws.FnInsertion: the walk. -/
import Derived.Test.YtbfffpdcpoejnaaVOrd
import Derived.Test.YtbfffpdcpoejnaaDrawS
namespace Go.Proofs.Ytbfffpdcpoejnaa
open Go.RowKit
set_option linter.unusedVariables false
set_option linter.unusedSimpArgs false

set_option maxRecDepth 10000 in
set_option maxHeartbeats 4000000 in
theorem FnInsertion_walk (d : Value) (w : World) (h : RdBy w d) (hd : ∀ b, d.ownBlock = some b → b < w.heap.size) :
    Calls Try.prog 6 #[d] w fun e w' => e = .returned (.bool true) ∧ Below w.heap.size w w' := by
  obtain ⟨ao, n, c, rfl, q1, q2, q3⟩ := id h
  replace h := Lib.hid h
  replace hd := Lib.hid hd
  have hB := Lib.hid (Below.refl w.heap.size w)
  clear q3
  unfold maxLen at q2
  by_cases hbig : (65536 : Int) < (n : Int)
  · have hbd : decide ((65536 : Int) < (n : Int)) = true := by simp; omega
    go_enter Try.func6, Try.ntmps6
    go_wp2_with fail
    refine vBig_law.mono ?_
    rintro e w1 ⟨rfl, rfl⟩
    rw [hbd]
    go_wp2
    go_ret
    exact ⟨rfl, Below.refl _ _⟩
  · have hbd : decide ((65536 : Int) < (n : Int)) = false := by simp; omega
    go_enter Try.func6, Try.ntmps6
    go_wp2_with fail
    refine vBig_law.mono ?_
    rintro e w0 ⟨rfl, rfl⟩
    rw [hbd]
    go_wp2_with fail
    refine (DrawInsertionSort_law h.out hd.out).mono ?_
    rintro e w1 ⟨vp, p, Fp, rfl, rp, fp, b, hpl⟩
    replace hB := Lib.hid (Below.next hB.out b)
    replace h := Lib.hid (h.out.next b)
    replace hd := Lib.hid (lt_next hd.out b)
    replace rp := Lib.hid rp
    clear b
    clear fp h hd
    obtain ⟨po, pc, rfl, _, _⟩ := rp.out.opened
    have hyes := fun (h : (insR p).2.2.2 = true) => insR_facts h
    have hno := fun (h : (insR p).2.2.2 = false) => insR_no h
    have l1 := Lib.hid (fun w (r : RIntS w (.slice po p.length pc) p Fp) => impl_InsertionSort_law r)
    have l2 := Lib.hid (fun w (r : RIntS w (.slice po p.length pc) p Fp) => spec_InsertionSort_law r)
    have l3 := Lib.hid (fun w (r : RIntS w (.slice po p.length pc) p Fp) => impl_BinaryInsertionSort_law r)
    have l4 := Lib.hid (fun w (r : RIntS w (.slice po p.length pc) p Fp) => spec_BinaryInsertionSort_law r)
    generalize hI : insR p = I at *
    obtain ⟨s, cc, mm, ok⟩ := I
    generalize hK : binR p = K at *
    obtain ⟨bs, bn, fine⟩ := K
    dsimp only at l1 l2 l3 l4 hyes hno
    replace hyes := Lib.hid hyes
    replace hno := Lib.hid hno
    clear hI hK
    go_wp2_with fail
    refine (l1.out _ rp.out).mono ?_
    rintro e w2 ⟨vs, Fs, rfl, rs, fs, b, _⟩
    replace hB := Lib.hid (Below.next hB.out b)
    replace rp := Lib.hid (rp.out.next b)
    replace rs := Lib.hid rs
    clear b
    go_wp2_with fail
    refine (l2.out _ rp.out).mono ?_
    rintro e w3 ⟨vw, Fw, rfl, rw_, fw, b, _⟩
    replace hB := Lib.hid (Below.next hB.out b)
    replace rp := Lib.hid (rp.out.next b)
    replace rs := Lib.hid (rs.out.next b)
    replace rw_ := Lib.hid rw_
    clear b
    clear fs fw l1 l2
    go_wp2_with fail
    refine (vInts_same rs.out rw_.out).mono ?_
    rintro e w4 ⟨rfl, b⟩
    replace hB := Lib.hid (Below.next hB.out b)
    replace rp := Lib.hid (rp.out.next b)
    replace rs := Lib.hid (rs.out.next b)
    replace rw_ := Lib.hid (rw_.out.next b)
    clear b
    clear rw_
    go_wp2_with fail
    refine (l3.out _ rp.out).mono ?_
    rintro e w5 ⟨vb, Fb, rfl, rb, fb, b, _⟩
    replace hB := Lib.hid (Below.next hB.out b)
    replace rp := Lib.hid (rp.out.next b)
    replace rs := Lib.hid (rs.out.next b)
    replace rb := Lib.hid rb
    clear b
    go_wp2_with fail
    refine (l4.out _ rp.out).mono ?_
    rintro e w6 ⟨vx, Fx, rfl, rx, fx, b, _⟩
    replace hB := Lib.hid (Below.next hB.out b)
    replace rp := Lib.hid (rp.out.next b)
    replace rs := Lib.hid (rs.out.next b)
    replace rb := Lib.hid (rb.out.next b)
    replace rx := Lib.hid rx
    clear b
    clear fb fx l3 l4
    go_wp2_with fail
    refine (vInts_same rb.out rx.out).mono ?_
    rintro e w7 ⟨rfl, b⟩
    replace hB := Lib.hid (Below.next hB.out b)
    replace rp := Lib.hid (rp.out.next b)
    replace rs := Lib.hid (rs.out.next b)
    replace rb := Lib.hid (rb.out.next b)
    replace rx := Lib.hid (rx.out.next b)
    clear b
    clear rx
    obtain ⟨so, sc, rfl, _, _⟩ := rs.out.opened
    cases ok
    · skip
      obtain ⟨h1, h2⟩ := hno.out (by first | rfl | trivial)
      subst h1
      subst h2
      go_wp2
      go_ret
      exact ⟨rfl, hB.out⟩
    · skip
      obtain ⟨h1, h2, h3, h4, h5, h6, h7, h8⟩ := hyes.out (by first | rfl | trivial)
      subst h6
      subst h7
      clear hyes hno
      have l5 := Lib.hid (vOrdered_law rp.out (by omega) h2 h3)
      have hsl := Lib.hid h3.length_eq
      replace h2 := Lib.hid h2
      replace h3 := Lib.hid h3
      generalize hn : p.length = n at *
      replace hn := Lib.hid hn
      obtain ⟨q, hq, hq2, hq3⟩ : ∃ q : Nat, (n : Int) * ((n : Int) - 1) = (q : Int) ∧ 2 * cc ≤ q ∧ q ≤ 5000 := by
        refine ⟨(n - 1) * n, ?_, h5, ?_⟩
        · cases n with
          | zero => simp
          | succ m => simp; rw [Int.mul_comm]
        · exact Nat.le_trans (Nat.mul_le_mul (show n - 1 ≤ 64 by omega) h1) (by omega)
      clear h5
      have hqc : 2 * (cc : Int) ≤ (q : Int) := by omega
      have hbn : (bn : Int) ≤ 7 * (n : Int) := by omega
      go_wp2_with fail
      refine (l5.out).mono ?_
      rintro e w8 ⟨vo, Fo, rfl, ro, fo, b⟩
      replace hB := Lib.hid (Below.next hB.out b)
      replace rp := Lib.hid (rp.out.next b)
      replace rs := Lib.hid (rs.out.next b)
      replace rb := Lib.hid (rb.out.next b)
      replace ro := Lib.hid ro
      clear b
      clear fo l5
      go_wp2_with fail
      refine (vInts_same rs.out ro.out).mono ?_
      rintro e w9 ⟨rfl, b⟩
      replace hB := Lib.hid (Below.next hB.out b)
      replace rp := Lib.hid (rp.out.next b)
      replace rs := Lib.hid (rs.out.next b)
      replace rb := Lib.hid (rb.out.next b)
      replace ro := Lib.hid (ro.out.next b)
      clear b
      go_wp2_with fail
      refine (vInts_same rb.out rs.out).mono ?_
      rintro e w10 ⟨rfl, b⟩
      replace hB := Lib.hid (Below.next hB.out b)
      replace rp := Lib.hid (rp.out.next b)
      replace rs := Lib.hid (rs.out.next b)
      replace rb := Lib.hid (rb.out.next b)
      replace ro := Lib.hid (ro.out.next b)
      clear b
      by_cases hn0 : n = 0
      · subst hn0
        have hcc : cc = 0 := by simp at hq; omega
        subst hcc
        have hbb : bn = 0 := by omega
        subst hbb
        go_wp2
        go_ret
        exact ⟨rfl, hB.out⟩
      · have hn1 : ¬ (n : Int) = 0 := by omega
        have hn2 : (n : Int) - 1 ≤ (cc : Int) := by omega
        go_wp2
        go_ret
        exact ⟨rfl, hB.out⟩
end Go.Proofs.Ytbfffpdcpoejnaa
