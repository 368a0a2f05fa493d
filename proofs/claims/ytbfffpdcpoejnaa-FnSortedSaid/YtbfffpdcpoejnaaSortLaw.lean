/- laws.FnSorted: the walk. -/
import Derived.Test.YtbfffpdcpoejnaaVOrd
import Derived.Test.YtbfffpdcpoejnaaDrawS
import Derived.Test.YtbfffpdcpoejnaaDrawH
import Derived.Test.YtbfffpdcpoejnaaSorted
namespace Go.Proofs.Ytbfffpdcpoejnaa
open Go.RowKit
set_option linter.unusedVariables false
set_option linter.unusedSimpArgs false

theorem sortedR_cases (p : List Int) : sortedR p = (0, false) ∨ (sortedR p = (-1, true) ∧ ∀ j, j + 1 < p.length → gi p j ≤ gi p (j + 1)) ∨ ∃ k : Nat, sortedR p = ((k : Int), true) ∧ k + 1 < p.length ∧ gi p k > gi p (k + 1) ∧ ∀ j, j < k → gi p j ≤ gi p (j + 1) := by
  unfold sortedR
  by_cases hv : vlist p = true
  · rw [if_pos hv]
    by_cases hx : ∀ j, j + 1 < p.length → gi p j ≤ gi p (j + 1)
    · exact .inr (.inl ⟨by rw [descF_none hx], hx⟩)
    · have hex : ∃ k, k + 1 < p.length ∧ gi p k > gi p (k + 1) ∧ ∀ j, j < k → gi p j ≤ gi p (j + 1) := by
        refine Classical.byContradiction fun hn => hx fun j => ?_
        induction j using Nat.strongRecOn with
        | ind j ih =>
          intro hj
          by_cases h : gi p j ≤ gi p (j + 1)
          · exact h
          · exact absurd ⟨j, hj, by omega, fun i hi => ih i hi (by omega)⟩ hn
      obtain ⟨k, h1, h2, h3⟩ := hex
      exact .inr (.inr ⟨k, by rw [descF_at h1 h2 h3], h1, h2, h3⟩)
  · rw [if_neg hv]; exact .inl rfl

set_option maxRecDepth 10000 in
set_option maxHeartbeats 8000000 in
theorem FnSorted_walk (d : Value) (w : World) (h : RdBy w d) (hd : ∀ b, d.ownBlock = some b → b < w.heap.size) :
    Calls Try.prog 7 #[d] w fun e w' => e = .returned (.bool true) ∧ Below w.heap.size w w' := by
  obtain ⟨ao, n, c, rfl, q1, q2, q3⟩ := id h
  replace h := Lib.hid h
  replace hd := Lib.hid hd
  have hB := Lib.hid (Below.refl w.heap.size w)
  clear q3
  unfold maxLen at q2
  by_cases hbig : (65536 : Int) < (n : Int)
  · have hbd : decide ((65536 : Int) < (n : Int)) = true := by simp; omega
    go_enter Try.func7, Try.ntmps7
    go_wp2_with fail
    refine vBig_law.mono ?_
    rintro e w1 ⟨rfl, rfl⟩
    rw [hbd]
    go_wp2
    go_ret
    exact ⟨rfl, Below.refl _ _⟩
  · have hbd : decide ((65536 : Int) < (n : Int)) = false := by simp; omega
    go_enter Try.func7, Try.ntmps7
    go_wp2_with fail
    refine vBig_law.mono ?_
    rintro e w0 ⟨rfl, rfl⟩
    rw [hbd]
    go_wp2_with fail
    refine (DrawIsSorted_law h.out hd.out).mono ?_
    rintro e w1 ⟨vp, p, Fp, rfl, rp, fp, b, hpl⟩
    replace hB := Lib.hid (Below.next hB.out b)
    replace h := Lib.hid (h.out.next b)
    replace hd := Lib.hid (lt_next hd.out b)
    replace rp := Lib.hid rp
    clear b
    clear fp
    obtain ⟨po, pc, rfl, _, _⟩ := rp.out.opened
    have hcase : sortedR p = (0, false) ∨ (sortedR p = (-1, true) ∧ ∀ j, j + 1 < p.length → gi p j ≤ gi p (j + 1)) ∨ ∃ k : Nat, sortedR p = ((k : Int), true) ∧ k + 1 < p.length ∧ gi p k > gi p (k + 1) ∧ ∀ j, j < k → gi p j ≤ gi p (j + 1) := sortedR_cases p
    have l1 := Lib.hid (fun w (r : RIntS w (.slice po p.length pc) p Fp) => impl_IsSorted_law r)
    have l2 := Lib.hid (fun w (r : RIntS w (.slice po p.length pc) p Fp) => spec_IsSorted_law r)
    generalize hS : sortedR p = S at *
    clear hS
    rcases hcase with rfl | ⟨rfl, hno⟩ | ⟨k, rfl, hk1, hk2, hk3⟩
    · skip
      go_wp2_with fail
      refine (l1.out _ rp.out).mono ?_
      rintro e w2 ⟨rfl, b⟩
      replace hB := Lib.hid (Below.next hB.out b)
      replace h := Lib.hid (h.out.next b)
      replace hd := Lib.hid (lt_next hd.out b)
      replace rp := Lib.hid (rp.out.next b)
      clear b
      go_wp2_with fail
      refine (l2.out _ rp.out).mono ?_
      rintro e w3 ⟨rfl, b⟩
      replace hB := Lib.hid (Below.next hB.out b)
      replace h := Lib.hid (h.out.next b)
      replace hd := Lib.hid (lt_next hd.out b)
      replace rp := Lib.hid (rp.out.next b)
      clear b
      clear l1 l2
      have hslp := rp.out.1
      obtain ⟨_, _, hbe, _, _, _, HP⟩ := hslp.openInts
      simp at hbe
      obtain ⟨rfl, rfl⟩ := hbe
      generalize hm : p.length = m at *
      replace HP := Lib.hid HP
      replace hm := Lib.hid hm
      clear hslp
      go_wp2
      go_loopw [8] (fun iv wr => ∃ i q : Nat, (i ≤ m ∨ i = 0) ∧ iv = .int .i64 (i : Nat) ∧ wr = w3.drewN q) (fun iv _ => m + 1 - (intOf iv).toNat)
      case atStart => exact ⟨0, 0, .inr rfl, rfl, rfl⟩
      case round =>
        obtain ⟨i, q, hi, rfl, rfl⟩ := hrel
        by_cases hlt : (i : Int) + 1 < (m : Int)
        · skip
          go_wp2_with fail
          go_quiet (fail)
          try rw [World.drewN_drewN]
          have bq : Below w3.heap.size w3 (w3.drewN (q + nq)) := Below.drewN (Below.refl w3.heap.size w3) _
          replace hB := Lib.hid (Below.next hB.out bq)
          replace h := Lib.hid (h.out.next bq)
          replace hd := Lib.hid (lt_next hd.out bq)
          replace rp := Lib.hid (rp.out.next bq)
          clear bq
          go_wp2_with fail
          refine (DrawShellSort_law h.out hd.out).mono ?_
          rintro e w4 ⟨vx, x, Fx, vg, g, Fg, rfl, rx, rg, b, hxl, hgl⟩
          replace hB := Lib.hid (Below.next hB.out b)
          replace h := Lib.hid (h.out.next b)
          replace hd := Lib.hid (lt_next hd.out b)
          replace rp := Lib.hid (rp.out.next b)
          replace rx := Lib.hid rx
          replace rg := Lib.hid rg
          clear b
          clear h hd
          obtain ⟨xo, xc, rfl, _, _⟩ := rx.out.opened
          have hyes := fun (h : (shellR x g).2.2 = true) => shellR_asc h
          have l3 := Lib.hid (fun w (a : RIntS w (.slice xo x.length xc) x Fx) (b : RIntS w vg g Fg) => impl_ShellSort_law a b)
          have l4 := Lib.hid (fun w (a : RIntS w (.slice xo x.length xc) x Fx) (b : RIntS w vg g Fg) => spec_ShellSort_law a b)
          generalize hI : shellR x g = I at *
          obtain ⟨s, cc, fine⟩ := I
          dsimp only at l3 l4 hyes
          replace hyes := Lib.hid hyes
          clear hI
          go_wp2_with fail
          refine (l3.out _ rx.out rg.out).mono ?_
          rintro e w5 ⟨vs, Fs, rfl, rs, fs, b, _⟩
          replace hB := Lib.hid (Below.next hB.out b)
          replace rp := Lib.hid (rp.out.next b)
          replace rx := Lib.hid (rx.out.next b)
          replace rg := Lib.hid (rg.out.next b)
          replace rs := Lib.hid rs
          clear b
          go_wp2_with fail
          refine (l4.out _ rx.out rg.out).mono ?_
          rintro e w6 ⟨vw, Fw, rfl, rw_, fw, b, _⟩
          replace hB := Lib.hid (Below.next hB.out b)
          replace rp := Lib.hid (rp.out.next b)
          replace rx := Lib.hid (rx.out.next b)
          replace rg := Lib.hid (rg.out.next b)
          replace rs := Lib.hid (rs.out.next b)
          replace rw_ := Lib.hid rw_
          clear b
          clear fs fw l3 l4
          go_wp2_with fail
          refine (vInts_same rs.out rw_.out).mono ?_
          rintro e w7 ⟨rfl, b⟩
          replace hB := Lib.hid (Below.next hB.out b)
          replace rp := Lib.hid (rp.out.next b)
          replace rx := Lib.hid (rx.out.next b)
          replace rg := Lib.hid (rg.out.next b)
          replace rs := Lib.hid (rs.out.next b)
          replace rw_ := Lib.hid (rw_.out.next b)
          clear b
          clear rw_
          cases fine
          · skip
            go_wp2
            go_ret
            exact ⟨rfl, hB.out⟩
          · skip
            obtain ⟨h2, h3⟩ := hyes.out (by first | rfl | trivial)
            clear hyes
            have l5 := Lib.hid (vOrdered_law rx.out (by omega) h2 h3)
            clear h2 h3
            go_wp2_with fail
            refine (l5.out).mono ?_
            rintro e w8 ⟨vo, Fo, rfl, ro, fo, b⟩
            replace hB := Lib.hid (Below.next hB.out b)
            replace rp := Lib.hid (rp.out.next b)
            replace rx := Lib.hid (rx.out.next b)
            replace rg := Lib.hid (rg.out.next b)
            replace rs := Lib.hid (rs.out.next b)
            replace ro := Lib.hid ro
            clear b
            clear fo l5
            go_wp2_with fail
            refine (vInts_same rs.out ro.out).mono ?_
            rintro e w9 ⟨rfl, b⟩
            replace hB := Lib.hid (Below.next hB.out b)
            replace rp := Lib.hid (rp.out.next b)
            replace rx := Lib.hid (rx.out.next b)
            replace rg := Lib.hid (rg.out.next b)
            replace rs := Lib.hid (rs.out.next b)
            replace ro := Lib.hid (ro.out.next b)
            clear b
            go_wp2
            go_ret
            exact ⟨rfl, hB.out⟩
        · skip
          go_wp2_with fail
          go_quiet (fail)
          try rw [World.drewN_drewN]
          have bq : Below w3.heap.size w3 (w3.drewN (q + nq)) := Below.drewN (Below.refl w3.heap.size w3) _
          replace hB := Lib.hid (Below.next hB.out bq)
          replace h := Lib.hid (h.out.next bq)
          replace hd := Lib.hid (lt_next hd.out bq)
          replace rp := Lib.hid (rp.out.next bq)
          clear bq
          go_wp2_with fail
          refine (DrawShellSort_law h.out hd.out).mono ?_
          rintro e w4 ⟨vx, x, Fx, vg, g, Fg, rfl, rx, rg, b, hxl, hgl⟩
          replace hB := Lib.hid (Below.next hB.out b)
          replace h := Lib.hid (h.out.next b)
          replace hd := Lib.hid (lt_next hd.out b)
          replace rp := Lib.hid (rp.out.next b)
          replace rx := Lib.hid rx
          replace rg := Lib.hid rg
          clear b
          clear h hd
          obtain ⟨xo, xc, rfl, _, _⟩ := rx.out.opened
          have hyes := fun (h : (shellR x g).2.2 = true) => shellR_asc h
          have l3 := Lib.hid (fun w (a : RIntS w (.slice xo x.length xc) x Fx) (b : RIntS w vg g Fg) => impl_ShellSort_law a b)
          have l4 := Lib.hid (fun w (a : RIntS w (.slice xo x.length xc) x Fx) (b : RIntS w vg g Fg) => spec_ShellSort_law a b)
          generalize hI : shellR x g = I at *
          obtain ⟨s, cc, fine⟩ := I
          dsimp only at l3 l4 hyes
          replace hyes := Lib.hid hyes
          clear hI
          go_wp2_with fail
          refine (l3.out _ rx.out rg.out).mono ?_
          rintro e w5 ⟨vs, Fs, rfl, rs, fs, b, _⟩
          replace hB := Lib.hid (Below.next hB.out b)
          replace rp := Lib.hid (rp.out.next b)
          replace rx := Lib.hid (rx.out.next b)
          replace rg := Lib.hid (rg.out.next b)
          replace rs := Lib.hid rs
          clear b
          go_wp2_with fail
          refine (l4.out _ rx.out rg.out).mono ?_
          rintro e w6 ⟨vw, Fw, rfl, rw_, fw, b, _⟩
          replace hB := Lib.hid (Below.next hB.out b)
          replace rp := Lib.hid (rp.out.next b)
          replace rx := Lib.hid (rx.out.next b)
          replace rg := Lib.hid (rg.out.next b)
          replace rs := Lib.hid (rs.out.next b)
          replace rw_ := Lib.hid rw_
          clear b
          clear fs fw l3 l4
          go_wp2_with fail
          refine (vInts_same rs.out rw_.out).mono ?_
          rintro e w7 ⟨rfl, b⟩
          replace hB := Lib.hid (Below.next hB.out b)
          replace rp := Lib.hid (rp.out.next b)
          replace rx := Lib.hid (rx.out.next b)
          replace rg := Lib.hid (rg.out.next b)
          replace rs := Lib.hid (rs.out.next b)
          replace rw_ := Lib.hid (rw_.out.next b)
          clear b
          clear rw_
          cases fine
          · skip
            go_wp2
            go_ret
            exact ⟨rfl, hB.out⟩
          · skip
            obtain ⟨h2, h3⟩ := hyes.out (by first | rfl | trivial)
            clear hyes
            have l5 := Lib.hid (vOrdered_law rx.out (by omega) h2 h3)
            clear h2 h3
            go_wp2_with fail
            refine (l5.out).mono ?_
            rintro e w8 ⟨vo, Fo, rfl, ro, fo, b⟩
            replace hB := Lib.hid (Below.next hB.out b)
            replace rp := Lib.hid (rp.out.next b)
            replace rx := Lib.hid (rx.out.next b)
            replace rg := Lib.hid (rg.out.next b)
            replace rs := Lib.hid (rs.out.next b)
            replace ro := Lib.hid ro
            clear b
            clear fo l5
            go_wp2_with fail
            refine (vInts_same rs.out ro.out).mono ?_
            rintro e w9 ⟨rfl, b⟩
            replace hB := Lib.hid (Below.next hB.out b)
            replace rp := Lib.hid (rp.out.next b)
            replace rx := Lib.hid (rx.out.next b)
            replace rg := Lib.hid (rg.out.next b)
            replace rs := Lib.hid (rs.out.next b)
            replace ro := Lib.hid (ro.out.next b)
            clear b
            go_wp2
            go_ret
            exact ⟨rfl, hB.out⟩
    · skip
      go_wp2_with fail
      refine (l1.out _ rp.out).mono ?_
      rintro e w2 ⟨rfl, b⟩
      replace hB := Lib.hid (Below.next hB.out b)
      replace h := Lib.hid (h.out.next b)
      replace hd := Lib.hid (lt_next hd.out b)
      replace rp := Lib.hid (rp.out.next b)
      clear b
      go_wp2_with fail
      refine (l2.out _ rp.out).mono ?_
      rintro e w3 ⟨rfl, b⟩
      replace hB := Lib.hid (Below.next hB.out b)
      replace h := Lib.hid (h.out.next b)
      replace hd := Lib.hid (lt_next hd.out b)
      replace rp := Lib.hid (rp.out.next b)
      clear b
      clear l1 l2
      have hslp := rp.out.1
      obtain ⟨_, _, hbe, _, _, _, HP⟩ := hslp.openInts
      simp at hbe
      obtain ⟨rfl, rfl⟩ := hbe
      generalize hm : p.length = m at *
      replace HP := Lib.hid HP
      replace hm := Lib.hid hm
      clear hslp
      go_wp2
      go_loopw [8] (fun iv wr => ∃ i q : Nat, (i ≤ m ∨ i = 0) ∧ iv = .int .i64 (i : Nat) ∧ wr = w3.drewN q) (fun iv _ => m + 1 - (intOf iv).toNat)
      case atStart => exact ⟨0, 0, .inr rfl, rfl, rfl⟩
      case round =>
        obtain ⟨i, q, hi, rfl, rfl⟩ := hrel
        by_cases hlt : (i : Int) + 1 < (m : Int)
        · skip
          have hle := hno i (by omega)
          obtain ⟨b, off, rfl, hR⟩ := HP.out (by omega)
          have hc1 : w3.cell? ⟨b, off + i, none⟩ = some (.int .i64 (gi p i)) := hR.cellInt (by rw [hm.out]; omega)
          have hc2 : w3.cell? ⟨b, off + (i + 1), none⟩ = some (.int .i64 (gi p (i + 1))) := hR.cellInt (by rw [hm.out]; omega)
          clear hR
          generalize gi p i = X at *
          generalize gi p (i + 1) = Y at *
          have hxy : ¬ X > Y := by omega
          have hxd : decide (X > Y) = false := decide_eq_false hxy
          go_wp2
          first | go_quiet (fail) | skip
          try go_wp2
          go_roundw
          case rel => exact ⟨i + 1, _, by omega, by go_num, by first | rfl | exact World.drewN_drewN ..⟩
          case measure => simp [intOf]; omega
        · skip
          go_wp2_with fail
          go_quiet (fail)
          try rw [World.drewN_drewN]
          have bq : Below w3.heap.size w3 (w3.drewN (q + nq)) := Below.drewN (Below.refl w3.heap.size w3) _
          replace hB := Lib.hid (Below.next hB.out bq)
          replace h := Lib.hid (h.out.next bq)
          replace hd := Lib.hid (lt_next hd.out bq)
          replace rp := Lib.hid (rp.out.next bq)
          clear bq
          go_wp2_with fail
          refine (DrawShellSort_law h.out hd.out).mono ?_
          rintro e w4 ⟨vx, x, Fx, vg, g, Fg, rfl, rx, rg, b, hxl, hgl⟩
          replace hB := Lib.hid (Below.next hB.out b)
          replace h := Lib.hid (h.out.next b)
          replace hd := Lib.hid (lt_next hd.out b)
          replace rp := Lib.hid (rp.out.next b)
          replace rx := Lib.hid rx
          replace rg := Lib.hid rg
          clear b
          clear h hd
          obtain ⟨xo, xc, rfl, _, _⟩ := rx.out.opened
          have hyes := fun (h : (shellR x g).2.2 = true) => shellR_asc h
          have l3 := Lib.hid (fun w (a : RIntS w (.slice xo x.length xc) x Fx) (b : RIntS w vg g Fg) => impl_ShellSort_law a b)
          have l4 := Lib.hid (fun w (a : RIntS w (.slice xo x.length xc) x Fx) (b : RIntS w vg g Fg) => spec_ShellSort_law a b)
          generalize hI : shellR x g = I at *
          obtain ⟨s, cc, fine⟩ := I
          dsimp only at l3 l4 hyes
          replace hyes := Lib.hid hyes
          clear hI
          go_wp2_with fail
          refine (l3.out _ rx.out rg.out).mono ?_
          rintro e w5 ⟨vs, Fs, rfl, rs, fs, b, _⟩
          replace hB := Lib.hid (Below.next hB.out b)
          replace rp := Lib.hid (rp.out.next b)
          replace rx := Lib.hid (rx.out.next b)
          replace rg := Lib.hid (rg.out.next b)
          replace rs := Lib.hid rs
          clear b
          go_wp2_with fail
          refine (l4.out _ rx.out rg.out).mono ?_
          rintro e w6 ⟨vw, Fw, rfl, rw_, fw, b, _⟩
          replace hB := Lib.hid (Below.next hB.out b)
          replace rp := Lib.hid (rp.out.next b)
          replace rx := Lib.hid (rx.out.next b)
          replace rg := Lib.hid (rg.out.next b)
          replace rs := Lib.hid (rs.out.next b)
          replace rw_ := Lib.hid rw_
          clear b
          clear fs fw l3 l4
          go_wp2_with fail
          refine (vInts_same rs.out rw_.out).mono ?_
          rintro e w7 ⟨rfl, b⟩
          replace hB := Lib.hid (Below.next hB.out b)
          replace rp := Lib.hid (rp.out.next b)
          replace rx := Lib.hid (rx.out.next b)
          replace rg := Lib.hid (rg.out.next b)
          replace rs := Lib.hid (rs.out.next b)
          replace rw_ := Lib.hid (rw_.out.next b)
          clear b
          clear rw_
          cases fine
          · skip
            go_wp2
            go_ret
            exact ⟨rfl, hB.out⟩
          · skip
            obtain ⟨h2, h3⟩ := hyes.out (by first | rfl | trivial)
            clear hyes
            have l5 := Lib.hid (vOrdered_law rx.out (by omega) h2 h3)
            clear h2 h3
            go_wp2_with fail
            refine (l5.out).mono ?_
            rintro e w8 ⟨vo, Fo, rfl, ro, fo, b⟩
            replace hB := Lib.hid (Below.next hB.out b)
            replace rp := Lib.hid (rp.out.next b)
            replace rx := Lib.hid (rx.out.next b)
            replace rg := Lib.hid (rg.out.next b)
            replace rs := Lib.hid (rs.out.next b)
            replace ro := Lib.hid ro
            clear b
            clear fo l5
            go_wp2_with fail
            refine (vInts_same rs.out ro.out).mono ?_
            rintro e w9 ⟨rfl, b⟩
            replace hB := Lib.hid (Below.next hB.out b)
            replace rp := Lib.hid (rp.out.next b)
            replace rx := Lib.hid (rx.out.next b)
            replace rg := Lib.hid (rg.out.next b)
            replace rs := Lib.hid (rs.out.next b)
            replace ro := Lib.hid (ro.out.next b)
            clear b
            go_wp2
            go_ret
            exact ⟨rfl, hB.out⟩
    · skip
      go_wp2_with fail
      refine (l1.out _ rp.out).mono ?_
      rintro e w2 ⟨rfl, b⟩
      replace hB := Lib.hid (Below.next hB.out b)
      replace h := Lib.hid (h.out.next b)
      replace hd := Lib.hid (lt_next hd.out b)
      replace rp := Lib.hid (rp.out.next b)
      clear b
      go_wp2_with fail
      refine (l2.out _ rp.out).mono ?_
      rintro e w3 ⟨rfl, b⟩
      replace hB := Lib.hid (Below.next hB.out b)
      replace h := Lib.hid (h.out.next b)
      replace hd := Lib.hid (lt_next hd.out b)
      replace rp := Lib.hid (rp.out.next b)
      clear b
      clear l1 l2
      have hslp := rp.out.1
      obtain ⟨_, _, hbe, _, _, _, HP⟩ := hslp.openInts
      simp at hbe
      obtain ⟨rfl, rfl⟩ := hbe
      generalize hm : p.length = m at *
      replace HP := Lib.hid HP
      replace hm := Lib.hid hm
      clear hslp
      go_wp2
      go_loopw [8] (fun iv wr => ∃ i q : Nat, (i ≤ m ∨ i = 0) ∧ iv = .int .i64 (i : Nat) ∧ wr = w3.drewN q) (fun iv _ => m + 1 - (intOf iv).toNat)
      case atStart => exact ⟨0, 0, .inr rfl, rfl, rfl⟩
      case round =>
        obtain ⟨i, q, hi, rfl, rfl⟩ := hrel
        by_cases hlt : (i : Int) + 1 < (m : Int)
        · skip
          have hle := fun h => hk3 i h
          obtain ⟨b, off, rfl, hR⟩ := HP.out (by omega)
          have hc1 : w3.cell? ⟨b, off + i, none⟩ = some (.int .i64 (gi p i)) := hR.cellInt (by rw [hm.out]; omega)
          have hc2 : w3.cell? ⟨b, off + (i + 1), none⟩ = some (.int .i64 (gi p (i + 1))) := hR.cellInt (by rw [hm.out]; omega)
          clear hR
          generalize gi p i = X at *
          generalize gi p (i + 1) = Y at *
          replace hk2 := Lib.hid hk2
          replace hk3 := Lib.hid hk3
          have hk0 : ¬ (k : Int) < 0 := by omega
          have hkd : decide ((k : Int) < 0) = false := decide_eq_false hk0
          by_cases hxy : X > Y
          · skip
            have hik : ¬ (i : Int) < (k : Int) := fun h => by have := hle (by omega); omega
            have hikd : decide ((i : Int) < (k : Int)) = false := decide_eq_false hik
            clear hle
            go_wp2
            first | go_quiet (fail) | skip
            try go_wp2
            go_roundw
            case rel => exact ⟨i + 1, _, by omega, by go_num, by first | rfl | exact World.drewN_drewN ..⟩
            case measure => simp [intOf]; omega
          · skip
            have hxd : decide (X > Y) = false := decide_eq_false hxy
            clear hle
            go_wp2
            first | go_quiet (fail) | skip
            try go_wp2
            go_roundw
            case rel => exact ⟨i + 1, _, by omega, by go_num, by first | rfl | exact World.drewN_drewN ..⟩
            case measure => simp [intOf]; omega
        · skip
          obtain ⟨b, off, rfl, hR⟩ := HP.out (by omega)
          have hc1 : w3.cell? ⟨b, off + k, none⟩ = some (.int .i64 (gi p k)) := hR.cellInt (by rw [hm.out]; omega)
          have hc2 : w3.cell? ⟨b, off + (k + 1), none⟩ = some (.int .i64 (gi p (k + 1))) := hR.cellInt (by rw [hm.out]; omega)
          clear hR
          generalize gi p k = X at *
          generalize gi p (k + 1) = Y at *
          replace hk3 := Lib.hid hk3
          have hk0 : (0 : Int) ≤ (k : Int) := by omega
          have hk4 : ¬ (m : Int) ≤ (k : Int) + 1 := by omega
          have hk5 : ¬ X ≤ Y := by omega
          have hk4d : decide ((m : Int) ≤ (k : Int) + 1) = false := decide_eq_false hk4
          have hk5d : decide (X ≤ Y) = false := decide_eq_false hk5
          have hk6 : (k : Int) + 1 < (m : Int) := by omega
          go_wp2_with fail
          go_quiet (fail)
          try rw [World.drewN_drewN]
          have bq : Below w3.heap.size w3 (w3.drewN (q + nq)) := Below.drewN (Below.refl w3.heap.size w3) _
          replace hB := Lib.hid (Below.next hB.out bq)
          replace h := Lib.hid (h.out.next bq)
          replace hd := Lib.hid (lt_next hd.out bq)
          replace rp := Lib.hid (rp.out.next bq)
          clear bq
          go_wp2_with fail
          refine (DrawShellSort_law h.out hd.out).mono ?_
          rintro e w4 ⟨vx, x, Fx, vg, g, Fg, rfl, rx, rg, b, hxl, hgl⟩
          replace hB := Lib.hid (Below.next hB.out b)
          replace h := Lib.hid (h.out.next b)
          replace hd := Lib.hid (lt_next hd.out b)
          replace rp := Lib.hid (rp.out.next b)
          replace rx := Lib.hid rx
          replace rg := Lib.hid rg
          clear b
          clear h hd
          obtain ⟨xo, xc, rfl, _, _⟩ := rx.out.opened
          have hyes := fun (h : (shellR x g).2.2 = true) => shellR_asc h
          have l3 := Lib.hid (fun w (a : RIntS w (.slice xo x.length xc) x Fx) (b : RIntS w vg g Fg) => impl_ShellSort_law a b)
          have l4 := Lib.hid (fun w (a : RIntS w (.slice xo x.length xc) x Fx) (b : RIntS w vg g Fg) => spec_ShellSort_law a b)
          generalize hI : shellR x g = I at *
          obtain ⟨s, cc, fine⟩ := I
          dsimp only at l3 l4 hyes
          replace hyes := Lib.hid hyes
          clear hI
          go_wp2_with fail
          refine (l3.out _ rx.out rg.out).mono ?_
          rintro e w5 ⟨vs, Fs, rfl, rs, fs, b, _⟩
          replace hB := Lib.hid (Below.next hB.out b)
          replace rp := Lib.hid (rp.out.next b)
          replace rx := Lib.hid (rx.out.next b)
          replace rg := Lib.hid (rg.out.next b)
          replace rs := Lib.hid rs
          clear b
          go_wp2_with fail
          refine (l4.out _ rx.out rg.out).mono ?_
          rintro e w6 ⟨vw, Fw, rfl, rw_, fw, b, _⟩
          replace hB := Lib.hid (Below.next hB.out b)
          replace rp := Lib.hid (rp.out.next b)
          replace rx := Lib.hid (rx.out.next b)
          replace rg := Lib.hid (rg.out.next b)
          replace rs := Lib.hid (rs.out.next b)
          replace rw_ := Lib.hid rw_
          clear b
          clear fs fw l3 l4
          go_wp2_with fail
          refine (vInts_same rs.out rw_.out).mono ?_
          rintro e w7 ⟨rfl, b⟩
          replace hB := Lib.hid (Below.next hB.out b)
          replace rp := Lib.hid (rp.out.next b)
          replace rx := Lib.hid (rx.out.next b)
          replace rg := Lib.hid (rg.out.next b)
          replace rs := Lib.hid (rs.out.next b)
          replace rw_ := Lib.hid (rw_.out.next b)
          clear b
          clear rw_
          cases fine
          · skip
            go_wp2
            go_ret
            exact ⟨rfl, hB.out⟩
          · skip
            obtain ⟨h2, h3⟩ := hyes.out (by first | rfl | trivial)
            clear hyes
            have l5 := Lib.hid (vOrdered_law rx.out (by omega) h2 h3)
            clear h2 h3
            go_wp2_with fail
            refine (l5.out).mono ?_
            rintro e w8 ⟨vo, Fo, rfl, ro, fo, b⟩
            replace hB := Lib.hid (Below.next hB.out b)
            replace rp := Lib.hid (rp.out.next b)
            replace rx := Lib.hid (rx.out.next b)
            replace rg := Lib.hid (rg.out.next b)
            replace rs := Lib.hid (rs.out.next b)
            replace ro := Lib.hid ro
            clear b
            clear fo l5
            go_wp2_with fail
            refine (vInts_same rs.out ro.out).mono ?_
            rintro e w9 ⟨rfl, b⟩
            replace hB := Lib.hid (Below.next hB.out b)
            replace rp := Lib.hid (rp.out.next b)
            replace rx := Lib.hid (rx.out.next b)
            replace rg := Lib.hid (rg.out.next b)
            replace rs := Lib.hid (rs.out.next b)
            replace ro := Lib.hid (ro.out.next b)
            clear b
            go_wp2
            go_ret
            exact ⟨rfl, hB.out⟩
end Go.Proofs.Ytbfffpdcpoejnaa
