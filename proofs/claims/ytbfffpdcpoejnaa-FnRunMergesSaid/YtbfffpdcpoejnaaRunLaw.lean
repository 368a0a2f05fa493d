/- laws.FnRunMerges: the walk. -/
import Derived.Test.YtbfffpdcpoejnaaVLaw
import Derived.Test.YtbfffpdcpoejnaaRunQ
import Derived.Test.YtbfffpdcpoejnaaDrawN
import Derived.Test.YtbfffpdcpoejnaaRunL
namespace Go.Proofs.Ytbfffpdcpoejnaa
open Go.RowKit
set_option linter.unusedVariables false
set_option linter.unusedSimpArgs false

set_option maxRecDepth 10000 in
set_option maxHeartbeats 4000000 in
theorem FnRunMerges_walk (d : Value) (w : World) (h : RdBy w d) (hd : ∀ b, d.ownBlock = some b → b < w.heap.size) :
    Calls Try.prog 9 #[d] w fun e w' => e = .returned (.bool true) ∧ Below w.heap.size w w' := by
  obtain ⟨ao, n, c, rfl, q1, q2, q3⟩ := id h
  replace h := Lib.hid h
  replace hd := Lib.hid hd
  have hB := Lib.hid (Below.refl w.heap.size w)
  clear q3
  unfold maxLen at q2
  by_cases hbig : (65536 : Int) < (n : Int)
  · have hbd : decide ((65536 : Int) < (n : Int)) = true := by simp; omega
    go_enter Try.func9, Try.ntmps9
    go_wp2_with fail
    refine vBig_law.mono ?_
    rintro e w1 ⟨rfl, rfl⟩
    rw [hbd]
    go_wp2
    go_ret
    exact ⟨rfl, Below.refl _ _⟩
  · have hbd : decide ((65536 : Int) < (n : Int)) = false := by simp; omega
    go_enter Try.func9, Try.ntmps9
    go_wp2_with fail
    refine vBig_law.mono ?_
    rintro e w0 ⟨rfl, rfl⟩
    rw [hbd]
    go_wp2_with fail
    refine (DrawRunMerges_law h.out hd.out).mono ?_
    rintro e w1 ⟨vp, p, Fp, rfl, rp, fp, b, hpl⟩
    replace hB := Lib.hid (Below.next hB.out b)
    replace h := Lib.hid (h.out.next b)
    replace hd := Lib.hid (lt_next hd.out b)
    replace rp := Lib.hid rp
    clear b
    clear fp h hd
    obtain ⟨po, pc, rfl, _, _⟩ := rp.out.opened
    have hyes := fun (k : (rmR p).2.2 = true) => rmR_facts k
    have hno := fun (k : (rmR p).2.2 = false) => rmR_none k
    have l1 := Lib.hid (fun w (r : RIntS w (.slice po p.length pc) p Fp) => impl_RunMerges_law r)
    have l2 := Lib.hid (fun w (r : RIntS w (.slice po p.length pc) p Fp) => spec_RunMerges_law r)
    generalize hG : rmR p = G at *
    obtain ⟨M, mo, ok⟩ := G
    dsimp only at l1 l2 hyes hno
    replace hyes := Lib.hid hyes
    replace hno := Lib.hid hno
    clear hG
    go_wp2_with fail
    refine (l1.out _ rp.out).mono ?_
    rintro e w2 ⟨vm, Fm, rfl, rm, fm, b, _⟩
    replace hB := Lib.hid (Below.next hB.out b)
    replace rp := Lib.hid (rp.out.next b)
    replace rm := Lib.hid rm
    clear b
    go_wp2_with fail
    refine (l2.out _ rp.out).mono ?_
    rintro e w3 ⟨vw, Fw, rfl, rw_, fw, b, _⟩
    replace hB := Lib.hid (Below.next hB.out b)
    replace rp := Lib.hid (rp.out.next b)
    replace rm := Lib.hid (rm.out.next b)
    replace rw_ := Lib.hid rw_
    clear b
    clear fm fw l1 l2
    go_wp2_with fail
    refine (vInts_same rm.out rw_.out).mono ?_
    rintro e w4 ⟨rfl, b⟩
    replace hB := Lib.hid (Below.next hB.out b)
    replace rp := Lib.hid (rp.out.next b)
    replace rm := Lib.hid (rm.out.next b)
    replace rw_ := Lib.hid (rw_.out.next b)
    clear b
    clear rw_
    obtain ⟨so, sc, rfl, hMl, _⟩ := rm.out.opened
    cases ok
    · skip
      obtain ⟨h1, h2⟩ := hno.out (by first | rfl | trivial)
      subst h1
      subst h2
      clear hno hyes
      go_wp2
      go_ret
      exact ⟨rfl, hB.out⟩
    · skip
      obtain ⟨h1, h2, h3, h4, h5⟩ := hyes.out (by first | rfl | trivial)
      clear hyes hno
      have hsl := rp.out.1
      obtain ⟨_, _, hbe, _, _, _, HP⟩ := hsl.openInts
      simp at hbe
      obtain ⟨rfl, rfl⟩ := hbe
      have htk : ∀ i, i ≤ p.length → 0 ≤ sumI (p.take i) ∧ sumI (p.take i) ≤ 100000 * (i : Int) := by
        intro i
        induction i with
        | zero => intro _; simp [sumI]
        | succ i ih =>
          intro hi
          have h9 := ih (by omega)
          have h8 := h2 p[i] (List.getElem_mem (by omega))
          rw [List.take_succ_eq_append_getElem (by omega), sumI_append, sumI_cons]
          simp only [sumI]
          omega
      have hst : ∀ i, i < p.length → sumI (p.take (i + 1)) = sumI (p.take i) + gi p i := fun i hi => by
        rw [List.take_succ_eq_append_getElem hi, sumI_append, gi_eq hi]; simp [sumI]
      have hgb : ∀ i, i < p.length → 1 ≤ gi p i ∧ gi p i ≤ 100000 := fun i hi => by rw [gi_eq hi]; exact h2 _ (List.getElem_mem _)
      have hall : sumI (p.take p.length) = sumI p := by rw [List.take_length]
      generalize hm : p.length = m at *
      generalize hml : M.length = ml at *
      generalize hD : itn 100 (sumI p).toNat = D at *
      replace HP := Lib.hid HP
      replace hm := Lib.hid hm
      replace hml := Lib.hid hml
      replace hD := Lib.hid hD
      replace htk := Lib.hid htk
      replace hst := Lib.hid hst
      replace hgb := Lib.hid hgb
      replace hall := Lib.hid hall
      clear hsl h2
      go_wp2
      go_loopw [10, 11] (fun tv iv wr => ∃ i q : Nat, i ≤ m ∧ iv = .int .i64 (i : Nat) ∧ tv = .int .i64 (sumI (p.take i)) ∧ wr = w4.drewN q) (fun _ iv _ => m - (intOf iv).toNat)
      case atStart => exact ⟨0, 0, Nat.zero_le _, rfl, by simp [sumI], rfl⟩
      case round =>
        obtain ⟨i, q, hi, rfl, rfl, rfl⟩ := hrel
        have hti := htk.out i hi
        by_cases hlt : i < m
        · obtain ⟨b, off, rfl, hR⟩ := HP.out (by omega)
          have hc1 : w4.cell? ⟨b, off + i, none⟩ = some (.int .i64 (gi p i)) := hR.cellInt (by rw [hm.out]; omega)
          have hnx := Lib.hid (hst.out i hlt)
          have hgi := hgb.out i hlt
          clear hR
          generalize gi p i = X at *
          generalize sumI (p.take i) = S at *
          go_wp2
          go_roundw
          case rel => exact ⟨i + 1, q, by omega, by go_num, by rw [hnx.out], rfl⟩
          case measure => simp [intOf]; omega
        · obtain rfl : i = m := by omega
          have hall2 := hall.out
          rw [hall2] at hti ⊢
          obtain ⟨t, ht⟩ := Int.eq_ofNat_of_zero_le hti.1
          have hDt : itn 100 t = D := by rw [← hD.out, ht, Int.toNat_natCast]
          have htb : t ≤ 4000000 := by omega
          rw [ht]
          replace hDt := Lib.hid hDt
          clear hti hall2 ht hall htk hst hgb HP hD
          go_wp2
          go_loopw [12, 13] (fun dv xv wr => ∃ d x f : Nat, dv = .int .i64 (d : Nat) ∧ xv = .int .i64 (x : Nat) ∧ d + x ≤ 3 + t ∧ 3 + D ≤ d + itn f x ∧ wr = w4.drewN q) (fun _ xv _ => (intOf xv).toNat)
          case atStart => exact ⟨3, t, 100, rfl, rfl, Nat.le_refl _, by rw [hDt.out]; exact Nat.le_refl _, rfl⟩
          case round =>
            obtain ⟨d, x, f, rfl, rfl, hdx, hdD, rfl⟩ := hrel
            by_cases hx1 : 1 < x
            · have hx1i : (1 : Int) < (x : Int) := by omega
              have hdn : 3 + D ≤ (d + 1) + itn (f - 1) (x * 2 / 3) := by
                cases f with
                | zero => simp [itn] at hdD ⊢; omega
                | succ f => rw [itn, if_neg (by omega)] at hdD; rw [Nat.add_sub_cancel]; omega
              have hdiv : ((x : Int) * 2).tdiv 3 = ((x * 2 / 3 : Nat) : Int) := by rw [Int.tdiv_eq_ediv_of_nonneg (by omega)]; omega
              have hdiv2 : ((x : Int) * 2) / 3 = ((x * 2 / 3 : Nat) : Int) := by omega
              have hy : x * 2 / 3 + 1 ≤ x := by omega
              replace hdn := Lib.hid hdn
              replace hdD := Lib.hid hdD
              generalize x * 2 / 3 = y at *
              go_wp2
              go_roundw
              case rel => exact ⟨d + 1, y, f - 1, by go_num, by first | rfl | go_num | (rw [← hdiv2]; rfl) | (rw [← hdiv]; rfl), by omega, hdn.out, by first | rfl | trivial⟩
              case measure => simp [intOf]; omega
            · have hx1i : ¬ (1 : Int) < (x : Int) := by omega
              have hd : 3 + D ≤ d := by
                cases f with
                | zero => simpa [itn] using hdD
                | succ f => rw [itn, if_pos (by omega)] at hdD; omega
              have hfin := Lib.hid (Below.next hB.out (Below.drewN (Below.refl w4.heap.size w4) q))
              have k1 : (mo : Int) ≤ (d : Int) := by omega
              replace hdD := Lib.hid hdD
              by_cases hm0 : i = 0
              · subst hm0
                have k2 : (mo : Int) ≤ 0 := by omega
                go_wp2
                go_ret
                exact ⟨rfl, hfin.out⟩
              · have k0 : ¬ (i : Int) = 0 := by omega
                have k2 : (mo : Int) ≤ (i : Int) := by omega
                have k3 : (ml : Int) = (i : Int) - 1 := by omega
                have k4 : ml = i - 1 := by omega
                subst k4
                have k5 : ((i - 1 : Nat) : Int) = (i : Int) - 1 := by omega
                go_wp2
                go_ret
                exact ⟨rfl, hfin.out⟩
end Go.Proofs.Ytbfffpdcpoejnaa
