/- laws.FnGallop: the walk. -/
import Derived.Test.YtbfffpdcpoejnaaVLaw
import Derived.Test.YtbfffpdcpoejnaaGalM
import Derived.Test.YtbfffpdcpoejnaaDrawG
import Derived.Test.YtbfffpdcpoejnaaGallopS
import Derived.Test.YtbfffpdcpoejnaaGallopI
namespace Go.Proofs.Ytbfffpdcpoejnaa
open Go.RowKit
set_option linter.unusedVariables false
set_option linter.unusedSimpArgs false

set_option maxRecDepth 10000 in
set_option maxHeartbeats 4000000 in
theorem FnGallop_walk (d : Value) (w : World) (h : RdBy w d) (hd : ∀ b, d.ownBlock = some b → b < w.heap.size) :
    Calls Try.prog 8 #[d] w fun e w' => e = .returned (.bool true) ∧ Below w.heap.size w w' := by
  obtain ⟨ao, n, c, rfl, q1, q2, q3⟩ := id h
  replace h := Lib.hid h
  replace hd := Lib.hid hd
  have hB := Lib.hid (Below.refl w.heap.size w)
  clear q3
  unfold maxLen at q2
  by_cases hbig : (65536 : Int) < (n : Int)
  · have hbd : decide ((65536 : Int) < (n : Int)) = true := by simp; omega
    go_enter Try.func8, Try.ntmps8
    go_wp2_with fail
    refine vBig_law.mono ?_
    rintro e w1 ⟨rfl, rfl⟩
    rw [hbd]
    go_wp2
    go_ret
    exact ⟨rfl, Below.refl _ _⟩
  · have hbd : decide ((65536 : Int) < (n : Int)) = false := by simp; omega
    go_enter Try.func8, Try.ntmps8
    go_wp2_with fail
    refine vBig_law.mono ?_
    rintro e w0 ⟨rfl, rfl⟩
    rw [hbd]
    go_wp2_with fail
    refine (DrawGallopSearch_law h.out hd.out).mono ?_
    rintro e w1 ⟨vl, l, Fl, x, hh, rfl, rl, b, hll, hx, hhb⟩
    replace hB := Lib.hid (Below.next hB.out b)
    replace h := Lib.hid (h.out.next b)
    replace hd := Lib.hid (lt_next hd.out b)
    replace rl := Lib.hid rl
    clear b
    clear h hd
    obtain ⟨lo, lc, rfl, _, _⟩ := rl.out.opened
    have hyes := fun (k : (galR l x hh).2.2 = true) => galR_yes k
    have hno := fun (k : (galR l x hh).2.2 = false) => galR_no k
    have l1 := Lib.hid (fun w (r : RIntS w (.slice lo l.length lc) l Fl) => impl_GallopSearch_law (x := x) (h := hh) r hx (by omega))
    have l2 := Lib.hid (fun w (r : RIntS w (.slice lo l.length lc) l Fl) => spec_GallopSearch_law (x := x) (h := hh) r hx (by omega))
    have l3 := Lib.hid (fun w (r : RIntS w (.slice lo l.length lc) l Fl) => impl_GallopSearch_law (x := x) (h := (l.length : Int) - 1 - hh) r hx (by omega))
    generalize hG : galR l x hh = G at *
    obtain ⟨at_, cc, ok⟩ := G
    generalize hG2 : galR l x ((l.length : Int) - 1 - hh) = G2 at *
    obtain ⟨ot, c2, told⟩ := G2
    dsimp only at l1 l2 l3 hyes hno
    replace hyes := Lib.hid hyes
    replace hno := Lib.hid hno
    clear hG hG2
    go_wp2_with fail
    refine (l1.out _ rl.out).mono ?_
    rintro e w2 ⟨rfl, b⟩
    replace hB := Lib.hid (Below.next hB.out b)
    replace rl := Lib.hid (rl.out.next b)
    clear b
    go_wp2_with fail
    refine (l2.out _ rl.out).mono ?_
    rintro e w3 ⟨rfl, b⟩
    replace hB := Lib.hid (Below.next hB.out b)
    replace rl := Lib.hid (rl.out.next b)
    clear b
    clear l1 l2
    cases ok
    · skip
      obtain ⟨h1, h2⟩ := hno.out (by first | rfl | trivial)
      subst h1
      subst h2
      clear hno hyes l3
      go_wp2
      go_ret
      exact ⟨rfl, hB.out⟩
    · skip
      obtain ⟨h1, h2, h3, h4, h5, h6, h7, h8⟩ := hyes.out (by first | rfl | trivial)
      subst h7
      clear hyes hno
      replace h4 := Lib.hid h4
      replace h8 := Lib.hid h8
      have hsl := rl.out.1
      obtain ⟨_, _, hbe, _, _, _, HP⟩ := hsl.openInts
      simp at hbe
      obtain ⟨rfl, rfl⟩ := hbe
      have hle := lessC_le x l
      generalize hm : l.length = m at *
      replace HP := Lib.hid HP
      replace hm := Lib.hid hm
      clear hsl
      go_wp2
      go_loopw [12, 13] (fun nv iv wr => ∃ i k q : Nat, i ≤ m ∧ iv = .int .i64 (i : Nat) ∧ nv = .int .i64 (k : Nat) ∧ k = lessC x (l.take i) ∧ k ≤ i ∧ wr = w3.drewN q) (fun _ iv _ => m - (intOf iv).toNat)
      case atStart => exact ⟨0, 0, 0, Nat.zero_le _, rfl, rfl, by simp [lessC], Nat.le_refl _, rfl⟩
      case round =>
        obtain ⟨i, k, q, hi, rfl, rfl, hk, hki, rfl⟩ := hrel
        replace hk := Lib.hid hk
        by_cases hlt : i < m
        · obtain ⟨b, off, rfl, hR⟩ := HP.out (by omega)
          have hc1 : w3.cell? ⟨b, off + i, none⟩ = some (.int .i64 (gi l i)) := hR.cellInt (by rw [hm.out]; omega)
          have hnx := Lib.hid (lessC_take (x := x) (show i < l.length by rw [hm.out]; exact hlt))
          clear hR
          generalize gi l i = X at *
          by_cases hxy : X < x
          · go_wp2
            go_roundw
            case rel => exact ⟨i + 1, k + 1, q, by omega, by go_num, by go_num, by rw [hnx.out, if_pos hxy, hk.out], by omega, rfl⟩
            case measure => simp [intOf]; omega
          · go_wp2
            go_roundw
            case rel => exact ⟨i + 1, k, q, by omega, by go_num, by first | rfl | go_num, by rw [hnx.out, if_neg hxy, hk.out]; rfl, by omega, rfl⟩
            case measure => simp [intOf]; omega
        · obtain rfl : i = m := by omega
          have hkl : k = lessC x l := by rw [hk.out, List.take_of_length_le (by rw [hm.out]; omega)]
          have h4b := h4.out
          have h8b := h8.out
          rw [← hkl] at h4b h8b
          subst h4b
          subst h8b
          have bq : Below w3.heap.size w3 (w3.drewN q) := Below.drewN (Below.refl w3.heap.size w3) _
          replace hB := Lib.hid (Below.next hB.out bq)
          replace rl := Lib.hid (rl.out.next bq)
          clear bq hkl hk h4 h8
          go_wp2_with fail
          refine (l3.out _ rl.out).mono ?_
          rintro e w4 ⟨rfl, b⟩
          replace hB := Lib.hid (Below.next hB.out b)
          replace rl := Lib.hid (rl.out.next b)
          clear b
          have hc1 : (1 : Int) ≤ (cc : Int) := by omega
          have hc2 : (cc : Int) ≤ 14 := by omega
          go_wp2
          go_ret
          exact ⟨rfl, hB.out⟩
end Go.Proofs.Ytbfffpdcpoejnaa
