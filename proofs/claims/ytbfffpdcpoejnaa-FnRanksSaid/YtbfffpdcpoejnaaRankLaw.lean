/- laws.FnRanks: the walk. -/
import Derived.Test.YtbfffpdcpoejnaaVLaw
import Derived.Test.YtbfffpdcpoejnaaRankM
import Derived.Test.YtbfffpdcpoejnaaDrawU
import Derived.Test.YtbfffpdcpoejnaaNextW
import Derived.Test.YtbfffpdcpoejnaaNextS
namespace Go.Proofs.Ytbfffpdcpoejnaa
open Go.RowKit
set_option linter.unusedVariables false
set_option linter.unusedSimpArgs false

set_option maxRecDepth 10000 in
set_option maxHeartbeats 4000000 in
theorem FnRanks_walk (d : Value) (w : World) (h : RdBy w d) (hd : ∀ b, d.ownBlock = some b → b < w.heap.size) :
    Calls Try.prog 5 #[d] w fun e w' => e = .returned (.bool true) ∧ Below w.heap.size w w' := by
  obtain ⟨ao, n, c, rfl, q1, q2, q3⟩ := id h
  replace h := Lib.hid h
  replace hd := Lib.hid hd
  have hB := Lib.hid (Below.refl w.heap.size w)
  clear q3
  unfold maxLen at q2
  by_cases hbig : (65536 : Int) < (n : Int)
  · have hbd : decide ((65536 : Int) < (n : Int)) = true := by simp; omega
    go_enter Try.func5, Try.ntmps5
    go_wp2_with fail
    refine vBig_law.mono ?_
    rintro e w1 ⟨rfl, rfl⟩
    rw [hbd]
    go_wp2
    go_ret
    exact ⟨rfl, Below.refl _ _⟩
  · have hbd : decide ((65536 : Int) < (n : Int)) = false := by simp; omega
    go_enter Try.func5, Try.ntmps5
    go_wp2_with fail
    refine vBig_law.mono ?_
    rintro e w0 ⟨rfl, rfl⟩
    rw [hbd]
    go_wp2_with fail
    refine (DrawRankPermutation_law h.out hd.out).mono ?_
    rintro e w1 ⟨vp, p, Fp, rfl, rp, fp, b, hpl⟩
    replace hB := Lib.hid (Below.next hB.out b)
    replace h := Lib.hid (h.out.next b)
    replace hd := Lib.hid (lt_next hd.out b)
    replace rp := Lib.hid rp
    clear b
    clear fp
    obtain ⟨po, pc, rfl, _, _⟩ := rp.out.opened
    have hbk : (rankR p).2 = true → unR p.length (rankR p).1 = (p, true) := fun h => unrank_of_rank h
    have hnx : (rankR p).2 = true → (nextR p).2 = true → rankR (nextR p).1 = ((rankR p).1 + 1, true) := fun h k => rank_nextR h k
    have hrb : (rankR p).2 = true → 0 ≤ (rankR p).1 ∧ (rankR p).1 ≤ 3628800 ∧ p.length ≤ 10 := fun h => by
      obtain ⟨h1, h2, h3⟩ := rankR_yes h
      rw [h3]
      have := rankL_lt p
      have := fct_bd p.length h2
      exact ⟨by dsimp only; omega, by dsimp only; omega, h2⟩
    have l1 := Lib.hid (fun w (r : RIntS w (.slice po p.length pc) p Fp) => impl_RankPermutation_law r)
    have l2 := Lib.hid (fun w (r : RIntS w (.slice po p.length pc) p Fp) => spec_RankPermutation_law r)
    have l3 := Lib.hid (fun w (r : RIntS w (.slice po p.length pc) p Fp) => impl_NextPermutation_law r (by omega))
    have l4 := Lib.hid (fun w (r : RIntS w (.slice po p.length pc) p Fp) => spec_NextPermutation_law r (by omega))
    generalize hR : rankR p = R at *
    obtain ⟨r, ok⟩ := R
    generalize hN : nextR p = N at *
    obtain ⟨nx, more⟩ := N
    dsimp only at l1 l2 l3 l4 hbk hnx hrb
    replace hbk := Lib.hid hbk
    replace hnx := Lib.hid hnx
    replace hrb := Lib.hid hrb
    clear hR hN
    go_wp2_with fail
    refine (l1.out _ rp.out).mono ?_
    rintro e w2 ⟨rfl, b⟩
    replace hB := Lib.hid (Below.next hB.out b)
    replace h := Lib.hid (h.out.next b)
    replace hd := Lib.hid (lt_next hd.out b)
    replace rp := Lib.hid (rp.out.next b)
    clear b
    go_wp2_with fail
    refine (l2.out _ rp.out).mono ?_
    rintro e w3 ⟨rfl, b⟩
    replace hB := Lib.hid (Below.next hB.out b)
    replace h := Lib.hid (h.out.next b)
    replace hd := Lib.hid (lt_next hd.out b)
    replace rp := Lib.hid (rp.out.next b)
    clear b
    go_wp2_with fail
    refine (l3.out _ rp.out).mono ?_
    rintro e w4 ⟨vn, Fn_, rfl, rn, fn_, b, _⟩
    replace hB := Lib.hid (Below.next hB.out b)
    replace h := Lib.hid (h.out.next b)
    replace hd := Lib.hid (lt_next hd.out b)
    replace rp := Lib.hid (rp.out.next b)
    replace rn := Lib.hid rn
    clear b
    go_wp2_with fail
    refine (l4.out _ rp.out).mono ?_
    rintro e w5 ⟨vw, Fw, rfl, rw_, fw, b, _⟩
    replace hB := Lib.hid (Below.next hB.out b)
    replace h := Lib.hid (h.out.next b)
    replace hd := Lib.hid (lt_next hd.out b)
    replace rp := Lib.hid (rp.out.next b)
    replace rn := Lib.hid (rn.out.next b)
    replace rw_ := Lib.hid rw_
    clear b
    clear fn_ fw l1 l2 l3 l4
    go_wp2_with fail
    refine (vInts_same rn.out rw_.out).mono ?_
    rintro e w6 ⟨rfl, b⟩
    replace hB := Lib.hid (Below.next hB.out b)
    replace h := Lib.hid (h.out.next b)
    replace hd := Lib.hid (lt_next hd.out b)
    replace rp := Lib.hid (rp.out.next b)
    replace rn := Lib.hid (rn.out.next b)
    replace rw_ := Lib.hid (rw_.out.next b)
    clear b
    clear rw_
    go_wp2_with fail
    refine (DrawUnrankPermutation_law h.out hd.out).mono ?_
    rintro e w7 ⟨m, k, rfl, hm, hk, b⟩
    replace hB := Lib.hid (Below.next hB.out b)
    replace h := Lib.hid (h.out.next b)
    replace hd := Lib.hid (lt_next hd.out b)
    replace rp := Lib.hid (rp.out.next b)
    replace rn := Lib.hid (rn.out.next b)
    clear b
    clear h hd
    have hun : (unR m k).2 = true → rankR (unR m k).1 = (k, true) := fun h => rank_of_unrank h
    have l5 := Lib.hid (fun w => impl_UnrankPermutation_law (w := w) hm hk)
    have l6 := Lib.hid (fun w => spec_UnrankPermutation_law (w := w) hm hk)
    generalize hU : unR m k = U at *
    obtain ⟨q, fine⟩ := U
    dsimp only at l5 l6 hun
    replace hun := Lib.hid hun
    clear hU
    go_wp2_with fail
    refine (l5.out _).mono ?_
    rintro e w8 ⟨vq, Fq, rfl, rq, fq, b, _⟩
    replace hB := Lib.hid (Below.next hB.out b)
    replace rp := Lib.hid (rp.out.next b)
    replace rn := Lib.hid (rn.out.next b)
    replace rq := Lib.hid rq
    clear b
    go_wp2_with fail
    refine (l6.out _).mono ?_
    rintro e w9 ⟨vx, Fx, rfl, rx, fx, b, _⟩
    replace hB := Lib.hid (Below.next hB.out b)
    replace rp := Lib.hid (rp.out.next b)
    replace rn := Lib.hid (rn.out.next b)
    replace rq := Lib.hid (rq.out.next b)
    replace rx := Lib.hid rx
    clear b
    clear fq fx l5 l6
    go_wp2_with fail
    refine (vInts_same rq.out rx.out).mono ?_
    rintro e w10 ⟨rfl, b⟩
    replace hB := Lib.hid (Below.next hB.out b)
    replace rp := Lib.hid (rp.out.next b)
    replace rn := Lib.hid (rn.out.next b)
    replace rq := Lib.hid (rq.out.next b)
    replace rx := Lib.hid (rx.out.next b)
    clear b
    clear rx
    cases fine
    · skip
      clear hun
      cases ok
      · skip
        go_wp2
        go_ret
        exact ⟨rfl, hB.out⟩
      · skip
        have h1 := hbk.out (by first | rfl | trivial)
        obtain ⟨h3, h4, h5⟩ := hrb.out (by first | rfl | trivial)
        have l7 := Lib.hid (fun w => impl_UnrankPermutation_law (n := (p.length : Int)) (r := r) (w := w) (by omega) (by omega))
        rw [h1] at l7
        clear h1 hbk
        go_wp2_with fail
        refine (l7.out _).mono ?_
        rintro e w11 ⟨vk, Fk, rfl, rk, fk, b, _⟩
        replace hB := Lib.hid (Below.next hB.out b)
        replace rp := Lib.hid (rp.out.next b)
        replace rn := Lib.hid (rn.out.next b)
        replace rq := Lib.hid (rq.out.next b)
        replace rk := Lib.hid rk
        clear b
        clear fk l7
        go_wp2_with fail
        refine (vInts_same rk.out rp.out).mono ?_
        rintro e w12 ⟨rfl, b⟩
        replace hB := Lib.hid (Below.next hB.out b)
        replace rp := Lib.hid (rp.out.next b)
        replace rn := Lib.hid (rn.out.next b)
        replace rq := Lib.hid (rq.out.next b)
        replace rk := Lib.hid (rk.out.next b)
        clear b
        cases more
        · skip
          go_wp2
          go_ret
          exact ⟨rfl, hB.out⟩
        · skip
          have h2 := hnx.out (by first | rfl | trivial) (by first | rfl | trivial)
          have l8 := Lib.hid (impl_RankPermutation_law rn.out)
          rw [h2] at l8
          clear h2 hnx
          go_wp2_with fail
          refine (l8.out).mono ?_
          rintro e w13 ⟨rfl, b⟩
          replace hB := Lib.hid (Below.next hB.out b)
          replace rp := Lib.hid (rp.out.next b)
          replace rn := Lib.hid (rn.out.next b)
          replace rq := Lib.hid (rq.out.next b)
          replace rk := Lib.hid (rk.out.next b)
          clear b
          go_wp2
          go_ret
          exact ⟨by first | rfl | simp, hB.out⟩
    · skip
      have l9 := Lib.hid (impl_RankPermutation_law rq.out)
      rw [hun.out (by first | rfl | trivial)] at l9
      clear hun
      go_wp2_with fail
      refine (l9.out).mono ?_
      rintro e w11 ⟨rfl, b⟩
      replace hB := Lib.hid (Below.next hB.out b)
      replace rp := Lib.hid (rp.out.next b)
      replace rn := Lib.hid (rn.out.next b)
      replace rq := Lib.hid (rq.out.next b)
      clear b
      clear l9
      cases ok
      · skip
        go_wp2
        go_ret
        exact ⟨rfl, hB.out⟩
      · skip
        have h1 := hbk.out (by first | rfl | trivial)
        obtain ⟨h3, h4, h5⟩ := hrb.out (by first | rfl | trivial)
        have l7 := Lib.hid (fun w => impl_UnrankPermutation_law (n := (p.length : Int)) (r := r) (w := w) (by omega) (by omega))
        rw [h1] at l7
        clear h1 hbk
        go_wp2_with fail
        refine (l7.out _).mono ?_
        rintro e w12 ⟨vk, Fk, rfl, rk, fk, b, _⟩
        replace hB := Lib.hid (Below.next hB.out b)
        replace rp := Lib.hid (rp.out.next b)
        replace rn := Lib.hid (rn.out.next b)
        replace rq := Lib.hid (rq.out.next b)
        replace rk := Lib.hid rk
        clear b
        clear fk l7
        go_wp2_with fail
        refine (vInts_same rk.out rp.out).mono ?_
        rintro e w13 ⟨rfl, b⟩
        replace hB := Lib.hid (Below.next hB.out b)
        replace rp := Lib.hid (rp.out.next b)
        replace rn := Lib.hid (rn.out.next b)
        replace rq := Lib.hid (rq.out.next b)
        replace rk := Lib.hid (rk.out.next b)
        clear b
        cases more
        · skip
          go_wp2
          go_ret
          exact ⟨rfl, hB.out⟩
        · skip
          have h2 := hnx.out (by first | rfl | trivial) (by first | rfl | trivial)
          have l8 := Lib.hid (impl_RankPermutation_law rn.out)
          rw [h2] at l8
          clear h2 hnx
          go_wp2_with fail
          refine (l8.out).mono ?_
          rintro e w14 ⟨rfl, b⟩
          replace hB := Lib.hid (Below.next hB.out b)
          replace rp := Lib.hid (rp.out.next b)
          replace rn := Lib.hid (rn.out.next b)
          replace rq := Lib.hid (rq.out.next b)
          replace rk := Lib.hid (rk.out.next b)
          clear b
          go_wp2
          go_ret
          exact ⟨by first | rfl | simp, hB.out⟩
end Go.Proofs.Ytbfffpdcpoejnaa
