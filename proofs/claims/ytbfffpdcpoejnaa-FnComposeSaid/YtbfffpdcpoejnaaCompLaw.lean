/- laws.FnCompose: the walk. -/
import Derived.Test.YtbfffpdcpoejnaaVLaw
import Derived.Test.YtbfffpdcpoejnaaVAt
import Derived.Test.YtbfffpdcpoejnaaCompM
import Derived.Test.YtbfffpdcpoejnaaPSign
import Derived.Test.YtbfffpdcpoejnaaDrawL
namespace Go.Proofs.Ytbfffpdcpoejnaa
open Go.RowKit
set_option linter.unusedVariables false
set_option linter.unusedSimpArgs false

set_option maxRecDepth 10000 in
set_option maxHeartbeats 4000000 in
theorem FnCompose_walk (d : Value) (w : World) (h : RdBy w d) (hd : ∀ b, d.ownBlock = some b → b < w.heap.size) :
    Calls Try.prog 4 #[d] w fun e w' => e = .returned (.bool true) ∧ Below w.heap.size w w' := by
  obtain ⟨ao, n, c, rfl, q1, q2, q3⟩ := id h
  replace h := Lib.hid h
  replace hd := Lib.hid hd
  have hB := Lib.hid (Below.refl w.heap.size w)
  clear q3
  unfold maxLen at q2
  by_cases hbig : (65536 : Int) < (n : Int)
  · have hbd : decide ((65536 : Int) < (n : Int)) = true := by simp; omega
    go_enter Try.func4, Try.ntmps4
    go_wp2_with fail
    refine vBig_law.mono ?_
    rintro e w1 ⟨rfl, rfl⟩
    rw [hbd]
    go_wp2
    go_ret
    exact ⟨rfl, Below.refl _ _⟩
  · have hbd : decide ((65536 : Int) < (n : Int)) = false := by simp; omega
    go_enter Try.func4, Try.ntmps4
    go_wp2_with fail
    refine vBig_law.mono ?_
    rintro e w0 ⟨rfl, rfl⟩
    rw [hbd]
    go_wp2_with fail
    refine (DrawComposePermutations_law h.out hd.out).mono ?_
    rintro e w1 ⟨vp, p, Fp, vq, q, Fq, rfl, rp, rq, b, hpl, hql⟩
    replace hB := Lib.hid (Below.next hB.out b)
    replace h := Lib.hid (h.out.next b)
    replace hd := Lib.hid (lt_next hd.out b)
    replace rp := Lib.hid rp
    replace rq := Lib.hid rq
    clear b
    clear hd
    obtain ⟨po, pc, rfl, _, _⟩ := rp.out.opened
    obtain ⟨qo, qc, rfl, _, _⟩ := rq.out.opened
    have hh := Lib.hid h
    have hsg := fun h => sign_comp (p := p) (q := q) h
    have hap := fun (l : List Int) h => app_comp (p := p) (q := q) (l := l) h
    have hln := fun h => compR_lens (p := p) (q := q) h
    have l1 := Lib.hid (impl_ComposePermutations_law rp.out rq.out)
    have l2 := Lib.hid (fun w (r : RIntS w (.slice po p.length pc) p Fp) (s : RIntS w (.slice qo q.length qc) q Fq) => spec_ComposePermutations_law r s)
    have l3 := Lib.hid (fun w (r : RIntS w (.slice po p.length pc) p Fp) => impl_PermutationSign_law r)
    have l4 := Lib.hid (fun w (r : RIntS w (.slice po p.length pc) p Fp) => spec_PermutationSign_law r)
    have l5 := Lib.hid (fun w (r : RIntS w (.slice qo q.length qc) q Fq) => impl_PermutationSign_law r)
    generalize hC : compR p q = C at *
    obtain ⟨R, ok⟩ := C
    generalize hS : signR p = S at *
    obtain ⟨s, one⟩ := S
    generalize hT : signR q = T at *
    obtain ⟨t, two⟩ := T
    dsimp only at l1 l2 l3 l4 l5 hsg hap hln
    replace hsg := Lib.hid hsg
    replace hap := Lib.hid hap
    replace hln := Lib.hid hln
    clear hC hS hT hh
    go_wp2_with fail
    refine (l1.out).mono ?_
    rintro e w2 ⟨vr, Fr_, rfl, rr, fr, b, _⟩
    replace hB := Lib.hid (Below.next hB.out b)
    replace rp := Lib.hid (rp.out.next b)
    replace rq := Lib.hid (rq.out.next b)
    replace h := Lib.hid (h.out.next b)
    replace rr := Lib.hid rr
    clear b
    go_wp2_with fail
    refine (l2.out _ rp.out rq.out).mono ?_
    rintro e w3 ⟨vw, Fw, rfl, rw_, fw, b, _⟩
    replace hB := Lib.hid (Below.next hB.out b)
    replace rp := Lib.hid (rp.out.next b)
    replace rq := Lib.hid (rq.out.next b)
    replace h := Lib.hid (h.out.next b)
    replace rr := Lib.hid (rr.out.next b)
    replace rw_ := Lib.hid rw_
    clear b
    clear fr fw l1 l2
    go_wp2_with fail
    refine (vInts_same rr.out rw_.out).mono ?_
    rintro e w4 ⟨rfl, b⟩
    replace hB := Lib.hid (Below.next hB.out b)
    replace rp := Lib.hid (rp.out.next b)
    replace rq := Lib.hid (rq.out.next b)
    replace h := Lib.hid (h.out.next b)
    replace rr := Lib.hid (rr.out.next b)
    replace rw_ := Lib.hid (rw_.out.next b)
    clear b
    clear rw_
    go_wp2_with fail
    refine (l3.out _ rp.out).mono ?_
    rintro e w5 ⟨rfl, b⟩
    replace hB := Lib.hid (Below.next hB.out b)
    replace rp := Lib.hid (rp.out.next b)
    replace rq := Lib.hid (rq.out.next b)
    replace h := Lib.hid (h.out.next b)
    replace rr := Lib.hid (rr.out.next b)
    clear b
    go_wp2_with fail
    refine (l4.out _ rp.out).mono ?_
    rintro e w6 ⟨rfl, b⟩
    replace hB := Lib.hid (Below.next hB.out b)
    replace rp := Lib.hid (rp.out.next b)
    replace rq := Lib.hid (rq.out.next b)
    replace h := Lib.hid (h.out.next b)
    replace rr := Lib.hid (rr.out.next b)
    clear b
    clear l3 l4
    cases ok
    · go_wp2
      go_ret
      exact ⟨rfl, hB.out⟩
    obtain ⟨h1, h2, h3, h4, h5, h6⟩ := hsg.out rfl
    obtain ⟨h7, h8⟩ := hln.out rfl
    clear h8
    have l6 := Lib.hid (fun w (r : RIntS w vr R Fr_) => impl_PermutationSign_law r)
    generalize hU : signR R = U at *
    obtain ⟨u, three⟩ := U
    dsimp only at l5 l6 h3 h4
    subst h1
    subst h2
    subst h3
    have hst : s * t = u := h4.symm
    have hub : -1 ≤ u ∧ u ≤ 1 := by rw [h4]; rcases h5 with h5 | h5 <;> rcases h6 with h6 | h6 <;> rw [h5, h6] <;> decide
    clear h4 hsg hln hU
    go_wp2_with fail
    refine (l5.out _ rq.out).mono ?_
    rintro e w7 ⟨rfl, b⟩
    replace hB := Lib.hid (Below.next hB.out b)
    replace rp := Lib.hid (rp.out.next b)
    replace rq := Lib.hid (rq.out.next b)
    replace h := Lib.hid (h.out.next b)
    replace rr := Lib.hid (rr.out.next b)
    clear b
    go_wp2_with fail
    refine (l6.out _ rr.out).mono ?_
    rintro e w8 ⟨rfl, b⟩
    replace hB := Lib.hid (Below.next hB.out b)
    replace rp := Lib.hid (rp.out.next b)
    replace rq := Lib.hid (rq.out.next b)
    replace h := Lib.hid (h.out.next b)
    replace rr := Lib.hid (rr.out.next b)
    clear b
    clear l5 l6
    have hown0 := Lib.hid (Own.empty w8 3)
    generalize hn9 : p.length = m at *
    replace hn9 := Lib.hid hn9
    replace hst := Lib.hid hst
    go_wp2
    go_loopw [17, 18] (fun o iv wr => ∃ (i : Nat) (L : List Int) (ao2 : Option Addr) (c2 : Nat), i ≤ m ∧ L.length = i ∧ iv = .int .i64 (i : Nat) ∧ o = .slice ao2 i c2 ∧ Own wr 3 w8.heap.size o (ints L) ∧ (∀ j, j < i → 0 ≤ gi L j ∧ gi L j ≤ 255) ∧ Below w8.heap.size w8 wr) (fun _ iv _ => m - (intOf iv).toNat)
    case atStart => exact ⟨0, [], _, 0, Nat.zero_le _, rfl, rfl, rfl, hown0.out, fun j hj => by omega, (Below.refl _ _).alloc (Nat.le_refl _) _⟩
    case round =>
      clear hown0
      obtain ⟨i, L, ao2, c2, hi, hL, rfl, rfl, hO, hel, hb⟩ := hrel
      replace hO := Lib.hid hO
      replace hel := Lib.hid hel
      replace hL := Lib.hid hL
      replace hb := Lib.hid hb
      by_cases hlt : i < m
      · have hlti : (i : Int) < (m : Int) := by omega
        have l7 := Lib.hid (vAt_any ao n c (i + 5) wr (h.out.next hb.out) (by omega) (by omega))
        go_wp2_with fail
        rw [show (i : Int) + 5 = ((i + 5 : Nat) : Int) by omega]
        refine l7.out.mono ?_
        rintro e w20 ⟨⟨x, rfl, hx⟩, qq, rfl⟩
        have hO2 := Lib.hid (hO.out.drewN qq)
        have hb2 := Lib.hid (Below.drewN hb.out qq)
        have hs2 := hb2.out.size
        have hl2 : (ints L).length ≤ 1000000000 := by have := hL.out; simp; omega
        clear l7 hO hb
        go_wp2_with (at_builtin; refine append_one_at eltInt rfl _ _ rfl w8.heap.size _ _ rfl hO2.out rfl rfl hl2 hs2 ?_; intro v6 w6 ho6 hg6 _)
        have hb6 := Below.appended hb2.out hO2.out hg6 hs2
        have ho7 : Own w6 3 w8.heap.size v6 (ints (L ++ [(x : Int)])) := by simpa [ints] using ho6
        obtain ⟨ao7, c7, rfl, _, _, _, _⟩ := ho7.sl.openInts
        have hL2 : (L ++ [(x : Int)]).length = i + 1 := by have := hL.out; simp; omega
        rw [hL2] at ho7
        refine ⟨⟨i + 1, L ++ [(x : Int)], ao7, c7, by omega, hL2, by go_num, by rw [hL2], by rw [hL2]; exact ho7, fun j hj => ?_, hb6⟩, by simp [intOf]; omega⟩
        have hLL := hL.out
        by_cases e : j < L.length
        · rw [gi_app e]; exact hel.out j (by omega)
        · obtain rfl : j = L.length := by omega
          rw [gi_app_at]; omega
      · obtain rfl : i = m := by omega
        obtain ⟨rl, fl, _⟩ := (Fresh.of_own hO.out hb.out).law
        have hvl : vlist L = true := vlist_iff.2 ⟨by have := hL.out; omega, fun j hj => by have := hel.out j (by have := hL.out; omega); omega⟩
        obtain ⟨a1, a2, a3⟩ := hap.out L (by first | rfl | trivial) hvl hL.out
        replace rl := Lib.hid rl
        replace hb := hb.out
        replace hB := Lib.hid (Below.next hB.out hb)
        replace rp := Lib.hid (rp.out.next hb)
        replace rq := Lib.hid (rq.out.next hb)
        replace rr := Lib.hid (rr.out.next hb)
        clear hb hO hel fl hap
        have l8 := Lib.hid (impl_ApplyPermutation_law rp.out rl.out)
        have l9 := Lib.hid (fun w vv (G : List Nat) (r : RIntS w (.slice qo q.length qc) q Fq) (s : RIntS w vv (appR p L).1 G) => impl_ApplyPermutation_law r s)
        have l10 := Lib.hid (fun w vv (G : List Nat) (r : RIntS w vr R Fr_) (s : RIntS w vv L G) => impl_ApplyPermutation_law r s)
        generalize hA : appR p L = A at *
        obtain ⟨A1, A2⟩ := A
        dsimp only at a1 a2 a3 l8 l9
        subst a1
        generalize hA3 : appR q A1 = A3 at *
        obtain ⟨A4, A5⟩ := A3
        dsimp only at a2 a3 l9
        subst a2
        rw [a3] at l10
        clear a3 hA hA3
        go_wp2_with fail
        refine (l8.out).mono ?_
        rintro e w9 ⟨va, Fa, rfl, ra, fa, b, _⟩
        replace hB := Lib.hid (Below.next hB.out b)
        replace rp := Lib.hid (rp.out.next b)
        replace rq := Lib.hid (rq.out.next b)
        replace rr := Lib.hid (rr.out.next b)
        replace rl := Lib.hid (rl.out.next b)
        replace ra := Lib.hid ra
        clear b
        go_wp2_with fail
        refine (l9.out _ _ _ rq.out ra.out).mono ?_
        rintro e w10 ⟨vb, Fb, rfl, rb, fb, b, _⟩
        replace hB := Lib.hid (Below.next hB.out b)
        replace rp := Lib.hid (rp.out.next b)
        replace rq := Lib.hid (rq.out.next b)
        replace rr := Lib.hid (rr.out.next b)
        replace rl := Lib.hid (rl.out.next b)
        replace ra := Lib.hid (ra.out.next b)
        replace rb := Lib.hid rb
        clear b
        go_wp2_with fail
        refine (l10.out _ _ _ rr.out rl.out).mono ?_
        rintro e w11 ⟨vc, Fc, rfl, rc, fc, b, _⟩
        replace hB := Lib.hid (Below.next hB.out b)
        replace rp := Lib.hid (rp.out.next b)
        replace rq := Lib.hid (rq.out.next b)
        replace rr := Lib.hid (rr.out.next b)
        replace rl := Lib.hid (rl.out.next b)
        replace ra := Lib.hid (ra.out.next b)
        replace rb := Lib.hid (rb.out.next b)
        replace rc := Lib.hid rc
        clear b
        have hstw : wrap64 (s * t) = u := by rw [hst.out]; unfold wrap64; omega
        clear l8 l9 l10 fa fb fc hst h5 h6
        go_wp2_with fail
        refine (vInts_same rb.out rc.out).mono ?_
        rintro e w12 ⟨rfl, b⟩
        replace hB := Lib.hid (Below.next hB.out b)
        replace rp := Lib.hid (rp.out.next b)
        replace rq := Lib.hid (rq.out.next b)
        replace rr := Lib.hid (rr.out.next b)
        replace rl := Lib.hid (rl.out.next b)
        replace ra := Lib.hid (ra.out.next b)
        replace rb := Lib.hid (rb.out.next b)
        replace rc := Lib.hid (rc.out.next b)
        clear b
        go_wp2
        go_ret
        exact ⟨rfl, hB.out⟩
end Go.Proofs.Ytbfffpdcpoejnaa
