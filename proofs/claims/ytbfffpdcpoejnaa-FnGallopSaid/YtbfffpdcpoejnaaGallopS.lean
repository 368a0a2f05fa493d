/- GallopSearch: the spec. -/
import Derived.Test.YtbfffpdcpoejnaaGallop
namespace Go.Proofs.Ytbfffpdcpoejnaa
open Go.RowKit
set_option linter.unusedVariables false
set_option linter.unusedSimpArgs false

set_option maxRecDepth 10000 in
set_option maxHeartbeats 4000000 in
theorem spec_GallopSearch_law {v : Value} {l : List Int} {F : List Nat} {x h : Int} {w : World} (r : RIntS w v l F) (_ : -9223372036854775808 ≤ x ∧ x ≤ 9223372036854775807) (_ : -9223372036854775808 ≤ h ∧ h ≤ 9223372036854775807) :
  Calls Try.prog 48 #[v, .int .i64 x, .int .i64 h] w fun e w' => e = .returned (.tuple #[.int .i64 ((galR l x h).1 : Nat), .int .i64 ((galR l x h).2.1 : Nat), .bool (galR l x h).2.2]) ∧ Below w.heap.size w w' := by
  have hv := r.rd
  clear r
  have hv0 := hv
  obtain ⟨ao, cap, rfl, hx1, hx2, hcell0⟩ := hv0
  unfold maxLen at hx2
  replace hv := Lib.hid hv
  replace hcell0 := Lib.hid hcell0
  cases a1 : vlist l
  · skip
    have e0 : galR l x h = (0, 0, false) := by
      unfold galR
      rw [if_neg]
      unfold galB
      intro h9
      simp_all
    rw [e0]
    clear e0
    go_enter Try.func48, Try.ntmps48
    go_wp2_with fail
    refine (l2List_any _ _ _ hv.out).mono ?_
    rintro e w1 ⟨rfl, hq⟩
    have hb := Lib.hid (show Below w.heap.size w w1 from hq ▸ Below.refl _ _)
    clear hq
    rw [a1]
    go_wp2
    go_ret3
    exact ⟨rfl, hb.out⟩
  by_cases a2 : descF l ≥ 0
  · skip
    have e0 : galR l x h = (0, 0, false) := by
      unfold galR
      rw [if_neg]
      unfold galB
      intro h9
      simp_all
    rw [e0]
    clear e0
    go_enter Try.func48, Try.ntmps48
    go_wp2_with fail
    refine (l2List_any _ _ _ hv.out).mono ?_
    rintro e w1 ⟨rfl, hq⟩
    have hb := Lib.hid (show Below w.heap.size w w1 from hq ▸ Below.refl _ _)
    clear hq
    rw [a1]
    go_wp2_with fail
    refine (l4Descent_any _ _ _ (hv.out.below hb.out)).mono ?_
    rintro e w2 ⟨rfl, hq⟩
    replace hb := Lib.hid (Below.next hb.out (Below.quiet hq))
    clear hq
    go_wp2
    go_ret3
    exact ⟨rfl, hb.out⟩
  cases a3 : keyB x
  · skip
    have e0 : galR l x h = (0, 0, false) := by
      unfold galR
      rw [if_neg]
      unfold galB
      intro h9
      simp_all
    rw [e0]
    clear e0
    go_enter Try.func48, Try.ntmps48
    go_wp2_with fail
    refine (l2List_any _ _ _ hv.out).mono ?_
    rintro e w1 ⟨rfl, hq⟩
    have hb := Lib.hid (show Below w.heap.size w w1 from hq ▸ Below.refl _ _)
    clear hq
    rw [a1]
    go_wp2_with fail
    refine (l4Descent_any _ _ _ (hv.out.below hb.out)).mono ?_
    rintro e w2 ⟨rfl, hq⟩
    replace hb := Lib.hid (Below.next hb.out (Below.quiet hq))
    clear hq
    go_wp2_with fail
    refine (l1In_any _ _ _ _).mono ?_
    rintro e w3 ⟨rfl, rfl⟩
    rw [show inB x (-100000) 100000 = keyB x from rfl, a3]
    go_wp2
    go_ret3
    exact ⟨rfl, hb.out⟩
  cases a4 : inB h 0 ((l.length : Int) - 1)
  · skip
    have e0 : galR l x h = (0, 0, false) := by
      unfold galR
      rw [if_neg]
      unfold galB
      intro h9
      simp_all
    rw [e0]
    clear e0
    go_enter Try.func48, Try.ntmps48
    go_wp2_with fail
    refine (l2List_any _ _ _ hv.out).mono ?_
    rintro e w1 ⟨rfl, hq⟩
    have hb := Lib.hid (show Below w.heap.size w w1 from hq ▸ Below.refl _ _)
    clear hq
    rw [a1]
    go_wp2_with fail
    refine (l4Descent_any _ _ _ (hv.out.below hb.out)).mono ?_
    rintro e w2 ⟨rfl, hq⟩
    replace hb := Lib.hid (Below.next hb.out (Below.quiet hq))
    clear hq
    go_wp2_with fail
    refine (l1In_any _ _ _ _).mono ?_
    rintro e w3 ⟨rfl, rfl⟩
    rw [show inB x (-100000) 100000 = keyB x from rfl, a3]
    go_wp2_with fail
    refine (l1In_any _ _ _ _).mono ?_
    rintro e w4 ⟨rfl, rfl⟩
    rw [a4]
    go_wp2
    go_ret3
    exact ⟨rfl, hb.out⟩
  have h4 := inB_iff.1 a4
  obtain ⟨H, rfl⟩ := Int.eq_ofNat_of_zero_le h4.1
  have hl := (vlist_iff.1 a1).1
  have e0 : galR l x (H : Int) = ((galF l x H).1, (galF l x H).2, true) := by
    unfold galR
    rw [if_pos]
    · simp
    · unfold galB
      simp_all
  rw [e0]
  clear e0
  have hHn : H < l.length := by omega
  clear h4
  have hR3 := Lib.hid (show galF l x H = gBin l x l.length (gSt l x H).1 (gSt l x H).2.1 (gSt l x H).2.2 from rfl)
  have hS := Lib.hid (show gSt l x H = if gi l H < x then gUp l x H (l.length + 1) 1 (H + 1) 1 else gDn l x H (l.length + 1) 1 H 1 from rfl)
  generalize hR : gSt l x H = R at *
  generalize hF : galF l x H = R2 at *
  replace hR := Lib.hid hR
  replace hF := Lib.hid hF
  have a2' : ¬ (0 : Int) ≤ descF l := fun e => a2 (by omega)
  clear a2
  go_enter Try.func48, Try.ntmps48
  go_wp2_with fail
  refine (l2List_any _ _ _ hv.out).mono ?_
  rintro e w1 ⟨rfl, hq⟩
  have hb := Lib.hid (show Below w.heap.size w w1 from hq ▸ Below.refl _ _)
  clear hq
  rw [a1]
  go_wp2_with fail
  refine (l4Descent_any _ _ _ (hv.out.below hb.out)).mono ?_
  rintro e w1 ⟨rfl, hq⟩
  replace hb := Lib.hid (Below.next hb.out (Below.quiet hq))
  clear hq
  go_wp2_with fail
  refine (l1In_any _ _ _ _).mono ?_
  rintro e w1 ⟨rfl, rfl⟩
  rw [show inB x (-100000) 100000 = keyB x from rfl, a3]
  go_wp2_with fail
  refine (l1In_any _ _ _ _).mono ?_
  rintro e w1 ⟨rfl, rfl⟩
  rw [a4]
  have hcell : Hid (∃ b off, ao = some ⟨b, off, none⟩ ∧ ∀ i, i < l.length → w1.cell? ⟨b, off + i, none⟩ = some (.int .i64 (gi l i))) := Lib.hid (by
    obtain ⟨b, off, e, hc⟩ := hcell0.out (by omega)
    exact ⟨b, off, e, fun i hi => (hb.out.cell (p := ⟨b, off + i, none⟩) (block_lt_of_cell (hc i hi))).trans (hc i hi)⟩)
  clear hcell0
  generalize hn : l.length = n at *
  replace hn := Lib.hid hn
  replace a1 := Lib.hid a1
  replace a2' := Lib.hid a2'
  replace a3 := Lib.hid a3
  replace a4 := Lib.hid a4
  obtain ⟨b, off, rfl, hcc⟩ := hcell.out
  clear hcell
  have hcH := hcc H hHn
  have hcell := Lib.hid hcc
  clear hcc
  have hR2 : Hid (gBin l x n R.1 R.2.1 R.2.2 = R2) := Lib.hid hR3.out.symm
  replace hR3 : Hid (R2 = R2) := Lib.hid rfl
  generalize hy0 : gi l H = y0 at *
  replace hy0 := Lib.hid hy0
  have hS2 := hS.out
  by_cases hyx : y0 < x
  · rw [if_pos hyx] at hS2
    replace hS2 := Lib.hid hS2
    go_wp2
    go_loopg [9, 10, 11, 12] (n + 2) (fun g s9 s10 s11 s12 wq => w1 = wq ∧ ∃ lo c s : Nat, s9 = .int .i64 lo ∧ s11 = .int .i64 c ∧ s12 = .int .i64 s ∧ 2 ≤ s ∧ s ≤ 200 ∧ lo ≤ n ∧ c + g ≤ 200 ∧
      ((s10 = .int .i64 n ∧ ∃ m, g = m + 1 ∧ Hid (gUp l x H m (s - 1) lo c = R) ∧ n ≤ H + (s - 1) + m) ∨ (∃ hi : Nat, s10 = .int .i64 hi ∧ g = 0 ∧ hi < n ∧ Hid ((lo, hi, c) = R))))
    case atStart => exact ⟨rfl, H + 1, 1, 2, by go_num, rfl, rfl, by omega, by omega, by omega, by omega, .inl ⟨rfl, n + 1, rfl, Lib.hid hS2.out.symm, by omega⟩⟩
    case round =>
      obtain ⟨rfl, lo, c, s, rfl, rfl, rfl, s1, s2, b1, b3, hcase⟩ := hrel
      obtain ⟨e, he⟩ : ∃ e, e + 1 = H + s := ⟨H + s - 1, by omega⟩
      have he1 : (H : Int) + (s : Int) - 1 = (e : Int) := by omega
      have he3 : H + (s - 1) = e := by omega
      have he5 : 2 * (s - 1) + 1 = 2 * s - 1 := by omega
      rw [he3] at hcase
      replace he := Lib.hid he
      replace he3 := Lib.hid he3
      replace he5 := Lib.hid he5
      rcases hcase with ⟨rfl, m, rfl, hU, hfu⟩ | ⟨hi, rfl, rfl, hhi, hU⟩
      · by_cases hen : e < n
        · obtain ⟨m, rfl⟩ : ∃ z, m = z + 1 := ⟨m - 1, by omega⟩
          have hc1 := hcell.out e hen
          have i1 : (e : Int) < (n : Int) := by omega
          have i2 : (0 : Int) ≤ (e : Int) := by omega
          have hU1 := hU.out
          generalize hy : gi l e = y at *
          replace hU := True.intro
          by_cases hyx2 : y < x
          · rw [gUp_lt (by rw [hn.out, he3.out]; exact hen) (by rw [he3.out, hy]; exact hyx2), he3.out, he5.out] at hU1
            replace hU1 := Lib.hid hU1
            replace hy := Lib.hid hy
            go_wp2
            go_roundg (m + 1)
            case measure => omega
            case rel => exact ⟨rfl, e + 1, c + 1, 2 * s, by have := he.out; go_num, by go_num, by go_num, by omega, by have := he.out; omega, by omega, by omega, .inl ⟨rfl, m, rfl, hU1, by have := he.out; omega⟩⟩
          · rw [gUp_ge (by rw [hn.out, he3.out]; exact hen) (by rw [he3.out, hy]; exact hyx2), he3.out] at hU1
            replace hU1 := Lib.hid hU1
            replace hy := Lib.hid hy
            go_wp2
            go_roundg 0
            case measure => omega
            case rel => exact ⟨rfl, lo, c + 1, 2 * s, rfl, by go_num, by go_num, by omega, by have := he.out; omega, by omega, by omega, .inr ⟨e, by first | rfl | go_num, rfl, hen, hU1⟩⟩
        · have hU1 := hU.out
          rw [gUp_stop (by rw [hn.out, he3.out]; exact hen), hn.out] at hU1
          have hRR : Hid ((lo, n, c) = R) := Lib.hid hU1
          replace hU := True.intro
          replace hU1 := True.intro
          have i1 : ¬ (e : Int) < (n : Int) := by omega
          go_wp2
          try clear i1
          try clear i3
          go_loopg [9, 10, 11] n (fun g s9 s10 s11 wq => w1 = wq ∧ ∃ lo hi c : Nat, s9 = .int .i64 lo ∧ s10 = .int .i64 hi ∧ s11 = .int .i64 c ∧ Hid (gBin l x g lo hi c = R2) ∧ hi ≤ lo + g ∧ lo ≤ n ∧ hi ≤ n ∧ c + g ≤ 400)
          case atStart => exact ⟨rfl, lo, n, c, rfl, rfl, rfl, Lib.hid (by rw [← hR2.out, ← hRR.out]), by omega, by omega, by omega, by omega⟩
          case round =>
            obtain ⟨rfl, lo, hi, c, rfl, rfl, rfl, hB, b1, b2, b3, b4⟩ := hrel
            by_cases hlh : lo < hi
            · obtain ⟨g, rfl⟩ : ∃ z, gk = z + 1 := ⟨gk - 1, by omega⟩
              obtain ⟨md, hmd⟩ : ∃ md, md = (lo + hi) / 2 := ⟨_, rfl⟩
              have m1 : lo ≤ md := by omega
              have m2 : md < hi := by omega
              have hdv : ((lo : Int) + (hi : Int)).tdiv 2 = (md : Int) := by
                rw [Int.tdiv_eq_ediv_of_nonneg (by omega)]; omega
              have hdv2 : ((lo : Int) + (hi : Int)) / 2 = (md : Int) := by omega
              have hc1 := hcell.out md (by omega)
              have hlt := fun (h : gi l md < x) => gBin_lt (l := l) (x := x) (m := g) (c := c) hlh (by rw [← hmd]; exact h)
              have hge := fun (h : ¬ gi l md < x) => gBin_ge (l := l) (x := x) (m := g) (c := c) hlh (by rw [← hmd]; exact h)
              rw [← hmd] at hlt hge
              rw [hB.out] at hlt hge
              have i1 : (md : Int) < (n : Int) := by omega
              have i2 : (0 : Int) ≤ (md : Int) := by omega
              replace hmd := Lib.hid hmd
              replace hB := Lib.hid hB.out
              generalize hy : gi l md = y at *
              replace hy := Lib.hid hy
              by_cases hyx : y < x
              · replace hlt := Lib.hid (hlt hyx)
                clear hge
                go_wp2
                go_roundg g
                case measure => omega
                case rel => exact ⟨rfl, md + 1, hi, c + 1, by go_num, rfl, by go_num, Lib.hid hlt.out.symm, by omega, by omega, by omega, by omega⟩
              · replace hge := Lib.hid (hge hyx)
                clear hlt
                go_wp2
                go_roundg g
                case measure => omega
                case rel => exact ⟨rfl, lo, md, c + 1, rfl, by first | rfl | go_num, by go_num, Lib.hid hge.out.symm, by omega, by omega, by omega, by omega⟩
            · have hst := gBin_stop (l := l) (x := x) (m := gk) (c := c) hlh
              rw [hB.out] at hst
              replace hst := Lib.hid hst
              replace hB := Lib.hid hB.out
              go_wp2
              go_ret3
              exact ⟨by rw [hst.out]; rfl, hb.out⟩
      · have hRR := hU
        by_cases hen : e < n
        · have i1 : (e : Int) < (n : Int) := by omega
          have i3 : ((hi : Int) == (n : Int)) = false := by simp; omega
          go_wp2
          try clear i1
          try clear i3
          go_loopg [9, 10, 11] n (fun g s9 s10 s11 wq => w1 = wq ∧ ∃ lo hi c : Nat, s9 = .int .i64 lo ∧ s10 = .int .i64 hi ∧ s11 = .int .i64 c ∧ Hid (gBin l x g lo hi c = R2) ∧ hi ≤ lo + g ∧ lo ≤ n ∧ hi ≤ n ∧ c + g ≤ 400)
          case atStart => exact ⟨rfl, lo, hi, c, rfl, rfl, rfl, Lib.hid (by rw [← hR2.out, ← hRR.out]), by omega, by omega, by omega, by omega⟩
          case round =>
            obtain ⟨rfl, lo, hi, c, rfl, rfl, rfl, hB, b1, b2, b3, b4⟩ := hrel
            by_cases hlh : lo < hi
            · obtain ⟨g, rfl⟩ : ∃ z, gk = z + 1 := ⟨gk - 1, by omega⟩
              obtain ⟨md, hmd⟩ : ∃ md, md = (lo + hi) / 2 := ⟨_, rfl⟩
              have m1 : lo ≤ md := by omega
              have m2 : md < hi := by omega
              have hdv : ((lo : Int) + (hi : Int)).tdiv 2 = (md : Int) := by
                rw [Int.tdiv_eq_ediv_of_nonneg (by omega)]; omega
              have hdv2 : ((lo : Int) + (hi : Int)) / 2 = (md : Int) := by omega
              have hc1 := hcell.out md (by omega)
              have hlt := fun (h : gi l md < x) => gBin_lt (l := l) (x := x) (m := g) (c := c) hlh (by rw [← hmd]; exact h)
              have hge := fun (h : ¬ gi l md < x) => gBin_ge (l := l) (x := x) (m := g) (c := c) hlh (by rw [← hmd]; exact h)
              rw [← hmd] at hlt hge
              rw [hB.out] at hlt hge
              have i1 : (md : Int) < (n : Int) := by omega
              have i2 : (0 : Int) ≤ (md : Int) := by omega
              replace hmd := Lib.hid hmd
              replace hB := Lib.hid hB.out
              generalize hy : gi l md = y at *
              replace hy := Lib.hid hy
              by_cases hyx : y < x
              · replace hlt := Lib.hid (hlt hyx)
                clear hge
                go_wp2
                go_roundg g
                case measure => omega
                case rel => exact ⟨rfl, md + 1, hi, c + 1, by go_num, rfl, by go_num, Lib.hid hlt.out.symm, by omega, by omega, by omega, by omega⟩
              · replace hge := Lib.hid (hge hyx)
                clear hlt
                go_wp2
                go_roundg g
                case measure => omega
                case rel => exact ⟨rfl, lo, md, c + 1, rfl, by first | rfl | go_num, by go_num, Lib.hid hge.out.symm, by omega, by omega, by omega, by omega⟩
            · have hst := gBin_stop (l := l) (x := x) (m := gk) (c := c) hlh
              rw [hB.out] at hst
              replace hst := Lib.hid hst
              replace hB := Lib.hid hB.out
              go_wp2
              go_ret3
              exact ⟨by rw [hst.out]; rfl, hb.out⟩
        · have i1 : ¬ (e : Int) < (n : Int) := by omega
          go_wp2
          try clear i1
          try clear i3
          go_loopg [9, 10, 11] n (fun g s9 s10 s11 wq => w1 = wq ∧ ∃ lo hi c : Nat, s9 = .int .i64 lo ∧ s10 = .int .i64 hi ∧ s11 = .int .i64 c ∧ Hid (gBin l x g lo hi c = R2) ∧ hi ≤ lo + g ∧ lo ≤ n ∧ hi ≤ n ∧ c + g ≤ 400)
          case atStart => exact ⟨rfl, lo, hi, c, rfl, rfl, rfl, Lib.hid (by rw [← hR2.out, ← hRR.out]), by omega, by omega, by omega, by omega⟩
          case round =>
            obtain ⟨rfl, lo, hi, c, rfl, rfl, rfl, hB, b1, b2, b3, b4⟩ := hrel
            by_cases hlh : lo < hi
            · obtain ⟨g, rfl⟩ : ∃ z, gk = z + 1 := ⟨gk - 1, by omega⟩
              obtain ⟨md, hmd⟩ : ∃ md, md = (lo + hi) / 2 := ⟨_, rfl⟩
              have m1 : lo ≤ md := by omega
              have m2 : md < hi := by omega
              have hdv : ((lo : Int) + (hi : Int)).tdiv 2 = (md : Int) := by
                rw [Int.tdiv_eq_ediv_of_nonneg (by omega)]; omega
              have hdv2 : ((lo : Int) + (hi : Int)) / 2 = (md : Int) := by omega
              have hc1 := hcell.out md (by omega)
              have hlt := fun (h : gi l md < x) => gBin_lt (l := l) (x := x) (m := g) (c := c) hlh (by rw [← hmd]; exact h)
              have hge := fun (h : ¬ gi l md < x) => gBin_ge (l := l) (x := x) (m := g) (c := c) hlh (by rw [← hmd]; exact h)
              rw [← hmd] at hlt hge
              rw [hB.out] at hlt hge
              have i1 : (md : Int) < (n : Int) := by omega
              have i2 : (0 : Int) ≤ (md : Int) := by omega
              replace hmd := Lib.hid hmd
              replace hB := Lib.hid hB.out
              generalize hy : gi l md = y at *
              replace hy := Lib.hid hy
              by_cases hyx : y < x
              · replace hlt := Lib.hid (hlt hyx)
                clear hge
                go_wp2
                go_roundg g
                case measure => omega
                case rel => exact ⟨rfl, md + 1, hi, c + 1, by go_num, rfl, by go_num, Lib.hid hlt.out.symm, by omega, by omega, by omega, by omega⟩
              · replace hge := Lib.hid (hge hyx)
                clear hlt
                go_wp2
                go_roundg g
                case measure => omega
                case rel => exact ⟨rfl, lo, md, c + 1, rfl, by first | rfl | go_num, by go_num, Lib.hid hge.out.symm, by omega, by omega, by omega, by omega⟩
            · have hst := gBin_stop (l := l) (x := x) (m := gk) (c := c) hlh
              rw [hB.out] at hst
              replace hst := Lib.hid hst
              replace hB := Lib.hid hB.out
              go_wp2
              go_ret3
              exact ⟨by rw [hst.out]; rfl, hb.out⟩
  · rw [if_neg hyx] at hS2
    replace hS2 := Lib.hid hS2
    go_wp2
    go_loopg [9, 10, 11, 13] (n + 2) (fun g s9 s10 s11 s13 wq => w1 = wq ∧ ∃ hi c s : Nat, s10 = .int .i64 hi ∧ s11 = .int .i64 c ∧ s13 = .int .i64 s ∧ 2 ≤ s ∧ s ≤ 200 ∧ hi ≤ n ∧ c + g ≤ 200 ∧
      ((s9 = .int .i64 0 ∧ ∃ m, g = m + 1 ∧ Hid (gDn l x H m (s - 1) hi c = R) ∧ H < (s - 1) + m) ∨ (∃ lo : Nat, s9 = .int .i64 lo ∧ 0 < lo ∧ lo ≤ n ∧ g = 0 ∧ Hid ((lo, hi, c) = R))))
    case atStart => exact ⟨rfl, H, 1, 2, rfl, rfl, rfl, by omega, by omega, by omega, by omega, .inl ⟨rfl, n + 1, rfl, Lib.hid hS2.out.symm, by omega⟩⟩
    case round =>
      obtain ⟨rfl, hi, c, s, rfl, rfl, rfl, s1, s2, b1, b3, hcase⟩ := hrel
      obtain ⟨q, rfl⟩ : ∃ q, s = q + 1 := ⟨s - 1, by omega⟩
      rw [Nat.add_sub_cancel] at hcase
      have he5 : 2 * (q + 1) - 1 = 2 * q + 1 := by omega
      replace he5 := Lib.hid he5
      have hq0 : ((q + 1 : Nat) : Int) = (q : Int) + 1 := by omega
      rcases hcase with ⟨rfl, m, rfl, hU, hfu⟩ | ⟨lo, rfl, hlo, hlo2, rfl, hU⟩
      · by_cases hen : q ≤ H
        · obtain ⟨m, rfl⟩ : ∃ z, m = z + 1 := ⟨m - 1, by omega⟩
          obtain ⟨e, he⟩ : ∃ e, e = H - q := ⟨_, rfl⟩
          have hc1 := hcell.out e (by omega)
          have i1 : (e : Int) < (n : Int) := by omega
          have i2 : (0 : Int) ≤ (e : Int) := by omega
          have i3 : (H : Int) - ((q : Int) + 1) + 1 = (e : Int) := by omega
          have i4 : (H : Int) - ((q : Int) + 1) + 2 = (e : Int) + 1 := by omega
          have hU1 := hU.out
          have hlt := fun (h : gi l e < x) => gDn_lt (l := l) (x := x) (h := H) (m := m) (s := q) (hi := hi) (c := c) hen (by rw [← he]; exact h)
          have hge := fun (h : ¬ gi l e < x) => gDn_ge (l := l) (x := x) (h := H) (m := m) (s := q) (hi := hi) (c := c) hen (by rw [← he]; exact h)
          rw [← he, hU1] at hlt hge
          generalize hy : gi l e = y at *
          replace hU := True.intro
          replace hU1 := True.intro
          replace hy := Lib.hid hy
          replace he := Lib.hid he
          replace hq0 := True.intro
          by_cases hyx2 : y < x
          · replace hlt := Lib.hid (hlt hyx2)
            clear hge
            go_wp2
            go_roundg 0
            case measure => omega
            case rel => exact ⟨rfl, hi, c + 1, 2 * (q + 1), rfl, by go_num, by go_num, by omega, by have := he.out; omega, by omega, by omega, .inr ⟨e + 1, by go_num, by omega, by have := he.out; omega, rfl, Lib.hid hlt.out.symm⟩⟩
          · replace hge := Lib.hid (hge hyx2)
            clear hlt
            go_wp2
            go_roundg (m + 1)
            case measure => omega
            case rel => exact ⟨rfl, e, c + 1, 2 * (q + 1), by first | rfl | go_num, by go_num, by go_num, by omega, by have := he.out; omega, by have := he.out; omega, by omega, .inl ⟨rfl, m, rfl, Lib.hid (by rw [he5.out]; exact hge.out.symm), by omega⟩⟩
        · have hU1 := hU.out
          rw [gDn_stop hen] at hU1
          have hRR : Hid ((0, hi, c) = R) := Lib.hid hU1
          replace hU := True.intro
          replace hU1 := True.intro
          have i1 : ¬ (0 : Int) ≤ (H : Int) - ((q : Int) + 1) + 1 := by omega
          replace hq0 := True.intro
          go_wp2
          try clear i1
          try clear i3
          go_loopg [9, 10, 11] n (fun g s9 s10 s11 wq => w1 = wq ∧ ∃ lo hi c : Nat, s9 = .int .i64 lo ∧ s10 = .int .i64 hi ∧ s11 = .int .i64 c ∧ Hid (gBin l x g lo hi c = R2) ∧ hi ≤ lo + g ∧ lo ≤ n ∧ hi ≤ n ∧ c + g ≤ 400)
          case atStart => exact ⟨rfl, 0, hi, c, rfl, rfl, rfl, Lib.hid (by rw [← hR2.out, ← hRR.out]), by omega, by omega, by omega, by omega⟩
          case round =>
            obtain ⟨rfl, lo, hi, c, rfl, rfl, rfl, hB, b1, b2, b3, b4⟩ := hrel
            by_cases hlh : lo < hi
            · obtain ⟨g, rfl⟩ : ∃ z, gk = z + 1 := ⟨gk - 1, by omega⟩
              obtain ⟨md, hmd⟩ : ∃ md, md = (lo + hi) / 2 := ⟨_, rfl⟩
              have m1 : lo ≤ md := by omega
              have m2 : md < hi := by omega
              have hdv : ((lo : Int) + (hi : Int)).tdiv 2 = (md : Int) := by
                rw [Int.tdiv_eq_ediv_of_nonneg (by omega)]; omega
              have hdv2 : ((lo : Int) + (hi : Int)) / 2 = (md : Int) := by omega
              have hc1 := hcell.out md (by omega)
              have hlt := fun (h : gi l md < x) => gBin_lt (l := l) (x := x) (m := g) (c := c) hlh (by rw [← hmd]; exact h)
              have hge := fun (h : ¬ gi l md < x) => gBin_ge (l := l) (x := x) (m := g) (c := c) hlh (by rw [← hmd]; exact h)
              rw [← hmd] at hlt hge
              rw [hB.out] at hlt hge
              have i1 : (md : Int) < (n : Int) := by omega
              have i2 : (0 : Int) ≤ (md : Int) := by omega
              replace hmd := Lib.hid hmd
              replace hB := Lib.hid hB.out
              generalize hy : gi l md = y at *
              replace hy := Lib.hid hy
              by_cases hyx : y < x
              · replace hlt := Lib.hid (hlt hyx)
                clear hge
                go_wp2
                go_roundg g
                case measure => omega
                case rel => exact ⟨rfl, md + 1, hi, c + 1, by go_num, rfl, by go_num, Lib.hid hlt.out.symm, by omega, by omega, by omega, by omega⟩
              · replace hge := Lib.hid (hge hyx)
                clear hlt
                go_wp2
                go_roundg g
                case measure => omega
                case rel => exact ⟨rfl, lo, md, c + 1, rfl, by first | rfl | go_num, by go_num, Lib.hid hge.out.symm, by omega, by omega, by omega, by omega⟩
            · have hst := gBin_stop (l := l) (x := x) (m := gk) (c := c) hlh
              rw [hB.out] at hst
              replace hst := Lib.hid hst
              replace hB := Lib.hid hB.out
              go_wp2
              go_ret3
              exact ⟨by rw [hst.out]; rfl, hb.out⟩
      · have hRR := hU
        have i3 : ((lo : Int) == 0) = false := by simp; omega
        by_cases hen : q ≤ H
        · have i1 : (0 : Int) ≤ (H : Int) - ((q : Int) + 1) + 1 := by omega
          replace hq0 := True.intro
          go_wp2
          try clear i1
          try clear i3
          go_loopg [9, 10, 11] n (fun g s9 s10 s11 wq => w1 = wq ∧ ∃ lo hi c : Nat, s9 = .int .i64 lo ∧ s10 = .int .i64 hi ∧ s11 = .int .i64 c ∧ Hid (gBin l x g lo hi c = R2) ∧ hi ≤ lo + g ∧ lo ≤ n ∧ hi ≤ n ∧ c + g ≤ 400)
          case atStart => exact ⟨rfl, lo, hi, c, rfl, rfl, rfl, Lib.hid (by rw [← hR2.out, ← hRR.out]), by omega, by omega, by omega, by omega⟩
          case round =>
            obtain ⟨rfl, lo, hi, c, rfl, rfl, rfl, hB, b1, b2, b3, b4⟩ := hrel
            by_cases hlh : lo < hi
            · obtain ⟨g, rfl⟩ : ∃ z, gk = z + 1 := ⟨gk - 1, by omega⟩
              obtain ⟨md, hmd⟩ : ∃ md, md = (lo + hi) / 2 := ⟨_, rfl⟩
              have m1 : lo ≤ md := by omega
              have m2 : md < hi := by omega
              have hdv : ((lo : Int) + (hi : Int)).tdiv 2 = (md : Int) := by
                rw [Int.tdiv_eq_ediv_of_nonneg (by omega)]; omega
              have hdv2 : ((lo : Int) + (hi : Int)) / 2 = (md : Int) := by omega
              have hc1 := hcell.out md (by omega)
              have hlt := fun (h : gi l md < x) => gBin_lt (l := l) (x := x) (m := g) (c := c) hlh (by rw [← hmd]; exact h)
              have hge := fun (h : ¬ gi l md < x) => gBin_ge (l := l) (x := x) (m := g) (c := c) hlh (by rw [← hmd]; exact h)
              rw [← hmd] at hlt hge
              rw [hB.out] at hlt hge
              have i1 : (md : Int) < (n : Int) := by omega
              have i2 : (0 : Int) ≤ (md : Int) := by omega
              replace hmd := Lib.hid hmd
              replace hB := Lib.hid hB.out
              generalize hy : gi l md = y at *
              replace hy := Lib.hid hy
              by_cases hyx : y < x
              · replace hlt := Lib.hid (hlt hyx)
                clear hge
                go_wp2
                go_roundg g
                case measure => omega
                case rel => exact ⟨rfl, md + 1, hi, c + 1, by go_num, rfl, by go_num, Lib.hid hlt.out.symm, by omega, by omega, by omega, by omega⟩
              · replace hge := Lib.hid (hge hyx)
                clear hlt
                go_wp2
                go_roundg g
                case measure => omega
                case rel => exact ⟨rfl, lo, md, c + 1, rfl, by first | rfl | go_num, by go_num, Lib.hid hge.out.symm, by omega, by omega, by omega, by omega⟩
            · have hst := gBin_stop (l := l) (x := x) (m := gk) (c := c) hlh
              rw [hB.out] at hst
              replace hst := Lib.hid hst
              replace hB := Lib.hid hB.out
              go_wp2
              go_ret3
              exact ⟨by rw [hst.out]; rfl, hb.out⟩
        · have i1 : ¬ (0 : Int) ≤ (H : Int) - ((q : Int) + 1) + 1 := by omega
          replace hq0 := True.intro
          go_wp2
          try clear i1
          try clear i3
          go_loopg [9, 10, 11] n (fun g s9 s10 s11 wq => w1 = wq ∧ ∃ lo hi c : Nat, s9 = .int .i64 lo ∧ s10 = .int .i64 hi ∧ s11 = .int .i64 c ∧ Hid (gBin l x g lo hi c = R2) ∧ hi ≤ lo + g ∧ lo ≤ n ∧ hi ≤ n ∧ c + g ≤ 400)
          case atStart => exact ⟨rfl, lo, hi, c, rfl, rfl, rfl, Lib.hid (by rw [← hR2.out, ← hRR.out]), by omega, by omega, by omega, by omega⟩
          case round =>
            obtain ⟨rfl, lo, hi, c, rfl, rfl, rfl, hB, b1, b2, b3, b4⟩ := hrel
            by_cases hlh : lo < hi
            · obtain ⟨g, rfl⟩ : ∃ z, gk = z + 1 := ⟨gk - 1, by omega⟩
              obtain ⟨md, hmd⟩ : ∃ md, md = (lo + hi) / 2 := ⟨_, rfl⟩
              have m1 : lo ≤ md := by omega
              have m2 : md < hi := by omega
              have hdv : ((lo : Int) + (hi : Int)).tdiv 2 = (md : Int) := by
                rw [Int.tdiv_eq_ediv_of_nonneg (by omega)]; omega
              have hdv2 : ((lo : Int) + (hi : Int)) / 2 = (md : Int) := by omega
              have hc1 := hcell.out md (by omega)
              have hlt := fun (h : gi l md < x) => gBin_lt (l := l) (x := x) (m := g) (c := c) hlh (by rw [← hmd]; exact h)
              have hge := fun (h : ¬ gi l md < x) => gBin_ge (l := l) (x := x) (m := g) (c := c) hlh (by rw [← hmd]; exact h)
              rw [← hmd] at hlt hge
              rw [hB.out] at hlt hge
              have i1 : (md : Int) < (n : Int) := by omega
              have i2 : (0 : Int) ≤ (md : Int) := by omega
              replace hmd := Lib.hid hmd
              replace hB := Lib.hid hB.out
              generalize hy : gi l md = y at *
              replace hy := Lib.hid hy
              by_cases hyx : y < x
              · replace hlt := Lib.hid (hlt hyx)
                clear hge
                go_wp2
                go_roundg g
                case measure => omega
                case rel => exact ⟨rfl, md + 1, hi, c + 1, by go_num, rfl, by go_num, Lib.hid hlt.out.symm, by omega, by omega, by omega, by omega⟩
              · replace hge := Lib.hid (hge hyx)
                clear hlt
                go_wp2
                go_roundg g
                case measure => omega
                case rel => exact ⟨rfl, lo, md, c + 1, rfl, by first | rfl | go_num, by go_num, Lib.hid hge.out.symm, by omega, by omega, by omega, by omega⟩
            · have hst := gBin_stop (l := l) (x := x) (m := gk) (c := c) hlh
              rw [hB.out] at hst
              replace hst := Lib.hid hst
              replace hB := Lib.hid hB.out
              go_wp2
              go_ret3
              exact ⟨by rw [hst.out]; rfl, hb.out⟩
end Go.Proofs.Ytbfffpdcpoejnaa
