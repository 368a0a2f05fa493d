/- OrderClasses, spec: insertion into classes. -/
import Derived.Test.YtdhcpoeopooejaaOcI
import Derived.Test.YtdhcpoeopooejaaSsw
import Derived.Deep.LoopGhost
import Derived.Deep.CutRange
import Derived.Deep.CutBlock
namespace Go.Proofs.Ytdhcpoeopooejaa
open Go.RowKit
set_option linter.unusedVariables false
set_option linter.unusedSimpArgs false

theorem one_sl (b n c : Nat) : ∀ y ∈ [Value.slice (some ⟨b, 0, none⟩) n c], y.oneCell' = true := by
  intro y hy
  simp at hy
  subst hy; rfl
theorem SSW.head {w wr : World} {out : List (List Int)} {us : List Value} {b c n q : Nat} (h : SSW w out us (.slice (some ⟨b, 0, none⟩) us.length c) wr) (ok : OkO n out) (hq : q < out.length) :
    ∃ bi mi ci j, gv us q = .slice (some ⟨bi, 0, none⟩) mi ci ∧ 0 < mi ∧ mi ≤ n ∧ mi ≤ ci ∧ ci ≤ maxLen ∧ wr.cell? ⟨b, q, none⟩ = some (.slice (some ⟨bi, 0, none⟩) mi ci) ∧ wr.cell? ⟨bi, 0, none⟩ = some (.int .i64 (j : Nat)) ∧ j < n ∧ hdO out q = j ∧
      Own wr 3 w.heap.size (.slice (some ⟨bi, 0, none⟩) mi ci) (ints (gl out q)) ∧ (gl out q).length = mi := by
  obtain ⟨p1, p2⟩ := ok.pos q hq
  obtain ⟨j, p3, p4⟩ := ok.mem q hq
  have he := h.el q hq
  have hlen := h.len
  obtain ⟨ai, ci, e, _⟩ := he.sl
  have hgl : gl out q = out.getD q [] := rfl
  rw [← hgl] at p1 p2 p4
  obtain ⟨hl, hh⟩ := id he
  rcases hh with ⟨_, h2⟩ | ⟨g, cap, cur, hv, _⟩
  · simp at h2; rw [h2] at p1; simp at p1
  · rw [ints_length] at hv
    rw [hv] at he
    obtain ⟨_, hR, _⟩ := he.opened'
    obtain ⟨_, hR0, _⟩ := h.own.opened'
    have c1 := hR0.cell (i := q) (by omega)
    have c2 := hR.cellInt (i := 0) p1
    rw [Nat.zero_add] at c1 c2
    rw [← gv_eq (by omega), hv] at c1
    rw [p4] at c2
    refine ⟨g, _, cap, j, hv, p1, p2, by have := hR.le; rwa [ints_length] at this, hR.capLe, c1, c2, p3, ?_, he, rfl⟩
    unfold hdO
    rw [← hgl, p4]; simp

set_option maxRecDepth 10000 in
set_option maxHeartbeats 16000000 in
theorem spec_OrderClasses_law {v : Value} {x : List (List Bool)} {F : List Nat} {w : World} (r : RBoolSS w v x F) :
    Calls Try.prog 16 #[v] w fun e w' => ∃ r F, e = .returned (.tuple #[r, .bool (ocR x).2]) ∧ RIntSS w' r (ocR x).1 F ∧ Fr w.heap.size F ∧ Below w.heap.size w w' ∧ szIntSS (ocR x).1 ≤ 100000000000 := by
  have hlen := Lib.hid (ocR_sz x)
  have hS0 := Lib.hid (SSW.start w (Below.refl w.heap.size w))
  have hv := Lib.hid (r.rd.below ((Below.refl w.heap.size w).alloc (Nat.le_refl _) (.cells #[] 22)))
  have hrd := r.rd
  have hIS : 3 ≠ 22 := by decide
  obtain ⟨ao0, cap0, us0, rfl, qq1, qq2, _⟩ := r.rd
  unfold maxLen at qq2
  clear r
  cases h : relB x
  · have e0 : ocR x = ([], false) := by simp [ocR, h]
    rw [e0] at hlen ⊢
    clear e0
    replace h := Lib.hid h
    clear hrd
    obtain ⟨F, f1, f2, f3⟩ := hS0.out.made
    replace f1 := Lib.hid f1
    replace f2 := Lib.hid f2
    replace f3 := Lib.hid f3
    generalize x.length = n0 at *
    go_enter Try.func16, Try.ntmps16
    go_wp2_with fail
    refine (l2Relation_any _ _ _ hv.out).mono ?_
    rintro e w1 ⟨rfl, rfl⟩
    rw [h.out]
    go_wp2
    go_ret2
    exact ⟨_, F, rfl, f1.out, f2.out, f3.out, hlen.out⟩
  · have hln := relB_len h
    obtain ⟨b0, off0, cp0, he, hcp0, hcp1, _⟩ := hv.out.rel h
    simp only [Value.slice.injEq, true_and] at he
    obtain ⟨rfl, rfl⟩ := he
    unfold maxLen at hcp1
    have hoc : ∀ D, defF x = D → ocR x = if D = [] then (clF x, true) else ([], false) := by
      intro D hD
      subst hD
      unfold ocR
      simp [h]
    obtain ⟨D, hD⟩ : ∃ D, defF x = D := ⟨_, rfl⟩
    replace hoc := hoc D hD
    generalize ocR x = R at *
    have hrel := Lib.hid (hv.out.rel h)
    have hRw := Lib.hid (hrd.rel h)
    clear hrd
    replace hoc := Lib.hid hoc
    replace hD := Lib.hid hD
    replace h := Lib.hid h
    go_enter Try.func16, Try.ntmps16
    go_wp2_with fail
    refine (l2Relation_any _ _ _ hv.out).mono ?_
    rintro e w1 ⟨rfl, rfl⟩
    rw [h.out]
    clear hv
    go_wp2_with fail
    refine (l2Defect_any _ x x.length _ hrel.out hln.2 rfl).mono ?_
    rintro e w2 ⟨r1, rfl, hf⟩
    rw [hD.out] at hf
    have hbf := hf.2.2
    have hSt := Lib.hid (hS0.out.below hbf)
    obtain ⟨ad, cd, rfl, _⟩ := hf.1.openInts
    clear hbf hf hS0 hrel
    cases D with
    | cons d D =>
      have hRv := hoc.out
      rw [if_neg (by simp)] at hRv
      replace hRv := Lib.hid hRv
      clear hoc
      obtain ⟨F, f1, f2, f3⟩ := hSt.out.made
      replace f1 := Lib.hid f1
      replace f2 := Lib.hid f2
      replace f3 := Lib.hid f3
      have hpos : (0 : Int) < ((d :: D).length : Int) := by simp
      generalize (d :: D).length = LD at *
      go_wp2
      go_ret2
      rw [hRv.out] at hlen ⊢
      exact ⟨_, F, rfl, f1.out, f2.out, f3.out, hlen.out⟩
    | nil =>
      have hRv := hoc.out
      rw [if_pos rfl, show clF x = stO x x.length from rfl] at hRv
      replace hRv := Lib.hid hRv
      have hsw := Lib.hid (swo_of hD.out)
      clear hoc hD h
      have hok := Lib.hid (fun (i : Nat) (hi : i ≤ x.length) => stO_ok x hi)
      have hstp := Lib.hid (fun (i : Nat) (hi : i < x.length) => stO_step hsw.out hi)
      generalize hnn : x.length = n at *
      replace hnn := Lib.hid hnn
      have hSt' : Hid (SSW w (stO x 0) [] (.slice (some ⟨w.heap.size, 0, none⟩) 0 0) w2) := Lib.hid (by rw [stO_zero]; exact hSt.out)
      clear hSt hsw
      go_wp2
      go_loopg [4, 5] n (fun g o iv wr => ∃ (i : Nat) (us : List Value), i + g = n ∧ iv = .int .i64 (i : Nat) ∧ SSW w (stO x i) us o wr)
      case atStart => exact ⟨0, [], by omega, rfl, hSt'.out⟩
      case round =>
        clear hSt'
        obtain ⟨i, us, hi, rfl, hS⟩ := hrel
        have hR := hRw.out.below hS.bel
        by_cases hlt : i < n
        · obtain ⟨g, rfl⟩ : ∃ q, gk = q + 1 := ⟨gk - 1, by omega⟩
          obtain ⟨at_, hst⟩ := hstp.out i hlt
          have hok0 := hok.out i (by omega)
          obtain ⟨bo, co, rfl⟩ := hS.nn
          have hul := hS.len
          have hsz := hS.bel.size
          have hcoL := (hS.own.opened').2.1.le
          have hcoM := (hS.own.opened').2.1.capLe
          unfold maxLen at hcoM
          generalize hO0 : stO x i = out at *
          generalize hO1 : stO x (i + 1) = out1 at *
          replace hO0 := Lib.hid hO0
          replace hO1 := Lib.hid hO1
          replace hS := Lib.hid hS
          replace hR := Lib.hid hR
          have hN12 : us.length ≤ 12 := by have := hok0.len; have := hln.2; omega
          have hale : at_ ≤ us.length := by have := hst.le; omega
          replace hst := Lib.hid hst
          replace hok0 := Lib.hid hok0
          generalize hNN : us.length = N at *
          replace hul := Lib.hid hul
          replace hNN := Lib.hid hNN
          obtain ⟨A, hAe⟩ : ∃ A, at_ = A := ⟨_, rfl⟩
          subst hAe
          have hSN : Hid (SSW w out us (.slice (some ⟨bo, 0, none⟩) us.length co) wr) := Lib.hid (by rw [hNN.out]; exact hS.out)
          have hKle : Hid (at_ ≤ out.length) := Lib.hid hst.out.le
          go_upto_block 2 with (fail)
          go_cut [6] from 18 to 81 (fun a wq => a = .int .i64 (at_ : Nat) ∧ wr = wq)
          case first =>
            go_wp2_with fail
            go_loop [6] (fun av => ∃ A : Nat, A ≤ at_ ∧ av = .int .i64 (A : Nat)) (fun av => at_ - (intOf av).toNat)
            case atStart => exact ⟨0, Nat.zero_le _, rfl⟩
            case round =>
              obtain ⟨A, hA, rfl⟩ := hrel
              obtain ⟨_, _, _, hbe, _, _, hRR⟩ := id hR.out
              simp only [Value.slice.injEq, Option.some.injEq, Addr.mk.injEq, and_true, true_and] at hbe
              obtain ⟨⟨rfl, rfl⟩, rfl⟩ := hbe
              by_cases hAt : A < at_
              · obtain ⟨bi, mi, ci, j, _, m1, m2, m3, m4, e1, e2, j1, j2, _⟩ := hSN.out.head hok0.out (q := A) (by rw [← hul.out]; omega)
                unfold maxLen at m4
                have hls := hst.out.lt A hAt
                rw [j2] at hls
                obtain ⟨bl, ofl, cl, e3, q3, e4⟩ := hRR j j1
                have e5 := e4 i hlt
                rw [hls] at e5
                clear e4 hRR
                replace j2 := Lib.hid j2
                replace hls := Lib.hid hls
                have hAN : A < N := by omega
                go_wp2
                go_round
                case rel => exact ⟨A + 1, by omega, by go_num⟩
                case measure => simp [intOf]; omega
              · obtain rfl : A = at_ := by omega
                by_cases hAN : A < N
                · obtain ⟨bi, mi, ci, j, _, m1, m2, m3, m4, e1, e2, j1, j2, _⟩ := hSN.out.head hok0.out (q := A) (by rw [← hul.out]; omega)
                  unfold maxLen at m4
                  have hls := hst.out.stop (by rw [← hul.out]; omega)
                  rw [j2] at hls
                  obtain ⟨bl, ofl, cl, e3, q3, e4⟩ := hRR j j1
                  have e5 := e4 i hlt
                  rw [hls] at e5
                  clear e4 hRR
                  replace j2 := Lib.hid j2
                  replace hls := Lib.hid hls
                  go_wp2_with fail
                  go_meet
                  case rel => exact ⟨rfl, rfl⟩
                · have hAf : ¬ (A : Int) < (N : Int) := by omega
                  clear hRR
                  go_wp2_with fail
                  go_meet
                  case rel => exact ⟨rfl, rfl⟩
          case rest =>
            obtain ⟨rfl, rfl⟩ := hcut
            obtain ⟨T, hTe⟩ : ∃ T : Bool, T = (decide (at_ < N) && tieB x (hdO out at_) i) := ⟨_, rfl⟩
            replace hTe := Lib.hid hTe
            go_upto_region 10 with (fail)
            go_cut [58] from 18 to 81 (fun c wq => c = .bool T ∧ wr = wq)
            case first =>
              by_cases hAN : at_ < N
              · obtain ⟨bi, mi, ci, j, _, m1, m2, m3, m4, e1, e2, j1, j2, _⟩ := hSN.out.head hok0.out (q := at_) (by rw [← hul.out]; omega)
                unfold maxLen at m4
                have hTv : Hid (T = tieB x j i) := Lib.hid (by rw [hTe.out, j2]; simp [hAN])
                replace j2 := Lib.hid j2
                go_wp2_with fail
                refine (l2Tie_any _ x n j i _ hR.out j1 hlt).mono ?_
                rintro e w8 ⟨rfl, rfl⟩
                rw [← hTv.out]
                go_wp2_with fail
                go_meet
                case rel => exact ⟨rfl, rfl⟩
              · have hAf : ¬ (at_ : Int) < (N : Int) := by omega
                have hTv : T = false := by rw [hTe.out]; simp [hAN]
                subst hTv
                go_wp2_with fail
                go_meet
                case rel => exact ⟨rfl, rfl⟩
            case rest =>
              obtain ⟨rfl, rfl⟩ := hcut
              cases T
              · have hres : Hid (out1 = (out.take at_ ++ [[(i : Int)]]) ++ out.drop at_) := Lib.hid (by
                  rcases hst.out.res with ⟨h1, h2, _⟩ | ⟨_, h2⟩
                  · have h3 : at_ < N := by rw [hul.out]; exact h1
                    have := hTe.out
                    simp [h3, h2] at this
                  · exact h2)
                clear hTe
                go_upto_region 12 with (fail)
                · skip
                  have hoh := hS.out.own.opened'
                  have hRow := Lib.hid hoh.2.1
                  have hbo : bo < wr.heap.size := hoh.2.1.lt
                  have hbW : Hid (Below wr.heap.size wr wr.drew) := Lib.hid (Below.drewN (Below.refl _ _) 1)
                  have hT : Hid (∀ w', Below wr.heap.size wr w' → RdV w' (.slice (some ⟨bo, 0, none⟩) at_ co) (us.take at_)) := Lib.hid fun w' hw' => (hRow.out.below hw' hbo).rdTakeV (by rw [hNN.out]; exact hale)
                  have hL1 : Hid ((us.take at_).length ≤ 1000) := Lib.hid (by have := hNN.out; simp; omega)
                  have hL2 : Hid ((us.drop at_).length ≤ 1000) := Lib.hid (by have := hNN.out; simp; omega)
                  have hT1 : Hid (∀ y ∈ us.take at_, y.oneCell' = true) := Lib.hid fun y hy => hSN.out.one y (List.mem_of_mem_take hy)
                  have hD1 : Hid (∀ y ∈ us.drop at_, y.oneCell' = true) := Lib.hid fun y hy => hSN.out.one y (List.mem_of_mem_drop hy)
                  have hw1 : Hid (Below wr.heap.size wr (wr.drew.alloc (.cells #[] 22))) := Lib.hid (Below.alloc hbW.out (Nat.le_refl _) (.cells #[] 22))
                  have hs1 : Hid (wr.heap.size ≤ (wr.drew.alloc (.cells #[] 22)).heap.size) := Lib.hid hw1.out.size
                  have fo1 : Hid (Own (wr.drew.alloc (.cells #[] 22)) 22 wr.heap.size (.slice (some ⟨wr.heap.size, 0, none⟩) 0 0) []) := Lib.hid ((show Own _ _ (wr.heap.size) (.slice (some ⟨wr.heap.size, 0, none⟩) 0 0) [] by simpa using (Own.empty wr.drew 22)).base (by omega))
                  have hw2 : Hid (Below wr.heap.size wr ((wr.drew.alloc (.cells #[] 22)).alloc (.cells #[.int .i64 (i : Nat)] 3))) := Lib.hid (Below.alloc (Below.alloc hbW.out (Nat.le_refl _) (.cells #[] 22)) (by simp <;> omega) (.cells #[.int .i64 (i : Nat)] 3))
                  have hs2 : Hid (wr.heap.size ≤ ((wr.drew.alloc (.cells #[] 22)).alloc (.cells #[.int .i64 (i : Nat)] 3)).heap.size) := Lib.hid hw2.out.size
                  have fo2 : Hid (Own ((wr.drew.alloc (.cells #[] 22)).alloc (.cells #[.int .i64 (i : Nat)] 3)) 22 wr.heap.size (.slice (some ⟨wr.heap.size, 0, none⟩) 0 0) []) := Lib.hid (((show Own _ _ (wr.heap.size) (.slice (some ⟨wr.heap.size, 0, none⟩) 0 0) [] by simpa using (Own.empty wr.drew 22)).base (by omega)).alloc (.cells #[.int .i64 (i : Nat)] 3))
                  have hB2 : Hid (Own ((wr.drew.alloc (.cells #[] 22)).alloc (.cells #[.int .i64 (i : Nat)] 3)) 3 wr.heap.size (.slice (some ⟨wr.heap.size + 1, 0, none⟩) 1 1) [.int .i64 (i : Nat)]) := Lib.hid ((show Own _ _ wr.heap.size (.slice (some ⟨wr.heap.size + 1, 0, none⟩) 1 1) [.int .i64 (i : Nat)] by simpa using Own.one (wr.drew.alloc (.cells #[] 22)) 3 wr.heap.size (.int .i64 (i : Nat)) (by simp <;> omega)))
                  have hw3 : Hid (Below wr.heap.size wr (((wr.drew.alloc (.cells #[] 22)).alloc (.cells #[.int .i64 (i : Nat)] 3)).alloc (.cells #[.slice (some ⟨wr.heap.size + 1, 0, none⟩) 1 1] 22))) := Lib.hid (Below.alloc (Below.alloc (Below.alloc hbW.out (Nat.le_refl _) (.cells #[] 22)) (by simp <;> omega) (.cells #[.int .i64 (i : Nat)] 3)) (by simp <;> omega) (.cells #[.slice (some ⟨wr.heap.size + 1, 0, none⟩) 1 1] 22))
                  have hs3 : Hid (wr.heap.size ≤ (((wr.drew.alloc (.cells #[] 22)).alloc (.cells #[.int .i64 (i : Nat)] 3)).alloc (.cells #[.slice (some ⟨wr.heap.size + 1, 0, none⟩) 1 1] 22)).heap.size) := Lib.hid hw3.out.size
                  have fo3 : Hid (Own (((wr.drew.alloc (.cells #[] 22)).alloc (.cells #[.int .i64 (i : Nat)] 3)).alloc (.cells #[.slice (some ⟨wr.heap.size + 1, 0, none⟩) 1 1] 22)) 22 wr.heap.size (.slice (some ⟨wr.heap.size, 0, none⟩) 0 0) []) := Lib.hid ((((show Own _ _ (wr.heap.size) (.slice (some ⟨wr.heap.size, 0, none⟩) 0 0) [] by simpa using (Own.empty wr.drew 22)).base (by omega)).alloc (.cells #[.int .i64 (i : Nat)] 3)).alloc (.cells #[.slice (some ⟨wr.heap.size + 1, 0, none⟩) 1 1] 22))
                  have hB3 : Hid (Own (((wr.drew.alloc (.cells #[] 22)).alloc (.cells #[.int .i64 (i : Nat)] 3)).alloc (.cells #[.slice (some ⟨wr.heap.size + 1, 0, none⟩) 1 1] 22)) 3 wr.heap.size (.slice (some ⟨wr.heap.size + 1, 0, none⟩) 1 1) [.int .i64 (i : Nat)]) := Lib.hid (((show Own _ _ wr.heap.size (.slice (some ⟨wr.heap.size + 1, 0, none⟩) 1 1) [.int .i64 (i : Nat)] by simpa using Own.one (wr.drew.alloc (.cells #[] 22)) 3 wr.heap.size (.int .i64 (i : Nat)) (by simp <;> omega))).alloc (.cells #[.slice (some ⟨wr.heap.size + 1, 0, none⟩) 1 1] 22))
                  have hC3 : Hid (RdV (((wr.drew.alloc (.cells #[] 22)).alloc (.cells #[.int .i64 (i : Nat)] 3)).alloc (.cells #[.slice (some ⟨wr.heap.size + 1, 0, none⟩) 1 1] 22)) (.slice (some ⟨wr.heap.size + 2, 0, none⟩) 1 1) [.slice (some ⟨wr.heap.size + 1, 0, none⟩) 1 1]) := Lib.hid ((show RdV _ (.slice (some ⟨wr.heap.size + 2, 0, none⟩) 1 1) [.slice (some ⟨wr.heap.size + 1, 0, none⟩) 1 1] by simpa using RdV.new (w := ((wr.drew.alloc (.cells #[] 22)).alloc (.cells #[.int .i64 (i : Nat)] 3))) (e := 22) (y := .slice (some ⟨wr.heap.size + 1, 0, none⟩) 1 1)))
                  have hl3 : Hid (wr.heap.size + 2 < (((wr.drew.alloc (.cells #[] 22)).alloc (.cells #[.int .i64 (i : Nat)] 3)).alloc (.cells #[.slice (some ⟨wr.heap.size + 1, 0, none⟩) 1 1] 22)).heap.size) := Lib.hid (by simp; try omega)
                  have hw4 : Hid (Below wr.heap.size wr ((wr.drew.alloc (.cells #[.int .i64 (i : Nat)] 3)).alloc (.cells #[] 22))) := Lib.hid (Below.alloc (Below.alloc hbW.out (Nat.le_refl _) (.cells #[.int .i64 (i : Nat)] 3)) (by simp <;> omega) (.cells #[] 22))
                  have hs4 : Hid (wr.heap.size ≤ ((wr.drew.alloc (.cells #[.int .i64 (i : Nat)] 3)).alloc (.cells #[] 22)).heap.size) := Lib.hid hw4.out.size
                  have fo4 : Hid (Own ((wr.drew.alloc (.cells #[.int .i64 (i : Nat)] 3)).alloc (.cells #[] 22)) 22 wr.heap.size (.slice (some ⟨wr.heap.size + 1, 0, none⟩) 0 0) []) := Lib.hid ((show Own _ _ (wr.heap.size + 1) (.slice (some ⟨wr.heap.size + 1, 0, none⟩) 0 0) [] by simpa using (Own.empty (wr.drew.alloc (.cells #[.int .i64 (i : Nat)] 3)) 22)).base (by omega))
                  have hB4 : Hid (Own ((wr.drew.alloc (.cells #[.int .i64 (i : Nat)] 3)).alloc (.cells #[] 22)) 3 wr.heap.size (.slice (some ⟨wr.heap.size, 0, none⟩) 1 1) [.int .i64 (i : Nat)]) := Lib.hid (((show Own _ _ wr.heap.size (.slice (some ⟨wr.heap.size, 0, none⟩) 1 1) [.int .i64 (i : Nat)] by simpa using Own.one wr.drew 3 wr.heap.size (.int .i64 (i : Nat)) (by simp <;> omega))).alloc (.cells #[] 22))
                  have hw5 : Hid (Below wr.heap.size wr (((wr.drew.alloc (.cells #[.int .i64 (i : Nat)] 3)).alloc (.cells #[] 22)).alloc (.cells #[.slice (some ⟨wr.heap.size, 0, none⟩) 1 1] 22))) := Lib.hid (Below.alloc (Below.alloc (Below.alloc hbW.out (Nat.le_refl _) (.cells #[.int .i64 (i : Nat)] 3)) (by simp <;> omega) (.cells #[] 22)) (by simp <;> omega) (.cells #[.slice (some ⟨wr.heap.size, 0, none⟩) 1 1] 22))
                  have hs5 : Hid (wr.heap.size ≤ (((wr.drew.alloc (.cells #[.int .i64 (i : Nat)] 3)).alloc (.cells #[] 22)).alloc (.cells #[.slice (some ⟨wr.heap.size, 0, none⟩) 1 1] 22)).heap.size) := Lib.hid hw5.out.size
                  have fo5 : Hid (Own (((wr.drew.alloc (.cells #[.int .i64 (i : Nat)] 3)).alloc (.cells #[] 22)).alloc (.cells #[.slice (some ⟨wr.heap.size, 0, none⟩) 1 1] 22)) 22 wr.heap.size (.slice (some ⟨wr.heap.size + 1, 0, none⟩) 0 0) []) := Lib.hid (((show Own _ _ (wr.heap.size + 1) (.slice (some ⟨wr.heap.size + 1, 0, none⟩) 0 0) [] by simpa using (Own.empty (wr.drew.alloc (.cells #[.int .i64 (i : Nat)] 3)) 22)).base (by omega)).alloc (.cells #[.slice (some ⟨wr.heap.size, 0, none⟩) 1 1] 22))
                  have hB5 : Hid (Own (((wr.drew.alloc (.cells #[.int .i64 (i : Nat)] 3)).alloc (.cells #[] 22)).alloc (.cells #[.slice (some ⟨wr.heap.size, 0, none⟩) 1 1] 22)) 3 wr.heap.size (.slice (some ⟨wr.heap.size, 0, none⟩) 1 1) [.int .i64 (i : Nat)]) := Lib.hid ((((show Own _ _ wr.heap.size (.slice (some ⟨wr.heap.size, 0, none⟩) 1 1) [.int .i64 (i : Nat)] by simpa using Own.one wr.drew 3 wr.heap.size (.int .i64 (i : Nat)) (by simp <;> omega))).alloc (.cells #[] 22)).alloc (.cells #[.slice (some ⟨wr.heap.size, 0, none⟩) 1 1] 22))
                  have hC5 : Hid (RdV (((wr.drew.alloc (.cells #[.int .i64 (i : Nat)] 3)).alloc (.cells #[] 22)).alloc (.cells #[.slice (some ⟨wr.heap.size, 0, none⟩) 1 1] 22)) (.slice (some ⟨wr.heap.size + 2, 0, none⟩) 1 1) [.slice (some ⟨wr.heap.size, 0, none⟩) 1 1]) := Lib.hid ((show RdV _ (.slice (some ⟨wr.heap.size + 2, 0, none⟩) 1 1) [.slice (some ⟨wr.heap.size, 0, none⟩) 1 1] by simpa using RdV.new (w := ((wr.drew.alloc (.cells #[.int .i64 (i : Nat)] 3)).alloc (.cells #[] 22))) (e := 22) (y := .slice (some ⟨wr.heap.size, 0, none⟩) 1 1)))
                  have hl5 : Hid (wr.heap.size + 2 < (((wr.drew.alloc (.cells #[.int .i64 (i : Nat)] 3)).alloc (.cells #[] 22)).alloc (.cells #[.slice (some ⟨wr.heap.size, 0, none⟩) 1 1] 22)).heap.size) := Lib.hid (by simp; try omega)
                  have hw6 : Hid (Below wr.heap.size wr (((wr.drew.alloc (.cells #[.int .i64 (i : Nat)] 3)).alloc (.cells #[.slice (some ⟨wr.heap.size, 0, none⟩) 1 1] 22)).alloc (.cells #[] 22))) := Lib.hid (Below.alloc (Below.alloc (Below.alloc hbW.out (Nat.le_refl _) (.cells #[.int .i64 (i : Nat)] 3)) (by simp <;> omega) (.cells #[.slice (some ⟨wr.heap.size, 0, none⟩) 1 1] 22)) (by simp <;> omega) (.cells #[] 22))
                  have hs6 : Hid (wr.heap.size ≤ (((wr.drew.alloc (.cells #[.int .i64 (i : Nat)] 3)).alloc (.cells #[.slice (some ⟨wr.heap.size, 0, none⟩) 1 1] 22)).alloc (.cells #[] 22)).heap.size) := Lib.hid hw6.out.size
                  have fo6 : Hid (Own (((wr.drew.alloc (.cells #[.int .i64 (i : Nat)] 3)).alloc (.cells #[.slice (some ⟨wr.heap.size, 0, none⟩) 1 1] 22)).alloc (.cells #[] 22)) 22 wr.heap.size (.slice (some ⟨wr.heap.size + 2, 0, none⟩) 0 0) []) := Lib.hid ((show Own _ _ (wr.heap.size + 2) (.slice (some ⟨wr.heap.size + 2, 0, none⟩) 0 0) [] by simpa using (Own.empty ((wr.drew.alloc (.cells #[.int .i64 (i : Nat)] 3)).alloc (.cells #[.slice (some ⟨wr.heap.size, 0, none⟩) 1 1] 22)) 22)).base (by omega))
                  have hB6 : Hid (Own (((wr.drew.alloc (.cells #[.int .i64 (i : Nat)] 3)).alloc (.cells #[.slice (some ⟨wr.heap.size, 0, none⟩) 1 1] 22)).alloc (.cells #[] 22)) 3 wr.heap.size (.slice (some ⟨wr.heap.size, 0, none⟩) 1 1) [.int .i64 (i : Nat)]) := Lib.hid ((((show Own _ _ wr.heap.size (.slice (some ⟨wr.heap.size, 0, none⟩) 1 1) [.int .i64 (i : Nat)] by simpa using Own.one wr.drew 3 wr.heap.size (.int .i64 (i : Nat)) (by simp <;> omega))).alloc (.cells #[.slice (some ⟨wr.heap.size, 0, none⟩) 1 1] 22)).alloc (.cells #[] 22))
                  have hC6 : Hid (RdV (((wr.drew.alloc (.cells #[.int .i64 (i : Nat)] 3)).alloc (.cells #[.slice (some ⟨wr.heap.size, 0, none⟩) 1 1] 22)).alloc (.cells #[] 22)) (.slice (some ⟨wr.heap.size + 1, 0, none⟩) 1 1) [.slice (some ⟨wr.heap.size, 0, none⟩) 1 1]) := Lib.hid (RdV.kept ((show RdV _ (.slice (some ⟨wr.heap.size + 1, 0, none⟩) 1 1) [.slice (some ⟨wr.heap.size, 0, none⟩) 1 1] by simpa using RdV.new (w := (wr.drew.alloc (.cells #[.int .i64 (i : Nat)] 3))) (e := 22) (y := .slice (some ⟨wr.heap.size, 0, none⟩) 1 1))) (Below.heap_alloc _ (.cells #[] 22) _ (by simp)))
                  have hl6 : Hid (wr.heap.size + 1 < (((wr.drew.alloc (.cells #[.int .i64 (i : Nat)] 3)).alloc (.cells #[.slice (some ⟨wr.heap.size, 0, none⟩) 1 1] 22)).alloc (.cells #[] 22)).heap.size) := Lib.hid (by simp; try omega)
                  have hq1 : (at_ : Int) ≤ (N : Int) := by omega
                  have hq2 : (at_ : Int) ≤ (co : Int) := by omega
                  have hq3 : at_ ≤ co := by omega
                  have hq4 : (0 : Int) ≤ (at_ : Int) := by omega
                  clear hoh
                  by_cases hck : co = at_
                  · have hD : Hid (∀ w', Below wr.heap.size wr w' → RdV w' (.slice (some ⟨bo, 0, none⟩) 0 0) (us.drop at_)) := Lib.hid fun w' hw' => by
                      rw [List.drop_eq_nil_of_le (by have := hNN.out; omega)]; exact RdV.noneV
                    have hNa : at_ = N := by omega
                    have hck' : at_ = co := hck.symm
                    clear hck
                    subst hck'
                    subst hNa
                    go_wp2
                    go_region_law (first
                      | (refine step_append_all eltIntS rfl (.tmp 69) (.tmp 72) rfl wr.heap.size (.slice (some ⟨wr.heap.size, 0, none⟩) 0 0) [] (by simp [Act.eval, Act.put]) fo1.out (.slice (some ⟨bo, 0, none⟩) at_ at_) (us.take at_) (by simp [Act.eval, Act.put]; try omega) (hT.out _ hw1.out) hT1.out (by have := hL1.out; simp only [List.length_nil]; omega) hs1.out ?_; intro v3 w4 ho3 hg3; have hb4 := Lib.hid (Below.appended hw1.out fo1.out hg3 hs1.out); clear hg3; replace ho3 := Lib.hid ho3)
                      | (refine step_append_all eltIntS rfl (.tmp 69) (.tmp 72) rfl wr.heap.size (.slice (some ⟨wr.heap.size, 0, none⟩) 0 0) [] (by simp [Act.eval, Act.put]) fo2.out (.slice (some ⟨bo, 0, none⟩) at_ at_) (us.take at_) (by simp [Act.eval, Act.put]; try omega) (hT.out _ hw2.out) hT1.out (by have := hL1.out; simp only [List.length_nil]; omega) hs2.out ?_; intro v3 w4 ho3 hg3; have hB4 := Lib.hid (hB2.out.keptOf fo2.out hIS hg3); have hb4 := Lib.hid (Below.appended hw2.out fo2.out hg3 hs2.out); clear hg3; replace ho3 := Lib.hid ho3)
                      | (refine step_append_all eltIntS rfl (.tmp 69) (.tmp 72) rfl wr.heap.size (.slice (some ⟨wr.heap.size, 0, none⟩) 0 0) [] (by simp [Act.eval, Act.put]) fo3.out (.slice (some ⟨bo, 0, none⟩) at_ at_) (us.take at_) (by simp [Act.eval, Act.put]; try omega) (hT.out _ hw3.out) hT1.out (by have := hL1.out; simp only [List.length_nil]; omega) hs3.out ?_; intro v3 w4 ho3 hg3; have hB4 := Lib.hid (hB3.out.keptOf fo3.out hIS hg3); have hC4 := Lib.hid (grownBy.rdNew hg3 (b := wr.heap.size + 2) hl3.out (by simp [Value.ownBlock]; try omega) hC3.out); have hb4 := Lib.hid (Below.appended hw3.out fo3.out hg3 hs3.out); clear hg3; replace ho3 := Lib.hid ho3)
                      | (refine step_append_all eltIntS rfl (.tmp 69) (.tmp 72) rfl wr.heap.size (.slice (some ⟨wr.heap.size + 1, 0, none⟩) 0 0) [] (by simp [Act.eval, Act.put]) fo4.out (.slice (some ⟨bo, 0, none⟩) at_ at_) (us.take at_) (by simp [Act.eval, Act.put]; try omega) (hT.out _ hw4.out) hT1.out (by have := hL1.out; simp only [List.length_nil]; omega) hs4.out ?_; intro v3 w4 ho3 hg3; have hB4 := Lib.hid (hB4.out.keptOf fo4.out hIS hg3); have hb4 := Lib.hid (Below.appended hw4.out fo4.out hg3 hs4.out); clear hg3; replace ho3 := Lib.hid ho3)
                      | (refine step_append_all eltIntS rfl (.tmp 69) (.tmp 72) rfl wr.heap.size (.slice (some ⟨wr.heap.size + 1, 0, none⟩) 0 0) [] (by simp [Act.eval, Act.put]) fo5.out (.slice (some ⟨bo, 0, none⟩) at_ at_) (us.take at_) (by simp [Act.eval, Act.put]; try omega) (hT.out _ hw5.out) hT1.out (by have := hL1.out; simp only [List.length_nil]; omega) hs5.out ?_; intro v3 w4 ho3 hg3; have hB4 := Lib.hid (hB5.out.keptOf fo5.out hIS hg3); have hC4 := Lib.hid (grownBy.rdNew hg3 (b := wr.heap.size + 2) hl5.out (by simp [Value.ownBlock]; try omega) hC5.out); have hb4 := Lib.hid (Below.appended hw5.out fo5.out hg3 hs5.out); clear hg3; replace ho3 := Lib.hid ho3)
                      | (refine step_append_all eltIntS rfl (.tmp 69) (.tmp 72) rfl wr.heap.size (.slice (some ⟨wr.heap.size + 2, 0, none⟩) 0 0) [] (by simp [Act.eval, Act.put]) fo6.out (.slice (some ⟨bo, 0, none⟩) at_ at_) (us.take at_) (by simp [Act.eval, Act.put]; try omega) (hT.out _ hw6.out) hT1.out (by have := hL1.out; simp only [List.length_nil]; omega) hs6.out ?_; intro v3 w4 ho3 hg3; have hB4 := Lib.hid (hB6.out.keptOf fo6.out hIS hg3); have hC4 := Lib.hid (grownBy.rdNew hg3 (b := wr.heap.size + 1) hl6.out (by simp [Value.ownBlock]; try omega) hC6.out); have hb4 := Lib.hid (Below.appended hw6.out fo6.out hg3 hs6.out); clear hg3; replace ho3 := Lib.hid ho3)
                      | (refine step_append_all eltIntS rfl (.tmp 73) (.tmp 76) rfl wr.heap.size v3 _ (by simp [Act.eval, Act.put]) ((ho3.out.alloc (.cells #[.int .i64 (i : Nat)] 3)).alloc (.cells #[.slice (some ⟨w4.heap.size, 0, none⟩) 1 1] 22)) (.slice (some ⟨w4.heap.size + 1, 0, none⟩) 1 1) [.slice (some ⟨w4.heap.size, 0, none⟩) 1 1] (by simp [Act.eval, Act.put]) (by simpa using RdV.new (w := w4.alloc (.cells #[.int .i64 (i : Nat)] 3)) (e := 22) (y := .slice (some ⟨w4.heap.size, 0, none⟩) 1 1)) (one_sl _ _ _) (by have := hL1.out; simp only [List.nil_append, List.length_singleton]; omega) (by have := hb4.out.size; simp; omega) ?_; intro v4 w5 ho4 hg4; have hB5 := Lib.hid (Own.keptOf ((Own.one w4 3 wr.heap.size (.int .i64 (i : Nat)) hb4.out.size).alloc (.cells #[.slice (some ⟨w4.heap.size, 0, none⟩) 1 1] 22)) ((ho3.out.alloc (.cells #[.int .i64 (i : Nat)] 3)).alloc (.cells #[.slice (some ⟨w4.heap.size, 0, none⟩) 1 1] 22)) hIS hg4); have hb5 := Lib.hid (Below.appended (Below.alloc (Below.alloc hb4.out hb4.out.size (.cells #[.int .i64 (i : Nat)] 3)) (by have := hb4.out.size; simp; omega) (.cells #[.slice (some ⟨w4.heap.size, 0, none⟩) 1 1] 22)) ((ho3.out.alloc (.cells #[.int .i64 (i : Nat)] 3)).alloc (.cells #[.slice (some ⟨w4.heap.size, 0, none⟩) 1 1] 22)) hg4 (by have := hb4.out.size; simp; omega)); clear hg4; replace ho4 := Lib.hid ho4)
                      | (refine step_append_all eltIntS rfl (.tmp 73) (.tmp 76) rfl wr.heap.size v3 _ (by simp [Act.eval, Act.put]) (ho3.out.alloc (.cells #[.slice (some ⟨wr.heap.size + 1, 0, none⟩) 1 1] 22)) (.slice (some ⟨w4.heap.size, 0, none⟩) 1 1) [.slice (some ⟨wr.heap.size + 1, 0, none⟩) 1 1] (by simp [Act.eval, Act.put]) RdV.new (one_sl _ _ _) (by have := hL1.out; simp only [List.nil_append, List.length_singleton]; omega) (by have := hb4.out.size; simp; omega) ?_; intro v4 w5 ho4 hg4; have hB5 := Lib.hid (Own.keptOf (hB4.out.alloc (.cells #[.slice (some ⟨wr.heap.size + 1, 0, none⟩) 1 1] 22)) (ho3.out.alloc (.cells #[.slice (some ⟨wr.heap.size + 1, 0, none⟩) 1 1] 22)) hIS hg4); have hb5 := Lib.hid (Below.appended (Below.alloc hb4.out hb4.out.size (.cells #[.slice (some ⟨wr.heap.size + 1, 0, none⟩) 1 1] 22)) (ho3.out.alloc (.cells #[.slice (some ⟨wr.heap.size + 1, 0, none⟩) 1 1] 22)) hg4 (by have := hb4.out.size; simp; omega)); clear hg4; replace ho4 := Lib.hid ho4)
                      | (refine step_append_all eltIntS rfl (.tmp 73) (.tmp 76) rfl wr.heap.size v3 _ (by simp [Act.eval, Act.put]) ho3.out (.slice (some ⟨wr.heap.size + 2, 0, none⟩) 1 1) [.slice (some ⟨wr.heap.size + 1, 0, none⟩) 1 1] (by simp [Act.eval, Act.put]) hC4.out (one_sl _ _ _) (by have := hL1.out; simp only [List.nil_append, List.length_singleton]; omega) hb4.out.size ?_; intro v4 w5 ho4 hg4; have hB5 := Lib.hid (Own.keptOf hB4.out ho3.out hIS hg4); have hb5 := Lib.hid (Below.appended hb4.out ho3.out hg4 hb4.out.size); clear hg4; replace ho4 := Lib.hid ho4)
                      | (refine step_append_all eltIntS rfl (.tmp 73) (.tmp 76) rfl wr.heap.size v3 _ (by simp [Act.eval, Act.put]) (ho3.out.alloc (.cells #[.slice (some ⟨wr.heap.size, 0, none⟩) 1 1] 22)) (.slice (some ⟨w4.heap.size, 0, none⟩) 1 1) [.slice (some ⟨wr.heap.size, 0, none⟩) 1 1] (by simp [Act.eval, Act.put]) RdV.new (one_sl _ _ _) (by have := hL1.out; simp only [List.nil_append, List.length_singleton]; omega) (by have := hb4.out.size; simp; omega) ?_; intro v4 w5 ho4 hg4; have hB5 := Lib.hid (Own.keptOf (hB4.out.alloc (.cells #[.slice (some ⟨wr.heap.size, 0, none⟩) 1 1] 22)) (ho3.out.alloc (.cells #[.slice (some ⟨wr.heap.size, 0, none⟩) 1 1] 22)) hIS hg4); have hb5 := Lib.hid (Below.appended (Below.alloc hb4.out hb4.out.size (.cells #[.slice (some ⟨wr.heap.size, 0, none⟩) 1 1] 22)) (ho3.out.alloc (.cells #[.slice (some ⟨wr.heap.size, 0, none⟩) 1 1] 22)) hg4 (by have := hb4.out.size; simp; omega)); clear hg4; replace ho4 := Lib.hid ho4)
                      | (refine step_append_all eltIntS rfl (.tmp 73) (.tmp 76) rfl wr.heap.size v3 _ (by simp [Act.eval, Act.put]) ho3.out (.slice (some ⟨wr.heap.size + 2, 0, none⟩) 1 1) [.slice (some ⟨wr.heap.size, 0, none⟩) 1 1] (by simp [Act.eval, Act.put]) hC4.out (one_sl _ _ _) (by have := hL1.out; simp only [List.nil_append, List.length_singleton]; omega) hb4.out.size ?_; intro v4 w5 ho4 hg4; have hB5 := Lib.hid (Own.keptOf hB4.out ho3.out hIS hg4); have hb5 := Lib.hid (Below.appended hb4.out ho3.out hg4 hb4.out.size); clear hg4; replace ho4 := Lib.hid ho4)
                      | (refine step_append_all eltIntS rfl (.tmp 73) (.tmp 76) rfl wr.heap.size v3 _ (by simp [Act.eval, Act.put]) ho3.out (.slice (some ⟨wr.heap.size + 1, 0, none⟩) 1 1) [.slice (some ⟨wr.heap.size, 0, none⟩) 1 1] (by simp [Act.eval, Act.put]) hC4.out (one_sl _ _ _) (by have := hL1.out; simp only [List.nil_append, List.length_singleton]; omega) hb4.out.size ?_; intro v4 w5 ho4 hg4; have hB5 := Lib.hid (Own.keptOf hB4.out ho3.out hIS hg4); have hb5 := Lib.hid (Below.appended hb4.out ho3.out hg4 hb4.out.size); clear hg4; replace ho4 := Lib.hid ho4)
                      | (refine step_append_all eltIntS rfl (.tmp 77) (.tmp 80) rfl wr.heap.size v4 _ (by simp [Act.eval, Act.put]) ho4.out (.slice (some ⟨bo, 0, none⟩) 0 0) (us.drop at_) (by simp [Act.eval, Act.put]; try omega) (hD.out _ hb5.out) hD1.out (by have := hL1.out; have := hL2.out; simp only [List.nil_append, List.length_append, List.length_singleton]; omega) hb5.out.size ?_; intro v5 w6 ho5 hg5; have hb6 := Lib.hid (Below.appended hb5.out ho4.out hg5 hb5.out.size); have hB6 := Lib.hid (hB5.out.keptOf ho4.out hIS hg5); have hfin := Lib.hid (SSW.ins hS.out hKle.out hb6.out (L := [(i : Int)]) hB6.out (by rwa [List.nil_append] at ho5)); clear hg5 ho5 hB6))
                    all_goals
                      clear ho4 hb5 hB5
                      go_wp2
                      go_roundg g
                      case measure => omega
                      case rel => exact ⟨i + 1, _, by omega, by go_num, by rw [hO1.out, hres.out]; exact hfin.out⟩
                  · have hD : Hid (∀ w', Below wr.heap.size wr w' → RdV w' (.slice (some ⟨bo, at_, none⟩) (N - at_) (co - at_)) (us.drop at_)) := Lib.hid fun w' hw' => by
                      have := (hRow.out.below hw' hbo).rdDropV (lo := at_) (n := N - at_) (by rw [hNN.out]; exact hale) (by rw [hNN.out])
                      simpa using this
                    have hck2 : ¬ at_ = co := fun h => hck h.symm
                    go_wp2
                    go_region_law (first
                      | (refine step_append_all eltIntS rfl (.tmp 69) (.tmp 72) rfl wr.heap.size (.slice (some ⟨wr.heap.size, 0, none⟩) 0 0) [] (by simp [Act.eval, Act.put]) fo1.out (.slice (some ⟨bo, 0, none⟩) at_ co) (us.take at_) (by simp [Act.eval, Act.put]; try omega) (hT.out _ hw1.out) hT1.out (by have := hL1.out; simp only [List.length_nil]; omega) hs1.out ?_; intro v3 w4 ho3 hg3; have hb4 := Lib.hid (Below.appended hw1.out fo1.out hg3 hs1.out); clear hg3; replace ho3 := Lib.hid ho3)
                      | (refine step_append_all eltIntS rfl (.tmp 69) (.tmp 72) rfl wr.heap.size (.slice (some ⟨wr.heap.size, 0, none⟩) 0 0) [] (by simp [Act.eval, Act.put]) fo2.out (.slice (some ⟨bo, 0, none⟩) at_ co) (us.take at_) (by simp [Act.eval, Act.put]; try omega) (hT.out _ hw2.out) hT1.out (by have := hL1.out; simp only [List.length_nil]; omega) hs2.out ?_; intro v3 w4 ho3 hg3; have hB4 := Lib.hid (hB2.out.keptOf fo2.out hIS hg3); have hb4 := Lib.hid (Below.appended hw2.out fo2.out hg3 hs2.out); clear hg3; replace ho3 := Lib.hid ho3)
                      | (refine step_append_all eltIntS rfl (.tmp 69) (.tmp 72) rfl wr.heap.size (.slice (some ⟨wr.heap.size, 0, none⟩) 0 0) [] (by simp [Act.eval, Act.put]) fo3.out (.slice (some ⟨bo, 0, none⟩) at_ co) (us.take at_) (by simp [Act.eval, Act.put]; try omega) (hT.out _ hw3.out) hT1.out (by have := hL1.out; simp only [List.length_nil]; omega) hs3.out ?_; intro v3 w4 ho3 hg3; have hB4 := Lib.hid (hB3.out.keptOf fo3.out hIS hg3); have hC4 := Lib.hid (grownBy.rdNew hg3 (b := wr.heap.size + 2) hl3.out (by simp [Value.ownBlock]; try omega) hC3.out); have hb4 := Lib.hid (Below.appended hw3.out fo3.out hg3 hs3.out); clear hg3; replace ho3 := Lib.hid ho3)
                      | (refine step_append_all eltIntS rfl (.tmp 69) (.tmp 72) rfl wr.heap.size (.slice (some ⟨wr.heap.size + 1, 0, none⟩) 0 0) [] (by simp [Act.eval, Act.put]) fo4.out (.slice (some ⟨bo, 0, none⟩) at_ co) (us.take at_) (by simp [Act.eval, Act.put]; try omega) (hT.out _ hw4.out) hT1.out (by have := hL1.out; simp only [List.length_nil]; omega) hs4.out ?_; intro v3 w4 ho3 hg3; have hB4 := Lib.hid (hB4.out.keptOf fo4.out hIS hg3); have hb4 := Lib.hid (Below.appended hw4.out fo4.out hg3 hs4.out); clear hg3; replace ho3 := Lib.hid ho3)
                      | (refine step_append_all eltIntS rfl (.tmp 69) (.tmp 72) rfl wr.heap.size (.slice (some ⟨wr.heap.size + 1, 0, none⟩) 0 0) [] (by simp [Act.eval, Act.put]) fo5.out (.slice (some ⟨bo, 0, none⟩) at_ co) (us.take at_) (by simp [Act.eval, Act.put]; try omega) (hT.out _ hw5.out) hT1.out (by have := hL1.out; simp only [List.length_nil]; omega) hs5.out ?_; intro v3 w4 ho3 hg3; have hB4 := Lib.hid (hB5.out.keptOf fo5.out hIS hg3); have hC4 := Lib.hid (grownBy.rdNew hg3 (b := wr.heap.size + 2) hl5.out (by simp [Value.ownBlock]; try omega) hC5.out); have hb4 := Lib.hid (Below.appended hw5.out fo5.out hg3 hs5.out); clear hg3; replace ho3 := Lib.hid ho3)
                      | (refine step_append_all eltIntS rfl (.tmp 69) (.tmp 72) rfl wr.heap.size (.slice (some ⟨wr.heap.size + 2, 0, none⟩) 0 0) [] (by simp [Act.eval, Act.put]) fo6.out (.slice (some ⟨bo, 0, none⟩) at_ co) (us.take at_) (by simp [Act.eval, Act.put]; try omega) (hT.out _ hw6.out) hT1.out (by have := hL1.out; simp only [List.length_nil]; omega) hs6.out ?_; intro v3 w4 ho3 hg3; have hB4 := Lib.hid (hB6.out.keptOf fo6.out hIS hg3); have hC4 := Lib.hid (grownBy.rdNew hg3 (b := wr.heap.size + 1) hl6.out (by simp [Value.ownBlock]; try omega) hC6.out); have hb4 := Lib.hid (Below.appended hw6.out fo6.out hg3 hs6.out); clear hg3; replace ho3 := Lib.hid ho3)
                      | (refine step_append_all eltIntS rfl (.tmp 73) (.tmp 76) rfl wr.heap.size v3 _ (by simp [Act.eval, Act.put]) ((ho3.out.alloc (.cells #[.int .i64 (i : Nat)] 3)).alloc (.cells #[.slice (some ⟨w4.heap.size, 0, none⟩) 1 1] 22)) (.slice (some ⟨w4.heap.size + 1, 0, none⟩) 1 1) [.slice (some ⟨w4.heap.size, 0, none⟩) 1 1] (by simp [Act.eval, Act.put]) (by simpa using RdV.new (w := w4.alloc (.cells #[.int .i64 (i : Nat)] 3)) (e := 22) (y := .slice (some ⟨w4.heap.size, 0, none⟩) 1 1)) (one_sl _ _ _) (by have := hL1.out; simp only [List.nil_append, List.length_singleton]; omega) (by have := hb4.out.size; simp; omega) ?_; intro v4 w5 ho4 hg4; have hB5 := Lib.hid (Own.keptOf ((Own.one w4 3 wr.heap.size (.int .i64 (i : Nat)) hb4.out.size).alloc (.cells #[.slice (some ⟨w4.heap.size, 0, none⟩) 1 1] 22)) ((ho3.out.alloc (.cells #[.int .i64 (i : Nat)] 3)).alloc (.cells #[.slice (some ⟨w4.heap.size, 0, none⟩) 1 1] 22)) hIS hg4); have hb5 := Lib.hid (Below.appended (Below.alloc (Below.alloc hb4.out hb4.out.size (.cells #[.int .i64 (i : Nat)] 3)) (by have := hb4.out.size; simp; omega) (.cells #[.slice (some ⟨w4.heap.size, 0, none⟩) 1 1] 22)) ((ho3.out.alloc (.cells #[.int .i64 (i : Nat)] 3)).alloc (.cells #[.slice (some ⟨w4.heap.size, 0, none⟩) 1 1] 22)) hg4 (by have := hb4.out.size; simp; omega)); clear hg4; replace ho4 := Lib.hid ho4)
                      | (refine step_append_all eltIntS rfl (.tmp 73) (.tmp 76) rfl wr.heap.size v3 _ (by simp [Act.eval, Act.put]) (ho3.out.alloc (.cells #[.slice (some ⟨wr.heap.size + 1, 0, none⟩) 1 1] 22)) (.slice (some ⟨w4.heap.size, 0, none⟩) 1 1) [.slice (some ⟨wr.heap.size + 1, 0, none⟩) 1 1] (by simp [Act.eval, Act.put]) RdV.new (one_sl _ _ _) (by have := hL1.out; simp only [List.nil_append, List.length_singleton]; omega) (by have := hb4.out.size; simp; omega) ?_; intro v4 w5 ho4 hg4; have hB5 := Lib.hid (Own.keptOf (hB4.out.alloc (.cells #[.slice (some ⟨wr.heap.size + 1, 0, none⟩) 1 1] 22)) (ho3.out.alloc (.cells #[.slice (some ⟨wr.heap.size + 1, 0, none⟩) 1 1] 22)) hIS hg4); have hb5 := Lib.hid (Below.appended (Below.alloc hb4.out hb4.out.size (.cells #[.slice (some ⟨wr.heap.size + 1, 0, none⟩) 1 1] 22)) (ho3.out.alloc (.cells #[.slice (some ⟨wr.heap.size + 1, 0, none⟩) 1 1] 22)) hg4 (by have := hb4.out.size; simp; omega)); clear hg4; replace ho4 := Lib.hid ho4)
                      | (refine step_append_all eltIntS rfl (.tmp 73) (.tmp 76) rfl wr.heap.size v3 _ (by simp [Act.eval, Act.put]) ho3.out (.slice (some ⟨wr.heap.size + 2, 0, none⟩) 1 1) [.slice (some ⟨wr.heap.size + 1, 0, none⟩) 1 1] (by simp [Act.eval, Act.put]) hC4.out (one_sl _ _ _) (by have := hL1.out; simp only [List.nil_append, List.length_singleton]; omega) hb4.out.size ?_; intro v4 w5 ho4 hg4; have hB5 := Lib.hid (Own.keptOf hB4.out ho3.out hIS hg4); have hb5 := Lib.hid (Below.appended hb4.out ho3.out hg4 hb4.out.size); clear hg4; replace ho4 := Lib.hid ho4)
                      | (refine step_append_all eltIntS rfl (.tmp 73) (.tmp 76) rfl wr.heap.size v3 _ (by simp [Act.eval, Act.put]) (ho3.out.alloc (.cells #[.slice (some ⟨wr.heap.size, 0, none⟩) 1 1] 22)) (.slice (some ⟨w4.heap.size, 0, none⟩) 1 1) [.slice (some ⟨wr.heap.size, 0, none⟩) 1 1] (by simp [Act.eval, Act.put]) RdV.new (one_sl _ _ _) (by have := hL1.out; simp only [List.nil_append, List.length_singleton]; omega) (by have := hb4.out.size; simp; omega) ?_; intro v4 w5 ho4 hg4; have hB5 := Lib.hid (Own.keptOf (hB4.out.alloc (.cells #[.slice (some ⟨wr.heap.size, 0, none⟩) 1 1] 22)) (ho3.out.alloc (.cells #[.slice (some ⟨wr.heap.size, 0, none⟩) 1 1] 22)) hIS hg4); have hb5 := Lib.hid (Below.appended (Below.alloc hb4.out hb4.out.size (.cells #[.slice (some ⟨wr.heap.size, 0, none⟩) 1 1] 22)) (ho3.out.alloc (.cells #[.slice (some ⟨wr.heap.size, 0, none⟩) 1 1] 22)) hg4 (by have := hb4.out.size; simp; omega)); clear hg4; replace ho4 := Lib.hid ho4)
                      | (refine step_append_all eltIntS rfl (.tmp 73) (.tmp 76) rfl wr.heap.size v3 _ (by simp [Act.eval, Act.put]) ho3.out (.slice (some ⟨wr.heap.size + 2, 0, none⟩) 1 1) [.slice (some ⟨wr.heap.size, 0, none⟩) 1 1] (by simp [Act.eval, Act.put]) hC4.out (one_sl _ _ _) (by have := hL1.out; simp only [List.nil_append, List.length_singleton]; omega) hb4.out.size ?_; intro v4 w5 ho4 hg4; have hB5 := Lib.hid (Own.keptOf hB4.out ho3.out hIS hg4); have hb5 := Lib.hid (Below.appended hb4.out ho3.out hg4 hb4.out.size); clear hg4; replace ho4 := Lib.hid ho4)
                      | (refine step_append_all eltIntS rfl (.tmp 73) (.tmp 76) rfl wr.heap.size v3 _ (by simp [Act.eval, Act.put]) ho3.out (.slice (some ⟨wr.heap.size + 1, 0, none⟩) 1 1) [.slice (some ⟨wr.heap.size, 0, none⟩) 1 1] (by simp [Act.eval, Act.put]) hC4.out (one_sl _ _ _) (by have := hL1.out; simp only [List.nil_append, List.length_singleton]; omega) hb4.out.size ?_; intro v4 w5 ho4 hg4; have hB5 := Lib.hid (Own.keptOf hB4.out ho3.out hIS hg4); have hb5 := Lib.hid (Below.appended hb4.out ho3.out hg4 hb4.out.size); clear hg4; replace ho4 := Lib.hid ho4)
                      | (refine step_append_all eltIntS rfl (.tmp 77) (.tmp 80) rfl wr.heap.size v4 _ (by simp [Act.eval, Act.put]) ho4.out (.slice (some ⟨bo, at_, none⟩) (N - at_) (co - at_)) (us.drop at_) (by simp [Act.eval, Act.put]; try omega) (hD.out _ hb5.out) hD1.out (by have := hL1.out; have := hL2.out; simp only [List.nil_append, List.length_append, List.length_singleton]; omega) hb5.out.size ?_; intro v5 w6 ho5 hg5; have hb6 := Lib.hid (Below.appended hb5.out ho4.out hg5 hb5.out.size); have hB6 := Lib.hid (hB5.out.keptOf ho4.out hIS hg5); have hfin := Lib.hid (SSW.ins hS.out hKle.out hb6.out (L := [(i : Int)]) hB6.out (by rwa [List.nil_append] at ho5)); clear hg5 ho5 hB6))
                    all_goals
                      clear ho4 hb5 hB5
                      go_wp2
                      go_roundg g
                      case measure => omega
                      case rel => exact ⟨i + 1, _, by omega, by go_num, by rw [hO1.out, hres.out]; exact hfin.out⟩
              · have hTv := hTe.out
                have hAN : at_ < N := by
                  by_cases h : at_ < N
                  · exact h
                  · simp [h] at hTv
                have hres : Hid (out1 = out.set at_ (gl out at_ ++ [(i : Int)])) := Lib.hid (by
                  rcases hst.out.res with ⟨_, _, h3⟩ | ⟨h1, _⟩
                  · exact h3
                  · have := h1 (by rw [← hul.out]; exact hAN)
                    simp [this] at hTv)
                clear hTv
                obtain ⟨bi, mi, ci, j, hgv, m1, m2, m3, m4, e1, e2, j1, j2, hEl, hgl⟩ := hSN.out.head hok0.out (q := at_) (by rw [← hul.out]; omega)
                unfold maxLen at m4
                have hl2 : (ints (gl out at_)).length ≤ 1000000000 := by rw [ints_length]; omega
                have hoh := hSN.out.own
                replace hEl := Lib.hid hEl
                replace j2 := Lib.hid j2
                replace hgv := Lib.hid hgv
                replace hgl := Lib.hid hgl
                clear e2 j2 hTe
                go_wp2_with (at_builtin; refine append_one_at eltInt rfl _ _ rfl w.heap.size _ _ rfl hEl.out rfl rfl hl2 hsz ?_)
                intro v' w3 ho hg hat
                obtain ⟨av9, cv9, rfl, _⟩ := ho.sl
                have ho2 := (hoh.keptOf hEl.out (by decide) hg).opened'
                have hc9 := ho2.2.1.cell (i := at_) (by rw [hNN.out]; exact hAN)
                have hf9 := ho2.2.1.frozen at_
                rw [Nat.zero_add] at hc9
                have hfin := Lib.hid (SSW.grow hSN.out (k := at_) (L := gl out at_ ++ [(i : Int)]) (by rw [← hul.out]; exact hAN) (by simpa [ints] using ho) (by rw [hgv.out]; exact hg) (by rw [hgv.out]; simpa [ints] using hat))
                clear ho hg hat ho2 hoh
                rw [hNN.out] at hfin
                go_wp2
                go_roundg g
                case measure => omega
                case rel => exact ⟨i + 1, _, by omega, by go_num, by rw [hO1.out, hres.out]; exact hfin.out⟩
        · obtain rfl : i = n := by omega
          obtain ⟨F, f1, f2, f3⟩ := hS.made
          replace f1 := Lib.hid f1
          replace f2 := Lib.hid f2
          replace f3 := Lib.hid f3
          clear hS
          go_wp2
          go_ret2
          rw [hRv.out] at hlen ⊢
          exact ⟨_, F, rfl, f1.out, f2.out, f3.out, hlen.out⟩
end Go.Proofs.Ytdhcpoeopooejaa
