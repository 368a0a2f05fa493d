/- laws.FnOrders: the walk. -/
import Derived.Test.YtdhcpoeopooejaaVLaw
import Derived.Test.YtdhcpoeopooejaaDrawO
import Derived.Test.YtdhcpoeopooejaaOrdQ
import Derived.Test.YtdhcpoeopooejaaOrdI
import Derived.Test.YtdhcpoeopooejaaOrdS
import Derived.Test.YtdhcpoeopooejaaOcI
import Derived.Test.YtdhcpoeopooejaaOcS
namespace Go.Proofs.Ytdhcpoeopooejaa
open Go.RowKit
set_option linter.unusedVariables false
set_option linter.unusedSimpArgs false

theorem RIntS.openN {w : World} {v : Value} {xs : List Int} {F : List Nat} {n : Nat} (r : RIntS w v xs F) (hl : xs.length = n) :
    ∃ ao c, v = .slice ao n c ∧ (0 < n → ∃ b off, ao = some ⟨b, off, none⟩ ∧ ∀ i, i < n → w.cell? ⟨b, off + i, none⟩ = some (.int .i64 (gi xs i))) := by
  subst hl
  obtain ⟨ao, c, h1, _, h3⟩ := r.opened
  exact ⟨ao, c, h1, h3⟩
theorem RIntSS.openN {w : World} {v : Value} {x : List (List Int)} {F : List Nat} {n : Nat} (r : RIntSS w v x F) (hl : x.length = n) : ∃ ao c, v = .slice ao n c := by
  obtain ⟨us, h1, h2, _⟩ := r
  obtain ⟨ao, c, rfl, _⟩ := h1.opened
  exact ⟨ao, c, by rw [h2.len, hl]⟩
theorem vInts_qo {v u : Value} {xs : List Int} {w : World} {a n : Nat} (hv : Sl w 3 v (ints xs)) (hu : Sl w 3 u (ints xs)) :
    Calls Try.prog 41 #[v, u] (w.drewN (a + n)) fun e w'' => e = .returned (.bool true) ∧ ∃ m, w'' = w.drewN (a + m) :=
  (vInts_any v u xs xs _ (hv.drewN _) (hu.drewN _)).mono fun _ _ ⟨he, q, hq⟩ => ⟨by rw [he]; simp, n + q, by rw [hq, World.drewN_drewN, Nat.add_assoc]⟩
set_option maxRecDepth 10000 in
set_option maxHeartbeats 8000000 in
theorem FnOrders_walk (d : Value) (w : World) (h : RdBy w d) (hd : ∀ b, d.ownBlock = some b → b < w.heap.size) :
    Calls Try.prog 8 #[d] w fun e w' => e = .returned (.bool true) ∧ Below w.heap.size w w' := by
  obtain ⟨ao, n, c, rfl, q1, q2, q3⟩ := id h
  replace h := Lib.hid h
  replace hd := Lib.hid hd
  have hB := Lib.hid (Below.refl w.heap.size w)
  clear q3
  unfold maxLen at q2
  by_cases hbig : (65536 : Int) < (n : Int)
  · have hbd : decide ((65536 : Int) < (n : Int)) = true := by simp; omega
    go_enter Try.func8, Try.ntmps8
    go_wp2_with fail
    refine vBig_law.mono ?_
    rintro e w1 ⟨rfl, rfl⟩
    rw [hbd]
    go_wp2
    go_ret
    exact ⟨rfl, Below.refl _ _⟩
  · have hbd : decide ((65536 : Int) < (n : Int)) = false := by simp; omega
    go_enter Try.func8, Try.ntmps8
    go_wp2_with fail
    refine vBig_law.mono ?_
    rintro e w0 ⟨rfl, rfl⟩
    rw [hbd]
    go_wp2_with fail
    refine (DrawOrderDefect_law h.out hd.out).mono ?_
    rintro e w1 ⟨vx, x, Fx, rfl, rx, fx, hxl, b⟩
    replace hB := Lib.hid (Below.next hB.out b)
    replace h := Lib.hid (h.out.next b)
    replace hd := Lib.hid (lt_next hd.out b)
    replace rx := Lib.hid rx
    clear b
    clear fx h hd
    rcases ord_cases x with ⟨hO, hC⟩ | ⟨hr, hO, hC, hs⟩ | ⟨hr, D, hO, hC, hq⟩
    · skip
      replace hO := Lib.hid hO
      replace hC := Lib.hid hC
      have l := impl_OrderDefect_law rx.out
      rw [hO.out] at l
      dsimp only at l
      replace l := Lib.hid l
      go_wp2_with fail
      refine (l.out).mono ?_
      rintro e w2 ⟨vd, Fd, rfl, rd, fd, b, _⟩
      replace hB := Lib.hid (Below.next hB.out b)
      replace rx := Lib.hid (rx.out.next b)
      replace rd := Lib.hid rd
      clear b
      clear l
      have l := spec_OrderDefect_law rx.out
      rw [hO.out] at l
      dsimp only at l
      replace l := Lib.hid l
      go_wp2_with fail
      refine (l.out).mono ?_
      rintro e w3 ⟨ve, Fe, rfl, re, fe, b, _⟩
      replace hB := Lib.hid (Below.next hB.out b)
      replace rx := Lib.hid (rx.out.next b)
      replace rd := Lib.hid (rd.out.next b)
      replace re := Lib.hid re
      clear b
      clear l
      clear fd fe
      obtain ⟨da, dc, rfl, hd1⟩ := rd.out.openN (n := 0) rfl
      clear hd1
      go_wp2_with fail
      refine (vInts_same rd.out re.out).mono ?_
      rintro e w4 ⟨rfl, b⟩
      replace hB := Lib.hid (Below.next hB.out b)
      replace rx := Lib.hid (rx.out.next b)
      replace rd := Lib.hid (rd.out.next b)
      replace re := Lib.hid (re.out.next b)
      clear b
      have l := impl_OrderClasses_law rx.out
      rw [hC.out] at l
      dsimp only at l
      replace l := Lib.hid l
      go_wp2_with fail
      refine (l.out).mono ?_
      rintro e w5 ⟨vl, Fl, rfl, rl, fl, b, _⟩
      replace hB := Lib.hid (Below.next hB.out b)
      replace rx := Lib.hid (rx.out.next b)
      replace rd := Lib.hid (rd.out.next b)
      replace re := Lib.hid (re.out.next b)
      replace rl := Lib.hid rl
      clear b
      clear l
      have l := spec_OrderClasses_law rx.out
      rw [hC.out] at l
      dsimp only at l
      replace l := Lib.hid l
      go_wp2_with fail
      refine (l.out).mono ?_
      rintro e w6 ⟨vm, Fm, rfl, rm, fm, b, _⟩
      replace hB := Lib.hid (Below.next hB.out b)
      replace rx := Lib.hid (rx.out.next b)
      replace rd := Lib.hid (rd.out.next b)
      replace re := Lib.hid (re.out.next b)
      replace rl := Lib.hid (rl.out.next b)
      replace rm := Lib.hid rm
      clear b
      clear l
      clear fl fm
      clear re
      clear rd
      obtain ⟨la, lc, rfl⟩ := rl.out.openN (n := 0) rfl
      obtain ⟨ma, mc, rfl⟩ := rm.out.openN (n := 0) rfl
      clear rl
      clear rm
      go_wp2
      go_loopw [15, 16] (fun nv iv wr => nv = .int .i64 0 ∧ iv = .int .i64 0 ∧ ∃ q, wr = w6.drewN q) (fun _ _ _ => 0)
      case atStart => exact ⟨rfl, rfl, 0, rfl⟩
      case round =>
        obtain ⟨rfl, rfl, q, rfl⟩ := hrel
        go_wp2
        go_ret
        exact ⟨rfl, Below.next hB.out (Below.drewN (Below.refl w6.heap.size w6) q)⟩
    · skip
      replace hO := Lib.hid hO
      replace hC := Lib.hid hC
      have l := impl_OrderDefect_law rx.out
      rw [hO.out] at l
      dsimp only at l
      replace l := Lib.hid l
      go_wp2_with fail
      refine (l.out).mono ?_
      rintro e w2 ⟨vd, Fd, rfl, rd, fd, b, _⟩
      replace hB := Lib.hid (Below.next hB.out b)
      replace rx := Lib.hid (rx.out.next b)
      replace rd := Lib.hid rd
      clear b
      clear l
      have l := spec_OrderDefect_law rx.out
      rw [hO.out] at l
      dsimp only at l
      replace l := Lib.hid l
      go_wp2_with fail
      refine (l.out).mono ?_
      rintro e w3 ⟨ve, Fe, rfl, re, fe, b, _⟩
      replace hB := Lib.hid (Below.next hB.out b)
      replace rx := Lib.hid (rx.out.next b)
      replace rd := Lib.hid (rd.out.next b)
      replace re := Lib.hid re
      clear b
      clear l
      clear fd fe
      obtain ⟨da, dc, rfl, hd1⟩ := rd.out.openN (n := 0) rfl
      clear hd1
      go_wp2_with fail
      refine (vInts_same rd.out re.out).mono ?_
      rintro e w4 ⟨rfl, b⟩
      replace hB := Lib.hid (Below.next hB.out b)
      replace rx := Lib.hid (rx.out.next b)
      replace rd := Lib.hid (rd.out.next b)
      replace re := Lib.hid (re.out.next b)
      clear b
      have l := impl_OrderClasses_law rx.out
      rw [hC.out] at l
      dsimp only at l
      replace l := Lib.hid l
      go_wp2_with fail
      refine (l.out).mono ?_
      rintro e w5 ⟨vl, Fl, rfl, rl, fl, b, _⟩
      replace hB := Lib.hid (Below.next hB.out b)
      replace rx := Lib.hid (rx.out.next b)
      replace rd := Lib.hid (rd.out.next b)
      replace re := Lib.hid (re.out.next b)
      replace rl := Lib.hid rl
      clear b
      clear l
      have l := spec_OrderClasses_law rx.out
      rw [hC.out] at l
      dsimp only at l
      replace l := Lib.hid l
      go_wp2_with fail
      refine (l.out).mono ?_
      rintro e w6 ⟨vm, Fm, rfl, rm, fm, b, _⟩
      replace hB := Lib.hid (Below.next hB.out b)
      replace rx := Lib.hid (rx.out.next b)
      replace rd := Lib.hid (rd.out.next b)
      replace re := Lib.hid (re.out.next b)
      replace rl := Lib.hid (rl.out.next b)
      replace rm := Lib.hid rm
      clear b
      clear l
      clear fl fm
      clear re
      clear rd
      obtain ⟨us, hus, inu, _⟩ := rl.out
      obtain ⟨vs, hvs, inv, _⟩ := rm.out
      obtain ⟨lo, lc, rfl, _, lb, HL⟩ := hus.opened
      obtain ⟨wo, wc, rfl, _, wb, HW⟩ := hvs.opened
      unfold maxLen at lb wb
      have el := inu.len
      have ew := inv.len
      have hsum := clF_sum hs
      have hpos := Lib.hid (fun (i : Nat) (hi : i < (clF x).length) => clF_pos hi)
      have hless := Lib.hid (fun (i k p q : Nat) (hik : i < k) (hk : k < (clF x).length) (hp : p < (gl (clF x) i).length) (hq : q < (gl (clF x) k).length) => clF_less hs hik hk hp hq)
      generalize clF x = X at *
      have hsl := inu.sl
      have hsw := inv.sl
      obtain ⟨bx, ox, cx, rfl, hx1, hx2, HX⟩ := rx.out.rd.rel hr
      unfold maxLen at hx2
      rw [ew]
      rw [el] at HL ⊢
      rw [ew] at HW
      generalize hz : X.length = z at *
      generalize hnx : x.length = nx at *
      have hzl : z ≤ 2 ^ 63 - 1 := by omega
      have hszl : ∀ k, k ≤ z → szTo X k ≤ 100 := fun k hk => by
        have := szTo_le X k z hk
        have := szTo_all X
        rw [hz] at this
        omega
      replace hsl := Lib.hid hsl
      replace hsw := Lib.hid hsw
      replace HL := Lib.hid HL
      replace HW := Lib.hid HW
      replace HX := Lib.hid HX
      replace hsum := Lib.hid hsum
      replace hz := Lib.hid hz
      replace hnx := Lib.hid hnx
      replace hszl := Lib.hid hszl
      replace el := Lib.hid el
      replace ew := Lib.hid ew
      clear hus hvs inu inv rl rm rx hs hr hO hC
      go_wp2
      go_loopw [15, 16] (fun nv iv wr => ∃ k q : Nat, k ≤ z ∧ iv = .int .i64 (k : Nat) ∧ nv = .int .i64 (szTo X k : Nat) ∧ wr = w6.drewN q) (fun _ iv _ => z - (intOf iv).toNat)
      case atStart => exact ⟨0, 0, Nat.zero_le _, rfl, rfl, rfl⟩
      case round =>
        obtain ⟨k, q, hk, rfl, rfl, rfl⟩ := hrel
        have hsk := hszl.out k hk
        by_cases hlt : k < z
        · obtain ⟨b, off, rfl, hR⟩ := HL.out (by omega)
          obtain ⟨b2, off2, rfl, hR2⟩ := HW.out (by omega)
          have hc1 : w6.cell? ⟨b, off + k, none⟩ = some (gv us k) := by rw [hR.cell (by rw [el.out]; omega), gv_eq (by rw [el.out]; omega)]
          have hc2 : w6.cell? ⟨b2, off2 + k, none⟩ = some (gv vs k) := by rw [hR2.cell (by rw [ew.out]; omega), gv_eq (by rw [ew.out]; omega)]
          have hRw := Lib.hid hR
          have hsx := Lib.hid (hsl.out k hlt)
          have hsy := Lib.hid (hsw.out k hlt)
          have hsk1 := hszl.out (k + 1) hlt
          rw [szTo] at hsk1
          have hp1 := hpos.out k hlt
          clear hR hR2
          generalize hgx : gv us k = ux at *
          generalize hgy : gv vs k = uy at *
          replace hgx := Lib.hid hgx
          replace hgy := Lib.hid hgy
          obtain ⟨io, ic, rfl, ib, ib2, ib3, HI⟩ := hsx.out.openInts
          clear ib2 ib3
          unfold maxLen at ib
          obtain ⟨b3, off3, rfl, hR3⟩ := HI hp1
          have hc3 : w6.cell? ⟨b3, off3, none⟩ = some (.int .i64 (gi (gl X k) 0)) := by have := hR3.cellInt hp1; rwa [Nat.add_zero] at this
          clear HI hR3
          replace hc3 := Lib.hid hc3
          generalize hm : (gl X k).length = m at *
          replace hm := Lib.hid hm
          go_wp2
          go_quiet ((go_at_call 41; exact vInts_qo hsx.out hsy.out))
          go_wp2
          go_loopw [17] (fun jv wr => ∃ j q2 : Nat, k + 1 ≤ j ∧ j ≤ z ∧ jv = .int .i64 (j : Nat) ∧ wr = w6.drewN q2) (fun jv _ => z - (intOf jv).toNat)
          case atStart => exact ⟨k + 1, _, Nat.le_refl _, hlt, by go_num, by first | rfl | exact World.drewN_drewN ..⟩
          case round =>
            obtain ⟨j, q2, hkj, hj, rfl, rfl⟩ := hrel
            by_cases hjm : j < z
            · have hc4 : w6.cell? ⟨b, off + j, none⟩ = some (gv us j) := by rw [hRw.out.cell (by rw [el.out]; omega), gv_eq (by rw [el.out]; omega)]
              have hsj := hsl.out j hjm
              have hp2 := hpos.out j hjm
              generalize gv us j = uj at *
              obtain ⟨jo, jc, rfl, jb, jb2, jb3, HJ⟩ := hsj.openInts
              clear jb2 jb3
              unfold maxLen at jb
              obtain ⟨b4, off4, rfl, hR4⟩ := HJ hp2
              have hc5 := hR4.cellInt (i := (gl X j).length - 1) (by omega)
              obtain ⟨a1, a2, ha1, ha2, hl1, hl2, hll⟩ := hless.out k j 0 ((gl X j).length - 1) (by omega) hjm (by rw [hm.out]; exact hp1) (by omega)
              rw [ha2] at hc5
              have hc6 := hc3.out
              rw [ha1] at hc6
              obtain ⟨b5, off5, c5, e5, g5, H5⟩ := HX.out a1 hl1
              have e6 := H5 a2 hl2
              rw [hll] at e6
              clear HJ hR4 ha1 ha2 H5 hsj hll
              obtain ⟨t, ht⟩ : ∃ t, (gl X j).length = t + 1 := ⟨(gl X j).length - 1, by omega⟩
              rw [ht] at jb hc5 hc4 hp2
              rw [show t + 1 - 1 = t by omega] at hc5
              have ht2 : ((t + 1 : Nat) : Int) - 1 = (t : Int) := by omega
              have ht3 : (t : Int) < ((t + 1 : Nat) : Int) := by omega
              have hjp : (0 : Int) ≤ (j : Int) := by omega
              replace ht := Lib.hid ht
              go_wp2
              go_quiet (fail)
              go_wp2
              go_roundw
              case rel => exact ⟨j + 1, _, by omega, by omega, by go_num, by first | rfl | exact World.drewN_drewN ..⟩
              case measure => simp [intOf]; omega
            · have hjz : j = z := by omega
              go_wp2
              go_roundw
              case rel => exact ⟨k + 1, _, by omega, by go_num, by rw [szTo, hm.out]; go_num, rfl⟩
              case measure => simp [intOf]; omega
        · have hkz : k = z := by omega
          have hsum2 : szTo X k = nx := by rw [hkz, ← hz.out, szTo_all, hsum.out]
          rw [hsum2]
          go_wp2
          go_ret
          exact ⟨rfl, Below.next hB.out (Below.drewN (Below.refl w6.heap.size w6) q)⟩
    · skip
      rcases hq with ⟨i, hi, rfl⟩ | ⟨i, k, hi, hk, rfl, l1, l2⟩ | ⟨i, k, m, hi, hk, hm, rfl, hbad⟩
      · skip
        replace hO := Lib.hid hO
        replace hC := Lib.hid hC
        have l := impl_OrderDefect_law rx.out
        rw [hO.out] at l
        dsimp only at l
        replace l := Lib.hid l
        go_wp2_with fail
        refine (l.out).mono ?_
        rintro e w2 ⟨vd, Fd, rfl, rd, fd, b, _⟩
        replace hB := Lib.hid (Below.next hB.out b)
        replace rx := Lib.hid (rx.out.next b)
        replace rd := Lib.hid rd
        clear b
        clear l
        have l := spec_OrderDefect_law rx.out
        rw [hO.out] at l
        dsimp only at l
        replace l := Lib.hid l
        go_wp2_with fail
        refine (l.out).mono ?_
        rintro e w3 ⟨ve, Fe, rfl, re, fe, b, _⟩
        replace hB := Lib.hid (Below.next hB.out b)
        replace rx := Lib.hid (rx.out.next b)
        replace rd := Lib.hid (rd.out.next b)
        replace re := Lib.hid re
        clear b
        clear l
        clear fd fe
        obtain ⟨da, dc, rfl, hd1⟩ := rd.out.openN (n := 1) rfl
        clear hd1
        go_wp2_with fail
        refine (vInts_same rd.out re.out).mono ?_
        rintro e w4 ⟨rfl, b⟩
        replace hB := Lib.hid (Below.next hB.out b)
        replace rx := Lib.hid (rx.out.next b)
        replace rd := Lib.hid (rd.out.next b)
        replace re := Lib.hid (re.out.next b)
        clear b
        have l := impl_OrderClasses_law rx.out
        rw [hC.out] at l
        dsimp only at l
        replace l := Lib.hid l
        go_wp2_with fail
        refine (l.out).mono ?_
        rintro e w5 ⟨vl, Fl, rfl, rl, fl, b, _⟩
        replace hB := Lib.hid (Below.next hB.out b)
        replace rx := Lib.hid (rx.out.next b)
        replace rd := Lib.hid (rd.out.next b)
        replace re := Lib.hid (re.out.next b)
        replace rl := Lib.hid rl
        clear b
        clear l
        have l := spec_OrderClasses_law rx.out
        rw [hC.out] at l
        dsimp only at l
        replace l := Lib.hid l
        go_wp2_with fail
        refine (l.out).mono ?_
        rintro e w6 ⟨vm, Fm, rfl, rm, fm, b, _⟩
        replace hB := Lib.hid (Below.next hB.out b)
        replace rx := Lib.hid (rx.out.next b)
        replace rd := Lib.hid (rd.out.next b)
        replace re := Lib.hid (re.out.next b)
        replace rl := Lib.hid (rl.out.next b)
        replace rm := Lib.hid rm
        clear b
        clear l
        clear fl fm
        clear re
        clear rd
        obtain ⟨la, lc, rfl⟩ := rl.out.openN (n := 0) rfl
        obtain ⟨ma, mc, rfl⟩ := rm.out.openN (n := 0) rfl
        clear rl
        clear rm
        go_wp2
        go_loopw [15, 16] (fun nv iv wr => nv = .int .i64 0 ∧ iv = .int .i64 0 ∧ ∃ q, wr = w6.drewN q) (fun _ _ _ => 0)
        case atStart => exact ⟨rfl, rfl, 0, rfl⟩
        case round =>
          obtain ⟨rfl, rfl, q, rfl⟩ := hrel
          go_wp2
          go_ret
          exact ⟨rfl, Below.next hB.out (Below.drewN (Below.refl w6.heap.size w6) q)⟩
      · skip
        replace hO := Lib.hid hO
        replace hC := Lib.hid hC
        have l := impl_OrderDefect_law rx.out
        rw [hO.out] at l
        dsimp only at l
        replace l := Lib.hid l
        go_wp2_with fail
        refine (l.out).mono ?_
        rintro e w2 ⟨vd, Fd, rfl, rd, fd, b, _⟩
        replace hB := Lib.hid (Below.next hB.out b)
        replace rx := Lib.hid (rx.out.next b)
        replace rd := Lib.hid rd
        clear b
        clear l
        have l := spec_OrderDefect_law rx.out
        rw [hO.out] at l
        dsimp only at l
        replace l := Lib.hid l
        go_wp2_with fail
        refine (l.out).mono ?_
        rintro e w3 ⟨ve, Fe, rfl, re, fe, b, _⟩
        replace hB := Lib.hid (Below.next hB.out b)
        replace rx := Lib.hid (rx.out.next b)
        replace rd := Lib.hid (rd.out.next b)
        replace re := Lib.hid re
        clear b
        clear l
        clear fd fe
        obtain ⟨da, dc, rfl, hd1⟩ := rd.out.openN (n := 2) rfl
        clear hd1
        go_wp2_with fail
        refine (vInts_same rd.out re.out).mono ?_
        rintro e w4 ⟨rfl, b⟩
        replace hB := Lib.hid (Below.next hB.out b)
        replace rx := Lib.hid (rx.out.next b)
        replace rd := Lib.hid (rd.out.next b)
        replace re := Lib.hid (re.out.next b)
        clear b
        have l := impl_OrderClasses_law rx.out
        rw [hC.out] at l
        dsimp only at l
        replace l := Lib.hid l
        go_wp2_with fail
        refine (l.out).mono ?_
        rintro e w5 ⟨vl, Fl, rfl, rl, fl, b, _⟩
        replace hB := Lib.hid (Below.next hB.out b)
        replace rx := Lib.hid (rx.out.next b)
        replace rd := Lib.hid (rd.out.next b)
        replace re := Lib.hid (re.out.next b)
        replace rl := Lib.hid rl
        clear b
        clear l
        have l := spec_OrderClasses_law rx.out
        rw [hC.out] at l
        dsimp only at l
        replace l := Lib.hid l
        go_wp2_with fail
        refine (l.out).mono ?_
        rintro e w6 ⟨vm, Fm, rfl, rm, fm, b, _⟩
        replace hB := Lib.hid (Below.next hB.out b)
        replace rx := Lib.hid (rx.out.next b)
        replace rd := Lib.hid (rd.out.next b)
        replace re := Lib.hid (re.out.next b)
        replace rl := Lib.hid (rl.out.next b)
        replace rm := Lib.hid rm
        clear b
        clear l
        clear fl fm
        clear re
        obtain ⟨ao9, dc9, hd9, hdR⟩ := rd.out.openN (n := 2) rfl
        simp only [Value.slice.injEq, true_and] at hd9
        obtain ⟨rfl, rfl⟩ := hd9
        obtain ⟨bd, od, rfl, hdS⟩ := hdR (by omega)
        clear hdR
        have hw0 := hdS 0 (by omega)
        have hw1 := hdS 1 (by omega)
        clear hdS
        rw [show gi ([(i : Int), (k : Int)]) 0 = (i : Int) from rfl] at hw0
        rw [show gi ([(i : Int), (k : Int)]) 1 = (k : Int) from rfl] at hw1
        rw [Nat.add_zero] at hw0
        clear rd
        obtain ⟨la, lc, rfl⟩ := rl.out.openN (n := 0) rfl
        obtain ⟨ma, mc, rfl⟩ := rm.out.openN (n := 0) rfl
        clear rl
        clear rm
        obtain ⟨bx, ox, cx, rfl, hx1, hx2, HX⟩ := rx.out.rd.rel hr
        unfold maxLen at hx2
        obtain ⟨bi, oi, ci, ei, gi, Hi⟩ := HX i hi
        obtain ⟨bk, ok, ck, ek, gk, Hk⟩ := HX k hk
        have uik := Hi k hk
        rw [l1] at uik
        have uki := Hk i hi
        rw [l2] at uki
        clear HX Hi Hk
        generalize x.length = nx at *
        clear rx
        go_wp2_with fail
        go_quiet (fail)
        try simp only [List.append] at *
        go_wp2
        go_ret
        exact ⟨rfl, Below.next hB.out (Below.drewN (Below.refl w6.heap.size w6) _)⟩
      · skip
        replace hO := Lib.hid hO
        replace hC := Lib.hid hC
        have l := impl_OrderDefect_law rx.out
        rw [hO.out] at l
        dsimp only at l
        replace l := Lib.hid l
        go_wp2_with fail
        refine (l.out).mono ?_
        rintro e w2 ⟨vd, Fd, rfl, rd, fd, b, _⟩
        replace hB := Lib.hid (Below.next hB.out b)
        replace rx := Lib.hid (rx.out.next b)
        replace rd := Lib.hid rd
        clear b
        clear l
        have l := spec_OrderDefect_law rx.out
        rw [hO.out] at l
        dsimp only at l
        replace l := Lib.hid l
        go_wp2_with fail
        refine (l.out).mono ?_
        rintro e w3 ⟨ve, Fe, rfl, re, fe, b, _⟩
        replace hB := Lib.hid (Below.next hB.out b)
        replace rx := Lib.hid (rx.out.next b)
        replace rd := Lib.hid (rd.out.next b)
        replace re := Lib.hid re
        clear b
        clear l
        clear fd fe
        obtain ⟨da, dc, rfl, hd1⟩ := rd.out.openN (n := 3) rfl
        clear hd1
        go_wp2_with fail
        refine (vInts_same rd.out re.out).mono ?_
        rintro e w4 ⟨rfl, b⟩
        replace hB := Lib.hid (Below.next hB.out b)
        replace rx := Lib.hid (rx.out.next b)
        replace rd := Lib.hid (rd.out.next b)
        replace re := Lib.hid (re.out.next b)
        clear b
        have l := impl_OrderClasses_law rx.out
        rw [hC.out] at l
        dsimp only at l
        replace l := Lib.hid l
        go_wp2_with fail
        refine (l.out).mono ?_
        rintro e w5 ⟨vl, Fl, rfl, rl, fl, b, _⟩
        replace hB := Lib.hid (Below.next hB.out b)
        replace rx := Lib.hid (rx.out.next b)
        replace rd := Lib.hid (rd.out.next b)
        replace re := Lib.hid (re.out.next b)
        replace rl := Lib.hid rl
        clear b
        clear l
        have l := spec_OrderClasses_law rx.out
        rw [hC.out] at l
        dsimp only at l
        replace l := Lib.hid l
        go_wp2_with fail
        refine (l.out).mono ?_
        rintro e w6 ⟨vm, Fm, rfl, rm, fm, b, _⟩
        replace hB := Lib.hid (Below.next hB.out b)
        replace rx := Lib.hid (rx.out.next b)
        replace rd := Lib.hid (rd.out.next b)
        replace re := Lib.hid (re.out.next b)
        replace rl := Lib.hid (rl.out.next b)
        replace rm := Lib.hid rm
        clear b
        clear l
        clear fl fm
        clear re
        obtain ⟨ao9, dc9, hd9, hdR⟩ := rd.out.openN (n := 3) rfl
        simp only [Value.slice.injEq, true_and] at hd9
        obtain ⟨rfl, rfl⟩ := hd9
        obtain ⟨bd, od, rfl, hdS⟩ := hdR (by omega)
        clear hdR
        have hw0 := hdS 0 (by omega)
        have hw1 := hdS 1 (by omega)
        have hw2 := hdS 2 (by omega)
        clear hdS
        rw [show gi ([(i : Int), (k : Int), (m : Int)]) 0 = (i : Int) from rfl] at hw0
        rw [show gi ([(i : Int), (k : Int), (m : Int)]) 1 = (k : Int) from rfl] at hw1
        rw [show gi ([(i : Int), (k : Int), (m : Int)]) 2 = (m : Int) from rfl] at hw2
        rw [Nat.add_zero] at hw0
        clear rd
        obtain ⟨la, lc, rfl⟩ := rl.out.openN (n := 0) rfl
        obtain ⟨ma, mc, rfl⟩ := rm.out.openN (n := 0) rfl
        clear rl
        clear rm
        rcases hbad with ⟨l1, l2, l3⟩ | ⟨l1, l2, l3, l4, l5⟩ | ⟨l1, l2, l3, l4, l5, l6⟩
        · skip
          obtain ⟨bx, ox, cx, rfl, hx1, hx2, HX⟩ := rx.out.rd.rel hr
          unfold maxLen at hx2
          obtain ⟨bi, oi, ci, ei, gi, Hi⟩ := HX i hi
          obtain ⟨bk, ok, ck, ek, gk, Hk⟩ := HX k hk
          have uik := Hi k hk
          rw [l1] at uik
          have ukm := Hk m hm
          rw [l2] at ukm
          have uim := Hi m hm
          rw [l3] at uim
          clear HX Hi Hk
          generalize x.length = nx at *
          clear rx
          go_wp2_with fail
          go_quiet (fail)
          try simp only [List.append] at *
          go_wp2
          go_ret
          exact ⟨rfl, Below.next hB.out (Below.drewN (Below.refl w6.heap.size w6) _)⟩
        · skip
          obtain ⟨bx, ox, cx, rfl, hx1, hx2, HX⟩ := rx.out.rd.rel hr
          unfold maxLen at hx2
          obtain ⟨bi, oi, ci, ei, gi, Hi⟩ := HX i hi
          obtain ⟨bk, ok, ck, ek, gk, Hk⟩ := HX k hk
          obtain ⟨bm, om, cm, em, gm, Hm⟩ := HX m hm
          have uik := Hi k hk
          rw [l1] at uik
          have uki := Hk i hi
          rw [l2] at uki
          have ukm := Hk m hm
          rw [l3] at ukm
          have umk := Hm k hk
          rw [l4] at umk
          have uim := Hi m hm
          rw [l5] at uim
          clear HX Hi Hk Hm
          generalize x.length = nx at *
          clear rx
          go_wp2_with fail
          go_quiet (fail)
          try simp only [List.append] at *
          go_wp2
          go_ret
          exact ⟨rfl, Below.next hB.out (Below.drewN (Below.refl w6.heap.size w6) _)⟩
        · skip
          obtain ⟨bx, ox, cx, rfl, hx1, hx2, HX⟩ := rx.out.rd.rel hr
          unfold maxLen at hx2
          obtain ⟨bi, oi, ci, ei, gi, Hi⟩ := HX i hi
          obtain ⟨bk, ok, ck, ek, gk, Hk⟩ := HX k hk
          obtain ⟨bm, om, cm, em, gm, Hm⟩ := HX m hm
          have uik := Hi k hk
          rw [l1] at uik
          have uki := Hk i hi
          rw [l2] at uki
          have ukm := Hk m hm
          rw [l3] at ukm
          have umk := Hm k hk
          rw [l4] at umk
          have uim := Hi m hm
          rw [l5] at uim
          have umi := Hm i hi
          rw [l6] at umi
          clear HX Hi Hk Hm
          generalize x.length = nx at *
          clear rx
          go_wp2_with fail
          go_quiet (fail)
          try simp only [List.append] at *
          go_wp2
          go_ret
          exact ⟨rfl, Below.next hB.out (Below.drewN (Below.refl w6.heap.size w6) _)⟩
end Go.Proofs.Ytdhcpoeopooejaa
