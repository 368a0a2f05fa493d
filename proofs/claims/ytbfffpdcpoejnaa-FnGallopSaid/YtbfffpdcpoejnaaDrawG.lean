/- The draws: DrawGallopSearch. -/
import Derived.Test.YtbfffpdcpoejnaaDrawS
import Derived.Test.YtbfffpdcpoejnaaDrawU
namespace Go.Proofs.Ytbfffpdcpoejnaa
open Go.RowKit
set_option linter.unusedVariables false
set_option linter.unusedSimpArgs false

theorem Own.rints {w : World} {B : Nat} {v : Value} {L : List Int} (h : Own w 3 B v (ints L)) : RIntS w v L v.ownBlock.toList ∧ Fr B v.ownBlock.toList :=
  ⟨⟨h.sl, rfl⟩, fun b hb => (h.lt b (by simpa using hb)).1⟩

set_option maxRecDepth 10000 in
set_option maxHeartbeats 8000000 in
theorem DrawGallopSearch_law {d : Value} {w : World} (h : RdBy w d) (hd : ∀ b, d.ownBlock = some b → b < w.heap.size) :
    Calls Try.prog 46 #[d] w fun e w' => ∃ (r : Value) (L : List Int) (F : List Nat) (x h : Int), e = .returned (.tuple #[r, .int .i64 x, .int .i64 h]) ∧ RIntS w' r L F ∧ Below w.heap.size w w' ∧ L.length ≤ 100 ∧ (-9223372036854775808 ≤ x ∧ x ≤ 9223372036854775807) ∧ (-1000000 ≤ h ∧ h ≤ 1000000) := by
  have hc := Lib.hid (Cur.start h hd)
  obtain ⟨ao, n, c, rfl, h1, h2, _⟩ := h
  have hvb : Hid (∀ b, (Value.slice ao n c).ownBlock = some b → b < (w.alloc (.cells #[.slice ao n c, .int .i64 0, .int .u64 0] 60)).heap.size) := Lib.hid (fun b hb => by have := hd b hb; simp; omega)
  have hcb : w.heap.size < (w.alloc (.cells #[.slice ao n c, .int .i64 0, .int .u64 0] 60)).heap.size := by simp
  have hB0 : Hid (∀ w', Ex [w.heap.size] (w.alloc (.cells #[.slice ao n c, .int .i64 0, .int .u64 0] 60)) w' → Below w.heap.size w w') := Lib.hid (fun w' hx =>
    Below.ex ((Below.refl _ _).alloc (Nat.le_refl _) _) hx (fun x hx => by simp at hx; omega))
  clear hd
  go_enter Try.func46, Try.ntmps46
  go_wp2_with fail
  refine (anyInts_any w.heap.size _ 0 _ hc.out hcb hvb.out (by omega)).mono ?_
  rintro e w1 ⟨r, L, rfl, hO, hL, hc1, hx1⟩
  obtain ⟨bo, dc, rfl, _, _, _, _⟩ := hO.sl.openInts
  generalize hw0 : w.alloc (.cells #[.slice ao n c, .int .i64 0, .int .u64 0] 60) = w0 at *
  replace hw0 := Lib.hid hw0
  have hs1 := hx1.size
  replace hO := Lib.hid hO
  replace hc1 := Lib.hid hc1
  replace hx1 := Lib.hid hx1
  clear hc
  go_wp2_with fail
  refine (one_any w.heap.size _ _ 12 _ hc1.out (by omega) (by omega)).mono ?_
  rintro e w2 ⟨⟨b, rfl⟩, hc2, hx2⟩
  have hx3 := Lib.hid (hx1.out.trans hx2)
  have hO2 := Lib.hid (hO.out.exc hx2 hcb)
  have hs2 := hx3.out.size
  replace hc2 := Lib.hid hc2
  clear hx2 hO hc1 hx1
  cases b
  · go_wp2_with fail
    refine (l2Sorted_any _ L _ hO2.out.sl (by omega)).mono ?_
    rintro e w4 ⟨ao2, cap, M, rfl, hf, hpm, _⟩
    have hMl := Lib.hid hpm.length_eq
    obtain ⟨r4, f4, hb4⟩ := hf.law
    have hx4 := Lib.hid (hx3.out.trans (Ex.of_below hb4))
    have hs4 := hx4.out.size
    have hc4 := Lib.hid (hc2.out.ex (Ex.of_below (F := []) hb4) (by simp) (fun _ _ => by simp))
    have f5 := Lib.hid (Fr.le hs2 f4)
    replace r4 := Lib.hid r4
    clear hf hb4 f4 hpm hO2 hx3 hc2
    generalize hF : (Value.slice ao2 L.length cap).ownBlock.toList = F at r4 f5
    replace hF := Lib.hid hF
    go_wp2_with fail
    refine (pick_any w.heap.size _ _ 9 _ hc4.out (by omega) (by omega)).mono ?_
    rintro e w5 ⟨⟨x, rfl, hx9, _⟩, hc5, hx5⟩
    have hx9b := hx9 (by omega)
    have hx6 := Lib.hid (hx4.out.trans hx5)
    have r5 := Lib.hid (r4.out.ex hx5 (Dj.cb f5.out hcb))
    replace hc5 := Lib.hid hc5
    clear hx5 hx9 hc4 hx4 r4
    go_wp2_with fail
    refine (one_any w.heap.size _ _ 6 _ hc5.out (by omega) (by omega)).mono ?_
    rintro e w6 ⟨⟨b, rfl⟩, hc6, hx7⟩
    have hx8 := Lib.hid (hx6.out.trans hx7)
    have r6 := Lib.hid (r5.out.ex hx7 (Dj.cb f5.out hcb))
    have hs6 := hx8.out.size
    replace hc6 := Lib.hid hc6
    clear hx7 hc5 hx6 r5
    cases b
    · skip
      go_wp2_with fail
      refine (pick_any w.heap.size _ _ ((L.length : Int) + 2) _ hc6.out (by omega) (by omega)).mono ?_
      rintro e w8 ⟨⟨y, rfl, hy, _⟩, hc8, hx9⟩
      have hyb := hy (by omega)
      have hxa := Lib.hid (hx8.out.trans hx9)
      have r8 := Lib.hid (r6.out.ex hx9 (Dj.cb f5.out hcb))
      replace hc8 := Lib.hid hc8
      clear hx9 hy hc6 hx8 r6
      go_wp2_with fail
      refine (pick_any w.heap.size _ _ 2 _ hc8.out (by omega) (by omega)).mono ?_
      rintro e w9 ⟨⟨z, rfl, hz, _⟩, hc9, hxc⟩
      have hzb := hz (by omega)
      have r9 := Lib.hid (r8.out.ex hxc (Dj.cb f5.out hcb))
      have hBf := Lib.hid (hB0.out _ (hxa.out.trans hxc))
      clear hxc hz hc8 hc9 hxa r8
      go_wp2
      refine bodyPost_ret (results_tmp3 rfl _ _ _) rfl ?_
      exact ⟨_, M, _, (x : Int) - 1, (y : Int) - (z : Int), by first | rfl | go_num, r9.out, hBf.out, by rw [hMl.out]; exact hL, ⟨by omega, by omega⟩, ⟨by omega, by omega⟩⟩
    · have hB : Below w6.heap.size w6 (w6.alloc (.cells (ints [100000, 100001, -100000, 500]).toArray 3)) := (Below.refl _ _).alloc (Nat.le_refl _) _
      have hal := Lib.hid (among_any w.heap.size _ _ [100000, 100001, -100000, 500] _ _ (hc6.out.ex (Ex.of_below (F := []) hB) (by simp) (fun _ _ => by simp)) (by omega) (Rd.lits w6 _ (by simp)) (by simp) (by simp) (by intro b9 h9; simp [Value.ownBlock] at h9; omega))
      have hxl := Ex.of_below (F := [w.heap.size]) hB
      clear hB
      go_wp2_with fail
      refine hal.out.mono ?_
      rintro e w7 ⟨⟨k, hk, rfl⟩, hc7, hxm⟩
      have hy := gi_all (xs := [100000, 100001, -100000, 500]) (P := fun x => -100000 ≤ x ∧ x ≤ 100001) (by decide) hk
      generalize gi [100000, 100001, -100000, 500] k = q at *
      try dsimp only at hy
      have hyq := hy
      clear hy
      have hxn := Lib.hid (hx8.out.trans (hxl.trans hxm))
      have r7 := Lib.hid (r6.out.ex (hxl.trans hxm) (Dj.cb f5.out hcb))
      replace hc7 := Lib.hid hc7
      clear hal hk hxl hxm hc6 hx8 r6
      go_wp2_with fail
      refine (pick_any w.heap.size _ _ ((L.length : Int) + 2) _ hc7.out (by omega) (by omega)).mono ?_
      rintro e w8 ⟨⟨y, rfl, hy, _⟩, hc8, hx9⟩
      have hyb := hy (by omega)
      have hxa := Lib.hid (hxn.out.trans hx9)
      have r8 := Lib.hid (r7.out.ex hx9 (Dj.cb f5.out hcb))
      replace hc8 := Lib.hid hc8
      clear hx9 hy hc7 hxn r7
      go_wp2_with fail
      refine (pick_any w.heap.size _ _ 2 _ hc8.out (by omega) (by omega)).mono ?_
      rintro e w9 ⟨⟨z, rfl, hz, _⟩, hc9, hxc⟩
      have hzb := hz (by omega)
      have r9 := Lib.hid (r8.out.ex hxc (Dj.cb f5.out hcb))
      have hBf := Lib.hid (hB0.out _ (hxa.out.trans hxc))
      clear hxc hz hc8 hc9 hxa r8
      go_wp2
      refine bodyPost_ret (results_tmp3 rfl _ _ _) rfl ?_
      exact ⟨_, M, _, q, (y : Int) - (z : Int), by first | rfl | go_num, r9.out, hBf.out, by rw [hMl.out]; exact hL, ⟨by omega, by omega⟩, ⟨by omega, by omega⟩⟩
  · have r4 := Lib.hid hO2.out.rints.1
    have f5 := Lib.hid hO2.out.rints.2
    clear hO2
    generalize hF : (Value.slice bo L.length dc).ownBlock.toList = F at r4 f5
    replace hF := Lib.hid hF
    go_wp2_with fail
    refine (pick_any w.heap.size _ _ 9 _ hc2.out (by omega) (by omega)).mono ?_
    rintro e w5 ⟨⟨x, rfl, hx9, _⟩, hc5, hx5⟩
    have hx9b := hx9 (by omega)
    have hx6 := Lib.hid (hx3.out.trans hx5)
    have r5 := Lib.hid (r4.out.ex hx5 (Dj.cb f5.out hcb))
    replace hc5 := Lib.hid hc5
    clear hx5 hx9 hc2 hx3 r4
    go_wp2_with fail
    refine (one_any w.heap.size _ _ 6 _ hc5.out (by omega) (by omega)).mono ?_
    rintro e w6 ⟨⟨b, rfl⟩, hc6, hx7⟩
    have hx8 := Lib.hid (hx6.out.trans hx7)
    have r6 := Lib.hid (r5.out.ex hx7 (Dj.cb f5.out hcb))
    have hs6 := hx8.out.size
    replace hc6 := Lib.hid hc6
    clear hx7 hc5 hx6 r5
    cases b
    · skip
      go_wp2_with fail
      refine (pick_any w.heap.size _ _ ((L.length : Int) + 2) _ hc6.out (by omega) (by omega)).mono ?_
      rintro e w8 ⟨⟨y, rfl, hy, _⟩, hc8, hx9⟩
      have hyb := hy (by omega)
      have hxa := Lib.hid (hx8.out.trans hx9)
      have r8 := Lib.hid (r6.out.ex hx9 (Dj.cb f5.out hcb))
      replace hc8 := Lib.hid hc8
      clear hx9 hy hc6 hx8 r6
      go_wp2_with fail
      refine (pick_any w.heap.size _ _ 2 _ hc8.out (by omega) (by omega)).mono ?_
      rintro e w9 ⟨⟨z, rfl, hz, _⟩, hc9, hxc⟩
      have hzb := hz (by omega)
      have r9 := Lib.hid (r8.out.ex hxc (Dj.cb f5.out hcb))
      have hBf := Lib.hid (hB0.out _ (hxa.out.trans hxc))
      clear hxc hz hc8 hc9 hxa r8
      go_wp2
      refine bodyPost_ret (results_tmp3 rfl _ _ _) rfl ?_
      exact ⟨_, L, _, (x : Int) - 1, (y : Int) - (z : Int), by first | rfl | go_num, r9.out, hBf.out, hL, ⟨by omega, by omega⟩, ⟨by omega, by omega⟩⟩
    · have hB : Below w6.heap.size w6 (w6.alloc (.cells (ints [100000, 100001, -100000, 500]).toArray 3)) := (Below.refl _ _).alloc (Nat.le_refl _) _
      have hal := Lib.hid (among_any w.heap.size _ _ [100000, 100001, -100000, 500] _ _ (hc6.out.ex (Ex.of_below (F := []) hB) (by simp) (fun _ _ => by simp)) (by omega) (Rd.lits w6 _ (by simp)) (by simp) (by simp) (by intro b9 h9; simp [Value.ownBlock] at h9; omega))
      have hxl := Ex.of_below (F := [w.heap.size]) hB
      clear hB
      go_wp2_with fail
      refine hal.out.mono ?_
      rintro e w7 ⟨⟨k, hk, rfl⟩, hc7, hxm⟩
      have hy := gi_all (xs := [100000, 100001, -100000, 500]) (P := fun x => -100000 ≤ x ∧ x ≤ 100001) (by decide) hk
      generalize gi [100000, 100001, -100000, 500] k = q at *
      try dsimp only at hy
      have hyq := hy
      clear hy
      have hxn := Lib.hid (hx8.out.trans (hxl.trans hxm))
      have r7 := Lib.hid (r6.out.ex (hxl.trans hxm) (Dj.cb f5.out hcb))
      replace hc7 := Lib.hid hc7
      clear hal hk hxl hxm hc6 hx8 r6
      go_wp2_with fail
      refine (pick_any w.heap.size _ _ ((L.length : Int) + 2) _ hc7.out (by omega) (by omega)).mono ?_
      rintro e w8 ⟨⟨y, rfl, hy, _⟩, hc8, hx9⟩
      have hyb := hy (by omega)
      have hxa := Lib.hid (hxn.out.trans hx9)
      have r8 := Lib.hid (r7.out.ex hx9 (Dj.cb f5.out hcb))
      replace hc8 := Lib.hid hc8
      clear hx9 hy hc7 hxn r7
      go_wp2_with fail
      refine (pick_any w.heap.size _ _ 2 _ hc8.out (by omega) (by omega)).mono ?_
      rintro e w9 ⟨⟨z, rfl, hz, _⟩, hc9, hxc⟩
      have hzb := hz (by omega)
      have r9 := Lib.hid (r8.out.ex hxc (Dj.cb f5.out hcb))
      have hBf := Lib.hid (hB0.out _ (hxa.out.trans hxc))
      clear hxc hz hc8 hc9 hxa r8
      go_wp2
      refine bodyPost_ret (results_tmp3 rfl _ _ _) rfl ?_
      exact ⟨_, L, _, q, (y : Int) - (z : Int), by first | rfl | go_num, r9.out, hBf.out, hL, ⟨by omega, by omega⟩, ⟨by omega, by omega⟩⟩
end Go.Proofs.Ytbfffpdcpoejnaa
