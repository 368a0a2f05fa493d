/- The draws: DrawIsSorted, DrawInsertionSort. -/
import Derived.Test.YtdhcpoeopooejaaDrawL
import Derived.Test.YtdhcpoeopooejaaL2S
namespace Go.Proofs.Ytdhcpoeopooejaa
open Go.RowKit
set_option linter.unusedVariables false
set_option linter.unusedSimpArgs false

theorem Ex.setNew {F : List Nat} {a b : World} (h : Ex F a b) {p : Addr} (hp : a.heap.size ≤ p.block) {v : Value} : Ex F a (b.setCell p v) :=
  ⟨h.os, h.tape, h.output, by simpa [World.setCell] using h.size, fun k hk hr => (heap_setCell_other b p k v (by omega)).trans (h.block k hk hr)⟩
theorem Dj.cb {F : List Nat} {B cb : Nat} (h : Fr B F) (hc : cb < B) : Dj F [cb] := fun b hb hc2 => by
  have := h b hb
  simp at hc2
  omega
/-- A slice of one's own with elements i and i + 1 exchanged. -/
theorem RIntS.swapped {w : World} {n c b off i : Nat} {L : List Int} {F : List Nat} (r : RIntS w (.slice (some ⟨b, off, none⟩) n c) L F) (hi : i + 1 < n) (x y : Int) :
    RIntS ((w.setCell ⟨b, off + i, none⟩ (.int .i64 x)).setCell ⟨b, off + (i + 1), none⟩ (.int .i64 y)) (.slice (some ⟨b, off, none⟩) n c) ((L.set i x).set (i + 1) y) F :=
  ⟨(r.1.setInt (i := i) (by omega) x).setInt (i := i + 1) hi y, r.2⟩

set_option maxRecDepth 10000 in
set_option maxHeartbeats 4000000 in
theorem DrawIsSorted_law {d : Value} {w : World} (h : RdBy w d) (hd : ∀ b, d.ownBlock = some b → b < w.heap.size) :
    Calls Try.prog 90 #[d] w fun e w' => ∃ (r : Value) (L : List Int) (F : List Nat), e = .returned r ∧ RIntS w' r L F ∧ Fr w.heap.size F ∧ Below w.heap.size w w' ∧ L.length ≤ 100 := by
  have hc := Lib.hid (Cur.start h hd)
  obtain ⟨ao, n, c, rfl, h1, h2, _⟩ := h
  have hvb : Hid (∀ b, (Value.slice ao n c).ownBlock = some b → b < (w.alloc (.cells #[.slice ao n c, .int .i64 0, .int .u64 0] 95)).heap.size) := Lib.hid (fun b hb => by have := hd b hb; simp; omega)
  have hcb : w.heap.size < (w.alloc (.cells #[.slice ao n c, .int .i64 0, .int .u64 0] 95)).heap.size := by simp
  have hfin := Lib.hid (fun (w' : World) (r : Value) (L : List Int) hO hx => drawn (w := w) (o := .cells #[.slice ao n c, .int .i64 0, .int .u64 0] 95) (w' := w') (r := r) (L := L) hO hx)
  have hB0 : Hid (∀ w', Ex [w.heap.size] (w.alloc (.cells #[.slice ao n c, .int .i64 0, .int .u64 0] 95)) w' → Below w.heap.size w w') := Lib.hid (fun w' hx =>
    Below.ex ((Below.refl _ _).alloc (Nat.le_refl _) _) hx (fun x hx => by simp at hx; omega))
  clear hd
  go_enter Try.func90, Try.ntmps90
  go_wp2_with fail
  refine (anyInts_any w.heap.size _ 0 _ hc.out hcb hvb.out (by omega)).mono ?_
  rintro e w1 ⟨r, L, rfl, hO, hL, hc1, hx1⟩
  obtain ⟨bo, dc, rfl, _, _, _, _⟩ := hO.sl.openInts
  generalize hw0 : w.alloc (.cells #[.slice ao n c, .int .i64 0, .int .u64 0] 95) = w0 at *
  replace hw0 := Lib.hid hw0
  have hs1 := hx1.size
  replace hO := Lib.hid hO
  replace hc1 := Lib.hid hc1
  replace hx1 := Lib.hid hx1
  clear hc
  have hlist := Lib.hid (l2List_any _ _ _ hO.out.sl.rd)
  cases hvl : vlist L
  · rw [hvl] at hlist
    go_wp2_with fail
    refine hlist.out.mono ?_
    rintro e w2 ⟨rfl, rfl⟩
    clear hlist
    go_wp2
    go_ret
    exact ⟨_, L, _, rfl, (hfin.out _ _ _ hO.out hx1.out).1, (hfin.out _ _ _ hO.out hx1.out).2.1, hB0.out _ hx1.out, hL⟩
  · rw [hvl] at hlist
    go_wp2_with fail
    refine hlist.out.mono ?_
    rintro e w2 ⟨rfl, rfl⟩
    clear hlist
    go_wp2_with fail
    refine (one_any w.heap.size _ _ 2 _ hc1.out (by omega) (by omega)).mono ?_
    rintro e w2 ⟨⟨b, rfl⟩, hc2, hx2⟩
    have hO2 := Lib.hid (hO.out.exc hx2 hcb)
    have hx3 := Lib.hid (hx1.out.trans hx2)
    have hs3 := hx3.out.size
    replace hc2 := Lib.hid hc2
    clear hO hx1 hx2 hc1
    cases b
    · go_wp2
      go_ret
      exact ⟨_, L, _, rfl, (hfin.out _ _ _ hO2.out hx3.out).1, (hfin.out _ _ _ hO2.out hx3.out).2.1, hB0.out _ hx3.out, hL⟩
    · go_wp2_with fail
      refine (l2Sorted_any _ L _ hO2.out.sl (by omega)).mono ?_
      rintro e w4 ⟨ao2, cap, M, rfl, hf, hpm, _⟩
      have hMl := Lib.hid hpm.length_eq
      obtain ⟨r4, f4, hb4⟩ := hf.law
      have hx4 := Lib.hid (hx3.out.trans (Ex.of_below hb4))
      have hs4 := hx4.out.size
      have hc4 := Lib.hid (hc2.out.ex (Ex.of_below (F := []) hb4) (by simp) (fun _ _ => by simp))
      have f5 := Lib.hid (Fr.le hs3 f4)
      replace r4 := Lib.hid r4
      clear hf hb4 f4 hpm hO2 hx3 hc2
      generalize hF : (Value.slice ao2 L.length cap).ownBlock.toList = F at r4 f5
      replace hF := Lib.hid hF
      have hfr := Lib.hid (Fr.le (Nat.le_of_lt hcb) f5.out)
      by_cases hgt : 1 < (L.length : Int)
      · go_wp2_with fail
        refine (one_any w.heap.size _ _ 2 _ hc4.out (by omega) (by omega)).mono ?_
        rintro e w5 ⟨⟨b, rfl⟩, hc5, hx5⟩
        have hx6 := Lib.hid (hx4.out.trans hx5)
        have r5 := Lib.hid (r4.out.ex hx5 (Dj.cb f5.out hcb))
        have hs6 := hx6.out.size
        replace hc5 := Lib.hid hc5
        clear hx5 hx4 r4 hc4
        cases b
        · go_wp2
          go_ret
          exact ⟨_, M, F, rfl, r5.out, hfr.out, hB0.out _ hx6.out, by rw [hMl.out]; exact hL⟩
        · go_wp2_with fail
          refine (pick_any w.heap.size _ _ ((L.length : Int) - 1) _ hc5.out (by omega) (by omega)).mono ?_
          rintro e w7 ⟨⟨i, rfl, hi1, _⟩, hc7, hx7⟩
          have hi := hi1 (by omega)
          have hx8 := Lib.hid (hx6.out.trans hx7)
          have r7 := r5.out.ex hx7 (Dj.cb f5.out hcb)
          obtain ⟨b, off, rfl, _, hR⟩ := r7.1.rowInts (by omega)
          have hbw : w0.heap.size ≤ b := f5.out b (by rw [← hF.out]; simp [Value.ownBlock])
          have hk1 : w7.cell? ⟨b, off + i, none⟩ = some (.int .i64 (gi M i)) := hR.cellInt (by rw [hMl.out]; omega)
          have hk2 : w7.cell? ⟨b, off + (i + 1), none⟩ = some (.int .i64 (gi M (i + 1))) := hR.cellInt (by rw [hMl.out]; omega)
          have hf1 := hR.frozen (off + i)
          have hf2 := hR.frozen (off + (i + 1))
          have r9 := Lib.hid (r7.swapped (i := i) (by omega) (gi M (i + 1)) (gi M i))
          have hx9 := Lib.hid (Ex.setNew (p := ⟨b, off + (i + 1), none⟩) (Ex.setNew (p := ⟨b, off + i, none⟩) hx8.out hbw (v := .int .i64 (gi M (i + 1)))) hbw (v := .int .i64 (gi M i)))
          have hln9 := Lib.hid (show ((M.set i (gi M (i + 1))).set (i + 1) (gi M i)).length ≤ 100 by simp; rw [hMl.out]; exact hL)
          have hi2 : (0 : Int) ≤ (i : Int) := by omega
          have hi3 : (i : Int) + 1 < (L.length : Int) := by omega
          clear hx7 hx6 hx8 r5 hc5 hc7 hi1 hR r7
          generalize (M.set i (gi M (i + 1))).set (i + 1) (gi M i) = M2 at *
          generalize gi M i = X at *
          generalize gi M (i + 1) = Y at *
          generalize L.length = m at *
          go_wp2
          go_ret
          exact ⟨_, M2, F, rfl, r9.out, hfr.out, hB0.out _ hx9.out, hln9.out⟩
      · go_wp2
        go_ret
        first
          | exact ⟨_, M, F, rfl, r4.out, hfr.out, hB0.out _ hx4.out, by rw [hMl.out]; exact hL⟩
          | exact ⟨_, rfl, M, F, r4.out, hfr.out, hB0.out _ hx4.out, by rw [hMl.out]; exact hL⟩
          | exact ⟨_, rfl, M, ⟨F, r4.out, hfr.out⟩, hB0.out _ hx4.out, by rw [hMl.out]; exact hL⟩

end Go.Proofs.Ytdhcpoeopooejaa
