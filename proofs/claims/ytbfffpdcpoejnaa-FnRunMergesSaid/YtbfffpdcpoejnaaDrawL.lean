/- The draws: DrawApplyPermutation, DrawComposePermutations, DrawRankPermutation. -/
import Derived.Test.YtbfffpdcpoejnaaDrawK
import Derived.Test.YtbfffpdcpoejnaaVHelp
namespace Go.Proofs.Ytbfffpdcpoejnaa
open Go.RowKit
set_option linter.unusedVariables false
set_option linter.unusedSimpArgs false

/-- What a draw has made. -/
theorem drawn {w w' : World} {o : Obj} {r : Value} {L : List Int} (hO : Own w' 3 (w.alloc o).heap.size r (ints L)) (hx : Ex [w.heap.size] (w.alloc o) w') :
    RIntS w' r L r.ownBlock.toList ∧ Fr w.heap.size r.ownBlock.toList ∧ Below w.heap.size w w' := by
  have hB0 : Below w.heap.size w (w.alloc o) := (Below.refl _ _).alloc (Nat.le_refl _) _
  exact (Fresh.of_own (hO.base (show w.heap.size ≤ _ by simp)) (Below.ex hB0 hx (fun x hx => by simp at hx; omega))).law

set_option maxRecDepth 10000 in
set_option maxHeartbeats 4000000 in
theorem DrawApplyPermutation_law {d : Value} {w : World} (h : RdBy w d) (hd : ∀ b, d.ownBlock = some b → b < w.heap.size) :
    Calls Try.prog 17 #[d] w fun e w' => ∃ (r : Value) (L : List Int) (F : List Nat) (s : Value) (M : List Int) (G : List Nat), e = .returned (.tuple #[r, s]) ∧ RIntS w' r L F ∧ RIntS w' s M G ∧ Below w.heap.size w w' ∧ L.length ≤ 100 ∧ M.length ≤ 100 := by
  have hc := Lib.hid (Cur.start h hd)
  obtain ⟨ao, n, c, rfl, h1, h2, _⟩ := h
  have hvb : Hid (∀ b, (Value.slice ao n c).ownBlock = some b → b < (w.alloc (.cells #[.slice ao n c, .int .i64 0, .int .u64 0] 60)).heap.size) := Lib.hid (fun b hb => by have := hd b hb; simp; omega)
  have hcb : w.heap.size < (w.alloc (.cells #[.slice ao n c, .int .i64 0, .int .u64 0] 60)).heap.size := by simp
  have hfin := Lib.hid (fun (w' : World) (r : Value) (L : List Int) hO hx => drawn (w := w) (o := .cells #[.slice ao n c, .int .i64 0, .int .u64 0] 60) (w' := w') (r := r) (L := L) hO hx)
  clear hd
  go_enter Try.func17, Try.ntmps17
  go_wp2_with fail
  refine (anyInts_any w.heap.size _ 0 _ hc.out hcb hvb.out (by omega)).mono ?_
  rintro e w1 ⟨r, L, rfl, hO, hL, hc1, hx1⟩
  obtain ⟨bo, d, rfl, _, _, _, _⟩ := hO.sl.openInts
  generalize hw0 : w.alloc (.cells #[.slice ao n c, .int .i64 0, .int .u64 0] 60) = w0 at *
  replace hw0 := Lib.hid hw0
  replace hO := Lib.hid hO
  replace hc1 := Lib.hid hc1
  replace hx1 := Lib.hid hx1
  clear hc
  go_wp2_with fail
  refine (one_any w.heap.size _ _ 8 _ hc1.out (by omega) (by omega)).mono ?_
  rintro e w2 ⟨⟨b, rfl⟩, hc2, hx2⟩
  have hO2 := Lib.hid (hO.out.exc hx2 hcb)
  have hx3 := Lib.hid (hx1.out.trans hx2)
  have hs3 := hx3.out.size
  replace hc2 := Lib.hid hc2
  clear hO hx1 hx2 hc1
  cases b
  · go_wp2_with fail
    refine (permutation_any w.heap.size _ _ L.length w2 hc2.out (by omega) (by omega) (by omega)).mono ?_
    rintro e w3 ⟨b3, c3, M, rfl, hMl, hM, _, _, hc3, hx4⟩
    have hO3 := Lib.hid (hO2.out.exc hx4 hcb)
    have hx5 := Lib.hid (hx3.out.trans hx4)
    have hM3 := Lib.hid (hM.base hs3)
    clear hM hx4 hO2 hx3 hc2 hc3
    go_wp2
    go_ret2
    exact ⟨_, M, _, _, L, _, rfl, (hfin.out _ _ _ hM3.out hx5.out).1, (hfin.out _ _ _ hO3.out hx5.out).1, (hfin.out _ _ _ hM3.out hx5.out).2.2, by omega, hL⟩
  · go_wp2_with fail
    refine (anyPermutation_any w.heap.size _ _ w2 hc2.out (by omega) (fun b hb => by have := hvb.out b hb; omega) (by omega)).mono ?_
    rintro e w3 ⟨r3, M, rfl, hM, hMl, hc3, hx4⟩
    have hO3 := Lib.hid (hO2.out.exc hx4 hcb)
    have hx5 := Lib.hid (hx3.out.trans hx4)
    have hM3 := Lib.hid (hM.base hs3)
    clear hM hx4 hO2 hx3 hc2 hc3
    go_wp2
    go_ret2
    exact ⟨_, M, _, _, L, _, rfl, (hfin.out _ _ _ hM3.out hx5.out).1, (hfin.out _ _ _ hO3.out hx5.out).1, (hfin.out _ _ _ hM3.out hx5.out).2.2, hMl, hL⟩

set_option maxRecDepth 10000 in
set_option maxHeartbeats 4000000 in
theorem DrawComposePermutations_law {d : Value} {w : World} (h : RdBy w d) (hd : ∀ b, d.ownBlock = some b → b < w.heap.size) :
    Calls Try.prog 21 #[d] w fun e w' => ∃ (r : Value) (L : List Int) (F : List Nat) (s : Value) (M : List Int) (G : List Nat), e = .returned (.tuple #[r, s]) ∧ RIntS w' r L F ∧ RIntS w' s M G ∧ Below w.heap.size w w' ∧ L.length ≤ 100 ∧ M.length ≤ 100 := by
  have hc := Lib.hid (Cur.start h hd)
  obtain ⟨ao, n, c, rfl, h1, h2, _⟩ := h
  have hvb : Hid (∀ b, (Value.slice ao n c).ownBlock = some b → b < (w.alloc (.cells #[.slice ao n c, .int .i64 0, .int .u64 0] 60)).heap.size) := Lib.hid (fun b hb => by have := hd b hb; simp; omega)
  have hcb : w.heap.size < (w.alloc (.cells #[.slice ao n c, .int .i64 0, .int .u64 0] 60)).heap.size := by simp
  have hfin := Lib.hid (fun (w' : World) (r : Value) (L : List Int) hO hx => drawn (w := w) (o := .cells #[.slice ao n c, .int .i64 0, .int .u64 0] 60) (w' := w') (r := r) (L := L) hO hx)
  clear hd
  go_enter Try.func21, Try.ntmps21
  go_wp2_with fail
  refine (anyPermutation_any w.heap.size _ 0 _ hc.out hcb hvb.out (by omega)).mono ?_
  rintro e w1 ⟨r, L, rfl, hO, hL, hc1, hx1⟩
  obtain ⟨bo, d, rfl, _, _, _, _⟩ := hO.sl.openInts
  generalize hw0 : w.alloc (.cells #[.slice ao n c, .int .i64 0, .int .u64 0] 60) = w0 at *
  replace hw0 := Lib.hid hw0
  replace hO := Lib.hid hO
  replace hc1 := Lib.hid hc1
  replace hx1 := Lib.hid hx1
  clear hc
  go_wp2_with fail
  refine (one_any w.heap.size _ _ 8 _ hc1.out (by omega) (by omega)).mono ?_
  rintro e w2 ⟨⟨b, rfl⟩, hc2, hx2⟩
  have hO2 := Lib.hid (hO.out.exc hx2 hcb)
  have hx3 := Lib.hid (hx1.out.trans hx2)
  have hs3 := hx3.out.size
  replace hc2 := Lib.hid hc2
  clear hO hx1 hx2 hc1
  cases b
  · go_wp2_with fail
    refine (permutation_any w.heap.size _ _ L.length w2 hc2.out (by omega) (by omega) (by omega)).mono ?_
    rintro e w3 ⟨b3, c3, M, rfl, hMl, hM, _, _, hc3, hx4⟩
    have hO3 := Lib.hid (hO2.out.exc hx4 hcb)
    have hx5 := Lib.hid (hx3.out.trans hx4)
    have hM3 := Lib.hid (hM.base hs3)
    clear hM hx4 hO2 hx3 hc2 hc3
    go_wp2
    go_ret2
    exact ⟨_, L, _, _, M, _, rfl, (hfin.out _ _ _ hO3.out hx5.out).1, (hfin.out _ _ _ hM3.out hx5.out).1, (hfin.out _ _ _ hM3.out hx5.out).2.2, hL, by omega⟩
  · go_wp2_with fail
    refine (anyPermutation_any w.heap.size _ _ w2 hc2.out (by omega) (fun b hb => by have := hvb.out b hb; omega) (by omega)).mono ?_
    rintro e w3 ⟨r3, M, rfl, hM, hMl, hc3, hx4⟩
    have hO3 := Lib.hid (hO2.out.exc hx4 hcb)
    have hx5 := Lib.hid (hx3.out.trans hx4)
    have hM3 := Lib.hid (hM.base hs3)
    clear hM hx4 hO2 hx3 hc2 hc3
    go_wp2
    go_ret2
    exact ⟨_, L, _, _, M, _, rfl, (hfin.out _ _ _ hO3.out hx5.out).1, (hfin.out _ _ _ hM3.out hx5.out).1, (hfin.out _ _ _ hM3.out hx5.out).2.2, hL, hMl⟩
end Go.Proofs.Ytbfffpdcpoejnaa
