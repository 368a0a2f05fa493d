/- The draws of FnStrings: DrawFormatInt, DrawParseInt, DrawAppendChecksum. -/
import Derived.Test.YtoeonplbgbgjmaaDoorDrawT
import Derived.Test.YtoeonplbgbgjmaaDoorNum
namespace Go.Proofs.YtoeonplbgbgjmaaDoor
open Go.RowKit
set_option linter.unusedVariables false
set_option linter.unusedSimpArgs false

set_option maxRecDepth 10000 in
set_option maxHeartbeats 1000000 in
theorem DrawFormatInt_law {d : Value} {w : World} (h : RdBy w d) (hd : ∀ b, d.ownBlock = some b → b < w.heap.size) :
    Calls Tryd.prog 41 #[d] w fun e w' => ∃ n : Int, e = .returned (.int .i64 n) ∧ -2000000 ≤ n ∧ n ≤ 2000000 ∧ Below w.heap.size w w' := by
  have hc := Lib.hid (Cur.start h hd)
  obtain ⟨ao, n, c, rfl, h1, h2, _⟩ := h
  have hvb : Hid (∀ b, (Value.slice ao n c).ownBlock = some b → b < w.heap.size) := Lib.hid hd
  have hfin := Lib.hid (fun (w' : World) hx => newCur (w := w) (o := .cells #[.slice ao n c, .int .i64 0, .int .u64 0] 99) (w' := w') hx)
  have hsz0 : (w.alloc (.cells #[.slice ao n c, .int .i64 0, .int .u64 0] 99)).heap.size = w.heap.size + 1 := by simp
  clear hd
  go_enter Tryd.func41, Tryd.ntmps41
  go_wp2_with fail
  refine (pick_any _ _ 0 1000 _ hc.out (by omega) (by omega)).mono ?_
  rintro e w1 ⟨⟨x, rfl, hx, _⟩, hc1, hx1⟩
  have hx2 := hx (by omega)
  have hsz := hx1.size
  obtain ⟨z, hz⟩ : ∃ z : Int, z = (x : Int) - 500 := ⟨_, rfl⟩
  have hwz : IntKind.i64.wrap ((x : Int) - 500) = z := by rw [hz]; exact IntWalk.i64_in _ (by omega)
  have hB1 : Below w1.heap.size w1 (w1.alloc (.cells (ints [0, 1, -1, 10, 999999, -999999, 1000000, -1000000, z]).toArray 3)) := (Below.refl _ _).alloc (Nat.le_refl _) _
  have hal := Lib.hid (among_any _ _ _ [0, 1, -1, 10, 999999, -999999, 1000000, -1000000, z] _ _ (hc1.ex (Ex.of_below (F := []) hB1) (by simp) (fun _ _ => by simp)) (by omega) (Rd.lits w1 _ (by simp)) (by simp) (by simp) (by intro b9 h9; simp [Value.ownBlock] at h9; omega))
  have hxb := Lib.hid (hx1.trans (Ex.of_below (F := [w.heap.size]) hB1))
  have hbd : Hid (∀ i, i < 9 → -2000000 ≤ gi [0, 1, -1, 10, 999999, -999999, 1000000, -1000000, z] i ∧ gi [0, 1, -1, 10, 999999, -999999, 1000000, -1000000, z] i ≤ 2000000) := Lib.hid (by
    intro i hi
    match i, hi with
    | 0, _ => simp [gi]
    | 1, _ => simp [gi]
    | 2, _ => simp [gi]
    | 3, _ => simp [gi]
    | 4, _ => simp [gi]
    | 5, _ => simp [gi]
    | 6, _ => simp [gi]
    | 7, _ => simp [gi]
    | 8, _ => simp [gi]; omega)
  clear hc1 hx1 hB1 hx hz
  go_wp2_with fail
  refine hal.out.mono ?_
  rintro e w2 ⟨⟨i, hi, rfl⟩, hc2, hx3⟩
  have hb := hbd.out i (by simpa using hi)
  have hB := Lib.hid (hfin.out _ (hxb.out.trans hx3))
  generalize gi [0, 1, -1, 10, 999999, -999999, 1000000, -1000000, z] i = y at *
  clear hc2 hx3 hal
  go_wp2
  go_ret
  exact ⟨y, rfl, hb.1, hb.2, hB.out⟩
def numsL : List ByteArray := [⟨#[]⟩, ⟨#[45]⟩, ⟨#[45, 48]⟩, ⟨#[48, 48]⟩, ⟨#[48, 49]⟩, ⟨#[45, 45, 49]⟩, ⟨#[49, 120]⟩, ⟨#[57, 57, 57, 57, 57, 57]⟩, ⟨#[49, 48, 48, 48, 48, 48, 48]⟩, ⟨#[45, 57, 57, 57, 57, 57, 57]⟩, ⟨#[49, 56, 52, 52, 54, 55, 52, 52, 48, 55, 51, 55, 48, 57, 53, 53, 49, 54, 49, 55]⟩]
theorem numsL_small : ∀ i, i < numsL.length → (gs numsL i).size ≤ 100 := small_all (by decide +kernel)
set_option maxRecDepth 10000 in
set_option maxHeartbeats 1000000 in
theorem DrawParseInt_law {d : Value} {w : World} (h : RdBy w d) (hd : ∀ b, d.ownBlock = some b → b < w.heap.size) :
    Calls Tryd.prog 44 #[d] w fun e w' => ∃ s : ByteArray, e = .returned (.string s) ∧ s.size ≤ 100 ∧ Below w.heap.size w w' := by
  have hc := Lib.hid (Cur.start h hd)
  obtain ⟨ao, n, c, rfl, h1, h2, _⟩ := h
  have hvb : Hid (∀ b, (Value.slice ao n c).ownBlock = some b → b < w.heap.size) := Lib.hid hd
  have hfin := Lib.hid (fun (w' : World) hx => newCur (w := w) (o := .cells #[.slice ao n c, .int .i64 0, .int .u64 0] 99) (w' := w') hx)
  have hsz0 : (w.alloc (.cells #[.slice ao n c, .int .i64 0, .int .u64 0] 99)).heap.size = w.heap.size + 1 := by simp
  clear hd
  go_enter Tryd.func44, Tryd.ntmps44
  go_wp2_with fail
  refine (one_any _ _ 0 2 _ hc.out (by omega) (by omega)).mono ?_
  rintro e w1 ⟨⟨b, rfl⟩, hc1, hx1⟩
  have hsz := hx1.size
  cases b
  · go_wp2_with fail
    refine (pick_any _ _ _ 2000 _ hc1 (by omega) (by omega)).mono ?_
    rintro e w2 ⟨⟨x, rfl, hx, _⟩, hc2, hx2⟩
    have hxb := hx (by omega)
    have hB := Lib.hid (hfin.out _ (hx1.trans hx2))
    obtain ⟨z, hz⟩ : ∃ z : Int, z = (x : Int) - 1000 := ⟨_, rfl⟩
    have hwz : IntKind.i64.wrap ((x : Int) - 1000) = z := by rw [hz]; exact IntWalk.i64_in _ (by omega)
    have hzb : decB z = true := by rw [decB_iff]; omega
    have hln := itoa_len7 hzb
    have hb2 := decB_iff.1 hzb
    clear hc2 hx1 hx2 hc1 hx hz hzb
    go_wp2_with fail
    refine (l1Num_any z w2 (by omega)).mono ?_
    rintro e w3 ⟨rfl, hb3⟩
    have hB3 := Lib.hid (Below.next hB.out (by first | exact hb3 | exact Below.quiet hb3 | (subst hb3; exact Below.refl _ _)))
    clear hb3
    go_wp2
    go_ret
    exact ⟨_, rfl, by rw [strB_size]; omega, hB3.out⟩
  · have hal := Lib.hid (of_lits _ _ numsL _ 100 w1 hc1 (by omega) (fun b hb => by have := hvb.out b hb; omega) (by omega) (by decide) (by decide) (by omega) numsL_small)
    replace hx1 := Lib.hid hx1
    clear hc1
    go_wp2_with fail
    refine hal.out.mono ?_
    rintro e w2 ⟨⟨t, rfl, ht⟩, hc2, hx2⟩
    have hB := Lib.hid (hfin.out _ (hx1.out.trans hx2))
    clear hc2 hx2
    go_wp2
    go_ret
    exact ⟨t, rfl, ht, hB.out⟩
set_option maxRecDepth 10000 in
set_option maxHeartbeats 2000000 in
theorem DrawAppendChecksum_law {d : Value} {w : World} (h : RdBy w d) (hd : ∀ b, d.ownBlock = some b → b < w.heap.size) :
    Calls Tryd.prog 47 #[d] w fun e w' => ∃ s : ByteArray, e = .returned (.string s) ∧ s.size ≤ 5000 ∧ Below w.heap.size w w' := by
  have hc := Lib.hid (Cur.start h hd)
  obtain ⟨ao, n, c, rfl, h1, h2, _⟩ := h
  have hvb : Hid (∀ b, (Value.slice ao n c).ownBlock = some b → b < w.heap.size) := Lib.hid hd
  have hfin := Lib.hid (fun (w' : World) hx => newCur (w := w) (o := .cells #[.slice ao n c, .int .i64 0, .int .u64 0] 99) (w' := w') hx)
  have hsz0 : (w.alloc (.cells #[.slice ao n c, .int .i64 0, .int .u64 0] 99)).heap.size = w.heap.size + 1 := by simp
  obtain ⟨i8, hi8, hz8, hz1, hz2⟩ := info_parts infoU8
  clear hd
  go_enter Tryd.func47, Tryd.ntmps47
  go_wp2_with fail
  refine (one_any _ _ 0 20 _ hc.out (by omega) (by omega)).mono ?_
  rintro e w1 ⟨⟨b, rfl⟩, hc1, hx1⟩
  have hsz := hx1.size
  cases b
  · have hal := Lib.hid (any1_any _ _ _ w1 hc1 (by omega) (fun b hb => by have := hvb.out b hb; omega) (by omega))
    replace hx1 := Lib.hid hx1
    clear hc1 hi8 hz8 hz1 hz2
    go_wp2_with fail
    refine hal.out.mono ?_
    rintro e w2 ⟨⟨t, rfl, ht⟩, hc2, hx2⟩
    have hB := Lib.hid (hfin.out _ (hx1.out.trans hx2))
    clear hc2 hx2
    go_wp2
    go_ret
    exact ⟨t, rfl, by omega, hB.out⟩
  · go_wp2_with fail
    refine (pick_any _ _ _ 10 _ hc1 (by omega) (by omega)).mono ?_
    rintro e w2 ⟨⟨m, rfl, hm, _⟩, hc2, hx2⟩
    have hm20 := hm (by omega)
    have hB := Lib.hid (hfin.out _ (hx1.trans hx2))
    clear hm hc2 hc1 hx1 hx2
    obtain ⟨M, hM⟩ : ∃ M : Nat, (M : Int) = 3990 + (m : Int) := ⟨3990 + m, by omega⟩
    have hwM : IntKind.i64.wrap (3990 + (m : Int)) = (M : Int) := by rw [hM]; exact IntWalk.i64_in _ (by omega)
    have hMb : M ≤ 5000 := by omega
    clear hM
    go_wp2_with (at_make; refine wpList_make_full _ rfl _ _ 53 rfl w2.heap.size 5 i8 (.int .u8 0) 1 Tryd.underlying53 hi8 hz8 hz1 _ _ _ _ M rfl rfl rfl rfl (by rw [hz2]; omega) (by unfold maxLen; omega) (Nat.le_refl _) ?_)
    intro w4 hown hgrow
    have hrow := Row.of_owns hown
    rw [toList_madeCells_one] at hrow
    have hB4 := Lib.hid (Below.next hB.out (grownBy.below hgrow))
    obtain ⟨S, hSd⟩ : ∃ S, S = strOfNums (List.replicate M 0) := ⟨_, rfl⟩
    have hSz : S.size = M := by rw [hSd, strOfNums_size]; simp
    have hcv : (convert 53 9 (.slice (some ⟨w2.heap.size, 0, none⟩) M M)).run Tryd.prog w4 = .ok (.string S) w4 := by
      rw [hSd]
      exact run_convert_bytes_arg w4 _ _ Tryd.underlying53 Tryd.underlying5 w2.heap.size 0 M M (List.replicate M 0) (by simp) (fun i hi => by
        have := hrow.cell (i := i) (by simp; omega)
        rw [this]
        simp [List.getD_eq_getElem?_getD, hi]) _ Tryd.underlying9
    have hSb : S.size ≤ 5000 := by omega
    replace hSd := Lib.hid hSd
    replace hSz := Lib.hid hSz
    clear hown hgrow hrow
    go_wp2
    go_ret
    exact ⟨S, rfl, hSb, hB4.out⟩
end Go.Proofs.YtoeonplbgbgjmaaDoor
