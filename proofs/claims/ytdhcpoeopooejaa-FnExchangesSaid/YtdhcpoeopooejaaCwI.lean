/- CycleWrites. -/
import Derived.Test.YtdhcpoeopooejaaCwM
import Derived.Test.YtdhcpoeopooejaaSortI
import Derived.Test.YtdhcpoeopooejaaCopy
import Derived.Sort.OwnSortedInts
namespace Go.Proofs.Ytdhcpoeopooejaa
open Go.RowKit
set_option linter.unusedVariables false
set_option linter.unusedSimpArgs false

set_option maxHeartbeats 1000000 in
theorem impl_sorted_any (v : Value) (x : List Int) (w : World) (hv : Sl w 3 v (ints x)) (hl : x.length ≤ 1000000) :
    Calls Try.prog 54 #[v] w fun e w' => ∃ (ao : Option Addr) (c : Nat), e = .returned (.slice ao x.length c) ∧ Fresh w w' (.slice ao x.length c) (sortL x) := by
  replace hv := Lib.hid hv
  have hlen := Lib.hid (sortL_length x)
  by_cases h0 : x.length = 0
  · have hx : x = [] := List.eq_nil_of_length_eq_zero h0
    have hs : sortL x = x := by subst hx; exact List.eq_nil_of_length_eq_zero (by rw [sortL_length]; rfl)
    go_enter Try.func54, Try.ntmps54
    go_wp2_with fail
    refine (copyInt_any _ _ _ hv.out (by omega)).mono ?_
    rintro e w1 ⟨r, rfl, hf⟩
    obtain ⟨ao, c, rfl, _⟩ := hf.shape
    have hfr := Lib.hid hf.fresh
    clear hf
    rw [h0]
    go_wp2_with fail
    refine (sortInt_none ao c w1).mono ?_
    rintro e w2 ⟨rfl, rfl⟩
    go_wp2
    go_ret
    rw [h0] at hfr
    exact ⟨ao, c, by first | rfl | (rw [h0]; rfl), by first | (rw [hs, h0]; exact hfr.out) | (rw [hs]; exact hfr.out)⟩
  · go_enter Try.func54, Try.ntmps54
    go_wp2_with fail
    refine (copyInt_any _ _ _ hv.out (by omega)).mono ?_
    rintro e w1 ⟨r, rfl, hf⟩
    obtain ⟨ho, hb⟩ := hf
    obtain ⟨hl0, hh⟩ := ho
    rcases hh with ⟨_, hn⟩ | ⟨g, cap, cur, rfl, hg, hbk, h1, h2, h3, ht⟩
    · rw [ints_length] at hn; exact absurd hn h0
    · rw [ints_length] at h1 ht ⊢
      rw [Nat.mul_one] at ht
      have hgl : g < w1.heap.size := (Array.getElem?_eq_some_iff.1 hbk).1
      have hso := Lib.hid (sortInt_any g 0 cap x w1 (holds_of_blockI hbk ht) hgl (by omega))
      have hown := Lib.hid (fun n (os : Array Obj) => ownsRow_sortedI (w := w1) (base := w.heap.size) (n := n) (os := os) (ss := x) (ts := sortL x) hlen.out hg hbk h1 h2 h3)
      have hgr := Lib.hid (fun n (os : Array Obj) => grownBy_sortedI (w := w1) (g := g) (n := n) (os := os) (sortL x).toArray)
      replace hb := Lib.hid hb
      clear ht hbk
      go_wp2_with fail
      refine hso.out.mono ?_
      rintro e w2 ⟨rfl, n, os, hw2⟩
      replace hw2 : w2 = Go.Sort.grow (Go.Sort.putRow (Value.int .i64) (Go.Sort.ahead w1 n) g 0 (sortL x).toArray) os := hw2
      have ho2 : Own w2 3 w.heap.size (.slice (some ⟨g, 0, none⟩) x.length cap) (ints (sortL x)) := by
        unfold Own
        rw [hw2, ints_length, hlen.out]
        exact hown.out n os
      have hb2 : Below w.heap.size w w2 := by rw [hw2]; exact Below.thenGrown hb.out (hgr.out n os) hb.out.size (fun q hq => by injection hq with hq; omega)
      have hfin := Lib.hid (Fresh.of_own ho2 hb2)
      clear ho2 hb2 hso hw2
      go_wp2
      go_ret
      exact ⟨_, cap, rfl, hfin.out⟩

set_option maxRecDepth 10000 in
set_option maxHeartbeats 4000000 in
theorem impl_CycleWrites_law {v : Value} {x : List Int} {F : List Nat} {w : World} (r : RIntS w v x F) :
    Calls Try.prog 13 #[v] w fun e w' => e = .returned (.tuple #[.int .i64 (cwR x).1, .bool (cwR x).2]) ∧ Below w.heap.size w w' := by
  have hv := Lib.hid r.1
  clear r
  cases h : vlist x
  · have e0 : cwR x = (0, false) := by simp [cwR, h]
    rw [e0]
    go_enter Try.func13, Try.ntmps13
    go_wp2_with fail
    refine (isValidList_any _ _ _ (Sl.rd hv.out)).mono ?_
    rintro e w1 ⟨rfl, hb⟩
    rw [h]
    replace hb := Lib.hid hb
    go_wp2
    go_ret2
    exact ⟨rfl, hb.out⟩
  · have e0 : cwR x = (cwK x (sortL x) x.length, true) := by simp [cwR, h]
    have hl := (vlist_iff.1 h).1
    rw [e0]
    go_enter Try.func13, Try.ntmps13
    go_wp2_with fail
    refine (isValidList_any _ _ _ (Sl.rd hv.out)).mono ?_
    rintro e w1 ⟨rfl, hb⟩
    rw [h]
    replace hv := Lib.hid (hv.out.below hb hv.out.lt)
    replace hb := Lib.hid hb
    have hlx := hv.out.lt
    go_wp2_with fail
    refine (impl_sorted_any _ _ _ hv.out (by omega)).mono ?_
    rintro e w2 ⟨ao2, c2, rfl, hf⟩
    have hv2 := hv.out.below hf.law.2.2 hlx
    have hB := Lib.hid (Below.next hb.out hf.law.2.2)
    obtain ⟨ao, c, rfl, _, _, hcm, HX⟩ := hv2.openInts
    obtain ⟨_, _, hbe, _, _, _, HS⟩ := hf.1.openInts
    have hsl := sortL_length x
    rw [hsl] at HS
    have hkl := cwK_le x (sortL x)
    generalize hn : x.length = n at *
    generalize hSe : sortL x = S at *
    replace hSe := Lib.hid hSe
    simp only [Value.slice.injEq] at hbe
    obtain ⟨rfl, _, rfl⟩ := hbe
    replace HX := Lib.hid HX
    replace HS := Lib.hid HS
    replace hn := Lib.hid hn
    replace hsl := Lib.hid hsl
    replace hkl := Lib.hid hkl
    clear hf hv2 hlx hv hb
    go_wp2
    go_loopw [4, 15] (fun cv iv wr => ∃ i q : Nat, i ≤ n ∧ iv = .int .i64 (i : Nat) ∧ cv = .int .i64 ((cwK x S i : Nat) : Int) ∧ wr = w2.drewN q) (fun _ iv _ => n - (intOf iv).toNat)
    case atStart => exact ⟨0, 0, Nat.zero_le _, rfl, rfl, rfl⟩
    case round =>
      obtain ⟨i, q, hi, rfl, rfl, rfl⟩ := hrel
      have hki := hkl.out i
      by_cases hlt : i < n
      · obtain ⟨b, off, rfl, hR⟩ := HX.out (by omega)
        obtain ⟨b2, off2, rfl, hR2⟩ := HS.out (by omega)
        have hc1 : w2.cell? ⟨b, off + i, none⟩ = some (.int .i64 (gi x i)) := hR.cellInt (by rw [hn.out]; omega)
        have hc2 : w2.cell? ⟨b2, off2 + i, none⟩ = some (.int .i64 (gi S i)) := hR2.cellInt (by rw [hsl.out]; omega)
        have hnx : Hid (cwK x S (i + 1) = cwK x S i + if gi x i = gi S i then 0 else 1) := Lib.hid rfl
        clear hR hR2
        generalize gi x i = X at *
        generalize gi S i = Y at *
        generalize cwK x S i = k at *
        by_cases hxy : X = Y
        · subst hxy
          rw [if_pos rfl] at hnx
          go_wp2
          first | go_quiet (fail) | skip
          try go_wp2
          go_roundw
          case rel => exact ⟨i + 1, _, by omega, by go_num, by rw [hnx.out]; rfl, by first | rfl | exact World.drewN_drewN ..⟩
          case measure => simp [intOf]; omega
        · rw [if_neg hxy] at hnx
          have hyx : ¬ Y = X := fun e => hxy e.symm
          go_wp2
          first | go_quiet (fail) | skip
          try go_wp2
          go_roundw
          case rel => exact ⟨i + 1, _, by omega, by go_num, by rw [hnx.out]; go_num, by first | rfl | exact World.drewN_drewN ..⟩
          case measure => simp [intOf]; omega
      · obtain rfl : i = n := by omega
        go_wp2
        go_ret2
        exact ⟨by rw [hSe.out, hn.out]; rfl, Below.next hB.out (Below.drewN (Below.refl w2.heap.size w2) q)⟩

set_option maxRecDepth 10000 in
set_option maxHeartbeats 4000000 in
theorem spec_CycleWrites_law {v : Value} {x : List Int} {F : List Nat} {w : World} (r : RIntS w v x F) :
    Calls Try.prog 11 #[v] w fun e w' => e = .returned (.tuple #[.int .i64 (cwR x).1, .bool (cwR x).2]) ∧ Below w.heap.size w w' := by
  have hv := Lib.hid r.1
  clear r
  cases h : vlist x
  · have e0 : cwR x = (0, false) := by simp [cwR, h]
    rw [e0]
    go_enter Try.func11, Try.ntmps11
    go_wp2_with fail
    refine (l2List_any _ _ _ (Sl.rd hv.out)).mono ?_
    rintro e w1 ⟨rfl, rfl⟩
    rw [h]
    have hb := Lib.hid (Below.refl w.heap.size w)
    go_wp2
    go_ret2
    exact ⟨rfl, hb.out⟩
  · have e0 : cwR x = (cwK x (sortL x) x.length, true) := by simp [cwR, h]
    have hl := (vlist_iff.1 h).1
    rw [e0]
    go_enter Try.func11, Try.ntmps11
    go_wp2_with fail
    refine (l2List_any _ _ _ (Sl.rd hv.out)).mono ?_
    rintro e w1 ⟨rfl, rfl⟩
    rw [h]
    skip
    have hb := Lib.hid (Below.refl w.heap.size w)
    have hlx := hv.out.lt
    go_wp2_with fail
    refine (l2Sorted_any _ _ _ hv.out (by omega)).mono ?_
    rintro e w2 ⟨ao2, c2, L, rfl, hf, hpm, hasc⟩
    obtain rfl := sortL_unique hpm hasc
    have hv2 := hv.out.below hf.law.2.2 hlx
    have hB := Lib.hid (Below.next hb.out hf.law.2.2)
    obtain ⟨ao, c, rfl, _, _, hcm, HX⟩ := hv2.openInts
    obtain ⟨_, _, hbe, _, _, _, HS⟩ := hf.1.openInts
    have hsl := sortL_length x
    rw [hsl] at HS
    have hkl := cwK_le x (sortL x)
    generalize hn : x.length = n at *
    generalize hSe : sortL x = S at *
    replace hSe := Lib.hid hSe
    simp only [Value.slice.injEq] at hbe
    obtain ⟨rfl, _, rfl⟩ := hbe
    replace HX := Lib.hid HX
    replace HS := Lib.hid HS
    replace hn := Lib.hid hn
    replace hsl := Lib.hid hsl
    replace hkl := Lib.hid hkl
    clear hf hv2 hlx hv hb
    go_wp2
    go_loopw [5, 6] (fun cv iv wr => ∃ i q : Nat, i ≤ n ∧ iv = .int .i64 (i : Nat) ∧ cv = .int .i64 ((cwK x S i : Nat) : Int) ∧ wr = w2.drewN q) (fun _ iv _ => n - (intOf iv).toNat)
    case atStart => exact ⟨0, 0, Nat.zero_le _, rfl, rfl, rfl⟩
    case round =>
      obtain ⟨i, q, hi, rfl, rfl, rfl⟩ := hrel
      have hki := hkl.out i
      by_cases hlt : i < n
      · obtain ⟨b, off, rfl, hR⟩ := HX.out (by omega)
        obtain ⟨b2, off2, rfl, hR2⟩ := HS.out (by omega)
        have hc1 : w2.cell? ⟨b, off + i, none⟩ = some (.int .i64 (gi x i)) := hR.cellInt (by rw [hn.out]; omega)
        have hc2 : w2.cell? ⟨b2, off2 + i, none⟩ = some (.int .i64 (gi S i)) := hR2.cellInt (by rw [hsl.out]; omega)
        have hnx : Hid (cwK x S (i + 1) = cwK x S i + if gi x i = gi S i then 0 else 1) := Lib.hid rfl
        clear hR hR2
        generalize gi x i = X at *
        generalize gi S i = Y at *
        generalize cwK x S i = k at *
        by_cases hxy : X = Y
        · subst hxy
          rw [if_pos rfl] at hnx
          go_wp2
          first | go_quiet (fail) | skip
          try go_wp2
          go_roundw
          case rel => exact ⟨i + 1, _, by omega, by go_num, by rw [hnx.out]; rfl, by first | rfl | exact World.drewN_drewN ..⟩
          case measure => simp [intOf]; omega
        · rw [if_neg hxy] at hnx
          have hyx : ¬ Y = X := fun e => hxy e.symm
          go_wp2
          first | go_quiet (fail) | skip
          try go_wp2
          go_roundw
          case rel => exact ⟨i + 1, _, by omega, by go_num, by rw [hnx.out]; go_num, by first | rfl | exact World.drewN_drewN ..⟩
          case measure => simp [intOf]; omega
      · obtain rfl : i = n := by omega
        go_wp2
        go_ret2
        exact ⟨by rw [hSe.out, hn.out]; rfl, Below.next hB.out (Below.drewN (Below.refl w2.heap.size w2) q)⟩
end Go.Proofs.Ytdhcpoeopooejaa
