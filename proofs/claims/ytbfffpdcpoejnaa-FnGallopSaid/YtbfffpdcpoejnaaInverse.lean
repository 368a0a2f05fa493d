/- InversePermutation. -/
import Derived.Test.YtbfffpdcpoejnaaApply
namespace Go.Proofs.Ytbfffpdcpoejnaa
open Go.RowKit
set_option linter.unusedVariables false
set_option linter.unusedSimpArgs false

/-- The inverse, as it is written element by element: after k steps. -/
def invK (p : List Int) : Nat → List Int
  | 0 => List.replicate p.length 0
  | k + 1 => (invK p k).set (gi p k).toNat k
@[simp] theorem invK_length (p : List Int) (k : Nat) : (invK p k).length = p.length := by
  induction k with
  | zero => simp [invK]
  | succ k ih => simp [invK, ih]
/-- The result of InversePermutation. -/
def invR (p : List Int) : List Int × Bool := if goodP p then (invK p p.length, true) else ([], false)
theorem invR_len (p : List Int) : (invR p).1.length ≤ 100000000000 := by
  unfold invR
  split
  · rename_i h
    have := (goodP_iff.1 h).1
    simp; omega
  · simp

set_option maxHeartbeats 400000 in
theorem impl_inverse_any (v : Value) (p : List Int) (w : World) (hv : Rd w v p) (hr : inR p p.length) (hl : p.length ≤ 1000) :
    Calls Try.prog 58 #[v] w fun e w' => ∃ r, e = .returned r ∧ Fresh w w' r (invK p p.length) := by
  obtain ⟨i0, hi, hz0, hz1, hz2⟩ := info_parts info3
  obtain ⟨ao, c, rfl, h1, h2, HA⟩ := hv
  unfold maxLen at h2
  generalize hn : p.length = n at *
  replace HA := Lib.hid HA
  replace hn := Lib.hid hn
  replace hr := Lib.hid hr
  go_enter Try.func58, Try.ntmps58
  go_wp2_with (at_make; refine wpList_make_full _ rfl _ _ 24 rfl w.heap.size 3 i0 (.int .i64 0) 1 Try.underlying24 hi hz0 hz1 _ _ _ _ n rfl rfl rfl rfl (by rw [hz2]; omega) (by unfold maxLen; omega) (Nat.le_refl _) ?_)
  intro w1 hown hgrow
  have hrow := Row.of_owns hown
  rw [made_ints, show List.replicate n 0 = invK p 0 by rw [invK, hn.out]] at hrow
  have HR := Lib.hid hrow
  have HG := Lib.hid hgrow
  clear hrow hown hgrow hi hz0 hz1 hz2
  go_wp2
  go_loopw [11] (fun i wr => ∃ k : Nat, k ≤ n ∧ i = .int .i64 k ∧ Row wr 3 w.heap.size 0 n (ints (invK p k)) ∧ w.grownBy wr none) (fun i _ => n - (intOf i).toNat)
  case atStart => exact ⟨0, Nat.zero_le _, rfl, HR.out, HG.out⟩
  case round =>
    obtain ⟨k, hk, rfl, hrow, hgrow⟩ := hrel
    by_cases hlt : k < n
    · obtain ⟨b, off, rfl, hR⟩ := HA.out (by omega)
      have hx0 := hr.out k (by rw [hn.out]; omega)
      have hc1 : wr.cell? ⟨b, off + k, none⟩ = some (.int .i64 (gi p k)) := by
        have h0 := hR k hlt
        rw [World.cell?_of_block (w := w) (hgrow.block b (block_lt_of_cell h0) (by simp))]
        exact h0
      clear hR
      generalize hx : gi p k = x at *
      replace hx := Lib.hid hx
      obtain ⟨X, rfl⟩ := Int.eq_ofNat_of_zero_le hx0.1
      have hX : X < n := by omega
      obtain ⟨y, hy⟩ : ∃ y, wr.cell? ⟨w.heap.size, X, none⟩ = some y := by
        have := hrow.cellInt (i := X) (by simp [hn.out]; omega)
        rw [Nat.zero_add] at this
        exact ⟨_, this⟩
      have hf := hrow.frozen X
      replace hrow := Lib.hid hrow
      replace hgrow := Lib.hid hgrow
      go_wp2
      go_roundw
      case rel =>
        refine ⟨k + 1, by omega, by go_num, ?_, grownBy.setNew hgrow.out (Nat.le_refl _)⟩
        have := hrow.out.setInt (i := X) (by simp [hn.out]; omega) k
        rw [Nat.zero_add] at this
        rw [invK, hx.out, Int.toNat_natCast]
        exact this
      case measure => simp [intOf]; omega
    · obtain rfl : k = n := by omega
      replace hgrow := Lib.hid hgrow
      replace hrow := Lib.hid hrow
      go_wp2
      go_ret
      refine ⟨_, rfl, ?_, fun q hq => ?_, grownBy.below hgrow.out⟩
      · have h4 := Sl.of_row hrow.out
        rwa [ints_length, invK_length, hn.out] at h4
      · simp [Value.ownBlock] at hq; omega
set_option maxHeartbeats 400000 in
theorem l3Inverse_any (v : Value) (p : List Int) (w : World) (hv : Rd w v p) (hr : inR p p.length) (hl : p.length ≤ 1000) :
    Calls Try.prog 60 #[v] w fun e w' => ∃ r, e = .returned r ∧ Fresh w w' r (invK p p.length) := by
  obtain ⟨i0, hi, hz0, hz1, hz2⟩ := info_parts info3
  obtain ⟨ao, c, rfl, h1, h2, HA⟩ := hv
  unfold maxLen at h2
  generalize hn : p.length = n at *
  replace HA := Lib.hid HA
  replace hn := Lib.hid hn
  replace hr := Lib.hid hr
  go_enter Try.func60, Try.ntmps60
  go_wp2_with (at_make; refine wpList_make_full _ rfl _ _ 24 rfl w.heap.size 3 i0 (.int .i64 0) 1 Try.underlying24 hi hz0 hz1 _ _ _ _ n rfl rfl rfl rfl (by rw [hz2]; omega) (by unfold maxLen; omega) (Nat.le_refl _) ?_)
  intro w1 hown hgrow
  have hrow := Row.of_owns hown
  rw [made_ints, show List.replicate n 0 = invK p 0 by rw [invK, hn.out]] at hrow
  have HR := Lib.hid hrow
  have HG := Lib.hid hgrow
  clear hrow hown hgrow hi hz0 hz1 hz2
  go_wp2
  go_loopw [4] (fun i wr => ∃ k : Nat, k ≤ n ∧ i = .int .i64 k ∧ Row wr 3 w.heap.size 0 n (ints (invK p k)) ∧ w.grownBy wr none) (fun i _ => n - (intOf i).toNat)
  case atStart => exact ⟨0, Nat.zero_le _, rfl, HR.out, HG.out⟩
  case round =>
    obtain ⟨k, hk, rfl, hrow, hgrow⟩ := hrel
    by_cases hlt : k < n
    · obtain ⟨b, off, rfl, hR⟩ := HA.out (by omega)
      have hx0 := hr.out k (by rw [hn.out]; omega)
      have hc1 : wr.cell? ⟨b, off + k, none⟩ = some (.int .i64 (gi p k)) := by
        have h0 := hR k hlt
        rw [World.cell?_of_block (w := w) (hgrow.block b (block_lt_of_cell h0) (by simp))]
        exact h0
      clear hR
      generalize hx : gi p k = x at *
      replace hx := Lib.hid hx
      obtain ⟨X, rfl⟩ := Int.eq_ofNat_of_zero_le hx0.1
      have hX : X < n := by omega
      obtain ⟨y, hy⟩ : ∃ y, wr.cell? ⟨w.heap.size, X, none⟩ = some y := by
        have := hrow.cellInt (i := X) (by simp [hn.out]; omega)
        rw [Nat.zero_add] at this
        exact ⟨_, this⟩
      have hf := hrow.frozen X
      replace hrow := Lib.hid hrow
      replace hgrow := Lib.hid hgrow
      go_wp2
      go_roundw
      case rel =>
        refine ⟨k + 1, by omega, by go_num, ?_, grownBy.setNew hgrow.out (Nat.le_refl _)⟩
        have := hrow.out.setInt (i := X) (by simp [hn.out]; omega) k
        rw [Nat.zero_add] at this
        rw [invK, hx.out, Int.toNat_natCast]
        exact this
      case measure => simp [intOf]; omega
    · obtain rfl : k = n := by omega
      replace hgrow := Lib.hid hgrow
      replace hrow := Lib.hid hrow
      go_wp2
      go_ret
      refine ⟨_, rfl, ?_, fun q hq => ?_, grownBy.below hgrow.out⟩
      · have h4 := Sl.of_row hrow.out
        rwa [ints_length, invK_length, hn.out] at h4
      · simp [Value.ownBlock] at hq; omega

set_option maxHeartbeats 400000 in
theorem impl_InversePermutation_law {v : Value} {p : List Int} {F : List Nat} {w : World} (r : RIntS w v p F) :
    Calls Try.prog 13 #[v] w fun e w' => ∃ r F, e = .returned (.tuple #[r, .bool (invR p).2]) ∧ RIntS w' r (invR p).1 F ∧ Fr w.heap.size F ∧ Below w.heap.size w w' ∧ (invR p).1.length ≤ 100000000000 := by
  have hv := Lib.hid r.rd
  clear r
  have hlen := Lib.hid (invR_len p)
  have fin : ∀ (w' : World) (u : Value), Fresh w w' u (invR p).1 → ∃ r F, Ending.returned (.tuple #[u, .bool (invR p).2]) = .returned (.tuple #[r, .bool (invR p).2]) ∧ RIntS w' r (invR p).1 F ∧ Fr w.heap.size F ∧ Below w.heap.size w w' ∧ (invR p).1.length ≤ 100000000000 :=
    fun w' u hf => ⟨u, _, rfl, hf.law.1, hf.law.2.1, hf.law.2.2, hlen.out⟩
  replace fin := Lib.hid fin
  cases h : goodP p
  · have e0 : invR p = ([], false) := by simp [invR, h]
    rw [e0] at fin ⊢
    clear e0
    go_enter Try.func13, Try.ntmps13
    go_wp2_with fail
    refine (impl_permOk_any _ _ _ hv.out).mono ?_
    rintro e w1 ⟨rfl, hb⟩
    replace hb := Lib.hid hb
    go_wp2
    go_ret2
    exact fin.out _ _ (Fresh.nil hb.out)
  · have e0 : invR p = (invK p p.length, true) := by simp [invR, h]
    rw [e0] at fin ⊢
    clear e0
    go_enter Try.func13, Try.ntmps13
    go_wp2_with fail
    refine (impl_permOk_any _ _ _ hv.out).mono ?_
    rintro e w1 ⟨rfl, hb⟩
    replace hb := Lib.hid hb
    go_wp2_with fail
    refine (impl_inverse_any _ _ _ (hv.out.below hb.out) (inR_good h) (by have := (goodP_iff.1 h).1; omega)).mono ?_
    rintro e w2 ⟨u, rfl, hf⟩
    replace hf := Lib.hid hf
    go_wp2
    go_ret2
    exact fin.out _ _ ⟨hf.out.1, fun k hk => Nat.le_trans hb.out.size (hf.out.2.1 k hk), Below.next hb.out hf.out.2.2⟩

set_option maxHeartbeats 400000 in
theorem spec_InversePermutation_law {v : Value} {p : List Int} {F : List Nat} {w : World} (r : RIntS w v p F) :
    Calls Try.prog 14 #[v] w fun e w' => ∃ r F, e = .returned (.tuple #[r, .bool (invR p).2]) ∧ RIntS w' r (invR p).1 F ∧ Fr w.heap.size F ∧ Below w.heap.size w w' ∧ (invR p).1.length ≤ 100000000000 := by
  have hv := Lib.hid r.rd
  clear r
  have hlen := Lib.hid (invR_len p)
  have fin : ∀ (w' : World) (u : Value), Fresh w w' u (invR p).1 → ∃ r F, Ending.returned (.tuple #[u, .bool (invR p).2]) = .returned (.tuple #[r, .bool (invR p).2]) ∧ RIntS w' r (invR p).1 F ∧ Fr w.heap.size F ∧ Below w.heap.size w w' ∧ (invR p).1.length ≤ 100000000000 :=
    fun w' u hf => ⟨u, _, rfl, hf.law.1, hf.law.2.1, hf.law.2.2, hlen.out⟩
  replace fin := Lib.hid fin
  cases h : goodP p
  · have e0 : invR p = ([], false) := by simp [invR, h]
    rw [e0] at fin ⊢
    clear e0
    go_enter Try.func14, Try.ntmps14
    go_wp2_with fail
    refine (l3Good_any _ _ _ hv.out).mono ?_
    rintro e w1 ⟨rfl, hb⟩
    replace hb := Lib.hid hb
    go_wp2
    go_ret2
    exact fin.out _ _ (Fresh.empty hb.out)
  · have e0 : invR p = (invK p p.length, true) := by simp [invR, h]
    rw [e0] at fin ⊢
    clear e0
    go_enter Try.func14, Try.ntmps14
    go_wp2_with fail
    refine (l3Good_any _ _ _ hv.out).mono ?_
    rintro e w1 ⟨rfl, hb⟩
    replace hb := Lib.hid hb
    go_wp2_with fail
    refine (l3Inverse_any _ _ _ (hv.out.below hb.out) (inR_good h) (by have := (goodP_iff.1 h).1; omega)).mono ?_
    rintro e w2 ⟨u, rfl, hf⟩
    replace hf := Lib.hid hf
    go_wp2
    go_ret2
    exact fin.out _ _ ⟨hf.out.1, fun k hk => Nat.le_trans hb.out.size (hf.out.2.1 k hk), Below.next hb.out hf.out.2.2⟩
end Go.Proofs.Ytbfffpdcpoejnaa
