/- The law's own helpers on integer slices: toIntS, eqIntS, markIntS, heldIntS. -/
import Derived.Test.YtdhcpoeopooejaaBase
namespace Go.Proofs.Ytdhcpoeopooejaa
open Go.RowKit
set_option linter.unusedVariables false
set_option linter.unusedSimpArgs false

set_option maxHeartbeats 400000 in
theorem toIntS_any (v : Value) (xs : List Int) (w : World) (hv : Rd w v xs) (hl : xs.length ≤ 1048576) :
    Calls Try.prog 12 #[v] w fun e w' => e = .returned (.slice (some ⟨w.heap.size, 0, none⟩) xs.length xs.length) ∧ Sl w' 3 (.slice (some ⟨w.heap.size, 0, none⟩) xs.length xs.length) (ints xs) ∧ Below w.heap.size w w' := by
  obtain ⟨i0, hi, hz0, hz1, hz2⟩ := info_parts info3
  obtain ⟨ao, c, rfl, _, _, hcells⟩ := hv
  have HC := Lib.hid hcells
  clear hcells
  generalize hn : xs.length = n at *
  have HN := Lib.hid hn
  clear hn
  go_enter Try.func12, Try.ntmps12
  go_wp2_with (at_make; refine wpList_make_full _ rfl _ _ 22 rfl w.heap.size 3 i0 (.int .i64 0) 1 Try.underlying22 hi hz0 hz1 _ _ _ _ n rfl rfl rfl rfl (by rw [hz2]; omega) (by unfold maxLen; omega) (Nat.le_refl _) ?_)
  intro w1 hown hgrow
  have hrow := Row.of_owns hown
  rw [made_ints] at hrow
  have HR := Lib.hid hrow
  have HG := Lib.hid hgrow
  clear hrow hown hgrow hi hz0 hz1 hz2
  go_wp2
  go_loopw [4] (fun i wr => ∃ k : Nat, k ≤ n ∧ i = .int .i64 k ∧ Row wr 3 w.heap.size 0 n (ints (xs.take k ++ List.replicate (n - k) 0)) ∧ w.grownBy wr none) (fun i _ => n - (intOf i).toNat)
  case atStart => exact ⟨0, Nat.zero_le _, rfl, by simpa using HR.out, HG.out⟩
  case round =>
    obtain ⟨k, hk, rfl, hrow, hgrow⟩ := hrel
    by_cases hlt : k < n
    · have hg2 := hrow.lt
      have hb0 := HG.out.size
      obtain ⟨b, off, rfl, hR⟩ := HC.out (by omega)
      have hc1 : wr.cell? ⟨b, off + k, none⟩ = some (.int .i64 (gi xs k)) := by
        have h0 := hR k hlt
        rw [World.cell?_of_block (w := w) (hgrow.block b (block_lt_of_cell h0) (by simp))]
        exact h0
      obtain ⟨y, hy⟩ : ∃ y, wr.cell? ⟨w.heap.size, k, none⟩ = some y := by
        have := hrow.cell (i := k) (by simp [HN.out]; omega)
        rw [Nat.zero_add] at this
        exact ⟨_, this⟩
      have hf := hrow.frozen k
      have HS := Lib.hid hrow
      have HG2 := Lib.hid hgrow
      clear hrow hgrow
      go_wp2
      go_roundw
      case rel =>
        refine ⟨k + 1, by omega, by go_num, ?_, ?_⟩
        · have := HS.out.setInt (i := k) (by simp [HN.out]; omega) (gi xs k)
          rw [take_set xs n k HN.out hlt, Nat.zero_add] at this
          exact this
        · exact grownBy.setNew HG2.out (Nat.le_refl _)
      case measure => simp [intOf]; omega
    · have HS := Lib.hid hrow
      have HG2 := Lib.hid hgrow
      clear hrow hgrow
      go_wp2
      go_ret
      obtain rfl : k = n := by omega
      refine ⟨rfl, ?_, grownBy.below HG2.out⟩
      have h3 := HS.out
      rw [List.take_of_length_le (by rw [HN.out]; omega), Nat.sub_self, List.replicate_zero, List.append_nil] at h3
      have h4 := Sl.of_row h3
      rwa [ints_length, HN.out] at h4
end Go.Proofs.Ytdhcpoeopooejaa
