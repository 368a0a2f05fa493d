/- The law's own helpers markIntS and heldIntS: marks written into a slice, and read back. -/
import Derived.Test.YtdhcpoeopooejaaBase
namespace Go.Proofs.Ytdhcpoeopooejaa
open Go.RowKit
set_option linter.unusedVariables false
set_option linter.unusedSimpArgs false

/-- What markIntS leaves in a slice of n ints from mark k on. -/
def marks (k : Int) (n : Nat) : List Int := (List.range n).map fun (j : Nat) => k + (j : Int)
@[simp] theorem marks_length (k : Int) (n : Nat) : (marks k n).length = n := by simp [marks]
theorem marks_gi (k : Int) (n j : Nat) (h : j < n) : gi (marks k n) j = k + (j : Int) := by
  rw [gi_eq (by simpa using h)]; simp [marks]
theorem marks_step (xs : List Int) (k : Int) (i n : Nat) (hn : xs.length = n) (hi : i < n) : (marks k i ++ xs.drop i).set i (k + (i : Int)) = marks k (i + 1) ++ xs.drop (i + 1) := by
  apply List.ext_getElem?
  intro j
  rw [List.getElem?_set]
  simp only [List.length_append, marks_length, List.length_drop]
  by_cases h : i = j
  · subst h
    rw [if_pos rfl, if_pos (by omega), List.getElem?_append_left (by simp)]
    simp [marks]
  · rw [if_neg h]
    by_cases h2 : j < i
    · rw [List.getElem?_append_left (by simp; omega), List.getElem?_append_left (by simp; omega)]
      simp [marks, h2, Nat.lt_succ_of_lt h2]
    · rw [List.getElem?_append_right (by simp; omega), List.getElem?_append_right (by simp; omega)]
      simp only [marks_length, List.getElem?_drop]
      congr 1
      omega

set_option maxHeartbeats 400000 in
theorem markIntS_any (v : Value) (xs : List Int) (k : Int) (w : World) (hv : Sl w 3 v (ints xs)) (hl : xs.length ≤ 4611686018427387904) (hk0 : 0 ≤ k) (hk : k ≤ 1000000000000) :
    Calls Try.prog 26 #[v, .int .i64 k] w fun e w' => e = .returned (.int .i64 (k + xs.length)) ∧
      Sl w' 3 v (ints (marks k xs.length)) ∧ w.grownBy w' v.ownBlock := by
  obtain ⟨ao, c, rfl, _, _, _, _⟩ := hv.openInts
  generalize hn : xs.length = n at *
  replace hn := Lib.hid hn
  replace hv := Lib.hid hv
  go_enter Try.func26, Try.ntmps26
  go_wp2
  go_loopw [1, 5] (fun m i wr => ∃ j : Nat, j ≤ n ∧ i = .int .i64 j ∧ m = .int .i64 (k + j) ∧ Sl wr 3 (.slice ao n c) (ints (marks k j ++ xs.drop j)) ∧ w.grownBy wr (Value.slice ao n c).ownBlock) (fun _ i _ => n - (intOf i).toNat)
  case atStart => exact ⟨0, Nat.zero_le _, rfl, by simp, by simpa [marks] using hv.out, World.grownBy.refl _ _⟩
  case round =>
    obtain ⟨j, hj, rfl, rfl, hs, hg⟩ := hrel
    replace hs := Lib.hid hs
    replace hg := Lib.hid hg
    by_cases hlt : j < n
    · obtain ⟨b, off, rfl, _, hR⟩ := hs.out.rowInts (by omega)
      have hf := hR.frozen (off + j)
      obtain ⟨y, hy⟩ : ∃ y, wr.cell? ⟨b, off + j, none⟩ = some y := ⟨_, hR.cellInt (by simp [hn.out]; omega)⟩
      clear hR
      go_wp2
      go_roundw
      case rel =>
        refine ⟨j + 1, by omega, by go_num, by simp; omega, ?_, ?_⟩
        · rw [← marks_step xs k j n hn.out hlt]
          exact hs.out.setInt hlt _
        · exact grownBy.setIn (p := ⟨b, off + j, none⟩) hg.out rfl
      case measure => simp [intOf]; omega
    · go_wp2
      go_ret
      obtain rfl : j = n := by omega
      refine ⟨rfl, ?_, hg.out⟩
      have := hs.out
      rwa [List.drop_of_length_le (by rw [hn.out]; omega), List.append_nil] at this

set_option maxHeartbeats 400000 in
/-- A slice that still bears its marks. -/
theorem heldIntS_any (v : Value) (n : Nat) (k : Int) (w : World) (hv : Sl w 3 v (ints (marks k n))) (hl : n ≤ 4611686018427387904) (hk0 : 0 ≤ k) (hk : k ≤ 1000000000000) :
    Calls Try.prog 27 #[v, .int .i64 k] w fun e w' => e = .returned (.int .i64 (k + n)) ∧ ∃ q, w' = w.drewN q := by
  obtain ⟨ao, c, rfl, _, _, _, _⟩ := hv.openInts
  rw [marks_length] at *
  replace hv := Lib.hid hv
  go_enter Try.func27, Try.ntmps27
  go_wp2
  go_loopw [1, 5] (fun m i wr => ∃ j q : Nat, j ≤ n ∧ i = .int .i64 j ∧ m = .int .i64 (k + j) ∧ wr = w.drewN q) (fun _ i _ => n - (intOf i).toNat)
  case atStart => exact ⟨0, 0, Nat.zero_le _, rfl, by simp, rfl⟩
  case round =>
    obtain ⟨j, q, hj, rfl, rfl, rfl⟩ := hrel
    by_cases hlt : j < n
    · obtain ⟨b, off, rfl, _, hR⟩ := hv.out.rowInts (by omega)
      have hy : w.cell? ⟨b, off + j, none⟩ = some (.int .i64 (k + j)) := by
        rw [hR.cellInt (by simp; omega), marks_gi k n j hlt]
      clear hR
      go_wp2
      go_roundw
      case rel => exact ⟨j + 1, _, by omega, by go_num, by simp; omega, rfl⟩
      case measure => simp [intOf]; omega
    · go_wp2
      go_ret
      obtain rfl : j = n := by omega
      exact ⟨rfl, _, rfl⟩
end Go.Proofs.Ytdhcpoeopooejaa
