/- markRecordS, heldRecordS. -/
import Derived.Test.YtdhcpoeopooejaaPairs
namespace Go.Proofs.Ytdhcpoeopooejaa
open Go.RowKit Go.Deep

set_option maxHeartbeats 1000000 in
theorem markRecordS_any (v : Value) (xs : List (Int × Int)) (k : Int) (w : World) (hv : SlQ 72 w v xs) (hl : xs.length ≤ 1000000000000) (hk0 : 0 ≤ k) (hk : k ≤ 1000000000000) :
    Calls Try.prog 33 #[v, .int .i64 k] w fun e w' => e = .returned (.int .i64 (k + 2 * (xs.length : Int))) ∧
      SlQ 72 w' v (marks2 k xs.length) ∧ w.grownBy w' v.ownBlock := by
  obtain ⟨ao, c, rfl, _, _⟩ := hv.shape
  generalize hn : xs.length = n at *
  replace hn := Lib.hid hn
  replace hv := Lib.hid hv
  go_enter Try.func33, Try.ntmps33
  go_wp2
  go_loopw [1, 5] (fun m i wr => ∃ j : Nat, j ≤ n ∧ i = .int .i64 j ∧ m = .int .i64 (k + 2 * (j : Int)) ∧ SlQ 72 wr (.slice ao n c) (marks2 k j ++ xs.drop j) ∧ w.grownBy wr (Value.slice ao n c).ownBlock) (fun _ i _ => n - (intOf i).toNat)
  case atStart => exact ⟨0, Nat.zero_le _, rfl, by simp, by simpa [marks2] using hv.out, World.grownBy.refl _ _⟩
  case round =>
    obtain ⟨j, hj, rfl, rfl, hs, hg⟩ := hrel
    by_cases hlt : j < n
    · obtain ⟨b, off, rfl, _, _⟩ := hs.row (by omega)
      obtain ⟨hc1, hc2, hf⟩ := hs.cells hlt
      have hf1 := hf (off + j * 2)
      have hf2 := hf (off + j * 2 + 1)
      clear hf
      replace hs := Lib.hid hs
      replace hg := Lib.hid hg
      go_wp2
      go_roundw
      case rel =>
        refine ⟨j + 1, by omega, by go_num, by simp; omega, ?_, ?_⟩
        · rw [← marks2_step xs k j n hn.out hlt]
          exact hs.out.set hlt _ _
        · exact grownBy.setIn (p := ⟨b, off + j * 2 + 1, none⟩) (grownBy.setIn (p := ⟨b, off + j * 2, none⟩) hg.out rfl) rfl
      case measure => simp [intOf]; omega
    · replace hs := Lib.hid hs
      replace hg := Lib.hid hg
      go_wp2
      go_ret
      obtain rfl : j = n := by omega
      refine ⟨rfl, ?_, hg.out⟩
      have := hs.out
      rwa [List.drop_of_length_le (by rw [hn.out]; omega), List.append_nil] at this

set_option maxHeartbeats 1000000 in
/-- A slice that still bears its marks. -/
theorem heldRecordS_any (v : Value) (n : Nat) (k : Int) (w : World) (hv : SlQ 72 w v (marks2 k n)) (hl : n ≤ 1000000000000) (hk0 : 0 ≤ k) (hk : k ≤ 1000000000000) :
    Calls Try.prog 34 #[v, .int .i64 k] w fun e w' => e = .returned (.int .i64 (k + 2 * (n : Int))) ∧ ∃ q, w' = w.drewN q := by
  obtain ⟨ao, c, rfl, _, _⟩ := hv.shape
  rw [marks2_length] at *
  replace hv := Lib.hid hv
  go_enter Try.func34, Try.ntmps34
  go_wp2
  go_loopw [1, 5] (fun m i wr => ∃ j q : Nat, j ≤ n ∧ i = .int .i64 j ∧ m = .int .i64 (k + 2 * (j : Int)) ∧ wr = w.drewN q) (fun _ i _ => n - (intOf i).toNat)
  case atStart => exact ⟨0, 0, Nat.zero_le _, rfl, by simp, rfl⟩
  case round =>
    obtain ⟨j, q, hj, rfl, rfl, rfl⟩ := hrel
    by_cases hlt : j < n
    · obtain ⟨b, off, rfl, _, _⟩ := hv.out.row (by omega)
      obtain ⟨hc1, hc2, _⟩ := hv.out.cells hlt
      rw [marks2_gr k n j hlt] at hc1 hc2
      dsimp only at hc1 hc2
      go_wp2
      go_roundw
      case rel => exact ⟨j + 1, _, by omega, by go_num, by simp; omega, rfl⟩
      case measure => simp [intOf]; omega
    · go_wp2
      go_ret
      obtain rfl : j = n := by omega
      exact ⟨rfl, _, rfl⟩

/-- The slice y bears the marks from k to k'. -/
def MkRecordS (k k' : Int) (y : List (Int × Int)) : Prop := ∃ n : Nat, y = marks2 k n ∧ k' = k + 2 * (n : Int) ∧ n ≤ 100000000000
theorem markRecordS_law {v : Value} {x : List (Int × Int)} {F : List Nat} {w : World} {k : Int} (h : RRecordS w v x F) (hl : szRecordS x ≤ 100000000000) (h0 : 0 ≤ k) (hk : k ≤ 1000000000000) :
    Calls Try.prog 33 #[v, .int .i64 k] w fun e w' => ∃ y k', e = .returned (.int .i64 k') ∧ RRecordS w' v y F ∧ MkRecordS k k' y ∧ k ≤ k' ∧ k' ≤ k + 2 * (szRecordS x : Int) ∧ Ex F w w' :=
  (markRecordS_any v x k w h.1 (Nat.le_trans (show x.length ≤ 100000000000 from hl) (by omega)) h0 hk).mono fun _ _ ⟨he, hs, hg⟩ => ⟨_, _, he, ⟨hs, h.2⟩, ⟨_, rfl, rfl, hl⟩, by omega, Int.le_refl _, by rw [h.2]; exact Ex.of_grown hg⟩
theorem heldRecordS_law {v : Value} {y : List (Int × Int)} {F : List Nat} {w : World} {k k' : Int} (h : RRecordS w v y F) (m : MkRecordS k k' y) (h0 : 0 ≤ k) (hk : k ≤ 1000000000000) :
    Calls Try.prog 34 #[v, .int .i64 k] w fun e w' => e = .returned (.int .i64 k') ∧ Below w.heap.size w w' := by
  obtain ⟨n, rfl, rfl, hn⟩ := m
  exact (heldRecordS_any v n k w h.1 (by omega) h0 hk).mono fun _ _ ⟨he, hb⟩ => ⟨he, Below.quiet hb⟩
end Go.Proofs.Ytdhcpoeopooejaa
