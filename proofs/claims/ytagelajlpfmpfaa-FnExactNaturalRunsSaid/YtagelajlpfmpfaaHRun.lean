/- Slices of runs as the laws see them. -/
import Derived.Test.YtagelajlpfmpfaaPairs
namespace Go.Proofs.Ytagelajlpfmpfaa
open Go.RowKit Go.Deep
set_option maxHeartbeats 400000 in
theorem eqRun_any (a b c d : Int) (w : World) :
    Calls Try.prog 90 #[.agg #[.int .i64 a, .int .i64 b], .agg #[.int .i64 c, .int .i64 d]] w fun e w' => e = .returned (.bool (decide ((a, b) = (c, d)))) ∧ Below w.heap.size w w' := by
  by_cases h1 : a = c
  · by_cases h2 : b = d
    · subst h1 h2
      go_enter Try.func90, Try.ntmps90
      go_wp2
      go_ret
      exact ⟨by simp, ((Below.refl _ _).alloc (Nat.le_refl _) _).alloc (by simp) _⟩
    · subst h1
      rw [show decide ((a, b) = (a, d)) = false by simp [h2]]
      go_enter Try.func90, Try.ntmps90
      go_wp2
      go_ret
      exact ⟨rfl, ((Below.refl _ _).alloc (Nat.le_refl _) _).alloc (by simp) _⟩
  · rw [show decide ((a, b) = (c, d)) = false by simp [h1]]
    go_enter Try.func90, Try.ntmps90
    go_wp2
    go_ret
    exact ⟨rfl, ((Below.refl _ _).alloc (Nat.le_refl _) _).alloc (by simp) _⟩

theorem eqRun_same (a b c d : Int) (w : World) (h : a = c ∧ b = d) :
    Calls Try.prog 90 #[.agg #[.int .i64 a, .int .i64 b], .agg #[.int .i64 c, .int .i64 d]] w fun e w' => e = .returned (.bool true) ∧ Below w.heap.size w w' := by
  have := eqRun_any a b c d w
  rwa [show decide ((a, b) = (c, d)) = true by simp [h.1, h.2]] at this
theorem eqRun_ne (a b c d : Int) (w : World) (h : ¬ (a = c ∧ b = d)) :
    Calls Try.prog 90 #[.agg #[.int .i64 a, .int .i64 b], .agg #[.int .i64 c, .int .i64 d]] w fun e w' => e = .returned (.bool false) ∧ Below w.heap.size w w' := by
  have := eqRun_any a b c d w
  rwa [show decide ((a, b) = (c, d)) = false by simpa using h] at this
set_option maxHeartbeats 1000000 in
theorem eqRunS_any (v u : Value) (xs ys : List (Int × Int)) (w : World) (hv : RdR w v xs) (hu : RdR w u ys) :
    Calls Try.prog 46 #[v, u] w fun e w' => e = .returned (.bool (decide (xs = ys))) ∧ Below w.heap.size w w' := by
  obtain ⟨ao, c, rfl, _, h1, HA⟩ := hv
  obtain ⟨bo, d, rfl, _, h2, HB⟩ := hu
  replace HA := Lib.hid HA
  replace HB := Lib.hid HB
  unfold maxLen at h1 h2
  by_cases hne : xs.length = ys.length
  · generalize hn : xs.length = n at *
    generalize hm : ys.length = m at *
    subst hne
    replace hn := Lib.hid hn
    replace hm := Lib.hid hm
    go_enter Try.func46, Try.ntmps46
    go_wp2
    go_loopw [5] (fun i wr => ∃ k : Nat, k ≤ n ∧ i = .int .i64 k ∧ Below w.heap.size w wr ∧ ∀ j, j < k → gr xs j = gr ys j) (fun i _ => n - (intOf i).toNat)
    case atStart => exact ⟨0, Nat.zero_le _, rfl, Below.refl _ _, fun j hj => absurd hj (by omega)⟩
    case round =>
      obtain ⟨k, hk, rfl, hb, heq⟩ := hrel
      replace heq := Lib.hid heq
      by_cases hlt : k < n
      · obtain ⟨b, off, rfl, hR⟩ := HA.out (by omega)
        obtain ⟨b2, off2, rfl, hR2⟩ := HB.out (by omega)
        have h3 := hR k hlt
        have h4 := hR2 k hlt
        have hb1 : b < w.heap.size := block_lt_of_cell h3.1
        have hb2 : b2 < w.heap.size := block_lt_of_cell h4.1
        have hc1 : wr.cell? ⟨b, off + k * 2, none⟩ = some (.int .i64 (gr xs k).1) := (hb.cell (p := ⟨b, off + k * 2, none⟩) hb1).trans h3.1
        have hc2 : wr.cell? ⟨b, off + k * 2 + 1, none⟩ = some (.int .i64 (gr xs k).2) := (hb.cell (p := ⟨b, off + k * 2 + 1, none⟩) hb1).trans h3.2
        have hc3 : wr.cell? ⟨b2, off2 + k * 2, none⟩ = some (.int .i64 (gr ys k).1) := (hb.cell (p := ⟨b2, off2 + k * 2, none⟩) hb2).trans h4.1
        have hc4 : wr.cell? ⟨b2, off2 + k * 2 + 1, none⟩ = some (.int .i64 (gr ys k).2) := (hb.cell (p := ⟨b2, off2 + k * 2 + 1, none⟩) hb2).trans h4.2
        have hB1 : b < wr.heap.size := Nat.lt_of_lt_of_le hb1 hb.size
        have hB2 : b2 < wr.heap.size := Nat.lt_of_lt_of_le hb2 hb.size
        clear hR hR2 h3 h4 hb1 hb2
        replace hb := Lib.hid hb
        generalize hx : gr xs k = x at *
        generalize hy : gr ys k = y at *
        obtain ⟨x1, x2⟩ := x
        obtain ⟨y1, y2⟩ := y
        dsimp only at hc1 hc2 hc3 hc4
        replace hx := Lib.hid hx
        replace hy := Lib.hid hy
        have hp : (0 : Int) ≤ (k : Int) := by omega
        by_cases hxy : x1 = y1 ∧ x2 = y2
        · have hxy' := Lib.hid hxy
          clear hxy
          go_wp2
          go_region_held3 (fun w' => w'.cell? ⟨b, off + k * 2, none⟩ = some (.int .i64 x1) ∧ w'.cell? ⟨b, off + k * 2 + 1, none⟩ = some (.int .i64 x2) ∧ w'.cell? ⟨b2, off2 + k * 2, none⟩ = some (.int .i64 y1) ∧ w'.cell? ⟨b2, off2 + k * 2 + 1, none⟩ = some (.int .i64 y2)) ((first | exact ⟨(hbel.cell (p := ⟨b, off + k * 2, none⟩) hB1).trans hc1, (hbel.cell (p := ⟨b, off + k * 2 + 1, none⟩) hB1).trans hc2, (hbel.cell (p := ⟨b2, off2 + k * 2, none⟩) hB2).trans hc3, (hbel.cell (p := ⟨b2, off2 + k * 2 + 1, none⟩) hB2).trans hc4⟩ | go_keep)) ((go_at_call 90; refine (eqRun_same _ _ _ _ _ hxy'.out).mono ?_; rintro e w' ⟨rfl, hbel⟩))
          go_wp2
          go_roundw
          case rel =>
            refine ⟨k + 1, by omega, by go_num, ?_, fun j hj => ?_⟩
            · refine Below.next (w := wr.drew) (Below.drewN hb.out 1) ?_
              assumption
            · by_cases hjk : j = k
              · subst hjk; rw [hx.out, hy.out, hxy'.out.1, hxy'.out.2]
              · exact heq.out j (by omega)
          case measure => simp [intOf]; omega
        · have hxy' := Lib.hid hxy
          clear hxy
          go_wp2
          go_region_held3 (fun w' => w'.cell? ⟨b, off + k * 2, none⟩ = some (.int .i64 x1) ∧ w'.cell? ⟨b, off + k * 2 + 1, none⟩ = some (.int .i64 x2) ∧ w'.cell? ⟨b2, off2 + k * 2, none⟩ = some (.int .i64 y1) ∧ w'.cell? ⟨b2, off2 + k * 2 + 1, none⟩ = some (.int .i64 y2)) ((first | exact ⟨(hbel.cell (p := ⟨b, off + k * 2, none⟩) hB1).trans hc1, (hbel.cell (p := ⟨b, off + k * 2 + 1, none⟩) hB1).trans hc2, (hbel.cell (p := ⟨b2, off2 + k * 2, none⟩) hB2).trans hc3, (hbel.cell (p := ⟨b2, off2 + k * 2 + 1, none⟩) hB2).trans hc4⟩ | go_keep)) ((go_at_call 90; refine (eqRun_ne _ _ _ _ _ hxy'.out).mono ?_; rintro e w' ⟨rfl, hbel⟩))
          go_wp2
          go_ret
          refine ⟨ret_bool ?_, ?_⟩
          · refine (decide_eq_false fun e => hxy'.out ?_).symm
            have : gr xs k = gr ys k := by rw [e]
            rw [hx.out, hy.out] at this
            simpa using this
          · refine Below.next (w := wr.drew) (Below.drewN hb.out 1) ?_
            assumption
      · obtain rfl : k = n := by omega
        have hd : decide (xs = ys) = true := decide_eq_true (by
          apply List.ext_getElem (by rw [hn.out, hm.out])
          intro i h1 h2
          have := heq.out i (by rw [hn.out] at h1; omega)
          rw [gr_eq h1, gr_eq h2] at this
          exact this)
        replace hd := Lib.hid hd
        replace hb := Lib.hid hb
        go_wp2
        go_ret
        exact ⟨ret_bool hd.out.symm, hb.out⟩
  · have hd : decide (xs = ys) = false := decide_eq_false (fun e => hne (by rw [e]))
    rw [hd]
    generalize hn : xs.length = n at *
    generalize hm : ys.length = m at *
    replace hn := Lib.hid hn
    replace hm := Lib.hid hm
    clear hd
    go_enter Try.func46, Try.ntmps46
    go_wp2
    all_goals go_ret
    all_goals exact ⟨rfl, Below.refl _ _⟩

abbrev TRunS := List (Int × Int)
def szRunS (x : List (Int × Int)) : Nat := x.length
def RRunS (w : World) (v : Value) (x : List (Int × Int)) (F : List Nat) : Prop := SlQ 86 w v x ∧ F = v.ownBlock.toList
theorem RRunS.of_block {w w' : World} {v : Value} {x : List (Int × Int)} {F : List Nat} (h : RRunS w v x F) (hb : ∀ b ∈ F, w'.heap[b]? = w.heap[b]?) : RRunS w' v x F := by
  obtain ⟨h, rfl⟩ := h
  exact ⟨h.of_block fun k hk => hb k (by simp [hk]), rfl⟩
theorem RRunS.lt {w : World} {v : Value} {x : List (Int × Int)} {F : List Nat} (h : RRunS w v x F) : Lt w F := by
  obtain ⟨h, rfl⟩ := h
  intro b hb
  exact h.lt b (by simpa using hb)
theorem RRunS.next {w w' : World} {v : Value} {x : List (Int × Int)} {F : List Nat} (h : RRunS w v x F) (hb : Below w.heap.size w w') : RRunS w' v x F :=
  h.of_block fun b hf => hb.block b (h.lt b hf)
theorem RRunS.ex {w w' : World} {v : Value} {x : List (Int × Int)} {F G : List Nat} (h : RRunS w v x F) (k : Ex G w w') (d : Dj F G) : RRunS w' v x F :=
  h.of_block fun b hf => k.block b (h.lt b hf) (d b hf)
theorem RRunS.rd {w : World} {v : Value} {x : List (Int × Int)} {F : List Nat} (h : RRunS w v x F) : RdR w v x := h.1.rd
theorem eqRunS_law {v u : Value} {x y : List (Int × Int)} {F G : List Nat} {w : World} (h : RRunS w v x F) (k : RRunS w u y G) :
    Calls Try.prog 46 #[v, u] w fun e w' => e = .returned (.bool (decide (x = y))) ∧ Below w.heap.size w w' :=
  eqRunS_any v u x y w h.rd k.rd

set_option maxHeartbeats 1000000 in
theorem markRunS_any (v : Value) (xs : List (Int × Int)) (k : Int) (w : World) (hv : SlQ 86 w v xs) (hl : xs.length ≤ 1000000000000) (hk0 : 0 ≤ k) (hk : k ≤ 1000000000000) :
    Calls Try.prog 47 #[v, .int .i64 k] w fun e w' => e = .returned (.int .i64 (k + 2 * (xs.length : Int))) ∧
      SlQ 86 w' v (marks2 k xs.length) ∧ w.grownBy w' v.ownBlock := by
  obtain ⟨ao, c, rfl, _, _⟩ := hv.shape
  generalize hn : xs.length = n at *
  replace hn := Lib.hid hn
  replace hv := Lib.hid hv
  go_enter Try.func47, Try.ntmps47
  go_wp2
  go_loopw [1, 5] (fun m i wr => ∃ j : Nat, j ≤ n ∧ i = .int .i64 j ∧ m = .int .i64 (k + 2 * (j : Int)) ∧ SlQ 86 wr (.slice ao n c) (marks2 k j ++ xs.drop j) ∧ w.grownBy wr (Value.slice ao n c).ownBlock) (fun _ i _ => n - (intOf i).toNat)
  case atStart => exact ⟨0, Nat.zero_le _, rfl, by simp, by simpa [marks2] using hv.out, World.grownBy.refl _ _⟩
  case round =>
    obtain ⟨j, hj, rfl, rfl, hs, hg⟩ := hrel
    by_cases hlt : j < n
    · obtain ⟨b, off, rfl, _, _⟩ := hs.row (by omega)
      obtain ⟨hc1, hc2, hf⟩ := hs.cells hlt
      have hf1 := hf (off + j * 2)
      have hf2 := hf (off + j * 2 + 1)
      clear hf
      replace hs := Lib.hid hs
      replace hg := Lib.hid hg
      go_wp2
      go_roundw
      case rel =>
        refine ⟨j + 1, by omega, by go_num, by simp; omega, ?_, ?_⟩
        · rw [← marks2_step xs k j n hn.out hlt]
          exact hs.out.set hlt _ _
        · exact grownBy.setIn (p := ⟨b, off + j * 2 + 1, none⟩) (grownBy.setIn (p := ⟨b, off + j * 2, none⟩) hg.out rfl) rfl
      case measure => simp [intOf]; omega
    · replace hs := Lib.hid hs
      replace hg := Lib.hid hg
      go_wp2
      go_ret
      obtain rfl : j = n := by omega
      refine ⟨rfl, ?_, hg.out⟩
      have := hs.out
      rwa [List.drop_of_length_le (by rw [hn.out]; omega), List.append_nil] at this

set_option maxHeartbeats 1000000 in
/-- A slice that still bears its marks. -/
theorem heldRunS_any (v : Value) (n : Nat) (k : Int) (w : World) (hv : SlQ 86 w v (marks2 k n)) (hl : n ≤ 1000000000000) (hk0 : 0 ≤ k) (hk : k ≤ 1000000000000) :
    Calls Try.prog 48 #[v, .int .i64 k] w fun e w' => e = .returned (.int .i64 (k + 2 * (n : Int))) ∧ ∃ q, w' = w.drewN q := by
  obtain ⟨ao, c, rfl, _, _⟩ := hv.shape
  rw [marks2_length] at *
  replace hv := Lib.hid hv
  go_enter Try.func48, Try.ntmps48
  go_wp2
  go_loopw [1, 5] (fun m i wr => ∃ j q : Nat, j ≤ n ∧ i = .int .i64 j ∧ m = .int .i64 (k + 2 * (j : Int)) ∧ wr = w.drewN q) (fun _ i _ => n - (intOf i).toNat)
  case atStart => exact ⟨0, 0, Nat.zero_le _, rfl, by simp, rfl⟩
  case round =>
    obtain ⟨j, q, hj, rfl, rfl, rfl⟩ := hrel
    by_cases hlt : j < n
    · obtain ⟨b, off, rfl, _, _⟩ := hv.out.row (by omega)
      obtain ⟨hc1, hc2, _⟩ := hv.out.cells hlt
      rw [marks2_gr k n j hlt] at hc1 hc2
      dsimp only at hc1 hc2
      go_wp2
      go_roundw
      case rel => exact ⟨j + 1, _, by omega, by go_num, by simp; omega, rfl⟩
      case measure => simp [intOf]; omega
    · go_wp2
      go_ret
      obtain rfl : j = n := by omega
      exact ⟨rfl, _, rfl⟩

/-- The slice y bears the marks from k to k'. -/
def MkRunS (k k' : Int) (y : List (Int × Int)) : Prop := ∃ n : Nat, y = marks2 k n ∧ k' = k + 2 * (n : Int) ∧ n ≤ 100000000000
theorem markRunS_law {v : Value} {x : List (Int × Int)} {F : List Nat} {w : World} {k : Int} (h : RRunS w v x F) (hl : szRunS x ≤ 100000000000) (h0 : 0 ≤ k) (hk : k ≤ 1000000000000) :
    Calls Try.prog 47 #[v, .int .i64 k] w fun e w' => ∃ y k', e = .returned (.int .i64 k') ∧ RRunS w' v y F ∧ MkRunS k k' y ∧ k ≤ k' ∧ k' ≤ k + 2 * (szRunS x : Int) ∧ Ex F w w' :=
  (markRunS_any v x k w h.1 (Nat.le_trans (show x.length ≤ 100000000000 from hl) (by omega)) h0 hk).mono fun _ _ ⟨he, hs, hg⟩ => ⟨_, _, he, ⟨hs, h.2⟩, ⟨_, rfl, rfl, hl⟩, by omega, Int.le_refl _, by rw [h.2]; exact Ex.of_grown hg⟩
theorem heldRunS_law {v : Value} {y : List (Int × Int)} {F : List Nat} {w : World} {k k' : Int} (h : RRunS w v y F) (m : MkRunS k k' y) (h0 : 0 ≤ k) (hk : k ≤ 1000000000000) :
    Calls Try.prog 48 #[v, .int .i64 k] w fun e w' => e = .returned (.int .i64 k') ∧ Below w.heap.size w w' := by
  obtain ⟨n, rfl, rfl, hn⟩ := m
  exact (heldRunS_any v n k w h.1 (by omega) h0 hk).mono fun _ _ ⟨he, hb⟩ => ⟨he, Below.quiet hb⟩
end Go.Proofs.Ytagelajlpfmpfaa
