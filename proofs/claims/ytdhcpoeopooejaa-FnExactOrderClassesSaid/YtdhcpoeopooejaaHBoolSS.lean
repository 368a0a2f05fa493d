/- The law's helpers on slices of slices of bools: szBoolSS, toBoolSS, eqBoolSS, markBoolSS. -/
import Derived.Test.YtdhcpoeopooejaaBoolSS
namespace Go.Proofs.Ytdhcpoeopooejaa
open Go.RowKit
set_option linter.unusedVariables false
set_option linter.unusedSimpArgs false

theorem take_setB (xs : List Bool) (n k : Nat) (hn : xs.length = n) (hk : k < n) : (xs.take k ++ List.replicate (n - k) false).set k (gb xs k) = xs.take (k + 1) ++ List.replicate (n - (k + 1)) false := by
  apply List.ext_getElem?
  intro i
  rw [List.getElem?_set]
  simp only [List.length_append, List.length_take, List.length_replicate]
  by_cases h : k = i
  · subst h
    rw [if_pos rfl, if_pos (by omega), List.getElem?_append_left (by simp; omega)]
    rw [gb_eq (by omega)]
    simp
  · rw [if_neg h]
    by_cases h2 : i < k
    · rw [List.getElem?_append_left (by simp; omega), List.getElem?_append_left (by simp; omega)]
      simp [h2, Nat.lt_succ_of_lt h2]
    · rw [List.getElem?_append_right (by simp; omega), List.getElem?_append_right (by simp; omega)]
      simp only [List.length_take, List.getElem?_replicate]
      have : i - min k xs.length < n - k ↔ i - min (k + 1) xs.length < n - (k + 1) := by omega
      simp [this]
set_option maxHeartbeats 400000 in
theorem toBoolS_any (v : Value) (xs : List Bool) (w : World) (hv : RdB w v xs) (hl : xs.length ≤ 1048576) :
    Calls Try.prog 59 #[v] w fun e w' => e = .returned (.slice (some ⟨w.heap.size, 0, none⟩) xs.length xs.length) ∧ Sl w' 4 (.slice (some ⟨w.heap.size, 0, none⟩) xs.length xs.length) (bools xs) ∧ Below w.heap.size w w' := by
  obtain ⟨i0, hi, hz0, hz1, hz2⟩ := info_parts info4
  obtain ⟨ao, c, rfl, _, _, hcells⟩ := hv
  have HC := Lib.hid hcells
  clear hcells
  generalize hn : xs.length = n at *
  have HN := Lib.hid hn
  clear hn
  go_enter Try.func59, Try.ntmps59
  go_wp2_with (at_make; refine wpList_make_full _ rfl _ _ 56 rfl w.heap.size 4 i0 (.bool false) 1 Try.underlying56 hi hz0 hz1 _ _ _ _ n rfl rfl rfl rfl (by rw [hz2]; omega) (by unfold maxLen; omega) (Nat.le_refl _) ?_)
  intro w1 hown hgrow
  have hrow := Row.of_owns hown
  rw [made_bools] at hrow
  have HR := Lib.hid hrow
  have HG := Lib.hid hgrow
  clear hrow hown hgrow hi hz0 hz1 hz2
  go_wp2
  go_loopw [4] (fun i wr => ∃ k : Nat, k ≤ n ∧ i = .int .i64 k ∧ Row wr 4 w.heap.size 0 n (bools (xs.take k ++ List.replicate (n - k) false)) ∧ w.grownBy wr none) (fun i _ => n - (intOf i).toNat)
  case atStart => exact ⟨0, Nat.zero_le _, rfl, by simpa using HR.out, HG.out⟩
  case round =>
    obtain ⟨k, hk, rfl, hrow, hgrow⟩ := hrel
    by_cases hlt : k < n
    · have hg2 := hrow.lt
      have hb0 := HG.out.size
      obtain ⟨b, off, rfl, hR⟩ := HC.out (by omega)
      have hc1 : wr.cell? ⟨b, off + k, none⟩ = some (.bool (gb xs k)) := by
        have h0 := hR k hlt
        rw [World.cell?_of_block (w := w) (hgrow.block b (block_lt_of_cell h0) (by simp))]
        exact h0
      obtain ⟨y, hy⟩ : ∃ y, wr.cell? ⟨w.heap.size, k, none⟩ = some y := by
        have := hrow.cell (i := k) (by simp [HN.out]; omega)
        rw [Nat.zero_add] at this
        exact ⟨_, this⟩
      have hf := hrow.frozen k
      have HS := Lib.hid hrow
      have HG2 := Lib.hid hgrow
      clear hrow hgrow
      go_wp2
      go_roundw
      case rel =>
        refine ⟨k + 1, by omega, by go_num, ?_, ?_⟩
        · have := HS.out.setBool (i := k) (by simp [HN.out]; omega) (gb xs k)
          rw [take_setB xs n k HN.out hlt, Nat.zero_add] at this
          exact this
        · exact grownBy.setNew HG2.out (Nat.le_refl _)
      case measure => simp [intOf]; omega
    · have HS := Lib.hid hrow
      have HG2 := Lib.hid hgrow
      clear hrow hgrow
      go_wp2
      go_ret
      obtain rfl : k = n := by omega
      refine ⟨rfl, ?_, grownBy.below HG2.out⟩
      have h3 := HS.out
      rw [List.take_of_length_le (by rw [HN.out]; omega), Nat.sub_self, List.replicate_zero, List.append_nil] at h3
      have h4 := Sl.of_row h3
      rwa [bools_length, HN.out] at h4
theorem eq_uptoB {xs ys : List Bool} {n : Nat} (hx : xs.length = n) (hy : ys.length = n) (h : ∀ j, j < n → gb xs j = gb ys j) : xs = ys := gb_ext (by omega) (by rw [hx]; exact h)
theorem ne_atB {xs ys : List Bool} {k : Nat} (h : ¬ gb xs k = gb ys k) : ¬ xs = ys := fun e => h (by rw [e])

set_option maxHeartbeats 400000 in
theorem eqBoolS_any (v u : Value) (xs ys : List Bool) (w : World) (hv : Sl w 4 v (bools xs)) (hu : Sl w 4 u (bools ys)) :
    Calls Try.prog 63 #[v, u] w fun e w' => e = .returned (.bool (decide (xs = ys))) ∧ ∃ q, w' = w.drewN q := by
  obtain ⟨ao, c, rfl, h1, _, _, HA⟩ := hv.openBools
  obtain ⟨bo, d, rfl, h2, _, _, HB⟩ := hu.openBools
  replace HA := Lib.hid HA
  replace HB := Lib.hid HB
  clear hv hu
  unfold maxLen at h1 h2
  by_cases hne : xs.length = ys.length
  · generalize hn : xs.length = n at *
    generalize hm : ys.length = m at *
    subst hne
    replace hn := Lib.hid hn
    replace hm := Lib.hid hm
    go_enter Try.func63, Try.ntmps63
    go_wp2
    go_loopw [5] (fun i wr => ∃ k q : Nat, k ≤ n ∧ i = .int .i64 k ∧ wr = w.drewN q ∧ ∀ j, j < k → gb xs j = gb ys j) (fun i _ => n - (intOf i).toNat)
    case atStart => exact ⟨0, 0, Nat.zero_le _, rfl, rfl, fun j hj => absurd hj (by omega)⟩
    case round =>
      obtain ⟨k, q, hk, rfl, rfl, heq⟩ := hrel
      replace heq := Lib.hid heq
      by_cases hlt : k < n
      · obtain ⟨b, off, rfl, hR⟩ := HA.out (by omega)
        obtain ⟨b2, off2, rfl, hR2⟩ := HB.out (by omega)
        have hc1 : w.cell? ⟨b, off + k, none⟩ = some (.bool (gb xs k)) := hR.cellBool (by rw [hn.out]; omega)
        have hc2 : w.cell? ⟨b2, off2 + k, none⟩ = some (.bool (gb ys k)) := hR2.cellBool (by rw [hm.out]; omega)
        clear hR hR2
        generalize hx : gb xs k = x at *
        generalize hy : gb ys k = y at *
        replace hx := Lib.hid hx
        replace hy := Lib.hid hy
        by_cases hxy : x = y
        · subst hxy
          go_wp2
          go_quiet (fail)
          go_wp2
          go_roundw
          case rel =>
            refine ⟨k + 1, _, by omega, by go_num, rfl, fun j hj => ?_⟩
            by_cases hjk : j = k
            · subst hjk; rw [hx.out, hy.out]
            · exact heq.out j (by omega)
          case measure => simp [intOf]; omega
        · have hxb : (x == y) = false := by simpa using hxy
          go_wp2
          go_quiet (fail)
          go_wp2
          go_ret
          refine ⟨ret_bool ?_, _, World.drewN_drewN ..⟩
          exact (decide_eq_false (ne_atB (k := k) (by rw [hx.out, hy.out]; exact hxy))).symm
      · go_wp2
        go_ret
        refine ⟨ret_bool ?_, _, rfl⟩
        obtain rfl : k = n := by omega
        exact (decide_eq_true (eq_uptoB hn.out hm.out heq.out)).symm
  · have hd : decide (xs = ys) = false := decide_eq_false (fun e => hne (by rw [e]))
    rw [hd]
    generalize hn : xs.length = n at *
    generalize hm : ys.length = m at *
    replace hn := Lib.hid hn
    replace hm := Lib.hid hm
    clear hd
    go_enter Try.func63, Try.ntmps63
    go_wp2
    all_goals go_ret
    all_goals exact ⟨rfl, 0, rfl⟩

theorem Sl.rowBools {w : World} {e n c : Nat} {ao : Option Addr} {xs : List Bool} (h : Sl w e (.slice ao n c) (bools xs)) (hp : 0 < n) :
    ∃ b off, ao = some ⟨b, off, none⟩ ∧ xs.length = n ∧ Row w e b off c (bools xs) := by
  obtain ⟨ao', c', hv, h⟩ := h
  simp at hv
  obtain ⟨rfl, rfl, rfl⟩ := hv
  rcases h with ⟨_, h, _⟩ | ⟨b, off, rfl, hr⟩
  · rw [show xs = [] by simpa [bools] using h] at hp
    simp at hp
  · exact ⟨b, off, rfl, rfl, hr⟩
theorem Sl.setBool {w : World} {e n c b off : Nat} {xs : List Bool} (h : Sl w e (.slice (some ⟨b, off, none⟩) n c) (bools xs)) {i : Nat} (hi : i < n) (x : Bool) :
    Sl (w.setCell ⟨b, off + i, none⟩ (.bool x)) e (.slice (some ⟨b, off, none⟩) n c) (bools (xs.set i x)) := by
  obtain ⟨b', off', hb, hn, hr⟩ := h.rowBools (by omega)
  simp at hb
  obtain ⟨rfl, rfl⟩ := hb
  have := Sl.of_row (hr.setBool (i := i) (by omega) x)
  rwa [bools_length, List.length_set, hn] at this

set_option maxHeartbeats 400000 in
theorem markBoolS_any (v : Value) (xs : List Bool) (k : Int) (w : World) (hv : Sl w 4 v (bools xs)) (hl : xs.length ≤ 4611686018427387904) (hk0 : 0 ≤ k) (hk : k ≤ 1000000000000) :
    Calls Try.prog 64 #[v, .int .i64 k] w fun e w' => e = .returned (.int .i64 (k + xs.length)) ∧
      ∃ ys : List Bool, ys.length = xs.length ∧ Sl w' 4 v (bools ys) ∧ w.grownBy w' v.ownBlock := by
  obtain ⟨ao, c, rfl, _, _, _, _⟩ := hv.openBools
  generalize hn : xs.length = n at *
  replace hn := Lib.hid hn
  replace hv := Lib.hid hv
  go_enter Try.func64, Try.ntmps64
  go_wp2
  go_loopw [1, 5] (fun m i wr => ∃ (j : Nat) (ys : List Bool), j ≤ n ∧ ys.length = n ∧ i = .int .i64 j ∧ m = .int .i64 (k + j) ∧ Sl wr 4 (.slice ao n c) (bools ys) ∧ w.grownBy wr (Value.slice ao n c).ownBlock) (fun _ i _ => n - (intOf i).toNat)
  case atStart => exact ⟨0, xs, Nat.zero_le _, hn.out, rfl, by simp, hv.out, World.grownBy.refl _ _⟩
  case round =>
    obtain ⟨j, ys, hj, hy, rfl, rfl, hs, hg⟩ := hrel
    replace hs := Lib.hid hs
    replace hg := Lib.hid hg
    replace hy := Lib.hid hy
    by_cases hlt : j < n
    · obtain ⟨b, off, rfl, _, hR⟩ := hs.out.rowBools (by omega)
      have hf := hR.frozen (off + j)
      obtain ⟨y, hy2⟩ : ∃ y, wr.cell? ⟨b, off + j, none⟩ = some y := ⟨_, hR.cellBool (by rw [hy.out]; omega)⟩
      clear hR
      go_wp2
      go_roundw
      case rel =>
        refine ⟨j + 1, _, by omega, ?_, by go_num, by simp; omega, hs.out.setBool hlt _, grownBy.setIn (p := ⟨b, off + j, none⟩) hg.out rfl⟩
        simp [hy.out]
      case measure => simp [intOf]; omega
    · go_wp2
      go_ret
      obtain rfl : j = n := by omega
      exact ⟨rfl, ys, hy.out, hs.out, hg.out⟩

theorem eqBoolS_q {v u : Value} {xs ys : List Bool} {w : World} {a n : Nat} {t : Bool} (hv : Sl w 4 v (bools xs)) (hu : Sl w 4 u (bools ys)) (ht : decide (xs = ys) = t) :
    Calls Try.prog 63 #[v, u] (w.drewN (a + n)) fun e w'' => e = .returned (.bool t) ∧ ∃ m, w'' = w.drewN (a + m) :=
  (eqBoolS_any v u xs ys _ (hv.drewN _) (hu.drewN _)).mono fun _ _ ⟨he, q, hq⟩ => ⟨by rw [he, ht], n + q, by rw [hq, World.drewN_drewN, Nat.add_assoc]⟩

set_option maxHeartbeats 1000000 in
theorem eqBoolSS_any (v u : Value) (xs ys : List (List Bool)) (us vs : List Value) (w : World) (hv : Sl w 56 v us) (hu : Sl w 56 u vs)
    (hx : us.length = xs.length ∧ ∀ i, i < xs.length → Sl w 4 (gv us i) (bools (gbl xs i))) (hy : vs.length = ys.length ∧ ∀ i, i < ys.length → Sl w 4 (gv vs i) (bools (gbl ys i))) :
    Calls Try.prog 20 #[v, u] w fun e w' => e = .returned (.bool (decide (xs = ys))) ∧ ∃ q, w' = w.drewN q := by
  obtain ⟨ao, c, rfl, _, h1, HA⟩ := hv.opened
  obtain ⟨bo, d, rfl, _, h2, HB⟩ := hu.opened
  obtain ⟨ex, hx⟩ := hx
  obtain ⟨ey, hy⟩ := hy
  replace HA := Lib.hid HA
  replace HB := Lib.hid HB
  replace hx := Lib.hid hx
  replace hy := Lib.hid hy
  clear hv hu
  unfold maxLen at h1 h2
  by_cases hne : us.length = vs.length
  · generalize hn : us.length = n at *
    generalize hm : vs.length = m at *
    subst hne
    replace hn := Lib.hid hn
    replace hm := Lib.hid hm
    replace ex := Lib.hid ex
    replace ey := Lib.hid ey
    go_enter Try.func20, Try.ntmps20
    go_wp2
    go_loopw [5] (fun i wr => ∃ k q : Nat, k ≤ n ∧ i = .int .i64 k ∧ wr = w.drewN q ∧ ∀ j, j < k → gbl xs j = gbl ys j) (fun i _ => n - (intOf i).toNat)
    case atStart => exact ⟨0, 0, Nat.zero_le _, rfl, rfl, fun j hj => absurd hj (by omega)⟩
    case round =>
      obtain ⟨k, q, hk, rfl, rfl, heq⟩ := hrel
      replace heq := Lib.hid heq
      by_cases hlt : k < n
      · obtain ⟨b, off, rfl, hR⟩ := HA.out (by omega)
        obtain ⟨b2, off2, rfl, hR2⟩ := HB.out (by omega)
        have hc1 : w.cell? ⟨b, off + k, none⟩ = some (gv us k) := by rw [hR.cell (by rw [hn.out]; omega), gv_eq (by rw [hn.out]; omega)]
        have hc2 : w.cell? ⟨b2, off2 + k, none⟩ = some (gv vs k) := by rw [hR2.cell (by rw [hm.out]; omega), gv_eq (by rw [hm.out]; omega)]
        have hsx := hx.out k (by rw [← ex.out]; exact hlt)
        have hsy := hy.out k (by rw [← ey.out]; exact hlt)
        clear hR hR2
        generalize hgx : gv us k = ux at *
        generalize hgy : gv vs k = uy at *
        replace hgx := Lib.hid hgx
        replace hgy := Lib.hid hgy
        replace hsx := Lib.hid hsx
        replace hsy := Lib.hid hsy
        by_cases hxy : gbl xs k = gbl ys k
        · have ht := Lib.hid (decide_eq_true hxy)
          replace hxy := Lib.hid hxy
          go_wp2
          go_quiet ((go_at_call 63; exact eqBoolS_q hsx.out hsy.out ht.out))
          go_wp2
          go_roundw
          case rel =>
            refine ⟨k + 1, _, by omega, by go_num, rfl, fun j hj => ?_⟩
            by_cases hjk : j = k
            · subst hjk; exact hxy.out
            · exact heq.out j (by omega)
          case measure => simp [intOf]; omega
        · have ht := Lib.hid (decide_eq_false hxy)
          replace hxy := Lib.hid hxy
          go_wp2
          go_quiet ((go_at_call 63; exact eqBoolS_q hsx.out hsy.out ht.out))
          go_wp2
          go_ret
          refine ⟨ret_bool ?_, by first | exact ⟨_, rfl⟩ | exact ⟨_, World.drewN_drewN ..⟩⟩
          exact (decide_eq_false (fun e => hxy.out (by rw [e]))).symm
      · go_wp2
        go_ret
        refine ⟨ret_bool ?_, _, rfl⟩
        obtain rfl : k = n := by omega
        exact (decide_eq_true (gbl_ext (by rw [← ex.out, ← ey.out]) (by rw [← ex.out]; exact heq.out))).symm
  · have hd : decide (xs = ys) = false := decide_eq_false (fun e => hne (by rw [ex, ey, e]))
    rw [hd]
    generalize hn : us.length = n at *
    generalize hm : vs.length = m at *
    replace hn := Lib.hid hn
    replace hm := Lib.hid hm
    clear hd ex ey
    go_enter Try.func20, Try.ntmps20
    go_wp2
    all_goals go_ret
    all_goals exact ⟨rfl, 0, rfl⟩
theorem eqBoolSS_law {v u : Value} {x y : List (List Bool)} {F G : List Nat} {w : World} (h : RBoolSS w v x F) (k : RBoolSS w u y G) :
    Calls Try.prog 20 #[v, u] w fun e w' => e = .returned (.bool (decide (x = y))) ∧ Below w.heap.size w w' := by
  obtain ⟨us, h1, h2, rfl⟩ := h
  obtain ⟨vs, k1, k2, rfl⟩ := k
  exact (eqBoolSS_any v u x y us vs w h1 k1 ⟨h2.len, h2.sl⟩ ⟨k2.len, k2.sl⟩).mono fun _ _ ⟨he, hb⟩ => ⟨he, Below.quiet hb⟩


set_option maxHeartbeats 1000000 in
theorem markBoolSS_any (v : Value) (us : List Value) (xs : List (List Bool)) (k : Int) (w : World) (hv : Sl w 56 v us) (hI : InB w 0 v us xs) (hz : szToB xs xs.length ≤ 100000000000) (hk0 : 0 ≤ k) (hk : k ≤ 900000000000) :
    Calls Try.prog 21 #[v, .int .i64 k] w fun e w' => e = .returned (.int .i64 (k + (szToB xs xs.length : Nat))) ∧
      ∃ ys, Sl w' 56 v us ∧ InB w' 0 v us ys ∧ Ex (fbl us) w w' := by
  obtain ⟨ao, c, rfl, _, h1, HA⟩ := hv.opened
  unfold maxLen at h1
  have ex := hI.len
  have hst := fun i (h : i ≤ xs.length) => szToB_le xs i xs.length h
  generalize hZ : szToB xs xs.length = Z at *
  generalize hn : us.length = n at *
  replace hn := Lib.hid hn
  replace HA := Lib.hid HA
  replace hv := Lib.hid hv
  replace hI := Lib.hid hI
  rw [← ex] at hst hZ
  replace ex := Lib.hid ex
  replace hst := Lib.hid hst
  replace hZ := Lib.hid hZ
  go_enter Try.func21, Try.ntmps21
  go_wp2
  go_loopw [1, 5] (fun m i wr => ∃ (j : Nat) (ys : List (List Bool)), j ≤ n ∧ i = .int .i64 j ∧ m = .int .i64 (k + (szToB xs j : Nat)) ∧ Sl wr 56 (.slice ao n c) us ∧ InB wr 0 (.slice ao n c) us ys ∧ (∀ i, i < n → (gbl ys i).length = (gbl xs i).length) ∧ Ex (fbl us) w wr) (fun _ i _ => n - (intOf i).toNat)
  case atStart => exact ⟨0, xs, Nat.zero_le _, rfl, by simp [szToB], hv.out, hI.out, fun _ _ => rfl, Ex.refl _ _⟩
  case round =>
    obtain ⟨j, ys, hj, rfl, rfl, hs, hin, hls, hg⟩ := hrel
    by_cases hlt : j < n
    · obtain ⟨_, _, hao, _, _, hrow⟩ := hs.opened
      simp at hao
      obtain ⟨rfl, hx0, rfl⟩ := hao
      clear hx0
      obtain ⟨b, off, rfl, hR⟩ := hrow (by rw [hn.out]; omega)
      have hc1 : wr.cell? ⟨b, off + j, none⟩ = some (gv us j) := by rw [hR.cell (by rw [hn.out]; omega), gv_eq (by rw [hn.out]; omega)]
      have hyn : ys.length = n := by have := hin.len; have := hn.out; omega
      have hsj := hin.sl j (by omega)
      have hle1 := hst.out j (by omega)
      have hle2 := hst.out (j + 1) (by omega)
      have hstep : szToB xs (j + 1) = szToB xs j + (gbl xs j).length := rfl
      have hlj := hls j hlt
      have hll : (gbl ys j).length ≤ 100000000000 := by omega
      have hfin : ∀ (w' : World) (zs : List Bool), Sl w' 4 (gv us j) (bools zs) → zs.length = (gbl ys j).length → wr.grownBy w' (gv us j).ownBlock →
          Sl w' 56 (.slice (some ⟨b, off, none⟩) n c) us ∧ InB w' 0 (.slice (some ⟨b, off, none⟩) n c) us (ys.set j zs) ∧ (∀ i, i < n → (gbl (ys.set j zs) i).length = (gbl xs i).length) ∧ Ex (fbl us) w w' := by
        intro w' zs hsl hzl hgr
        have hset : ∀ i, i < n → gbl (ys.set j zs) i = if i = j then zs else gbl ys i := by
          intro i hi
          rw [gbl_eq (by simp; omega), List.getElem_set]
          by_cases e : i = j
          · subst e; simp
          · rw [if_neg (Ne.symm e), if_neg e, gbl_eq (by omega)]
        refine ⟨?_, ?_, ?_, ?_⟩
        · refine hs.grown hgr (.inr ?_)
          intro e
          exact hin.hd j (by omega) b (by rw [← e]; rfl) rfl
        · refine ⟨by simp; exact hin.len, ?_, fun _ _ _ _ => Nat.zero_le _, by simpa using hin.hd, by simpa using hin.dj⟩
          intro i hi
          have hi' : i < n := by simp at hi; omega
          rw [hset i hi']
          by_cases e : i = j
          · subst e
            rw [if_pos rfl]
            exact hsl
          · rw [if_neg e]
            refine (hin.sl i (by omega)).grown hgr ?_
            cases ho : (gv us i).ownBlock with
            | none => exact .inl rfl
            | some q => exact .inr (fun e2 => hin.dj i j (by omega) (by omega) e q ho e2.symm)
        · intro i hi
          rw [hset i hi]
          by_cases e : i = j
          · subst e; rw [if_pos rfl, hzl, hlj]
          · rw [if_neg e]; exact hls i hi
        · refine hg.trans ⟨hgr.os, hgr.tape, hgr.output, hgr.size, fun q hq hqn => hgr.block q hq (fun e => hqn (mem_fbl.2 ⟨j, by rw [hn.out]; exact hlt, e.symm⟩))⟩
      replace hfin := Lib.hid hfin
      replace hsj := Lib.hid hsj
      clear hR hs hin hg hrow hls
      generalize hgx : gv us j = u at *
      replace hgx := Lib.hid hgx
      generalize hM : szToB xs j = M at *
      generalize hM1 : szToB xs (j + 1) = M1 at *
      generalize hL : (gbl ys j).length = L at *
      rw [← hlj] at hstep
      replace hM := Lib.hid hM
      replace hM1 := Lib.hid hM1
      replace hL := Lib.hid hL
      have hk1 : 0 ≤ k + (M : Int) ∧ k + (M : Int) ≤ 1000000000000 := by omega
      have hstep2 : k + (M : Int) + (L : Int) = k + (M1 : Int) := by omega
      replace hstep := Lib.hid hstep
      replace hlj := Lib.hid hlj
      go_wp2_with fail
      refine (markBoolS_any _ _ _ _ hsj.out (by rw [hL.out]; omega) hk1.1 hk1.2).mono ?_
      rintro e w' ⟨rfl, zs, hzl, hsl, hgr⟩
      rw [hL.out] at hzl ⊢
      rw [hstep2]
      clear hstep2
      have hF := Lib.hid (hfin.out w' zs hsl (by rw [hzl]) hgr)
      clear hsl hgr hsj hzl
      go_wp2
      go_roundw
      case rel => exact ⟨j + 1, _, by omega, by go_num, by rw [hM1.out], hF.out.1, hF.out.2.1, hF.out.2.2.1, hF.out.2.2.2⟩
      case measure => simp [intOf]; omega
    · obtain rfl : j = n := by omega
      replace hs := Lib.hid hs
      replace hin := Lib.hid hin
      replace hg := Lib.hid hg
      replace hls := Lib.hid hls
      have hZ2 := hZ.out
      rw [hZ2]
      clear hZ2
      go_wp2
      go_ret
      exact ⟨rfl, ys, hs.out, hin.out, hg.out⟩
def MkBoolSS (_ _ : Int) (_ : List (List Bool)) : Prop := True
theorem markBoolSS_law {v : Value} {x : List (List Bool)} {F : List Nat} {w : World} {k : Int} (h : RBoolSS w v x F) (hl : szBoolSS x ≤ 100000000000) (h0 : 0 ≤ k) (hk : k ≤ 900000000000) :
    Calls Try.prog 21 #[v, .int .i64 k] w fun e w' => ∃ y k', e = .returned (.int .i64 k') ∧ RBoolSS w' v y F ∧ MkBoolSS k k' y ∧ k ≤ k' ∧ k' ≤ k + szBoolSS x ∧ Ex F w w' := by
  obtain ⟨us, h1, h2, rfl⟩ := h
  unfold szBoolSS at *
  refine (markBoolSS_any v us x k w h1 h2 (by omega) h0 hk).mono ?_
  rintro e w' ⟨rfl, ys, a1, a2, a3⟩
  exact ⟨ys, _, rfl, ⟨us, a1, a2, rfl⟩, trivial, by omega, by omega, a3.mono fun b hb => List.mem_append_right _ hb⟩

/-! szBoolSS -/
set_option maxHeartbeats 400000 in
theorem szBoolS_any (v : Value) (xs : List Bool) (k : Int) (w : World) (hv : RdB w v xs) (hk : -1 ≤ k ∧ k ≤ 1048576) :
    Calls Try.prog 55 #[v, .int .i64 k] w fun e w' => e = .returned (.int .i64 (if (xs.length : Int) ≤ k then k - (xs.length : Int) else -1)) ∧ w = w' := by
  obtain ⟨ao, c, rfl, h1, h2, _⟩ := hv
  unfold maxLen at h2
  generalize xs.length = n at *
  by_cases h : (n : Int) ≤ k
  · rw [if_pos h]
    have hd : ¬ (k - (n : Int)) < 0 := by omega
    go_enter Try.func55, Try.ntmps55
    go_wp2
    go_ret
    exact ⟨rfl, rfl⟩
  · rw [if_neg h]
    have hd : (k - (n : Int)) < 0 := by omega
    go_enter Try.func55, Try.ntmps55
    go_wp2
    go_ret
    exact ⟨rfl, rfl⟩
set_option maxHeartbeats 1000000 in
theorem szBoolSS_yes {v : Value} {x : List (List Bool)} {k : Int} {w : World} (hv : DBoolSS w v x) (hk2 : k ≤ 1048576) (hle : (szBoolSS x : Int) ≤ k) :
    Calls Try.prog 15 #[v, .int .i64 k] w fun e w' => e = .returned (.int .i64 (k - (szBoolSS x : Int))) ∧ Below w.heap.size w w' := by
  obtain ⟨ao, c, us, rfl, h1, h2, hu, HA, HB⟩ := hv
  unfold maxLen at h2
  have hst := Lib.hid (fun i (h : i ≤ x.length) => szToB_le x i x.length h)
  have hz := Lib.hid (show szBoolSS x = x.length + szToB x x.length from rfl)
  have hnx := Lib.hid (fun i => show szToB x (i + 1) = szToB x i + (gbl x i).length from rfl)
  generalize hZ : szBoolSS x = Z at *
  generalize hn : x.length = n at *
  replace HA := Lib.hid HA
  replace HB := Lib.hid HB
  replace hn := Lib.hid hn
  replace hu := Lib.hid hu
  have hzz := hz.out
  have hd : ¬ (k - (n : Int)) < 0 := by omega
  replace hzz := Lib.hid hzz
  go_enter Try.func15, Try.ntmps15
  go_wp2
  go_loopw [1, 5] (fun l i wr => ∃ j q : Nat, j ≤ n ∧ i = .int .i64 j ∧ l = .int .i64 (k - (n : Int) - (szToB x j : Nat)) ∧ wr = w.drewN q) (fun _ i _ => n - (intOf i).toNat)
  case atStart => exact ⟨0, 0, Nat.zero_le _, rfl, by simp [szToB], rfl⟩
  case round =>
    obtain ⟨j, q, hj, rfl, rfl, rfl⟩ := hrel
    by_cases hlt : j < n
    · obtain ⟨b, off, rfl, hR⟩ := HA.out (by omega)
      have hc1 := hR j hlt
      have hrj := HB.out j hlt
      have hle1 := hst.out (j + 1) (by omega)
      have hstep := hnx.out j
      have hzz2 := hzz.out
      clear hR
      generalize hx : gv us j = u at *
      generalize hA : szToB x j = A at *
      generalize hA1 : szToB x (j + 1) = A1 at *
      generalize hAn : szToB x n = An at *
      generalize hL : (gbl x j).length = L at *
      have hd2 : ¬ (k - (n : Int) - (A : Int) - (L : Int)) < 0 := by omega
      have hA2 : k - (n : Int) - (A : Int) - (L : Int) = k - (n : Int) - (A1 : Int) := by omega
      have hif : (L : Int) ≤ k - (n : Int) - (A : Int) := by omega
      have hbd : -1 ≤ k - (n : Int) - (A : Int) ∧ k - (n : Int) - (A : Int) ≤ 1048576 := by omega
      replace hx := Lib.hid hx
      replace hA := Lib.hid hA
      replace hA1 := Lib.hid hA1
      replace hAn := Lib.hid hAn
      replace hL := Lib.hid hL
      replace hrj := Lib.hid hrj
      replace hstep := Lib.hid hstep
      replace hzz2 := Lib.hid hzz2
      have hd3 : ¬ (k - (n : Int) - (A1 : Int)) < 0 := by omega
      replace hA2 := Lib.hid hA2
      replace hif := Lib.hid hif
      replace hd2 := Lib.hid hd2
      go_wp2_with fail
      refine (szBoolS_any _ _ _ _ (hrj.out.drewN _) hbd).mono ?_
      rintro e w' ⟨rfl, rfl⟩
      rw [hL.out, if_pos hif.out, hA2.out]
      go_wp2
      go_roundw
      case rel => exact ⟨j + 1, _, by omega, by go_num, by rw [hA1.out], by first | rfl | exact World.drewN_drewN ..⟩
      case measure => simp [intOf]; omega
    · obtain rfl : j = n := by omega
      have he : k - (j : Int) - (szToB x j : Nat) = k - (Z : Int) := by have := hzz.out; omega
      replace he := Lib.hid he
      go_wp2
      go_ret
      exact ⟨by rw [← he.out]; rfl, Below.quiet ⟨_, rfl⟩⟩
set_option maxHeartbeats 1000000 in
theorem szBoolSS_no {v : Value} {x : List (List Bool)} {k : Int} {w : World} (hv : DBoolSS w v x) (hk : 0 ≤ k) (hk2 : k ≤ 1048576) (hle : ¬ (szBoolSS x : Int) ≤ k) :
    Calls Try.prog 15 #[v, .int .i64 k] w fun e w' => e = .returned (.int .i64 (-1)) ∧ Below w.heap.size w w' := by
  obtain ⟨ao, c, us, rfl, h1, h2, hu, HA, HB⟩ := hv
  unfold maxLen at h2
  have hz := show szBoolSS x = x.length + szToB x x.length from rfl
  have hnx := Lib.hid (fun i => show szToB x (i + 1) = szToB x i + (gbl x i).length from rfl)
  generalize hZ : szBoolSS x = Z at *
  generalize hn : x.length = n at *
  replace HA := Lib.hid HA
  replace HB := Lib.hid HB
  replace hn := Lib.hid hn
  replace hu := Lib.hid hu
  by_cases hfirst : (n : Int) ≤ k
  · have hd : ¬ (k - (n : Int)) < 0 := by omega
    have hzz : ¬ (szToB x n : Int) ≤ k - (n : Int) := by omega
    replace hzz := Lib.hid hzz
    replace hz := Lib.hid hz
    go_enter Try.func15, Try.ntmps15
    go_wp2
    go_loopw [1, 5] (fun l i wr => ∃ j q : Nat, j ≤ n ∧ i = .int .i64 j ∧ l = .int .i64 (k - (n : Int) - (szToB x j : Nat)) ∧ (szToB x j : Int) ≤ k - (n : Int) ∧ wr = w.drewN q) (fun _ i _ => n - (intOf i).toNat)
    case atStart => exact ⟨0, 0, Nat.zero_le _, rfl, by simp [szToB], by simp [szToB]; omega, rfl⟩
    case round =>
      obtain ⟨j, q, hj, rfl, rfl, hjle, rfl⟩ := hrel
      by_cases hlt : j < n
      · obtain ⟨b, off, rfl, hR⟩ := HA.out (by omega)
        have hc1 := hR j hlt
        have hrj := HB.out j hlt
        have hstep := hnx.out j
        clear hR
        generalize hx : gv us j = u at *
        generalize hA : szToB x j = A at *
        generalize hA1 : szToB x (j + 1) = A1 at *
        generalize hL : (gbl x j).length = L at *
        have hbd : -1 ≤ k - (n : Int) - (A : Int) ∧ k - (n : Int) - (A : Int) ≤ 1048576 := by omega
        replace hx := Lib.hid hx
        replace hA := Lib.hid hA
        replace hA1 := Lib.hid hA1
        replace hL := Lib.hid hL
        replace hrj := Lib.hid hrj
        by_cases hif : (L : Int) ≤ k - (n : Int) - (A : Int)
        · have hA2 : k - (n : Int) - (A : Int) - (L : Int) = k - (n : Int) - (A1 : Int) := by omega
          have hd3 : ¬ (k - (n : Int) - (A1 : Int)) < 0 := by omega
          replace hA2 := Lib.hid hA2
          replace hif := Lib.hid hif
          replace hstep := Lib.hid hstep
          go_wp2_with fail
          refine (szBoolS_any _ _ _ _ (hrj.out.drewN _) hbd).mono ?_
          rintro e w' ⟨rfl, rfl⟩
          rw [hL.out, if_pos hif.out, hA2.out]
          go_wp2
          go_roundw
          case rel => exact ⟨j + 1, _, by omega, by go_num, by rw [hA1.out], by rw [hA1.out]; omega, by first | rfl | exact World.drewN_drewN ..⟩
          case measure => simp [intOf]; omega
        · replace hif := Lib.hid hif
          replace hstep := Lib.hid hstep
          go_wp2_with fail
          refine (szBoolS_any _ _ _ _ (hrj.out.drewN _) hbd).mono ?_
          rintro e w' ⟨rfl, rfl⟩
          rw [hL.out, if_neg (by have := hif.out; omega)]
          go_wp2
          go_ret
          exact ⟨rfl, Below.quiet ⟨_, by first | rfl | exact World.drewN_drewN ..⟩⟩
      · exfalso
        obtain rfl : j = n := by omega
        have := hzz.out; omega
  · have hd : (k - (n : Int)) < 0 := by omega
    replace hz := Lib.hid hz
    go_enter Try.func15, Try.ntmps15
    go_wp2
    go_ret
    exact ⟨rfl, Below.refl _ _⟩

/-! toBoolSS -/
theorem Row.setV {w : World} {e b off c : Nat} {xs : List Value} (h : Row w e b off c xs) {i : Nat} (hi : i < xs.length) (v : Value) : Row (w.setCell ⟨b, off + i, none⟩ v) e b off c (xs.set i v) := h.set hi v
theorem take_setV {us : List Value} {n k : Nat} {u : Value} (hu : us.length = k) (hk : k < n) : (us ++ List.replicate (n - k) (Value.slice none 0 0)).set k u = (us ++ [u]) ++ List.replicate (n - (k + 1)) (Value.slice none 0 0) := by
  subst hu
  rw [List.set_append_right _ _ (Nat.le_refl _), Nat.sub_self, show n - us.length = (n - (us.length + 1)) + 1 by omega, List.replicate_succ]
  simp
set_option maxHeartbeats 1000000 in
theorem toBoolSS_law {v : Value} {x : List (List Bool)} {w : World} (hv : DBoolSS w v x) (hl : szBoolSS x ≤ 1048576) :
    Calls Try.prog 17 #[v] w fun e w' => ∃ u F, e = .returned u ∧ RBoolSS w' u x F ∧ Fr w.heap.size F ∧ Below w.heap.size w w' := by
  obtain ⟨i0, hi, hz0, hz1, hz2⟩ := info_parts infoBoolS
  have hD := Lib.hid hv
  obtain ⟨ao, c, us, rfl, h1, h2, hu, HA, HB⟩ := hv
  unfold maxLen at h2
  have hst := fun i (h : i ≤ x.length) => szToB_le x i x.length h
  have hnx := fun i => show szToB x (i + 1) = szToB x i + (gbl x i).length from rfl
  have hln : ∀ i, i < x.length → (gbl x i).length ≤ 1048576 := by
    intro i hi
    have h1 := hst (i + 1) (by omega)
    have h2 := hnx i
    unfold szBoolSS at hl
    omega
  have hxl : x.length ≤ 1048576 := by unfold szBoolSS at hl; omega
  clear hst hnx hl
  replace hln := Lib.hid hln
  generalize hn : x.length = n at *
  replace hn := Lib.hid hn
  replace HA := Lib.hid HA
  replace HB := Lib.hid HB
  replace hu := Lib.hid hu
  go_enter Try.func17, Try.ntmps17
  go_wp2_with (at_make; refine wpList_make_full _ rfl _ _ 28 rfl w.heap.size 56 i0 (.slice none 0 0) 1 Try.underlying28 hi hz0 hz1 _ _ _ _ n rfl rfl rfl rfl (by rw [hz2]; omega) (by unfold maxLen; omega) (Nat.le_refl _) ?_)
  intro w1 hown hgrow
  have hrow := Row.of_owns hown
  have hmade : (madeCells #[Value.slice none 0 0] n).toList = List.replicate n (Value.slice none 0 0) := toList_madeCells_one _ _
  rw [hmade] at hrow
  have HR := Lib.hid hrow
  have HG := Lib.hid hgrow
  have hblt := hrow.lt
  clear hrow hown hgrow hi hz0 hz1 hz2 hmade
  go_wp2
  go_loopw [4] (fun i wr => ∃ (k : Nat) (vs : List Value), k ≤ n ∧ i = .int .i64 k ∧ vs.length = k ∧ Row wr 56 w.heap.size 0 n (vs ++ List.replicate (n - k) (.slice none 0 0)) ∧ InB wr (w.heap.size + 1) (.slice (some ⟨w.heap.size, 0, none⟩) n n) vs (x.take k) ∧ w.grownBy wr none) (fun i _ => n - (intOf i).toNat)
  case atStart => exact ⟨0, [], Nat.zero_le _, rfl, rfl, by simpa using HR.out, InB.nil _ _ _, HG.out⟩
  case round =>
    obtain ⟨k, vs, hk, rfl, hvl, hrow, hin, hgrow⟩ := hrel
    by_cases hlt : k < n
    · have hg2 := hrow.lt
      have hb0 := HG.out.size
      obtain ⟨b, off, rfl, hR⟩ := HA.out (by omega)
      have hc1 : wr.cell? ⟨b, off + k, none⟩ = some (gv us k) := by
        have h0 := hR k hlt
        rw [World.cell?_of_block (w := w) (hgrow.block b (block_lt_of_cell h0) (by simp))]
        exact h0
      have hrk := (HB.out k hlt).below (grownBy.below hgrow)
      have hlk := hln.out k hlt
      clear hR
      generalize hx : gv us k = u at *
      replace hx := Lib.hid hx
      have HS := Lib.hid hrow
      have HG2 := Lib.hid hgrow
      have hin2 := Lib.hid hin
      replace hrk := Lib.hid hrk
      replace hvl := Lib.hid hvl
      clear hrow hgrow hin
      go_wp2_with fail
      refine (toBoolS_any _ _ _ hrk.out hlk).mono ?_
      rintro e w2 ⟨rfl, hsl, hb⟩
      have hR2 := HS.out.below hb hg2
      have hf := hR2.frozen k
      obtain ⟨y, hy⟩ : ∃ y, w2.cell? ⟨w.heap.size, k, none⟩ = some y := by
        have := hR2.cell (i := k) (by simp [hvl.out]; omega)
        rw [Nat.zero_add] at this
        exact ⟨_, this⟩
      have hin3 : InB w2 (w.heap.size + 1) (.slice (some ⟨w.heap.size, 0, none⟩) n n) (vs ++ [.slice (some ⟨wr.heap.size, 0, none⟩) (gbl x k).length (gbl x k).length]) (x.take k ++ [gbl x k]) := by
        refine (hin2.out.of_block (fun i hi q hq => hb.block q (hin2.out.lt hi hq))).snoc hsl ?_ (fun i hi q hq => hin2.out.hd i hi q hq)
        intro q hq
        simp [Value.ownBlock] at hq
        subst hq
        refine ⟨by omega, by simp [Value.ownBlock]; omega, fun i hi e => ?_⟩
        have := hin2.out.lt hi e
        omega
      have htk : x.take k ++ [gbl x k] = x.take (k + 1) := by
        rw [gbl_eq (by rw [hn.out]; exact hlt)]; simp
      rw [htk] at hin3
      replace hR2 := Lib.hid hR2
      replace hin3 := Lib.hid hin3
      have hG3 := Lib.hid (grownBy.trans HG2.out (grownBy.of_below hb none))
      clear hb hsl htk
      generalize (gbl x k).length = L at *
      go_wp2
      go_roundw
      case rel =>
        refine ⟨k + 1, vs ++ [.slice (some ⟨wr.heap.size, 0, none⟩) L L], by omega, by go_num, by simp [hvl.out], ?_, ?_, ?_⟩
        · have := hR2.out.set (i := k) (by simp [hvl.out]; omega) (.slice (some ⟨wr.heap.size, 0, none⟩) L L)
          rw [take_setV hvl.out hlt, Nat.zero_add] at this
          exact this
        · exact hin3.out.of_block fun i hi q hq => heap_setCell_other _ _ _ _ (by have := hin3.out.low i hi q hq; simp; omega)
        · exact grownBy.setNew hG3.out (Nat.le_refl _)
      case measure => simp [intOf]; omega
    · have HS := Lib.hid hrow
      have HG2 := Lib.hid hgrow
      have hin2 := Lib.hid hin
      clear hrow hgrow hin
      go_wp2
      go_ret
      obtain rfl : k = n := by omega
      have h3 := HS.out
      rw [Nat.sub_self, List.replicate_zero, List.append_nil] at h3
      have h4 := hin2.out
      rw [List.take_of_length_le (by rw [hn.out]; exact Nat.le_refl _)] at h4
      have h5 := Sl.of_row h3
      rw [hvl] at h5
      refine ⟨_, _, rfl, ⟨vs, h5, ⟨h4.len, h4.sl, fun _ _ _ _ => Nat.zero_le _, h4.hd, h4.dj⟩, rfl⟩, ?_, grownBy.below HG2.out⟩
      intro q hq
      rcases List.mem_append.1 hq with hq | hq
      · simp [Value.ownBlock] at hq; omega
      · obtain ⟨i, hi, hq⟩ := mem_fbl.1 hq
        have := h4.low i (by rw [← h4.len]; exact hi) q hq
        omega
end Go.Proofs.Ytdhcpoeopooejaa
