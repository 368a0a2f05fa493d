/- Slices of strings: how they lie in memory; szStringS, toStringS, eqStringS. -/
import Derived.Test.YtoeonplbgbgjmaaDoorMg2
import Derived.SliceStrings
namespace Go.Proofs.YtoeonplbgbgjmaaDoor
open Go.RowKit Go.ChangeShapes Go.WideShapes Go.ChangeAt

def gs (xs : List ByteArray) (i : Nat) : ByteArray := xs.getD i ByteArray.empty
theorem gs_eq {xs : List ByteArray} {i : Nat} (h : i < xs.length) : gs xs i = xs[i] := by simp [gs, h]
def strs (xs : List ByteArray) : List Value := xs.map Value.string
@[simp] theorem strs_length (xs : List ByteArray) : (strs xs).length = xs.length := by simp [strs]
theorem strs_get {xs : List ByteArray} {i : Nat} (h : i < xs.length) (h' : i < (strs xs).length) : (strs xs)[i] = .string (gs xs i) := by
  rw [gs_eq h]; simp [strs]
theorem strs_set (xs : List ByteArray) (i : Nat) (x : ByteArray) : strs (xs.set i x) = (strs xs).set i (.string x) := by simp [strs, List.map_set]
theorem made_strs (n : Nat) : (madeCells #[Value.string ByteArray.empty] n).toList = strs (List.replicate n ByteArray.empty) := by
  rw [toList_madeCells_one]; simp [strs]
theorem Row.cellStr {w : World} {e b off c : Nat} {xs : List ByteArray} (h : Row w e b off c (strs xs)) {i : Nat} (hi : i < xs.length) : w.cell? ⟨b, off + i, none⟩ = some (.string (gs xs i)) := by
  rw [h.cell (by simpa using hi), strs_get hi]
theorem Row.setStr {w : World} {e b off c : Nat} {xs : List ByteArray} (h : Row w e b off c (strs xs)) {i : Nat} (hi : i < xs.length) (x : ByteArray) : Row (w.setCell ⟨b, off + i, none⟩ (.string x)) e b off c (strs (xs.set i x)) := by
  rw [strs_set]; exact h.set (by simpa using hi) _
theorem strs_one (xs : List ByteArray) : ∀ y ∈ strs xs, y.oneCell' = true := by
  intro y hy
  simp [strs] at hy
  obtain ⟨a, _, rfl⟩ := hy
  rfl
theorem gs_ext {xs ys : List ByteArray} (hl : xs.length = ys.length) (h : ∀ j, j < xs.length → gs xs j = gs ys j) : xs = ys := by
  apply List.ext_getElem hl
  intro i h1 h2
  have := h i h1
  rwa [gs_eq h1, gs_eq h2] at this
/-- A slice of strings that can be read. -/
def RdS (w : World) (v : Value) (xs : List ByteArray) : Prop :=
  ∃ ao c, v = .slice ao xs.length c ∧ xs.length ≤ c ∧ c ≤ maxLen ∧ (∀ i, i < xs.length → (gs xs i).size ≤ maxLen) ∧
    (0 < xs.length → ∃ b off, ao = some ⟨b, off, none⟩ ∧ ∀ i, i < xs.length → w.cell? ⟨b, off + i, none⟩ = some (.string (gs xs i)))
theorem RdS.below {w w' : World} {v : Value} {xs : List ByteArray} (h : RdS w v xs) (hb : Below w.heap.size w w') : RdS w' v xs := by
  obtain ⟨ao, c, rfl, h1, h2, h4, h3⟩ := h
  refine ⟨ao, c, rfl, h1, h2, h4, fun hp => ?_⟩
  obtain ⟨b, off, rfl, hr⟩ := h3 hp
  refine ⟨b, off, rfl, fun i hi => ?_⟩
  have := hr i hi
  rw [hb.cell (p := ⟨b, off + i, none⟩) (block_lt_of_cell this)]
  exact this
theorem RdS.shape {w : World} {v : Value} {xs : List ByteArray} (h : RdS w v xs) : ∃ ao c, v = .slice ao xs.length c := by
  obtain ⟨ao, c, rfl, _⟩ := h
  exact ⟨ao, c, rfl⟩
theorem RdS.len {w : World} {v : Value} {xs : List ByteArray} (h : RdS w v xs) : xs.length ≤ 9223372036854775807 := by
  obtain ⟨ao, c, rfl, h1, h2, _⟩ := h
  unfold maxLen at h2
  omega
theorem Sl.rdS {w : World} {e : Nat} {v : Value} {xs : List ByteArray} (h : Sl w e v (strs xs)) (hs : ∀ i, i < xs.length → (gs xs i).size ≤ maxLen) : RdS w v xs := by
  obtain ⟨ao, c, rfl, h⟩ := h
  rcases h with ⟨rfl, h, rfl⟩ | ⟨b, off, rfl, hr⟩
  · have : xs = [] := by simpa [strs] using h
    subst this
    exact ⟨_, _, rfl, Nat.le_refl _, Nat.zero_le _, fun i hi => absurd hi (by simp), fun h => absurd h (by simp)⟩
  · have h1 := hr.le
    have h2 := hr.capLe
    rw [strs_length] at *
    exact ⟨_, _, rfl, h1, h2, hs, fun _ => ⟨b, off, rfl, fun i hi => hr.cellStr hi⟩⟩
/-- What szStringS counts. -/
def szSTo (x : List ByteArray) : Nat → Nat
  | 0 => 0
  | i + 1 => szSTo x i + (gs x i).size
def szStringS (x : List ByteArray) : Nat := x.length + szSTo x x.length
theorem szSTo_le (x : List ByteArray) (i j : Nat) (h : i ≤ j) : szSTo x i ≤ szSTo x j := by
  induction j with
  | zero => have : i = 0 := by omega
            subst this; exact Nat.le_refl _
  | succ j ih =>
    by_cases e : i = j + 1
    · subst e; exact Nat.le_refl _
    · have := ih (by omega)
      rw [szSTo]; omega
set_option maxHeartbeats 1000000 in
theorem szStringS_ok (v : Value) (x : List ByteArray) (k : Int) (w : World) (hv : RdS w v x) (hk2 : k ≤ 1048576) (hle : (szStringS x : Int) ≤ k) :
    Calls Tryd.prog 70 #[v, .int .i64 k] w fun e w' => e = .returned (.int .i64 (k - (szStringS x : Int))) ∧ ∃ q, w' = w.drewN q := by
  obtain ⟨ao, c, rfl, h1, h2, hs, HA⟩ := hv
  unfold maxLen at h2
  have hst := Lib.hid (fun i (h : i ≤ x.length) => szSTo_le x i x.length h)
  have hz := Lib.hid (show szStringS x = x.length + szSTo x x.length from rfl)
  have hnx := Lib.hid (fun i => show szSTo x (i + 1) = szSTo x i + (gs x i).size from rfl)
  generalize hZ : szStringS x = Z at *
  generalize hn : x.length = n at *
  replace HA := Lib.hid HA
  replace hn := Lib.hid hn
  replace hs := Lib.hid hs
  have hzz := hz.out
  have hd : ¬ (k - (n : Int)) < 0 := by omega
  replace hzz := Lib.hid hzz
  go_enter Tryd.func70, Tryd.ntmps70
  go_wp2
  go_loopw [1, 5] (fun l i wr => ∃ j q : Nat, j ≤ n ∧ i = .int .i64 j ∧ l = .int .i64 (k - (n : Int) - (szSTo x j : Nat)) ∧ wr = w.drewN q) (fun _ i _ => n - (intOf i).toNat)
  case atStart => exact ⟨0, 0, Nat.zero_le _, rfl, by simp [szSTo], rfl⟩
  case round =>
    obtain ⟨j, q, hj, rfl, rfl, rfl⟩ := hrel
    by_cases hlt : j < n
    · obtain ⟨b, off, rfl, hR⟩ := HA.out (by omega)
      have hc1 := hR j hlt
      have hsj := hs.out j hlt
      unfold maxLen at hsj
      have hle1 := hst.out (j + 1) (by omega)
      have hstep := hnx.out j
      have hzz2 := hzz.out
      clear hR
      generalize hx : gs x j = s at *
      generalize hA : szSTo x j = A at *
      generalize hA1 : szSTo x (j + 1) = A1 at *
      generalize hAn : szSTo x n = An at *
      have hd2 : ¬ (k - (n : Int) - (A : Int) - (s.size : Int)) < 0 := by omega
      have hA2 : (A1 : Int) = (A : Int) + (s.size : Int) := by omega
      replace hx := Lib.hid hx
      replace hA := Lib.hid hA
      replace hA1 := Lib.hid hA1
      replace hAn := Lib.hid hAn
      replace hstep := Lib.hid hstep
      replace hA2 := Lib.hid hA2
      replace hzz2 := Lib.hid hzz2
      go_wp2
      go_roundw
      case rel => exact ⟨j + 1, _, by omega, by go_num, by rw [hA1.out, hA2.out]; go_num, rfl⟩
      case measure => simp [intOf]; omega
    · obtain rfl : j = n := by omega
      have he : k - (j : Int) - (szSTo x j : Nat) = k - (Z : Int) := by have := hzz.out; omega
      replace he := Lib.hid he
      go_wp2
      go_ret
      exact ⟨by rw [← he.out]; rfl, _, rfl⟩
set_option maxHeartbeats 1000000 in
theorem szStringS_not (v : Value) (x : List ByteArray) (k : Int) (w : World) (hv : RdS w v x) (hk : 0 ≤ k) (hk2 : k ≤ 1048576) (hle : ¬ (szStringS x : Int) ≤ k) :
    Calls Tryd.prog 70 #[v, .int .i64 k] w fun e w' => e = .returned (.int .i64 (-1)) ∧ ∃ q, w' = w.drewN q := by
  obtain ⟨ao, c, rfl, h1, h2, hs, HA⟩ := hv
  unfold maxLen at h2
  have hz := show szStringS x = x.length + szSTo x x.length from rfl
  have hnx := Lib.hid (fun i => show szSTo x (i + 1) = szSTo x i + (gs x i).size from rfl)
  generalize hZ : szStringS x = Z at *
  generalize hn : x.length = n at *
  replace HA := Lib.hid HA
  replace hn := Lib.hid hn
  replace hs := Lib.hid hs
  by_cases hneg : (k - (n : Int)) < 0
  · replace hz := Lib.hid hz
    go_enter Tryd.func70, Tryd.ntmps70
    go_wp2
    go_ret
    exact ⟨rfl, 0, rfl⟩
  replace hz := Lib.hid hz
  go_enter Tryd.func70, Tryd.ntmps70
  go_wp2
  go_loopw [1, 5] (fun l i wr => ∃ j q : Nat, j ≤ n ∧ i = .int .i64 j ∧ l = .int .i64 (k - (n : Int) - (szSTo x j : Nat)) ∧ 0 ≤ k - (n : Int) - (szSTo x j : Nat) ∧ wr = w.drewN q) (fun _ i _ => n - (intOf i).toNat)
  case atStart => exact ⟨0, 0, Nat.zero_le _, rfl, by simp [szSTo], by simp [szSTo]; omega, rfl⟩
  case round =>
    obtain ⟨j, q, hj, rfl, rfl, hge, rfl⟩ := hrel
    by_cases hlt : j < n
    · obtain ⟨b, off, rfl, hR⟩ := HA.out (by omega)
      have hc1 := hR j hlt
      have hsj := hs.out j hlt
      unfold maxLen at hsj
      have hstep := hnx.out j
      clear hR
      generalize hx : gs x j = s at *
      generalize hA : szSTo x j = A at *
      generalize hA1 : szSTo x (j + 1) = A1 at *
      have hA2 : (A1 : Int) = (A : Int) + (s.size : Int) := by omega
      replace hx := Lib.hid hx
      replace hA := Lib.hid hA
      replace hA1 := Lib.hid hA1
      replace hstep := Lib.hid hstep
      replace hA2 := Lib.hid hA2
      by_cases hd2 : (k - (n : Int) - (A : Int) - (s.size : Int)) < 0
      · go_wp2
        go_ret
        exact ⟨rfl, _, rfl⟩
      · go_wp2
        go_roundw
        case rel => exact ⟨j + 1, _, by omega, by go_num, by rw [hA1.out, hA2.out]; go_num, by rw [hA1.out, hA2.out]; omega, rfl⟩
        case measure => simp [intOf]; omega
    · obtain rfl : j = n := by omega
      have := hz.out
      exact absurd hle (by omega)
theorem infoStr : (Tryd.prog.info? 9).map (fun i => (i.zero, i.size, i.bytes)) = some (some (.string ByteArray.empty), 1, 16) := by kernel_rfl
theorem take_setS (xs : List ByteArray) (n k : Nat) (hn : xs.length = n) (hk : k < n) : (xs.take k ++ List.replicate (n - k) ByteArray.empty).set k (gs xs k) = xs.take (k + 1) ++ List.replicate (n - (k + 1)) ByteArray.empty := by
  rw [gs_eq (by omega)]
  apply List.ext_getElem?
  intro i
  rw [List.getElem?_set]
  simp only [List.length_append, List.length_take, List.length_replicate]
  by_cases h : k = i
  · subst h
    rw [if_pos rfl, if_pos (by omega), List.getElem?_append_left (by simp; omega)]
    simp
  · rw [if_neg h]
    by_cases h2 : i < k
    · rw [List.getElem?_append_left (by simp; omega), List.getElem?_append_left (by simp; omega)]
      simp [h2, Nat.lt_succ_of_lt h2]
    · rw [List.getElem?_append_right (by simp; omega), List.getElem?_append_right (by simp; omega)]
      simp only [List.length_take, List.getElem?_replicate]
      have : i - min k xs.length < n - k ↔ i - min (k + 1) xs.length < n - (k + 1) := by omega
      simp [this]
set_option maxHeartbeats 1000000 in
theorem toStringS_any (v : Value) (xs : List ByteArray) (w : World) (hv : RdS w v xs) (hl : xs.length ≤ 1048576) :
    Calls Tryd.prog 73 #[v] w fun e w' => e = .returned (.slice (some ⟨w.heap.size, 0, none⟩) xs.length xs.length) ∧ Sl w' 9 (.slice (some ⟨w.heap.size, 0, none⟩) xs.length xs.length) (strs xs) ∧ Below w.heap.size w w' := by
  obtain ⟨i0, hi, hz0, hz1, hz2⟩ := info_parts infoStr
  obtain ⟨ao, c, rfl, _, _, _, hcells⟩ := hv
  have HC := Lib.hid hcells
  clear hcells
  generalize hn : xs.length = n at *
  have HN := Lib.hid hn
  clear hn
  go_enter Tryd.func73, Tryd.ntmps73
  go_wp2_with (at_make; refine wpList_make_full _ rfl _ _ 34 rfl w.heap.size 9 i0 (.string ByteArray.empty) 1 Tryd.underlying34 hi hz0 hz1 _ _ _ _ n rfl rfl rfl rfl (by rw [hz2]; omega) (by unfold maxLen; omega) (Nat.le_refl _) ?_)
  intro w1 hown hgrow
  have hrow := Row.of_owns hown
  rw [made_strs] at hrow
  have HR := Lib.hid hrow
  have HG := Lib.hid hgrow
  clear hrow hown hgrow hi hz0 hz1 hz2
  go_wp2
  go_loopw [4] (fun i wr => ∃ k : Nat, k ≤ n ∧ i = .int .i64 k ∧ Row wr 9 w.heap.size 0 n (strs (xs.take k ++ List.replicate (n - k) ByteArray.empty)) ∧ w.grownBy wr none) (fun i _ => n - (intOf i).toNat)
  case atStart => exact ⟨0, Nat.zero_le _, rfl, by simpa using HR.out, HG.out⟩
  case round =>
    obtain ⟨k, hk, rfl, hrow, hgrow⟩ := hrel
    by_cases hlt : k < n
    · have hg2 := hrow.lt
      obtain ⟨b, off, rfl, hR⟩ := HC.out (by omega)
      have hc1 : wr.cell? ⟨b, off + k, none⟩ = some (.string (gs xs k)) := by
        have h0 := hR k hlt
        rw [World.cell?_of_block (w := w) (hgrow.block b (block_lt_of_cell h0) (by simp))]
        exact h0
      obtain ⟨y, hy⟩ : ∃ y, wr.cell? ⟨w.heap.size, k, none⟩ = some y := by
        have := hrow.cell (i := k) (by simp [HN.out]; omega)
        rw [Nat.zero_add] at this
        exact ⟨_, this⟩
      have hf := hrow.frozen k
      have HS := Lib.hid hrow
      have HG2 := Lib.hid hgrow
      clear hrow hgrow hR
      go_wp2
      go_roundw
      case rel =>
        refine ⟨k + 1, by omega, by go_num, ?_, ?_⟩
        · have := HS.out.setStr (i := k) (by simp [HN.out]; omega) (gs xs k)
          rw [take_setS xs n k HN.out hlt, Nat.zero_add] at this
          exact this
        · exact grownBy.setNew HG2.out (Nat.le_refl _)
      case measure => simp [intOf]; omega
    · have HS := Lib.hid hrow
      have HG2 := Lib.hid hgrow
      clear hrow hgrow
      go_wp2
      go_ret
      obtain rfl : k = n := by omega
      refine ⟨rfl, ?_, grownBy.below HG2.out⟩
      have h3 := HS.out
      rw [List.take_of_length_le (by rw [HN.out]; omega), Nat.sub_self, List.replicate_zero, List.append_nil] at h3
      have h4 := Sl.of_row h3
      rwa [strs_length, HN.out] at h4
set_option maxHeartbeats 1000000 in
theorem eqStringS_any (v u : Value) (xs ys : List ByteArray) (w : World) (hv : RdS w v xs) (hu : RdS w u ys) :
    Calls Tryd.prog 75 #[v, u] w fun e w' => e = .returned (.bool (decide (xs = ys))) ∧ ∃ q, w' = w.drewN q := by
  obtain ⟨ao, c, rfl, _, h1, _, HA⟩ := hv
  obtain ⟨bo, d, rfl, _, h2, _, HB⟩ := hu
  replace HA := Lib.hid HA
  replace HB := Lib.hid HB
  unfold maxLen at h1 h2
  by_cases hne : xs.length = ys.length
  · generalize hn : xs.length = n at *
    generalize hm : ys.length = m at *
    subst hne
    replace hn := Lib.hid hn
    replace hm := Lib.hid hm
    go_enter Tryd.func75, Tryd.ntmps75
    go_wp2
    go_loopw [5] (fun i wr => ∃ k q : Nat, k ≤ n ∧ i = .int .i64 k ∧ wr = w.drewN q ∧ ∀ j, j < k → gs xs j = gs ys j) (fun i _ => n - (intOf i).toNat)
    case atStart => exact ⟨0, 0, Nat.zero_le _, rfl, rfl, fun j hj => absurd hj (by omega)⟩
    case round =>
      obtain ⟨k, q, hk, rfl, rfl, heq⟩ := hrel
      replace heq := Lib.hid heq
      by_cases hlt : k < n
      · obtain ⟨b, off, rfl, hR⟩ := HA.out (by omega)
        obtain ⟨b2, off2, rfl, hR2⟩ := HB.out (by omega)
        have hc1 := hR k hlt
        have hc2 := hR2 k hlt
        clear hR hR2
        generalize hx : gs xs k = x at *
        generalize hy : gs ys k = y at *
        replace hx := Lib.hid hx
        replace hy := Lib.hid hy
        by_cases hxy : x = y
        · subst hxy
          go_wp2
          go_quiet (fail)
          go_wp2
          go_roundw
          case rel =>
            refine ⟨k + 1, _, by omega, by go_num, rfl, fun j hj => ?_⟩
            by_cases hjk : j = k
            · subst hjk; rw [hx.out, hy.out]
            · exact heq.out j (by omega)
          case measure => simp [intOf]; omega
        · have hxy3 : (x.toList == y.toList) = false := by
            simp only [beq_eq_false_iff_ne, ne_eq]
            intro e
            exact hxy (ByteArray.ext (by have := congrArg (fun (l : List UInt8) => ByteArray.mk l.toArray) e; simpa [ByteArray.toList_eq] using this))
          go_wp2
          go_quiet (fail)
          go_wp2
          go_ret
          refine ⟨ret_bool ?_, by first | exact ⟨_, rfl⟩ | exact ⟨_, World.drewN_drewN ..⟩⟩
          exact (decide_eq_false fun e => hxy (by rw [← hx.out, ← hy.out, e])).symm
      · go_wp2
        go_ret
        refine ⟨ret_bool ?_, _, rfl⟩
        obtain rfl : k = n := by omega
        exact (decide_eq_true (gs_ext (by rw [hn.out, hm.out]) (by rw [hn.out]; exact heq.out))).symm
  · have hd : decide (xs = ys) = false := decide_eq_false (fun e => hne (by rw [e]))
    rw [hd]
    generalize hn : xs.length = n at *
    generalize hm : ys.length = m at *
    replace hn := Lib.hid hn
    replace hm := Lib.hid hm
    clear hd
    go_enter Tryd.func75, Tryd.ntmps75
    go_wp2
    all_goals go_ret
    all_goals exact ⟨rfl, 0, rfl⟩
end Go.Proofs.YtoeonplbgbgjmaaDoor
