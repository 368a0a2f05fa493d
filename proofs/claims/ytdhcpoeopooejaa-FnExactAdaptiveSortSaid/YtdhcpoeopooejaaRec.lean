/- Slices of records: how they lie in memory; sz, to, eq. -/
import Derived.Test.YtdhcpoeopooejaaFrame
import Derived.Deep.RegionHeld3
namespace Go.Proofs.Ytdhcpoeopooejaa
open Go.RowKit
set_option linter.unusedVariables false
set_option linter.unusedSimpArgs false

theorem addr_plain {w : World} {a : Addr} {v : Value} (h : w.cell? (a.add 0) = some v) : a = ⟨a.block, a.off, none⟩ := by
  have hs := spot_of_cell h
  have h1 : (a.add 0).spot = a.spot := by unfold Addr.add; simp
  rw [h1] at hs
  cases a
  simp_all
/-- Records: key and tag. The cells of a list of records. -/
def recs (xs : List (Int × Int)) : List Value := xs.flatMap fun r => [.int .i64 r.1, .int .i64 r.2]
@[simp] theorem recs_length (xs : List (Int × Int)) : (recs xs).length = 2 * xs.length := by
  induction xs with
  | nil => rfl
  | cons x xs ih => simp [recs] at ih ⊢; omega
/-- Record i of a list. -/
def gr (xs : List (Int × Int)) (i : Nat) : Int × Int := xs.getD i (0, 0)
theorem gr_eq {xs : List (Int × Int)} {i : Nat} (h : i < xs.length) : gr xs i = xs[i] := by simp [gr, h]
theorem recs_key (xs : List (Int × Int)) (i : Nat) (h : i < xs.length) : (recs xs)[2 * i]? = some (.int .i64 (gr xs i).1) ∧ (recs xs)[2 * i + 1]? = some (.int .i64 (gr xs i).2) := by
  induction xs generalizing i with
  | nil => simp at h
  | cons x xs ih =>
    cases i with
    | zero => simp [recs, gr]
    | succ i =>
      have := ih i (by simpa using h)
      simp only [recs, List.flatMap_cons] at this ⊢
      rw [show 2 * (i + 1) = 2 * i + 1 + 1 by omega]
      exact this
theorem Row.of_owns2 {w : World} {base e : Nat} {g n : Nat} {xs : List Value} (hn1 : n ≤ 1000000000) (h : w.ownsRow base e 2 (.slice (some ⟨g, 0, none⟩) n n) n xs) : Row w e g 0 (2 * n) xs := by
  obtain ⟨hl, hh⟩ := h
  rcases hh with ⟨h, _⟩ | ⟨g', cap, cur, hv, _, hg, hn, hm, hs, ht⟩
  · simp at h
  · simp at hv
    obtain ⟨rfl, rfl⟩ := hv
    refine ⟨cur, hg, by omega, by omega, ?_, fun i hi => ?_⟩
    · unfold maxLen; omega
    have h2 : xs[i]? = some xs[i] := List.getElem?_eq_getElem hi
    have h3 : i < n * 2 := by omega
    rw [← h2, ← ht, List.getElem?_take]
    simp [h3]
theorem recs_set (xs : List (Int × Int)) (i : Nat) (a b : Int) : recs (xs.set i (a, b)) = ((recs xs).set (i * 2) (.int .i64 a)).set (i * 2 + 1) (.int .i64 b) := by
  induction xs generalizing i with
  | nil => simp [recs]
  | cons x xs ih =>
    cases i with
    | zero => simp [recs]
    | succ i =>
      have := ih i
      simp only [recs, List.set_cons_succ, List.flatMap_cons] at this ⊢
      rw [this, show (i + 1) * 2 = i * 2 + 1 + 1 by omega]
      simp
theorem take_setG {α : Type} (z : α) (xs : List α) (n k : Nat) (hn : xs.length = n) (hk : k < n) : (xs.take k ++ List.replicate (n - k) z).set k (xs[k]'(by omega)) = xs.take (k + 1) ++ List.replicate (n - (k + 1)) z := by
  apply List.ext_getElem?
  intro i
  rw [List.getElem?_set]
  simp only [List.length_append, List.length_take, List.length_replicate]
  by_cases h : k = i
  · subst h
    rw [if_pos rfl, if_pos (by omega), List.getElem?_append_left (by simp; omega)]
    simp
  · rw [if_neg h]
    by_cases h2 : i < k
    · rw [List.getElem?_append_left (by simp; omega), List.getElem?_append_left (by simp; omega)]
      simp [h2, Nat.lt_succ_of_lt h2]
    · rw [List.getElem?_append_right (by simp; omega), List.getElem?_append_right (by simp; omega)]
      simp only [List.length_take, List.getElem?_replicate]
      have : i - min k xs.length < n - k ↔ i - min (k + 1) xs.length < n - (k + 1) := by omega
      simp [this]
/-- A slice of records that can be read. -/
def RdR (w : World) (v : Value) (xs : List (Int × Int)) : Prop :=
  ∃ ao c, v = .slice ao xs.length c ∧ xs.length ≤ c ∧ c ≤ maxLen ∧ (0 < xs.length → ∃ b off, ao = some ⟨b, off, none⟩ ∧ ∀ i, i < xs.length → w.cell? ⟨b, off + i * 2, none⟩ = some (.int .i64 (gr xs i).1) ∧ w.cell? ⟨b, off + i * 2 + 1, none⟩ = some (.int .i64 (gr xs i).2))
theorem RdR.below {w w' : World} {v : Value} {xs : List (Int × Int)} (h : RdR w v xs) (hb : Below w.heap.size w w') : RdR w' v xs := by
  obtain ⟨ao, c, rfl, h1, h2, h3⟩ := h
  refine ⟨ao, c, rfl, h1, h2, fun hp => ?_⟩
  obtain ⟨b, off, rfl, hr⟩ := h3 hp
  refine ⟨b, off, rfl, fun i hi => ?_⟩
  have := hr i hi
  have hlt : b < w.heap.size := block_lt_of_cell this.1
  rw [hb.cell (p := ⟨b, off + i * 2, none⟩) hlt, hb.cell (p := ⟨b, off + i * 2 + 1, none⟩) hlt]
  exact this
theorem RdR.drewN {w : World} {v : Value} {xs : List (Int × Int)} (h : RdR w v xs) (n : Nat) : RdR (w.drewN n) v xs := h
/-- Records that the call's own row holds. -/
def SlR (w : World) (v : Value) (xs : List (Int × Int)) : Prop :=
  ∃ ao c, v = .slice ao xs.length c ∧ ((ao = none ∧ xs = [] ∧ c = 0) ∨ ∃ b off, ao = some ⟨b, off, none⟩ ∧ (xs.length ≤ c ∧ c ≤ maxLen) ∧ Row w 72 b off (2 * xs.length) (recs xs))
theorem SlR.rd {w : World} {v : Value} {xs : List (Int × Int)} (h : SlR w v xs) : RdR w v xs := by
  obtain ⟨ao, c, rfl, h⟩ := h
  rcases h with ⟨rfl, rfl, rfl⟩ | ⟨b, off, rfl, hc, hr⟩
  · exact ⟨_, _, rfl, Nat.le_refl _, Nat.zero_le _, fun h => absurd h (by simp)⟩
  · have hl := hr.le
    rw [recs_length] at hl
    refine ⟨_, _, rfl, hc.1, hc.2, fun _ => ⟨b, off, rfl, fun i hi => ?_⟩⟩
    have hk := recs_key xs i hi
    have h1 := hr.cell (i := 2 * i) (by rw [recs_length]; omega)
    have h2 := hr.cell (i := 2 * i + 1) (by rw [recs_length]; omega)
    rw [List.getElem?_eq_getElem (by rw [recs_length]; omega), Option.some.injEq] at hk
    rw [List.getElem?_eq_getElem (by rw [recs_length]; omega), Option.some.injEq] at hk
    rw [hk.1] at h1
    rw [hk.2] at h2
    rw [show off + i * 2 = off + 2 * i by omega, show off + 2 * i + 1 = off + (2 * i + 1) by omega]
    exact ⟨h1, h2⟩

set_option maxHeartbeats 400000 in
theorem szRecordS_any (v : Value) (xs : List (Int × Int)) (k : Int) (w : World) (hv : RdR w v xs) (hk : 0 ≤ k) (hk2 : k ≤ 1048576) :
    Calls Try.prog 28 #[v, .int .i64 k] w fun e w' => e = .returned (.int .i64 (if (xs.length : Int) ≤ k then k - xs.length else -1)) ∧ w = w' := by
  obtain ⟨ao, c, rfl, h1, h2, _⟩ := hv
  unfold maxLen at h2
  by_cases h : (xs.length : Int) ≤ k
  · rw [if_pos h]
    have hd : ¬ (k - (xs.length : Int)) < 0 := by omega
    go_enter Try.func28, Try.ntmps28
    go_wp2
    go_ret
    exact ⟨rfl, rfl⟩
  · rw [if_neg h]
    have hd : (k - (xs.length : Int)) < 0 := by omega
    go_enter Try.func28, Try.ntmps28
    go_wp2
    go_ret
    exact ⟨rfl, rfl⟩

set_option maxHeartbeats 400000 in
theorem toRecord_any (a b : Int) (w : World) :
    Calls Try.prog 69 #[.agg #[.int .i64 a, .int .i64 b]] w fun e w' => e = .returned (.agg #[.int .i64 a, .int .i64 b]) ∧ Below w.heap.size w w' := by
  go_enter Try.func69, Try.ntmps69
  go_wp2
  exact bodyPost_ret (v := .agg #[.int .i64 a, .int .i64 b]) (by simp [results, Try.results69, go_sem]) rfl ⟨rfl, (((Below.refl _ _).alloc (Nat.le_refl _) _).alloc (by simp) _).alloc (by simp; omega) _⟩
set_option maxHeartbeats 400000 in
theorem eqRecord_any (a b c d : Int) (w : World) :
    Calls Try.prog 72 #[.agg #[.int .i64 a, .int .i64 b], .agg #[.int .i64 c, .int .i64 d]] w fun e w' => e = .returned (.bool (decide ((a, b) = (c, d)))) ∧ Below w.heap.size w w' := by
  by_cases h1 : a = c
  · by_cases h2 : b = d
    · subst h1 h2
      go_enter Try.func72, Try.ntmps72
      go_wp2
      go_ret
      exact ⟨by simp, ((Below.refl _ _).alloc (Nat.le_refl _) _).alloc (by simp) _⟩
    · subst h1
      rw [show decide ((a, b) = (a, d)) = false by simp [h2]]
      go_enter Try.func72, Try.ntmps72
      go_wp2
      go_ret
      exact ⟨rfl, ((Below.refl _ _).alloc (Nat.le_refl _) _).alloc (by simp) _⟩
  · rw [show decide ((a, b) = (c, d)) = false by simp [h1]]
    go_enter Try.func72, Try.ntmps72
    go_wp2
    go_ret
    exact ⟨rfl, ((Below.refl _ _).alloc (Nat.le_refl _) _).alloc (by simp) _⟩

theorem eqRecord_same (a b c d : Int) (w : World) (h : a = c ∧ b = d) :
    Calls Try.prog 72 #[.agg #[.int .i64 a, .int .i64 b], .agg #[.int .i64 c, .int .i64 d]] w fun e w' => e = .returned (.bool true) ∧ Below w.heap.size w w' := by
  have := eqRecord_any a b c d w
  rwa [show decide ((a, b) = (c, d)) = true by simp [h.1, h.2]] at this
theorem eqRecord_ne (a b c d : Int) (w : World) (h : ¬ (a = c ∧ b = d)) :
    Calls Try.prog 72 #[.agg #[.int .i64 a, .int .i64 b], .agg #[.int .i64 c, .int .i64 d]] w fun e w' => e = .returned (.bool false) ∧ Below w.heap.size w w' := by
  have := eqRecord_any a b c d w
  rwa [show decide ((a, b) = (c, d)) = false by simpa using h] at this
theorem infoRec : (Try.prog.info? 72).map (fun i => (i.zero, i.size, i.bytes)) = some (some (.agg #[.int .i64 0, .int .i64 0]), 2, 16) := by kernel_rfl
/-- A list of n records made by make. -/
theorem made_recs (n : Nat) : (madeCells #[Value.int .i64 0, Value.int .i64 0] (n * 2)).toList = recs (List.replicate n (0, 0)) := by
  apply List.ext_getElem (by simp [madeCells]; omega)
  intro i h1 h2
  have hi : i / 2 < (List.replicate n ((0 : Int), (0 : Int))).length := by simp [madeCells] at h1 ⊢; omega
  have hk := recs_key (List.replicate n ((0 : Int), (0 : Int))) (i / 2) hi
  have hg : gr (List.replicate n ((0 : Int), (0 : Int))) (i / 2) = (0, 0) := by rw [gr_eq hi]; simp
  rw [hg] at hk
  have hl : (madeCells #[Value.int .i64 0, Value.int .i64 0] (n * 2)).toList[i] = .int .i64 0 := by
    have : i % 2 = 0 ∨ i % 2 = 1 := by omega
    rcases this with h | h <;> simp [madeCells, h]
  rw [hl]
  have : i = 2 * (i / 2) ∨ i = 2 * (i / 2) + 1 := by omega
  rcases this with h | h
  · have h3 := hk.1
    rw [← h] at h3
    exact (Option.some.inj ((List.getElem?_eq_getElem h2).symm.trans h3)).symm
  · have h3 := hk.2
    rw [← h] at h3
    exact (Option.some.inj ((List.getElem?_eq_getElem h2).symm.trans h3)).symm
set_option maxHeartbeats 1000000 in
theorem toRecordS_any (v : Value) (xs : List (Int × Int)) (w : World) (hv : RdR w v xs) (hl : xs.length ≤ 1048576) :
    Calls Try.prog 30 #[v] w fun e w' => e = .returned (.slice (some ⟨w.heap.size, 0, none⟩) xs.length xs.length) ∧ SlR w' (.slice (some ⟨w.heap.size, 0, none⟩) xs.length xs.length) xs ∧ Below w.heap.size w w' := by
  obtain ⟨i0, hi, hz0, hz1, hz2⟩ := info_parts infoRec
  obtain ⟨ao, c, rfl, _, _, HA⟩ := hv
  generalize hn : xs.length = n at *
  replace HA := Lib.hid HA
  replace hn := Lib.hid hn
  go_enter Try.func30, Try.ntmps30
  go_wp2_with (at_make; refine wpList_make_full _ rfl _ _ 43 rfl w.heap.size 72 i0 (.agg #[.int .i64 0, .int .i64 0]) 2 Try.underlying43 hi hz0 hz1 _ _ _ _ n rfl rfl rfl rfl (by rw [hz2]; omega) (by unfold maxLen; omega) (Nat.le_refl _) ?_)
  intro w1 hown hgrow
  rw [made_recs] at hown
  have hrow := Row.of_owns2 (by omega) hown
  have HR := Lib.hid hrow
  have HG := Lib.hid hgrow
  clear hown hgrow hi hz0 hz1 hz2 hrow
  go_wp2
  go_loopw [4] (fun i wr => ∃ k : Nat, k ≤ n ∧ i = .int .i64 k ∧ Row wr 72 w.heap.size 0 (2 * n) (recs (xs.take k ++ List.replicate (n - k) (0, 0))) ∧ w.grownBy wr none) (fun i _ => n - (intOf i).toNat)
  case atStart => exact ⟨0, Nat.zero_le _, rfl, by simpa using HR.out, HG.out⟩
  case round =>
    obtain ⟨k, hk, rfl, hrow, hgrow⟩ := hrel
    by_cases hlt : k < n
    · obtain ⟨b, off, rfl, hR⟩ := HA.out (by omega)
      have h3 := hR k hlt
      have hb1 : b < w.heap.size := block_lt_of_cell h3.1
      have hc1 : wr.cell? ⟨b, off + k * 2, none⟩ = some (.int .i64 (gr xs k).1) := (World.cell?_of_block (w := w) (hgrow.block b hb1 (by simp))).trans h3.1
      have hc2 : wr.cell? ⟨b, off + k * 2 + 1, none⟩ = some (.int .i64 (gr xs k).2) := (World.cell?_of_block (w := w) (hgrow.block b hb1 (by simp))).trans h3.2
      clear hR h3
      generalize hx : gr xs k = x at *
      obtain ⟨x1, x2⟩ := x
      dsimp only at hc1 hc2
      replace hx := Lib.hid hx
      replace hrow := Lib.hid hrow
      replace hgrow := Lib.hid hgrow
      go_wp2_with fail
      refine (toRecord_any _ _ _).mono ?_
      rintro e w2 ⟨rfl, hbel⟩
      have hrow2 := hrow.out.below hbel hrow.out.lt
      have hgrow2 := Lib.hid (show w.grownBy w2 none from grownBy.of_below (Below.next (grownBy.below hgrow.out) hbel) none)
      have hlen : (recs (xs.take k ++ List.replicate (n - k) ((0 : Int), (0 : Int)))).length = 2 * n := by simp [hn.out]; omega
      obtain ⟨y1, hy1⟩ : ∃ y, w2.cell? ⟨w.heap.size, k * 2, none⟩ = some y := by
        have := hrow2.cell (i := k * 2) (by rw [hlen]; omega)
        rw [Nat.zero_add] at this
        exact ⟨_, this⟩
      obtain ⟨y2, hy2⟩ : ∃ y, w2.cell? ⟨w.heap.size, k * 2 + 1, none⟩ = some y := by
        have := hrow2.cell (i := k * 2 + 1) (by rw [hlen]; omega)
        rw [Nat.zero_add] at this
        exact ⟨_, this⟩
      have hf1 := hrow2.frozen (k * 2)
      have hf2 := hrow2.frozen (k * 2 + 1)
      replace hrow2 := Lib.hid hrow2
      clear hbel
      go_wp2
      go_roundw
      case rel =>
        refine ⟨k + 1, by omega, by go_num, ?_, grownBy.setNew (grownBy.setNew hgrow2.out (Nat.le_refl _)) (Nat.le_refl _)⟩
        have h1 := (hrow2.out.set (i := k * 2) (by rw [hlen]; omega) (.int .i64 x1)).set (i := k * 2 + 1) (by rw [List.length_set, hlen]; omega) (.int .i64 x2)
        rw [Nat.zero_add, Nat.zero_add, ← recs_set] at h1
        have h2 := take_setG (0, 0) xs n k hn.out hlt
        rw [← gr_eq, hx.out] at h2
        rwa [h2] at h1
      case measure => simp [intOf]; omega
    · obtain rfl : k = n := by omega
      replace hgrow := Lib.hid hgrow
      replace hrow := Lib.hid hrow
      go_wp2
      go_ret
      refine ⟨rfl, ⟨_, _, by rw [hn.out], .inr ⟨_, _, rfl, ⟨by have := hn.out; omega, by unfold maxLen; omega⟩, ?_⟩⟩, grownBy.below hgrow.out⟩
      rw [hn.out]
      have h3 := hrow.out
      rwa [List.take_of_length_le (by rw [hn.out]; omega), Nat.sub_self, List.replicate_zero, List.append_nil] at h3

set_option maxHeartbeats 1000000 in
theorem eqRecordS_any (v u : Value) (xs ys : List (Int × Int)) (w : World) (hv : RdR w v xs) (hu : RdR w u ys) :
    Calls Try.prog 32 #[v, u] w fun e w' => e = .returned (.bool (decide (xs = ys))) ∧ Below w.heap.size w w' := by
  obtain ⟨ao, c, rfl, _, h1, HA⟩ := hv
  obtain ⟨bo, d, rfl, _, h2, HB⟩ := hu
  replace HA := Lib.hid HA
  replace HB := Lib.hid HB
  unfold maxLen at h1 h2
  by_cases hne : xs.length = ys.length
  · generalize hn : xs.length = n at *
    generalize hm : ys.length = m at *
    subst hne
    replace hn := Lib.hid hn
    replace hm := Lib.hid hm
    go_enter Try.func32, Try.ntmps32
    go_wp2
    go_loopw [5] (fun i wr => ∃ k : Nat, k ≤ n ∧ i = .int .i64 k ∧ Below w.heap.size w wr ∧ ∀ j, j < k → gr xs j = gr ys j) (fun i _ => n - (intOf i).toNat)
    case atStart => exact ⟨0, Nat.zero_le _, rfl, Below.refl _ _, fun j hj => absurd hj (by omega)⟩
    case round =>
      obtain ⟨k, hk, rfl, hb, heq⟩ := hrel
      replace heq := Lib.hid heq
      by_cases hlt : k < n
      · obtain ⟨b, off, rfl, hR⟩ := HA.out (by omega)
        obtain ⟨b2, off2, rfl, hR2⟩ := HB.out (by omega)
        have h3 := hR k hlt
        have h4 := hR2 k hlt
        have hb1 : b < w.heap.size := block_lt_of_cell h3.1
        have hb2 : b2 < w.heap.size := block_lt_of_cell h4.1
        have hc1 : wr.cell? ⟨b, off + k * 2, none⟩ = some (.int .i64 (gr xs k).1) := (hb.cell (p := ⟨b, off + k * 2, none⟩) hb1).trans h3.1
        have hc2 : wr.cell? ⟨b, off + k * 2 + 1, none⟩ = some (.int .i64 (gr xs k).2) := (hb.cell (p := ⟨b, off + k * 2 + 1, none⟩) hb1).trans h3.2
        have hc3 : wr.cell? ⟨b2, off2 + k * 2, none⟩ = some (.int .i64 (gr ys k).1) := (hb.cell (p := ⟨b2, off2 + k * 2, none⟩) hb2).trans h4.1
        have hc4 : wr.cell? ⟨b2, off2 + k * 2 + 1, none⟩ = some (.int .i64 (gr ys k).2) := (hb.cell (p := ⟨b2, off2 + k * 2 + 1, none⟩) hb2).trans h4.2
        have hB1 : b < wr.heap.size := Nat.lt_of_lt_of_le hb1 hb.size
        have hB2 : b2 < wr.heap.size := Nat.lt_of_lt_of_le hb2 hb.size
        clear hR hR2 h3 h4 hb1 hb2
        replace hb := Lib.hid hb
        generalize hx : gr xs k = x at *
        generalize hy : gr ys k = y at *
        obtain ⟨x1, x2⟩ := x
        obtain ⟨y1, y2⟩ := y
        dsimp only at hc1 hc2 hc3 hc4
        replace hx := Lib.hid hx
        replace hy := Lib.hid hy
        have hp : (0 : Int) ≤ (k : Int) := by omega
        by_cases hxy : x1 = y1 ∧ x2 = y2
        · have hxy' := Lib.hid hxy
          clear hxy
          go_wp2
          go_region_held3 (fun w' => w'.cell? ⟨b, off + k * 2, none⟩ = some (.int .i64 x1) ∧ w'.cell? ⟨b, off + k * 2 + 1, none⟩ = some (.int .i64 x2) ∧ w'.cell? ⟨b2, off2 + k * 2, none⟩ = some (.int .i64 y1) ∧ w'.cell? ⟨b2, off2 + k * 2 + 1, none⟩ = some (.int .i64 y2)) ((first | exact ⟨(hbel.cell (p := ⟨b, off + k * 2, none⟩) hB1).trans hc1, (hbel.cell (p := ⟨b, off + k * 2 + 1, none⟩) hB1).trans hc2, (hbel.cell (p := ⟨b2, off2 + k * 2, none⟩) hB2).trans hc3, (hbel.cell (p := ⟨b2, off2 + k * 2 + 1, none⟩) hB2).trans hc4⟩ | go_keep)) ((go_at_call 72; refine (eqRecord_same _ _ _ _ _ hxy'.out).mono ?_; rintro e w' ⟨rfl, hbel⟩))
          go_wp2
          go_roundw
          case rel =>
            refine ⟨k + 1, by omega, by go_num, ?_, fun j hj => ?_⟩
            · refine Below.next (w := wr.drew) (Below.drewN hb.out 1) ?_
              assumption
            · by_cases hjk : j = k
              · subst hjk; rw [hx.out, hy.out, hxy'.out.1, hxy'.out.2]
              · exact heq.out j (by omega)
          case measure => simp [intOf]; omega
        · have hxy' := Lib.hid hxy
          clear hxy
          go_wp2
          go_region_held3 (fun w' => w'.cell? ⟨b, off + k * 2, none⟩ = some (.int .i64 x1) ∧ w'.cell? ⟨b, off + k * 2 + 1, none⟩ = some (.int .i64 x2) ∧ w'.cell? ⟨b2, off2 + k * 2, none⟩ = some (.int .i64 y1) ∧ w'.cell? ⟨b2, off2 + k * 2 + 1, none⟩ = some (.int .i64 y2)) ((first | exact ⟨(hbel.cell (p := ⟨b, off + k * 2, none⟩) hB1).trans hc1, (hbel.cell (p := ⟨b, off + k * 2 + 1, none⟩) hB1).trans hc2, (hbel.cell (p := ⟨b2, off2 + k * 2, none⟩) hB2).trans hc3, (hbel.cell (p := ⟨b2, off2 + k * 2 + 1, none⟩) hB2).trans hc4⟩ | go_keep)) ((go_at_call 72; refine (eqRecord_ne _ _ _ _ _ hxy'.out).mono ?_; rintro e w' ⟨rfl, hbel⟩))
          go_wp2
          go_ret
          refine ⟨ret_bool ?_, ?_⟩
          · refine (decide_eq_false fun e => hxy'.out ?_).symm
            have : gr xs k = gr ys k := by rw [e]
            rw [hx.out, hy.out] at this
            simpa using this
          · refine Below.next (w := wr.drew) (Below.drewN hb.out 1) ?_
            assumption
      · obtain rfl : k = n := by omega
        have hd : decide (xs = ys) = true := decide_eq_true (by
          apply List.ext_getElem (by rw [hn.out, hm.out])
          intro i h1 h2
          have := heq.out i (by rw [hn.out] at h1; omega)
          rw [gr_eq h1, gr_eq h2] at this
          exact this)
        replace hd := Lib.hid hd
        replace hb := Lib.hid hb
        go_wp2
        go_ret
        exact ⟨ret_bool hd.out.symm, hb.out⟩
  · have hd : decide (xs = ys) = false := decide_eq_false (fun e => hne (by rw [e]))
    rw [hd]
    generalize hn : xs.length = n at *
    generalize hm : ys.length = m at *
    replace hn := Lib.hid hn
    replace hm := Lib.hid hm
    clear hd
    go_enter Try.func32, Try.ntmps32
    go_wp2
    all_goals go_ret
    all_goals exact ⟨rfl, Below.refl _ _⟩
end Go.Proofs.Ytdhcpoeopooejaa
