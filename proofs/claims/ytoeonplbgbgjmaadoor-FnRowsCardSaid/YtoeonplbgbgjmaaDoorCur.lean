/- The draws' cursor: next, pick, one, among. -/
import Derived.Test.YtoeonplbgbgjmaaDoorMg2
import Derived.Deep.RegionWith
import Derived.Laws.Bits64b
import Derived.Laws.Bits64
namespace Go.Proofs.YtoeonplbgbgjmaaDoor
open Go.RowKit
set_option linter.unusedVariables false
set_option linter.unusedSimpArgs false

/-- A slice of bytes that can be read. -/
def RdBy (w : World) (v : Value) : Prop :=
  ∃ ao n c, v = .slice ao n c ∧ n ≤ c ∧ c ≤ maxLen ∧ (0 < n → ∃ b off, ao = some ⟨b, off, none⟩ ∧ ∀ i, i < n → ∃ x : Nat, x ≤ 255 ∧ w.cell? ⟨b, off + i, none⟩ = some (.int .u8 (x : Int)))
theorem RdBy.ex {w w' : World} {v : Value} {F : List Nat} (h : RdBy w v) (hb : Ex F w w') (hF : ∀ b, v.ownBlock = some b → ¬ b ∈ F) : RdBy w' v := by
  obtain ⟨ao, n, c, rfl, h1, h2, h3⟩ := h
  refine ⟨ao, n, c, rfl, h1, h2, fun hp => ?_⟩
  obtain ⟨b, off, rfl, hr⟩ := h3 hp
  refine ⟨b, off, rfl, fun i hi => ?_⟩
  obtain ⟨x, hx, hc⟩ := hr i hi
  refine ⟨x, hx, ?_⟩
  rw [World.cell?_of_block (w := w) (hb.block b (block_lt_of_cell hc) (hF b rfl))]
  exact hc
/-- The cursor at block cb over the bytes v: its place is at most K; the bytes lie elsewhere. -/
structure Cur (w : World) (cb : Nat) (v : Value) (K : Nat) : Prop where
  row : ∃ (p : Nat) (sd : Int), p ≤ K ∧ Row w 99 cb 0 3 [v, .int .i64 (p : Nat), .int .u64 sd]
  rd : RdBy w v
  apart : ∀ b, v.ownBlock = some b → b ≠ cb
theorem Cur.le {w : World} {cb K K' : Nat} {v : Value} (h : Cur w cb v K) (hk : K ≤ K') : Cur w cb v K' := by
  obtain ⟨⟨p, sd, h1, h2⟩, h3, h4⟩ := h
  exact ⟨⟨p, sd, by omega, h2⟩, h3, h4⟩
theorem Cur.ex {w w' : World} {cb K : Nat} {v : Value} {F : List Nat} (h : Cur w cb v K) (hb : Ex F w w') (hc : ¬ cb ∈ F) (hF : ∀ b, v.ownBlock = some b → ¬ b ∈ F) : Cur w' cb v K := by
  obtain ⟨⟨p, sd, h1, h2⟩, h3, h4⟩ := h
  exact ⟨⟨p, sd, h1, h2.of_block (hb.block cb h2.lt hc)⟩, h3.ex hb hF, h4⟩
theorem Cur.drewN {w : World} {cb K : Nat} {v : Value} (h : Cur w cb v K) (n : Nat) : Cur (w.drewN n) cb v K := h.ex (Ex.drewN (Ex.refl [] w) n) (by simp) (fun _ _ => by simp)

/-- The byte that the seed gives. -/
theorem seed_byte (z : Int) : ∃ x : Nat, wrap64 (bits BinOp.and IntKind.u64 (IntKind.u64.wrap z / 1099511627776) 255) = (x : Int) ∧ x ≤ 255 := by
  have h : 0 ≤ IntKind.u64.wrap z ∧ IntKind.u64.wrap z < 18446744073709551616 := by rw [IntKind.wrap_u64]; omega
  obtain ⟨a, ha⟩ := Int.eq_ofNat_of_zero_le (show 0 ≤ IntKind.u64.wrap z / 1099511627776 by omega)
  have h2 := bits_and_u64_nat a 255 (by omega) (by omega)
  have h3 : a &&& 255 ≤ 255 := Nat.and_le_right
  refine ⟨a &&& 255, ?_, h3⟩
  rw [ha]
  have h4 : bits BinOp.and IntKind.u64 (a : Int) 255 = ((a &&& 255 : Nat) : Int) := h2
  rw [h4]
  generalize a &&& 255 = x at *
  unfold wrap64
  omega
/-- Behind one step of the cursor. -/
theorem Cur.moved {w : World} {cb K p : Nat} {v : Value} {sd : Int} (hrow : Row w 99 cb 0 3 [v, .int .i64 (p : Nat), .int .u64 sd]) (hp : p ≤ K) (hrd : RdBy w v) (hap : ∀ b, v.ownBlock = some b → b ≠ cb) (q1 q2 : Nat) (s' : Int) :
    Cur (((((w.drewN q1).setCell ⟨cb, 1, none⟩ (.int .i64 ((p : Int) + 1))).setCell ⟨cb, 2, none⟩ (.int .u64 s'))).drewN q2) cb v (K + 1) ∧ Ex [cb] w (((((w.drewN q1).setCell ⟨cb, 1, none⟩ (.int .i64 ((p : Int) + 1))).setCell ⟨cb, 2, none⟩ (.int .u64 s'))).drewN q2) := by
  have hx : Ex [cb] w (((((w.drewN q1).setCell ⟨cb, 1, none⟩ (.int .i64 ((p : Int) + 1))).setCell ⟨cb, 2, none⟩ (.int .u64 s'))).drewN q2) :=
    (((Ex.refl [cb] w).drewN q1).setIn (p := ⟨cb, 1, none⟩) (by simp)).setIn (p := ⟨cb, 2, none⟩) (by simp) |>.drewN q2
  refine ⟨⟨⟨p + 1, s', by omega, ?_⟩, hrd.ex hx (fun b hb h => hap b hb (by simpa using h)), hap⟩, hx⟩
  have h1 := ((hrow.drewN q1).set (i := 1) (by simp) (.int .i64 ((p : Int) + 1))).set (i := 2) (by simp) (.int .u64 s')
  have h2 := h1.drewN q2
  simpa using h2

set_option maxRecDepth 10000 in
set_option maxHeartbeats 2000000 in
theorem next_any (cb : Nat) (v : Value) (K : Nat) (w : World) (h : Cur w cb v K) (hK : K ≤ 1000000000) :
    Calls Tryd.prog 119 #[.pointer (some ⟨cb, 0, none⟩)] w fun e w' => (∃ x : Nat, e = .returned (.int .i64 (x : Int)) ∧ x ≤ 255) ∧ Cur w' cb v (K + 1) ∧ Ex [cb] w w' := by
  obtain ⟨⟨p, sd, hp, hrow⟩, hrd, hap⟩ := h
  obtain ⟨ao, n, c, rfl, q1, q2, HA⟩ := id hrd
  unfold maxLen at q2
  have c0 : w.cell? ⟨cb, 0, none⟩ = some (.slice ao n c) := by have := hrow.cell (i := 0) (by simp); simpa using this
  have c1 : w.cell? ⟨cb, 1, none⟩ = some (.int .i64 (p : Nat)) := by have := hrow.cell (i := 1) (by simp); simpa using this
  have c2 : w.cell? ⟨cb, 2, none⟩ = some (.int .u64 sd) := by have := hrow.cell (i := 2) (by simp); simpa using this
  have f1 := hrow.frozen 1
  have f2 := hrow.frozen 2
  replace hrow := Lib.hid hrow
  replace hrd := Lib.hid hrd
  replace hap := Lib.hid hap
  replace HA := Lib.hid HA
  by_cases hlt : p < n
  · obtain ⟨b, off, rfl, hR⟩ := HA.out (by omega)
    obtain ⟨x, hx, hcx⟩ := hR p hlt
    have hlti : (p : Int) < (n : Int) := by omega
    have hle2 : (p : Int) + 1 ≤ (n : Int) := by omega
    have hwx : IntKind.i64.wrap (x : Int) = (x : Int) := IntWalk.i64_in _ (by omega)
    have hwx2 : IntKind.u64.wrap (x : Int) = (x : Int) := IntWalk.u64_in _ (by omega)
    clear hR
    go_enter Tryd.func119, Tryd.ntmps119
    go_wp2
    go_quiet (fail)
    go_wp2
    go_quiet (fail)
    go_wp2
    go_quiet (fail)
    go_wp2
    go_ret
    have hfin := fun q1 q2 s' => Cur.moved hrow.out hp hrd.out hap.out q1 q2 s'
    exact ⟨⟨x, rfl, hx⟩, (hfin _ _ _).1, (hfin _ _ _).2⟩
  · have hlti : ¬ (p : Int) < (n : Int) := by omega
    have hle2 : ¬ (p : Int) + 1 ≤ (n : Int) := by omega
    go_enter Tryd.func119, Tryd.ntmps119
    go_wp2
    go_quiet (fail)
    go_wp2
    go_quiet (fail)
    go_wp2
    go_ret
    have hfin := fun q1 q2 s' => Cur.moved hrow.out hp hrd.out hap.out q1 q2 s'
    obtain ⟨x, hx1, hx2⟩ := seed_byte (IntKind.u64.wrap (IntKind.u64.wrap (sd * 6364136223846793005)) + 907907)
    refine ⟨⟨x, ?_, hx2⟩, (hfin _ _ _).1, (hfin _ _ _).2⟩
    rw [← hx1]
    rfl

set_option maxHeartbeats 2000000 in
theorem pick_any (cb : Nat) (v : Value) (K : Nat) (n : Int) (w : World) (h : Cur w cb v K) (hK : K ≤ 100000000) (hn : -1000000 ≤ n ∧ n ≤ 1000000) :
    Calls Tryd.prog 84 #[.pointer (some ⟨cb, 0, none⟩), .int .i64 n] w fun e w' => (∃ x : Nat, e = .returned (.int .i64 (x : Int)) ∧ (1 ≤ n → (x : Int) < n) ∧ (n < 1 → x = 0)) ∧ Cur w' cb v (K + 2) ∧ Ex [cb] w w' := by
  have hc := Lib.hid h
  by_cases h1 : n ≤ 1
  · go_enter Tryd.func84, Tryd.ntmps84
    go_wp2
    go_ret
    exact ⟨⟨0, rfl, by intro _; omega, fun _ => rfl⟩, hc.out.le (by omega), Ex.refl _ _⟩
  · by_cases h200 : 200 < n
    · go_enter Tryd.func84, Tryd.ntmps84
      go_wp2_with fail
      refine (next_any cb v K w hc.out (by omega)).mono ?_
      rintro e w1 ⟨⟨x, rfl, hx⟩, hc1, hx1⟩
      replace hc1 := Lib.hid hc1
      replace hx1 := Lib.hid hx1
      go_wp2_with fail
      refine (next_any cb v (K + 1) w1 hc1.out (by omega)).mono ?_
      rintro e w2 ⟨⟨y, rfl, hy⟩, hc2, hx2⟩
      have hx3 := Lib.hid (hx1.out.trans hx2)
      replace hc2 := Lib.hid hc2
      clear hx2
      obtain ⟨r, hr⟩ := Int.eq_ofNat_of_zero_le (show 0 ≤ ((x : Int) * 256 + (y : Int)) % n from Int.emod_nonneg _ (by omega))
      have hrn : ((x : Int) * 256 + (y : Int)) % n < n := Int.emod_lt_of_pos _ (by omega)
      have hmd : ((x : Int) * 256 + (y : Int)).tmod n = (r : Int) := by rw [Int.tmod_eq_emod_of_nonneg (by omega)]; exact hr
      have hn0 : ¬ n = 0 := by omega
      rw [hr] at hrn
      go_wp2
      go_ret
      exact ⟨⟨r, by first | rfl | (rw [← hmd]; rfl) | (rw [← hr]; rfl), fun _ => hrn, by intro _; omega⟩, hc2.out, hx3.out⟩
    · go_enter Tryd.func84, Tryd.ntmps84
      go_wp2_with fail
      refine (next_any cb v K w hc.out (by omega)).mono ?_
      rintro e w1 ⟨⟨x, rfl, hx⟩, hc1, hx1⟩
      replace hc1 := Lib.hid hc1
      replace hx1 := Lib.hid hx1
      obtain ⟨r, hr⟩ := Int.eq_ofNat_of_zero_le (show 0 ≤ (x : Int) % n from Int.emod_nonneg _ (by omega))
      have hrn : (x : Int) % n < n := Int.emod_lt_of_pos _ (by omega)
      have hmd : (x : Int).tmod n = (r : Int) := by rw [Int.tmod_eq_emod_of_nonneg (by omega)]; exact hr
      have hn0 : ¬ n = 0 := by omega
      rw [hr] at hrn
      go_wp2
      go_ret
      exact ⟨⟨r, by first | rfl | (rw [← hmd]; rfl) | (rw [← hr]; rfl), fun _ => hrn, by intro _; omega⟩, hc1.out.le (by omega), hx1.out⟩
end Go.Proofs.YtoeonplbgbgjmaaDoor
