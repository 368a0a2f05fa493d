/- Sifting down, BuildHeap. -/
import Derived.Test.YtkdengglllfcdaaCopy
import Derived.Test.YtkdengglllfcdaaInv
import Derived.Test.YtkdengglllfcdaaHeapOk
import Derived.BigRegion
import Derived.RegionTactic
namespace Go.Proofs.Ytkdengglllfcdaa
open Go.RowKit
set_option linter.unusedVariables false
set_option linter.unusedSimpArgs false

/-- The place of the greatest of elements b .. b + j. -/
def bestK (l : List Int) (b : Nat) : Nat → Nat
  | 0 => b
  | j + 1 => if gi l (b + 1 + j) > gi l (bestK l b j) then b + 1 + j else bestK l b j
theorem bestK_bd (l : List Int) (b j : Nat) : b ≤ bestK l b j ∧ bestK l b j ≤ b + j := by
  induction j with
  | zero => simp [bestK]
  | succ j ih => rw [bestK]; split <;> omega
/-- How many children there are behind the first. -/
def kids (d n i : Nat) : Nat := min (d - 1) (n - 1 - (d * i + 1))
def downF (d n : Nat) : Nat → List Int → Nat → Nat → List Int × Nat
  | 0, l, _, c => (l, c)
  | f + 1, l, i, c => if d * i + 1 < n then (if gi l (bestK l (d * i + 1) (kids d n i)) ≤ gi l i then (l, c) else downF d n f (swp l i (bestK l (d * i + 1) (kids d n i))) (bestK l (d * i + 1) (kids d n i)) (c + 1)) else (l, c)
theorem downF_stop {d n f i c : Nat} {l : List Int} (h : ¬ d * i + 1 < n) : downF d n f l i c = (l, c) := by
  cases f with
  | zero => rfl
  | succ f => rw [downF, if_neg h]
theorem downF_hit {d n f i c m : Nat} {l : List Int} (h : d * i + 1 < n) (hm : bestK l (d * i + 1) (kids d n i) = m) (h2 : gi l m ≤ gi l i) : downF d n (f + 1) l i c = (l, c) := by
  rw [downF, if_pos h, hm, if_pos h2]
theorem downF_go {d n f i c m : Nat} {l : List Int} (h : d * i + 1 < n) (hm : bestK l (d * i + 1) (kids d n i) = m) (h2 : ¬ gi l m ≤ gi l i) : downF d n (f + 1) l i c = downF d n f (swp l i m) m (c + 1) := by
  rw [downF, if_pos h, hm, if_neg h2]
theorem downF_length (d n f : Nat) : ∀ (l : List Int) (i c : Nat), (downF d n f l i c).1.length = l.length := by
  induction f with
  | zero => intros; rfl
  | succ f ih =>
    intro l i c
    rw [downF]
    split
    · split
      · rfl
      · rw [ih]; simp
    · rfl
/-- The list and the exchanges behind j steps of heapify. -/
def heapK (d : Nat) (x : List Int) : Nat → List Int × Nat
  | 0 => (x, 0)
  | j + 1 => ((downF d x.length x.length (heapK d x j).1 (x.length - 1 - j) 0).1, (heapK d x j).2 + (downF d x.length x.length (heapK d x j).1 (x.length - 1 - j) 0).2)
theorem heapK_length (d : Nat) (x : List Int) (j : Nat) : (heapK d x j).1.length = x.length := by
  induction j with
  | zero => rfl
  | succ j ih => rw [heapK, downF_length, ih]
/-- The result of BuildHeap. -/
def buildR (x : List Int) (d : Int) : List Int × Nat × Bool := if vlist x && inB d 2 8 then ((heapK d.toNat x x.length).1, (heapK d.toNat x x.length).2, true) else ([], 0, false)
theorem buildR_len (x : List Int) (d : Int) : (buildR x d).1.length ≤ 100000000000 := by
  unfold buildR
  split
  · rename_i h
    simp at h
    have := (vlist_iff.1 h.1).1
    dsimp only
    rw [heapK_length]; omega
  · simp

set_option maxHeartbeats 1000000 in
theorem l6Swap_any (n c b off i j : Nat) (l : List Int) (w : World) (hl : l.length = n) (hs : Sl w 3 (.slice (some ⟨b, off, none⟩) n c) (ints l)) (hi : i < n) (hj : j < n) (hcapn : n ≤ 64) :
    Calls Try.prog 64 #[.slice (some ⟨b, off, none⟩) n c, .int .i64 i, .int .i64 j] w fun e w' => e = .returned (.tuple #[]) ∧ Sl w' 3 (.slice (some ⟨b, off, none⟩) n c) (ints (swp l i j)) ∧ Ex [b] w w' := by
  obtain ⟨b', off', hb', _, hR⟩ := hs.rowInts (by omega)
  simp only [Option.some.injEq, Addr.mk.injEq, and_true] at hb'
  obtain ⟨rfl, rfl⟩ := hb'
  have hc1 : w.cell? ⟨b, off + i, none⟩ = some (.int .i64 (gi l i)) := hR.cellInt (by omega)
  have hc2 : w.cell? ⟨b, off + j, none⟩ = some (.int .i64 (gi l j)) := hR.cellInt (by omega)
  have hf1 := hR.frozen (off + i)
  have hf2 := hR.frozen (off + j)
  have hset := Lib.hid ((hs.setInt (i := i) (by omega) (gi l j)).setInt (i := j) (by omega) (gi l i))
  obtain ⟨Z, hc3⟩ : ∃ Z, (w.setCell ⟨b, off + i, none⟩ (.int .i64 (gi l j))).cell? ⟨b, off + j, none⟩ = some (.int .i64 Z) := ⟨_, (hR.setInt (i := i) (by omega) (gi l j)).cellInt (by simp; omega)⟩
  clear hR hs
  have hcap : n ≤ 64 := hcapn
  generalize hx : gi l i = X at *
  generalize hy : gi l j = Y at *
  replace hx := Lib.hid hx
  replace hy := Lib.hid hy
  replace hl := Lib.hid hl
  go_enter Try.func64, Try.ntmps64
  go_wp2
  go_end0
  refine ⟨rfl, by unfold swp; rw [hx.out, hy.out]; exact hset.out, ?_⟩
  exact Ex.setIn (p := ⟨b, off + j, none⟩) (Ex.setIn (p := ⟨b, off + i, none⟩) (Ex.refl _ _) (by simp)) (by simp)

set_option maxHeartbeats 4000000 in
theorem siftDown_any (ao : Option Addr) (cap n d i0 : Nat) (l0 : List Int) (w : World) (hl0 : l0.length = n) (hs : Sl w 3 (.slice ao n cap) (ints l0)) (hn64 : n ≤ 64) (hd1 : 2 ≤ d) (hd2 : d ≤ 8) (hi0 : i0 < n) :
    Calls Try.prog 78 #[.slice ao n cap, .int .i64 d, .int .i64 i0] w fun e w' => e = .returned (.int .i64 (downF d n n l0 i0 0).2) ∧
      Sl w' 3 (.slice ao n cap) (ints (downF d n n l0 i0 0).1) ∧ Ex (Value.slice ao n cap).ownBlock.toList w w' ∧ (downF d n n l0 i0 0).2 ≤ 64 := by
  generalize hR : downF d n n l0 i0 0 = R at *
  replace hR := Lib.hid hR
  replace hs := Lib.hid hs
  replace hl0 := Lib.hid hl0
  go_enter Try.func78, Try.ntmps78
  go_wp2
  go_loopw [2, 7] (fun ii cc wr => ∃ (f i c : Nat) (l : List Int), ii = .int .i64 i ∧ cc = .int .i64 c ∧ c ≤ i ∧ i < n ∧ n ≤ f + i ∧ l.length = n ∧ downF d n f l i c = R ∧
      Sl wr 3 (.slice ao n cap) (ints l) ∧ Ex (Value.slice ao n cap).ownBlock.toList w wr) (fun ii _ _ => n - (intOf ii).toNat)
  case atStart => exact ⟨n, i0, 0, l0, rfl, rfl, Nat.zero_le _, hi0, by omega, hl0.out, hR.out, hs.out, Ex.refl _ _⟩
  case round =>
    obtain ⟨wo, rfl⟩ : ∃ wo : World, wo = wr := ⟨_, rfl⟩
    obtain ⟨f, i, c, l, rfl, rfl, hci, hin, hfi, hll, hF, hsl, hex⟩ := hrel
    cases f with
    | zero => omega
    | succ f =>
    obtain ⟨b, off, rfl, _, hRow⟩ := hsl.rowInts (by omega)
    have hcell : ∀ j, j < n → wo.cell? ⟨b, off + j, none⟩ = some (.int .i64 (gi l j)) := fun j hj => hRow.cellInt (by omega)
    have hfr := Lib.hid hRow.frozen
    clear hRow
    replace hcell := Lib.hid hcell
    have hll2 := hll
    replace hll := Lib.hid hll
    replace hsl := Lib.hid hsl
    replace hex := Lib.hid hex
    have hdi : (d : Int) * (i : Int) = ((d * i : Nat) : Int) := by simp
    have hdb : d * i ≤ 512 := by have := Nat.mul_le_mul hd2 (show i ≤ 64 by omega); omega
    have hdi2 : 2 * i ≤ d * i := Nat.mul_le_mul_right i hd1
    by_cases hlt : d * i + 1 < n
    · have hk0 := Lib.hid (fun m (hm : bestK l (d * i + 1) (kids d n i) = m) (h2 : gi l m ≤ gi l i) => (downF_hit (f := f) (c := c) hlt hm h2).symm.trans hF)
      have hk1 := Lib.hid (fun m (hm : bestK l (d * i + 1) (kids d n i) = m) (h2 : ¬ gi l m ≤ gi l i) => (downF_go (f := f) (c := c) hlt hm h2).symm.trans hF)
      clear hF
      have hkd : kids d n i = min (d - 1) (n - 1 - (d * i + 1)) := rfl
      generalize kids d n i = J at *
      generalize hq : d * i = q at *
      replace hq := Lib.hid hq
      have hJ1 : J ≤ d - 1 := by omega
      have hJ2 : q + 1 + J < n := by omega
      have hJ3 : J = d - 1 ∨ q + 1 + J + 1 = n := by omega
      clear hkd
      go_wp2
      go_loopw [8, 9] (fun bb kk wr => ∃ j p : Nat, j ≤ J ∧ kk = .int .i64 (q + 2 + j : Nat) ∧ bb = .int .i64 (bestK l (q + 1) j) ∧ wr = wo.drewN p) (fun _ kk _ => n + 10 - (intOf kk).toNat)
      case atStart => exact ⟨0, 0, Nat.zero_le _, by go_num, by go_num, rfl⟩
      case round =>
        obtain ⟨j, p, hj, rfl, rfl, rfl⟩ := hrel
        have hbd := bestK_bd l (q + 1) j
        have hs1 : bestK l (q + 1) (j + 1) = if gi l (q + 1 + 1 + j) > gi l (bestK l (q + 1) j) then q + 1 + 1 + j else bestK l (q + 1) j := rfl
        by_cases hlt2 : j < J
        · obtain ⟨k, hk⟩ : ∃ k, k = q + 2 + j := ⟨_, rfl⟩
          rw [show q + 1 + 1 + j = k by omega] at hs1
          rw [← hk]
          have hk1' : k < n := by omega
          have hk2 : q + 2 + j ≤ k := by omega
          have hk3 : k ≤ q + d := by omega
          generalize hM : bestK l (q + 1) j = M at *
          generalize hM1 : bestK l (q + 1) (j + 1) = M1 at *
          have hc1 := hcell.out k hk1'
          have hc2 := hcell.out M (by omega)
          generalize hx : gi l k = X at *
          generalize hy : gi l M = Y at *
          replace hk := Lib.hid hk
          replace hM := Lib.hid hM
          replace hM1 := Lib.hid hM1
          replace hx := Lib.hid hx
          replace hy := Lib.hid hy
          have hp1 : (0 : Int) ≤ (k : Int) := by omega
          have hp2 : (0 : Int) ≤ (M : Int) := by omega
          by_cases hxy : X > Y
          · rw [if_pos hxy] at hs1
            replace hs1 := Lib.hid hs1
            go_wp2
            go_quiet (fail)
            go_wp2
            go_roundw
            case rel => exact ⟨j + 1, _, by omega, by have := hk.out; go_num, by rw [hM1.out, hs1.out], rfl⟩
            case measure => simp [intOf]; omega
          · rw [if_neg hxy] at hs1
            replace hs1 := Lib.hid hs1
            go_wp2
            go_quiet (fail)
            go_wp2
            go_roundw
            case rel => exact ⟨j + 1, _, by omega, by have := hk.out; go_num, by rw [hM1.out, hs1.out], rfl⟩
            case measure => simp [intOf]; omega
        · have hjJ : j = J := by omega
          have hbJ : bestK l (q + 1) J = bestK l (q + 1) j := by rw [hjJ]
          obtain ⟨k, hk⟩ : ∃ k, k = q + 2 + j := ⟨_, rfl⟩
          rw [← hk]
          have hstop : ¬ (k ≤ q + d ∧ k < n) := by omega
          have hkb1 : k ≤ n := by omega
          have hkb2 : k ≤ q + d + 1 := by omega
          clear hs1 hjJ
          replace hk := Lib.hid hk
          generalize hM : bestK l (q + 1) j = M at *
          replace hM := Lib.hid hM
          have hMn : M < n := by omega
          have hMi : i < M := by omega
          have hc1 := hcell.out M hMn
          have hc2 := hcell.out i hin
          have e0 := fun h => hk0.out M hbJ h
          have e1 := fun h => hk1.out M hbJ h
          replace hbJ := Lib.hid hbJ
          have hset := Lib.hid ((hsl.out.setInt (i := i) (by omega) (gi l M)).setInt (i := M) (by omega) (gi l i))
          have hf1 := hfr.out (off + i)
          have hf2 := hfr.out (off + M)
          generalize hx : gi l i = X at *
          generalize hy : gi l M = Y at *
          replace hx := Lib.hid hx
          replace hy := Lib.hid hy
          have hp1 : (0 : Int) ≤ (i : Int) := by omega
          have hp2 : (0 : Int) ≤ (M : Int) := by omega
          by_cases hle : Y ≤ X
          · have hE := Lib.hid (e0 hle)
            clear e0 e1
            by_cases hkq : k ≤ q + d
            · have hkn : ¬ k < n := by omega
              go_wp2
              go_quiet (fail)
              go_wp2
              go_ret
              exact ⟨by rw [← hE.out]; first | done | rfl, by rw [← hE.out]; exact hsl.out, by first | exact Ex.drewN hex.out _ | exact Ex.drewN (Ex.drewN hex.out _) _, by rw [← hE.out]; dsimp only; omega⟩
            · go_wp2
              go_quiet (fail)
              go_wp2
              go_ret
              exact ⟨by rw [← hE.out]; first | done | rfl, by rw [← hE.out]; exact hsl.out, by first | exact Ex.drewN hex.out _ | exact Ex.drewN (Ex.drewN hex.out _) _, by rw [← hE.out]; dsimp only; omega⟩
          · have hE := Lib.hid (e1 (by omega))
            clear e0 e1
            by_cases hkq : k ≤ q + d
            · have hkn : ¬ k < n := by omega
              go_wp2
              go_quiet (fail)
              go_wp2
              go_region
              go_wp2
              go_roundw
              case rel => exact ⟨f, M, c + 1, swp l i M, by go_num, by go_num, by omega, by omega, by omega, by simp [hll.out], hE.out, by unfold swp; rw [hx.out, hy.out]; exact hset.out, Ex.setIn (p := ⟨b, off + M, none⟩) (Ex.setIn (p := ⟨b, off + i, none⟩) (by first | exact Ex.drewN hex.out _ | exact Ex.drewN (Ex.drewN hex.out _) _) (by simp [Value.ownBlock])) (by simp [Value.ownBlock])⟩
              case measure => simp [intOf]; omega
            · go_wp2
              go_quiet (fail)
              go_wp2
              go_region
              go_wp2
              go_roundw
              case rel => exact ⟨f, M, c + 1, swp l i M, by go_num, by go_num, by omega, by omega, by omega, by simp [hll.out], hE.out, by unfold swp; rw [hx.out, hy.out]; exact hset.out, Ex.setIn (p := ⟨b, off + M, none⟩) (Ex.setIn (p := ⟨b, off + i, none⟩) (by first | exact Ex.drewN hex.out _ | exact Ex.drewN (Ex.drewN hex.out _) _) (by simp [Value.ownBlock])) (by simp [Value.ownBlock])⟩
              case measure => simp [intOf]; omega
    · have hE := Lib.hid (show (l, c) = R from (downF_stop hlt).symm.trans hF)
      clear hF
      generalize hq : d * i = q at *
      replace hq := Lib.hid hq
      go_wp2
      go_ret
      exact ⟨by rw [← hE.out]; first | done | rfl, by rw [← hE.out]; exact hsl.out, hex.out, by rw [← hE.out]; dsimp only; omega⟩

set_option maxHeartbeats 4000000 in
theorem l6Down_any (ao : Option Addr) (cap n d i0 : Nat) (l0 : List Int) (w : World) (hl0 : l0.length = n) (hs : Sl w 3 (.slice ao n cap) (ints l0)) (hn64 : n ≤ 64) (hd1 : 2 ≤ d) (hd2 : d ≤ 8) (hi0 : i0 < n) :
    Calls Try.prog 77 #[.slice ao n cap, .int .i64 n, .int .i64 i0, .int .i64 d] w fun e w' => e = .returned (.int .i64 (downF d n n l0 i0 0).2) ∧
      Sl w' 3 (.slice ao n cap) (ints (downF d n n l0 i0 0).1) ∧ Ex (Value.slice ao n cap).ownBlock.toList w w' ∧ (downF d n n l0 i0 0).2 ≤ 64 := by
  generalize hR : downF d n n l0 i0 0 = R at *
  replace hR := Lib.hid hR
  replace hs := Lib.hid hs
  replace hl0 := Lib.hid hl0
  go_enter Try.func77, Try.ntmps77
  go_wp2
  go_loopw [2, 9] (fun ii cc wr => ∃ (f i c : Nat) (l : List Int), ii = .int .i64 i ∧ cc = .int .i64 c ∧ c ≤ i ∧ i < n ∧ n ≤ f + i ∧ l.length = n ∧ downF d n f l i c = R ∧
      Sl wr 3 (.slice ao n cap) (ints l) ∧ Ex (Value.slice ao n cap).ownBlock.toList w wr) (fun ii _ _ => n - (intOf ii).toNat)
  case atStart => exact ⟨n, i0, 0, l0, rfl, rfl, Nat.zero_le _, hi0, by omega, hl0.out, hR.out, hs.out, Ex.refl _ _⟩
  case round =>
    obtain ⟨wo, rfl⟩ : ∃ wo : World, wo = wr := ⟨_, rfl⟩
    obtain ⟨f, i, c, l, rfl, rfl, hci, hin, hfi, hll, hF, hsl, hex⟩ := hrel
    cases f with
    | zero => omega
    | succ f =>
    obtain ⟨b, off, rfl, _, hRow⟩ := hsl.rowInts (by omega)
    have hcell : ∀ j, j < n → wo.cell? ⟨b, off + j, none⟩ = some (.int .i64 (gi l j)) := fun j hj => hRow.cellInt (by omega)
    have hfr := Lib.hid hRow.frozen
    clear hRow
    replace hcell := Lib.hid hcell
    have hll2 := hll
    replace hll := Lib.hid hll
    replace hsl := Lib.hid hsl
    replace hex := Lib.hid hex
    have hdi : (d : Int) * (i : Int) = ((d * i : Nat) : Int) := by simp
    have hdb : d * i ≤ 512 := by have := Nat.mul_le_mul hd2 (show i ≤ 64 by omega); omega
    have hdi2 : 2 * i ≤ d * i := Nat.mul_le_mul_right i hd1
    by_cases hlt : d * i + 1 < n
    · have hk0 := Lib.hid (fun m (hm : bestK l (d * i + 1) (kids d n i) = m) (h2 : gi l m ≤ gi l i) => (downF_hit (f := f) (c := c) hlt hm h2).symm.trans hF)
      have hk1 := Lib.hid (fun m (hm : bestK l (d * i + 1) (kids d n i) = m) (h2 : ¬ gi l m ≤ gi l i) => (downF_go (f := f) (c := c) hlt hm h2).symm.trans hF)
      clear hF
      have hkd : kids d n i = min (d - 1) (n - 1 - (d * i + 1)) := rfl
      generalize kids d n i = J at *
      generalize hq : d * i = q at *
      replace hq := Lib.hid hq
      have hJ1 : J ≤ d - 1 := by omega
      have hJ2 : q + 1 + J < n := by omega
      have hJ3 : J = d - 1 ∨ q + 1 + J + 1 = n := by omega
      clear hkd
      go_wp2
      go_loopw [10, 11] (fun bb kk wr => ∃ j p : Nat, j ≤ J ∧ kk = .int .i64 (q + 2 + j : Nat) ∧ bb = .int .i64 (bestK l (q + 1) j) ∧ wr = wo.drewN p) (fun _ kk _ => n + 10 - (intOf kk).toNat)
      case atStart => exact ⟨0, 0, Nat.zero_le _, by go_num, by go_num, rfl⟩
      case round =>
        obtain ⟨j, p, hj, rfl, rfl, rfl⟩ := hrel
        have hbd := bestK_bd l (q + 1) j
        have hs1 : bestK l (q + 1) (j + 1) = if gi l (q + 1 + 1 + j) > gi l (bestK l (q + 1) j) then q + 1 + 1 + j else bestK l (q + 1) j := rfl
        by_cases hlt2 : j < J
        · obtain ⟨k, hk⟩ : ∃ k, k = q + 2 + j := ⟨_, rfl⟩
          rw [show q + 1 + 1 + j = k by omega] at hs1
          rw [← hk]
          have hk1' : k < n := by omega
          have hk2 : q + 2 + j ≤ k := by omega
          have hk3 : k ≤ q + d := by omega
          generalize hM : bestK l (q + 1) j = M at *
          generalize hM1 : bestK l (q + 1) (j + 1) = M1 at *
          have hc1 := hcell.out k hk1'
          have hc2 := hcell.out M (by omega)
          generalize hx : gi l k = X at *
          generalize hy : gi l M = Y at *
          replace hk := Lib.hid hk
          replace hM := Lib.hid hM
          replace hM1 := Lib.hid hM1
          replace hx := Lib.hid hx
          replace hy := Lib.hid hy
          have hp1 : (0 : Int) ≤ (k : Int) := by omega
          have hp2 : (0 : Int) ≤ (M : Int) := by omega
          by_cases hxy : X > Y
          · rw [if_pos hxy] at hs1
            replace hs1 := Lib.hid hs1
            go_wp2
            go_quiet (fail)
            go_wp2
            go_roundw
            case rel => exact ⟨j + 1, _, by omega, by have := hk.out; go_num, by rw [hM1.out, hs1.out], rfl⟩
            case measure => simp [intOf]; omega
          · rw [if_neg hxy] at hs1
            replace hs1 := Lib.hid hs1
            go_wp2
            go_quiet (fail)
            go_wp2
            go_roundw
            case rel => exact ⟨j + 1, _, by omega, by have := hk.out; go_num, by rw [hM1.out, hs1.out], rfl⟩
            case measure => simp [intOf]; omega
        · have hjJ : j = J := by omega
          have hbJ : bestK l (q + 1) J = bestK l (q + 1) j := by rw [hjJ]
          obtain ⟨k, hk⟩ : ∃ k, k = q + 2 + j := ⟨_, rfl⟩
          rw [← hk]
          have hstop : ¬ (k ≤ q + d ∧ k < n) := by omega
          have hkb1 : k ≤ n := by omega
          have hkb2 : k ≤ q + d + 1 := by omega
          clear hs1 hjJ
          replace hk := Lib.hid hk
          generalize hM : bestK l (q + 1) j = M at *
          replace hM := Lib.hid hM
          have hMn : M < n := by omega
          have hMi : i < M := by omega
          have hc1 := hcell.out M hMn
          have hc2 := hcell.out i hin
          have e0 := fun h => hk0.out M hbJ h
          have e1 := fun h => hk1.out M hbJ h
          replace hbJ := Lib.hid hbJ
          have hset := Lib.hid ((hsl.out.setInt (i := i) (by omega) (gi l M)).setInt (i := M) (by omega) (gi l i))
          have hf1 := hfr.out (off + i)
          have hf2 := hfr.out (off + M)
          generalize hx : gi l i = X at *
          generalize hy : gi l M = Y at *
          replace hx := Lib.hid hx
          replace hy := Lib.hid hy
          have hp1 : (0 : Int) ≤ (i : Int) := by omega
          have hp2 : (0 : Int) ≤ (M : Int) := by omega
          by_cases hle : Y ≤ X
          · have hE := Lib.hid (e0 hle)
            clear e0 e1
            by_cases hkq : k ≤ q + d
            · have hkn : ¬ k < n := by omega
              go_wp2
              go_quiet (fail)
              go_wp2
              go_ret
              exact ⟨by rw [← hE.out]; first | done | rfl, by rw [← hE.out]; exact hsl.out, by first | exact Ex.drewN hex.out _ | exact Ex.drewN (Ex.drewN hex.out _) _, by rw [← hE.out]; dsimp only; omega⟩
            · go_wp2
              go_quiet (fail)
              go_wp2
              go_ret
              exact ⟨by rw [← hE.out]; first | done | rfl, by rw [← hE.out]; exact hsl.out, by first | exact Ex.drewN hex.out _ | exact Ex.drewN (Ex.drewN hex.out _) _, by rw [← hE.out]; dsimp only; omega⟩
          · have hE := Lib.hid (e1 (by omega))
            clear e0 e1
            by_cases hkq : k ≤ q + d
            · have hkn : ¬ k < n := by omega
              go_wp2
              go_quiet (fail)
              go_wp2_with fail
              refine (l6Swap_any n cap b off i M l _ hll.out (Sl.drewN hsl.out _) (by omega) (by omega) hn64).mono ?_
              rintro e w4 ⟨rfl, hs4, hex4⟩
              replace hs4 := Lib.hid hs4
              have hex5 := Lib.hid (Ex.trans (by first | exact Ex.drewN hex.out _ | exact Ex.drewN (Ex.drewN hex.out _) _) hex4)
              clear hex4
              go_wp2
              go_roundw
              case rel => exact ⟨f, M, c + 1, swp l i M, by go_num, by go_num, by omega, by omega, by omega, by simp [hll.out], hE.out, hs4.out, hex5.out⟩
              case measure => simp [intOf]; omega
            · go_wp2
              go_quiet (fail)
              go_wp2_with fail
              refine (l6Swap_any n cap b off i M l _ hll.out (Sl.drewN hsl.out _) (by omega) (by omega) hn64).mono ?_
              rintro e w4 ⟨rfl, hs4, hex4⟩
              replace hs4 := Lib.hid hs4
              have hex5 := Lib.hid (Ex.trans (by first | exact Ex.drewN hex.out _ | exact Ex.drewN (Ex.drewN hex.out _) _) hex4)
              clear hex4
              go_wp2
              go_roundw
              case rel => exact ⟨f, M, c + 1, swp l i M, by go_num, by go_num, by omega, by omega, by omega, by simp [hll.out], hE.out, hs4.out, hex5.out⟩
              case measure => simp [intOf]; omega
    · have hE := Lib.hid (show (l, c) = R from (downF_stop hlt).symm.trans hF)
      clear hF
      generalize hq : d * i = q at *
      replace hq := Lib.hid hq
      go_wp2
      go_ret
      exact ⟨by rw [← hE.out]; first | done | rfl, by rw [← hE.out]; exact hsl.out, hex.out, by rw [← hE.out]; dsimp only; omega⟩

set_option maxHeartbeats 2000000 in
theorem heapify_any (ao : Option Addr) (cap n d : Nat) (x : List Int) (w : World) (hl0 : x.length = n) (hs : Sl w 3 (.slice ao n cap) (ints x)) (hn64 : n ≤ 64) (hd1 : 2 ≤ d) (hd2 : d ≤ 8) :
    Calls Try.prog 69 #[.slice ao n cap, .int .i64 d] w fun e w' => e = .returned (.int .i64 (heapK d x n).2) ∧
      Sl w' 3 (.slice ao n cap) (ints (heapK d x n).1) ∧ Ex (Value.slice ao n cap).ownBlock.toList w w' := by
  have hst : ∀ j, heapK d x (j + 1) = ((downF d x.length x.length (heapK d x j).1 (x.length - 1 - j) 0).1, (heapK d x j).2 + (downF d x.length x.length (heapK d x j).1 (x.length - 1 - j) 0).2) := fun j => rfl
  have hkl := heapK_length d x
  rw [hl0] at hst hkl
  replace hst := Lib.hid hst
  replace hkl := Lib.hid hkl
  replace hs := Lib.hid hs
  replace hl0 := Lib.hid hl0
  go_enter Try.func69, Try.ntmps69
  go_wp2
  go_loopw [5, 6] (fun cc ii wr => ∃ j : Nat, j ≤ n ∧ ii = .int .i64 ((n : Int) - 1 - (j : Int)) ∧ cc = .int .i64 (heapK d x j).2 ∧ (heapK d x j).2 ≤ 64 * j ∧ Sl wr 3 (.slice ao n cap) (ints (heapK d x j).1) ∧ Ex (Value.slice ao n cap).ownBlock.toList w wr) (fun _ ii _ => ((intOf ii) + 1).toNat)
  case atStart => exact ⟨0, Nat.zero_le _, by simp, rfl, Nat.zero_le _, hs.out, Ex.refl _ _⟩
  case round =>
    obtain ⟨wo, rfl⟩ : ∃ wo : World, wo = wr := ⟨_, rfl⟩
    obtain ⟨j, hj, rfl, rfl, hck, hsl, hex⟩ := hrel
    have hsk := hst.out j
    have hll := hkl.out j
    generalize hK1 : heapK d x (j + 1) = K1 at *
    generalize hK : heapK d x j = K at *
    obtain ⟨l, s⟩ := K
    dsimp only at hck hsl hsk hll ⊢
    replace hK1 := Lib.hid hK1
    replace hK := Lib.hid hK
    replace hsk := Lib.hid hsk
    replace hll := Lib.hid hll
    replace hsl := Lib.hid hsl
    replace hex := Lib.hid hex
    by_cases hlt : j < n
    · have hi : ((n : Int) - 1 - (j : Int)) = ((n - 1 - j : Nat) : Int) := by omega
      have hib : n - 1 - j < n := by omega
      have hib2 : n - 1 - j + j + 1 = n := by omega
      rw [hi]
      clear hi
      generalize n - 1 - j = i at *
      go_wp2_with fail
      refine (siftDown_any ao cap n d i l _ hll.out hsl.out hn64 hd1 hd2 hib).mono ?_
      rintro e w4 ⟨rfl, hs4, hex4, hb1⟩
      replace hs4 := Lib.hid hs4
      have hex5 := Lib.hid (hex.out.trans hex4)
      clear hex4
      generalize hG : downF d n n l i 0 = Gp at *
      replace hG := Lib.hid hG
      go_wp2
      go_roundw
      case rel => exact ⟨j + 1, by omega, by go_num, by rw [hK1.out, hsk.out]; go_num, by rw [hK1.out, hsk.out]; dsimp only; omega, by rw [hK1.out, hsk.out]; exact hs4.out, hex5.out⟩
      case measure => simp [intOf] <;> omega
    · obtain rfl : j = n := by omega
      go_wp2
      go_ret
      exact ⟨by rw [hK.out]; first | done | rfl, by rw [hK.out]; exact hsl.out, hex.out⟩

set_option maxHeartbeats 2000000 in
theorem l6Build_any (ao : Option Addr) (cap n d : Nat) (x : List Int) (w : World) (hl0 : x.length = n) (hs : Sl w 3 (.slice ao n cap) (ints x)) (hn64 : n ≤ 64) (hd1 : 2 ≤ d) (hd2 : d ≤ 8) :
    Calls Try.prog 67 #[.slice ao n cap, .int .i64 d] w fun e w' => e = .returned (.int .i64 (heapK d x n).2) ∧
      Sl w' 3 (.slice ao n cap) (ints (heapK d x n).1) ∧ Ex (Value.slice ao n cap).ownBlock.toList w w' := by
  have hst : ∀ j, heapK d x (j + 1) = ((downF d x.length x.length (heapK d x j).1 (x.length - 1 - j) 0).1, (heapK d x j).2 + (downF d x.length x.length (heapK d x j).1 (x.length - 1 - j) 0).2) := fun j => rfl
  have hkl := heapK_length d x
  rw [hl0] at hst hkl
  replace hst := Lib.hid hst
  replace hkl := Lib.hid hkl
  replace hs := Lib.hid hs
  replace hl0 := Lib.hid hl0
  go_enter Try.func67, Try.ntmps67
  go_wp2
  go_loopw [5, 6] (fun cc ii wr => ∃ j : Nat, j ≤ n ∧ ii = .int .i64 ((n : Int) - 1 - (j : Int)) ∧ cc = .int .i64 (heapK d x j).2 ∧ (heapK d x j).2 ≤ 64 * j ∧ Sl wr 3 (.slice ao n cap) (ints (heapK d x j).1) ∧ Ex (Value.slice ao n cap).ownBlock.toList w wr) (fun _ ii _ => ((intOf ii) + 1).toNat)
  case atStart => exact ⟨0, Nat.zero_le _, by simp, rfl, Nat.zero_le _, hs.out, Ex.refl _ _⟩
  case round =>
    obtain ⟨wo, rfl⟩ : ∃ wo : World, wo = wr := ⟨_, rfl⟩
    obtain ⟨j, hj, rfl, rfl, hck, hsl, hex⟩ := hrel
    have hsk := hst.out j
    have hll := hkl.out j
    generalize hK1 : heapK d x (j + 1) = K1 at *
    generalize hK : heapK d x j = K at *
    obtain ⟨l, s⟩ := K
    dsimp only at hck hsl hsk hll ⊢
    replace hK1 := Lib.hid hK1
    replace hK := Lib.hid hK
    replace hsk := Lib.hid hsk
    replace hll := Lib.hid hll
    replace hsl := Lib.hid hsl
    replace hex := Lib.hid hex
    by_cases hlt : j < n
    · have hi : ((n : Int) - 1 - (j : Int)) = ((n - 1 - j : Nat) : Int) := by omega
      have hib : n - 1 - j < n := by omega
      have hib2 : n - 1 - j + j + 1 = n := by omega
      rw [hi]
      clear hi
      generalize n - 1 - j = i at *
      go_wp2_with fail
      refine (l6Down_any ao cap n d i l _ hll.out hsl.out hn64 hd1 hd2 hib).mono ?_
      rintro e w4 ⟨rfl, hs4, hex4, hb1⟩
      replace hs4 := Lib.hid hs4
      have hex5 := Lib.hid (hex.out.trans hex4)
      clear hex4
      generalize hG : downF d n n l i 0 = Gp at *
      replace hG := Lib.hid hG
      go_wp2
      go_roundw
      case rel => exact ⟨j + 1, by omega, by go_num, by rw [hK1.out, hsk.out]; go_num, by rw [hK1.out, hsk.out]; dsimp only; omega, by rw [hK1.out, hsk.out]; exact hs4.out, hex5.out⟩
      case measure => simp [intOf] <;> omega
    · obtain rfl : j = n := by omega
      go_wp2
      go_ret
      exact ⟨by rw [hK.out]; first | done | rfl, by rw [hK.out]; exact hsl.out, hex.out⟩

set_option maxHeartbeats 1000000 in
theorem impl_BuildHeap_law {v : Value} {x : List Int} {F : List Nat} {d : Int} {w : World} (r : RIntS w v x F) (_ : -9223372036854775808 ≤ d ∧ d ≤ 9223372036854775807) :
    Calls Try.prog 43 #[v, .int .i64 d] w fun e w' => ∃ r F, e = .returned (.tuple #[r, .int .i64 (buildR x d).2.1, .bool (buildR x d).2.2]) ∧ RIntS w' r (buildR x d).1 F ∧ Fr w.heap.size F ∧ Below w.heap.size w w' ∧ (buildR x d).1.length ≤ 100000000000 := by
  have hv := Lib.hid r.1
  have hlen := Lib.hid (buildR_len x d)
  clear r
  cases h : vlist x
  · have e0 : buildR x d = ([], 0, false) := by simp [buildR, h]
    rw [e0] at hlen ⊢
    clear e0
    go_enter Try.func43, Try.ntmps43
    go_wp2_with fail
    refine (isValidList_any _ _ _ (Sl.rd hv.out)).mono ?_
    rintro e w1 ⟨rfl, hb⟩
    replace hb := Lib.hid hb
    go_wp2
    go_ret3
    exact ⟨_, _, rfl, (Fresh.nil hb.out).law.1, (Fresh.nil hb.out).law.2.1, (Fresh.nil hb.out).law.2.2, hlen.out⟩
  cases hd : inB d 2 8
  · have e0 : buildR x d = ([], 0, false) := by simp [buildR, hd]
    rw [e0] at hlen ⊢
    clear e0
    go_enter Try.func43, Try.ntmps43
    go_wp2_with fail
    refine (isValidList_any _ _ _ (Sl.rd hv.out)).mono ?_
    rintro e w1 ⟨rfl, hb⟩
    replace hb := Lib.hid hb
    go_wp2_with (go_at_call 68; refine (isArity_any _ _).mono ?_; rintro e w' ⟨rfl, rfl⟩)
    go_ret3
    exact ⟨_, _, rfl, (Fresh.nil hb.out).law.1, (Fresh.nil hb.out).law.2.1, (Fresh.nil hb.out).law.2.2, hlen.out⟩
  · have e0 : buildR x d = ((heapK d.toNat x x.length).1, (heapK d.toNat x x.length).2, true) := by simp [buildR, h, hd]
    have hl := (vlist_iff.1 h).1
    have hd' := inB_iff.1 hd
    obtain ⟨D, rfl⟩ := Int.eq_ofNat_of_zero_le (show 0 ≤ d by omega)
    rw [Int.toNat_natCast] at e0
    have hD1 : 2 ≤ D := by omega
    have hD2 : D ≤ 8 := by omega
    rw [e0] at hlen ⊢
    clear e0 hd'
    go_enter Try.func43, Try.ntmps43
    go_wp2_with fail
    refine (isValidList_any _ _ _ (Sl.rd hv.out)).mono ?_
    rintro e w1 ⟨rfl, hb⟩
    replace hv := Lib.hid (hv.out.below hb hv.out.lt)
    replace hb := Lib.hid hb
    go_wp2_with (go_at_call 68; refine (isArity_any _ _).mono ?_; rintro e w' ⟨rfl, rfl⟩)
    refine (copyInt_any _ _ _ hv.out (by omega)).mono ?_
    rintro e w2 ⟨r, rfl, hf⟩
    obtain ⟨ao, cap, rfl, _⟩ := hf.shape
    replace hf := Lib.hid hf
    go_wp2_with fail
    refine (heapify_any ao cap _ D x _ rfl hf.out.sl hl hD1 hD2).mono ?_
    rintro e w3 ⟨rfl, hs, hex⟩
    have hfin := Lib.hid (FreshOwn.wrote hb.out hf.out hs hex)
    clear hs hex
    go_wp2
    go_ret3
    exact ⟨_, _, rfl, hfin.out.law.1, hfin.out.law.2.1, hfin.out.law.2.2, hlen.out⟩

set_option maxHeartbeats 1000000 in
theorem spec_BuildHeap_law {v : Value} {x : List Int} {F : List Nat} {d : Int} {w : World} (r : RIntS w v x F) (_ : -9223372036854775808 ≤ d ∧ d ≤ 9223372036854775807) :
    Calls Try.prog 42 #[v, .int .i64 d] w fun e w' => ∃ r F, e = .returned (.tuple #[r, .int .i64 (buildR x d).2.1, .bool (buildR x d).2.2]) ∧ RIntS w' r (buildR x d).1 F ∧ Fr w.heap.size F ∧ Below w.heap.size w w' ∧ (buildR x d).1.length ≤ 100000000000 := by
  have hv := Lib.hid r.1
  have hlen := Lib.hid (buildR_len x d)
  clear r
  have hb := Lib.hid (Below.refl w.heap.size w)
  cases h : vlist x && inB d 2 8
  · have e0 : buildR x d = ([], 0, false) := by simp [buildR, h]
    rw [e0] at hlen ⊢
    clear e0
    go_enter Try.func42, Try.ntmps42
    go_wp2_with (go_at_call 66; refine (l6Valid_any _ _ _ _ (Sl.rd hv.out)).mono ?_; rintro e w' ⟨rfl, rfl⟩)
    go_ret3
    exact ⟨_, _, rfl, (Fresh.empty hb.out).law.1, (Fresh.empty hb.out).law.2.1, (Fresh.empty hb.out).law.2.2, hlen.out⟩
  · have e0 : buildR x d = ((heapK d.toNat x x.length).1, (heapK d.toNat x x.length).2, true) := by simp [buildR, h]
    simp only [Bool.and_eq_true] at h
    have hl := (vlist_iff.1 h.1).1
    have hd' := inB_iff.1 h.2
    obtain ⟨D, rfl⟩ := Int.eq_ofNat_of_zero_le (show 0 ≤ d by omega)
    rw [Int.toNat_natCast] at e0
    have hD1 : 2 ≤ D := by omega
    have hD2 : D ≤ 8 := by omega
    rw [e0] at hlen ⊢
    clear e0 hd'
    obtain ⟨h1, h2⟩ := h
    go_enter Try.func42, Try.ntmps42
    go_wp2_with (go_at_call 66; refine (l6Valid_any _ _ _ _ (Sl.rd hv.out)).mono ?_; rintro e w' ⟨rfl, rfl⟩)
    refine (l1Own_any _ _ _ hv.out (by omega)).mono ?_
    rintro e w2 ⟨r, rfl, hf⟩
    obtain ⟨ao, cap, rfl, _⟩ := hf.shape
    replace hf := Lib.hid hf
    go_wp2_with fail
    refine (l6Build_any ao cap _ D x _ rfl hf.out.sl hl hD1 hD2).mono ?_
    rintro e w3 ⟨rfl, hs, hex⟩
    have hfin := Lib.hid (FreshOwn.wrote hb.out hf.out hs hex)
    clear hs hex
    go_wp2
    go_ret3
    exact ⟨_, _, rfl, hfin.out.law.1, hfin.out.law.2.1, hfin.out.law.2.2, hlen.out⟩
end Go.Proofs.Ytkdengglllfcdaa
