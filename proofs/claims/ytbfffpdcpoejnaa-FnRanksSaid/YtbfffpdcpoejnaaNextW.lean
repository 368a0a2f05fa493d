/- NextPermutation: the walks. -/
import Derived.Test.YtbfffpdcpoejnaaCopy
import Derived.Test.YtbfffpdcpoejnaaNext
import Derived.BigRegion
import Derived.RegionTactic
namespace Go.Proofs.Ytbfffpdcpoejnaa
open Go.RowKit
set_option linter.unusedVariables false
set_option linter.unusedSimpArgs false

theorem Sl.atRow {w : World} {e n c b off : Nat} {xs : List Int} (h : Sl w e (.slice (some ⟨b, off, none⟩) n c) (ints xs)) (hp : 0 < n) : Row w e b off c (ints xs) := by
  obtain ⟨b', off', hb, _, hr⟩ := h.rowInts hp
  simp only [Option.some.injEq, Addr.mk.injEq, and_true] at hb
  obtain ⟨rfl, rfl⟩ := hb
  exact hr

theorem Sl.quietly {w : World} {e : Nat} {v : Value} {xs : List Value} {p q : Addr} {x y : Value} {n : Nat} (h : Sl ((w.setCell p x).setCell q y) e v xs) : Sl (((w.drewN n).setCell p x).setCell q y) e v xs := h
set_option maxHeartbeats 2000000 in
theorem reverse_any (b off n cap c' a len : Nat) (l : List Int) (w : World) (hlen : n - a = len) (hl : l.length = n) (hs : Sl w 3 (.slice (some ⟨b, off, none⟩) n cap) (ints l)) (hn64 : n ≤ 64) (ha : a < n) :
    Calls Try.prog 102 #[.slice (some ⟨b, off + a, none⟩) len c'] w fun e w' => e = .returned (.tuple #[]) ∧ Sl w' 3 (.slice (some ⟨b, off, none⟩) n cap) (ints (revF n l a (n - 1))) ∧ Ex [b] w w' := by
  subst hlen
  generalize hR : revF n l a (n - 1) = R
  replace hR := Lib.hid hR
  replace hs := Lib.hid hs
  replace hl := Lib.hid hl
  obtain ⟨m, hm⟩ : ∃ m, n - a = m + 1 := ⟨n - a - 1, by omega⟩
  have hm1 : n = a + (m + 1) := by omega
  rw [hm]
  clear hm
  have hmi : ((m + 1 : Nat) : Int) - 1 = (m : Int) := by omega
  go_enter Try.func102, Try.ntmps102
  go_wp2
  clear hmi
  go_loopw [2, 3] (fun ii jj wr => ∃ (f i j : Nat) (l : List Int), ii = .int .i64 i ∧ jj = .int .i64 j ∧ i ≤ j + 1 ∧ j ≤ m ∧ m < f + i ∧ l.length = n ∧ revF f l (a + i) (a + j) = R ∧ Sl wr 3 (.slice (some ⟨b, off, none⟩) n cap) (ints l) ∧ Ex [b] w wr) (fun ii _ _ => 100 - (intOf ii).toNat)
  case atStart => exact ⟨n, 0, m, l, rfl, rfl, by omega, by omega, by omega, hl.out, by have := hR.out; rwa [show n - 1 = a + m by omega] at this, hs.out, Ex.refl _ _⟩
  case round =>
    obtain ⟨f, i, j, l, rfl, rfl, hij, hjm, hfi, hll, hF, hsl, hex⟩ := hrel
    have hRow := hsl.atRow (by omega)
    by_cases hlt : i < j
    · cases f with
      | zero => omega
      | succ f =>
      have hE := hF
      rw [revF, if_pos (by omega)] at hE
      clear hF
      replace hE := Lib.hid hE
      have hc1 : wr.cell? ⟨b, off + a + i, none⟩ = some (.int .i64 (gi l (a + i))) := by rw [Nat.add_assoc]; exact hRow.cellInt (by omega)
      have hc2 : wr.cell? ⟨b, off + a + j, none⟩ = some (.int .i64 (gi l (a + j))) := by rw [Nat.add_assoc]; exact hRow.cellInt (by omega)
      have hf1 := hRow.frozen (off + a + i)
      have hf2 := hRow.frozen (off + a + j)
      clear hRow
      have hset := (hsl.setInt (i := a + i) (by omega) (gi l (a + j))).setInt (i := a + j) (by omega) (gi l (a + i))
      rw [← Nat.add_assoc, ← Nat.add_assoc] at hset
      replace hset := Lib.hid hset
      replace hsl := Lib.hid hsl
      replace hex := Lib.hid hex
      replace hll := Lib.hid hll
      generalize hx : gi l (a + i) = X at *
      generalize hy : gi l (a + j) = Y at *
      replace hx := Lib.hid hx
      replace hy := Lib.hid hy
      have hp1 : (0 : Int) ≤ (i : Int) := by omega
      have hp2 : (0 : Int) ≤ (j : Int) := by omega
      go_wp2
      go_region
      go_wp2
      go_roundw
      case rel => exact ⟨f, i + 1, j - 1, swp l (a + i) (a + j), by go_num, by go_num, by omega, by omega, by omega, by simp [hll.out], by have := hE.out; rwa [show a + i + 1 = a + (i + 1) by omega, show a + j - 1 = a + (j - 1) by omega] at this, by unfold swp; rw [hx.out, hy.out]; exact hset.out, by first | exact Ex.drewN (Ex.setIn (p := ⟨b, off + a + j, none⟩) (Ex.setIn (p := ⟨b, off + a + i, none⟩) hex.out (by simp)) (by simp)) 1 | exact Ex.setIn (p := ⟨b, off + a + j, none⟩) (Ex.setIn (p := ⟨b, off + a + i, none⟩) (Ex.drewN hex.out _) (by simp)) (by simp)⟩
      case measure => simp [intOf]; omega
    · have hE : l = R := (revF_stop (show ¬ a + i < a + j by omega)).symm.trans hF
      clear hF hRow
      replace hE := Lib.hid hE
      replace hsl := Lib.hid hsl
      replace hex := Lib.hid hex
      go_wp2
      go_end0
      exact ⟨rfl, by rw [← hE.out]; exact hsl.out, hex.out⟩

set_option maxHeartbeats 4000000 in
theorem nextPerm_any (ao : Option Addr) (n cap : Nat) (l : List Int) (w : World) (hl : l.length = n) (hs : Sl w 3 (.slice ao n cap) (ints l)) (hn64 : n ≤ 64) :
    Calls Try.prog 74 #[.slice ao n cap] w fun e w' => e = .returned (.bool (nextF l).isSome) ∧ Sl w' 3 (.slice ao n cap) (ints ((nextF l).getD l)) ∧ Ex (Value.slice ao n cap).ownBlock.toList w w' := by
  have hN : nextF l = match ascF l (l.length - 1) with | none => none | some i => some (revF l.length (swp l i (bigF l (gi l i) (l.length - 1))) (i + 1) (l.length - 1)) := rfl
  rw [hl] at hN
  by_cases hn2 : n < 2
  · have hA : ascF l (n - 1) = none := by
      rw [show n - 1 = 0 by omega]; rfl
    rw [hA] at hN
    rw [hN]
    clear hN hA
    replace hs := Lib.hid hs
    replace hl := Lib.hid hl
    have hneg : ¬ (0 : Int) ≤ (n : Int) - 2 := by omega
    have hneg2 : decide ((0 : Int) ≤ (n : Int) - 2) = false := decide_eq_false hneg
    have hneg3 : decide (2 ≤ (n : Int)) = false := decide_eq_false (by omega)
    go_enter Try.func74, Try.ntmps74
    go_wp2
    go_loopw [3] (fun ii wr => ii = .int .i64 ((n : Int) - 2) ∧ wr = w) (fun _ _ => 0)
    case atStart => exact ⟨rfl, rfl⟩
    case round =>
      obtain ⟨rfl, rfl⟩ := hrel
      go_wp2
      go_quiet (fail)
      go_wp2
      go_ret
      exact ⟨rfl, Sl.drewN hs.out _, Ex.drewN (Ex.refl _ _) _⟩
  obtain ⟨m, rfl⟩ : ∃ m, n = m + 2 := ⟨n - 2, by omega⟩
  obtain ⟨b, off, rfl, _, hRow⟩ := hs.rowInts (by omega)
  have hcell : ∀ j, j < m + 2 → w.cell? ⟨b, off + j, none⟩ = some (.int .i64 (gi l j)) := fun j hj => hRow.cellInt (by omega)
  have hfr := Lib.hid hRow.frozen
  have hcap : m + 2 ≤ cap := by have := hRow.le; rw [ints_length] at this; omega
  have hcap2 : cap ≤ 9223372036854775807 := by have := hRow.capLe; unfold maxLen at this; omega
  clear hRow
  rw [show m + 2 - 1 = m + 1 by omega] at hN
  replace hN := Lib.hid hN
  replace hcell := Lib.hid hcell
  replace hs := Lib.hid hs
  replace hl := Lib.hid hl
  have hmi : ((m + 2 : Nat) : Int) - 2 = (m : Int) := by omega
  go_enter Try.func74, Try.ntmps74
  go_wp2
  clear hmi
  go_loopw [3] (fun ii wr => ∃ (i q : Nat), i ≤ m + 1 ∧ ii = .int .i64 ((i : Int) - 1) ∧ wr = w.drewN q ∧ ∀ j, i ≤ j → j < m + 1 → ¬ gi l j < gi l (j + 1)) (fun ii _ => ((intOf ii) + 1).toNat)
  case atStart => exact ⟨m + 1, 0, by omega, by go_num, rfl, fun j h1 h2 => absurd h2 (by omega)⟩
  case round =>
    obtain ⟨i, q, him, rfl, rfl, hno⟩ := hrel
    replace hno := Lib.hid hno
    by_cases hi0 : i = 0
    · have hA : ascF l (m + 1) = none := ascF_none fun j hj => hno.out j (by omega) hj
      have hN2 := hN.out
      rw [hA] at hN2
      replace hN2 := Lib.hid hN2
      subst hi0
      clear hA
      go_wp2
      go_quiet (fail)
      go_wp2
      go_ret
      exact ⟨by rw [hN2.out]; rfl, by rw [hN2.out]; exact Sl.drewN hs.out _, by first | exact Ex.drewN (Ex.refl _ _) _ | exact Ex.drewN (Ex.drewN (Ex.refl _ _) _) _⟩
    · obtain ⟨k, rfl⟩ : ∃ k, i = k + 1 := ⟨i - 1, by omega⟩
      have hki : ((k + 1 : Nat) : Int) - 1 = (k : Int) := by omega
      rw [hki]
      have hc1 := hcell.out k (by omega)
      have hc2 := hcell.out (k + 1) (by omega)
      have hp1 : (0 : Int) ≤ (k : Int) := by omega
      have hp2 : IntKind.i64.wrap ((k : Int) + 1) = (k : Int) + 1 := IntWalk.i64_in _ (by omega)
      have hp3 : ((k : Int) + 1).toNat = k + 1 := by omega
      have hp4 : (0 : Int) ≤ (k : Int) + 1 := by omega
      have hp5 : decide ((0 : Int) ≤ (k : Int)) = true := decide_eq_true hp1
      generalize hx : gi l k = X at *
      generalize hy : gi l (k + 1) = Y at *
      replace hx := Lib.hid hx
      replace hy := Lib.hid hy
      by_cases hXY : X < Y
      · have hA : ascF l (m + 1) = some k := ascF_at (by omega) (by rw [hx.out, hy.out]; exact hXY) fun j h1 h2 => hno.out j (by omega) h2
        have hN2 := hN.out
        rw [hA] at hN2
        dsimp only at hN2
        rw [hx.out] at hN2
        replace hN2 := Lib.hid hN2
        clear hA hki
        have hmi2 : ((m + 2 : Nat) : Int) - 1 = ((m + 1 : Nat) : Int) := by omega
        go_wp2
        go_quiet (fail)
        clear hp2 hp3
        go_wp2
        clear hmi2
        go_loopw [4] (fun kk wr => ∃ (t q : Nat), k < t ∧ t ≤ m + 1 ∧ kk = .int .i64 t ∧ wr = w.drewN q ∧ ∀ j, t < j → j ≤ m + 1 → ¬ X < gi l j) (fun kk _ => (intOf kk).toNat)
        case atStart => exact ⟨m + 1, _, by omega, by omega, by go_num, rfl, fun j h1 h2 => absurd h2 (by omega)⟩
        case round =>
          obtain ⟨t, q2, hkt, htm, rfl, rfl, hno2⟩ := hrel
          replace hno2 := Lib.hid hno2
          have hc3 := hcell.out t (by omega)
          have hp6 : (0 : Int) ≤ (t : Int) := by omega
          generalize hz : gi l t = Z at *
          by_cases hZX : X < Z
          · have hB : bigF l X (m + 1) = t := bigF_at htm (.inr (by rw [hz]; exact hZX)) hno2.out
            have hN3 := hN2.out
            rw [hB] at hN3
            replace hN3 := Lib.hid hN3
            clear hB
            have hset := Lib.hid ((hs.out.setInt (i := k) (by omega) Z).setInt (i := t) (by omega) X)
            have hswp : swp l k t = (l.set k Z).set t X := by unfold swp; rw [hx.out, hz]
            replace hswp := Lib.hid hswp
            replace hz := Lib.hid hz
            have hf1 := hfr.out (off + k)
            have hf2 := hfr.out (off + t)
            have hcne : ¬ cap = k + 1 := by omega
            have hle1 : k + 1 ≤ m + 2 := by omega
            go_wp2
            go_quiet (fail)
            go_wp2
            go_region
            go_wp2_with fail
            refine (reverse_any b off (m + 2) cap (cap - (k + 1)) (k + 1) (m + 1 - k) (swp l k t) _ (by omega) (by simp [hl.out]) (by rw [hswp.out]; exact Sl.quietly hset.out) hn64 (by omega)).mono ?_
            rintro e w4 ⟨rfl, hs4, hex4⟩
            replace hs4 := Lib.hid hs4
            have hex5 := Lib.hid (Ex.trans (Ex.setIn (p := ⟨b, off + t, none⟩) (Ex.setIn (p := ⟨b, off + k, none⟩) (Ex.drewN (Ex.refl [b] w) _) (by simp)) (by simp)) hex4)
            clear hex4
            go_wp2
            go_ret
            exact ⟨by rw [hN3.out]; rfl, by rw [hN3.out]; exact hs4.out, hex5.out⟩
          · have hne : ¬ t = k + 1 := by
              intro h
              rw [h, hy.out] at hz
              omega
            have hNZ := Lib.hid hz
            clear hz
            go_wp2
            go_quiet (fail)
            go_wp2
            go_roundw
            case rel => exact ⟨t - 1, _, by omega, by omega, by go_num, rfl, fun j h1 h2 => by
              by_cases hj : j = t
              · rw [hj, hNZ.out]; omega
              · have := hno2.out j (by omega) h2; omega⟩
            case measure => simp [intOf]; omega
      · clear hki
        go_wp2
        go_quiet (fail)
        clear hp2 hp3
        go_wp2
        go_roundw
        case rel => exact ⟨k, _, by omega, by go_num, rfl, fun j h1 h2 => by
          by_cases hj : j = k
          · subst hj; rw [hx.out, hy.out]; omega
          · have := hno.out j (by omega) h2; omega⟩
        case measure => simp [intOf] <;> omega

theorem nextR_yes {p q : List Int} (h : goodP p = true) (hn : nextF p = some q) : nextR p = (q, true) := by simp [nextR, h, hn]
theorem nextR_no {p : List Int} (h : goodP p = false ∨ nextF p = none) : nextR p = ([], false) := by
  unfold nextR
  rcases h with h | h
  · simp [h]
  · simp [h]
set_option maxHeartbeats 1000000 in
theorem impl_NextPermutation_law {v : Value} {x : List Int} {F : List Nat} {w : World} (r : RIntS w v x F) (hx9 : x.length ≤ 1048576) :
    Calls Try.prog 29 #[v] w fun e w' => ∃ r F, e = .returned (.tuple #[r, .bool (nextR x).2]) ∧ RIntS w' r (nextR x).1 F ∧ Fr w.heap.size F ∧ Below w.heap.size w w' ∧ (nextR x).1.length ≤ 100000000000 := by
  have hv := Lib.hid r.1
  have hlen := Lib.hid (nextR_len x)
  clear r
  cases h : goodP x
  · rw [nextR_no (.inl h)] at hlen ⊢
    go_enter Try.func29, Try.ntmps29
    go_wp2_with fail
    refine (copyInt_any _ _ _ hv.out (by omega)).mono ?_
    rintro e w2 ⟨r, rfl, hf⟩
    have hb := Lib.hid hf.2
    clear hf
    go_wp2_with fail
    refine (impl_permOk_any _ _ _ (hv.out.rd.below hb.out)).mono ?_
    rintro e w3 ⟨rfl, b⟩
    replace hb := Lib.hid (Below.next hb.out b)
    clear b
    go_wp2
    go_ret2
    exact ⟨_, _, rfl, (Fresh.nil hb.out).law.1, (Fresh.nil hb.out).law.2.1, (Fresh.nil hb.out).law.2.2, hlen.out⟩
  · have hl := (goodP_iff.1 h).1
    go_enter Try.func29, Try.ntmps29
    go_wp2_with fail
    refine (copyInt_any _ _ _ hv.out (by omega)).mono ?_
    rintro e w2 ⟨r, rfl, hf⟩
    obtain ⟨ao, cap, rfl, _⟩ := hf.shape
    have hb := Lib.hid hf.2
    have ho := Lib.hid hf.1
    clear hf
    go_wp2_with fail
    refine (impl_permOk_any _ _ _ (hv.out.rd.below hb.out)).mono ?_
    rintro e w3 ⟨rfl, b⟩
    replace hb := Lib.hid (Below.next hb.out b)
    replace ho := Lib.hid (Own.below ho.out b)
    clear b
    go_wp2_with fail
    refine (nextPerm_any ao _ cap x _ rfl ho.out.sl hl).mono ?_
    rintro e w4 ⟨rfl, hs, hex⟩
    have hbel := Lib.hid (Below.ex hb.out hex fun b hm => (ho.out.lt b (by simpa using hm)).1)
    have hown := Lib.hid (fun k (hk : Value.ownBlock (.slice ao x.length cap) = some k) => (ho.out.lt k hk).1)
    clear hex ho
    cases hN : nextF x with
    | none =>
      rw [hN] at hs
      rw [nextR_no (.inr hN)] at hlen
      have hR : (nextR x) = ([], false) := nextR_no (.inr hN)
      replace hR := Lib.hid hR
      clear hs hN
      go_wp2
      go_ret2
      rw [hR.out]
      exact ⟨_, _, rfl, (Fresh.nil hbel.out).law.1, (Fresh.nil hbel.out).law.2.1, (Fresh.nil hbel.out).law.2.2, hlen.out⟩
    | some q =>
      rw [hN] at hs
      rw [nextR_yes h hN] at hlen
      have hR : (nextR x) = (q, true) := nextR_yes h hN
      replace hR := Lib.hid hR
      have hfin := Lib.hid (show Fresh w w4 (.slice ao x.length cap) q from ⟨hs, hown.out, hbel.out⟩)
      clear hs hN
      go_wp2
      go_ret2
      rw [hR.out]
      exact ⟨_, _, rfl, hfin.out.law.1, hfin.out.law.2.1, hfin.out.law.2.2, hlen.out⟩
end Go.Proofs.Ytbfffpdcpoejnaa
