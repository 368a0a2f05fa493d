/- spec.l2Sorted: a sorted copy. -/
import Derived.Test.YtdhcpoeopooejaaCopy
import Derived.Test.YtdhcpoeopooejaaSign
import Derived.BigRegion
import Derived.RegionTactic
namespace Go.Proofs.Ytdhcpoeopooejaa
open Go.RowKit
set_option linter.unusedVariables false
set_option linter.unusedSimpArgs false

/-- Ascending. -/
def Asc (l : List Int) : Prop := ∀ a b, a < b → b < l.length → gi l a ≤ gi l b
/-- Places 0 .. i ascend, but for what stands at k. -/
def AscX (l : List Int) (i k : Nat) : Prop := ∀ a b, a < b → b ≤ i → b ≠ k → gi l a ≤ gi l b
theorem AscX.start {l : List Int} {i : Nat} (h : ∀ a b, a < b → b < i → gi l a ≤ gi l b) : AscX l i i := fun a b h1 h2 h3 => h a b h1 (by omega)
theorem AscX.done {l : List Int} {i k : Nat} (h : AscX l i k) (hk : k = 0 ∨ gi l (k - 1) ≤ gi l k) : ∀ a b, a < b → b < i + 1 → gi l a ≤ gi l b := by
  intro a b h1 h2
  by_cases e : b = k
  · subst e
    rcases hk with rfl | hk
    · omega
    · by_cases e2 : a = b - 1
      · rw [e2]; exact hk
      · exact Int.le_trans (h a (b - 1) (by omega) (by omega) (by omega)) hk
  · exact h a b h1 (by omega) e
theorem AscX.step {l : List Int} {i m : Nat} (h : AscX l i (m + 1)) (hi : m + 1 ≤ i) (hl : i < l.length) (hgt : gi l m > gi l (m + 1)) : AscX (swp l m (m + 1)) i m := by
  intro a b h1 h2 h3
  rw [gi_swp (by omega) (by omega), gi_swp (by omega) (by omega)]
  by_cases eb : b = m + 1
  · subst eb
    rw [if_pos rfl, if_neg (show ¬ a = m + 1 by omega)]
    by_cases ea : a = m
    · rw [if_pos ea]; omega
    · rw [if_neg ea]; exact h a m (by omega) (by omega) (by omega)
  · rw [if_neg eb, if_neg h3]
    by_cases ea : a = m + 1
    · rw [if_pos ea]; exact h m b (by omega) (by omega) (by omega)
    · rw [if_neg ea]
      by_cases ea2 : a = m
      · rw [if_pos ea2]; exact h (m + 1) b (by omega) (by omega) (by omega)
      · rw [if_neg ea2]; exact h a b h1 h2 eb

set_option maxRecDepth 10000 in
set_option maxHeartbeats 4000000 in
theorem l2Sorted_any (v : Value) (x : List Int) (w : World) (hv : Sl w 3 v (ints x)) (hl : x.length ≤ 1000000) :
    Calls Try.prog 53 #[v] w fun e w' => ∃ (ao : Option Addr) (c : Nat) (L : List Int), e = .returned (.slice ao x.length c) ∧ Fresh w w' (.slice ao x.length c) L ∧ L.Perm x ∧ Asc L := by
  replace hv := Lib.hid hv
  go_enter Try.func53, Try.ntmps53
  go_wp2_with fail
  refine (l1Own_any _ _ _ hv.out (by omega)).mono ?_
  rintro e w2 ⟨r, rfl, hf⟩
  obtain ⟨ao, cap, rfl, _⟩ := hf.shape
  have hsl0 := Lib.hid hf.sl
  have fin := Lib.hid (fun (w3 : World) (L : List Int) hs hex => FreshOwn.wrote (w3 := w3) (L := L) (Below.refl w.heap.size w) hf hs hex)
  clear hf hv
  generalize hn : x.length = n at *
  replace hn := Lib.hid hn
  go_wp2
  go_loopw [4] (fun iv wr => ∃ (i : Nat) (l : List Int), 1 ≤ i ∧ (i ≤ n ∨ i = 1) ∧ iv = .int .i64 (i : Nat) ∧ l.Perm x ∧ l.length = n ∧ (∀ a b, a < b → b < i → gi l a ≤ gi l b) ∧ Sl wr 3 (.slice ao n cap) (ints l) ∧ Ex (Value.slice ao n cap).ownBlock.toList w2 wr) (fun iv _ => n + 1 - (intOf iv).toNat)
  case atStart => exact ⟨1, x, Nat.le_refl _, .inr rfl, rfl, List.Perm.refl _, hn.out, fun a b h1 h2 => by omega, hsl0.out, Ex.refl _ _⟩
  case round =>
    clear hsl0
    obtain ⟨wo, rfl⟩ : ∃ wo : World, wo = wr := ⟨_, rfl⟩
    obtain ⟨i, l, hi1, hi, rfl, hpm, hll, hasc, hsl, hex⟩ := hrel
    replace hpm := Lib.hid hpm
    replace hll := Lib.hid hll
    replace hasc := Lib.hid hasc
    replace hsl := Lib.hid hsl
    replace hex := Lib.hid hex
    by_cases hlt : i < n
    · have hlti : (i : Int) < (n : Int) := by omega
      go_wp2
      go_loopw [5] (fun kv wr => ∃ (k : Nat) (l : List Int), k ≤ i ∧ kv = .int .i64 (k : Nat) ∧ l.Perm x ∧ l.length = n ∧ AscX l i k ∧ Sl wr 3 (.slice ao n cap) (ints l) ∧ Ex (Value.slice ao n cap).ownBlock.toList w2 wr) (fun kv _ => (intOf kv).toNat)
      case atStart => exact ⟨i, l, Nat.le_refl _, rfl, hpm.out, hll.out, AscX.start hasc.out, hsl.out, hex.out⟩
      case round =>
        clear hsl hex hpm hll hasc
        obtain ⟨wi, rfl⟩ : ∃ wi : World, wi = wr := ⟨_, rfl⟩
        obtain ⟨k, l, hk, rfl, hpm, hll, hasc, hsl, hex⟩ := hrel
        replace hpm := Lib.hid hpm
        replace hll := Lib.hid hll
        replace hasc := Lib.hid hasc
        replace hex := Lib.hid hex
        cases k with
        | zero =>
          replace hsl := Lib.hid hsl
          have h0 : ¬ (0 : Int) < ((0 : Nat) : Int) := by omega
          go_wp2
          first | go_region | go_quiet (fail)
          go_wp2
          go_roundw
          case rel => exact ⟨i + 1, l, by omega, by omega, by go_num, hpm.out, hll.out, hasc.out.done (.inl rfl), hsl.out, by first | exact hex.out | exact hex.out.drewN _⟩
          case measure => simp [intOf]; omega
        | succ m =>
          obtain ⟨b, off, rfl, _, hR⟩ := hsl.rowInts (by omega)
          have hc1 : wi.cell? ⟨b, off + m, none⟩ = some (.int .i64 (gi l m)) := hR.cellInt (by rw [hll.out]; omega)
          have hc2 : wi.cell? ⟨b, off + (m + 1), none⟩ = some (.int .i64 (gi l (m + 1))) := hR.cellInt (by rw [hll.out]; omega)
          have hf1 := hR.frozen (off + m)
          have hf2 := hR.frozen (off + (m + 1))
          clear hR
          have hset := Lib.hid ((hsl.setInt (i := m) (by omega) (gi l (m + 1))).setInt (i := m + 1) (by omega) (gi l m))
          have hi2 : ((m + 1 : Nat) : Int) - 1 = (m : Int) := by omega
          have hi4 : (0 : Int) < ((m + 1 : Nat) : Int) := by omega
          have hE1 : gi l m > gi l (m + 1) → AscX (swp l m (m + 1)) i m := fun hh => hasc.out.step hk (by rw [hll.out]; exact hlt) hh
          have hE0 : ¬ gi l m > gi l (m + 1) → ∀ a b, a < b → b < i + 1 → gi l a ≤ gi l b := fun hh => hasc.out.done (.inr (by rw [Nat.add_sub_cancel]; omega))
          have hpm2 := Lib.hid ((swp_adj_perm l m (by rw [hll.out]; omega)).trans hpm.out)
          have hll2 := Lib.hid (show (swp l m (m + 1)).length = n by rw [swp_length]; exact hll.out)
          replace hsl := Lib.hid hsl
          have hsw : swp l m (m + 1) = (l.set m (gi l (m + 1))).set (m + 1) (gi l m) := rfl
          rw [hsw] at hpm2 hll2 hE1
          clear hsw
          generalize hx : gi l m = X at *
          generalize hy : gi l (m + 1) = Y at *
          replace hx := Lib.hid hx
          replace hy := Lib.hid hy
          by_cases hxy : X > Y
          · have hE := Lib.hid (hE1 hxy)
            clear hE1 hE0
            go_wp2
            first | go_region | go_quiet (fail)
            go_wp2
            clear hi2
            go_roundw
            case rel => exact ⟨m, _, by omega, by go_num, hpm2.out, hll2.out, hE.out, hset.out, Ex.setIn (p := ⟨b, off + (m + 1), none⟩) (Ex.setIn (p := ⟨b, off + m, none⟩) (Ex.drewN hex.out _) (by simp [Value.ownBlock])) (by simp [Value.ownBlock])⟩
            case measure => simp [intOf]
          · have hE := Lib.hid (hE0 hxy)
            clear hE1 hE0
            go_wp2
            first | go_region | go_quiet (fail)
            clear hi2
            try go_wp2
            go_roundw
            case rel => exact ⟨i + 1, l, by omega, by omega, by go_num, hpm.out, hll.out, hE.out, hsl.out, Ex.drewN hex.out _⟩
            case measure => simp [intOf]; omega
    · have hlti : ¬ (i : Int) < (n : Int) := by omega
      go_wp2
      go_ret
      rw [hn.out]
      exact ⟨ao, cap, rfl, l, fin.out _ _ hsl.out hex.out, hpm.out, fun a b h1 h2 => hasc.out a b h1 (by rw [hll.out] at h2; omega)⟩
end Go.Proofs.Ytdhcpoeopooejaa
