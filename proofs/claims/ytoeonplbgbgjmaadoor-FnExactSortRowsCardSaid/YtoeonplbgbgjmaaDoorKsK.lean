/- markKeySpecS, heldKeySpecS. -/
import Derived.Test.YtoeonplbgbgjmaaDoorKs
namespace Go.Proofs.YtoeonplbgbgjmaaDoor
open Go.RowKit Go.Deep

def tm (a : Int) : Bool := a % 3 == 0
def mk1 (k : Int) : KS := (k, tm (k + 1), tm (k + 1 + 1), tm (k + 1 + 1 + 1))
def marksK (k : Int) (n : Nat) : List KS := (List.range n).map fun (j : Nat) => mk1 (k + 4 * (j : Int))
@[simp] theorem marksK_length (k : Int) (n : Nat) : (marksK k n).length = n := by simp [marksK]
theorem marksK_gk (k : Int) (n j : Nat) (h : j < n) : gk (marksK k n) j = mk1 (k + 4 * (j : Int)) := by
  rw [gk_eq (by simpa using h)]; simp [marksK]
theorem marksK_step (xs : List KS) (k : Int) (i n : Nat) (hn : xs.length = n) (hi : i < n) : (marksK k i ++ xs.drop i).set i (mk1 (k + 4 * (i : Int))) = marksK k (i + 1) ++ xs.drop (i + 1) := by
  apply List.ext_getElem?
  intro j
  rw [List.getElem?_set]
  simp only [List.length_append, marksK_length, List.length_drop]
  by_cases h : i = j
  · subst h
    rw [if_pos rfl, if_pos (by omega), List.getElem?_append_left (by simp)]
    simp [marksK]
  · rw [if_neg h]
    by_cases h2 : j < i
    · rw [List.getElem?_append_left (by simp; omega), List.getElem?_append_left (by simp; omega)]
      simp [marksK, h2, Nat.lt_succ_of_lt h2]
    · rw [List.getElem?_append_right (by simp; omega), List.getElem?_append_right (by simp; omega)]
      simp only [marksK_length, List.getElem?_drop]
      congr 1
      omega
theorem SlK.row {w : World} {n c : Nat} {ao : Option Addr} {xs : List KS} (h : SlK w (.slice ao n c) xs) (hp : 0 < n) :
    ∃ b off, ao = some ⟨b, off, none⟩ ∧ xs.length = n ∧ (xs.length ≤ c ∧ c ≤ maxLen) ∧ Row w 71 b off (4 * xs.length) (kss xs) := by
  obtain ⟨ao', c', hv, h⟩ := h
  simp at hv
  obtain ⟨rfl, rfl, rfl⟩ := hv
  rcases h with ⟨_, h, _⟩ | ⟨b, off, rfl, hc, hr⟩
  · rw [h] at hp
    simp at hp
  · exact ⟨b, off, rfl, rfl, hc, hr⟩
theorem SlK.shape {w : World} {v : Value} {xs : List KS} (h : SlK w v xs) : ∃ ao c, v = .slice ao xs.length c ∧ xs.length ≤ c ∧ c ≤ maxLen := by
  obtain ⟨ao, c, rfl, h1, h2, _⟩ := h.rd
  exact ⟨ao, c, rfl, h1, h2⟩
theorem SlK.set {w : World} {n c b off : Nat} {xs : List KS} (h : SlK w (.slice (some ⟨b, off, none⟩) n c) xs) {i : Nat} (hi : i < n) (x : Int) (p q r : Bool) :
    SlK ((((w.setCell ⟨b, off + i * 4, none⟩ (.int .i64 x)).setCell ⟨b, off + i * 4 + 1, none⟩ (.bool p)).setCell ⟨b, off + i * 4 + 2, none⟩ (.bool q)).setCell ⟨b, off + i * 4 + 3, none⟩ (.bool r)) (.slice (some ⟨b, off, none⟩) n c) (xs.set i (x, p, q, r)) := by
  obtain ⟨b', off', hb, hn, hc, hr⟩ := h.row (by omega)
  simp at hb
  obtain ⟨rfl, rfl⟩ := hb
  have h1 := (((hr.set (i := i * 4) (by rw [kss_length]; omega) (.int .i64 x)).set (i := i * 4 + 1) (by rw [List.length_set, kss_length]; omega) (.bool p)).set (i := i * 4 + 2) (by rw [List.length_set, List.length_set, kss_length]; omega) (.bool q)).set (i := i * 4 + 3) (by rw [List.length_set, List.length_set, List.length_set, kss_length]; omega) (.bool r)
  rw [← kss_set, ← Nat.add_assoc, ← Nat.add_assoc, ← Nat.add_assoc] at h1
  exact ⟨_, _, by rw [List.length_set, hn], .inr ⟨_, _, rfl, by rw [List.length_set]; exact hc, by rw [List.length_set]; exact h1⟩⟩
theorem SlK.cells {w : World} {n c b off : Nat} {xs : List KS} (h : SlK w (.slice (some ⟨b, off, none⟩) n c) xs) {i : Nat} (hi : i < n) :
    K4 w b (off + i * 4) (gk xs i) ∧ ∀ j, w.frozen? ⟨b, j, none⟩ = false := by
  obtain ⟨b', off', hb, hn, hc, hr⟩ := h.row (by omega)
  simp at hb
  obtain ⟨rfl, rfl⟩ := hb
  exact ⟨hr.k4 (by omega), fun j => hr.frozen j⟩
theorem mod_lt3 {a : Int} (h : 0 ≤ a) : 0 ≤ a.tmod 3 ∧ a.tmod 3 ≤ 2 := by
  rw [Int.tmod_eq_emod_of_nonneg h]
  omega

set_option maxHeartbeats 4000000 in
theorem markKeySpecS_any (v : Value) (xs : List KS) (k : Int) (w : World) (hv : SlK w v xs) (hl : xs.length ≤ 1000000000000) (hk0 : 0 ≤ k) (hk : k ≤ 1000000000000) :
    Calls Tryd.prog 18 #[v, .int .i64 k] w fun e w' => e = .returned (.int .i64 (k + 4 * (xs.length : Int))) ∧
      SlK w' v (marksK k xs.length) ∧ w.grownBy w' v.ownBlock := by
  obtain ⟨ao, c, rfl, _, hcm⟩ := hv.shape
  unfold maxLen at hcm
  generalize hn : xs.length = n at *
  replace hn := Lib.hid hn
  replace hv := Lib.hid hv
  go_enter Tryd.func18, Tryd.ntmps18
  go_wp2
  go_loopw [1, 5] (fun m i wr => ∃ j : Nat, j ≤ n ∧ i = .int .i64 j ∧ m = .int .i64 (k + 4 * (j : Int)) ∧ SlK wr (.slice ao n c) (marksK k j ++ xs.drop j) ∧ w.grownBy wr (Value.slice ao n c).ownBlock) (fun _ i _ => n - (intOf i).toNat)
  case atStart => exact ⟨0, Nat.zero_le _, rfl, by simp, by simpa [marksK] using hv.out, World.grownBy.refl _ _⟩
  case round =>
    obtain ⟨j, hj, rfl, rfl, hs, hg⟩ := hrel
    by_cases hlt : j < n
    · obtain ⟨b, off, rfl, _, _⟩ := hs.row (by omega)
      obtain ⟨⟨hc1, hc2, hc3, hc4⟩, hf⟩ := hs.cells hlt
      have hf1 := hf (off + j * 4)
      have hf2 := hf (off + j * 4 + 1)
      have hf3 := hf (off + j * 4 + 2)
      have hf4 := hf (off + j * 4 + 3)
      clear hf
      have hst := Lib.hid (marksK_step xs k j n hn.out hlt)
      have hkj : (k + 4 * (j : Int)) + 4 = k + 4 * ((j + 1 : Nat) : Int) := by omega
      replace hkj := Lib.hid hkj
      generalize hK : k + 4 * (j : Int) = K at *
      have hK0 : 0 ≤ K := by omega
      have hK1 : K ≤ 9000000000000 := by omega
      replace hK := Lib.hid hK
      have m1 := mod_lt3 (a := K + 1) (by omega)
      have m2 := mod_lt3 (a := K + 1 + 1) (by omega)
      have m3 := mod_lt3 (a := K + 1 + 1 + 1) (by omega)
      have e1 : tm (K + 1) = ((K + 1) % 3 == 0) := rfl
      have e2 : tm (K + 1 + 1) = ((K + 1 + 1) % 3 == 0) := rfl
      have e3 : tm (K + 1 + 1 + 1) = ((K + 1 + 1 + 1) % 3 == 0) := rfl
      have hmk := Lib.hid (show mk1 K = (K, tm (K + 1), tm (K + 1 + 1), tm (K + 1 + 1 + 1)) from rfl)
      replace e1 := Lib.hid e1
      replace e2 := Lib.hid e2
      replace e3 := Lib.hid e3
      replace hs := Lib.hid hs
      replace hg := Lib.hid hg
      go_wp2
      go_roundw
      case rel =>
        refine ⟨j + 1, by omega, by go_num, ?_, ?_, ?_⟩
        · rw [← hkj.out]; congr 1; omega
        · rw [← hst.out, hmk.out, e1.out, e2.out, e3.out]
          exact hs.out.set hlt _ _ _ _
        · exact grownBy.setIn (p := ⟨b, off + j * 4 + 3, none⟩) (grownBy.setIn (p := ⟨b, off + j * 4 + 2, none⟩) (grownBy.setIn (p := ⟨b, off + j * 4 + 1, none⟩) (grownBy.setIn (p := ⟨b, off + j * 4, none⟩) hg.out rfl) rfl) rfl) rfl
      case measure => simp [intOf]; omega
    · replace hs := Lib.hid hs
      replace hg := Lib.hid hg
      go_wp2
      go_ret
      obtain rfl : j = n := by omega
      refine ⟨rfl, ?_, hg.out⟩
      have := hs.out
      rwa [List.drop_of_length_le (by rw [hn.out]; omega), List.append_nil] at this

set_option maxHeartbeats 4000000 in
theorem heldKeySpecS_any (v : Value) (n : Nat) (k : Int) (w : World) (hv : SlK w v (marksK k n)) (hl : n ≤ 1000000000000) (hk0 : 0 ≤ k) (hk : k ≤ 1000000000000) :
    Calls Tryd.prog 19 #[v, .int .i64 k] w fun e w' => e = .returned (.int .i64 (k + 4 * (n : Int))) ∧ ∃ q, w' = w.drewN q := by
  obtain ⟨ao, c, rfl, _, hcm⟩ := hv.shape
  unfold maxLen at hcm
  rw [marksK_length] at *
  replace hv := Lib.hid hv
  go_enter Tryd.func19, Tryd.ntmps19
  go_wp2
  go_loopw [1, 5] (fun m i wr => ∃ j q : Nat, j ≤ n ∧ i = .int .i64 j ∧ m = .int .i64 (k + 4 * (j : Int)) ∧ wr = w.drewN q) (fun _ i _ => n - (intOf i).toNat)
  case atStart => exact ⟨0, 0, Nat.zero_le _, rfl, by simp, rfl⟩
  case round =>
    obtain ⟨j, q, hj, rfl, rfl, rfl⟩ := hrel
    by_cases hlt : j < n
    · obtain ⟨b, off, rfl, _, _⟩ := hv.out.row (by omega)
      obtain ⟨⟨hc1, hc2, hc3, hc4⟩, _⟩ := hv.out.cells hlt
      rw [marksK_gk k n j hlt] at hc1 hc2 hc3 hc4
      have hkj : (k + 4 * (j : Int)) + 4 = k + 4 * ((j + 1 : Nat) : Int) := by omega
      replace hkj := Lib.hid hkj
      generalize hK : k + 4 * (j : Int) = K at *
      have hK0 : 0 ≤ K := by omega
      have hK1 : K ≤ 9000000000000 := by omega
      replace hK := Lib.hid hK
      have m1 := mod_lt3 (a := K + 1) (by omega)
      have m2 := mod_lt3 (a := K + 1 + 1) (by omega)
      have m3 := mod_lt3 (a := K + 1 + 1 + 1) (by omega)
      dsimp only [mk1, tm] at hc1 hc2 hc3 hc4
      have z1 := bne_self_eq_false' (a := ((K + 1) % 3 == 0))
      have z2 := bne_self_eq_false' (a := ((K + 1 + 1) % 3 == 0))
      have z3 := bne_self_eq_false' (a := ((K + 1 + 1 + 1) % 3 == 0))
      go_wp2
      go_roundw
      case rel => exact ⟨j + 1, _, by omega, by go_num, by rw [← hkj.out]; congr 1; omega, rfl⟩
      case measure => simp [intOf]; omega
    · go_wp2
      go_ret
      obtain rfl : j = n := by omega
      exact ⟨rfl, _, rfl⟩

/-- The slice y bears the marks from k to k'. -/
def MkKeySpecS (k k' : Int) (y : List KS) : Prop := ∃ n : Nat, y = marksK k n ∧ k' = k + 4 * (n : Int) ∧ n ≤ 100000000000
theorem markKeySpecS_law {v : Value} {x : List KS} {F : List Nat} {w : World} {k : Int} (h : RKeySpecS w v x F) (hl : szKeySpecS x ≤ 100000000000) (h0 : 0 ≤ k) (hk : k ≤ 1000000000000) :
    Calls Tryd.prog 18 #[v, .int .i64 k] w fun e w' => ∃ y k', e = .returned (.int .i64 k') ∧ RKeySpecS w' v y F ∧ MkKeySpecS k k' y ∧ k ≤ k' ∧ k' ≤ k + 4 * (szKeySpecS x : Int) ∧ Ex F w w' :=
  (markKeySpecS_any v x k w h.1 (Nat.le_trans (show x.length ≤ 100000000000 from hl) (by omega)) h0 hk).mono fun _ _ ⟨he, hs, hg⟩ => ⟨_, _, he, ⟨hs, h.2⟩, ⟨_, rfl, rfl, hl⟩, by omega, Int.le_refl _, by rw [h.2]; exact Ex.of_grown hg⟩
theorem heldKeySpecS_law {v : Value} {y : List KS} {F : List Nat} {w : World} {k k' : Int} (h : RKeySpecS w v y F) (m : MkKeySpecS k k' y) (h0 : 0 ≤ k) (hk : k ≤ 1000000000000) :
    Calls Tryd.prog 19 #[v, .int .i64 k] w fun e w' => e = .returned (.int .i64 k') ∧ Below w.heap.size w w' := by
  obtain ⟨n, rfl, rfl, hn⟩ := m
  exact (heldKeySpecS_any v n k w h.1 (by omega) h0 hk).mono fun _ _ ⟨he, hb⟩ => ⟨he, Below.quiet hb⟩
end Go.Proofs.YtoeonplbgbgjmaaDoor
