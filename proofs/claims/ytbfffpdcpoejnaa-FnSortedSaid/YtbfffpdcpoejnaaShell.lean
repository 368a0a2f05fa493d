/- ShellSort. -/
import Derived.Test.YtbfffpdcpoejnaaGap
namespace Go.Proofs.Ytbfffpdcpoejnaa
open Go.RowKit
set_option linter.unusedVariables false
set_option linter.unusedSimpArgs false

/-- Gap k is in range and less than the one before. -/
def gapAt (gs : List Int) (k : Nat) : Bool := inB (gi gs k) 1 64 && (decide (k = 0) || decide (gi gs (k - 1) > gi gs k))
/-- Valid gaps. -/
def gapsB (gs : List Int) : Bool := (List.range gs.length).all (gapAt gs) && (inB gs.length 1 10 && decide (gi gs (gs.length - 1) = 1))
theorem gapsB_bad {gs : List Int} {k : Nat} (hk : k < gs.length) (h : gapAt gs k = false) : gapsB gs = false := by
  have : (List.range gs.length).all (gapAt gs) = false := by
    rw [List.all_eq_false]
    exact ⟨k, by simpa using hk, by simp [h]⟩
  simp [gapsB, this]
theorem gapsB_all {gs : List Int} (h : ∀ j, j < gs.length → gapAt gs j = true) : gapsB gs = (inB gs.length 1 10 && decide (gi gs (gs.length - 1) = 1)) := by
  have : (List.range gs.length).all (gapAt gs) = true := by
    rw [List.all_eq_true]
    intro j hj
    exact h j (by simpa using hj)
  simp [gapsB, this]
theorem gapsB_at {gs : List Int} (h : gapsB gs = true) : gs.length ≤ 10 ∧ ∀ j, j < gs.length → 1 ≤ gi gs j ∧ gi gs j ≤ 64 := by
  simp [gapsB] at h
  obtain ⟨h1, h2, _⟩ := h
  have := inB_iff.1 h2
  refine ⟨by omega, fun j hj => ?_⟩
  have := h1 j hj
  simp [gapAt] at this
  exact inB_iff.1 this.1
/-- The list and the comparisons behind the first k gaps. -/
def shellK (gs x : List Int) : Nat → List Int × Nat
  | 0 => (x, 0)
  | k + 1 => ((gapF (gi gs k).toNat (shellK gs x k).1).1, (shellK gs x k).2 + (gapF (gi gs k).toNat (shellK gs x k).1).2.1)
theorem shellK_length (gs x : List Int) (k : Nat) : (shellK gs x k).1.length = x.length := by
  induction k with
  | zero => rfl
  | succ k ih => rw [shellK, gapF_length, ih]
/-- The result of ShellSort. -/
def shellR (x gs : List Int) : List Int × Nat × Bool := if vlist x && gapsB gs then ((shellK gs x gs.length).1, (shellK gs x gs.length).2, true) else ([], 0, false)
theorem shellR_len (x gs : List Int) : (shellR x gs).1.length ≤ 100000000000 := by
  unfold shellR
  split
  · rename_i h
    simp at h
    have := (vlist_iff.1 h.1).1
    dsimp only
    rw [shellK_length]; omega
  · simp

set_option maxHeartbeats 1000000 in
theorem areGaps_any (v : Value) (gs : List Int) (w : World) (hv : Rd w v gs) :
    Calls Try.prog 86 #[v] w fun e w' => e = .returned (.bool (gapsB gs)) ∧ ∃ q, w' = w.drewN q := by
  obtain ⟨ao, c, rfl, h1, h2, HA⟩ := hv
  unfold maxLen at h2
  generalize hn : gs.length = n at *
  replace HA := Lib.hid HA
  replace hn := Lib.hid hn
  go_enter Try.func86, Try.ntmps86
  go_wp2
  go_loopw [7] (fun i wr => ∃ k q : Nat, k ≤ n ∧ i = .int .i64 k ∧ wr = w.drewN q ∧ ∀ j, j < k → gapAt gs j = true) (fun i _ => n - (intOf i).toNat)
  case atStart => exact ⟨0, 0, Nat.zero_le _, rfl, rfl, fun j hj => absurd hj (by omega)⟩
  case round =>
    obtain ⟨k, q, hk, rfl, rfl, hq⟩ := hrel
    replace hq := Lib.hid hq
    by_cases hlt : k < n
    · obtain ⟨b, off, rfl, hR⟩ := HA.out (by omega)
      have hc1 := hR k hlt
      have hp1 : (0 : Int) ≤ (k : Int) := by omega
      cases hb : inB (gi gs k) 1 64
      · have hbad := Lib.hid (gapsB_bad (k := k) (by rw [hn.out]; omega) (by simp [gapAt, hb]))
        clear hR
        generalize hx : gi gs k = x at *
        replace hx := Lib.hid hx
        go_wp2_with (go_at_call 61; refine (in_any _ _ _ _).mono ?_; rintro e w' ⟨rfl, rfl⟩)
        go_ret
        exact ⟨ret_bool hbad.out.symm, by first | exact ⟨_, rfl⟩ | exact ⟨_, World.drewN_drewN ..⟩⟩
      by_cases hk0 : k = 0
      · have hd : decide (0 < k) = false := by simp; omega
        have hnk : ¬ 0 < k := by omega
        have hgood := Lib.hid (show gapAt gs k = true by have h0 : decide (k = 0) = true := decide_eq_true hk0
                                                         rw [gapAt, hb, h0]; rfl)
        replace hk0 := Lib.hid hk0
        clear hR
        generalize hx : gi gs k = x at *
        replace hx := Lib.hid hx
        go_wp2_with (go_at_call 61; refine (in_any _ _ _ _).mono ?_; rintro e w' ⟨rfl, rfl⟩)
        go_roundw
        case rel =>
          refine ⟨k + 1, _, by omega, by go_num, rfl, fun j hj => ?_⟩
          by_cases hjk : j = k
          · rw [hjk]; exact hgood.out
          · exact hq.out j (by omega)
        case measure => simp [intOf]; omega
      · obtain ⟨m, rfl⟩ : ∃ m, k = m + 1 := ⟨k - 1, by omega⟩
        have hc2 := hR m (by omega)
        have hd : decide ((0 : Int) < ((m + 1 : Nat) : Int)) = true := decide_eq_true (by omega)
        have hi2 : ((m + 1 : Nat) : Int) - 1 = (m : Int) := by omega
        have hp2 : (0 : Int) ≤ (m : Int) := by omega
        clear hR
        by_cases hgt : gi gs m > gi gs (m + 1)
        · have hgood := Lib.hid (show gapAt gs (m + 1) = true by simp [gapAt, hb, hgt])
          generalize hx : gi gs (m + 1) = x at *
          generalize hy : gi gs m = y at *
          replace hx := Lib.hid hx
          replace hy := Lib.hid hy
          go_wp2_with (go_at_call 61; refine (in_any _ _ _ _).mono ?_; rintro e w' ⟨rfl, rfl⟩)
          go_roundw
          case rel =>
            refine ⟨m + 1 + 1, _, by omega, by go_num, rfl, fun j hj => ?_⟩
            by_cases hjk : j = m + 1
            · rw [hjk]; exact hgood.out
            · exact hq.out j (by omega)
          case measure => simp [intOf]; omega
        · have hbad := Lib.hid (gapsB_bad (k := m + 1) (by rw [hn.out]; omega) (by simp [gapAt, hb, hgt]))
          generalize hx : gi gs (m + 1) = x at *
          generalize hy : gi gs m = y at *
          replace hx := Lib.hid hx
          replace hy := Lib.hid hy
          go_wp2_with (go_at_call 61; refine (in_any _ _ _ _).mono ?_; rintro e w' ⟨rfl, rfl⟩)
          go_ret
          exact ⟨ret_bool hbad.out.symm, by first | exact ⟨_, rfl⟩ | exact ⟨_, World.drewN_drewN ..⟩⟩
    · obtain rfl : k = n := by omega
      have hall := Lib.hid (gapsB_all (by rw [hn.out]; exact hq.out))
      rw [hn.out] at hall
      cases hb : inB (k : Int) 1 10
      · rw [hb, Bool.false_and] at hall
        go_wp2_with (go_at_call 61; refine (in_any _ _ _ _).mono ?_; rintro e w' ⟨rfl, rfl⟩)
        go_ret
        exact ⟨ret_bool hall.out.symm, by first | exact ⟨_, rfl⟩ | exact ⟨_, World.drewN_drewN ..⟩⟩
      · rw [hb, Bool.true_and] at hall
        have hb' := inB_iff.1 hb
        obtain ⟨m, rfl⟩ : ∃ m, k = m + 1 := ⟨k - 1, by omega⟩
        replace hb' := True.intro
        obtain ⟨b, off, rfl, hR⟩ := HA.out (by omega)
        have hc2 := hR m (by omega)
        have hi2 : ((m + 1 : Nat) : Int) - 1 = (m : Int) := by omega
        have hp2 : (0 : Int) ≤ (m : Int) := by omega
        rw [Nat.add_sub_cancel] at hall
        clear hR
        generalize hx : gi gs m = x at *
        replace hx := Lib.hid hx
        go_wp2_with (go_at_call 61; refine (in_any _ _ _ _).mono ?_; rintro e w' ⟨rfl, rfl⟩)
        go_ret
        exact ⟨by rw [hall.out]; simp [Bool.beq_eq_decide_eq], by first | exact ⟨_, rfl⟩ | exact ⟨_, World.drewN_drewN ..⟩⟩

set_option maxHeartbeats 1000000 in
theorem l4Gaps_any (v : Value) (gs : List Int) (w : World) (hv : Rd w v gs) :
    Calls Try.prog 87 #[v] w fun e w' => e = .returned (.bool (gapsB gs)) ∧ ∃ q, w' = w.drewN q := by
  obtain ⟨ao, c, rfl, h1, h2, HA⟩ := hv
  unfold maxLen at h2
  generalize hn : gs.length = n at *
  replace HA := Lib.hid HA
  replace hn := Lib.hid hn
  go_enter Try.func87, Try.ntmps87
  go_wp2
  go_loopw [3] (fun i wr => ∃ k q : Nat, k ≤ n ∧ i = .int .i64 k ∧ wr = w.drewN q ∧ ∀ j, j < k → gapAt gs j = true) (fun i _ => n - (intOf i).toNat)
  case atStart => exact ⟨0, 0, Nat.zero_le _, rfl, rfl, fun j hj => absurd hj (by omega)⟩
  case round =>
    obtain ⟨k, q, hk, rfl, rfl, hq⟩ := hrel
    replace hq := Lib.hid hq
    by_cases hlt : k < n
    · obtain ⟨b, off, rfl, hR⟩ := HA.out (by omega)
      have hc1 := hR k hlt
      have hp1 : (0 : Int) ≤ (k : Int) := by omega
      cases hb : inB (gi gs k) 1 64
      · have hbad := Lib.hid (gapsB_bad (k := k) (by rw [hn.out]; omega) (by simp [gapAt, hb]))
        clear hR
        generalize hx : gi gs k = x at *
        replace hx := Lib.hid hx
        go_wp2
        go_quiet ((go_at_call 80; exact quietA (l1In_any _ _ _ _)))
        go_wp2
        go_ret
        exact ⟨ret_bool hbad.out.symm, by first | exact ⟨_, rfl⟩ | exact ⟨_, World.drewN_drewN ..⟩⟩
      by_cases hk0 : k = 0
      · have hd : decide (0 < k) = false := by simp; omega
        have hnk : ¬ 0 < k := by omega
        have hgood := Lib.hid (show gapAt gs k = true by have h0 : decide (k = 0) = true := decide_eq_true hk0
                                                         rw [gapAt, hb, h0]; rfl)
        replace hk0 := Lib.hid hk0
        clear hR
        generalize hx : gi gs k = x at *
        replace hx := Lib.hid hx
        go_wp2
        go_quiet ((go_at_call 80; exact quietA (l1In_any _ _ _ _)))
        go_wp2
        go_roundw
        case rel =>
          refine ⟨k + 1, _, by omega, by go_num, rfl, fun j hj => ?_⟩
          by_cases hjk : j = k
          · rw [hjk]; exact hgood.out
          · exact hq.out j (by omega)
        case measure => simp [intOf]; omega
      · obtain ⟨m, rfl⟩ : ∃ m, k = m + 1 := ⟨k - 1, by omega⟩
        have hc2 := hR m (by omega)
        have hd : decide ((0 : Int) < ((m + 1 : Nat) : Int)) = true := decide_eq_true (by omega)
        have hi2 : ((m + 1 : Nat) : Int) - 1 = (m : Int) := by omega
        have hp2 : (0 : Int) ≤ (m : Int) := by omega
        clear hR
        by_cases hgt : gi gs m > gi gs (m + 1)
        · have hgood := Lib.hid (show gapAt gs (m + 1) = true by simp [gapAt, hb, hgt])
          generalize hx : gi gs (m + 1) = x at *
          generalize hy : gi gs m = y at *
          replace hx := Lib.hid hx
          replace hy := Lib.hid hy
          go_wp2
          go_quiet ((go_at_call 80; exact quietA (l1In_any _ _ _ _)))
          go_wp2
          go_roundw
          case rel =>
            refine ⟨m + 1 + 1, _, by omega, by go_num, rfl, fun j hj => ?_⟩
            by_cases hjk : j = m + 1
            · rw [hjk]; exact hgood.out
            · exact hq.out j (by omega)
          case measure => simp [intOf]; omega
        · have hbad := Lib.hid (gapsB_bad (k := m + 1) (by rw [hn.out]; omega) (by simp [gapAt, hb, hgt]))
          generalize hx : gi gs (m + 1) = x at *
          generalize hy : gi gs m = y at *
          replace hx := Lib.hid hx
          replace hy := Lib.hid hy
          go_wp2
          go_quiet ((go_at_call 80; exact quietA (l1In_any _ _ _ _)))
          go_wp2
          go_ret
          exact ⟨ret_bool hbad.out.symm, by first | exact ⟨_, rfl⟩ | exact ⟨_, World.drewN_drewN ..⟩⟩
    · obtain rfl : k = n := by omega
      have hall := Lib.hid (gapsB_all (by rw [hn.out]; exact hq.out))
      rw [hn.out] at hall
      cases hb : inB (k : Int) 1 10
      · rw [hb, Bool.false_and] at hall
        go_wp2_with (go_at_call 80; refine (l1In_any _ _ _ _).mono ?_; rintro e w' ⟨rfl, rfl⟩)
        go_ret
        exact ⟨ret_bool hall.out.symm, by first | exact ⟨_, rfl⟩ | exact ⟨_, World.drewN_drewN ..⟩⟩
      · rw [hb, Bool.true_and] at hall
        have hb' := inB_iff.1 hb
        obtain ⟨m, rfl⟩ : ∃ m, k = m + 1 := ⟨k - 1, by omega⟩
        replace hb' := True.intro
        obtain ⟨b, off, rfl, hR⟩ := HA.out (by omega)
        have hc2 := hR m (by omega)
        have hi2 : ((m + 1 : Nat) : Int) - 1 = (m : Int) := by omega
        have hp2 : (0 : Int) ≤ (m : Int) := by omega
        rw [Nat.add_sub_cancel] at hall
        clear hR
        generalize hx : gi gs m = x at *
        replace hx := Lib.hid hx
        go_wp2_with (go_at_call 80; refine (l1In_any _ _ _ _).mono ?_; rintro e w' ⟨rfl, rfl⟩)
        go_ret
        exact ⟨by rw [hall.out]; simp [Bool.beq_eq_decide_eq], by first | exact ⟨_, rfl⟩ | exact ⟨_, World.drewN_drewN ..⟩⟩

set_option maxHeartbeats 2000000 in
theorem impl_ShellSort_law {v u : Value} {x gs : List Int} {F G : List Nat} {w : World} (r : RIntS w v x F) (s : RIntS w u gs G) :
    Calls Try.prog 44 #[v, u] w fun e w' => ∃ r F, e = .returned (.tuple #[r, .int .i64 (shellR x gs).2.1, .bool (shellR x gs).2.2]) ∧ RIntS w' r (shellR x gs).1 F ∧ Fr w.heap.size F ∧ Below w.heap.size w w' ∧ (shellR x gs).1.length ≤ 100000000000 := by
  have hv := Lib.hid r.1
  have hu := s.rd
  clear r s
  have hlen := Lib.hid (shellR_len x gs)
  have hu' := hu
  obtain ⟨ao2, c2, rfl, h3, h4, _⟩ := hu'
  unfold maxLen at h4
  replace hu := Lib.hid hu
  cases h : vlist x
  · have e0 : shellR x gs = ([], 0, false) := by simp [shellR, h]
    rw [e0] at hlen ⊢
    clear e0
    go_enter Try.func44, Try.ntmps44
    go_wp2_with fail
    refine (isValidList_any _ _ _ (Sl.rd hv.out)).mono ?_
    rintro e w1 ⟨rfl, hb⟩
    replace hb := Lib.hid hb
    go_wp2
    go_ret3
    exact ⟨_, _, rfl, (Fresh.nil hb.out).law.1, (Fresh.nil hb.out).law.2.1, (Fresh.nil hb.out).law.2.2, hlen.out⟩
  cases hg : gapsB gs
  · have e0 : shellR x gs = ([], 0, false) := by simp [shellR, hg]
    rw [e0] at hlen ⊢
    clear e0
    go_enter Try.func44, Try.ntmps44
    go_wp2_with fail
    refine (isValidList_any _ _ _ (Sl.rd hv.out)).mono ?_
    rintro e w1 ⟨rfl, hb⟩
    replace hb := Lib.hid hb
    go_wp2_with fail
    refine (areGaps_any _ _ _ (hu.out.below hb.out)).mono ?_
    rintro e w2 ⟨rfl, b⟩
    replace hb := Lib.hid (Below.next hb.out (Below.quiet b))
    clear b
    go_wp2
    go_ret3
    exact ⟨_, _, rfl, (Fresh.nil hb.out).law.1, (Fresh.nil hb.out).law.2.1, (Fresh.nil hb.out).law.2.2, hlen.out⟩
  · have e0 : shellR x gs = ((shellK gs x gs.length).1, (shellK gs x gs.length).2, true) := by simp [shellR, h, hg]
    have hl := (vlist_iff.1 h).1
    have hg10 := (gapsB_at hg).1
    have hgat := Lib.hid (gapsB_at hg).2
    rw [e0] at hlen ⊢
    clear e0
    go_enter Try.func44, Try.ntmps44
    go_wp2_with fail
    refine (isValidList_any _ _ _ (Sl.rd hv.out)).mono ?_
    rintro e w1 ⟨rfl, hb⟩
    replace hb := Lib.hid hb
    go_wp2_with fail
    refine (areGaps_any _ _ _ (hu.out.below hb.out)).mono ?_
    rintro e w2 ⟨rfl, b⟩
    replace hb := Lib.hid (Below.next hb.out (Below.quiet b))
    clear b
    replace hv := Lib.hid (hv.out.below hb.out hv.out.lt)
    replace hu := Lib.hid (hu.out.below hb.out)
    go_wp2_with fail
    refine (copyInt_any _ _ _ hv.out (by omega)).mono ?_
    rintro e w3 ⟨r, rfl, hf⟩
    obtain ⟨ao, cap, rfl, _⟩ := hf.shape
    have hsl0 := Lib.hid hf.sl
    have hown := Lib.hid (fun (b : Nat) (hm : b ∈ (Value.slice ao x.length cap).ownBlock.toList) => (hf.1.lt b (by simpa using hm)).1)
    have hst : ∀ k, shellK gs x (k + 1) = ((gapF (gi gs k).toNat (shellK gs x k).1).1, (shellK gs x k).2 + (gapF (gi gs k).toNat (shellK gs x k).1).2.1) := fun k => rfl
    replace hst := Lib.hid hst
    have hbel := Lib.hid hf.2
    replace hf := Lib.hid hf
    have hkl := Lib.hid (shellK_length gs x)
    generalize hn : x.length = n at *
    replace hn := Lib.hid hn
    generalize hm : gs.length = m at *
    replace hm := Lib.hid hm
    go_wp2
    go_loopw [8, 25] (fun cc i wr => ∃ k : Nat, k ≤ m ∧ i = .int .i64 k ∧ cc = .int .i64 (shellK gs x k).2 ∧ (shellK gs x k).2 ≤ 64000 * k ∧ Sl wr 3 (.slice ao n cap) (ints (shellK gs x k).1) ∧ Ex (Value.slice ao n cap).ownBlock.toList w3 wr) (fun _ i _ => m - (intOf i).toNat)
    case atStart => exact ⟨0, Nat.zero_le _, rfl, rfl, Nat.zero_le _, hsl0.out, Ex.refl _ _⟩
    case round =>
      obtain ⟨wo, rfl⟩ : ∃ wo : World, wo = wr := ⟨_, rfl⟩
      obtain ⟨k, hk, rfl, rfl, hck, hsl, hex⟩ := hrel
      have hsk := hst.out k
      have hll := hkl.out k
      generalize hK1 : shellK gs x (k + 1) = K1 at *
      generalize hK : shellK gs x k = K at *
      obtain ⟨l, s⟩ := K
      dsimp only at hck hsl hsk hll ⊢
      replace hK1 := Lib.hid hK1
      replace hK := Lib.hid hK
      replace hsk := Lib.hid hsk
      replace hll := Lib.hid hll
      by_cases hlt : k < m
      · have hgk := hgat.out k hlt
        have hrd := Rd.ex hu.out hbel.out hex hown.out
        obtain ⟨ao', c', hv2, _, _, HA⟩ := hrd
        simp only [Value.slice.injEq] at hv2
        obtain ⟨rfl, hxx, rfl⟩ := hv2
        clear hxx
        obtain ⟨b, off, rfl, hR⟩ := HA (by rw [hm.out]; omega)
        have hc1 := hR k (by rw [hm.out]; omega)
        clear hR HA
        generalize hx : gi gs k = X at *
        replace hx := Lib.hid hx
        obtain ⟨Y, rfl⟩ := Int.eq_ofNat_of_zero_le (show 0 ≤ X by omega)
        have hY1 : 1 ≤ Y := by omega
        have hY2 : Y ≤ 64 := by omega
        clear hgk
        replace hsl := Lib.hid hsl
        replace hex := Lib.hid hex
        go_wp2_with fail
        refine (gapped_n ao cap l n Y _ hll.out hsl.out hl hY1 hY2).mono ?_
        rintro e w4 ⟨rfl, hs4, hex4, hb1, _⟩
        have hsk2 := hsk.out
        rw [Int.toNat_natCast] at hsk2
        have hE := Lib.hid hsk2
        clear hsk2
        replace hs4 := Lib.hid hs4
        have hex5 := Lib.hid (hex.out.trans hex4)
        clear hex4
        generalize hG : gapF Y l = Gp at *
        replace hG := Lib.hid hG
        go_wp2
        go_roundw
        case rel => exact ⟨k + 1, by omega, by go_num, by rw [hK1.out, hE.out]; go_num, by rw [hK1.out, hE.out]; dsimp only; omega, by rw [hK1.out, hE.out]; exact hs4.out, hex5.out⟩
        case measure => simp [intOf]; omega
      · obtain rfl : k = m := by omega
        replace hsl := Lib.hid hsl
        replace hex := Lib.hid hex
        go_wp2
        go_ret3
        have hfin := FreshOwn.wrote hb.out hf.out hsl.out hex.out
        have hlen2 := hlen.out
        rw [hK.out] at hlen2
        rw [hm.out, hK.out]
        exact ⟨_, _, rfl, hfin.law.1, hfin.law.2.1, hfin.law.2.2, hlen2⟩

set_option maxHeartbeats 2000000 in
theorem spec_ShellSort_law {v u : Value} {x gs : List Int} {F G : List Nat} {w : World} (r : RIntS w v x F) (s : RIntS w u gs G) :
    Calls Try.prog 45 #[v, u] w fun e w' => ∃ r F, e = .returned (.tuple #[r, .int .i64 (shellR x gs).2.1, .bool (shellR x gs).2.2]) ∧ RIntS w' r (shellR x gs).1 F ∧ Fr w.heap.size F ∧ Below w.heap.size w w' ∧ (shellR x gs).1.length ≤ 100000000000 := by
  have hv := Lib.hid r.1
  have hu := s.rd
  clear r s
  have hlen := Lib.hid (shellR_len x gs)
  have hu' := hu
  obtain ⟨ao2, c2, rfl, h3, h4, _⟩ := hu'
  unfold maxLen at h4
  replace hu := Lib.hid hu
  cases h : vlist x
  · have e0 : shellR x gs = ([], 0, false) := by simp [shellR, h]
    rw [e0] at hlen ⊢
    clear e0
    go_enter Try.func45, Try.ntmps45
    go_wp2_with fail
    refine (l2List_any _ _ _ (Sl.rd hv.out)).mono ?_
    rintro e w1 ⟨rfl, rfl⟩
    have hb := Lib.hid (Below.refl w.heap.size w)
    go_wp2
    go_ret3
    exact ⟨_, _, rfl, (Fresh.empty hb.out).law.1, (Fresh.empty hb.out).law.2.1, (Fresh.empty hb.out).law.2.2, hlen.out⟩
  cases hg : gapsB gs
  · have e0 : shellR x gs = ([], 0, false) := by simp [shellR, hg]
    rw [e0] at hlen ⊢
    clear e0
    go_enter Try.func45, Try.ntmps45
    go_wp2_with fail
    refine (l2List_any _ _ _ (Sl.rd hv.out)).mono ?_
    rintro e w1 ⟨rfl, rfl⟩
    have hb := Lib.hid (Below.refl w.heap.size w)
    go_wp2_with fail
    refine (l4Gaps_any _ _ _ (hu.out.below hb.out)).mono ?_
    rintro e w2 ⟨rfl, b⟩
    replace hb := Lib.hid (Below.next hb.out (Below.quiet b))
    clear b
    go_wp2
    go_ret3
    exact ⟨_, _, rfl, (Fresh.empty hb.out).law.1, (Fresh.empty hb.out).law.2.1, (Fresh.empty hb.out).law.2.2, hlen.out⟩
  · have e0 : shellR x gs = ((shellK gs x gs.length).1, (shellK gs x gs.length).2, true) := by simp [shellR, h, hg]
    have hl := (vlist_iff.1 h).1
    have hg10 := (gapsB_at hg).1
    have hgat := Lib.hid (gapsB_at hg).2
    rw [e0] at hlen ⊢
    clear e0
    go_enter Try.func45, Try.ntmps45
    go_wp2_with fail
    refine (l2List_any _ _ _ (Sl.rd hv.out)).mono ?_
    rintro e w1 ⟨rfl, rfl⟩
    have hb := Lib.hid (Below.refl w.heap.size w)
    go_wp2_with fail
    refine (l4Gaps_any _ _ _ (hu.out.below hb.out)).mono ?_
    rintro e w2 ⟨rfl, b⟩
    replace hb := Lib.hid (Below.next hb.out (Below.quiet b))
    clear b
    replace hv := Lib.hid (hv.out.below hb.out hv.out.lt)
    replace hu := Lib.hid (hu.out.below hb.out)
    go_wp2_with fail
    refine (l1Own_any _ _ _ hv.out (by omega)).mono ?_
    rintro e w3 ⟨r, rfl, hf⟩
    obtain ⟨ao, cap, rfl, _⟩ := hf.shape
    have hsl0 := Lib.hid hf.sl
    have hown := Lib.hid (fun (b : Nat) (hm : b ∈ (Value.slice ao x.length cap).ownBlock.toList) => (hf.1.lt b (by simpa using hm)).1)
    have hst : ∀ k, shellK gs x (k + 1) = ((gapF (gi gs k).toNat (shellK gs x k).1).1, (shellK gs x k).2 + (gapF (gi gs k).toNat (shellK gs x k).1).2.1) := fun k => rfl
    replace hst := Lib.hid hst
    have hbel := Lib.hid hf.2
    replace hf := Lib.hid hf
    have hkl := Lib.hid (shellK_length gs x)
    generalize hn : x.length = n at *
    replace hn := Lib.hid hn
    generalize hm : gs.length = m at *
    replace hm := Lib.hid hm
    go_wp2
    go_loopw [8, 9] (fun cc i wr => ∃ k : Nat, k ≤ m ∧ i = .int .i64 k ∧ cc = .int .i64 (shellK gs x k).2 ∧ (shellK gs x k).2 ≤ 64000 * k ∧ Sl wr 3 (.slice ao n cap) (ints (shellK gs x k).1) ∧ Ex (Value.slice ao n cap).ownBlock.toList w3 wr) (fun _ i _ => m - (intOf i).toNat)
    case atStart => exact ⟨0, Nat.zero_le _, rfl, rfl, Nat.zero_le _, hsl0.out, Ex.refl _ _⟩
    case round =>
      obtain ⟨wo, rfl⟩ : ∃ wo : World, wo = wr := ⟨_, rfl⟩
      obtain ⟨k, hk, rfl, rfl, hck, hsl, hex⟩ := hrel
      have hsk := hst.out k
      have hll := hkl.out k
      generalize hK1 : shellK gs x (k + 1) = K1 at *
      generalize hK : shellK gs x k = K at *
      obtain ⟨l, s⟩ := K
      dsimp only at hck hsl hsk hll ⊢
      replace hK1 := Lib.hid hK1
      replace hK := Lib.hid hK
      replace hsk := Lib.hid hsk
      replace hll := Lib.hid hll
      by_cases hlt : k < m
      · have hgk := hgat.out k hlt
        have hrd := Rd.ex hu.out hbel.out hex hown.out
        obtain ⟨ao', c', hv2, _, _, HA⟩ := hrd
        simp only [Value.slice.injEq] at hv2
        obtain ⟨rfl, hxx, rfl⟩ := hv2
        clear hxx
        obtain ⟨b, off, rfl, hR⟩ := HA (by rw [hm.out]; omega)
        have hc1 := hR k (by rw [hm.out]; omega)
        clear hR HA
        generalize hx : gi gs k = X at *
        replace hx := Lib.hid hx
        obtain ⟨Y, rfl⟩ := Int.eq_ofNat_of_zero_le (show 0 ≤ X by omega)
        have hY1 : 1 ≤ Y := by omega
        have hY2 : Y ≤ 64 := by omega
        clear hgk
        replace hsl := Lib.hid hsl
        replace hex := Lib.hid hex
        go_wp2_with fail
        refine (l4Insert_n ao cap l n Y _ hll.out hsl.out hl hY1 hY2).mono ?_
        rintro e w4 ⟨rfl, hs4, hex4, hb1, _⟩
        have hsk2 := hsk.out
        rw [Int.toNat_natCast] at hsk2
        have hE := Lib.hid hsk2
        clear hsk2
        replace hs4 := Lib.hid hs4
        have hex5 := Lib.hid (hex.out.trans hex4)
        clear hex4
        generalize hG : gapF Y l = Gp at *
        replace hG := Lib.hid hG
        go_wp2
        go_roundw
        case rel => exact ⟨k + 1, by omega, by go_num, by rw [hK1.out, hE.out]; go_num, by rw [hK1.out, hE.out]; dsimp only; omega, by rw [hK1.out, hE.out]; exact hs4.out, hex5.out⟩
        case measure => simp [intOf]; omega
      · obtain rfl : k = m := by omega
        replace hsl := Lib.hid hsl
        replace hex := Lib.hid hex
        go_wp2
        go_ret3
        have hfin := FreshOwn.wrote hb.out hf.out hsl.out hex.out
        have hlen2 := hlen.out
        rw [hK.out] at hlen2
        rw [hm.out, hK.out]
        exact ⟨_, _, rfl, hfin.law.1, hfin.law.2.1, hfin.law.2.2, hlen2⟩
end Go.Proofs.Ytbfffpdcpoejnaa
