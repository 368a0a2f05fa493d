/- PermutationSign: impl's and the spec's. -/
import Derived.Test.YtbfffpdcpoejnaaCycW
namespace Go.Proofs.Ytbfffpdcpoejnaa
open Go.RowKit
set_option linter.unusedVariables false
set_option linter.unusedSimpArgs false

theorem sgn_congr {a b : Nat} (h : a % 2 = b % 2) : sgn a = sgn b := by unfold sgn; rw [h]
set_option maxHeartbeats 1000000 in
theorem impl_PermutationSign_law {v : Value} {p : List Int} {F : List Nat} {w : World} (r : RIntS w v p F) :
    Calls Try.prog 23 #[v] w fun e w' => e = .returned (.tuple #[.int .i64 (signR p).1, .bool (signR p).2]) ∧ Below w.heap.size w w' := by
  have hv := r.rd
  clear r
  have hv0 := hv
  obtain ⟨ao, c, rfl, h1, h2, _⟩ := hv0
  unfold maxLen at h2
  replace hv := Lib.hid hv
  cases h : goodP p
  · have e0 : signR p = (0, false) := by simp [signR, h]
    rw [e0]
    clear e0
    go_enter Try.func23, Try.ntmps23
    go_wp2_with (go_at_call 16; refine (impl_permOk_any _ _ _ hv.out).mono ?_; rintro e w' ⟨rfl, hb⟩)
    go_ret2
    exact ⟨rfl, by assumption⟩
  · have e0 : signR p = (sgn (invs p), true) := by simp [signR, h]
    rw [e0]
    clear e0
    have hcp := cycles_par h
    have hl := (goodP_iff.1 h).1
    have hin := Lib.hid (goodP_inP h)
    have hpar := Lib.hid (show par p = invs p % 2 from rfl)
    go_enter Try.func23, Try.ntmps23
    go_wp2_with fail
    refine (impl_permOk_any _ _ _ hv.out).mono ?_
    rintro e w1 ⟨rfl, hb⟩
    replace hb := Lib.hid hb
    go_wp2_with fail
    refine (impl_cycles_any _ _ _ (hv.out.below hb.out) hin.out hl).mono ?_
    rintro e w2 ⟨o, us, rfl, ho, hi, hb2⟩
    have hul := hi.len
    obtain ⟨ao2, c2, rfl, _⟩ := ho.sl
    rw [← hul] at hcp
    have hbel := Lib.hid (Below.next hb.out hb2)
    clear ho hi hb2 hul
    generalize hn : p.length = n at *
    generalize hL : us.length = L at *
    obtain ⟨d, hd⟩ : ∃ d, d = n - L := ⟨_, rfl⟩
    rw [← hd] at hcp
    have hsub : (n : Int) - (L : Int) = (d : Int) := by omega
    have hmd : ((d : Int)).tmod 2 = ((d % 2 : Nat) : Int) := by
      rw [Int.tmod_eq_emod_of_nonneg (by omega)]; exact (Int.natCast_emod d 2).symm
    have hmd2 : ((d : Int)) % 2 = ((d % 2 : Nat) : Int) := (Int.natCast_emod d 2).symm
    have hlt : d % 2 < 2 := Nat.mod_lt _ (by omega)
    have hcp2 := Lib.hid hcp.2
    clear hcp
    generalize hq : d % 2 = q at *
    replace hq := Lib.hid hq
    replace hd := Lib.hid hd
    replace hn := Lib.hid hn
    replace hL := Lib.hid hL
    go_wp2
    go_ret2
    refine ⟨?_, hbel.out⟩
    have : sgn (invs p) = 1 - 2 * (q : Int) := by unfold sgn; rw [← hpar.out, hcp2.out]
    rw [this]
    first | rfl | (simp)
set_option maxHeartbeats 1000000 in
theorem spec_PermutationSign_law {v : Value} {p : List Int} {F : List Nat} {w : World} (r : RIntS w v p F) :
    Calls Try.prog 24 #[v] w fun e w' => e = .returned (.tuple #[.int .i64 (signR p).1, .bool (signR p).2]) ∧ Below w.heap.size w w' := by
  have hv := r.rd
  clear r
  have hv0 := hv
  obtain ⟨ao, c, rfl, h1, h2, _⟩ := hv0
  unfold maxLen at h2
  replace hv := Lib.hid hv
  cases h : goodP p
  · have e0 : signR p = (0, false) := by simp [signR, h]
    rw [e0]
    clear e0
    go_enter Try.func24, Try.ntmps24
    go_wp2_with (go_at_call 59; refine (l3Good_any _ _ _ hv.out).mono ?_; rintro e w' ⟨rfl, hb⟩)
    go_ret2
    exact ⟨rfl, by assumption⟩
  · have e0 : signR p = (sgn (invs p), true) := by simp [signR, h]
    rw [e0]
    clear e0
    have hl := (goodP_iff.1 h).1
    have hall := Lib.hid (invC_all p)
    have hpar := Lib.hid (show par p = invs p % 2 from rfl)
    have hst := Lib.hid (show ∀ i, invC p (i + 1) = invC p i + lessK p i (p.length - 1 - i) from fun _ => rfl)
    go_enter Try.func24, Try.ntmps24
    go_wp2_with fail
    refine (l3Good_any _ _ _ hv.out).mono ?_
    rintro e w1 ⟨rfl, hb⟩
    have hv1 := hv.out.below hb
    replace hb := Lib.hid hb
    obtain ⟨ao', c', hv2, _, _, HA⟩ := hv1
    simp only [Value.slice.injEq] at hv2
    obtain ⟨rfl, _, rfl⟩ := hv2
    replace HA := Lib.hid HA
    generalize hn : p.length = n at *
    replace hn := Lib.hid hn
    go_wp2
    go_loopw [4, 5] (fun sg i wr => ∃ k q : Nat, k ≤ n ∧ i = .int .i64 k ∧ sg = .int .i64 (sgn (invC p k)) ∧ wr = w1.drewN q) (fun _ i _ => n - (intOf i).toNat)
    case atStart => exact ⟨0, 0, Nat.zero_le _, rfl, rfl, rfl⟩
    case round =>
      obtain ⟨k, q, hk, rfl, rfl, rfl⟩ := hrel
      by_cases hlt : k < n
      · obtain ⟨b, off, rfl, hR⟩ := HA.out (by omega)
        have hc1 := hR k hlt
        replace hR := Lib.hid hR
        have hs1 := Lib.hid (hst.out k)
        generalize hx : gi p k = x at *
        replace hx := Lib.hid hx
        generalize hI : invC p k = I at *
        replace hI := Lib.hid hI
        obtain ⟨k1, hk1⟩ : ∃ k1, k1 = k + 1 := ⟨_, rfl⟩
        have hk2 : (k : Int) + 1 = (k1 : Int) := by omega
        have hk3 : k1 ≤ n := by omega
        replace hk1 := Lib.hid hk1
        go_wp2
        go_loopw [4, 6] (fun sg i wr => ∃ t q : Nat, k1 ≤ t ∧ t ≤ n ∧ i = .int .i64 t ∧ sg = .int .i64 (sgn (I + lessK p k (t - k1))) ∧ wr = w1.drewN q) (fun _ i _ => n - (intOf i).toNat)
        case atStart => exact ⟨k1, _, Nat.le_refl _, hk3, by first | rfl | go_num, by rw [Nat.sub_self]; rfl, rfl⟩
        case round =>
          obtain ⟨t, q, ht1, ht, rfl, rfl, rfl⟩ := hrel
          by_cases hlt2 : t < n
          · have hc2 := hR.out t hlt2
            have hls : lessK p k (t + 1 - k1) = lessK p k (t - k1) + if gi p (k + 1 + (t - k1)) < gi p k then 1 else 0 := by
              rw [show t + 1 - k1 = (t - k1) + 1 by omega]; rfl
            rw [show k + 1 + (t - k1) = t by have := hk1.out; omega] at hls
            rw [hx.out] at hls
            generalize hy : gi p t = y at *
            replace hy := Lib.hid hy
            generalize hN : lessK p k (t - k1) = N at *
            replace hN := Lib.hid hN
            have hsg := sgn_range (I + N)
            have hsc := Lib.hid (sgn_succ (I + N))
            generalize hS : sgn (I + N) = S at *
            replace hS := Lib.hid hS
            have hneg : IntKind.i64.wrap (-S) = -S := IntWalk.i64_in _ (by omega)
            by_cases hyx : x > y
            · rw [if_pos hyx] at hls
              replace hls := Lib.hid hls
              go_wp2
              go_quiet (fail)
              go_wp2
              go_roundw
              case rel => exact ⟨t + 1, _, by omega, by omega, by go_num, by rw [hls.out, ← Nat.add_assoc, hsc.out]; first | done | rfl | (simp [hneg]), rfl⟩
              case measure => simp [intOf]; omega
            · rw [if_neg hyx] at hls
              replace hls := Lib.hid hls
              go_wp2
              go_quiet (fail)
              go_wp2
              go_roundw
              case rel => exact ⟨t + 1, _, by omega, by omega, by go_num, by rw [hls.out, Nat.add_zero, hS.out]; first | done | rfl, rfl⟩
              case measure => simp [intOf]; omega
          · obtain rfl : t = n := by omega
            go_wp2
            go_roundw
            case rel => exact ⟨k + 1, _, by omega, by go_num, by rw [hs1.out, show t - 1 - k = t - k1 by have := hk1.out; omega]; first | done | rfl, rfl⟩
            case measure => simp [intOf]; omega
      · obtain rfl : k = n := by omega
        have hend : sgn (invC p k) = sgn (invs p) := sgn_congr (by rw [← hpar.out, ← hall.out])
        rw [hend]
        clear hend
        go_wp2
        go_ret2
        exact ⟨rfl, Below.next hb.out (Below.drewN (Below.refl _ _) _)⟩
end Go.Proofs.Ytbfffpdcpoejnaa
