/- PermutationSign: impl's and the spec's. -/
import Derived.Test.YteccchdngclfoaaCycW
namespace Go.Proofs.Yteccchdngclfoaa
open Go.RowKit
set_option linter.unusedVariables false
set_option linter.unusedSimpArgs false

theorem sgn_congr {a b : Nat} (h : a % 2 = b % 2) : sgn a = sgn b := by unfold sgn; rw [h]
set_option maxHeartbeats 1000000 in
theorem impl_PermutationSign_law {v : Value} {p : List Int} {F : List Nat} {w : World} (r : RIntS w v p F) :
    Calls Try.prog 10 #[v] w fun e w' => e = .returned (.tuple #[.int .i64 (signR p).1, .bool (signR p).2]) ∧ Below w.heap.size w w' := by
  have hv := r.rd
  clear r
  have hv0 := hv
  obtain ⟨ao, c, rfl, h1, h2, _⟩ := hv0
  unfold maxLen at h2
  replace hv := Lib.hid hv
  cases h : goodP p
  · have e0 : signR p = (0, false) := by simp [signR, h]
    rw [e0]
    clear e0
    go_enter Try.func10, Try.ntmps10
    go_wp2_with (go_at_call 14; refine (impl_permOk_any _ _ _ hv.out).mono ?_; rintro e w' ⟨rfl, hb⟩)
    go_ret2
    exact ⟨rfl, by assumption⟩
  · have e0 : signR p = (sgn (invs p), true) := by simp [signR, h]
    rw [e0]
    clear e0
    have hcp := cycles_par h
    have hl := (goodP_iff.1 h).1
    have hin := Lib.hid (goodP_inP h)
    have hpar := Lib.hid (show par p = invs p % 2 from rfl)
    go_enter Try.func10, Try.ntmps10
    go_wp2_with fail
    refine (impl_permOk_any _ _ _ hv.out).mono ?_
    rintro e w1 ⟨rfl, hb⟩
    replace hb := Lib.hid hb
    go_wp2_with fail
    refine (impl_cycles_any _ _ _ (hv.out.below hb.out) hin.out hl).mono ?_
    rintro e w2 ⟨o, us, rfl, ho, hi, hb2⟩
    have hul := hi.len
    obtain ⟨ao2, c2, rfl, _⟩ := ho.sl
    rw [← hul] at hcp
    have hbel := Lib.hid (Below.next hb.out hb2)
    clear ho hi hb2 hul
    generalize hn : p.length = n at *
    generalize hL : us.length = L at *
    obtain ⟨d, hd⟩ : ∃ d, d = n - L := ⟨_, rfl⟩
    rw [← hd] at hcp
    have hsub : (n : Int) - (L : Int) = (d : Int) := by omega
    have hmd : ((d : Int)).tmod 2 = ((d % 2 : Nat) : Int) := by
      rw [Int.tmod_eq_emod_of_nonneg (by omega)]; exact (Int.natCast_emod d 2).symm
    have hmd2 : ((d : Int)) % 2 = ((d % 2 : Nat) : Int) := (Int.natCast_emod d 2).symm
    have hlt : d % 2 < 2 := Nat.mod_lt _ (by omega)
    have hcp2 := Lib.hid hcp.2
    clear hcp
    generalize hq : d % 2 = q at *
    replace hq := Lib.hid hq
    replace hd := Lib.hid hd
    replace hn := Lib.hid hn
    replace hL := Lib.hid hL
    go_wp2
    go_ret2
    refine ⟨?_, hbel.out⟩
    have : sgn (invs p) = 1 - 2 * (q : Int) := by unfold sgn; rw [← hpar.out, hcp2.out]
    rw [this]
    first | rfl | (simp)
end Go.Proofs.Yteccchdngclfoaa
