/- impl.StableSort, spec.StableSort. -/
import Derived.Test.YtdhcpoeopooejaaStrS
import Derived.Test.YtdhcpoeopooejaaStrL
import Derived.Test.YtdhcpoeopooejaaStrZ
namespace Go.Proofs.Ytdhcpoeopooejaa
open Go.RowKit
set_option linter.unusedVariables false
set_option linter.unusedSimpArgs false

set_option maxHeartbeats 400000 in
theorem copyRecT_any (v : Value) (xs : List (Int × Int)) (w : World) (hv : RdP w v xs) (hl : xs.length ≤ 1000000000) :
    Calls Try.prog 77 #[v] w fun e w' => ∃ r, e = .returned r ∧ OwnQ 72 w' w.heap.size r xs ∧ Below w.heap.size w w' := by
  have hr := Lib.hid (hv.below (w' := w.alloc (.cells #[] 72)) ((Below.refl _ _).alloc (Nat.le_refl _) _))
  have ho := Lib.hid (OwnQ.empty 72 w)
  clear hv
  go_enter Try.func77, Try.ntmps77
  go_wp2_with (at_builtin; refine append_recs eltRec rfl _ _ rfl w.heap.size _ _ rfl ho.out _ _ rfl hr.out (by simp; omega) (by simp) ?_)
  intro v' w1 ho1 hg
  have hb := Lib.hid (Below.appendedQ ((Below.refl w.heap.size w).alloc (Nat.le_refl _) (.cells #[] 72)) ho.out hg (by simp))
  replace ho1 := Lib.hid ho1
  clear hg
  go_wp2
  go_ret
  exact ⟨_, rfl, by have := ho1.out; simpa using this, hb.out⟩

set_option maxHeartbeats 2000000 in
theorem impl_stable_any (v : Value) (X : List (Int × Int)) (w : World) (hv : RdP w v X) (hl : X.length ≤ 64) :
    Calls Try.prog 71 #[v] w fun e w' => ∃ r, e = .returned r ∧ SlQ 72 w' r (stF X) ∧ Fr w.heap.size r.ownBlock.toList ∧ Below w.heap.size w w' := by
  have hfin := fun (D : List Int) (h1 : D.Perm (pl X.length)) (h2 : Srt (cvR X) D 0 X.length) => stF_of h1 h2
  replace hv := Lib.hid hv
  by_cases hp : 0 < X.length
  · go_enter Try.func71, Try.ntmps71
    go_wp2_with fail
    refine (copyRecT_any _ _ _ hv.out (by omega)).mono ?_
    rintro e w1 ⟨o, rfl, ho, hb⟩
    obtain ⟨g, c, rfl, hB, hsl⟩ := ho.open (by omega) hp
    have hR : RQ w1 g 0 c X.length X (pl X.length) := by
      unfold RQ
      rw [pl_map]; exact hsl
    have hst := Lib.hid (sortStableR_any w1 g 0 c X.length X (cvR_pre X) (by omega) hl (pl X.length) w1 hR (pl_length _) (Ex.refl _ _) (fun j hj => gi_pl hj))
    generalize hn : X.length = n at *
    replace hn := Lib.hid hn
    replace hb := Lib.hid hb
    replace hfin := Lib.hid hfin
    clear ho hsl hR
    go_wp2_with fail
    refine hst.out.mono ?_
    rintro e w2 ⟨rfl, D, hR2, hx2, hm2, hs2⟩
    have hff := Lib.hid (hfin.out D hm2.perm hs2)
    have hb2 : Below w.heap.size w w2 := ⟨hx2.os.trans hb.out.os, hx2.tape.trans hb.out.tape, hx2.output.trans hb.out.output, Nat.le_trans hb.out.size hx2.size, fun k hk => (hx2.block k (Nat.lt_of_lt_of_le hk hb.out.size) (by simp; omega)).trans (hb.out.block k hk)⟩
    replace hR2 := Lib.hid hR2
    replace hb2 := Lib.hid hb2
    clear hx2 hm2 hs2 hst
    go_wp2
    go_ret
    exact ⟨_, rfl, by rw [← hff.out]; exact hR2.out, by intro b0 h0; simp [Value.ownBlock] at h0; omega, hb2.out⟩
  · obtain rfl : X = [] := List.eq_nil_of_length_eq_zero (by omega)
    go_enter Try.func71, Try.ntmps71
    go_wp2_with fail
    refine (copyRecT_any _ _ _ hv.out (by simp)).mono ?_
    rintro e w1 ⟨o, rfl, ho, hb⟩
    have hsl := Lib.hid (ho.sl (by simp))
    have hfr : Hid (Fr w.heap.size o.ownBlock.toList) := Lib.hid (fun b hb => (ho.lt b (by simpa using hb)).1)
    replace hb := Lib.hid hb
    obtain ⟨ao, c, rfl, _, _⟩ := hsl.out.shape
    clear ho hfin hp
    go_wp2_with fail
    refine (sortStableR_zero ao c _).mono ?_
    rintro e w2 ⟨rfl, rfl⟩
    go_wp2
    go_ret
    exact ⟨_, rfl, hsl.out, hfr.out, hb.out⟩

set_option maxHeartbeats 1000000 in
theorem impl_StableSort_law {v : Value} {x : List (Int × Int)} {F : List Nat} {w : World} (r : RRecordS w v x F) :
    Calls Try.prog 31 #[v] w fun e w' => ∃ r F, e = .returned (.tuple #[r, .bool (stR x).2]) ∧ RRecordS w' r (stR x).1 F ∧ Fr w.heap.size F ∧ Below w.heap.size w w' ∧ szRecordS (stR x).1 ≤ 100000000000 := by
  have hv := Lib.hid r.rd
  have hp := Lib.hid r.rdP
  clear r
  have hsz := Lib.hid (stR_sz x)
  cases h : vrecs x
  · have e0 : stR x = ([], false) := by simp [stR, h]
    rw [e0] at hsz ⊢
    clear e0
    go_enter Try.func31, Try.ntmps31
    go_wp2_with fail
    refine (isValidRecords_any _ _ _ hv.out).mono ?_
    rintro e w1 ⟨rfl, hb⟩
    replace hb := Lib.hid hb
    go_wp2
    go_ret2
    exact ⟨_, [], rfl, ⟨SlQ.nil _ _, rfl⟩, by intro b hb; simp at hb, hb.out, hsz.out⟩
  · have hl := (vrecs_iff.1 h).1
    have e0 : stR x = (stF x, true) := by simp [stR, h]
    rw [e0] at hsz ⊢
    clear e0
    go_enter Try.func31, Try.ntmps31
    go_wp2_with fail
    refine (isValidRecords_any _ _ _ hv.out).mono ?_
    rintro e w1 ⟨rfl, hb⟩
    replace hb := Lib.hid hb
    go_wp2_with fail
    refine (impl_stable_any _ _ _ (hp.out.below hb.out) (by omega)).mono ?_
    rintro e w2 ⟨o, rfl, ho, hf, hb2⟩
    have h1 := Lib.hid ho
    have h2 := Lib.hid (Fr.of hb.out hf)
    have h3 := Lib.hid (Below.next hb.out hb2)
    clear ho hb2 hf
    go_wp2
    go_ret2
    exact ⟨_, _, rfl, ⟨h1.out, rfl⟩, h2.out, h3.out, hsz.out⟩
set_option maxHeartbeats 1000000 in
theorem spec_StableSort_law {v : Value} {x : List (Int × Int)} {F : List Nat} {w : World} (r : RRecordS w v x F) :
    Calls Try.prog 29 #[v] w fun e w' => ∃ r F, e = .returned (.tuple #[r, .bool (stR x).2]) ∧ RRecordS w' r (stR x).1 F ∧ Fr w.heap.size F ∧ Below w.heap.size w w' ∧ szRecordS (stR x).1 ≤ 100000000000 := by
  have hv := Lib.hid r.rd
  have hp := Lib.hid r.rdP
  clear r
  have hsz := Lib.hid (stR_sz x)
  cases h : vrecs x
  · have e0 : stR x = ([], false) := by simp [stR, h]
    rw [e0] at hsz ⊢
    clear e0
    go_enter Try.func29, Try.ntmps29
    go_wp2_with fail
    refine (l2Records_any _ _ _ hv.out).mono ?_
    rintro e w1 ⟨rfl, rfl⟩
    skip
    go_wp2
    go_ret2
    exact ⟨_, [w.heap.size], rfl, ⟨(OwnQ.empty 72 w).sl (by simp), rfl⟩, by intro b hb; simp at hb; omega, (Below.refl _ _).alloc (Nat.le_refl _) _, hsz.out⟩
  · have hl := (vrecs_iff.1 h).1
    have e0 : stR x = (stF x, true) := by simp [stR, h]
    rw [e0] at hsz ⊢
    clear e0
    go_enter Try.func29, Try.ntmps29
    go_wp2_with fail
    refine (l2Records_any _ _ _ hv.out).mono ?_
    rintro e w1 ⟨rfl, rfl⟩
    have hb := Lib.hid (Below.refl w.heap.size w)
    go_wp2_with fail
    refine (l2Stable_any _ _ _ (hp.out.below hb.out) (by omega)).mono ?_
    rintro e w2 ⟨o, rfl, ho, hf, hb2⟩
    have h1 := Lib.hid ho
    have h2 := Lib.hid (Fr.of hb.out hf)
    have h3 := Lib.hid (Below.next hb.out hb2)
    clear ho hb2 hf
    go_wp2
    go_ret2
    exact ⟨_, _, rfl, ⟨h1.out, rfl⟩, h2.out, h3.out, hsz.out⟩
end Go.Proofs.Ytdhcpoeopooejaa
