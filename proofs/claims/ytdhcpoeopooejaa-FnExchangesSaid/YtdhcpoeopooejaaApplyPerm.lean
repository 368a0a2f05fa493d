/- ApplyPermutation. -/
import Derived.Test.YtdhcpoeopooejaaApply
namespace Go.Proofs.Ytdhcpoeopooejaa
open Go.RowKit
set_option linter.unusedVariables false
set_option linter.unusedSimpArgs false

/-- The result of ApplyPermutation. -/
def appR (p l : List Int) : List Int × Bool := if goodP p && vlist l && decide (p.length = l.length) then (apF p l, true) else ([], false)
theorem appR_no {p l : List Int} (h : ¬ (goodP p = true ∧ vlist l = true ∧ p.length = l.length)) : appR p l = ([], false) := by
  unfold appR
  rw [if_neg]
  simp
  intro h1 h2 h3
  exact h ⟨h1, h2, h3⟩
theorem appR_yes {p l : List Int} (h1 : goodP p = true) (h2 : vlist l = true) (h3 : p.length = l.length) : appR p l = (apF p l, true) := by
  simp [appR, h1, h2, h3]
theorem appR_len (p l : List Int) : (appR p l).1.length ≤ 100000000000 := by
  unfold appR
  split
  · rename_i h
    simp at h
    have := (goodP_iff.1 h.1.1).1
    simp [apF]
    omega
  · simp


set_option maxHeartbeats 1000000 in
theorem impl_ApplyPermutation_law {v u : Value} {p l : List Int} {F G : List Nat} {w : World} (r : RIntS w v p F) (s : RIntS w u l G) :
    Calls Try.prog 44 #[v, u] w fun e w' => ∃ r F, e = .returned (.tuple #[r, .bool (appR p l).2]) ∧ RIntS w' r (appR p l).1 F ∧ Fr w.heap.size F ∧ Below w.heap.size w w' ∧ (appR p l).1.length ≤ 100000000000 := by
  have hv := r.rd
  have hu := s.rd
  clear r s
  have hlen := Lib.hid (appR_len p l)
  have hv' := hv
  have hu' := hu
  obtain ⟨ao, c, rfl, h1, h2, _⟩ := hv'
  obtain ⟨bo, d, rfl, h3, h4, _⟩ := hu'
  unfold maxLen at h2 h4
  replace hv := Lib.hid hv
  replace hu := Lib.hid hu
  cases hp : goodP p
  · rw [appR_no (by simp [hp])] at hlen ⊢
    go_enter Try.func44, Try.ntmps44
    go_wp2_with fail
    refine (impl_permOk_any _ _ _ hv.out).mono ?_
    rintro e w1 ⟨rfl, hb⟩
    replace hb := Lib.hid hb
    go_wp2
    go_ret2
    exact ⟨_, _, rfl, (Fresh.nil hb.out).law.1, (Fresh.nil hb.out).law.2.1, (Fresh.nil hb.out).law.2.2, hlen.out⟩
  cases hq : vlist l
  · rw [appR_no (by simp [hq])] at hlen ⊢
    go_enter Try.func44, Try.ntmps44
    go_wp2_with fail
    refine (impl_permOk_any _ _ _ hv.out).mono ?_
    rintro e w1 ⟨rfl, hb⟩
    replace hb := Lib.hid hb
    go_wp2_with fail
    refine (isValidList_any _ _ _ (hu.out.below hb.out)).mono ?_
    rintro e w2 ⟨rfl, b⟩
    replace hb := Lib.hid (Below.next hb.out b)
    clear b
    go_wp2
    go_ret2
    exact ⟨_, _, rfl, (Fresh.nil hb.out).law.1, (Fresh.nil hb.out).law.2.1, (Fresh.nil hb.out).law.2.2, hlen.out⟩
  by_cases hl : p.length = l.length
  · rw [appR_yes hp hq hl] at hlen ⊢
    have hr := Lib.hid (show inR p l.length from hl ▸ inR_good hp)
    have hlq : p.length ≤ 64 := (goodP_iff.1 hp).1
    generalize hn : p.length = n at *
    generalize hm : l.length = m at *
    subst hl
    replace hn := Lib.hid hn
    replace hm := Lib.hid hm
    go_enter Try.func44, Try.ntmps44
    go_wp2_with fail
    refine (impl_permOk_any _ _ _ hv.out).mono ?_
    rintro e w1 ⟨rfl, hb⟩
    replace hb := Lib.hid hb
    go_wp2_with fail
    refine (isValidList_any _ _ _ (hu.out.below hb.out)).mono ?_
    rintro e w2 ⟨rfl, b⟩
    replace hb := Lib.hid (Below.next hb.out b)
    clear b
    go_wp2_with fail
    refine (apply_any _ _ p l _ (hv.out.below hb.out) (hu.out.below hb.out) (by rw [hm.out]; exact hr.out) (by rw [hn.out]; omega)).mono ?_
    rintro e w3 ⟨r, rfl, hf⟩
    replace hf := Lib.hid hf
    go_wp2
    go_ret2
    have hfin : Fresh w w3 r (apF p l) := ⟨hf.out.1, fun k hk => Nat.le_trans hb.out.size (hf.out.2.1 k hk), Below.next hb.out hf.out.2.2⟩
    exact ⟨_, _, rfl, hfin.law.1, hfin.law.2.1, hfin.law.2.2, hlen.out⟩
  · rw [appR_no (by simp [hl])] at hlen ⊢
    have hd : ((p.length : Int) != (l.length : Int)) = true := by rw [bne_iff_ne]; omega
    go_enter Try.func44, Try.ntmps44
    go_wp2_with fail
    refine (impl_permOk_any _ _ _ hv.out).mono ?_
    rintro e w1 ⟨rfl, hb⟩
    replace hb := Lib.hid hb
    go_wp2_with fail
    refine (isValidList_any _ _ _ (hu.out.below hb.out)).mono ?_
    rintro e w2 ⟨rfl, b⟩
    replace hb := Lib.hid (Below.next hb.out b)
    clear b
    go_wp2
    go_ret2
    exact ⟨_, _, rfl, (Fresh.nil hb.out).law.1, (Fresh.nil hb.out).law.2.1, (Fresh.nil hb.out).law.2.2, hlen.out⟩

end Go.Proofs.Ytdhcpoeopooejaa
