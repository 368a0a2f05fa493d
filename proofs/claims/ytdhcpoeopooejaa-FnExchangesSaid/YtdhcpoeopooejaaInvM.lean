/- The inverse of a permutation, composition and application, in plain lists. -/
import Derived.Test.YtdhcpoeopooejaaInverse
import Derived.Test.YtdhcpoeopooejaaCompose
import Derived.Test.YtdhcpoeopooejaaApplyPerm
import Derived.Test.YtdhcpoeopooejaaSign
namespace Go.Proofs.Ytdhcpoeopooejaa
open Go.RowKit
set_option linter.unusedVariables false
set_option linter.unusedSimpArgs false

theorem dist_nodup {l : List Int} (h : Dist l) : l.Nodup := by
  rw [List.Nodup, List.pairwise_iff_getElem]
  intro i j hi hj hij
  have := h i j hij hj
  rwa [gi_eq hi, gi_eq hj] at this
/-- A permutation meets each place. -/
theorem perm_onto {p : List Int} (hr : inR p p.length) (hd : Dist p) {y : Nat} (hy : y < p.length) : ∃ i, i < p.length ∧ gi p i = y := by
  by_cases hm : (y : Int) ∈ p
  · obtain ⟨i, hi, he⟩ := List.getElem_of_mem hm
    exact ⟨i, hi, by rw [gi_eq hi, he]⟩
  · have h1 : ((y : Int) :: p).Nodup := List.nodup_cons.2 ⟨hm, dist_nodup hd⟩
    have h2 : ((y : Int) :: p) ⊆ (List.range p.length).map Int.ofNat := by
      intro x hx
      rcases List.mem_cons.1 hx with rfl | hx
      · exact List.mem_map.2 ⟨y, by simpa using hy, rfl⟩
      · obtain ⟨i, hi, he⟩ := List.getElem_of_mem hx
        have := hr i hi
        rw [gi_eq hi, he] at this
        exact List.mem_map.2 ⟨x.toNat, by simp; omega, by simp; omega⟩
    have := h1.length_le_of_subset h2
    simp at this
    omega
theorem invK_at {p : List Int} (hr : inR p p.length) (hd : Dist p) : ∀ k, k ≤ p.length → ∀ j, j < k → gi (invK p k) (gi p j).toNat = (j : Int) := by
  intro k
  induction k with
  | zero => intro _ j hj; omega
  | succ k ih =>
    intro hk j hj
    have hx := hr k (by omega)
    rw [invK, gi_set (by rw [invK_length]; omega)]
    by_cases e : j = k
    · rw [if_pos (by rw [e]), e]
    · have hy := hr j (by omega)
      have hn := hd j k (by omega) (by omega)
      rw [if_neg (by omega)]
      exact ih (by omega) j (by omega)
/-- The inverse leads back. -/
theorem inv_left {p : List Int} (hg : goodP p = true) {i : Nat} (hi : i < p.length) : gi (invK p p.length) (gi p i).toNat = (i : Int) := invK_at (inR_good hg) (goodP_dist hg) p.length (Nat.le_refl _) i hi
theorem inv_right {p : List Int} (hg : goodP p = true) {y : Nat} (hy : y < p.length) : 0 ≤ gi (invK p p.length) y ∧ gi (invK p p.length) y < (p.length : Int) ∧ gi p (gi (invK p p.length) y).toNat = (y : Int) := by
  obtain ⟨i, hi, he⟩ := perm_onto (inR_good hg) (goodP_dist hg) hy
  have := inv_left hg hi
  rw [he, Int.toNat_natCast] at this
  rw [this]
  refine ⟨by omega, by omega, by rw [Int.toNat_natCast]; exact he⟩
theorem goodP_of {p : List Int} (hl : p.length ≤ 64) (hr : inR p p.length) (hd : Dist p) : goodP p = true := by
  refine goodP_good hl fun k hk => permAt_iff.2 ⟨⟨(hr k hk).1, by have := (hr k hk).2; omega⟩, fun hm => ?_⟩
  rw [List.mem_take_iff_getElem] at hm
  obtain ⟨i, hi, he⟩ := hm
  exact hd i k (by omega) hk (by rw [gi_eq (by omega), he])
theorem inv_good {p : List Int} (hg : goodP p = true) : goodP (invK p p.length) = true := by
  refine goodP_of (by rw [invK_length]; exact (goodP_iff.1 hg).1) (fun i hi => ?_) (fun i j hij hj he => ?_)
  · rw [invK_length] at hi ⊢
    exact ⟨(inv_right hg hi).1, (inv_right hg hi).2.1⟩
  · rw [invK_length] at hj
    have h1 := (inv_right hg (show i < p.length by omega)).2.2
    have h2 := (inv_right hg hj).2.2
    rw [he, h2] at h1
    omega
theorem apF_length (p l : List Int) : (apF p l).length = p.length := by simp [apF]
theorem gi_apF {p l : List Int} {i : Nat} (hi : i < p.length) : gi (apF p l) i = gi l (gi p i).toNat := by
  rw [gi_eq (by rw [apF_length]; exact hi), gi_eq hi]
  simp [apF]
/-- A permutation behind its inverse is the identity. -/
theorem comp_inv {p : List Int} (hg : goodP p = true) {i : Nat} (hi : i < p.length) : gi (apF (invK p p.length) p) i = (i : Int) := by
  rw [gi_apF (by rw [invK_length]; exact hi)]
  exact (inv_right hg hi).2.2
theorem gi_ext {a b : List Int} (hl : a.length = b.length) (h : ∀ i, i < a.length → gi a i = gi b i) : a = b := by
  apply List.ext_getElem hl
  intro i h1 h2
  have := h i h1
  rwa [gi_eq h1, gi_eq h2] at this
/-- A list applied to a permutation, and then to the inverse, is the list. -/
theorem app_inv {p l : List Int} (hg : goodP p = true) (hl : p.length = l.length) : apF (invK p p.length) (apF p l) = l := by
  apply gi_ext (by rw [apF_length, invK_length, hl])
  intro i hi
  rw [apF_length, invK_length] at hi
  obtain ⟨h1, h2, h3⟩ := inv_right hg hi
  rw [gi_apF (by rw [invK_length]; exact hi), gi_apF (by omega), h3, Int.toNat_natCast]
theorem apF_vlist {p l : List Int} (hr : inR p l.length) (hp : p.length ≤ 64) (hv : vlist l = true) : vlist (apF p l) = true := by
  rw [vlist_iff]
  refine ⟨by rw [apF_length]; exact hp, fun j hj => ?_⟩
  rw [apF_length] at hj
  rw [gi_apF hj]
  have := hr j hj
  exact (vlist_iff.1 hv).2 _ (by omega)
/-- What FnInverse asks of the list that is applied. -/
theorem appR_back {r l : List Int} (h : (appR r l).2 = true) : appR (invR r).1 (appR r l).1 = (l, true) := by
  by_cases hc : goodP r = true ∧ vlist l = true ∧ r.length = l.length
  · obtain ⟨h1, h2, h3⟩ := hc
    have e1 : (invR r).1 = invK r r.length := by simp [invR, h1]
    have e2 : (appR r l).1 = apF r l := by rw [appR_yes h1 h2 h3]
    have h64 := (goodP_iff.1 h1).1
    rw [e1, e2, appR_yes (inv_good h1) (apF_vlist (by rw [← h3]; exact inR_good h1) h64 h2) (by rw [invK_length, apF_length]), app_inv h1 h3]
  · rw [appR_no hc] at h
    cases h
/-- What FnInverse asks of the composition. -/
theorem compR_back {p : List Int} (h : (invR p).2 = true) : (compR p (invR p).1).2 = true ∧ (compR p (invR p).1).1.length = p.length ∧ ∀ i, i < p.length → gi (compR p (invR p).1).1 i = (i : Int) := by
  cases hg : goodP p
  · simp [invR, hg] at h
  · have e1 : (invR p).1 = invK p p.length := by simp [invR, hg]
    rw [e1, compR_yes hg (inv_good hg) (by rw [invK_length])]
    exact ⟨rfl, by rw [apF_length, invK_length], fun i hi => comp_inv hg hi⟩
theorem invR_no {p : List Int} (h : (invR p).2 = false) : (invR p).1 = [] := by
  unfold invR at h ⊢
  split at h
  · cases h
  · rename_i hg; rw [if_neg hg]
theorem invR_snd (p : List Int) : (invR p).2 = goodP p := by
  unfold invR
  cases goodP p <;> rfl
end Go.Proofs.Ytdhcpoeopooejaa
