/- The sign of a composition is the product of the signs; a list applied to a composition. In plain lists. -/
import Derived.Test.YtdhcpoeopooejaaInvM
import Derived.Test.YtdhcpoeopooejaaL2S
import Derived.Test.YtdhcpoeopooejaaCycM
namespace Go.Proofs.Ytdhcpoeopooejaa
open Go.RowKit
set_option linter.unusedVariables false
set_option linter.unusedSimpArgs false

theorem asc_invs {l : List Int} (h : Asc l) : invs l = 0 := by
  have hp : l.Pairwise (· ≤ ·) := by
    rw [List.pairwise_iff_getElem]
    intro i j hi hj hij
    have := h i j hij hj
    rwa [gi_eq hi, gi_eq hj] at this
  clear h
  induction l with
  | nil => rfl
  | cons x l ih =>
    rw [List.pairwise_cons] at hp
    rw [invs, ih hp.2]
    have : lessC x l = 0 := by
      unfold lessC
      rw [List.countP_eq_zero]
      intro y hy
      have := hp.1 y hy
      simp; omega
    omega
/-- A list without a descent between neighbours ascends. -/
theorem asc_of_adj {l : List Int} (h : ∀ k, k + 1 < l.length → gi l k ≤ gi l (k + 1)) : Asc l := by
  intro a b hab
  induction b with
  | zero => omega
  | succ b ih =>
    intro hb
    by_cases e : a = b
    · subst e; exact h a hb
    · exact Int.le_trans (ih (by omega) (by omega)) (h b hb)
theorem id_of_asc {q : List Int} (hr : inR q q.length) (hd : Dist q) (ha : Asc q) : ∀ i, i < q.length → gi q i = (i : Int) := by
  have lo : ∀ i, i < q.length → (i : Int) ≤ gi q i := by
    intro i
    induction i with
    | zero => intro h; exact (hr 0 h).1
    | succ i ih =>
      intro h
      have h1 := ih (by omega)
      have h2 := ha i (i + 1) (by omega) h
      have h3 := hd i (i + 1) (by omega) h
      omega
  have hi : ∀ m i, i + m + 1 = q.length → gi q i ≤ (i : Int) := by
    intro m
    induction m with
    | zero => intro i h; have := (hr i (by omega)).2; omega
    | succ m ih =>
      intro i h
      have h1 := ih (i + 1) (by omega)
      have h2 := ha i (i + 1) (by omega) (by omega)
      have h3 := hd i (i + 1) (by omega) (by omega)
      omega
  intro i h
  have h1 := lo i h
  have h2 := hi (q.length - 1 - i) i (by omega)
  omega
theorem apF_dist {p q : List Int} (hp : Dist p) (hq : Dist q) (hr : inR q p.length) : Dist (apF q p) := by
  intro i j hij hj
  rw [apF_length] at hj
  rw [gi_apF (by omega), gi_apF hj]
  have h1 := hr i (by omega)
  have h2 := hr j hj
  have h3 := hq i j hij hj
  rcases Nat.lt_or_gt_of_ne (show (gi q i).toNat ≠ (gi q j).toNat by omega) with h | h
  · exact hp _ _ h (by omega)
  · exact fun e => hp _ _ h (by omega) e.symm
theorem inR_swp {q : List Int} {n i j : Nat} (hr : inR q n) (hi : i < q.length) (hj : j < q.length) : inR (swp q i j) n := by
  intro k hk
  rw [swp_length] at hk
  rw [gi_swp hi hj]
  split
  · exact hr i hi
  · split
    · exact hr j hj
    · exact hr k hk
theorem apF_swp {p q : List Int} {i j : Nat} (hi : i < q.length) (hj : j < q.length) : apF (swp q i j) p = swp (apF q p) i j := by
  apply gi_ext (by rw [apF_length, swp_length, swp_length, apF_length])
  intro k hk
  rw [apF_length, swp_length] at hk
  rw [gi_apF (by rw [swp_length]; exact hk), gi_swp hi hj, gi_swp (by rw [apF_length]; exact hi) (by rw [apF_length]; exact hj), gi_apF hi, gi_apF hj, gi_apF hk]
  split
  · rfl
  · split <;> rfl
theorem par_apF {p : List Int} (hp : Dist p) : ∀ N q, invs q = N → Dist q → inR q p.length → q.length = p.length → par (apF q p) = (par p + par q) % 2 := by
  intro N
  induction N with
  | zero =>
    intro q hN hq hr hl
    by_cases hx : ∃ k, k + 1 < q.length ∧ gi q k > gi q (k + 1)
    · obtain ⟨k, hk, hgt⟩ := hx
      have := invs_adj q k hk hgt
      omega
    · have ha : Asc q := asc_of_adj fun k hk => by
        by_cases h : gi q k ≤ gi q (k + 1)
        · exact h
        · exact absurd ⟨k, hk, by omega⟩ hx
      have hid := id_of_asc (by rw [hl]; exact hr) hq ha
      have e : apF q p = p := by
        apply gi_ext (by rw [apF_length, hl])
        intro i hi
        rw [apF_length] at hi
        rw [gi_apF hi, hid i hi, Int.toNat_natCast]
      have h0 : par q = 0 := by unfold par; rw [asc_invs ha]
      have := par_lt p
      rw [e, h0]
      omega
  | succ N ih =>
    intro q hN hq hr hl
    by_cases hx : ∃ k, k + 1 < q.length ∧ gi q k > gi q (k + 1)
    · obtain ⟨k, hk, hgt⟩ := hx
      have h1 := invs_adj q k hk hgt
      have h2 := ih (swp q k (k + 1)) (by omega) (hq.swp (by omega) hk) (inR_swp hr (by omega) hk) (by rw [swp_length]; exact hl)
      rw [apF_swp (by omega) hk, par_swp (apF_dist hp hq hr) (by omega) (by rw [apF_length]; exact hk), par_swp hq (by omega) hk] at h2
      have := par_lt p
      have := par_lt q
      have := par_lt (apF q p)
      omega
    · have ha : Asc q := asc_of_adj fun k hk => by
        by_cases h : gi q k ≤ gi q (k + 1)
        · exact h
        · exact absurd ⟨k, hk, by omega⟩ hx
      have := asc_invs ha
      omega
theorem apF_good {p q : List Int} (hp : goodP p = true) (hq : goodP q = true) (hl : p.length = q.length) : goodP (apF q p) = true := by
  have hr := inR_good hq
  have hrp := inR_good hp
  refine goodP_of (by rw [apF_length]; exact (goodP_iff.1 hq).1) (fun i hi => ?_) (apF_dist (goodP_dist hp) (goodP_dist hq) (by rw [hl]; exact hr))
  rw [apF_length] at hi ⊢
  rw [gi_apF hi]
  have h1 := hr i hi
  have h2 := hrp (gi q i).toNat (by omega)
  rw [hl] at h2
  exact h2
/-- The signs of p, q and of the composition. -/
theorem sign_comp {p q : List Int} (h : (compR p q).2 = true) : (signR p).2 = true ∧ (signR q).2 = true ∧ (signR (compR p q).1).2 = true ∧ (signR (compR p q).1).1 = (signR p).1 * (signR q).1 ∧
    ((signR p).1 = 1 ∨ (signR p).1 = -1) ∧ ((signR q).1 = 1 ∨ (signR q).1 = -1) := by
  by_cases hc : goodP p = true ∧ goodP q = true ∧ p.length = q.length
  · obtain ⟨h1, h2, h3⟩ := hc
    have e : (compR p q).1 = apF q p := by rw [compR_yes h1 h2 h3]
    have hg := apF_good h1 h2 h3
    have hpar := par_apF (goodP_dist h1) _ q rfl (goodP_dist h2) (by rw [h3]; exact inR_good h2) h3.symm
    rw [e]
    have hlp := par_lt p
    have hlq := par_lt q
    simp only [signR, h1, h2, hg, if_true, true_and]
    unfold par at hpar hlp hlq
    unfold sgn
    rw [hpar]
    generalize invs p % 2 = a at *
    generalize invs q % 2 = b at *
    have ha : a = 0 ∨ a = 1 := by omega
    have hb : b = 0 ∨ b = 1 := by omega
    rcases ha with rfl | rfl <;> rcases hb with rfl | rfl <;> simp
  · rw [compR_no hc] at h
    cases h
/-- Applying the parts in order is applying the composition. -/
theorem app_comp {p q l : List Int} (h : (compR p q).2 = true) (hv : vlist l = true) (hl : l.length = p.length) :
    (appR p l).2 = true ∧ (appR q (appR p l).1).2 = true ∧ appR (compR p q).1 l = ((appR q (appR p l).1).1, true) := by
  by_cases hc : goodP p = true ∧ goodP q = true ∧ p.length = q.length
  · obtain ⟨h1, h2, h3⟩ := hc
    have e : (compR p q).1 = apF q p := by rw [compR_yes h1 h2 h3]
    have hrp := inR_good h1
    have hrq := inR_good h2
    have e1 := appR_yes h1 hv hl.symm
    have hv2 : vlist (apF p l) = true := apF_vlist (by rw [hl]; exact hrp) (goodP_iff.1 h1).1 hv
    have e2 := appR_yes h2 hv2 (by rw [apF_length]; omega)
    have e3 := appR_yes (apF_good h1 h2 h3) hv (by rw [apF_length]; omega)
    rw [e, e1, e2, e3]
    refine ⟨rfl, rfl, ?_⟩
    congr 1
    apply gi_ext (by simp [apF_length])
    intro i hi
    rw [apF_length, apF_length] at hi
    rw [gi_apF (by rw [apF_length]; exact hi), gi_apF hi, gi_apF hi, gi_apF (by have := hrq i hi; omega)]
  · rw [compR_no hc] at h
    cases h
theorem compR_lens {p q : List Int} (h : (compR p q).2 = true) : p.length ≤ 64 ∧ p.length = q.length := by
  by_cases hc : goodP p = true ∧ goodP q = true ∧ p.length = q.length
  · exact ⟨(goodP_iff.1 hc.1).1, hc.2.2⟩
  · rw [compR_no hc] at h
    cases h
end Go.Proofs.Ytdhcpoeopooejaa
