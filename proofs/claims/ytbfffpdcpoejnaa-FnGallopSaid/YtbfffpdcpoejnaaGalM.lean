/- GallopSearch, in plain lists: it finds the number of smaller elements, with at most 14 comparisons. -/
import Derived.Test.YtbfffpdcpoejnaaRankM
import Derived.Test.YtbfffpdcpoejnaaGallop
namespace Go.Proofs.Ytbfffpdcpoejnaa
open Go.RowKit
set_option linter.unusedVariables false
set_option linter.unusedSimpArgs false

/-- The bounds lo, hi lie about the place of x. -/
def Brk (l : List Int) (x : Int) (lo hi : Nat) : Prop := lo ≤ hi ∧ hi ≤ l.length ∧ (∀ a, a < lo → gi l a < x) ∧ ∀ a, hi ≤ a → a < l.length → ¬ gi l a < x
set_option maxHeartbeats 8000000 in
theorem gUp_facts {l : List Int} {x : Int} {h : Nat} (ha : Asc l) (hn : l.length ≤ 64) : ∀ m s k lo c, ((s = 1 ∧ k = 1) ∨ (s = 3 ∧ k = 2) ∨ (s = 7 ∧ k = 3) ∨ (s = 15 ∧ k = 4) ∨ (s = 31 ∧ k = 5) ∨ (s = 63 ∧ k = 6) ∨ (s = 127 ∧ k = 7)) →
    lo = h + (s - 1) / 2 + 1 → lo ≤ l.length → c = k → l.length + 2 ≤ s + m → (∀ a, a < lo → gi l a < x) →
    Brk l x (gUp l x h m s lo c).1 (gUp l x h m s lo c).2.1 ∧ ∃ j, (gUp l x h m s lo c).2.1 - (gUp l x h m s lo c).1 < 2 ^ j ∧ (gUp l x h m s lo c).2.2 + j ≤ 14 ∧ 1 ≤ (gUp l x h m s lo c).2.2 := by
  intro m
  induction m with
  | zero =>
    intro s k lo c hk h1 h2 h3 h4 h5
    rw [gUp]
    dsimp only
    refine ⟨⟨h2, Nat.le_refl _, h5, fun a h6 h7 => by omega⟩, k - 1, ?_, by omega, by omega⟩
    rcases hk with ⟨rfl, rfl⟩ | ⟨rfl, rfl⟩ | ⟨rfl, rfl⟩ | ⟨rfl, rfl⟩ | ⟨rfl, rfl⟩ | ⟨rfl, rfl⟩ | ⟨rfl, rfl⟩ <;> simp at h1 ⊢ <;> omega
  | succ m ih =>
    intro s k lo c hk h1 h2 h3 h4 h5
    by_cases hs : h + s < l.length
    · by_cases hx : gi l (h + s) < x
      · rw [gUp_lt hs hx]
        refine ih (2 * s + 1) (k + 1) (h + s + 1) (c + 1) (by omega) (by omega) (by omega) (by omega) (by omega) (fun a h6 => ?_)
        by_cases e : a = h + s
        · rw [e]; exact hx
        · exact Int.lt_of_le_of_lt (ha a (h + s) (by omega) hs) hx
      · rw [gUp_ge hs hx]
        dsimp only
        refine ⟨⟨by omega, by omega, h5, fun a h6 h7 => ?_⟩, k - 1, ?_, by omega, by omega⟩
        · by_cases e : a = h + s
          · rw [e]; exact hx
          · have := ha (h + s) a (by omega) h7; omega
        · rcases hk with ⟨rfl, rfl⟩ | ⟨rfl, rfl⟩ | ⟨rfl, rfl⟩ | ⟨rfl, rfl⟩ | ⟨rfl, rfl⟩ | ⟨rfl, rfl⟩ | ⟨rfl, rfl⟩ <;> simp at h1 ⊢ <;> omega
    · rw [gUp_stop hs]
      dsimp only
      refine ⟨⟨h2, Nat.le_refl _, h5, fun a h6 h7 => by omega⟩, k - 1, ?_, by omega, by omega⟩
      rcases hk with ⟨rfl, rfl⟩ | ⟨rfl, rfl⟩ | ⟨rfl, rfl⟩ | ⟨rfl, rfl⟩ | ⟨rfl, rfl⟩ | ⟨rfl, rfl⟩ | ⟨rfl, rfl⟩ <;> simp at h1 ⊢ <;> omega
set_option maxHeartbeats 8000000 in
theorem gDn_facts {l : List Int} {x : Int} {h : Nat} (ha : Asc l) (hn : l.length ≤ 64) (hh : h < l.length) : ∀ m s k hi c, ((s = 1 ∧ k = 1) ∨ (s = 3 ∧ k = 2) ∨ (s = 7 ∧ k = 3) ∨ (s = 15 ∧ k = 4) ∨ (s = 31 ∧ k = 5) ∨ (s = 63 ∧ k = 6) ∨ (s = 127 ∧ k = 7)) →
    hi + (s - 1) / 2 = h → c = k → l.length + 2 ≤ s + m → (∀ a, hi ≤ a → a < l.length → ¬ gi l a < x) →
    Brk l x (gDn l x h m s hi c).1 (gDn l x h m s hi c).2.1 ∧ ∃ j, (gDn l x h m s hi c).2.1 - (gDn l x h m s hi c).1 < 2 ^ j ∧ (gDn l x h m s hi c).2.2 + j ≤ 14 ∧ 1 ≤ (gDn l x h m s hi c).2.2 := by
  intro m
  induction m with
  | zero =>
    intro s k hi c hk h1 h3 h4 h5
    rw [gDn]
    dsimp only
    refine ⟨⟨by omega, by omega, fun a h6 => by omega, h5⟩, k - 1, ?_, by omega, by omega⟩
    rcases hk with ⟨rfl, rfl⟩ | ⟨rfl, rfl⟩ | ⟨rfl, rfl⟩ | ⟨rfl, rfl⟩ | ⟨rfl, rfl⟩ | ⟨rfl, rfl⟩ | ⟨rfl, rfl⟩ <;> simp at h1 ⊢ <;> omega
  | succ m ih =>
    intro s k hi c hk h1 h3 h4 h5
    by_cases hs : s ≤ h
    · by_cases hx : gi l (h - s) < x
      · rw [gDn_lt hs hx]
        dsimp only
        refine ⟨⟨by omega, by omega, fun a h6 => ?_, h5⟩, k - 1, ?_, by omega, by omega⟩
        · by_cases e : a = h - s
          · rw [e]; exact hx
          · exact Int.lt_of_le_of_lt (ha a (h - s) (by omega) (by omega)) hx
        · rcases hk with ⟨rfl, rfl⟩ | ⟨rfl, rfl⟩ | ⟨rfl, rfl⟩ | ⟨rfl, rfl⟩ | ⟨rfl, rfl⟩ | ⟨rfl, rfl⟩ | ⟨rfl, rfl⟩ <;> simp at h1 ⊢ <;> omega
      · rw [gDn_ge hs hx]
        refine ih (2 * s + 1) (k + 1) (h - s) (c + 1) (by omega) (by omega) (by omega) (by omega) (fun a h6 h7 => ?_)
        by_cases e : a = h - s
        · rw [e]; exact hx
        · have := ha (h - s) a (by omega) h7; omega
    · rw [gDn_stop hs]
      dsimp only
      refine ⟨⟨by omega, by omega, fun a h6 => by omega, h5⟩, k - 1, ?_, by omega, by omega⟩
      rcases hk with ⟨rfl, rfl⟩ | ⟨rfl, rfl⟩ | ⟨rfl, rfl⟩ | ⟨rfl, rfl⟩ | ⟨rfl, rfl⟩ | ⟨rfl, rfl⟩ | ⟨rfl, rfl⟩ <;> simp at h1 ⊢ <;> omega
theorem gBin_facts {l : List Int} {x : Int} (ha : Asc l) : ∀ m lo hi c j, Brk l x lo hi → hi - lo ≤ m → hi - lo < 2 ^ j → Brk l x (gBin l x m lo hi c).1 (gBin l x m lo hi c).1 ∧ c ≤ (gBin l x m lo hi c).2 ∧ (gBin l x m lo hi c).2 ≤ c + j := by
  intro m
  induction m with
  | zero =>
    intro lo hi c j hb h1 h2
    rw [gBin]
    obtain ⟨b1, b2, b3, b4⟩ := hb
    obtain rfl : lo = hi := by omega
    exact ⟨⟨Nat.le_refl _, b2, b3, b4⟩, Nat.le_refl _, by dsimp only; omega⟩
  | succ m ih =>
    intro lo hi c j hb h1 h2
    obtain ⟨b1, b2, b3, b4⟩ := hb
    by_cases h : lo < hi
    · obtain ⟨j', rfl⟩ : ∃ j', j = j' + 1 := by
        cases j with
        | zero => simp at h2; omega
        | succ j' => exact ⟨j', rfl⟩
      rw [Nat.pow_succ] at h2
      by_cases hx : gi l ((lo + hi) / 2) < x
      · rw [gBin_lt h hx]
        obtain ⟨p1, p2, p3⟩ := ih ((lo + hi) / 2 + 1) hi (c + 1) j' ⟨by omega, b2, fun a h6 => by
          by_cases e : a = (lo + hi) / 2
          · rw [e]; exact hx
          · exact Int.lt_of_le_of_lt (ha a ((lo + hi) / 2) (by omega) (by omega)) hx, b4⟩ (by omega) (by omega)
        exact ⟨p1, by omega, by omega⟩
      · rw [gBin_ge h hx]
        obtain ⟨p1, p2, p3⟩ := ih lo ((lo + hi) / 2) (c + 1) j' ⟨by omega, by omega, b3, fun a h6 h7 => by
          by_cases e : a = (lo + hi) / 2
          · rw [e]; exact hx
          · have := ha ((lo + hi) / 2) a (by omega) h7; omega⟩ (by omega) (by omega)
        exact ⟨p1, by omega, by omega⟩
    · rw [gBin_stop h]
      obtain rfl : lo = hi := by omega
      exact ⟨⟨Nat.le_refl _, b2, b3, b4⟩, Nat.le_refl _, by dsimp only; omega⟩
theorem brk_count {l : List Int} {x : Int} {p : Nat} (h : Brk l x p p) : lessC x l = p := by
  obtain ⟨_, hp, h1, h2⟩ := h
  have e : l = l.take p ++ l.drop p := (List.take_append_drop p l).symm
  have e1 : lessC x (l.take p) = p := by
    unfold lessC
    have : (l.take p).countP (fun y => decide (y < x)) = (l.take p).length := by
      rw [List.countP_eq_length]
      intro y hy
      obtain ⟨j, hj, rfl⟩ := List.getElem_of_mem hy
      simp at hj
      have := h1 j (by omega)
      rw [gi_eq (show j < l.length by omega)] at this
      simpa using this
    rw [this]; simp; omega
  have e2 : lessC x (l.drop p) = 0 := by
    unfold lessC
    rw [List.countP_eq_zero]
    intro y hy
    obtain ⟨j, hj, rfl⟩ := List.getElem_of_mem hy
    simp at hj
    have := h2 (p + j) (by omega) (by omega)
    rw [gi_eq (by omega)] at this
    rw [List.getElem_drop]
    simpa using this
  conv => lhs; rw [e]
  rw [lessC_app]
  omega
theorem galF_facts {l : List Int} {x : Int} {h : Nat} (ha : Asc l) (hn : l.length ≤ 64) (hh : h < l.length) : (galF l x h).1 = lessC x l ∧ 1 ≤ (galF l x h).2 ∧ (galF l x h).2 ≤ 14 := by
  have hst : Brk l x (gSt l x h).1 (gSt l x h).2.1 ∧ ∃ j, (gSt l x h).2.1 - (gSt l x h).1 < 2 ^ j ∧ (gSt l x h).2.2 + j ≤ 14 ∧ 1 ≤ (gSt l x h).2.2 := by
    unfold gSt
    by_cases hx : gi l h < x
    · rw [if_pos hx]
      refine gUp_facts ha hn _ 1 1 (h + 1) 1 (.inl ⟨rfl, rfl⟩) (by omega) (by omega) rfl (by omega) (fun a h6 => ?_)
      by_cases e : a = h
      · rw [e]; exact hx
      · exact Int.lt_of_le_of_lt (ha a h (by omega) hh) hx
    · rw [if_neg hx]
      refine gDn_facts ha hn hh _ 1 1 h 1 (.inl ⟨rfl, rfl⟩) (by omega) rfl (by omega) (fun a h6 h7 => ?_)
      by_cases e : a = h
      · rw [e]; exact hx
      · have := ha h a (by omega) h7; omega
  obtain ⟨hb, j, h1, h2, h3⟩ := hst
  have hl := hb.2.1
  obtain ⟨p1, p2, p3⟩ := gBin_facts ha l.length _ _ (gSt l x h).2.2 j hb (by omega) h1
  unfold galF
  exact ⟨(brk_count p1).symm, by omega, by omega⟩
/-- What FnGallop asks. -/
theorem galR_yes {l : List Int} {x h : Int} (hk : (galR l x h).2.2 = true) : l.length ≤ 64 ∧ 0 ≤ h ∧ h < (l.length : Int) ∧ (galR l x h).1 = lessC x l ∧ 1 ≤ (galR l x h).2.1 ∧ (galR l x h).2.1 ≤ 14 ∧
    (galR l x ((l.length : Int) - 1 - h)).2.2 = true ∧ (galR l x ((l.length : Int) - 1 - h)).1 = lessC x l := by
  unfold galR at hk ⊢
  by_cases hb : galB l x h = true
  · rw [if_pos hb]
    have hb0 := hb
    simp only [galB, Bool.and_eq_true, Bool.not_eq_true', decide_eq_false_iff_not] at hb
    obtain ⟨⟨⟨h1, h2⟩, h3⟩, h4⟩ := hb
    have h5 := inB_iff.1 h4
    have ha : Asc l := asc_of_adj (descF_neg.1 (by omega))
    have hn := (vlist_iff.1 h1).1
    have hb2 : galB l x ((l.length : Int) - 1 - h) = true := by
      simp only [galB, Bool.and_eq_true, Bool.not_eq_true', decide_eq_false_iff_not]
      exact ⟨⟨⟨h1, h2⟩, h3⟩, inB_iff.2 ⟨by omega, by omega⟩⟩
    rw [if_pos hb2]
    obtain ⟨f1, f2, f3⟩ := galF_facts (x := x) ha hn (h := h.toNat) (by omega)
    obtain ⟨g1, g2, g3⟩ := galF_facts (x := x) ha hn (h := ((l.length : Int) - 1 - h).toNat) (by omega)
    exact ⟨hn, by omega, by omega, f1, f2, f3, rfl, g1⟩
  · rw [if_neg hb] at hk
    cases hk
theorem galR_no {l : List Int} {x h : Int} (hk : (galR l x h).2.2 = false) : (galR l x h).1 = 0 ∧ (galR l x h).2.1 = 0 := by
  unfold galR at hk ⊢
  split at hk
  · cases hk
  · rename_i hb; rw [if_neg hb]; exact ⟨rfl, rfl⟩
theorem lessC_take {l : List Int} {x : Int} {i : Nat} (h : i < l.length) : lessC x (l.take (i + 1)) = lessC x (l.take i) + if gi l i < x then 1 else 0 := by
  rw [List.take_succ_eq_append_getElem h, lessC_app, ← gi_eq h, lessC_cons]
  simp [lessC]
end Go.Proofs.Ytbfffpdcpoejnaa
