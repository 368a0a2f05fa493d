/- Insertion, with a gap and binary, in plain lists: it sorts, and how often it compares. -/
import Derived.Test.YtdhcpoeopooejaaRankM
import Derived.Test.YtdhcpoeopooejaaInsSort
import Derived.Test.YtdhcpoeopooejaaBin
import Derived.Test.YtdhcpoeopooejaaShell
namespace Go.Proofs.Ytdhcpoeopooejaa
open Go.RowKit
set_option linter.unusedVariables false
set_option linter.unusedSimpArgs false

theorem asc_pairwise {l : List Int} (h : Asc l) : l.Pairwise (· ≤ ·) := by
  rw [List.pairwise_iff_getElem]
  intro i j hi hj hij
  have := h i j hij hj
  rwa [gi_eq hi, gi_eq hj] at this
/-- Two ascending arrangements of the same elements are the same. -/
theorem asc_unique {a b : List Int} (ha : Asc a) (hb : Asc b) (h : a.Perm b) : a = b :=
  h.eq_of_pairwise (fun x y _ _ h1 h2 => Int.le_antisymm h1 h2) (asc_pairwise ha) (asc_pairwise hb)
theorem set_gi (l : List Int) (k : Nat) : l.set k (gi l k) = l := by
  apply gi_ext (by simp)
  intro i hi
  rw [List.length_set] at hi
  by_cases h : k < l.length
  · rw [gi_set h]
    split
    · rename_i e; rw [e]
    · rfl
  · rw [List.set_eq_of_length_le (by omega)]
/-- One step of an element X that sinks, seen as an exchange. -/
theorem sink_swp (l : List Int) (m k : Nat) (X : Int) (hmk : m < k) (hk : k < l.length) : (l.set k (gi l m)).set m X = swp (l.set k X) m k := by
  apply gi_ext (by simp)
  intro i hi
  simp at hi
  rw [gi_set (by simp; omega), gi_set hk, gi_swp (by simp; omega) (by simpa using hk), gi_set hk, gi_set hk, gi_set hk]
  by_cases e1 : m = i
  · subst e1
    rw [if_pos rfl, if_neg (by omega), if_pos rfl, if_pos rfl]
  · rw [if_neg e1]
    by_cases e2 : k = i
    · subst e2
      rw [if_pos rfl, if_pos rfl, if_neg (by omega)]
    · rw [if_neg e2, if_neg (Ne.symm e2), if_neg (Ne.symm e1), if_neg e2]
theorem insW_perm (X : Int) (g : Nat) (hg : 1 ≤ g) : ∀ f l k c m, k < l.length →
    ((insW X g f l k c m).1.set (insW X g f l k c m).2.1 X).Perm (l.set k X) ∧ (insW X g f l k c m).2.1 ≤ k ∧ ((insW X g f l k c m).2.1 = k → (insW X g f l k c m).1 = l) := by
  intro f
  induction f with
  | zero => intro l k c m hk; exact ⟨List.Perm.refl _, Nat.le_refl _, fun _ => rfl⟩
  | succ f ih =>
    intro l k c m hk
    by_cases h1 : g ≤ k
    · by_cases h2 : gi l (k - g) ≤ X
      · rw [insW_hit h1 h2]; exact ⟨List.Perm.refl _, Nat.le_refl _, fun _ => rfl⟩
      · rw [insW_go h1 h2]
        obtain ⟨p1, p2, p3⟩ := ih (l.set k (gi l (k - g))) (k - g) (c + 1) (m + 1) (by simp; omega)
        refine ⟨p1.trans ?_, by omega, fun e => by omega⟩
        rw [sink_swp l (k - g) k X (by omega) hk]
        exact swp_perm (by omega) (by simpa using hk)
    · rw [insW_stop h1]; exact ⟨List.Perm.refl _, Nat.le_refl _, fun _ => rfl⟩
/-- The list behind a step. -/
theorem gapStep_list (g : Nat) (s : List Int × Nat × Nat) (i : Nat) (hi : i < s.1.length) (hg : 1 ≤ g) :
    (gapStep g s i).1 = (insW (gi s.1 i) g (i + 1) s.1 i s.2.1 s.2.2).1.set (insW (gi s.1 i) g (i + 1) s.1 i s.2.1 s.2.2).2.1 (gi s.1 i) ∧ (gapStep g s i).2.1 = (insW (gi s.1 i) g (i + 1) s.1 i s.2.1 s.2.2).2.2.1 := by
  obtain ⟨p1, p2, p3⟩ := insW_perm (gi s.1 i) g hg (i + 1) s.1 i s.2.1 s.2.2 hi
  rw [gapStep, insEnd]
  split
  · exact ⟨rfl, rfl⟩
  · rename_i h
    have e : (insW (gi s.1 i) g (i + 1) s.1 i s.2.1 s.2.2).2.1 = i := by omega
    refine ⟨?_, rfl⟩
    rw [e, p3 e, set_gi]
theorem gapK_perm (g : Nat) (hg : 1 ≤ g) (l : List Int) : ∀ j, g + j ≤ l.length ∨ j = 0 → (gapK g l j).1.Perm l := by
  intro j
  induction j with
  | zero => intro _; exact List.Perm.refl _
  | succ j ih =>
    intro h
    have h1 := ih (by omega)
    rw [gapK, (gapStep_list g _ _ (by rw [gapK_length]; omega) hg).1]
    refine (insW_perm _ g hg _ _ _ _ _ (by rw [gapK_length]; omega)).1.trans ?_
    rw [set_gi]; exact h1
theorem gapF_perm (g : Nat) (hg : 1 ≤ g) (l : List Int) : (gapF g l).1.Perm l := gapK_perm g hg l _ (by omega)
theorem insW_one (X : Int) : ∀ f l k c m i, k < f → i < l.length → k ≤ i → AscX (l.set k X) i k →
    (∀ a b, a < b → b < i + 1 → gi ((insW X 1 f l k c m).1.set (insW X 1 f l k c m).2.1 X) a ≤ gi ((insW X 1 f l k c m).1.set (insW X 1 f l k c m).2.1 X) b) ∧
    (insW X 1 f l k c m).2.2.1 ≤ c + k ∧ (1 ≤ k → c + 1 ≤ (insW X 1 f l k c m).2.2.1) ∧ c ≤ (insW X 1 f l k c m).2.2.1 := by
  intro f
  induction f with
  | zero => intro l k c m i h; omega
  | succ f ih =>
    intro l k c m i hf hi hk hx
    by_cases h1 : 1 ≤ k
    · obtain ⟨q, rfl⟩ : ∃ q, k = q + 1 := ⟨k - 1, by omega⟩
      have e1 : gi (l.set (q + 1) X) q = gi l q := by rw [gi_set (by omega), if_neg (by omega)]
      have e2 : gi (l.set (q + 1) X) (q + 1) = X := by rw [gi_set (by omega), if_pos rfl]
      by_cases h2 : gi l (q + 1 - 1) ≤ X
      · rw [insW_hit h1 h2]
        refine ⟨hx.done (.inr ?_), by dsimp only; omega, fun _ => Nat.le_refl _, by dsimp only; omega⟩
        rw [Nat.add_sub_cancel] at h2 ⊢
        rw [e1, e2]; exact h2
      · rw [insW_go h1 h2]
        rw [Nat.add_sub_cancel] at h2 ⊢
        have hs := hx.step hk (by simpa using hi) (by rw [e1, e2]; omega)
        rw [← sink_swp l q (q + 1) X (by omega) (by omega)] at hs
        obtain ⟨p1, p2, p3, p4⟩ := ih (l.set (q + 1) (gi l q)) q (c + 1) (m + 1) i (by omega) (by simpa using hi) (by omega) hs
        exact ⟨p1, by omega, fun _ => by omega, by omega⟩
    · rw [insW_stop h1]
      exact ⟨hx.done (.inl (by omega)), by dsimp only; omega, fun h => absurd h h1, Nat.le_refl _⟩
theorem gapK_one (l : List Int) : ∀ j, 1 + j ≤ l.length ∨ j = 0 → (∀ a b, a < b → b < j + 1 → gi (gapK 1 l j).1 a ≤ gi (gapK 1 l j).1 b) ∧ j ≤ (gapK 1 l j).2.1 ∧ 2 * (gapK 1 l j).2.1 ≤ j * (j + 1) := by
  intro j
  induction j with
  | zero => intro _; exact ⟨fun a b h1 h2 => by omega, Nat.le_refl _, by simp [gapK]⟩
  | succ j ih =>
    intro h
    obtain ⟨h1, h2, h3⟩ := ih (by omega)
    have hl := gapK_length 1 l j
    obtain ⟨e1, e2⟩ := gapStep_list 1 (gapK 1 l j) (1 + j) (by rw [hl]; omega) (Nat.le_refl _)
    have hx : AscX ((gapK 1 l j).1.set (1 + j) (gi (gapK 1 l j).1 (1 + j))) (1 + j) (1 + j) := by
      rw [set_gi]; exact AscX.start fun a b h4 h5 => h1 a b h4 (by omega)
    obtain ⟨p1, p2, p3, p4⟩ := insW_one (gi (gapK 1 l j).1 (1 + j)) (1 + j + 1) (gapK 1 l j).1 (1 + j) (gapK 1 l j).2.1 (gapK 1 l j).2.2 (1 + j) (by omega) (by rw [hl]; omega) (Nat.le_refl _) hx
    rw [gapK]
    rw [e1, e2]
    refine ⟨fun a b h4 h5 => p1 a b h4 (by omega), by have := p3 (by omega); omega, ?_⟩
    have : (j + 1) * (j + 1 + 1) = j * (j + 1) + 2 * (j + 1) := by rw [← Nat.add_mul, Nat.mul_comm]
    omega
theorem gapF_asc (l : List Int) : Asc (gapF 1 l).1 := by
  intro a b h1 h2
  rw [gapF_length] at h2
  exact (gapK_one l (l.length - 1) (by omega)).1 a b h1 (by omega)
theorem gapF_count (l : List Int) : l.length ≤ (gapF 1 l).2.1 + 1 ∧ 2 * (gapF 1 l).2.1 ≤ (l.length - 1) * l.length := by
  obtain ⟨_, h2, h3⟩ := gapK_one l (l.length - 1) (by omega)
  refine ⟨by unfold gapF; omega, ?_⟩
  unfold gapF
  cases hl : l.length with
  | zero => rw [hl] at h3; simpa using h3
  | succ n => rw [hl] at h3; simpa using h3
/-- The place that binary search finds, and how often it compares. -/
theorem binW_place (x : Int) (l : List Int) (j : Nat) (hs : ∀ a b, a < b → b < j → gi l a ≤ gi l b) : ∀ (f lo hi c b : Nat), lo ≤ hi → hi ≤ j → hi - lo < f → hi - lo < 2 ^ b → (∀ a, a < lo → gi l a ≤ x) → (∀ a, hi ≤ a → a < j → x < gi l a) →
    (∀ a, a < (binW x l f lo hi c).1 → gi l a ≤ x) ∧ (∀ a, (binW x l f lo hi c).1 ≤ a → a < j → x < gi l a) ∧ (binW x l f lo hi c).2 ≤ c + b := by
  intro f
  induction f with
  | zero => intro lo hi c b h1 h2 h3; omega
  | succ f ih =>
    intro lo hi c b h1 h2 h3 h4 h5 h6
    by_cases h : lo < hi
    · obtain ⟨b', rfl⟩ : ∃ b', b = b' + 1 := by
        cases b with
        | zero => simp at h4; omega
        | succ b' => exact ⟨b', rfl⟩
      rw [Nat.pow_succ] at h4
      by_cases hx : x < gi l ((lo + hi) / 2)
      · rw [binW_low h hx]
        obtain ⟨p1, p2, p3⟩ := ih lo ((lo + hi) / 2) (c + 1) b' (by omega) (by omega) (by omega) (by omega) h5 (fun a h7 h8 => by
          by_cases e : a = (lo + hi) / 2
          · rw [e]; exact hx
          · have := hs ((lo + hi) / 2) a (by omega) h8; omega)
        exact ⟨p1, p2, by omega⟩
      · rw [binW_high h hx]
        obtain ⟨p1, p2, p3⟩ := ih ((lo + hi) / 2 + 1) hi (c + 1) b' (by omega) h2 (by omega) (by omega) (fun a h7 => by
          by_cases e : a = (lo + hi) / 2
          · rw [e]; omega
          · have := hs a ((lo + hi) / 2) (by omega) (by omega); omega) h6
        exact ⟨p1, p2, by omega⟩
    · rw [binW_stop h]
      exact ⟨h5, fun a h7 h8 => h6 a (by dsimp only at h7; omega) h8, by dsimp only; omega⟩
theorem gi_insAt {l : List Int} {p : Nat} {x : Int} (hp : p ≤ l.length) (i : Nat) : gi (insAt l p x) i = if i < p then gi l i else if i = p then x else gi l (i - 1) := by
  unfold insAt gi
  rw [List.getD_eq_getElem?_getD, List.getD_eq_getElem?_getD, List.getD_eq_getElem?_getD]
  by_cases h1 : i < p
  · rw [if_pos h1, List.getElem?_append_left (by simp; omega), List.getElem?_take, if_pos h1]
  · rw [if_neg h1, List.getElem?_append_right (by simp; omega)]
    have hm : min p l.length = p := by omega
    simp only [List.length_take, hm]
    by_cases h2 : i = p
    · subst h2; rw [if_pos rfl]; simp
    · rw [if_neg h2]
      obtain ⟨d, hd⟩ : ∃ d, i - p = d + 1 := ⟨i - p - 1, by omega⟩
      rw [hd, List.getElem?_cons_succ, List.getElem?_drop]
      congr 2; omega
theorem insAt_perm (l : List Int) (p : Nat) (x : Int) : (insAt l p x).Perm (x :: l) := by
  unfold insAt
  have := List.perm_middle (a := x) (l₁ := l.take p) (l₂ := l.drop p)
  rwa [List.take_append_drop] at this
theorem take_gi {l : List Int} {j : Nat} (h : j < l.length) : l.take (j + 1) = l.take j ++ [gi l j] := by
  rw [List.take_succ_eq_append_getElem h, gi_eq h]
theorem binK_facts (l : List Int) (hl : l.length ≤ 64) : ∀ j, j ≤ l.length → (binK l j).1.Perm (l.take j) ∧ (∀ a b, a < b → b < j → gi (binK l j).1 a ≤ gi (binK l j).1 b) ∧ (binK l j).2 ≤ 6 * j := by
  intro j
  induction j with
  | zero => intro _; exact ⟨List.Perm.refl _, fun a b h1 h2 => by omega, Nat.le_refl _⟩
  | succ j ih =>
    intro h
    obtain ⟨h1, h2, h3⟩ := ih (by omega)
    have hlen := binK_length l j
    obtain ⟨p1, p2, p3⟩ := binW_place (gi l j) (binK l j).1 j h2 (j + 1) 0 j (binK l j).2 6 (by omega) (Nat.le_refl _) (by omega) (by omega) (fun a h => by omega) (fun a h4 h5 => by omega)
    have hb := (binW_bound (gi l j) (binK l j).1 (j + 1) 0 j (binK l j).2 (by omega)).1
    rw [binK]
    dsimp only
    refine ⟨?_, ?_, by omega⟩
    · rw [take_gi (by omega)]
      refine (insAt_perm _ _ _).trans ?_
      exact (List.Perm.cons _ h1).trans (List.perm_append_singleton _ _).symm
    · intro a b h4 h5
      generalize (binW (gi l j) (binK l j).1 (j + 1) 0 j (binK l j).2).1 = q at *
      rw [gi_insAt (by omega), gi_insAt (by omega)]
      by_cases e1 : b < q
      · rw [if_pos e1, if_pos (by omega)]; exact h2 a b h4 (by omega)
      · rw [if_neg e1]
        by_cases e2 : b = q
        · rw [if_pos e2, if_pos (by omega)]; exact p1 a (by omega)
        · rw [if_neg e2]
          by_cases e3 : a < q
          · rw [if_pos e3]
            by_cases e4 : a < b - 1
            · exact h2 a (b - 1) e4 (by omega)
            · omega
          · rw [if_neg e3]
            by_cases e4 : a = q
            · rw [if_pos e4]; exact Int.le_of_lt (p2 (b - 1) (by omega) (by omega))
            · rw [if_neg e4]; exact h2 (a - 1) (b - 1) (by omega) (by omega)
theorem shellK_perm {gs : List Int} (hg : gapsB gs = true) (x : List Int) : ∀ k, k ≤ gs.length → (shellK gs x k).1.Perm x := by
  intro k
  induction k with
  | zero => intro _; exact List.Perm.refl _
  | succ k ih =>
    intro h
    have := (gapsB_at hg).2 k (by omega)
    rw [shellK]
    exact (gapF_perm _ (by omega) _).trans (ih (by omega))
/-- Shell sort sorts. -/
theorem shellR_asc {x gs : List Int} (h : (shellR x gs).2.2 = true) : Asc (shellR x gs).1 ∧ (shellR x gs).1.Perm x := by
  unfold shellR at h ⊢
  split at h
  · rename_i hc
    rw [if_pos hc]
    simp at hc
    obtain ⟨_, hg⟩ := hc
    refine ⟨?_, shellK_perm hg x _ (Nat.le_refl _)⟩
    have h3 := hg
    simp [gapsB] at h3
    obtain ⟨_, h4, h5⟩ := h3
    have h6 := inB_iff.1 h4
    obtain ⟨k, hk⟩ : ∃ k, gs.length = k + 1 := ⟨gs.length - 1, by omega⟩
    rw [hk] at h5 ⊢
    rw [Nat.add_sub_cancel] at h5
    dsimp only
    rw [shellK, h5]
    exact gapF_asc _
  · cases h
/-- What FnInsertion asks of insertion sort. -/
theorem insR_facts {x : List Int} (h : (insR x).2.2.2 = true) : x.length ≤ 64 ∧ Asc (insR x).1 ∧ (insR x).1.Perm x ∧ x.length ≤ (insR x).2.1 + 1 ∧ 2 * (insR x).2.1 ≤ (x.length - 1) * x.length ∧
    (binR x).2.2 = true ∧ (binR x).1 = (insR x).1 ∧ (binR x).2.1 ≤ 7 * x.length := by
  unfold insR binR at *
  split at h
  · rename_i hv
    have hl := (vlist_iff.1 hv).1
    rw [if_pos hv, if_pos hv]
    obtain ⟨b1, b2, b3⟩ := binK_facts x hl x.length (Nat.le_refl _)
    rw [List.take_length] at b1
    have c1 := gapF_count x
    have p1 := gapF_perm 1 (Nat.le_refl _) x
    refine ⟨hl, gapF_asc x, p1, c1.1, c1.2, rfl, ?_, by dsimp only; omega⟩
    exact asc_unique (fun a b h1 h2 => b2 a b h1 (by rw [binK_length] at h2; exact h2)) (gapF_asc x) (b1.trans p1.symm)
  · cases h
theorem insR_no {x : List Int} (h : (insR x).2.2.2 = false) : (insR x).1 = [] ∧ (insR x).2.1 = 0 := by
  unfold insR at *
  split at h
  · cases h
  · rename_i hv
    rw [if_neg hv]; exact ⟨rfl, rfl⟩
end Go.Proofs.Ytdhcpoeopooejaa
