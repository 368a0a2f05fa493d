/- The stable sorting permutation, in plain lists, as it is found by insertion. No program. -/
import Derived.Test.YtdhcpoeopooejaaStbM
import Derived.Test.YtdhcpoeopooejaaBin
import Derived.Test.YtdhcpoeopooejaaMSorted
namespace Go.Proofs.Ytdhcpoeopooejaa
open Go.RowKit
set_option linter.unusedVariables false
set_option linter.unusedSimpArgs false

/-- The places 0 .. n - 1. -/
def pl : Nat → List Int
  | 0 => []
  | n + 1 => pl n ++ [(n : Int)]
@[simp] theorem pl_length (n : Nat) : (pl n).length = n := by
  induction n with
  | zero => rfl
  | succ n ih => simp [pl, ih]
theorem gi_pl {n i : Nat} (h : i < n) : gi (pl n) i = (i : Int) := by
  induction n with
  | zero => omega
  | succ n ih =>
    rw [pl]
    by_cases e : i < n
    · rw [gi_app (by simpa using e)]; exact ih e
    · obtain rfl : i = n := by omega
      simp [gi]
/-- The comparison of two places by what stands there. -/
def cvL (x : List Int) (a b : Int) : Int := cmpI (gi x a.toNat) (gi x b.toNat)
theorem cvL_pre (x : List Int) : Pre (cvL x) := by
  refine ⟨fun a b => ?_, fun a b c h1 h2 => ?_⟩
  · unfold cvL cmpI
    split <;> split <;> (try split) <;> (try split) <;> omega
  · unfold cvL cmpI at *
    generalize gi x a.toNat = p at *
    generalize gi x b.toNat = q at *
    generalize gi x c.toNat = r at *
    by_cases e : r < p
    · exfalso
      by_cases e1 : q < p
      · rw [if_neg (by omega), if_pos e1] at h1; omega
      · rw [if_neg (by omega), if_pos (show q > r by omega)] at h2; omega
    · by_cases e2 : p < r
      · rw [if_pos e2]; omega
      · rw [if_neg e2, if_neg (by omega)]; omega
theorem cvL_le {x : List Int} {a b : Int} : cvL x a b ≤ 0 ↔ gi x a.toNat ≤ gi x b.toNat := by
  unfold cvL cmpI
  split
  · omega
  · split <;> omega
theorem cvL_lt {x : List Int} {a b : Int} : cvL x a b < 0 ↔ gi x a.toNat < gi x b.toNat := by
  unfold cvL cmpI
  split
  · omega
  · split <;> omega
/-- Where value v goes among the first m places of out. -/
def posW (x out : List Int) (v : Int) : Nat → Nat
  | 0 => 0
  | k + 1 => if gi x (gi out k).toNat > v then posW x out v k else k + 1
theorem posW_facts (x out : List Int) (v : Int) : ∀ m, posW x out v m ≤ m ∧ (∀ j, posW x out v m ≤ j → j < m → gi x (gi out j).toNat > v) ∧ (posW x out v m = 0 ∨ gi x (gi out (posW x out v m - 1)).toNat ≤ v) := by
  intro m
  induction m with
  | zero => exact ⟨Nat.le_refl _, fun j h1 h2 => by omega, .inl rfl⟩
  | succ m ih =>
    rw [posW]
    split
    · rename_i h
      refine ⟨by omega, fun j h1 h2 => ?_, ih.2.2⟩
      by_cases e : j = m
      · rw [e]; exact h
      · exact ih.2.1 j h1 (by omega)
    · rename_i h
      exact ⟨Nat.le_refl _, fun j h1 h2 => by omega, .inr (by rw [Nat.add_sub_cancel]; omega)⟩
/-- The places 0 .. i - 1, inserted one by one. -/
def srtK (x : List Int) : Nat → List Int
  | 0 => []
  | i + 1 => insAt (srtK x i) (posW x (srtK x i) (gi x i) i) (i : Int)
theorem gi_insAt3 {l : List Int} {p : Nat} {x : Int} (hp : p ≤ l.length) (i : Nat) : gi (insAt l p x) i = if i < p then gi l i else if i = p then x else gi l (i - 1) := by
  unfold insAt gi
  rw [List.getD_eq_getElem?_getD, List.getD_eq_getElem?_getD, List.getD_eq_getElem?_getD]
  by_cases h1 : i < p
  · rw [if_pos h1, List.getElem?_append_left (by simp; omega), List.getElem?_take, if_pos h1]
  · rw [if_neg h1, List.getElem?_append_right (by simp; omega)]
    have hm : min p l.length = p := by omega
    simp only [List.length_take, hm]
    by_cases h2 : i = p
    · subst h2; rw [if_pos rfl]; simp
    · rw [if_neg h2]
      obtain ⟨d, hd⟩ : ∃ d, i - p = d + 1 := ⟨i - p - 1, by omega⟩
      rw [hd, List.getElem?_cons_succ, List.getElem?_drop]
      congr 2; omega
theorem insAt_perm3 (l : List Int) (p : Nat) (x : Int) : (insAt l p x).Perm (x :: l) := by
  unfold insAt
  have := List.perm_middle (a := x) (l₁ := l.take p) (l₂ := l.drop p)
  rwa [List.take_append_drop] at this
theorem srtK_perm (x : List Int) (i : Nat) : (srtK x i).Perm (pl i) := by
  induction i with
  | zero => exact List.Perm.refl _
  | succ i ih =>
    rw [srtK, pl]
    exact (insAt_perm3 _ _ _).trans ((List.Perm.cons _ ih).trans (List.perm_append_singleton _ _).symm)
theorem srtK_length (x : List Int) (i : Nat) : (srtK x i).length = i := by rw [(srtK_perm x i).length_eq]; simp
theorem perm_pl_range {L : List Int} {n : Nat} (h : L.Perm (pl n)) {j : Nat} (hj : j < n) : 0 ≤ gi L j ∧ gi L j < (n : Int) := by
  have hl : L.length = n := by rw [h.length_eq]; simp
  have hm : gi L j ∈ pl n := h.subset (by rw [gi_eq (by omega)]; exact List.getElem_mem _)
  obtain ⟨k, hk, he⟩ := List.getElem_of_mem hm
  simp at hk
  rw [← gi_eq (by simpa using hk), gi_pl hk] at he
  omega
theorem srtK_srt (x : List Int) (i : Nat) : Srt (cvL x) (srtK x i) 0 i := by
  induction i with
  | zero => exact Srt.one _ _ (by omega)
  | succ i ih =>
    have hl := srtK_length x i
    have hr : ∀ j, j < i → 0 ≤ gi (srtK x i) j ∧ gi (srtK x i) j < (i : Int) := fun j hj => perm_pl_range (srtK_perm x i) hj
    obtain ⟨p1, p2, p3⟩ := posW_facts x (srtK x i) (gi x i) i
    rw [srtK]
    generalize posW x (srtK x i) (gi x i) i = p at *
    generalize srtK x i = L at *
    have hb : ∀ a, a < p → ll (cvL x) (gi L a) (i : Int) := fun a ha => by
      have h1 : gi x (gi L a).toNat ≤ gi x i := by
        rcases p3 with rfl | p3
        · omega
        · by_cases e : a = p - 1
          · rw [e]; exact p3
          · have := ih a (p - 1) (Nat.zero_le _) (by omega) (by omega)
            have h2 : cvL x (gi L a) (gi L (p - 1)) ≤ 0 := by rcases this with g | g <;> omega
            exact Int.le_trans (cvL_le.1 h2) p3
      have h3 : cvL x (gi L a) (i : Int) ≤ 0 := cvL_le.2 (by rw [Int.toNat_natCast]; exact h1)
      rcases Int.lt_or_eq_of_le h3 with g | g
      · exact .inl g
      · exact .inr ⟨g, (hr a (by omega)).2⟩
    have ha : ∀ b, p ≤ b → b < i → ll (cvL x) (i : Int) (gi L b) := fun b h1 h2 => .inl (cvL_lt.2 (by rw [Int.toNat_natCast]; exact p2 b h1 h2))
    intro a b _ h2 h3
    rw [gi_insAt3 (by omega), gi_insAt3 (by omega)]
    by_cases e1 : b < p
    · rw [if_pos (by omega), if_pos e1]; exact ih a b (Nat.zero_le _) h2 (by omega)
    · rw [if_neg e1]
      by_cases e2 : b = p
      · rw [if_pos e2, if_pos (by omega)]; exact hb a (by omega)
      · rw [if_neg e2]
        by_cases e3 : a < p
        · rw [if_pos e3]
          by_cases e4 : a < b - 1
          · exact ih a (b - 1) (Nat.zero_le _) e4 (by omega)
          · omega
        · rw [if_neg e3]
          by_cases e4 : a = p
          · rw [if_pos e4]; exact ha (b - 1) (by omega) (by omega)
          · rw [if_neg e4]; exact ih (a - 1) (b - 1) (Nat.zero_le _) (by omega) (by omega)
/-- Whatever arrangement of the places is in stable order is this one. -/
theorem srtK_unique {x D : List Int} {n : Nat} (hp : D.Perm (pl n)) (hs : Srt (cvL x) D 0 n) : D = srtK x n := by
  have hl : D.length = n := by rw [hp.length_eq]; simp
  exact srt_unique (cvL_pre x) (by rw [hl]; exact hs) (by rw [srtK_length]; exact srtK_srt x n) (hp.trans (srtK_perm x n).symm)
/-- The result of SortingPermutation. -/
def srR (x : List Int) : List Int × Bool := if vlist x then (srtK x x.length, true) else ([], false)
theorem srR_len (x : List Int) : (srR x).1.length ≤ 100000000000 := by
  unfold srR
  split
  · rename_i h
    have := (vlist_iff.1 h).1
    dsimp only
    rw [srtK_length]; omega
  · simp
end Go.Proofs.Ytdhcpoeopooejaa
