/- Splitting and joining undo each other; no string is less than one that is less than it (without a program). -/
import Derived.Test.YtoeonplbgbgjmaaDoorSplit
import Derived.Test.YtoeonplbgbgjmaaDoorJoin
namespace Go.Proofs.YtoeonplbgbgjmaaDoor
open Go.RowKit
set_option linter.unusedVariables false
set_option linter.unusedSimpArgs false

theorem spl_join (c : UInt8) : ∀ (l acc : List UInt8), 0 < (spl c acc l).length ∧ Lib.join (spl c acc l) [c] = acc ++ l := by
  intro l
  induction l with
  | nil => intro acc; exact ⟨by simp [spl], by rw [spl, Lib.join_one, List.append_nil]⟩
  | cons b r ih =>
    intro acc
    rw [spl]
    by_cases e : b = c
    · rw [if_pos e]
      obtain ⟨h1, h2⟩ := ih []
      refine ⟨by simp, ?_⟩
      cases hp : spl c [] r with
      | nil => rw [hp] at h1; simp at h1
      | cons p ps =>
        rw [hp, Lib.join_cons] at h2
        rw [Lib.join_cons]
        have : Lib.joinTail [c] (p :: ps) = c :: (p ++ Lib.joinTail [c] ps) := by simp [Lib.joinTail]
        rw [this, h2, e]; simp
    · rw [if_neg e]
      obtain ⟨h1, h2⟩ := ih (acc ++ [b])
      exact ⟨h1, by rw [h2]; simp⟩
theorem spl_free (c : UInt8) : ∀ (l acc : List UInt8), (∀ b ∈ acc, b ≠ c) → ∀ x ∈ spl c acc l, ∀ b ∈ x, b ≠ c := by
  intro l
  induction l with
  | nil => intro acc h x hx; simp [spl] at hx; subst hx; exact h
  | cons b r ih =>
    intro acc h x hx
    rw [spl] at hx
    by_cases e : b = c
    · rw [if_pos e, List.mem_cons] at hx
      rcases hx with rfl | hx
      · exact h
      · exact ih [] (by simp) x hx
    · rw [if_neg e] at hx
      exact ih (acc ++ [b]) (by
        intro y hy
        rcases List.mem_append.1 hy with hy | hy
        · exact h y hy
        · rw [List.mem_singleton] at hy; rw [hy]; exact e) x hx
/-- Joining the parts of a string gives the string. -/
theorem jnR_srR {s sep : ByteArray} (h : sep.size = 1) (h2 : s.size ≤ 4000) : jnR (srR s sep).1 sep = (s, true) := by
  rw [srR_yes h h2]
  obtain ⟨c, rfl⟩ : ∃ c, sep = ⟨#[c]⟩ := ⟨_, sepOneJ h⟩
  have hc : ((⟨#[c]⟩ : ByteArray)[0]'(by show 0 < 1; omega)) = c := rfl
  dsimp only
  rw [hc]
  obtain ⟨h3, h4⟩ := spl_join c s.data.toList []
  have hpl : (parts c s).length = (spl c [] s.data.toList).length := by simp [parts]
  have hmap : (parts c s).map (·.data.toList) = spl c [] s.data.toList := by
    unfold parts
    rw [List.map_map]
    conv => rhs; rw [← List.map_id (spl c [] s.data.toList)]
    apply List.map_congr_left
    intro x _
    simp [strB]
  have hj : jK (parts c s) ⟨#[c]⟩ (parts c s).length = s := by
    rw [← jK_all _ _ (by omega), hmap]
    show (⟨(Lib.join (spl c [] s.data.toList) [c]).toArray⟩ : ByteArray) = s
    rw [h4]
    cases s; simp
  have hsz : (parts c s).length - 1 + szSTo (parts c s) (parts c s).length ≤ 4000 := by
    obtain ⟨m, hm⟩ : ∃ m, (parts c s).length = m + 1 := ⟨(parts c s).length - 1, by omega⟩
    have h5 := jK_size (parts c s) ⟨#[c]⟩ rfl m
    rw [← hm, hj] at h5
    omega
  have hok : okJ (parts c s) c = true := okJ_true hsz fun i hi => hasC_false fun k hk => by
    have hm : (parts c s)[i] ∈ parts c s := List.getElem_mem hi
    have h6 : (gs (parts c s) i).data.toList ∈ spl c [] s.data.toList := by
      rw [gs_eq hi, ← hmap]
      exact List.mem_map_of_mem hm
    exact spl_free c s.data.toList [] (by simp) _ h6 _ (by
      show (gs (parts c s) i).data[k] ∈ _
      simp)
  unfold jnR
  rw [dif_pos (show (⟨#[c]⟩ : ByteArray).size = 1 from rfl), hc, if_pos ⟨by omega, hok⟩, hj]
theorem less_asymm : ∀ (a b : List UInt8), Op.bytesLess a b = true → Op.bytesLess b a = false := by
  intro a
  induction a with
  | nil => intro b h; cases b <;> simp [Op.bytesLess] at h ⊢
  | cons x a ih =>
    intro b h
    cases b with
    | nil => simp [Op.bytesLess] at h
    | cons y b =>
      rw [Op.bytesLess] at h ⊢
      simp only [Bool.or_eq_true, decide_eq_true_eq, Bool.and_eq_true, beq_iff_eq] at h
      rcases h with h | ⟨rfl, h⟩
      · have h1 : x.toNat < y.toNat := UInt8.lt_iff_toNat_lt.1 h
        have h2 : ¬ y < x := fun k => by have := UInt8.lt_iff_toNat_lt.1 k; omega
        have h3 : (y == x) = false := by rw [beq_eq_false_iff_ne]; rintro rfl; omega
        simp [h2, h3]
      · have h2 : ¬ x < x := fun k => by have := UInt8.lt_iff_toNat_lt.1 k; omega
        simp [h2, ih b h]
end Go.Proofs.YtoeonplbgbgjmaaDoor
