/- Blocks that are sorted by themselves, in plain lists. No program. -/
import Derived.Test.YtoeonplbgbgjmaaDoorStbM
namespace Go.Proofs.YtoeonplbgbgjmaaDoor
open Go.RowKit
set_option linter.unusedVariables false
set_option linter.unusedSimpArgs false

/-- Places lo .. hi - 1 hold places of their own blocks of bs, each block in order. -/
def Lv (cv : Int → Int → Int) (D : List Int) (bs lo hi : Nat) : Prop :=
  (∀ i, lo ≤ i → i < hi → 0 ≤ gi D i ∧ (gi D i).toNat / bs = i / bs) ∧ ∀ i j, lo ≤ i → i < j → j < hi → i / bs = j / bs → ll cv (gi D i) (gi D j)
theorem Lv.none (cv : Int → Int → Int) (D : List Int) (bs lo : Nat) : Lv cv D bs lo lo := ⟨fun i h1 h2 => by omega, fun i j h1 h2 h3 => by omega⟩
/-- One more block of 20, sorted by insertion. -/
theorem Lv.first {cv : Int → Int → Int} {D D' : List Int} {a e t n : Nat} (h : Lv cv D 20 0 a) (ha : a = 20 * t) (he : a ≤ e) (he2 : e ≤ a + 20) (hen : e ≤ n) (hid : ∀ i, a ≤ i → i < n → gi D i = (i : Int)) (hm : Mv D D' a e) (hs : Srt cv D' a e) : Lv cv D' 20 0 e := by
  refine ⟨fun i h1 h2 => ?_, fun i j h1 h2 h3 h4 => ?_⟩
  · by_cases e1 : i < a
    · rw [hm.out i (.inl e1)]; exact h.1 i h1 e1
    · obtain ⟨i', g1, g2, g3⟩ := hm.ins i (by omega) h2
      rw [g3, hid i' g1 (by omega)]
      omega
  · by_cases e1 : j < a
    · rw [hm.out i (.inl (by omega)), hm.out j (.inl e1)]; exact h.2 i j h1 h2 e1 h4
    · by_cases e2 : i < a
      · omega
      · exact hs i j (by omega) h2 h3
theorem Lv.congr {cv : Int → Int → Int} {D D' : List Int} {bs lo hi : Nat} (h : Lv cv D bs lo hi) (he : ∀ i, lo ≤ i → i < hi → gi D' i = gi D i) : Lv cv D' bs lo hi :=
  ⟨fun i h1 h2 => by rw [he i h1 h2]; exact h.1 i h1 h2, fun i j h1 h2 h3 h4 => by rw [he i h1 (by omega), he j (by omega) h3]; exact h.2 i j h1 h2 h3 h4⟩
theorem Lv.mono {cv : Int → Int → Int} {D : List Int} {bs lo hi lo' hi' : Nat} (h : Lv cv D bs lo hi) (h1 : lo ≤ lo') (h2 : hi' ≤ hi) : Lv cv D bs lo' hi' :=
  ⟨fun i g1 g2 => h.1 i (by omega) (by omega), fun i j g1 g2 g3 g4 => h.2 i j (by omega) g2 (by omega) g4⟩
/-- What a merge asks of two neighbouring blocks. -/
theorem Lv.pair {cv : Int → Int → Int} {D : List Int} {bs a e n u : Nat} (hbs : bs = 20 ∨ bs = 40) (h : Lv cv D bs a n) (ha : a = 2 * bs * u) (he : e ≤ a + 2 * bs) (he1 : a + bs < e) (hen : e ≤ n) : Srt cv D a (a + bs) ∧ Srt cv D (a + bs) e ∧ Xs D a (a + bs) e := by
  rcases hbs with rfl | rfl
  · refine ⟨fun i j h1 h2 h3 => h.2 i j h1 h2 (by omega) (by omega), fun i j h1 h2 h3 => h.2 i j (by omega) h2 (by omega) (by omega), fun i j h1 h2 h3 h4 => ?_⟩
    have k1 := h.1 i h1 (by omega)
    have k2 := h.1 j (by omega) (by omega)
    omega
  · refine ⟨fun i j h1 h2 h3 => h.2 i j h1 h2 (by omega) (by omega), fun i j h1 h2 h3 => h.2 i j (by omega) h2 (by omega) (by omega), fun i j h1 h2 h3 h4 => ?_⟩
    have k1 := h.1 i h1 (by omega)
    have k2 := h.1 j (by omega) (by omega)
    omega
/-- Two blocks merged are one of the next size. -/
theorem Lv.merged {cv : Int → Int → Int} {D D' : List Int} {bs a e n u : Nat} (hbs : bs = 20 ∨ bs = 40) (h1 : Lv cv D (2 * bs) 0 a) (h : Lv cv D bs a n) (ha : a = 2 * bs * u) (he : e ≤ a + 2 * bs) (hae : a ≤ e) (hen : e ≤ n) (hm : Mv D D' a e) (hs : Srt cv D' a e) : Lv cv D' (2 * bs) 0 e ∧ Lv cv D' bs e n := by
  refine ⟨⟨fun i g1 g2 => ?_, fun i j g1 g2 g3 g4 => ?_⟩, (h.mono hae (Nat.le_refl _)).congr (fun i g1 g2 => hm.out i (.inr g1))⟩
  · by_cases e1 : i < a
    · rw [hm.out i (.inl e1)]; exact h1.1 i g1 e1
    · obtain ⟨i', k1, k2, k3⟩ := hm.ins i (by omega) g2
      have k4 := h.1 i' k1 (by omega)
      rw [k3]
      rcases hbs with rfl | rfl <;> omega
  · by_cases e1 : j < a
    · rw [hm.out i (.inl (by omega)), hm.out j (.inl e1)]; exact h1.2 i j g1 g2 e1 g4
    · by_cases e2 : i < a
      · rcases hbs with rfl | rfl <;> omega
      · exact hs i j (by omega) g2 g3
/-- A block alone at the end. -/
theorem Lv.alone {cv : Int → Int → Int} {D : List Int} {bs a n u : Nat} (hbs : bs = 20 ∨ bs = 40) (h1 : Lv cv D (2 * bs) 0 a) (h : Lv cv D bs a n) (ha : a = 2 * bs * u) (hn : n ≤ a + bs) : Lv cv D (2 * bs) 0 n := by
  refine ⟨fun i g1 g2 => ?_, fun i j g1 g2 g3 g4 => ?_⟩
  · by_cases e1 : i < a
    · exact h1.1 i g1 e1
    · have := h.1 i (by omega) g2
      rcases hbs with rfl | rfl <;> omega
  · by_cases e1 : j < a
    · exact h1.2 i j g1 g2 e1 g4
    · by_cases e2 : i < a
      · rcases hbs with rfl | rfl <;> omega
      · exact h.2 i j (by omega) g2 g3 (by rcases hbs with rfl | rfl <;> omega)
theorem Lv.whole {cv : Int → Int → Int} {D : List Int} {bs n : Nat} (h : Lv cv D bs 0 n) (hn : n ≤ bs) (hb : 0 < bs) : Srt cv D 0 n := fun i j h1 h2 h3 => h.2 i j h1 h2 h3 (by rw [Nat.div_eq_of_lt (by omega), Nat.div_eq_of_lt (by omega)])
end Go.Proofs.YtoeonplbgbgjmaaDoor
