/- Stable sorting of lists of places: what the library's steps do, in plain lists. No program. -/
import Derived.Test.YtdhcpoeopooejaaSign
namespace Go.Proofs.Ytdhcpoeopooejaa
open Go.RowKit
set_option linter.unusedVariables false
set_option linter.unusedSimpArgs false

/-- A comparison of places: antisymmetric, and 'at most' is transitive. -/
structure Pre (cv : Int → Int → Int) : Prop where
  anti : ∀ x y, cv x y < 0 ↔ 0 < cv y x
  tr : ∀ x y z, cv x y ≤ 0 → cv y z ≤ 0 → cv x z ≤ 0
/-- The stable order: by the comparison, then by the place. -/
def ll (cv : Int → Int → Int) (x y : Int) : Prop := cv x y < 0 ∨ (cv x y = 0 ∧ x < y)
theorem Pre.irr {cv : Int → Int → Int} (h : Pre cv) (x : Int) : ¬ ll cv x x := by
  rintro (h1 | ⟨_, h1⟩)
  · have := (h.anti x x).1 h1; omega
  · omega
theorem Pre.lt_trans {cv : Int → Int → Int} (h : Pre cv) {x y z : Int} (h1 : cv x y ≤ 0) (h2 : cv y z ≤ 0) (h3 : cv x y < 0 ∨ cv y z < 0) : cv x z < 0 := by
  have h4 := h.tr x y z h1 h2
  rcases Int.lt_or_eq_of_le h4 with h5 | h5
  · exact h5
  · exfalso
    have z0 : cv z x ≤ 0 := by
      rcases Int.lt_or_le 0 (cv z x) with h6 | h6
      · have := (h.anti x z).2 h6; omega
      · exact h6
    rcases h3 with h3 | h3
    · have e1 := h.tr y z x h2 z0
      have e2 := (h.anti x y).1 h3
      omega
    · have e1 := h.tr z x y z0 h1
      have e2 := (h.anti y z).1 h3
      omega
theorem Pre.trans {cv : Int → Int → Int} (h : Pre cv) {x y z : Int} (h1 : ll cv x y) (h2 : ll cv y z) : ll cv x z := by
  rcases h1 with h1 | ⟨h1, k1⟩
  · rcases h2 with h2 | ⟨h2, k2⟩
    · exact .inl (h.lt_trans (by omega) (by omega) (.inl h1))
    · exact .inl (h.lt_trans (by omega) (by omega) (.inl h1))
  · rcases h2 with h2 | ⟨h2, k2⟩
    · exact .inl (h.lt_trans (by omega) (by omega) (.inr h2))
    · have h4 := h.tr x y z (by omega) (by omega)
      rcases Int.lt_or_eq_of_le h4 with h5 | h5
      · exact .inl h5
      · exact .inr ⟨h5, by omega⟩
theorem Pre.tri {cv : Int → Int → Int} (h : Pre cv) {x y : Int} (hn : x ≠ y) : ll cv x y ∨ ll cv y x := by
  rcases Int.lt_or_le (cv x y) 0 with h1 | h1
  · exact .inl (.inl h1)
  · rcases Int.lt_or_le (cv y x) 0 with h2 | h2
    · exact .inr (.inl h2)
    · have e1 : cv x y = 0 := by
        rcases Int.lt_or_le 0 (cv x y) with h3 | h3
        · have := (h.anti y x).2 h3; omega
        · omega
      have e2 : cv y x = 0 := by
        rcases Int.lt_or_le 0 (cv y x) with h3 | h3
        · have := (h.anti x y).2 h3; omega
        · omega
      rcases Int.lt_or_gt_of_ne hn with h3 | h3
      · exact .inl (.inr ⟨e1, h3⟩)
      · exact .inr (.inr ⟨e2, h3⟩)
theorem Pre.asym {cv : Int → Int → Int} (h : Pre cv) {x y : Int} (h1 : ll cv x y) : ¬ ll cv y x := fun h2 => h.irr x (h.trans h1 h2)
/-- What is compared tells the order, where the first place is the later one. -/
theorem ll_of_cmp {cv : Int → Int → Int} {x y : Int} (hxy : y < x) : ll cv x y ↔ cv x y < 0 := by
  constructor
  · rintro (h | ⟨_, h⟩)
    · exact h
    · omega
  · exact .inl
theorem Pre.not_ll {cv : Int → Int → Int} (h : Pre cv) {x y : Int} (hn : x ≠ y) (hl : ¬ ll cv x y) : ll cv y x := (h.tri hn).resolve_left hl

/-- Places a .. b - 1 of the list are in order. -/
def Srt (cv : Int → Int → Int) (D : List Int) (a b : Nat) : Prop := ∀ i j, a ≤ i → i < j → j < b → ll cv (gi D i) (gi D j)
/-- D' is D, moved within a .. b - 1. -/
structure Mv (D D' : List Int) (a b : Nat) : Prop where
  perm : D'.Perm D
  out : ∀ i, i < a ∨ b ≤ i → gi D' i = gi D i
  ins : ∀ i, a ≤ i → i < b → ∃ i', a ≤ i' ∧ i' < b ∧ gi D' i = gi D i'
theorem Mv.len {D D' : List Int} {a b : Nat} (h : Mv D D' a b) : D'.length = D.length := h.perm.length_eq
theorem Mv.refl (D : List Int) (a b : Nat) : Mv D D a b := ⟨List.Perm.refl _, fun _ _ => rfl, fun i h1 h2 => ⟨i, h1, h2, rfl⟩⟩
theorem Mv.trans {D D' D'' : List Int} {a b : Nat} (h : Mv D D' a b) (k : Mv D' D'' a b) : Mv D D'' a b :=
  ⟨k.perm.trans h.perm, fun i hi => (k.out i hi).trans (h.out i hi), fun i h1 h2 => by
    obtain ⟨j, j1, j2, j3⟩ := k.ins i h1 h2
    obtain ⟨m, m1, m2, m3⟩ := h.ins j j1 j2
    exact ⟨m, m1, m2, j3.trans m3⟩⟩
theorem Mv.mono {D D' : List Int} {a b a' b' : Nat} (h : Mv D D' a b) (ha : a' ≤ a) (hb : b ≤ b') : Mv D D' a' b' :=
  ⟨h.perm, fun i hi => h.out i (by omega), fun i h1 h2 => by
    by_cases e : a ≤ i ∧ i < b
    · obtain ⟨j, j1, j2, j3⟩ := h.ins i e.1 e.2
      exact ⟨j, by omega, by omega, j3⟩
    · exact ⟨i, h1, h2, h.out i (by omega)⟩⟩
theorem swpPerm {l : List Int} {i j : Nat} (hij : i < j) (hj : j < l.length) : (swp l i j).Perm l := by
  obtain ⟨h1, h2⟩ := split2 l i j hij hj
  rw [h2]
  conv => rhs; rw [h1]
  simp only [List.append_assoc, List.cons_append]
  refine List.Perm.append_left _ ?_
  exact (List.Perm.cons _ List.perm_middle).trans ((List.Perm.swap _ _ _).trans (List.Perm.cons _ List.perm_middle.symm))
theorem Mv.swp {D : List Int} {a b i j : Nat} (ha : a ≤ i) (hij : i < j) (hb : j < b) (hl : j < D.length) : Mv D (swp D i j) a b := by
  refine ⟨swpPerm hij hl, fun k hk => ?_, fun k h1 h2 => ?_⟩
  · rw [gi_swp (by omega) hl, if_neg (by omega), if_neg (by omega)]
  · rw [gi_swi (by omega) hl]
    refine ⟨_, ?_, ?_, rfl⟩ <;> unfold swi <;> split <;> (try split) <;> omega
theorem Mv.dist {D D' : List Int} {a b : Nat} (h : Mv D D' a b) (hd : Dist D) : Dist D' := by
  have h1 : D.Nodup := by
    rw [List.Nodup, List.pairwise_iff_getElem]
    intro i j hi hj hij
    have := hd i j hij hj
    rwa [gi_eq hi, gi_eq hj] at this
  have h2 := h1.perm h.perm.symm
  intro i j hij hj
  rw [List.Nodup, List.pairwise_iff_getElem] at h2
  have := h2 i j (by omega) hj hij
  rwa [gi_eq (by omega), gi_eq hj]
theorem Srt.mono {cv : Int → Int → Int} {D : List Int} {a b a' b' : Nat} (h : Srt cv D a b) (ha : a ≤ a') (hb : b' ≤ b) : Srt cv D a' b' := fun i j h1 h2 h3 => h i j (by omega) h2 (by omega)
theorem Srt.congr {cv : Int → Int → Int} {D D' : List Int} {a b : Nat} (h : Srt cv D a b) (he : ∀ i, a ≤ i → i < b → gi D' i = gi D i) : Srt cv D' a b := fun i j h1 h2 h3 => by
  rw [he i h1 (by omega), he j (by omega) h3]; exact h i j h1 h2 h3
theorem Srt.one (cv : Int → Int → Int) (D : List Int) {a b : Nat} (h : b ≤ a + 1) : Srt cv D a b := fun i j h1 h2 h3 => by omega

/-! Insertion. -/
/-- Places a .. i are in order, but for what stands at k. -/
def SrtX (cv : Int → Int → Int) (D : List Int) (a i k : Nat) : Prop := ∀ p q, a ≤ p → p < q → q ≤ i → q ≠ k → ll cv (gi D p) (gi D q)
theorem SrtX.start {cv : Int → Int → Int} {D : List Int} {a i : Nat} (h : Srt cv D a i) : SrtX cv D a i i := fun p q h1 h2 h3 h4 => h p q h1 h2 (by omega)
theorem SrtX.done {cv : Int → Int → Int} (hc : Pre cv) {D : List Int} {a i k : Nat} (h : SrtX cv D a i k) (hk : k = a ∨ ll cv (gi D (k - 1)) (gi D k)) : Srt cv D a (i + 1) := by
  intro p q h1 h2 h3
  by_cases e : q = k
  · subst e
    rcases hk with rfl | hk
    · omega
    · by_cases e2 : p = q - 1
      · rw [e2]; exact hk
      · exact hc.trans (h p (q - 1) h1 (by omega) (by omega) (by omega)) hk
  · exact h p q h1 h2 (by omega) e
theorem SrtX.step {cv : Int → Int → Int} {D : List Int} {a i m : Nat} (h : SrtX cv D a i (m + 1)) (ha : a ≤ m) (hi : m + 1 ≤ i) (hl : i < D.length) (hgt : ll cv (gi D (m + 1)) (gi D m)) : SrtX cv (swp D m (m + 1)) a i m := by
  intro p q h1 h2 h3 h4
  rw [gi_swp (by omega) (by omega), gi_swp (by omega) (by omega)]
  by_cases eb : q = m + 1
  · subst eb
    rw [if_pos rfl, if_neg (show ¬ p = m + 1 by omega)]
    by_cases ea : p = m
    · rw [if_pos ea]; exact hgt
    · rw [if_neg ea]; exact h p m h1 (by omega) (by omega) (by omega)
  · rw [if_neg eb, if_neg h4]
    by_cases ea : p = m + 1
    · rw [if_pos ea]; exact h m q ha (by omega) h3 eb
    · rw [if_neg ea]
      by_cases ea2 : p = m
      · rw [if_pos ea2]; exact h (m + 1) q (by omega) (by omega) h3 eb
      · rw [if_neg ea2]; exact h p q h1 h2 h3 eb

/-! The merge of two runs that lie side by side. -/
/-- What the left run holds came from earlier places than what the right one holds. -/
def Xs (D : List Int) (a m b : Nat) : Prop := ∀ i j, a ≤ i → i < m → m ≤ j → j < b → gi D i < gi D j
/-- The first of the left run alone, put to its place p. -/
theorem merge_first {cv : Int → Int → Int} (hc : Pre cv) {D D' : List Int} {a b p : Nat} (hw : Srt cv D (a + 1) b) (hx : Xs D a (a + 1) b) (hp1 : a + 1 ≤ p) (hp2 : p ≤ b) (h1 : ∀ h, a + 1 ≤ h → h < p → cv (gi D h) (gi D a) < 0) (h2 : ∀ h, p ≤ h → h < b → ¬ cv (gi D h) (gi D a) < 0)
    (hD : ∀ t, a ≤ t → t < b → gi D' t = if t + 1 < p then gi D (t + 1) else if t + 1 = p then gi D a else gi D t) : Srt cv D' a b := by
  have k1 : ∀ h, a + 1 ≤ h → h < p → ll cv (gi D h) (gi D a) := fun h g1 g2 => .inl (h1 h g1 g2)
  have k2 : ∀ h, p ≤ h → h < b → ll cv (gi D a) (gi D h) := fun h g1 g2 => by
    have hlt := hx a h (Nat.le_refl _) (by omega) (by omega) g2
    exact hc.not_ll (by omega) (fun e => h2 h g1 g2 ((ll_of_cmp hlt).1 e))
  intro i j g1 g2 g3
  rw [hD i g1 (by omega), hD j (by omega) g3]
  by_cases a1 : j + 1 < p
  · rw [if_pos (by omega), if_pos a1]; exact hw (i + 1) (j + 1) (by omega) (by omega) (by omega)
  · rw [if_neg a1]
    by_cases a2 : j + 1 = p
    · rw [if_pos a2, if_pos (by omega)]; exact k1 (i + 1) (by omega) (by omega)
    · rw [if_neg a2]
      by_cases a3 : i + 1 < p
      · rw [if_pos a3]
        by_cases a4 : i + 1 = j
        · omega
        · exact hw (i + 1) j (by omega) (by omega) g3
      · rw [if_neg a3]
        by_cases a4 : i + 1 = p
        · rw [if_pos a4]; exact k2 j (by omega) g3
        · rw [if_neg a4]; exact hw i j (by omega) g2 g3
/-- The only one of the right run, put to its place p. -/
theorem merge_last {cv : Int → Int → Int} (hc : Pre cv) {D D' : List Int} {a m p : Nat} (hu : Srt cv D a m) (hx : Xs D a m (m + 1)) (hp1 : a ≤ p) (hp2 : p ≤ m) (h1 : ∀ h, a ≤ h → h < p → ¬ cv (gi D m) (gi D h) < 0) (h2 : ∀ h, p ≤ h → h < m → cv (gi D m) (gi D h) < 0)
    (hD : ∀ t, a ≤ t → t < m + 1 → gi D' t = if t < p then gi D t else if t = p then gi D m else gi D (t - 1)) : Srt cv D' a (m + 1) := by
  have k1 : ∀ h, a ≤ h → h < p → ll cv (gi D h) (gi D m) := fun h g1 g2 => by
    have hlt := hx h m g1 (by omega) (Nat.le_refl _) (by omega)
    exact hc.not_ll (by omega) (fun e => h1 h g1 g2 ((ll_of_cmp hlt).1 e))
  have k2 : ∀ h, p ≤ h → h < m → ll cv (gi D m) (gi D h) := fun h g1 g2 => .inl (h2 h g1 g2)
  intro i j g1 g2 g3
  rw [hD i g1 (by omega), hD j (by omega) g3]
  by_cases a1 : j < p
  · rw [if_pos (by omega), if_pos a1]; exact hu i j g1 g2 (by omega)
  · rw [if_neg a1]
    by_cases a2 : j = p
    · rw [if_pos a2, if_pos (by omega)]; exact k1 i g1 (by omega)
    · rw [if_neg a2]
      by_cases a3 : i < p
      · rw [if_pos a3]
        by_cases a4 : i < j - 1
        · exact hu i (j - 1) g1 a4 (by omega)
        · omega
      · rw [if_neg a3]
        by_cases a4 : i = p
        · rw [if_pos a4]; exact k2 (j - 1) (by omega) (by omega)
        · rw [if_neg a4]; exact hu (i - 1) (j - 1) (by omega) (by omega) (by omega)

/-- T is D with a .. m - 1 and m .. b - 1 exchanged in order. -/
def Rt (D T : List Int) (a m b : Nat) : Prop := ∀ t, gi T t = if a ≤ t ∧ t < a + (b - m) then gi D (t + (m - a)) else if a + (b - m) ≤ t ∧ t < b then gi D (t - (b - m)) else gi D t
/-- D' is D with n elements from a on and n elements from b on exchanged. -/
def Sw (D D' : List Int) (a b n : Nat) : Prop := ∀ t, gi D' t = if a ≤ t ∧ t < a + n then gi D (t - a + b) else if b ≤ t ∧ t < b + n then gi D (t - b + a) else gi D t
theorem Sw.zero (D : List Int) (a b : Nat) : Sw D D a b 0 := fun t => by rw [if_neg (by omega), if_neg (by omega)]
theorem Sw.step {D D' : List Int} {a b n k : Nat} (h : Sw D D' a b k) (hk : k < n) (hab : a + n ≤ b) (hl : b + n ≤ D'.length) : Sw D (swp D' (a + k) (b + k)) a b (k + 1) := by
  intro t
  rw [gi_swp (by omega) (by omega), h, h, h]
  by_cases e1 : t = b + k
  · subst e1
    rw [if_pos rfl, if_neg (by omega), if_neg (by omega), if_neg (by omega), if_pos (by omega)]
    congr 1; omega
  · rw [if_neg e1]
    by_cases e2 : t = a + k
    · subst e2
      rw [if_pos rfl, if_neg (by omega), if_neg (by omega), if_pos (by omega)]
      congr 1; omega
    · rw [if_neg e2]
      by_cases e3 : a ≤ t ∧ t < a + k
      · rw [if_pos e3, if_pos (by omega)]
      · rw [if_neg e3, if_neg (show ¬ (a ≤ t ∧ t < a + (k + 1)) by omega)]
        by_cases e4 : b ≤ t ∧ t < b + k
        · rw [if_pos e4, if_pos (by omega)]
        · rw [if_neg e4, if_neg (by omega)]
theorem Rt.left {D D' T : List Int} {m i j : Nat} (h : Rt D T (m - i) m (m + j)) (hi : i ≤ m) (hij : j < i) (hs : Sw D D' (m - i) m j) : Rt D' T (m - (i - j)) m (m + j) := by
  intro t
  rw [h]
  by_cases c1 : t < m - i
  · rw [if_neg (by omega), if_neg (by omega), if_neg (by omega), if_neg (by omega), hs, if_neg (by omega), if_neg (by omega)]
  · by_cases c2 : t < m - i + j
    · rw [if_pos (by omega), if_neg (by omega), if_neg (by omega), hs, if_pos (by omega)]; congr 1; omega
    · by_cases c3 : t < m + j
      · rw [if_neg (by omega), if_pos (by omega)]
        by_cases c4 : t < m - (i - j) + j
        · rw [if_pos (by omega), hs, if_neg (by omega), if_pos (by omega)]; congr 1; omega
        · rw [if_neg (by omega), if_pos (by omega), hs, if_neg (by omega), if_neg (by omega)]
      · rw [if_neg (by omega), if_neg (by omega), if_neg (by omega), if_neg (by omega), hs, if_neg (by omega), if_neg (by omega)]
theorem Rt.right {D D' T : List Int} {m i j : Nat} (h : Rt D T (m - i) m (m + j)) (hi : i ≤ m) (hij : i < j) (hs : Sw D D' (m - i) (m + j - i) i) : Rt D' T (m - i) m (m + (j - i)) := by
  intro t
  rw [h]
  by_cases c1 : t < m - i
  · rw [if_neg (by omega), if_neg (by omega), if_neg (by omega), if_neg (by omega), hs, if_neg (by omega), if_neg (by omega)]
  · by_cases c2 : t < m + j - i
    · rw [if_pos (by omega)]
      by_cases c3 : t < m - i + (j - i)
      · rw [if_pos (by omega), hs, if_neg (by omega), if_neg (by omega)]
      · rw [if_neg (by omega), if_pos (by omega), hs, if_pos (by omega)]; congr 1; omega
    · by_cases c3 : t < m + j
      · rw [if_neg (by omega), if_pos (by omega), if_neg (by omega), if_neg (by omega), hs, if_neg (by omega), if_pos (by omega)]; congr 1; omega
      · rw [if_neg (by omega), if_neg (by omega), if_neg (by omega), if_neg (by omega), hs, if_neg (by omega), if_neg (by omega)]
theorem Rt.last {D D' T : List Int} {m i : Nat} (h : Rt D T (m - i) m (m + i)) (hi : i ≤ m) (hs : Sw D D' (m - i) m i) : ∀ t, gi D' t = gi T t := by
  intro t
  rw [h, hs]
  by_cases c1 : m - i ≤ t ∧ t < m - i + i
  · rw [if_pos c1, if_pos (by omega)]; congr 1; omega
  · rw [if_neg c1]
    by_cases c2 : m ≤ t ∧ t < m + i
    · rw [if_pos c2, if_neg (by omega), if_pos (by omega)]; congr 1; omega
    · rw [if_neg c2, if_neg (by omega), if_neg (by omega)]
/-- The list that a rotation makes. -/
def rotL (D : List Int) (a m b : Nat) : List Int := (List.range D.length).map fun t => if a ≤ t ∧ t < a + (b - m) then gi D (t + (m - a)) else if a + (b - m) ≤ t ∧ t < b then gi D (t - (b - m)) else gi D t
theorem rotL_rt {D : List Int} {a m b : Nat} (h1 : a ≤ m) (h2 : m ≤ b) (hb : b ≤ D.length) : Rt D (rotL D a m b) a m b := by
  intro t
  by_cases ht : t < D.length
  · rw [gi_eq (by simp [rotL]; exact ht)]; simp [rotL]
  · rw [if_neg (by omega), if_neg (by omega)]
    have e : ∀ l : List Int, l.length = D.length → gi l t = 0 := fun l hl => by
      unfold gi
      rw [List.getD_eq_getElem?_getD, List.getElem?_eq_none (by omega)]; rfl
    rw [e _ (by simp [rotL]), e D rfl]

/-- The split of a merge at start: what the two halves then hold. -/
theorem cut_halves {cv : Int → Int → Int} (hc : Pre cv) {D D1 : List Int} {a m b mid start fin : Nat} (hu : Srt cv D a m) (hw : Srt cv D m b) (hx : Xs D a m b) (h1 : a ≤ start) (h2 : start ≤ m) (h3 : m ≤ fin) (h4 : fin ≤ b) (h5 : start + fin = mid + m) (h6 : a < mid) (h7 : mid < b)
    (c1 : a < start → fin < b → ¬ cv (gi D fin) (gi D (start - 1)) < 0) (c2 : start < m → m < fin → cv (gi D (fin - 1)) (gi D start) < 0) (hr : Rt D D1 start m fin) :
    Srt cv D1 a start ∧ Srt cv D1 start mid ∧ Srt cv D1 mid fin ∧ Srt cv D1 fin b ∧ Xs D1 a start mid ∧ Xs D1 mid fin b ∧ (∀ i j, a ≤ i → i < mid → mid ≤ j → j < b → ll cv (gi D1 i) (gi D1 j)) := by
  have e1 : ∀ t, a ≤ t → t < start → gi D1 t = gi D t := fun t g1 g2 => by rw [hr, if_neg (by omega), if_neg (by omega)]
  have e2 : ∀ t, start ≤ t → t < mid → gi D1 t = gi D (t + (m - start)) := fun t g1 g2 => by rw [hr, if_pos (by omega)]
  have e3 : ∀ t, mid ≤ t → t < fin → gi D1 t = gi D (t - (fin - m)) := fun t g1 g2 => by rw [hr, if_neg (by omega), if_pos (by omega)]
  have e4 : ∀ t, fin ≤ t → gi D1 t = gi D t := fun t g1 => by rw [hr, if_neg (by omega), if_neg (by omega)]
  -- u before w where the cut says so
  have k1 : ∀ p q, a ≤ p → p < start → fin ≤ q → q < b → ll cv (gi D p) (gi D q) := by
    intro p q g1 g2 g3 g4
    have hlt := hx (start - 1) fin (by omega) (by omega) h3 (by omega)
    have hb : ll cv (gi D (start - 1)) (gi D fin) := hc.not_ll (by omega) (fun e => c1 (by omega) (by omega) ((ll_of_cmp hlt).1 e))
    have l1 : p = start - 1 ∨ ll cv (gi D p) (gi D (start - 1)) := by
      by_cases e : p = start - 1
      · exact .inl e
      · exact .inr (hu p (start - 1) g1 (by omega) (by omega))
    have l2 : ll cv (gi D p) (gi D fin) := by
      rcases l1 with rfl | l1
      · exact hb
      · exact hc.trans l1 hb
    by_cases e : q = fin
    · rw [e]; exact l2
    · exact hc.trans l2 (hw fin q h3 (by omega) g4)
  have k2 : ∀ p q, start ≤ p → p < m → m ≤ q → q < fin → ll cv (gi D q) (gi D p) := by
    intro p q g1 g2 g3 g4
    have hb : ll cv (gi D (fin - 1)) (gi D start) := .inl (c2 (by omega) (by omega))
    have l2 : ll cv (gi D q) (gi D start) := by
      by_cases e : q = fin - 1
      · rw [e]; exact hb
      · exact hc.trans (hw q (fin - 1) g3 (by omega) (by omega)) hb
    by_cases e : p = start
    · rw [e]; exact l2
    · exact hc.trans l2 (hu start p h1 (by omega) g2)
  refine ⟨?_, ?_, ?_, ?_, ?_, ?_, ?_⟩
  · exact (hu.mono (Nat.le_refl _) h2).congr (fun i g1 g2 => e1 i g1 g2)
  · intro i j g1 g2 g3
    rw [e2 i g1 (by omega), e2 j (by omega) g3]
    exact hw _ _ (by omega) (by omega) (by omega)
  · intro i j g1 g2 g3
    rw [e3 i g1 (by omega), e3 j (by omega) g3]
    exact hu _ _ (by omega) (by omega) (by omega)
  · exact (hw.mono h3 (Nat.le_refl _)).congr (fun i g1 g2 => e4 i g1)
  · intro i j g1 g2 g3 g4
    rw [e1 i g1 g2, e2 j g3 g4]
    exact hx _ _ g1 (by omega) (by omega) (by omega)
  · intro i j g1 g2 g3 g4
    rw [e3 i g1 g2, e4 j g3]
    exact hx _ _ (by omega) (by omega) (by omega) g4
  · intro i j g1 g2 g3 g4
    by_cases a1 : i < start
    · rw [e1 i g1 a1]
      by_cases a2 : j < fin
      · rw [e3 j g3 a2]; exact hu _ _ g1 (by omega) (by omega)
      · rw [e4 j (by omega)]; exact k1 i j g1 a1 (by omega) g4
    · rw [e2 i (by omega) g2]
      by_cases a2 : j < fin
      · rw [e3 j g3 a2]; exact k2 _ _ (by omega) (by omega) (by omega) (by omega)
      · rw [e4 j (by omega)]; exact hw _ _ (by omega) (by omega) g4
/-- The halves sorted, the whole is. -/
theorem halves_done {cv : Int → Int → Int} {D1 D2 D3 : List Int} {a b mid : Nat} (h12 : Mv D1 D2 a mid) (h23 : Mv D2 D3 mid b) (s1 : Srt cv D2 a mid) (s2 : Srt cv D3 mid b) (hx : ∀ i j, a ≤ i → i < mid → mid ≤ j → j < b → ll cv (gi D1 i) (gi D1 j)) (h1 : a ≤ mid) (h2 : mid ≤ b) :
    Srt cv D3 a b ∧ Mv D1 D3 a b := by
  refine ⟨fun i j g1 g2 g3 => ?_, (h12.mono (Nat.le_refl _) h2).trans (h23.mono h1 (Nat.le_refl _))⟩
  by_cases a1 : j < mid
  · rw [h23.out i (by omega), h23.out j (by omega)]; exact s1 i j g1 g2 a1
  · by_cases a2 : i < mid
    · obtain ⟨j', q1, q2, q3⟩ := h23.ins j (by omega) g3
      rw [h23.out i (by omega), q3, h12.out j' (by omega)]
      obtain ⟨i', p1, p2, p3⟩ := h12.ins i g1 a2
      rw [p3]; exact hx i' j' p1 p2 q1 q2
    · exact s2 i j (by omega) g2 g3
/-- Two arrangements of the same places that are in order are one. -/
theorem srt_unique {cv : Int → Int → Int} (hc : Pre cv) {A B : List Int} (ha : Srt cv A 0 A.length) (hb : Srt cv B 0 B.length) (h : A.Perm B) : A = B := by
  have pw : ∀ {L : List Int}, Srt cv L 0 L.length → L.Pairwise (ll cv) := fun {L} hL => by
    rw [List.pairwise_iff_getElem]
    intro i j hi hj hij
    have := hL i j (Nat.zero_le _) hij hj
    rwa [gi_eq hi, gi_eq hj] at this
  exact h.eq_of_pairwise (fun x y _ _ h1 h2 => absurd h2 (hc.asym h1)) (pw ha) (pw hb)
end Go.Proofs.Ytdhcpoeopooejaa
