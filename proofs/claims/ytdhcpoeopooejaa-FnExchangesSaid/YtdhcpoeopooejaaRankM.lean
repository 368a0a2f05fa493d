/- Rank, unrank and the next permutation, in plain lists. -/
import Derived.Test.YtdhcpoeopooejaaCompM
import Derived.Test.YtdhcpoeopooejaaUnrank
import Derived.Test.YtdhcpoeopooejaaNext
namespace Go.Proofs.Ytdhcpoeopooejaa
open Go.RowKit
set_option linter.unusedVariables false
set_option linter.unusedSimpArgs false

/-- The rank of a list among the arrangements of its elements. -/
def rankL : List Int → Nat
  | [] => 0
  | x :: l => lessC x l * fct l.length + rankL l
theorem lessC_cons (x y : Int) (l : List Int) : lessC x (y :: l) = lessC x l + if y < x then 1 else 0 := by
  unfold lessC
  rw [List.countP_cons]
  by_cases h : y < x <;> simp [h]
theorem lessC_app (x : Int) (a b : List Int) : lessC x (a ++ b) = lessC x a + lessC x b := by
  unfold lessC; rw [List.countP_append]
theorem lessK_eq (p : List Int) (i : Nat) : ∀ m, i + 1 + m ≤ p.length → lessK p i m = lessC (gi p i) ((p.drop (i + 1)).take m) := by
  intro m
  induction m with
  | zero => intro _; simp [lessK, lessC]
  | succ m ih =>
    intro h
    have hm : m < (p.drop (i + 1)).length := by simp; omega
    rw [lessK, ih (by omega), List.take_succ_eq_append_getElem hm, lessC_app, List.getElem_drop, lessC_cons, ← gi_eq (by omega)]
    simp [lessC]
theorem rankK_drop (p : List Int) : ∀ m k, k + m = p.length → rankK p k + rankL (p.drop k) = rankK p p.length := by
  intro m
  induction m with
  | zero =>
    intro k h
    obtain rfl : k = p.length := by omega
    rw [List.drop_length]; simp [rankL]
  | succ m ih =>
    intro k h
    have := ih (k + 1) (by omega)
    rw [← this, drop_gi (show k < p.length by omega), rankL, rankK, lessK_eq p k _ (by omega), List.take_of_length_le (by simp; omega), List.length_drop]
    rw [show p.length - (k + 1) = p.length - 1 - k by omega]
    omega
theorem rankK_L (p : List Int) : rankK p p.length = rankL p := by
  have := rankK_drop p p.length 0 (by omega)
  simpa [rankK] using this.symm

/-- The arrangement of a list with a rank. -/
def unL : Nat → List Int → Nat → List Int
  | 0, _, _ => []
  | m + 1, left, r => gi left (r / fct m) :: unL m (dropAt left (r / fct m)) (r % fct m)
theorem unK_L (n r : Nat) : ∀ m j, j + m = n → (unK n r j).1 ++ unL m (unK n r j).2.1 (unK n r j).2.2 = (unK n r n).1 := by
  intro m
  induction m with
  | zero =>
    intro j h
    obtain rfl : j = n := by omega
    simp [unL]
  | succ m ih =>
    intro j h
    have := ih (j + 1) (by omega)
    rw [← this, unL]
    simp only [unK]
    rw [show n - j - 1 = m by omega]
    simp
theorem unK_unL (n r : Nat) : (unK n r n).1 = unL n (iotaI n) r := by
  have := unK_L n r n 0 (by omega)
  simpa [unK] using this.symm
/-- Strictly ascending. -/
def Sasc (l : List Int) : Prop := ∀ a b, a < b → b < l.length → gi l a < gi l b
theorem gi_iota (n i : Nat) (h : i < n) : gi (iotaI n) i = (i : Int) := by
  induction n with
  | zero => omega
  | succ n ih =>
    rw [iotaI]
    by_cases e : i < n
    · rw [gi_app (by rw [iotaI_length]; exact e)]; exact ih e
    · obtain rfl : i = n := by omega
      have := gi_app_at (S := iotaI i) (x := (i : Int))
      rwa [iotaI_length] at this
theorem sasc_iota (n : Nat) : Sasc (iotaI n) := fun a b h1 h2 => by
  rw [iotaI_length] at h2
  rw [gi_iota n a (by omega), gi_iota n b h2]
  omega
theorem dropAt_perm {l : List Int} {k : Nat} (h : k < l.length) : (gi l k :: dropAt l k).Perm l := by
  unfold dropAt
  have e : l.take k ++ gi l k :: l.drop (k + 1) = l := by rw [← drop_gi h, List.take_append_drop]
  exact List.perm_middle.symm.trans (by rw [e])
theorem dropAt_length {l : List Int} {k : Nat} (h : k < l.length) : (dropAt l k).length = l.length - 1 := by
  simp [dropAt]; omega
theorem gi_dropAt {l : List Int} {k i : Nat} (h : k < l.length) : gi (dropAt l k) i = if i < k then gi l i else gi l (i + 1) := by
  unfold dropAt gi
  rw [List.getD_eq_getElem?_getD, List.getD_eq_getElem?_getD, List.getD_eq_getElem?_getD]
  by_cases e : i < k
  · rw [if_pos e, List.getElem?_append_left (by simp; omega), List.getElem?_take, if_pos e]
  · rw [if_neg e, List.getElem?_append_right (by simp; omega), List.getElem?_drop]
    congr 2
    simp; omega
theorem sasc_dropAt {l : List Int} {k : Nat} (h : k < l.length) (hs : Sasc l) : Sasc (dropAt l k) := by
  intro a b hab hb
  rw [dropAt_length h] at hb
  rw [gi_dropAt h, gi_dropAt h]
  split <;> split
  · exact hs a b hab (by omega)
  · exact hs a (b + 1) (by omega) (by omega)
  · omega
  · exact hs (a + 1) (b + 1) (by omega) (by omega)
/-- How many are less than element k of a strictly ascending list. -/
theorem lessC_sasc {l : List Int} (hs : Sasc l) {k : Nat} (hk : k < l.length) : lessC (gi l k) l = k := by
  have e : l = l.take k ++ l.drop k := (List.take_append_drop k l).symm
  have h1 : lessC (gi l k) (l.take k) = k := by
    unfold lessC
    have : (l.take k).countP (fun y => decide (y < gi l k)) = (l.take k).length := by
      rw [List.countP_eq_length]
      intro y hy
      obtain ⟨j, hj, rfl⟩ := List.getElem_of_mem hy
      simp at hj
      have := hs j k (by omega) hk
      rw [gi_eq (show j < l.length by omega)] at this
      simpa using this
    rw [this]; simp; omega
  have h2 : lessC (gi l k) (l.drop k) = 0 := by
    unfold lessC
    rw [List.countP_eq_zero]
    intro y hy
    obtain ⟨j, hj, rfl⟩ := List.getElem_of_mem hy
    simp at hj
    rw [List.getElem_drop, ← gi_eq (show k + j < l.length by omega)]
    by_cases e : j = 0
    · subst e; simp
    · have := hs k (k + j) (by omega) (by omega)
      simp; omega
  conv => lhs; rw [e]
  rw [lessC_app]
  rw [← e]
  omega
/-- Unranking arranges the list, and the arrangement has the rank. -/
theorem unL_rank : ∀ m left r, left.length = m → Sasc left → r < fct m → (unL m left r).Perm left ∧ rankL (unL m left r) = r := by
  intro m
  induction m with
  | zero =>
    intro left r hl _ hr
    obtain rfl : left = [] := List.eq_nil_of_length_eq_zero hl
    simp [fct] at hr
    subst hr
    exact ⟨List.Perm.refl _, rfl⟩
  | succ m ih =>
    intro left r hl hs hr
    have hp := fct_pos m
    have hk : r / fct m < left.length := by
      rw [Nat.div_lt_iff_lt_mul hp, hl]
      rw [fct] at hr
      exact hr
    obtain ⟨h1, h2⟩ := ih (dropAt left (r / fct m)) (r % fct m) (by rw [dropAt_length hk]; omega) (sasc_dropAt hk hs) (Nat.mod_lt _ hp)
    rw [unL]
    refine ⟨(List.Perm.cons _ h1).trans (dropAt_perm hk), ?_⟩
    have hlen : (unL m (dropAt left (r / fct m)) (r % fct m)).length = m := by rw [h1.length_eq, dropAt_length hk]; omega
    have hc : lessC (gi left (r / fct m)) (unL m (dropAt left (r / fct m)) (r % fct m)) = r / fct m := by
      rw [lessC_perm h1]
      have e1 := lessC_perm (x := gi left (r / fct m)) (dropAt_perm hk)
      rw [lessC_cons, if_neg (by omega), lessC_sasc hs hk] at e1
      omega
    rw [rankL, h2, hc, hlen, Nat.mul_comm]
    exact Nat.div_add_mod r (fct m)
theorem rankL_lt (l : List Int) : rankL l < fct l.length := by
  induction l with
  | nil => simp [rankL, fct]
  | cons x l ih =>
    have h := Nat.mul_le_mul_right (fct l.length) (lessC_le x l)
    rw [rankL, List.length_cons, fct, Nat.add_mul]
    omega
theorem mem_gi {l : List Int} {x : Int} (h : x ∈ l) : ∃ i, i < l.length ∧ gi l i = x := by
  obtain ⟨i, hi, he⟩ := List.getElem_of_mem h
  exact ⟨i, hi, by rw [gi_eq hi, he]⟩
/-- Ranking and unranking again is the list. -/
theorem unL_of_rank : ∀ p left, p.Perm left → Sasc left → unL p.length left (rankL p) = p := by
  intro p
  induction p with
  | nil => intro left _ _; rfl
  | cons x l ih =>
    intro left hp hs
    obtain ⟨i, hi, hx⟩ := mem_gi (hp.subset (List.mem_cons_self (a := x) (l := l)))
    have hc : lessC x l = i := by
      have e1 := lessC_perm (x := x) hp
      rw [lessC_cons, if_neg (by omega)] at e1
      rw [← hx] at e1 ⊢
      rw [lessC_sasc hs hi] at e1
      omega
    have hlt := rankL_lt l
    have hpos := fct_pos l.length
    have hd : (lessC x l * fct l.length + rankL l) / fct l.length = i := by
      rw [hc, Nat.mul_comm, Nat.mul_add_div hpos, Nat.div_eq_of_lt hlt]; omega
    have hm : (lessC x l * fct l.length + rankL l) % fct l.length = rankL l := by
      rw [Nat.mul_comm, Nat.mul_add_mod, Nat.mod_eq_of_lt hlt]
    rw [rankL, List.length_cons, unL, hd, hm, hx]
    congr 1
    refine ih _ ?_ (sasc_dropAt hi hs)
    have := (dropAt_perm hi).trans hp.symm
    rw [hx] at this
    exact (List.Perm.cons_inv this).symm
theorem nodup_dist' {l : List Int} (h : l.Nodup) : Dist l := by
  intro i j hij hj
  rw [List.Nodup, List.pairwise_iff_getElem] at h
  have := h i j (by omega) hj hij
  rwa [gi_eq (by omega), gi_eq hj]
theorem goodP_perm {p q : List Int} (h : q.Perm p) (hg : goodP p = true) : goodP q = true := by
  have hl := h.length_eq
  refine goodP_of (by rw [hl]; exact (goodP_iff.1 hg).1) (fun i hi => ?_) (nodup_dist' ((dist_nodup (goodP_dist hg)).perm h.symm))
  have hm : gi q i ∈ p := h.subset (by rw [gi_eq hi]; exact List.getElem_mem _)
  obtain ⟨j, hj, he⟩ := mem_gi hm
  rw [← he, hl]
  exact inR_good hg j hj
theorem iota_good {n : Nat} (hn : n ≤ 64) : goodP (iotaI n) = true := by
  refine goodP_of (by rw [iotaI_length]; exact hn) (fun i hi => ?_) (fun i j hij hj => ?_)
  · rw [iotaI_length] at hi ⊢
    rw [gi_iota n i hi]; omega
  · have := sasc_iota n i j hij hj
    omega
theorem good_iota {p : List Int} (hg : goodP p = true) : p.Perm (iotaI p.length) := by
  have hn := dist_nodup (goodP_dist hg)
  have hi : (iotaI p.length).Nodup := dist_nodup (goodP_dist (iota_good (goodP_iff.1 hg).1))
  rw [List.perm_iff_count]
  intro a
  rw [hn.count, hi.count]
  have : a ∈ p ↔ a ∈ iotaI p.length := by
    constructor
    · intro h
      obtain ⟨i, hi, he⟩ := mem_gi h
      have := inR_good hg i hi
      rw [he] at this
      have h3 := gi_iota p.length a.toNat (by omega)
      rw [gi_eq (by rw [iotaI_length]; omega)] at h3
      have h4 : a = (a.toNat : Int) := by omega
      rw [h4, ← h3]
      exact List.getElem_mem _
    · intro h
      obtain ⟨i, hi, he⟩ := mem_gi h
      rw [iotaI_length] at hi
      rw [gi_iota _ i hi] at he
      obtain ⟨j, hj, hj2⟩ := perm_onto (inR_good hg) (goodP_dist hg) hi
      rw [← he, ← hj2, gi_eq hj]
      exact List.getElem_mem _
  simp only [this]
/-- What FnRanks asks, first. -/
theorem rank_of_unrank {n r : Int} (h : (unR n r).2 = true) : rankR (unR n r).1 = (r, true) := by
  unfold unR at h ⊢
  split at h
  · rename_i hn
    split at h
    · rename_i hr
      rw [if_pos hn, if_pos hr]
      have hn2 := inB_iff.1 hn
      have hr2 := inB_iff.1 hr
      obtain ⟨h1, h2⟩ := unL_rank n.toNat (iotaI n.toNat) r.toNat (iotaI_length _) (sasc_iota _) (by omega)
      dsimp only
      rw [unK_unL]
      have hg := goodP_perm h1 (iota_good (by omega))
      have hl := h1.length_eq
      rw [iotaI_length] at hl
      have hd : decide ((unL n.toNat (iotaI n.toNat) r.toNat).length ≤ 10) = true := by simp; omega
      unfold rankR
      rw [hg, hd, rankK_L, h2]
      simp; omega
    · cases h
  · cases h
theorem rankR_yes {p : List Int} (h : (rankR p).2 = true) : goodP p = true ∧ p.length ≤ 10 ∧ rankR p = (((rankL p : Nat) : Int), true) := by
  by_cases hc : goodP p = true ∧ p.length ≤ 10
  · refine ⟨hc.1, hc.2, ?_⟩
    have hd : decide (p.length ≤ 10) = true := by simp; omega
    unfold rankR
    rw [hc.1, hd, rankK_L]
    rfl
  · rw [rankR_no hc] at h; cases h
/-- What FnRanks asks, second. -/
theorem unrank_of_rank {p : List Int} (h : (rankR p).2 = true) : unR p.length (rankR p).1 = (p, true) := by
  obtain ⟨hg, hl, e⟩ := rankR_yes h
  rw [e]
  have hlt := rankL_lt p
  have h1 : inB (p.length : Int) 0 10 = true := inB_iff.2 ⟨by omega, by omega⟩
  have h2 : inB ((rankL p : Nat) : Int) 0 ((fct (p.length : Int).toNat : Nat) - 1) = true := inB_iff.2 ⟨by omega, by rw [Int.toNat_natCast]; omega⟩
  unfold unR
  rw [if_pos h1, if_pos h2]
  dsimp only
  rw [Int.toNat_natCast, Int.toNat_natCast, unK_unL, unL_of_rank p _ (good_iota hg) (sasc_iota _)]

theorem swp_perm {l : List Int} {i j : Nat} (hij : i < j) (hj : j < l.length) : (swp l i j).Perm l := by
  obtain ⟨h1, h2⟩ := split2 l i j hij hj
  rw [h2]
  conv => rhs; rw [h1]
  simp only [List.append_assoc, List.cons_append]
  refine List.Perm.append_left _ ?_
  exact (List.Perm.cons _ List.perm_middle).trans ((List.Perm.swap _ _ _).trans (List.Perm.cons _ List.perm_middle.symm))
theorem revF_perm (f : Nat) : ∀ (l : List Int) (a b : Nat), b < l.length → (revF f l a b).Perm l := by
  induction f with
  | zero => intros; exact List.Perm.refl _
  | succ f ih =>
    intro l a b hb
    rw [revF]
    split
    · rename_i h
      exact (ih _ _ _ (by rw [swp_length]; omega)).trans (swp_perm h hb)
    · exact List.Perm.refl _
theorem gi_revF (f : Nat) : ∀ (l : List Int) (a b : Nat), b < l.length → b ≤ a + f → ∀ t, gi (revF f l a b) t = if a ≤ t ∧ t ≤ b then gi l (a + b - t) else gi l t := by
  induction f with
  | zero =>
    intro l a b hb hf t
    rw [revF]
    split
    · rename_i h
      congr 1; omega
    · rfl
  | succ f ih =>
    intro l a b hb hf t
    rw [revF]
    by_cases h : a < b
    · rw [if_pos h, ih _ _ _ (by rw [swp_length]; omega) (by omega)]
      rw [gi_swp (by omega) hb, gi_swp (by omega) hb]
      by_cases h1 : a + 1 ≤ t ∧ t ≤ b - 1
      · rw [if_pos h1, if_pos (show a ≤ t ∧ t ≤ b by omega), if_neg (by omega), if_neg (by omega)]
        congr 1; omega
      · rw [if_neg h1]
        by_cases h2 : t = b
        · rw [if_pos h2, if_pos (by omega)]; congr 1; omega
        · rw [if_neg h2]
          by_cases h3 : t = a
          · rw [if_pos h3, if_pos (by omega)]; congr 1; omega
          · rw [if_neg h3, if_neg (by omega)]
    · rw [if_neg h]
      split
      · rename_i h1
        congr 1; omega
      · rfl
theorem bigF_facts {l : List Int} {x : Int} : ∀ m, (∃ k, k ≤ m ∧ 1 ≤ k ∧ x < gi l k) → 1 ≤ bigF l x m ∧ bigF l x m ≤ m ∧ x < gi l (bigF l x m) ∧ ∀ j, bigF l x m < j → j ≤ m → ¬ x < gi l j := by
  intro m
  induction m with
  | zero => rintro ⟨k, h1, h2, _⟩; omega
  | succ m ih =>
    rintro ⟨k, h1, h2, h3⟩
    rw [bigF]
    by_cases h : x < gi l (m + 1)
    · rw [if_pos h]
      exact ⟨by omega, by omega, h, fun j h4 h5 => by omega⟩
    · rw [if_neg h]
      have hk : k ≤ m := by
        by_cases e : k = m + 1
        · subst e; exact absurd h3 h
        · omega
      obtain ⟨a1, a2, a3, a4⟩ := ih ⟨k, hk, h2, h3⟩
      refine ⟨a1, by omega, a3, fun j h4 h5 => ?_⟩
      by_cases e : j = m + 1
      · subst e; exact h
      · exact a4 j h4 (by omega)
/-- A rank splits: what stands ahead counts alike. -/
theorem rankL_app (A S S' : List Int) (h : S.Perm S') : rankL (A ++ S) + rankL S' = rankL (A ++ S') + rankL S := by
  induction A with
  | nil => simp [Nat.add_comm]
  | cons a A ih =>
    have h1 : lessC a (A ++ S) = lessC a (A ++ S') := lessC_perm (List.Perm.append_left A h)
    have h2 : (A ++ S).length = (A ++ S').length := by simp [h.length_eq]
    simp only [List.cons_append, rankL, h1, h2]
    omega
theorem rankL_asc {l : List Int} (h : l.Pairwise (· ≤ ·)) : rankL l = 0 := by
  induction l with
  | nil => rfl
  | cons x l ih =>
    rw [List.pairwise_cons] at h
    have : lessC x l = 0 := by
      unfold lessC
      rw [List.countP_eq_zero]
      intro y hy
      have := h.1 y hy
      simp; omega
    rw [rankL, ih h.2, this]; simp
theorem rankL_desc {l : List Int} (h : l.Pairwise (· > ·)) : rankL l + 1 = fct l.length := by
  induction l with
  | nil => simp [rankL, fct]
  | cons x l ih =>
    rw [List.pairwise_cons] at h
    have : lessC x l = l.length := by
      unfold lessC
      rw [List.countP_eq_length]
      intro y hy
      have := h.1 y hy
      simp; omega
    have h3 := ih h.2
    rw [rankL, List.length_cons, fct, this, Nat.add_mul]
    omega
/-- The next permutation has the next rank. -/
theorem rank_next {p q : List Int} (hd : Dist p) (h : nextF p = some q) : q.Perm p ∧ rankL q = rankL p + 1 := by
  unfold nextF at h
  cases ha : ascF p (p.length - 1) with
  | none => rw [ha] at h; cases h
  | some i =>
    rw [ha] at h
    injection h with h
    obtain ⟨hi, hlt, hdesc⟩ := ascF_some ha
    obtain ⟨k1, k2, k3, k4⟩ := bigF_facts (l := p) (x := gi p i) (p.length - 1) ⟨i + 1, by omega, by omega, hlt⟩
    generalize hk : bigF p (gi p i) (p.length - 1) = k at *
    have hki : i < k := by
      rcases Nat.lt_or_ge i k with h | h
      · exact h
      · by_cases e : k = i
        · subst e; omega
        · have := k4 (i + 1) (by omega) (by omega)
          exact absurd hlt this
    have hpq : q.Perm p := by
      rw [← h]
      exact (revF_perm _ _ _ _ (by rw [swp_length]; omega)).trans (swp_perm hki (by omega))
    have hlen : q.length = p.length := hpq.length_eq
    have hgi : ∀ t, gi q t = if i + 1 ≤ t ∧ t ≤ p.length - 1 then gi (swp p i k) (i + 1 + (p.length - 1) - t) else gi (swp p i k) t := by
      intro t
      rw [← h]
      exact gi_revF _ _ _ _ (by rw [swp_length]; omega) (by omega) t
    -- what stands behind i descends
    have hD : ∀ a b, i < a → a < b → b < p.length → gi p a > gi p b := by
      intro a b h1 h2
      induction b with
      | zero => omega
      | succ b ih =>
        intro h3
        have e1 := hdesc b (by omega) (by omega)
        have e2 := hd b (b + 1) (by omega) h3
        by_cases e : a = b
        · subst e; omega
        · have := ih (by omega) (by omega)
          omega
    have hxs : ∀ s, i < s → s < p.length → gi (swp p i k) s = if s = k then gi p i else gi p s := by
      intro s h1 h2
      rw [gi_swp (by omega) (by omega)]
      split
      · rfl
      · rw [if_neg (by omega)]
    have hx2 : ∀ s, i < s → s < p.length → s ≠ k → (gi p s < gi p k ↔ gi p s < gi p i) := by
      intro s h1 h2 h3
      rcases Nat.lt_or_gt_of_ne h3 with e | e
      · have := hD s k h1 e (by omega)
        omega
      · have e1 := k4 s e (by omega)
        have e2 := hd i s h1 h2
        omega
    have hpre : q.take i = p.take i := by
      apply List.ext_getElem (by simp [hlen])
      intro t h1 h2
      simp at h1
      rw [List.getElem_take, List.getElem_take, ← gi_eq (by omega), ← gi_eq (by omega), hgi, if_neg (by omega), gi_swp (by omega) (by omega), if_neg (by omega), if_neg (by omega)]
    have hqi : gi q i = gi p k := by
      rw [hgi, if_neg (by omega), gi_swp (by omega) (by omega), if_neg (by omega), if_pos rfl]
    have hp1 : p = p.take i ++ gi p i :: p.drop (i + 1) := by rw [← drop_gi (by omega), List.take_append_drop]
    have hq1 : q = p.take i ++ gi p k :: q.drop (i + 1) := by
      rw [← hpre, ← hqi, ← drop_gi (by omega), List.take_append_drop]
    have hS : (gi p i :: p.drop (i + 1)).Perm (gi p k :: q.drop (i + 1)) := by
      have := hpq.symm
      rw [hq1] at this
      have e0 := hp1
      generalize gi p k = y at *
      generalize gi p i = z at *
      generalize q.drop (i + 1) = B' at *
      generalize p.drop (i + 1) = B at *
      generalize p.take i = A at *
      rw [e0] at this
      exact (List.perm_append_left_iff _).1 this
    have hBd : (p.drop (i + 1)).Pairwise (· > ·) := by
      rw [List.pairwise_iff_getElem]
      intro a b h1 h2 h3
      simp at h1 h2
      rw [List.getElem_drop, List.getElem_drop, ← gi_eq (by omega), ← gi_eq (by omega)]
      exact hD _ _ (by omega) (by omega) (by omega)
    have hBa : (q.drop (i + 1)).Pairwise (· ≤ ·) := by
      rw [List.pairwise_iff_getElem]
      intro a b h1 h2 h3
      simp [hlen] at h1 h2
      rw [List.getElem_drop, List.getElem_drop, ← gi_eq (by omega), ← gi_eq (by omega), hgi, hgi, if_pos (by omega), if_pos (by omega), hxs _ (by omega) (by omega), hxs _ (by omega) (by omega)]
      generalize hsa : i + 1 + (p.length - 1) - (i + 1 + a) = sa
      generalize hsb : i + 1 + (p.length - 1) - (i + 1 + b) = sb
      have hab : sb < sa := by omega
      by_cases e1 : sa = k
      · rw [if_pos e1, if_neg (by omega)]
        have := hD sb k (by omega) (by omega) (by omega)
        omega
      · rw [if_neg e1]
        by_cases e2 : sb = k
        · rw [if_pos e2]
          have := k4 sa (by omega) (by omega)
          omega
        · rw [if_neg e2]
          have := hD sb sa (by omega) hab (by omega)
          omega
    have hl1 : (q.drop (i + 1)).length = (p.drop (i + 1)).length := by simp [hlen]
    have hc : lessC (gi p k) (q.drop (i + 1)) = lessC (gi p i) (p.drop (i + 1)) + 1 := by
      have e1 := lessC_perm (x := gi p k) hS
      rw [lessC_cons, lessC_cons, if_pos k3, if_neg (by omega)] at e1
      have e2 : lessC (gi p k) (p.drop (i + 1)) = lessC (gi p i) (p.drop (i + 1)) := by
        unfold lessC
        apply List.countP_congr
        intro y hy
        obtain ⟨j, hj, rfl⟩ := List.getElem_of_mem hy
        simp at hj
        rw [List.getElem_drop, ← gi_eq (by omega)]
        by_cases e : i + 1 + j = k
        · rw [e]; simp; omega
        · have := hx2 (i + 1 + j) (by omega) (by omega) e
          simpa using this
      omega
    refine ⟨hpq, ?_⟩
    have e1 := rankL_app (p.take i) _ _ hS
    rw [← hp1, ← hq1] at e1
    rw [rankL, rankL, rankL_asc hBa, hc, hl1, Nat.add_mul] at e1
    have e2 := rankL_desc hBd
    omega
/-- What FnRanks asks, third. -/
theorem rank_nextR {p : List Int} (h : (rankR p).2 = true) (hm : (nextR p).2 = true) : rankR (nextR p).1 = ((rankR p).1 + 1, true) := by
  obtain ⟨hg, hl, e⟩ := rankR_yes h
  unfold nextR at hm ⊢
  rw [if_pos hg] at hm ⊢
  cases hq : nextF p with
  | none => rw [hq] at hm; cases hm
  | some q =>
    dsimp only
    obtain ⟨h1, h2⟩ := rank_next (goodP_dist hg) hq
    have hgq := goodP_perm h1 hg
    have hd : decide (q.length ≤ 10) = true := by rw [h1.length_eq]; simp; omega
    rw [e]
    unfold rankR
    rw [hgq, hd, rankK_L, h2]
    simp
end Go.Proofs.Ytdhcpoeopooejaa
