/- RunMerges, in plain lists: the merges reduce all runs to one, and the height is logarithmic in the total. -/
import Derived.Test.YtbfffpdcpoejnaaRunM
import Derived.Test.YtbfffpdcpoejnaaRunJ
namespace Go.Proofs.Ytbfffpdcpoejnaa
open Go.RowKit
set_option linter.unusedVariables false
set_option linter.unusedSimpArgs false

theorem gi_mgAt {st : List Int} {k i : Nat} (h : k + 2 ≤ st.length) (hi : i < k) : gi (mgAt st k) i = gi st i := by
  unfold mgAt gi
  simp only [List.getD_eq_getElem?_getD]
  rw [List.getElem?_append_left (by simp; omega), List.getElem?_take, if_pos hi]
theorem sumI_cons (x : Int) (l : List Int) : sumI (x :: l) = x + sumI l := rfl
theorem sumI_mgAt {st : List Int} {k : Nat} (h : k + 2 ≤ st.length) : sumI (mgAt st k) = sumI st := by
  conv => rhs; rw [split_two st k h]
  unfold mgAt
  rw [sumI_append, sumI_append]
  simp only [sumI]; omega
/-- The stack's order up to height L: each entry is greater than the next one, and than the next two together. -/
def Ord2 (st : List Int) (L : Nat) : Prop := (∀ i, i + 1 < L → gi st (i + 1) < gi st i) ∧ ∀ i, i + 2 < L → gi st (i + 1) + gi st (i + 2) < gi st i
theorem nextF_where {st : List Int} {e : Bool} (h : 0 ≤ nextF st e) : st.length ≤ (nextF st e).toNat + 3 := by
  unfold nextF at *
  split at h
  · omega
  · rename_i h0
    rw [if_neg h0]
    split at h
    · rename_i h1
      rw [if_pos h1]
      split <;> omega
    · rename_i h1
      rw [if_neg h1]
      split at h
      · rename_i h2
        rw [if_pos h2]
        split <;> omega
      · rename_i h2
        rw [if_neg h2]
        split <;> omega
theorem ord_mg {st : List Int} {k : Nat} (h : k + 2 ≤ st.length) (hk : st.length ≤ k + 3) (ho : Ord2 st (st.length - 2)) : Ord2 (mgAt st k) ((mgAt st k).length - 2) := by
  have hl := mgAt_length h
  refine ⟨fun i hi => ?_, fun i hi => ?_⟩
  · rw [gi_mgAt h (by omega), gi_mgAt h (by omega)]; exact ho.1 i (by omega)
  · rw [gi_mgAt h (by omega), gi_mgAt h (by omega), gi_mgAt h (by omega)]; exact ho.2 i (by omega)
theorem pos_mg {st : List Int} {k : Nat} (h : k + 2 ≤ st.length) (hp : ∀ x ∈ st, 1 ≤ x) : ∀ x ∈ mgAt st k, 1 ≤ x := by
  intro x hx
  unfold mgAt at hx
  rw [List.mem_append, List.mem_cons] at hx
  rcases hx with hx | rfl | hx
  · exact hp x (List.mem_of_mem_take hx)
  · have h1 := hp (gi st k) (by rw [gi_eq (by omega)]; exact List.getElem_mem _)
    have h2 := hp (gi st (k + 1)) (by rw [gi_eq (by omega)]; exact List.getElem_mem _)
    omega
  · exact hp x (List.mem_of_mem_drop hx)
/-- Where nothing is due, the whole stack is in order. -/
theorem ord_end {st : List Int} (hp : ∀ x ∈ st, 1 ≤ x) (ho : Ord2 st (st.length - 2)) (h : ¬ 0 ≤ nextF st false) : Ord2 st st.length := by
  unfold nextF at h
  by_cases h0 : st.length < 2
  · exact ⟨fun i hi => by omega, fun i hi => by omega⟩
  · rw [if_neg h0, if_neg (by simp)] at h
    split at h
    · exact absurd (by split <;> omega) h
    · rename_i h2
      split at h
      · omega
      · rename_i h3
        unfold fromT at h2 h3
        have p1 : 1 ≤ gi st (st.length - 1) := hp _ (by rw [gi_eq (by omega)]; exact List.getElem_mem _)
        have e3 : 3 ≤ st.length → gi st (st.length - 1) + gi st (st.length - 2) < gi st (st.length - 3) := fun q => by
          rcases Int.lt_or_le (gi st (st.length - 1) + gi st (st.length - 2)) (gi st (st.length - 3)) with h | h
          · exact h
          · exact absurd (.inl ⟨q, h⟩) h2
        have e4 : 4 ≤ st.length → gi st (st.length - 3) + gi st (st.length - 2) < gi st (st.length - 4) := fun q => by
          rcases Int.lt_or_le (gi st (st.length - 3) + gi st (st.length - 2)) (gi st (st.length - 4)) with h | h
          · exact h
          · exact absurd (.inr ⟨q, h⟩) h2
        refine ⟨fun i hi => ?_, fun i hi => ?_⟩
        · by_cases a1 : i + 2 = st.length
          · rw [show i + 1 = st.length - 1 by omega, show i = st.length - 2 by omega]; omega
          · by_cases a2 : i + 3 = st.length
            · have := e3 (by omega)
              rw [show i + 1 = st.length - 2 by omega, show i = st.length - 3 by omega]; omega
            · exact ho.1 i (by omega)
        · by_cases a1 : i + 3 = st.length
          · have := e3 (by omega)
            rw [show i + 1 = st.length - 2 by omega, show i + 2 = st.length - 1 by omega, show i = st.length - 3 by omega]; omega
          · by_cases a2 : i + 4 = st.length
            · have := e4 (by omega)
              rw [show i + 1 = st.length - 3 by omega, show i + 2 = st.length - 2 by omega, show i = st.length - 4 by omega]; omega
            · exact ho.2 i (by omega)
theorem settle_ord : ∀ m st out, st.length ≤ m + 1 → (∀ x ∈ st, 1 ≤ x) → Ord2 st (st.length - 2) → (∀ x ∈ (settle false m st out).1, 1 ≤ x) ∧ Ord2 (settle false m st out).1 (settle false m st out).1.length ∧ sumI (settle false m st out).1 = sumI st := by
  intro m
  induction m with
  | zero =>
    intro st out hl hp ho
    exact ⟨hp, ⟨fun i hi => by simp [settle] at hi; omega, fun i hi => by simp [settle] at hi; omega⟩, rfl⟩
  | succ m ih =>
    intro st out hl hp ho
    by_cases h : 0 ≤ nextF st false
    · rw [settle_next h]
      have hb := nextF_bd h
      have hw := nextF_where h
      have hk : (nextF st false).toNat + 2 ≤ st.length := by omega
      have hml := mgAt_length hk
      obtain ⟨r1, r2, r3⟩ := ih (mgAt st (nextF st false).toNat) (out ++ [nextF st false]) (by omega) (pos_mg hk hp) (ord_mg hk hw ho)
      exact ⟨r1, r2, r3.trans (sumI_mgAt hk)⟩
    · rw [settle_stop h]
      exact ⟨hp, ord_end hp ho h, rfl⟩
theorem settle_some (e : Bool) : ∀ m st out, 1 ≤ st.length → 1 ≤ (settle e m st out).1.length := by
  intro m
  induction m with
  | zero => intro st out h; exact h
  | succ m ih =>
    intro st out h
    by_cases h0 : 0 ≤ nextF st e
    · rw [settle_next h0]
      have hb := nextF_bd h0
      have := mgAt_length (st := st) (k := (nextF st e).toNat) (by omega)
      exact ih _ _ (by omega)
    · rw [settle_stop h0]; exact h
theorem settle_one : ∀ m st out, st.length ≤ m + 1 → (settle true m st out).1.length ≤ 1 := by
  intro m
  induction m with
  | zero => intro st out h; exact h
  | succ m ih =>
    intro st out h
    by_cases h0 : 0 ≤ nextF st true
    · rw [settle_next h0]
      have hb := nextF_bd h0
      have := mgAt_length (st := st) (k := (nextF st true).toNat) (by omega)
      exact ih _ _ (by omega)
    · rw [settle_stop h0]
      unfold nextF at h0
      by_cases h1 : st.length < 2
      · dsimp only; omega
      · rw [if_neg h1, if_pos rfl] at h0
        exact absurd (by split <;> omega) h0
/-- How often x can be taken to two thirds until it is 1 or 0. -/
def itn : Nat → Nat → Nat
  | 0, _ => 0
  | f + 1, x => if x ≤ 1 then 0 else itn f (x * 2 / 3) + 1
theorem itn_mono : ∀ f x y, x ≤ y → itn f x ≤ itn f y := by
  intro f
  induction f with
  | zero => intro x y _; exact Nat.le_refl _
  | succ f ih =>
    intro x y h
    rw [itn, itn]
    by_cases hx : x ≤ 1
    · rw [if_pos hx]; exact Nat.zero_le _
    · rw [if_neg hx, if_neg (by omega)]
      have := ih (x * 2 / 3) (y * 2 / 3) (Nat.div_le_div_right (Nat.mul_le_mul_right 2 h))
      omega
/-- What stands behind entry i is at most twice the entry. -/
theorem ord_sum : ∀ (n : Nat) (st : List Int), st.length = n → (∀ x ∈ st, 1 ≤ x) → Ord2 st st.length → ∀ x l, st = x :: l → sumI l ≤ 2 * x := by
  intro n
  induction n using Nat.strongRecOn with
  | ind n ih =>
    intro st hn hp ho x l he
    subst he
    match l, hn, hp, ho with
    | [], _, hp, _ => have := hp x (by simp); simp only [sumI]; omega
    | [y], _, hp, ho =>
      have h1 := ho.1 0 (by simp)
      have hx := hp x (by simp)
      simp [gi] at h1
      simp only [sumI]; omega
    | y :: z :: r, hn, hp, ho =>
      have h1 := ho.2 0 (by simp)
      have h2 := ho.1 1 (by simp)
      simp [gi] at h1 h2
      have h3 := ih (z :: r).length (by simp at hn ⊢; omega) (z :: r) rfl (fun w hw => hp w (List.mem_cons_of_mem _ (List.mem_cons_of_mem _ hw)))
        ⟨fun i hi => by
          have := ho.1 (i + 2) (by simp at hi ⊢; omega)
          simpa [gi] using this, fun i hi => by
          have := ho.2 (i + 2) (by simp at hi ⊢; omega)
          simpa [gi] using this⟩ z r rfl
      simp only [sumI]; omega
theorem sumI_pos1 {st : List Int} (h : ∀ x ∈ st, 1 ≤ x) : (st.length : Int) ≤ sumI st := by
  induction st with
  | nil => simp [sumI]
  | cons x l ih =>
    have h1 := h x (by simp)
    have h2 := ih fun y hy => h y (by simp [hy])
    simp only [sumI, List.length_cons]; omega
/-- The height is at most one more than the steps of the total. -/
theorem ord_height : ∀ (st : List Int) (f : Nat), st.length ≤ f + 1 → (∀ x ∈ st, 1 ≤ x) → Ord2 st st.length → st.length ≤ itn f (sumI st).toNat + 1 := by
  intro st
  induction st with
  | nil => intro f _ _ _; exact Nat.zero_le _
  | cons x l ih =>
    intro f hf hp ho
    have hs := ord_sum _ _ rfl hp ho x l rfl
    have hp2 : ∀ y ∈ l, 1 ≤ y := fun y hy => hp y (by simp [hy])
    have hx := hp x (by simp)
    have hpos := sumI_pos1 hp2
    by_cases hl : l.length = 0
    · simp [hl]
    · obtain ⟨f', rfl⟩ : ∃ f', f = f' + 1 := ⟨f - 1, by simp at hf; omega⟩
      have h1 := ih f' (by simp at hf; omega) hp2 ⟨fun i hi => by
          have := ho.1 (i + 1) (by simp at hi ⊢; omega)
          simpa [gi] using this, fun i hi => by
          have := ho.2 (i + 1) (by simp at hi ⊢; omega)
          simpa [gi] using this⟩
      rw [sumI_cons, itn, if_neg (by omega), List.length_cons]
      have h2 := itn_mono f' (sumI l).toNat ((x + sumI l).toNat * 2 / 3) (by omega)
      omega
theorem sumI_take_le {cs : List Int} (h : ∀ c ∈ cs, 1 ≤ c) (i : Nat) : sumI (cs.take i) ≤ sumI cs := by
  have e := sumI_append (cs.take i) (cs.drop i)
  rw [List.take_append_drop] at e
  have := sumI_pos (st := cs.drop i) (fun x hx => by have := h x (List.mem_of_mem_drop hx); omega)
  omega
theorem planK_ord {cs : List Int} (h40 : cs.length ≤ 40) (h : ∀ c ∈ cs, 1 ≤ c ∧ c ≤ 100000) : ∀ i, i ≤ cs.length → (∀ x ∈ (planK cs i).1, 1 ≤ x) ∧ Ord2 (planK cs i).1 (planK cs i).1.length ∧ sumI (planK cs i).1 = sumI (cs.take i) ∧
    (planK cs i).2.2 ≤ itn 100 (sumI cs).toNat + 2 ∧ (1 ≤ i → 1 ≤ (planK cs i).1.length) ∧ (i ≤ 60 → True) := by
  intro i
  induction i with
  | zero => intro _; exact ⟨fun x hx => by simp [planK] at hx, ⟨fun i hi => by simp [planK] at hi, fun i hi => by simp [planK] at hi⟩, by simp [planK], by simp [planK], fun h => by omega, fun _ => trivial⟩
  | succ i ih =>
    intro hi
    obtain ⟨h1, h2, h3, h4, h5, _⟩ := ih (by omega)
    obtain ⟨_, hl, _⟩ := planK_facts h i (by omega)
    have hc : 1 ≤ gi cs i ∧ gi cs i ≤ 100000 := by rw [gi_eq (by omega)]; exact h _ (List.getElem_mem _)
    have hp2 : ∀ x ∈ (planK cs i).1 ++ [gi cs i], 1 ≤ x := fun x hx => by
      rw [List.mem_append] at hx
      rcases hx with hx | hx
      · exact h1 x hx
      · simp at hx; omega
    have ho2 : Ord2 ((planK cs i).1 ++ [gi cs i]) (((planK cs i).1 ++ [gi cs i]).length - 2) := by
      have ga : ∀ j, j < (planK cs i).1.length → gi ((planK cs i).1 ++ [gi cs i]) j = gi (planK cs i).1 j := fun j hj => by simp [gi, List.getD, List.getElem?_append, hj]
      refine ⟨fun j hj => ?_, fun j hj => ?_⟩
      · simp at hj
        rw [ga j (by omega), ga (j + 1) (by omega)]; exact h2.1 j (by omega)
      · simp at hj
        rw [ga j (by omega), ga (j + 1) (by omega), ga (j + 2) (by omega)]; exact h2.2 j (by omega)
    obtain ⟨s1, s2, s3⟩ := settle_ord (i + 1) ((planK cs i).1 ++ [gi cs i]) (planK cs i).2.1 (by simp; omega) hp2 ho2
    have s4 := settle_some false (i + 1) ((planK cs i).1 ++ [gi cs i]) (planK cs i).2.1 (by simp)
    refine ⟨s1, s2, ?_, ?_, fun _ => s4, fun _ => trivial⟩
    · simp only [planK]
      rw [s3, sumI_append, h3]
      rw [List.take_succ_eq_append_getElem (by omega), sumI_append, ← gi_eq (by omega)]
    · simp only [planK]
      have hh := ord_height (planK cs i).1 100 (by omega) h1 h2
      have hm := itn_mono 100 (sumI (planK cs i).1).toNat (sumI cs).toNat (by
        have := sumI_take_le (fun c hc => (h c hc).1) i
        rw [h3]; omega)
      omega
theorem itn_steps (f x : Nat) : x * 2 / 3 ≤ x := by omega
/-- What FnRunMerges asks. -/
theorem rmR_facts {cs : List Int} (h : (rmR cs).2.2 = true) : cs.length ≤ 40 ∧ (∀ c ∈ cs, 1 ≤ c ∧ c ≤ 100000) ∧ (cs.length ≠ 0 → (rmR cs).1.length + 1 = cs.length) ∧ (rmR cs).2.1 ≤ cs.length ∧ (rmR cs).2.1 ≤ itn 100 (sumI cs).toNat + 2 := by
  unfold rmR at h ⊢
  split at h
  · rename_i hok
    rw [if_pos hok]
    obtain ⟨h40, hc⟩ := okC_iff.1 hok
    obtain ⟨p1, p2, p3, p4, p5, _⟩ := planK_ord h40 hc cs.length (Nat.le_refl _)
    obtain ⟨q1, q2, q3⟩ := planK_facts hc cs.length (Nat.le_refl _)
    refine ⟨h40, hc, fun hn => ?_, q3, p4⟩
    have e1 := settle_one cs.length (planK cs cs.length).1 (planK cs cs.length).2.1 (by omega)
    have e2 := settle_some true cs.length (planK cs cs.length).1 (planK cs cs.length).2.1 (p5 (by omega))
    have e3 := (settle_facts true _ cs.length _ (planK cs cs.length).2.1 q1).2
    simp only [rmF]
    omega
  · cases h
theorem rmR_none {cs : List Int} (h : (rmR cs).2.2 = false) : (rmR cs).1 = [] ∧ (rmR cs).2.1 = 0 := by
  unfold rmR at h ⊢
  split at h
  · cases h
  · rename_i hok; rw [if_neg hok]; exact ⟨rfl, rfl⟩
end Go.Proofs.Ytbfffpdcpoejnaa
