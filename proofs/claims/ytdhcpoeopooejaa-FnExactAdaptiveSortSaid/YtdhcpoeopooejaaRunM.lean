/- RunMerges: what it computes; spec.l5Next. -/
import Derived.Test.YtdhcpoeopooejaaValid
import Derived.Test.YtdhcpoeopooejaaIntSS
namespace Go.Proofs.Ytdhcpoeopooejaa
open Go.RowKit
set_option linter.unusedVariables false
set_option linter.unusedSimpArgs false

/-- The k-th entry from the top. -/
def fromT (st : List Int) (k : Nat) : Int := gi st (st.length - k)
def nextF (st : List Int) (e : Bool) : Int :=
  if st.length < 2 then -1
  else if e = true then (if 3 ≤ st.length ∧ fromT st 3 < fromT st 1 then (st.length : Int) - 3 else (st.length : Int) - 2)
  else if (3 ≤ st.length ∧ fromT st 3 ≤ fromT st 1 + fromT st 2) ∨ (4 ≤ st.length ∧ fromT st 4 ≤ fromT st 3 + fromT st 2) then (if fromT st 3 < fromT st 1 then (st.length : Int) - 3 else (st.length : Int) - 2)
  else if fromT st 2 ≤ fromT st 1 then (st.length : Int) - 2 else -1
theorem nextF_bd {st : List Int} {e : Bool} (h : 0 ≤ nextF st e) : nextF st e + 2 ≤ st.length := by
  unfold nextF at *
  split at h
  · omega
  · split at h
    · split <;> (try split) <;> omega
    · split at h
      · rename_i h1 h2 h3
        rw [if_neg h1, if_neg h2, if_pos h3]
        split <;> omega
      · split at h
        · rename_i h1 h2 h3 h4
          rw [if_neg h1, if_neg h2, if_neg h3, if_pos h4]
          omega
        · omega
/-- Entries at and at + 1 merged. -/
def mgAt (st : List Int) (k : Nat) : List Int := st.take k ++ ((gi st k + gi st (k + 1)) :: st.drop (k + 2))
theorem mgAt_length {st : List Int} {k : Nat} (h : k + 2 ≤ st.length) : (mgAt st k).length + 1 = st.length := by simp [mgAt]; omega
def settle (e : Bool) : Nat → List Int → List Int → List Int × List Int
  | 0, st, out => (st, out)
  | m + 1, st, out => if 0 ≤ nextF st e then settle e m (mgAt st (nextF st e).toNat) (out ++ [nextF st e]) else (st, out)
theorem settle_stop {e : Bool} {m : Nat} {st out : List Int} (h : ¬ 0 ≤ nextF st e) : settle e m st out = (st, out) := by
  cases m with
  | zero => rfl
  | succ m => rw [settle, if_neg h]
theorem settle_next {e : Bool} {m : Nat} {st out : List Int} (h : 0 ≤ nextF st e) : settle e (m + 1) st out = settle e m (mgAt st (nextF st e).toNat) (out ++ [nextF st e]) := by rw [settle, if_pos h]
/-- Entries that are not negative and sum to no more than B. -/
def sumI : List Int → Int
  | [] => 0
  | x :: l => x + sumI l
theorem sumI_append (a b : List Int) : sumI (a ++ b) = sumI a + sumI b := by
  induction a with
  | nil => simp [sumI]
  | cons x a ih => simp only [List.cons_append, sumI, ih]; omega
structure Gd (B : Int) (st : List Int) : Prop where
  pos : ∀ x ∈ st, 0 ≤ x
  sum : sumI st ≤ B
theorem sumI_pos {st : List Int} (h : ∀ x ∈ st, 0 ≤ x) : 0 ≤ sumI st := by
  induction st with
  | nil => exact Int.le_refl _
  | cons x l ih =>
    have h1 := h x (by simp)
    have h2 := ih fun y hy => h y (by simp [hy])
    simp only [sumI]; omega
theorem sumI_mem {st : List Int} (h : ∀ x ∈ st, 0 ≤ x) : ∀ x ∈ st, x ≤ sumI st := by
  induction st with
  | nil => intro x hx; cases hx
  | cons y l ih =>
    intro x hx
    have h1 := h y (by simp)
    have h2 := sumI_pos (st := l) fun z hz => h z (by simp [hz])
    simp only [sumI]
    rcases List.mem_cons.1 hx with rfl | hx
    · omega
    · have := ih (fun z hz => h z (by simp [hz])) x hx; omega
theorem Gd.at_ {B : Int} {st : List Int} (h : Gd B st) {i : Nat} (hi : i < st.length) : 0 ≤ gi st i ∧ gi st i ≤ B := by
  rw [gi_eq hi]
  have h1 := h.pos _ (List.getElem_mem hi)
  have h2 := sumI_mem h.pos _ (List.getElem_mem hi)
  have := h.sum
  omega
theorem split_two (st : List Int) (k : Nat) (h : k + 2 ≤ st.length) : st = st.take k ++ (gi st k :: gi st (k + 1) :: st.drop (k + 2)) := by
  rw [gi_eq (by omega), gi_eq (by omega)]
  conv => lhs; rw [← List.take_append_drop k st, List.drop_eq_getElem_cons (by omega), List.drop_eq_getElem_cons (by omega)]
theorem Gd.mg {B : Int} {st : List Int} (h : Gd B st) {k : Nat} (hk : k + 2 ≤ st.length) : Gd B (mgAt st k) := by
  have hs := split_two st k hk
  refine ⟨fun x hx => ?_, ?_⟩
  · unfold mgAt at hx
    rw [List.mem_append, List.mem_cons] at hx
    have h1 := (h.at_ (i := k) (by omega)).1
    have h2 := (h.at_ (i := k + 1) (by omega)).1
    rcases hx with hx | rfl | hx
    · exact h.pos x (List.mem_of_mem_take hx)
    · omega
    · exact h.pos x (List.mem_of_mem_drop hx)
  · have h1 := h.sum
    rw [hs, sumI_append] at h1
    unfold mgAt
    rw [sumI_append]
    simp only [sumI] at h1 ⊢
    omega
theorem Gd.push {B : Int} {st : List Int} (h : Gd B st) {x y : Int} (hx : 0 ≤ x) (hy : x ≤ y) : Gd (B + y) (st ++ [x]) := by
  refine ⟨fun z hz => ?_, ?_⟩
  · rw [List.mem_append] at hz
    rcases hz with hz | hz
    · exact h.pos z hz
    · simp at hz; omega
  · rw [sumI_append]
    have := h.sum
    simp only [sumI]
    omega
theorem settle_facts (e : Bool) (B : Int) : ∀ m st out, Gd B st → Gd B (settle e m st out).1 ∧ (settle e m st out).1.length + (settle e m st out).2.length = st.length + out.length := by
  intro m
  induction m with
  | zero => intro st out h; exact ⟨h, rfl⟩
  | succ m ih =>
    intro st out h
    rw [settle]
    split
    · rename_i h0
      have hb := nextF_bd h0
      have hk : (nextF st e).toNat + 2 ≤ st.length := by omega
      have := ih (mgAt st (nextF st e).toNat) (out ++ [nextF st e]) (h.mg hk)
      refine ⟨this.1, ?_⟩
      rw [this.2]
      have h2 := mgAt_length hk
      simp; omega
    · exact ⟨h, rfl⟩
/-- Stack, merges and greatest height behind i pushes. -/
def planK (cs : List Int) : Nat → List Int × List Int × Nat
  | 0 => ([], [], 0)
  | i + 1 => ((settle false (i + 1) ((planK cs i).1 ++ [gi cs i]) (planK cs i).2.1).1, (settle false (i + 1) ((planK cs i).1 ++ [gi cs i]) (planK cs i).2.1).2, max (planK cs i).2.2 ((planK cs i).1.length + 1))
def okC (cs : List Int) : Bool := decide (cs.length ≤ 40) && cs.all fun c => inB c 1 100000
theorem planK_facts {cs : List Int} (h : ∀ c ∈ cs, 1 ≤ c ∧ c ≤ 100000) : ∀ i, i ≤ cs.length → Gd (100000 * (i : Int)) (planK cs i).1 ∧ (planK cs i).1.length + (planK cs i).2.1.length = i ∧ (planK cs i).2.2 ≤ i := by
  intro i
  induction i with
  | zero => intro _; exact ⟨⟨fun x hx => absurd hx (by simp [planK]), by simp [planK, sumI]⟩, rfl, Nat.le_refl _⟩
  | succ i ih =>
    intro hi
    obtain ⟨h1, h2, h3⟩ := ih (by omega)
    have hc : 1 ≤ gi cs i ∧ gi cs i ≤ 100000 := by rw [gi_eq (by omega)]; exact h _ (List.getElem_mem _)
    have hg := h1.push (x := gi cs i) (y := 100000) (by omega) hc.2
    have hs := settle_facts false _ (i + 1) _ (planK cs i).2.1 hg
    refine ⟨?_, ?_, ?_⟩
    · have e : 100000 * ((i + 1 : Nat) : Int) = 100000 * (i : Int) + 100000 := by omega
      rw [e]; exact hs.1
    · simp only [planK]
      rw [hs.2]
      simp; omega
    · simp only [planK]
      omega
/-- The result of RunMerges. -/
def rmF (cs : List Int) : List Int × Nat := ((settle true cs.length (planK cs cs.length).1 (planK cs cs.length).2.1).2, (planK cs cs.length).2.2)
def rmR (cs : List Int) : List Int × Nat × Bool := if okC cs then ((rmF cs).1, (rmF cs).2, true) else ([], 0, false)
theorem okC_iff {cs : List Int} : okC cs = true ↔ cs.length ≤ 40 ∧ ∀ c ∈ cs, 1 ≤ c ∧ c ≤ 100000 := by
  simp [okC, inB]
theorem rmR_len (cs : List Int) : (rmR cs).1.length ≤ 100000000000 := by
  unfold rmR
  split
  · rename_i h
    have h1 := okC_iff.1 h
    obtain ⟨h2, h3, h4⟩ := planK_facts h1.2 cs.length (Nat.le_refl _)
    have h5 := (settle_facts true _ cs.length _ (planK cs cs.length).2.1 h2).2
    unfold rmF
    dsimp only
    omega
  · simp
end Go.Proofs.Ytdhcpoeopooejaa
