/- ParseSpecs in plain words. -/
import Derived.Test.YtoeonplbgbgjmaaDoorFSpM
import Derived.Test.YtoeonplbgbgjmaaDoorSplL
namespace Go.Proofs.YtoeonplbgbgjmaaDoor
open Go.RowKit
set_option linter.unusedVariables false
set_option linter.unusedSimpArgs false

def sb (W : ByteArray) (j : Nat) : UInt8 := W.data.toList.getD j 0
theorem sb_eq {W : ByteArray} {j : Nat} (h : j < W.size) : sb W j = W[j] := by
  have h2 : j < W.data.toList.length := by rw [size_toList]; exact h
  unfold sb
  rw [List.getD_eq_getElem?_getD, List.getElem?_eq_getElem h2]
  rfl
/-- The key that impl reads off a word. -/
def kI (W : ByteArray) : KS := (((sb W 0).toNat : Int) - 48, hasC (W.extract 1 W.size) 110, hasC (W.extract 1 W.size) 100, hasC (W.extract 1 W.size) 102)
/-- One byte of spec's reading. -/
def stp (j : Nat) (b : UInt8) (k : KS) : KS :=
  if j = 0 ∧ 48 ≤ b.toNat ∧ b.toNat ≤ 57 then ((b.toNat : Int) - 48, k.2.1, k.2.2.1, k.2.2.2)
  else if b.toNat = 110 then (k.1, true, k.2.2.1, k.2.2.2)
  else if b.toNat = 100 then (k.1, k.2.1, true, k.2.2.2)
  else if b.toNat = 102 then (k.1, k.2.1, k.2.2.1, true)
  else k
def kst (W : ByteArray) : Nat → KS
  | 0 => (-1, false, false, false)
  | j + 1 => stp j (sb W j) (kst W j)
def kS (W : ByteArray) : KS := kst W W.size
def dgF (W : ByteArray) : Prop := 0 < W.size ∧ 48 ≤ (sb W 0).toNat ∧ (sb W 0).toNat ≤ 57
theorem kst_bad {W : ByteArray} (h : ¬ (48 ≤ (sb W 0).toNat ∧ (sb W 0).toNat ≤ 57)) : ∀ j, (kst W j).1 = -1
  | 0 => rfl
  | j + 1 => by
    have ih := kst_bad h j
    rw [kst]
    unfold stp
    split
    · rename_i h1
      obtain ⟨rfl, h1⟩ := h1
      exact absurd h1 h
    · split
      · exact ih
      · split
        · exact ih
        · split <;> exact ih
theorem kst_good {W : ByteArray} (h : 48 ≤ (sb W 0).toNat ∧ (sb W 0).toNat ≤ 57) : ∀ j,
    kst W (j + 1) = (((sb W 0).toNat : Int) - 48, decide (∃ i, i < j ∧ (sb W (i + 1)).toNat = 110), decide (∃ i, i < j ∧ (sb W (i + 1)).toNat = 100), decide (∃ i, i < j ∧ (sb W (i + 1)).toNat = 102))
  | 0 => by
    rw [kst]
    unfold stp
    rw [if_pos ⟨rfl, h⟩]
    simp [kst]
  | j + 1 => by
    rw [kst, kst_good h j]
    have hx : ∀ c : Nat, (∃ i, i < j + 1 ∧ (sb W (i + 1)).toNat = c) ↔ ((∃ i, i < j ∧ (sb W (i + 1)).toNat = c) ∨ (sb W (j + 1)).toNat = c) := by
      intro c
      constructor
      · rintro ⟨i, hi, e⟩
        by_cases hij : i = j
        · subst hij; exact .inr e
        · exact .inl ⟨i, by omega, e⟩
      · rintro (⟨i, hi, e⟩ | e)
        · exact ⟨i, by omega, e⟩
        · exact ⟨j, by omega, e⟩
    unfold stp
    rw [if_neg (by simp)]
    simp only [hx]
    by_cases e1 : (sb W (j + 1)).toNat = 110
    · simp [e1]
    · by_cases e2 : (sb W (j + 1)).toNat = 100
      · simp [e2]
      · by_cases e3 : (sb W (j + 1)).toNat = 102
        · simp [e3]
        · simp [e1, e2, e3]
theorem ext_get {W : ByteArray} {i : Nat} (h : i < (W.extract 1 W.size).size) : (W.extract 1 W.size)[i] = sb W (i + 1) := by
  have h2 : i + 1 < W.size := by simp at h; omega
  rw [sb_eq h2, ByteArray.getElem_extract]
  congr 1
  omega
theorem hasC_dec {W : ByteArray} {j : Nat} (c : UInt8) (hj : W.size = j + 1) : hasC (W.extract 1 W.size) c = decide (∃ i, i < j ∧ (sb W (i + 1)).toNat = c.toNat) := by
  by_cases h : ∃ i, i < j ∧ (sb W (i + 1)).toNat = c.toNat
  · rw [decide_eq_true h]
    obtain ⟨i, hi, e⟩ := h
    have h2 : i < (W.extract 1 W.size).size := by simp; omega
    exact hasC_true h2 (by rw [ext_get h2]; exact UInt8.toNat_inj.1 e)
  · rw [decide_eq_false h]
    refine hasC_false fun k hk e => h ⟨k, by simp at hk; omega, ?_⟩
    rw [ext_get hk] at e
    rw [e]
theorem kS_good {W : ByteArray} (h : dgF W) : kS W = kI W := by
  obtain ⟨h0, h1⟩ := h
  obtain ⟨j, hj⟩ : ∃ j, W.size = j + 1 := ⟨W.size - 1, by omega⟩
  unfold kS kI
  rw [hasC_dec 110 hj, hasC_dec 100 hj, hasC_dec 102 hj, hj, kst_good h1]
  rfl
theorem kS_field {W : ByteArray} (h : 0 ≤ (kS W).1) : dgF W := by
  by_cases h1 : 48 ≤ (sb W 0).toNat ∧ (sb W 0).toNat ≤ 57
  · by_cases h0 : 0 < W.size
    · exact ⟨h0, h1⟩
    · have : W.size = 0 := by omega
      unfold kS at h
      rw [this] at h
      simp [kst] at h
  · unfold kS at h
    rw [kst_bad h1] at h
    omega
theorem kI_field {W : ByteArray} (hn : W.size ≠ 0) (h : 0 ≤ (kI W).1) (h2 : (kI W).1 ≤ 5) : dgF W := by
  simp only [kI] at h h2
  exact ⟨by omega, by omega, by omega⟩
def psO (s : ByteArray) : List KS := (parts 44 s).map kI
def psQ (s : ByteArray) : List KS := (parts 44 s).map kS
def psG (s : ByteArray) : Prop := s.size ≤ 40 ∧ (∀ i, i < (parts 44 s).length → (gs (parts 44 s) i).size ≠ 0) ∧ okK (psO s) = true ∧ tK (psO s) (psO s).length = s
open Classical in
noncomputable def psR (s : ByteArray) : List KS × Bool := if psG s then (psO s, true) else ([], false)
theorem psR_yes {s : ByteArray} (h : psG s) : psR s = (psO s, true) := if_pos h
theorem psR_no {s : ByteArray} (h : ¬ psG s) : psR s = ([], false) := if_neg h
theorem gk_map (f : ByteArray → KS) {L : List ByteArray} {i : Nat} (h : i < L.length) : gk (L.map f) i = f (gs L i) := by
  rw [gk_eq (by simpa using h), gs_eq h]; simp
theorem psQ_good {s : ByteArray} (h : okK (psQ s) = true) : psQ s = psO s ∧ ∀ i, i < (parts 44 s).length → (gs (parts 44 s) i).size ≠ 0 := by
  have hf : ∀ i, i < (parts 44 s).length → dgF (gs (parts 44 s) i) := fun i hi => by
    have := okK_fld h (i := i) (by simpa [psQ] using hi)
    unfold psQ at this
    rw [gk_map kS hi] at this
    exact kS_field this.1
  refine ⟨gk_ext (by simp [psQ, psO]) fun j hj => ?_, fun i hi => by have := (hf i hi).1; omega⟩
  have hj2 : j < (parts 44 s).length := by simpa [psQ] using hj
  unfold psQ psO
  rw [gk_map kS hj2, gk_map kI hj2]
  exact kS_good (hf j hj2)
theorem psO_good {s : ByteArray} (hn : ∀ i, i < (parts 44 s).length → (gs (parts 44 s) i).size ≠ 0) (h : okK (psO s) = true) : psQ s = psO s := by
  refine gk_ext (by simp [psQ, psO]) fun j hj => ?_
  have hj2 : j < (parts 44 s).length := by simpa [psQ] using hj
  have := okK_fld h (i := j) (by simpa [psO] using hj2)
  unfold psO at this
  rw [gk_map kI hj2] at this
  unfold psQ psO
  rw [gk_map kS hj2, gk_map kI hj2]
  exact kS_good (kI_field (hn j hj2) this.1 this.2)
/-- spec's own test. -/
theorem psR_spec_yes {s : ByteArray} (h0 : s.size ≤ 40) (h : okK (psQ s) = true) (ht : tK (psQ s) (psQ s).length = s) : psR s = (psQ s, true) := by
  obtain ⟨e, hn⟩ := psQ_good h
  rw [e] at h ht ⊢
  exact psR_yes ⟨h0, hn, h, ht⟩
theorem psR_spec_bad {s : ByteArray} (h : okK (psQ s) = false) : psR s = ([], false) :=
  psR_no fun ⟨_, hn, ho, _⟩ => by rw [psO_good hn ho, ho] at h; cases h
theorem psR_spec_ne {s : ByteArray} (h : okK (psQ s) = true) (ht : ¬ tK (psQ s) (psQ s).length = s) : psR s = ([], false) :=
  psR_no fun ⟨_, hn, ho, h3⟩ => ht (by rw [psO_good hn ho]; exact h3)
theorem psO_len (s : ByteArray) : (psO s).length = (parts 44 s).length := by simp [psO]
theorem psQ_len (s : ByteArray) : (psQ s).length = (parts 44 s).length := by simp [psQ]
theorem psR_len {s : ByteArray} : (psR s).1.length ≤ 100000000000 := by
  by_cases h : psG s
  · rw [psR_yes h]
    have := parts_len 44 s
    have h1 := h.1
    rw [psO_len]
    omega
  · rw [psR_no h]
    simp
end Go.Proofs.YtoeonplbgbgjmaaDoor
