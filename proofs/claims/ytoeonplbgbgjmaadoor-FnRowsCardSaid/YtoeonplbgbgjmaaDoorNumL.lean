/- Decimal numbers: what FormatInt and ParseInt compute (without a program). -/
import Derived.Test.YtoeonplbgbgjmaaDoorMg1
import Derived.Lib.ItoaLen
import Derived.Lib.AtoiTie
namespace Go.Proofs.YtoeonplbgbgjmaaDoor
open Go.RowKit
set_option linter.unusedVariables false
set_option linter.unusedSimpArgs false

def strB (l : List UInt8) : ByteArray := ⟨l.toArray⟩
theorem strB_toList (s : ByteArray) : strB s.data.toList = s := by cases s; simp [strB]
theorem strB_data (l : List UInt8) : (strB l).data.toList = l := by simp [strB]
theorem strB_size (l : List UInt8) : (strB l).size = l.length := by simp [strB, ByteArray.size]
theorem strB_inj {l : List UInt8} {s : ByteArray} : strB l = s ↔ l = s.data.toList := by
  constructor
  · rintro rfl; exact (strB_data l).symm
  · rintro rfl; exact strB_toList s
theorem strB_append (a b : List UInt8) : strB a ++ strB b = strB (a ++ b) := by
  apply ByteArray.ext
  simp [strB]
theorem size_toList (s : ByteArray) : s.data.toList.length = s.size := rfl
theorem ne_toList {a b : ByteArray} (h : ¬ a = b) : (a.toList == b.toList) = false := by
  rw [beq_eq_false_iff_ne, ByteArray.toList_eq, ByteArray.toList_eq]
  intro e
  exact h (by rw [← strB_toList a, e, strB_toList])
/-- A decimal number fits six digits. -/
def decB (n : Int) : Bool := decide (-999999 ≤ n) && decide (n ≤ 999999)
theorem decB_iff {n : Int} : decB n = true ↔ -999999 ≤ n ∧ n ≤ 999999 := by simp [decB]
def fiR (n : Int) : ByteArray × Bool := if decB n then (strB (Lib.itoa n), true) else (ByteArray.empty, false)
/-- The number of a text: the one whose decimal text it is. -/
def piR (s : ByteArray) : Int × Bool := match Lib.atoi s.data.toList with
  | some v => if decB v = true ∧ Lib.itoa v = s.data.toList then (v, true) else (0, false)
  | none => (0, false)

theorem nDigits_six {u : Nat} (h : u ≤ 999999) : Lib.nDigits u ≤ 6 := by
  by_cases h0 : u < 10
  · rw [Lib.nDigits_small h0]; omega
  · have aux : ∀ k, k < 6 → 10 ^ k ≤ u → u < 10 ^ (k + 1) → Lib.nDigits u ≤ 6 := by
      intro k hk h1 h2
      rw [Lib.nDigits_unique k u h1 h2]; omega
    by_cases h1 : u < 100
    · exact aux 1 (by omega) (by omega) (by omega)
    by_cases h2 : u < 1000
    · exact aux 2 (by omega) (by omega) (by omega)
    by_cases h3 : u < 10000
    · exact aux 3 (by omega) (by omega) (by omega)
    by_cases h4 : u < 100000
    · exact aux 4 (by omega) (by omega) (by omega)
    · exact aux 5 (by omega) (by omega) (by omega)
theorem decDigits_len6 {u : Nat} (h : u ≤ 999999) : (Lib.decDigits u).length ≤ 6 := by
  rw [Lib.decDigits_length]; exact nDigits_six h
theorem decDigits_ne (u : Nat) : 1 ≤ (Lib.decDigits u).length := by rw [Lib.decDigits_length]; exact Lib.nDigits_pos u
theorem itoa_len7 {n : Int} (h : decB n = true) : (Lib.itoa n).length ≤ 7 := by
  have h' := decB_iff.1 h
  unfold Lib.itoa
  split
  · have := decDigits_len6 (u := n.natAbs) (by omega); simp; omega
  · have := decDigits_len6 (u := n.toNat) (by omega); omega
theorem digit_byte (d : Nat) (h : d < 10) : Lib.digitVal (UInt8.ofNat (48 + d)) = some d := by
  have : ∀ d : Fin 10, Lib.digitVal (UInt8.ofNat (48 + d.val)) = some d.val := by decide
  exact this ⟨d, h⟩
/-- Every byte of a number's digits is a digit. -/
theorem decDigits_digits : ∀ (f u : Nat), u < f → ∀ b ∈ Lib.decDigits u, 48 ≤ b.toNat ∧ b.toNat ≤ 57 := by
  intro f
  induction f with
  | zero => intro u h; omega
  | succ f ih =>
    intro u hu b hb
    rw [Lib.decDigits] at hb
    by_cases h : u < 10
    · rw [dif_pos h] at hb
      rw [List.mem_singleton] at hb
      subst hb
      have := Lib.digitVal_eq (digit_byte u h)
      omega
    · rw [dif_neg h, List.mem_append] at hb
      rcases hb with hb | hb
      · exact ih (u / 10) (by omega) b hb
      · rw [List.mem_singleton] at hb
        subst hb
        have := Lib.digitVal_eq (digit_byte (u % 10) (by omega))
        omega
theorem itoa_head {n : Int} {b : UInt8} {r : List UInt8} (h : Lib.itoa n = b :: r) : b.toNat = 45 ∨ (48 ≤ b.toNat ∧ b.toNat ≤ 57) := by
  unfold Lib.itoa at h
  split at h
  · simp at h; left; rw [← h.1]; rfl
  · right
    exact decDigits_digits (n.toNat + 1) n.toNat (by omega) b (by rw [h]; simp)
/-- What spec.l1Read reads of the digits t, the sign told apart. -/
def readT (neg : Bool) (t : List UInt8) : Option Int := if 1 ≤ t.length ∧ t.length ≤ 6 then (Lib.decFrom 0 t).map fun (m : Nat) => if neg then -(m : Int) else (m : Int) else none
def signB (l : List UInt8) : Bool := decide (1 < l.length) && decide (l.head? = some 45)
def readO (l : List UInt8) : Option Int := if signB l then readT true (l.drop 1) else readT false l
theorem decFrom6 {t : List UInt8} {m : Nat} (h : Lib.decFrom 0 t = some m) (hl : t.length ≤ 6) : m ≤ 999999 := by
  have h1 := Lib.decFrom_lt t 0 m h
  have h2 : 10 ^ t.length ≤ 10 ^ 6 := Nat.pow_le_pow_right (by omega) hl
  omega
theorem readT_dec {neg : Bool} {t : List UInt8} {v : Int} (h : readT neg t = some v) : decB v = true := by
  unfold readT at h
  split at h
  · rename_i hl
    cases hd : Lib.decFrom 0 t with
    | none => rw [hd] at h; simp at h
    | some m =>
      rw [hd] at h
      have := decFrom6 hd hl.2
      simp at h
      rw [decB_iff]
      cases neg <;> simp at h <;> omega
  · cases h
theorem decNat_pos {t : List UInt8} (h : 1 ≤ t.length) : Lib.decNat t = Lib.decFrom 0 t := by
  unfold Lib.decNat
  rw [if_neg]
  intro e
  rw [List.isEmpty_iff] at e
  subst e; simp at h
/-- spec.l1Read's answer is piR. -/
theorem piR_read (s : ByteArray) : piR s = match readO s.data.toList with
    | some v => if Lib.itoa v = s.data.toList then (v, true) else (0, false)
    | none => (0, false) := by
  unfold piR
  generalize s.data.toList = l
  have key : ∀ v, Lib.atoi l = some v → decB v = true → Lib.itoa v = l → readO l = some v := by
    intro v h1 h2 h3
    have hl := itoa_len7 h2
    rw [h3] at hl
    match l, h1, h3 with
    | [], h1, _ => simp [Lib.atoi] at h1
    | b :: r, h1, h3 =>
      have hh := itoa_head h3
      unfold Lib.atoi at h1
      by_cases e1 : b = 45
      · subst e1
        simp only [beq_self_eq_true, if_true] at h1
        cases hd : Lib.decNat r with
        | none => rw [hd] at h1; simp at h1
        | some m =>
          rw [hd] at h1
          obtain ⟨hne, hdf⟩ := Lib.decNat_some hd
          have hr : 1 ≤ r.length := List.length_pos_iff.2 hne
          simp only [List.length_cons] at hl
          have hs : signB (45 :: r) = true := by simp [signB]; omega
          unfold readO
          rw [if_pos hs]
          unfold readT
          rw [List.drop_one, List.tail_cons, if_pos (by omega), hdf]
          simpa using h1
      · have e1' : (b == 45) = false := by simpa using e1
        by_cases e2 : b = 43
        · subst e2; exfalso; revert hh; decide
        · have e2' : (b == 43) = false := by simpa using e2
          simp only [e1', e2', Bool.false_eq_true, if_false] at h1
          cases hd : Lib.decNat (b :: r) with
          | none => rw [hd] at h1; simp at h1
          | some m =>
            rw [hd] at h1
            obtain ⟨_, hdf⟩ := Lib.decNat_some hd
            have hs : signB (b :: r) = false := by simp [signB]; intro _; exact e1
            unfold readO
            rw [if_neg (by rw [hs]; simp)]
            unfold readT
            rw [if_pos (by constructor; · simp
                           · by_cases hneg : v < 0
                             · exfalso
                               simp at h1; omega
                             · rw [← h3]; unfold Lib.itoa; rw [if_neg hneg]; exact decDigits_len6 (by have := decB_iff.1 h2; omega)), hdf]
            simpa using h1
  have key2 : ∀ v, readO l = some v → Lib.itoa v = l → Lib.atoi l = some v ∧ decB v = true := by
    intro v h1 h3
    unfold readO at h1
    match l, h1, h3 with
    | [], h1, _ => simp [signB, readT] at h1
    | b :: r, h1, h3 =>
      have hh := itoa_head h3
      by_cases hs : signB (b :: r) = true
      · rw [if_pos hs] at h1
        have hdec := readT_dec h1
        simp [signB] at hs
        obtain ⟨hr, rfl⟩ := hs
        rw [List.drop_one, List.tail_cons] at h1
        unfold readT at h1
        split at h1
        · rename_i hl
          refine ⟨?_, hdec⟩
          unfold Lib.atoi
          simp only [beq_self_eq_true, if_true]
          rw [decNat_pos hl.1]
          simpa using h1
        · cases h1
      · rw [if_neg hs] at h1
        have hdec := readT_dec h1
        unfold readT at h1
        split at h1
        · rename_i hl
          refine ⟨?_, hdec⟩
          cases hd : Lib.decFrom 0 (b :: r) with
          | none => rw [hd] at h1; simp at h1
          | some m =>
            obtain ⟨d, hd1⟩ := Lib.digit_of_decFrom (b :: r) 0 m hd 0 b rfl
            have := Lib.digitVal_eq hd1
            have e1' : (b == 45) = false := by
              rw [beq_eq_false_iff_ne]; rintro rfl; revert this; simp
            have e2' : (b == 43) = false := by
              rw [beq_eq_false_iff_ne]; rintro rfl; revert this; simp
            unfold Lib.atoi
            simp only [e1', e2', Bool.false_eq_true, if_false]
            rw [decNat_pos hl.1, hd]
            rw [hd] at h1
            simpa using h1
        · cases h1
  cases h : Lib.atoi l with
  | none =>
    cases h2 : readO l with
    | none => rfl
    | some v =>
      by_cases h3 : Lib.itoa v = l
      · have := (key2 v h2 h3).1; rw [h] at this; cases this
      · simp [h3]
  | some v =>
    by_cases h3 : decB v = true ∧ Lib.itoa v = l
    · have := key v h h3.1 h3.2
      rw [this]
      simp [h3]
    · cases h2 : readO l with
      | none => simp only [if_neg h3]
      | some u =>
        by_cases h4 : Lib.itoa u = l
        · obtain ⟨h5, h6⟩ := key2 u h2 h4
          rw [h] at h5
          cases h5
          exact absurd ⟨h6, h4⟩ h3
        · simp only [if_neg h3, if_neg h4]
end Go.Proofs.YtoeonplbgbgjmaaDoor
