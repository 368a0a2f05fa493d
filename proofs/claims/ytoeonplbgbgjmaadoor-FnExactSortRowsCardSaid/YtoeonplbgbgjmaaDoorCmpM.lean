/- Comparing rows under a key specification (without a program). -/
import Derived.Test.YtoeonplbgbgjmaaDoorVal
import Derived.Test.YtoeonplbgbgjmaaDoorVRow
import Derived.Lib.Bytealg
import Derived.Lib.Small
namespace Go.Proofs.YtoeonplbgbgjmaaDoor
open Go.RowKit
set_option linter.unusedVariables false
set_option linter.unusedSimpArgs false

def cmpB (a b : ByteArray) : Int := Lib.compareBytes a.data.toList b.data.toList
theorem less_cmp : ∀ a b : List UInt8, Lib.compareBytes a b = if Op.bytesLess a b then -1 else if Op.bytesLess b a then 1 else 0 := by
  intro a
  induction a with
  | nil => intro b; cases b <;> simp [Lib.compareBytes, Op.bytesLess]
  | cons x a ih =>
    intro b
    cases b with
    | nil => simp [Lib.compareBytes, Op.bytesLess]
    | cons y b =>
      rw [Lib.compareBytes, Op.bytesLess, Op.bytesLess, ih b]
      by_cases h1 : x < y
      · simp [h1]
      · by_cases h2 : y < x
        · have h3 : (x == y) = false := by rw [beq_eq_false_iff_ne]; rintro rfl; exact h1 h2
          simp [h1, h2, h3]
        · have h3 : x = y := by
            have a1 : ¬ x.toNat < y.toNat := fun k => h1 (UInt8.lt_iff_toNat_lt.2 k)
            have a2 : ¬ y.toNat < x.toNat := fun k => h2 (UInt8.lt_iff_toNat_lt.2 k)
            exact UInt8.toNat_inj.1 (by omega)
          subst h3
          simp [h1]
theorem cmpB_less (a b : ByteArray) : cmpB a b = if Op.bytesLess a.toList b.toList then -1 else if Op.bytesLess b.toList a.toList then 1 else 0 := by
  unfold cmpB
  rw [less_cmp, ByteArray.toList_eq, ByteArray.toList_eq]
theorem cmpB_bd (a b : ByteArray) : -1 ≤ cmpB a b ∧ cmpB a b ≤ 1 := by
  rw [cmpB_less]; split
  · omega
  · split <;> omega
def keyC (num : Bool) (x y : ByteArray) : Int :=
  if num then
    if (piR x).2 then (if (piR y).2 then Lib.compareInt (piR x).1 (piR y).1 else 1)
    else (if (piR y).2 then -1 else cmpB x y)
  else cmpB x y
theorem compareInt_bd (x y : Int) : -1 ≤ Lib.compareInt x y ∧ Lib.compareInt x y ≤ 1 := by
  unfold Lib.compareInt; split
  · omega
  · split <;> omega
theorem keyC_bd (num : Bool) (x y : ByteArray) : -1 ≤ keyC num x y ∧ keyC num x y ≤ 1 := by
  have h1 := cmpB_bd x y
  have h2 := compareInt_bd (piR x).1 (piR y).1
  unfold keyC
  split
  · split
    · split
      · exact h2
      · omega
    · split
      · omega
      · exact h1
  · exact h1
def cmpK (k : KS) (a b : List ByteArray) : Int := if k.2.2.1 then -(keyC k.2.1 (valF k a) (valF k b)) else keyC k.2.1 (valF k a) (valF k b)
theorem cmpK_bd (k : KS) (a b : List ByteArray) : -1 ≤ cmpK k a b ∧ cmpK k a b ≤ 1 := by
  have := keyC_bd k.2.1 (valF k a) (valF k b)
  unfold cmpK; split <;> omega
def cmpRs (a b : List ByteArray) : List KS → Int
  | [] => 0
  | k :: r => if cmpK k a b = 0 then cmpRs a b r else cmpK k a b
theorem cmpRs_bd (a b : List ByteArray) : ∀ l, -1 ≤ cmpRs a b l ∧ cmpRs a b l ≤ 1 := by
  intro l
  induction l with
  | nil => simp [cmpRs]
  | cons k r ih =>
    rw [cmpRs]; split
    · exact ih
    · exact cmpK_bd k a b
theorem cmpRs_step {a b : List ByteArray} {xs : List KS} {i : Nat} (h : i < xs.length) : cmpRs a b (xs.drop i) = if cmpK (gk xs i) a b = 0 then cmpRs a b (xs.drop (i + 1)) else cmpK (gk xs i) a b := by
  rw [List.drop_eq_getElem_cons h, cmpRs, gk_eq h]
theorem cmpRs_end {a b : List ByteArray} {xs : List KS} {i : Nat} (h : xs.length ≤ i) : cmpRs a b (xs.drop i) = 0 := by
  rw [List.drop_eq_nil_of_le h]; rfl
def okC2 (xs : List KS) (a b : List ByteArray) : Bool := okK xs && rowB a && rowB b
def crR (xs : List KS) (a b : List ByteArray) : Int × Bool := if okC2 xs a b then (cmpRs a b xs, true) else (0, false)
end Go.Proofs.YtoeonplbgbgjmaaDoor
