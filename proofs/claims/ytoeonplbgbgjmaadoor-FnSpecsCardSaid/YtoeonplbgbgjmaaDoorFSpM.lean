/- The notation of key specs (without a program). -/
import Derived.Test.YtoeonplbgbgjmaaDoorVKs
import Derived.Test.YtoeonplbgbgjmaaDoorJoin
import Derived.Test.YtoeonplbgbgjmaaDoorNumL
namespace Go.Proofs.YtoeonplbgbgjmaaDoor
open Go.RowKit
set_option linter.unusedVariables false
set_option linter.unusedSimpArgs false

/-- A flag's letter behind a word. -/
def fl (A : ByteArray) (b : Bool) (c : UInt8) : ByteArray := if b then A ++ ⟨#[c]⟩ else A
theorem fl_app (A B : ByteArray) (b : Bool) (c : UInt8) : fl (A ++ B) b c = A ++ fl B b c := by
  unfold fl; split
  · rw [ByteArray.append_assoc]
  · rfl
theorem fl_size (A : ByteArray) (b : Bool) (c : UInt8) : (fl A b c).size ≤ A.size + 1 := by
  unfold fl; split
  · rw [ByteArray.size_append]; exact Nat.le_refl _
  · omega
def wordB (k : KS) : ByteArray := fl (fl (fl (strB (Lib.itoa k.1)) k.2.1 110) k.2.2.1 100) k.2.2.2 102
def wordsB (xs : List KS) : List ByteArray := xs.map wordB
def comma : ByteArray := ⟨#[44]⟩
/-- The notation of the first i key specs. -/
def tK (xs : List KS) (i : Nat) : ByteArray := jK (wordsB xs) comma i
def fsR (xs : List KS) : ByteArray × Bool := if okK xs then (tK xs xs.length, true) else (ByteArray.empty, false)
theorem gs_words {xs : List KS} {i : Nat} (h : i < xs.length) : gs (wordsB xs) i = wordB (gk xs i) := by
  rw [gs_eq (by simpa [wordsB] using h), gk_eq h]; simp [wordsB]
theorem tK_zero (xs : List KS) : tK xs 0 = ByteArray.empty := rfl
theorem tK_succ {xs : List KS} {i : Nat} (h : i < xs.length) :
    tK xs (i + 1) = fl (fl (fl ((if 0 < i then tK xs i ++ comma else tK xs i) ++ strB (Lib.itoa (gk xs i).1)) (gk xs i).2.1 110) (gk xs i).2.2.1 100) (gk xs i).2.2.2 102 := by
  show jK (wordsB xs) comma (i + 1) = _
  rw [jK, gs_words h, fl_app, fl_app, fl_app]
  rfl
theorem word_size {k : KS} (h : 0 ≤ k.1 ∧ k.1 ≤ 5) : (wordB k).size ≤ 10 := by
  have h1 := itoa_len7 (n := k.1) (by rw [decB_iff]; omega)
  have h2 := fl_size (strB (Lib.itoa k.1)) k.2.1 110
  have h3 := fl_size (fl (strB (Lib.itoa k.1)) k.2.1 110) k.2.2.1 100
  have h4 := fl_size (fl (fl (strB (Lib.itoa k.1)) k.2.1 110) k.2.2.1 100) k.2.2.2 102
  rw [strB_size] at h2
  unfold wordB
  omega
theorem tK_size {xs : List KS} (h : okK xs = true) : ∀ i, i ≤ xs.length → (tK xs i).size ≤ 11 * i := by
  intro i
  induction i with
  | zero => intro _; rw [tK_zero]; simp
  | succ i ih =>
    intro hi
    have h1 := ih (by omega)
    have h2 := word_size (okK_fld h (i := i) (by omega))
    have h3 : tK xs (i + 1) = (if 0 < i then tK xs i ++ comma else tK xs i) ++ wordB (gk xs i) := by
      show jK (wordsB xs) comma (i + 1) = _
      rw [jK, gs_words (by omega)]; rfl
    rw [h3, ByteArray.size_append]
    split
    · rw [ByteArray.size_append]
      have : comma.size = 1 := rfl
      omega
    · omega
end Go.Proofs.YtoeonplbgbgjmaaDoor
