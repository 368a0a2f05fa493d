/- Parsing what was formatted gives the key specs back (without a program). -/
import Derived.Test.YtoeonplbgbgjmaaDoorPsM
namespace Go.Proofs.YtoeonplbgbgjmaaDoor
open Go.RowKit
set_option linter.unusedVariables false
set_option linter.unusedSimpArgs false

theorem spl_app (c : UInt8) (r : List UInt8) : ∀ (l acc : List UInt8), (∀ b ∈ l, b ≠ c) → spl c acc (l ++ c :: r) = (acc ++ l) :: spl c [] r
  | [], acc, _ => by rw [List.nil_append, spl, if_pos rfl, List.append_nil]
  | b :: l, acc, h => by
    rw [List.cons_append, spl, if_neg (h b (by simp)), spl_app c r l (acc ++ [b]) (fun x hx => h x (by simp [hx]))]
    simp
theorem spl_end (c : UInt8) : ∀ (l acc : List UInt8), (∀ b ∈ l, b ≠ c) → spl c acc l = [acc ++ l]
  | [], acc, _ => by rw [spl, List.append_nil]
  | b :: l, acc, h => by
    rw [spl, if_neg (h b (by simp)), spl_end c l (acc ++ [b]) (fun x hx => h x (by simp [hx]))]
    simp
theorem spl_of_join (c : UInt8) : ∀ (ws : List (List UInt8)), 0 < ws.length → (∀ w ∈ ws, ∀ b ∈ w, b ≠ c) → spl c [] (Lib.join ws [c]) = ws
  | [], h, _ => absurd h (by simp)
  | [w], _, hc => by rw [Lib.join_one, spl_end c w [] (hc w (by simp))]; rfl
  | w :: v :: r, _, hc => by
    have ih := spl_of_join c (v :: r) (by simp) (fun x hx => hc x (by simp [hx]))
    have e : Lib.join (w :: v :: r) [c] = w ++ c :: Lib.join (v :: r) [c] := by
      rw [Lib.join_cons, Lib.join_cons]
      simp [Lib.joinTail]
    rw [e, spl_app c _ w [] (hc w (by simp)), ih]
    rfl
/-- The words of a key spec, one by one. -/
def kAll : List KS := [0, 1, 2, 3, 4, 5].flatMap fun (f : Int) => [false, true].flatMap fun a => [false, true].flatMap fun b => [false, true].map fun c => (f, a, b, c)
theorem kAll_mem {k : KS} (h : 0 ≤ k.1 ∧ k.1 ≤ 5) : k ∈ kAll := by
  obtain ⟨f, a, b, c⟩ := k
  dsimp only at h
  have : f = 0 ∨ f = 1 ∨ f = 2 ∨ f = 3 ∨ f = 4 ∨ f = 5 := by omega
  rcases this with rfl | rfl | rfl | rfl | rfl | rfl <;> cases a <;> cases b <;> cases c <;> decide
theorem kAll_word : ∀ k ∈ kAll, kI (wordB k) = k ∧ (wordB k).size ≠ 0 ∧ (wordB k).size ≤ 4 ∧ ∀ b ∈ (wordB k).data.toList, b ≠ 44 := by decide +kernel
theorem tK_size5 {xs : List KS} (h : okK xs = true) : ∀ i, i ≤ xs.length → (tK xs i).size ≤ 5 * i := by
  intro i
  induction i with
  | zero => intro _; rw [tK_zero]; simp
  | succ i ih =>
    intro hi
    have h1 := ih (by omega)
    have h2 := (kAll_word _ (kAll_mem (okK_fld h (i := i) (by omega)))).2.2.1
    have h3 : tK xs (i + 1) = (if 0 < i then tK xs i ++ comma else tK xs i) ++ wordB (gk xs i) := by
      show jK (wordsB xs) comma (i + 1) = _
      rw [jK, gs_words (by omega)]; rfl
    rw [h3, ByteArray.size_append]
    split
    · rw [ByteArray.size_append]
      have : comma.size = 1 := rfl
      omega
    · omega
theorem tK_size4 {xs : List KS} (h : okK xs = true) : (tK xs xs.length).size ≤ 40 := by
  have := tK_size5 h xs.length (Nat.le_refl _)
  have := okK_len h
  omega
theorem psG_text {xs : List KS} (h : okK xs = true) : psO (tK xs xs.length) = xs ∧ psG (tK xs xs.length) := by
  have hw : ∀ i, i < xs.length → kI (wordB (gk xs i)) = gk xs i ∧ (wordB (gk xs i)).size ≠ 0 ∧ (wordB (gk xs i)).size ≤ 4 ∧ ∀ b ∈ (wordB (gk xs i)).data.toList, b ≠ 44 := fun i hi => kAll_word _ (kAll_mem (okK_fld h hi))
  have hl := okK_len h
  have hp : parts 44 (tK xs xs.length) = wordsB xs := by
    have hj := jK_all (wordsB xs) comma (by simp [wordsB]; omega)
    rw [show (wordsB xs).length = xs.length by simp [wordsB]] at hj
    unfold tK
    rw [← hj]
    unfold parts
    have hs := spl_of_join 44 ((wordsB xs).map (·.data.toList)) (by simp [wordsB]; omega) (by
      intro w hw2 b hb
      simp only [wordsB, List.map_map, List.mem_map] at hw2
      obtain ⟨k, hk, rfl⟩ := hw2
      obtain ⟨i, hi, rfl⟩ := List.mem_iff_getElem.1 hk
      have := (hw i hi).2.2.2
      rw [gk_eq hi] at this
      exact this b hb)
    show (spl 44 [] (Lib.join ((wordsB xs).map (·.data.toList)) [44])).map strB = _
    rw [hs, List.map_map]
    conv => rhs; rw [← List.map_id (wordsB xs)]
    refine List.map_congr_left fun x _ => ?_
    exact strB_toList x
  have ho : psO (tK xs xs.length) = xs := by
    refine gk_ext (by simp [psO, hp, wordsB]) fun j hj => ?_
    have hj2 : j < (parts 44 (tK xs xs.length)).length := by simpa [psO] using hj
    have hj3 : j < xs.length := by simpa [hp, wordsB] using hj2
    unfold psO
    rw [gk_map kI hj2, hp, gs_words hj3]
    exact (hw j hj3).1
  refine ⟨ho, ?_, fun i hi => ?_, by rw [ho]; exact h, by rw [ho]⟩
  · have := tK_size4 h
    exact this
  · have hi3 : i < xs.length := by simpa [hp, wordsB] using hi
    rw [hp, gs_words hi3]
    exact (hw i hi3).2.1
theorem psR_text {xs : List KS} (h : okK xs = true) : psR (tK xs xs.length) = (xs, true) := by
  obtain ⟨h1, h2⟩ := psG_text h
  rw [psR_yes h2, h1]
/-- Formatting what was parsed. -/
theorem fsR_back {t : ByteArray} (h : (psR t).2 = true) : fsR (psR t).1 = (t, true) := by
  by_cases hg : psG t
  · rw [psR_yes hg]
    unfold fsR
    rw [if_pos hg.2.2.1]
    show (tK (psO t) (psO t).length, true) = _
    rw [hg.2.2.2]
  · rw [psR_no hg] at h
    cases h
end Go.Proofs.YtoeonplbgbgjmaaDoor
