/- Parts of a text between bytes (without a program). -/
import Derived.Test.YtoeonplbgbgjmaaDoorNumL
import Derived.Lib.SplitLaws
import Derived.Lib.IndexBytes
namespace Go.Proofs.YtoeonplbgbgjmaaDoor
open Go.RowKit
set_option linter.unusedVariables false
set_option linter.unusedSimpArgs false

/-- The parts of l between bytes c, the first one begun with acc. -/
def spl (c : UInt8) : List UInt8 → List UInt8 → List (List UInt8)
  | acc, [] => [acc]
  | acc, b :: r => if b = c then acc :: spl c [] r else spl c (acc ++ [b]) r
def parts (c : UInt8) (s : ByteArray) : List ByteArray := (spl c [] s.data.toList).map strB
theorem index_hit (c : UInt8) (r : List UInt8) : ∀ acc : List UInt8, (∀ b ∈ acc, b ≠ c) → Lib.index (acc ++ c :: r) [c] = acc.length := by
  intro acc
  induction acc with
  | nil => intro _; rw [Lib.index_one]; simp [Lib.indexByte]
  | cons b acc ih =>
    intro h
    have hb : (b == c) = false := by rw [beq_eq_false_iff_ne]; exact h b (by simp)
    have := ih (fun x hx => h x (by simp [hx]))
    rw [Lib.index_one] at this ⊢
    rw [List.cons_append, Lib.indexByte, hb, this]
    simp
theorem index_miss (c : UInt8) : ∀ acc : List UInt8, (∀ b ∈ acc, b ≠ c) → Lib.index acc [c] = -1 := by
  intro acc
  induction acc with
  | nil => intro _; rw [Lib.index_one]; rfl
  | cons b acc ih =>
    intro h
    have hb : (b == c) = false := by rw [beq_eq_false_iff_ne]; exact h b (by simp)
    have := ih (fun x hx => h x (by simp [hx]))
    rw [Lib.index_one] at this ⊢
    rw [Lib.indexByte, hb, this]
    simp
theorem spl_splitK (c : UInt8) : ∀ (l acc : List UInt8), (∀ b ∈ acc, b ≠ c) → spl c acc l = Lib.splitK [c] 0 (Lib.count l [c]) (acc ++ l) := by
  intro l
  induction l with
  | nil =>
    intro acc h
    have : Lib.count [] [c] = 0 := by rw [Lib.count_one]; rfl
    rw [this, List.append_nil]; rfl
  | cons b r ih =>
    intro acc h
    by_cases e : b = c
    · subst e
      rw [spl, if_pos rfl, Lib.count_cons_eq, Nat.add_comm, Lib.splitK, index_hit b r acc h]
      have h1 : ¬ (((acc.length : Int)) == -1) = true := by rw [beq_iff_eq]; omega
      rw [if_neg h1, ih [] (by simp)]
      simp
    · rw [spl, if_neg e, Lib.count_cons_ne _ _ _ e, ih (acc ++ [b]) (by
        intro x hx
        rcases List.mem_append.1 hx with hx | hx
        · exact h x hx
        · rw [List.mem_singleton] at hx; rw [hx]; exact e)]
      simp
theorem parts_split (c : UInt8) (s : ByteArray) : parts c s = Lib.splitB ⟨#[c]⟩ 0 (Lib.countB s ⟨#[c]⟩) s := by
  have h := Lib.splitB_data ⟨#[c]⟩ 0 (Lib.countB s ⟨#[c]⟩) s
  have h2 := spl_splitK c s.data.toList [] (by simp)
  rw [List.nil_append] at h2
  unfold parts
  rw [h2]
  have h3 : Lib.countB s ⟨#[c]⟩ = Lib.count s.data.toList [c] := rfl
  rw [← h3]
  have h4 : ((⟨#[c]⟩ : ByteArray).data.toList) = [c] := rfl
  rw [h4] at h
  rw [← h, List.map_map]
  conv => rhs; rw [← List.map_id (Lib.splitB ⟨#[c]⟩ 0 (Lib.countB s ⟨#[c]⟩) s)]
  apply List.map_congr_left
  intro x _
  exact strB_toList x
theorem spl_head (c : UInt8) : ∀ (l acc : List UInt8), ∃ r, spl c acc l = (acc ++ l.takeWhile (· != c)) :: r := by
  intro l
  induction l with
  | nil => intro acc; exact ⟨[], by simp [spl]⟩
  | cons b r ih =>
    intro acc
    by_cases e : b = c
    · subst e
      exact ⟨spl b [] r, by rw [spl, if_pos rfl]; simp⟩
    · obtain ⟨q, hq⟩ := ih (acc ++ [b])
      refine ⟨q, ?_⟩
      rw [spl, if_neg e, hq]
      have : (b != c) = true := by simp [e]
      simp [this]
theorem tw_mem {p : UInt8 → Bool} : ∀ {l : List UInt8} {x : UInt8}, x ∈ l.takeWhile p → p x = true := by
  intro l
  induction l with
  | nil => intro x hx; simp at hx
  | cons b r ih =>
    intro x hx
    rw [List.takeWhile_cons] at hx
    split at hx
    · rename_i hb
      rcases List.mem_cons.1 hx with rfl | hx
      · exact hb
      · exact ih hx
    · cases hx
theorem tw_all {p : UInt8 → Bool} : ∀ {l : List UInt8}, (∀ b ∈ l, p b = true) → l.takeWhile p = l := by
  intro l
  induction l with
  | nil => intro _; rfl
  | cons b r ih =>
    intro h
    rw [List.takeWhile_cons, if_pos (h b (by simp)), ih (fun x hx => h x (by simp [hx]))]
theorem dw_head {p : UInt8 → Bool} : ∀ {l r : List UInt8} {b : UInt8}, l.dropWhile p = b :: r → p b = false := by
  intro l
  induction l with
  | nil => intro r b h; simp at h
  | cons x l ih =>
    intro r b h
    rw [List.dropWhile_cons] at h
    split at h
    · exact ih h
    · rename_i hx
      simp at h
      rw [← h.1]
      simpa using hx
theorem cut_first (c : UInt8) (l : List UInt8) : (Lib.cut l [c]).1 = l.takeWhile (· != c) := by
  by_cases h : ∀ b ∈ l, b ≠ c
  · have h1 := index_miss c l h
    unfold Lib.cut
    rw [h1, if_neg (by omega)]
    symm
    exact tw_all (fun b hb => by simpa using h b hb)
  · have hd : l = l.takeWhile (· != c) ++ l.dropWhile (· != c) := (List.takeWhile_append_dropWhile).symm
    have hne : l.dropWhile (· != c) ≠ [] := by
      intro e
      rw [e, List.append_nil] at hd
      apply h
      intro b hb
      rw [hd] at hb
      have := tw_mem hb
      simpa using this
    obtain ⟨b, r, hr⟩ := List.exists_cons_of_ne_nil hne
    have hb : b = c := by
      have := dw_head hr
      simpa using this
    subst hb
    have hp : ∀ x ∈ l.takeWhile (· != b), x ≠ b := fun x hx => by
      have := tw_mem hx
      simpa using this
    have h1 := index_hit b r (l.takeWhile (· != b)) hp
    rw [← hr, ← hd] at h1
    unfold Lib.cut
    rw [h1, if_pos (by omega)]
    have key : ∀ A D : List UInt8, l = A ++ D → l.take A.length = A := by rintro A D rfl; simp
    exact key _ _ hd
/-- The bytes from f to i. -/
def sub (l : List UInt8) (f i : Nat) : List UInt8 := (l.drop f).take (i - f)
theorem sub_none (l : List UInt8) (i : Nat) : sub l i i = [] := by simp [sub]
theorem sub_next (l : List UInt8) (f i : Nat) (hf : f ≤ i) (hi : i < l.length) : sub l f (i + 1) = sub l f i ++ [l[i]] := by
  unfold sub
  rw [show i + 1 - f = (i - f) + 1 by omega, List.take_succ_eq_append_getElem (by simp; omega)]
  congr 1
  simp [show f + (i - f) = i by omega]
theorem sub_bytes (s : ByteArray) (f i : Nat) : strB (sub s.data.toList f i) = s.extract f i := by
  apply ByteArray.ext
  unfold strB sub
  rw [ByteArray.data_extract]
  apply Array.ext'
  rw [Array.toList_extract, List.extract_eq_take_drop]
theorem spl_hit {c : UInt8} {acc r : List UInt8} : spl c acc (c :: r) = acc :: spl c [] r := by rw [spl, if_pos rfl]
theorem spl_go {c b : UInt8} {acc r : List UInt8} (h : b ≠ c) : spl c acc (b :: r) = spl c (acc ++ [b]) r := by rw [spl, if_neg h]
theorem spl_len (c : UInt8) : ∀ (l acc : List UInt8), (spl c acc l).length ≤ l.length + 1 := by
  intro l
  induction l with
  | nil => intro acc; simp [spl]
  | cons b r ih =>
    intro acc
    rw [spl]
    split
    · have := ih []; simp; omega
    · have := ih (acc ++ [b]); simp; omega
theorem parts_len (c : UInt8) (s : ByteArray) : (parts c s).length ≤ s.size + 1 := by
  unfold parts
  rw [List.length_map]
  have := spl_len c s.data.toList []
  rwa [size_toList] at this
end Go.Proofs.YtoeonplbgbgjmaaDoor
