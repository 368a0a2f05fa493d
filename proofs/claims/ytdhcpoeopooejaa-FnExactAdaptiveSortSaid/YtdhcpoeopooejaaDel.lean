/- slices.Delete at []int: the kit's contract at this program (its laying in plain words), in terms of Row. -/
import Derived.Test.YtdhcpoeopooejaaBin
import Derived.Ground.Names2Prog
import Derived.Shelf.Slices.Delete
import Derived.Shelf.Slices.Cells
namespace Go.Proofs.Ytdhcpoeopooejaa
open Go.RowKit
set_option linter.unusedVariables false
set_option linter.unusedSimpArgs false

def lays23_ren : Go.Shelf.Ren := ⟨fun | 23 => 126 | n => n, fun | 22 => 22 | 3 => 3 | 4 => 4 | 0 => 0 | n => n, fun | n => n⟩
theorem lays23 : Go.Proofs.Lays2.n23 Try.prog lays23_ren := {
  mixed := by kernel_rfl
  f23 := Try.func126.trans (congrArg some (by kernel_rfl))
  t0 := Try.underlying0
  a0 := Try.isAgg0
  z0 := Try.sizeOf0
  v0 := Try.zeroValue0
  t3 := Try.underlying3
  a3 := Try.isAgg3
  z3 := Try.sizeOf3
  v3 := Try.zeroValue3
  t4 := Try.underlying4
  a4 := Try.isAgg4
  z4 := Try.sizeOf4
  v4 := Try.zeroValue4
  t22 := Try.underlying22
  a22 := Try.isAgg22
  z22 := Try.sizeOf22
  v22 := Try.zeroValue22
  i3 := by kernel_rfl }

theorem splice_set {α : Type} (l : List α) (k : Nat) (v : α) (rest : List α) (hk : k + (rest.length + 1) ≤ l.length) : splice (l.set k v) (k + 1) rest = splice l k (v :: rest) := by
  apply List.ext_getElem?
  intro i
  simp only [splice, List.getElem?_append, List.getElem?_take, List.getElem?_drop, List.length_take, List.length_set, List.getElem?_set, List.length_cons, List.getElem?_cons]
  have m1 : min (k + 1) l.length = k + 1 := by omega
  have m2 : min k l.length = k := by omega
  rw [m1, m2]
  rcases Nat.lt_trichotomy i k with h | h | h
  · simp [h, show i < k + 1 by omega, show ¬ k = i by omega]
  · subst h
    simp [show i < l.length by omega]
  · have e1 : ¬ i < k + 1 := by omega
    have e2 : ¬ i < k := by omega
    have e3 : ¬ i - k = 0 := by omega
    have e4 : i - k - 1 = i - (k + 1) := by omega
    simp only [e1, e2, e3, e4, if_false]
    by_cases h2 : i - (k + 1) < rest.length
    · simp [h2, show i - k < rest.length + 1 by omega]
    · have e5 : k + 1 + rest.length + (i - (k + 1) - rest.length) = i := by omega
      have e6 : k + (rest.length + 1) + (i - k - (rest.length + 1)) = i := by omega
      simp [h2, show ¬ i - k < rest.length + 1 by omega, e5, e6, show ¬ k = i by omega]

theorem Row_setCells {e b off c : Nat} (vs : List Value) : ∀ (i : Nat) (w : World) (xs : List Value), Row w e b off c xs → i + vs.length ≤ xs.length →
    Row (w.setCells b (off + i) vs) e b off c (splice xs i vs) ∧ Ex [b] w (w.setCells b (off + i) vs) := by
  induction vs with
  | nil => intro i w xs h _; exact ⟨by simpa [splice, World.setCells] using h, Ex.refl _ _⟩
  | cons v r ih =>
    intro i w xs h hl
    simp only [List.length_cons] at hl
    obtain ⟨h1, h2⟩ := ih (i + 1) (w.setCell ⟨b, off + i, none⟩ v) (xs.set i v) (h.set (by omega) v) (by simp; omega)
    rw [splice_set _ _ _ _ hl] at h1
    refine ⟨h1, Ex.trans (Ex.setIn (Ex.refl _ _) (p := ⟨b, off + i, none⟩) (by simp)) h2⟩

theorem delete_any (b off n c k : Nat) (L : List Int) (w : World) (hR : Row w 3 b off c (ints L)) (hl : L.length = n + 1) (hk : k < n + 1) :
    Calls Try.prog 126 #[.slice (some ⟨b, off, none⟩) (n + 1) c, .int .i64 k, .int .i64 (k + 1 : Nat)] w fun e w' => e = .returned (.slice (some ⟨b, off, none⟩) n c) ∧ Row w' 3 b off c (ints (L.take k ++ L.drop (k + 1))) ∧ Ex [b] w w' := by
  have hc := hR.le
  have hm := hR.capLe
  rw [ints_length] at hc
  unfold maxLen at hm
  refine (Go.Proofs.Any.slices_Delete_int_cells lays23 b off (n + 1) c k (k + 1) L w (by omega) (by omega) (by omega) (by omega) (by omega) (fun j hj => hR.cellInt hj) (fun j _ => hR.frozen (off + j))).mono ?_
  rintro e w' ⟨rfl, q, rfl⟩
  have hn : n + 1 - (k + 1 - k) = n := by omega
  rw [hn]
  have ht : L.take (n + 1) = L := List.take_of_length_le (by omega)
  rw [ht]
  generalize hV : (L.take k ++ L.drop (k + 1) ++ List.replicate (k + 1 - k) 0).map (Value.int .i64) = V
  have hVl : V.length = n + 1 := by rw [← hV]; simp; omega
  have h := Row_setCells (e := 3) (b := b) (off := off) (c := c) V 0 (w.drewN q) (ints L) (hR.drewN q) (by rw [ints_length]; omega)
  rw [Nat.add_zero] at h
  refine ⟨rfl, ?_, Ex.trans (Ex.drewN (Ex.refl _ _) q) h.2⟩
  have h1 := h.1.take n
  have hs : (splice (ints L) 0 V).take n = ints (L.take k ++ L.drop (k + 1)) := by
    have : splice (ints L) 0 V = V := by
      simp [splice]
      rw [hVl, hl]; exact Nat.le_refl _
    rw [this, ← hV]
    rw [List.map_append, List.take_append_of_le_length (by simp; omega)]
    rw [List.take_of_length_le (by simp; omega)]
    rfl
  rw [hs] at h1
  exact h1
end Go.Proofs.Ytdhcpoeopooejaa
