/- OrderDefect: what it computes (without a program). -/
import Derived.Test.YtdhcpoeopooejaaBoolSS
import Derived.Test.YtdhcpoeopooejaaValid
namespace Go.Proofs.Ytdhcpoeopooejaa
open Go.RowKit
set_option linter.unusedVariables false
set_option linter.unusedSimpArgs false

/-- Relation x at row i, column k. -/
def lsB (x : List (List Bool)) (i k : Nat) : Bool := gb (gbl x i) k
def tieB (x : List (List Bool)) (i k : Nat) : Bool := !lsB x i k && !lsB x k i
def squareB (x : List (List Bool)) : Bool := x.all fun r => decide (r.length = x.length)
def relB (x : List (List Bool)) : Bool := inB x.length 1 12 && squareB x
theorem relB_len {x : List (List Bool)} (h : relB x = true) : 1 ≤ x.length ∧ x.length ≤ 12 := by
  unfold relB at h
  rw [Bool.and_eq_true] at h
  have := inB_iff.1 h.1
  omega
theorem squareB_row {x : List (List Bool)} (h : squareB x = true) {i : Nat} (hi : i < x.length) : (gbl x i).length = x.length := by
  unfold squareB at h
  rw [List.all_eq_true] at h
  rw [gbl_eq hi]
  exact of_decide_eq_true (h _ (List.getElem_mem hi))
theorem relB_row {x : List (List Bool)} (h : relB x = true) {i : Nat} (hi : i < x.length) : (gbl x i).length = x.length := by
  unfold relB at h
  rw [Bool.and_eq_true] at h
  exact squareB_row h.2 hi
/-- The first answer of n. -/
def fs (n : Nat) (p : Nat → Option (List Int)) : Option (List Int) := (List.range n).findSome? p
theorem fs_none {n : Nat} {p : Nat → Option (List Int)} (h : ∀ j, j < n → p j = none) : fs n p = none := by
  unfold fs
  rw [List.findSome?_eq_none_iff]
  intro j hj
  exact h j (by simpa using hj)
theorem fs_some {p : Nat → Option (List Int)} {k : Nat} {v : List Int} (hp : p k = some v) (h : ∀ j, j < k → p j = none) : ∀ n, k < n → fs n p = some v := by
  intro n
  induction n with
  | zero => intro h; omega
  | succ n ih =>
    intro hk
    unfold fs
    rw [List.range_succ, List.findSome?_append]
    by_cases e : k = n
    · subst e
      have : (List.range k).findSome? p = none := fs_none h
      rw [this]
      simp [hp]
    · have := ih (by omega)
      unfold fs at this
      rw [this]; rfl
def dg1 (x : List (List Bool)) : Option (List Int) := fs x.length fun i => if lsB x i i then some [(i : Int)] else none
def dgRow2 (x : List (List Bool)) (i : Nat) : Option (List Int) := fs x.length fun k => if lsB x i k && lsB x k i then some [(i : Int), (k : Int)] else none
def dg2 (x : List (List Bool)) : Option (List Int) := fs x.length (dgRow2 x)
def tr3 (n : Nat) (h : Nat → Nat → Bool) (i k : Nat) : Option (List Int) := fs n fun m => if h i k && h k m && !h i m then some [(i : Int), (k : Int), (m : Int)] else none
def tr2 (n : Nat) (h : Nat → Nat → Bool) (i : Nat) : Option (List Int) := fs n (tr3 n h i)
def tr1 (n : Nat) (h : Nat → Nat → Bool) : Option (List Int) := fs n (tr2 n h)
def defO (x : List (List Bool)) : Option (List Int) :=
  match dg1 x with
  | some v => some v
  | none => match dg2 x with
    | some v => some v
    | none => match tr1 x.length (lsB x) with
      | some v => some v
      | none => tr1 x.length (tieB x)
def defF (x : List (List Bool)) : List Int := (defO x).getD []
def odR (x : List (List Bool)) : List Int × Bool := if relB x then (defF x, true) else ([], false)
theorem fs_len {p : Nat → Option (List Int)} {v : List Int} (hp : ∀ k v, p k = some v → 1 ≤ v.length ∧ v.length ≤ 3) {n : Nat} (h : fs n p = some v) : 1 ≤ v.length ∧ v.length ≤ 3 := by
  unfold fs at h
  obtain ⟨k, _, hk⟩ := List.exists_of_findSome?_eq_some h
  exact hp k v hk
theorem tr1_len {n : Nat} {h : Nat → Nat → Bool} {v : List Int} (e : tr1 n h = some v) : 1 ≤ v.length ∧ v.length ≤ 3 :=
  fs_len (fun i v e => fs_len (fun k v e => fs_len (fun m v e => by split at e <;> simp at e; subst e; simp) e) e) e
theorem dg1_len {x : List (List Bool)} {v : List Int} (e : dg1 x = some v) : 1 ≤ v.length ∧ v.length ≤ 3 :=
  fs_len (fun i v e => by split at e <;> simp at e; subst e; simp) e
theorem dg2_len {x : List (List Bool)} {v : List Int} (e : dg2 x = some v) : 1 ≤ v.length ∧ v.length ≤ 3 :=
  fs_len (fun i v e => fs_len (fun k v e => by split at e <;> simp at e; subst e; simp) e) e
theorem defO_len {x : List (List Bool)} {v : List Int} (e : defO x = some v) : 1 ≤ v.length ∧ v.length ≤ 3 := by
  unfold defO at e
  split at e
  · rename_i u h; cases e; exact dg1_len h
  · split at e
    · rename_i u h; cases e; exact dg2_len h
    · split at e
      · rename_i u h; cases e; exact tr1_len h
      · exact tr1_len e
theorem defF_len (x : List (List Bool)) : (defF x).length ≤ 3 := by
  unfold defF
  cases h : defO x with
  | none => simp
  | some v => exact (defO_len h).2
theorem odR_len (x : List (List Bool)) : (odR x).1.length ≤ 100000000000 := by
  unfold odR
  split
  · have := defF_len x; dsimp only; omega
  · simp
theorem defF_1 {x : List (List Bool)} {v : List Int} (h : dg1 x = some v) : defF x = v := by simp [defF, defO, h]
theorem defF_2 {x : List (List Bool)} {v : List Int} (h1 : dg1 x = none) (h : dg2 x = some v) : defF x = v := by simp [defF, defO, h1, h]
theorem defF_3 {x : List (List Bool)} {v : List Int} (h1 : dg1 x = none) (h2 : dg2 x = none) (h : tr1 x.length (lsB x) = some v) : defF x = v := by simp [defF, defO, h1, h2, h]
theorem defF_4 {x : List (List Bool)} {v : List Int} (h1 : dg1 x = none) (h2 : dg2 x = none) (h3 : tr1 x.length (lsB x) = none) (h : tr1 x.length (tieB x) = some v) : defF x = v := by simp [defF, defO, h1, h2, h3, h]
theorem defF_5 {x : List (List Bool)} (h1 : dg1 x = none) (h2 : dg2 x = none) (h3 : tr1 x.length (lsB x) = none) (h : tr1 x.length (tieB x) = none) : defF x = [] := by simp [defF, defO, h1, h2, h3, h]
/-- The cell of a relation. -/
theorem RdBB.cell {w : World} {v : Value} {x : List (List Bool)} (h : RdBB w v x) (hr : relB x = true) {i k : Nat} (hi : i < x.length) (hk : k < x.length) :
    ∃ ao c b off u b2 off2 c2, v = .slice ao x.length c ∧ ao = some ⟨b, off, none⟩ ∧ w.cell? ⟨b, off + i, none⟩ = some u ∧ u = .slice (some ⟨b2, off2, none⟩) x.length c2 ∧ w.cell? ⟨b2, off2 + k, none⟩ = some (.bool (lsB x i k)) := by
  obtain ⟨ao, c, us, rfl, h1, h2, h3, h4, h5⟩ := h
  obtain ⟨b, off, rfl, hR⟩ := h4 (by omega)
  obtain ⟨ao2, c2, e2, _, _, h6⟩ := h5 i hi
  have hl := relB_row hr hi
  obtain ⟨b2, off2, rfl, hR2⟩ := h6 (by omega)
  rw [hl] at e2 hR2
  exact ⟨_, c, b, off, _, b2, off2, c2, rfl, rfl, hR i hi, e2, hR2 k hk⟩
end Go.Proofs.Ytdhcpoeopooejaa
