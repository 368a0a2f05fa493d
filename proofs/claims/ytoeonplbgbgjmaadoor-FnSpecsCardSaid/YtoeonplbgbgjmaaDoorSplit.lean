/- SplitString: both sides. -/
import Derived.Test.YtoeonplbgbgjmaaDoorSplW
import Derived.Test.YtoeonplbgbgjmaaDoorRow
import Derived.Test.YtoeonplbgbgjmaaDoorItoa
namespace Go.Proofs.YtoeonplbgbgjmaaDoor
open Go.RowKit
set_option linter.unusedVariables false
set_option linter.unusedSimpArgs false

/-- internal/bytealg.MaxLen holds some number. -/
def MxS (w : World) : Prop := ∃ m, w.cell? ⟨lays146_ren.g 1, 0, none⟩ = some (.int .i64 m)
theorem MxS.next {w w' : World} (h : MxS w) (hb : Below w.heap.size w w') : MxS w' := by
  obtain ⟨m, hm⟩ := h
  exact ⟨m, (hb.cell (p := ⟨lays146_ren.g 1, 0, none⟩) (block_lt_of_cell hm)).trans hm⟩
theorem mxs_of_shape {w : World} (h : w.ShapedOpen Tryd.prog) : MxS w := lays146.s1_3 w h

theorem spl_mem (c : UInt8) : ∀ (l acc : List UInt8), ∀ x ∈ spl c acc l, x.length ≤ acc.length + l.length := by
  intro l
  induction l with
  | nil => intro acc x hx; simp [spl] at hx; subst hx; simp
  | cons b r ih =>
    intro acc x hx
    rw [spl] at hx
    split at hx
    · rcases List.mem_cons.1 hx with rfl | hx
      · simp
      · have := ih [] x hx; simp at this; simp; omega
    · have := ih _ x hx; simp at this; simp; omega
theorem parts_size (c : UInt8) (s : ByteArray) (i : Nat) (hi : i < (parts c s).length) : (gs (parts c s) i).size ≤ s.size := by
  rw [gs_eq hi]
  have hm := List.getElem_mem hi
  unfold parts at hm
  obtain ⟨x, hx, e⟩ := List.mem_map.1 hm
  have h2 : (parts c s)[i] = strB x := e.symm
  rw [h2, strB_size]
  have := spl_mem c s.data.toList [] x hx
  rw [size_toList] at this
  simpa using this
/-- The result of SplitString. -/
def srR (s sep : ByteArray) : List ByteArray × Bool := if h : sep.size = 1 then (if s.size ≤ 4000 then (parts (sep[0]'(by omega)) s, true) else ([], false)) else ([], false)
theorem srR_yes {s sep : ByteArray} (h : sep.size = 1) (h2 : s.size ≤ 4000) : srR s sep = (parts (sep[0]'(by omega)) s, true) := by
  unfold srR; rw [dif_pos h, if_pos h2]
theorem srR_no {s sep : ByteArray} (h : ¬ (sep.size = 1 ∧ s.size ≤ 4000)) : srR s sep = ([], false) := by
  unfold srR
  split
  · rw [if_neg (fun k => h ⟨by assumption, k⟩)]
  · rfl
theorem srR_len (s sep : ByteArray) : (srR s sep).1.length ≤ 100000000000 := by
  unfold srR
  split
  · split
    · have := parts_len (sep[0]'(by omega)) s; dsimp only; omega
    · simp
  · simp
theorem emptyStr (w : World) : RStringS (w.alloc (.cells #[] 9)) (.slice (some ⟨w.heap.size, 0, none⟩) 0 0) [] [w.heap.size] :=
  ⟨⟨(Own.empty w 9).sl, fun i hi => absurd hi (by simp)⟩, by simp [Value.ownBlock]⟩
theorem emptyF (w : World) : RStringS (w.alloc (.cells #[] 9)) (.slice (some ⟨w.heap.size, 0, none⟩) 0 0) [] [w.heap.size] ∧ Fr w.heap.size [w.heap.size] ∧ Below w.heap.size w (w.alloc (.cells #[] 9)) :=
  ⟨emptyStr w, fun b hb => by rw [List.mem_singleton] at hb; omega, (Below.refl _ _).alloc (Nat.le_refl _) _⟩
theorem nilF (w : World) : RStringS w (.slice none 0 0) [] [] ∧ Fr w.heap.size [] ∧ Below w.heap.size w w :=
  ⟨⟨⟨Sl.nil _ _, fun i hi => absurd hi (by simp)⟩, rfl⟩, fun b hb => absurd hb (by simp), Below.refl _ _⟩
theorem sepOne {sep : ByteArray} (h : sep.size = 1) : sep = ⟨#[sep[0]'(by omega)]⟩ := by
  apply ByteArray.ext
  apply Array.ext
  · exact h
  · intro i h1 h2
    have : i = 0 := by simp at h2; omega
    subst this
    rfl


theorem Row.strNew (w : World) (x : List ByteArray) (hl : x.length ≤ 1000000) : Row (w.alloc (.cells (x.map Value.string).toArray 9)) 9 w.heap.size 0 x.length (strs x) := by
  refine ⟨(strs x).toArray, by show (w.heap.push _)[w.heap.size]? = _; simp [strs], by simp, by simp, by unfold maxLen; omega, fun i hi => ?_⟩
  rw [Nat.zero_add, List.getElem?_toArray, List.getElem?_eq_getElem]
theorem split_any (s : ByteArray) (c : UInt8) (w : World) (hs : s.size ≤ 4000) (hm : MxS w) :
    Calls Tryd.prog 68 #[.string s, .string ⟨#[c]⟩] w fun e w' => ∃ r, e = .returned r ∧ RStringS w' r (parts c s) [w.heap.size] ∧ Below w.heap.size w w' := by
  obtain ⟨m, hm⟩ := hm
  refine (Any.strings_Split { lays146 with } lays146.i9 s ⟨#[c]⟩ m w (by omega) hm (by show 1 ≤ 1; omega)).mono ?_
  rintro e w' ⟨he, rfl⟩
  have hl := Lib.splitB_all ⟨#[c]⟩ (by show 1 ≤ 1; omega) 0 _ s rfl
  have hb := parts_len c s
  rw [← parts_split] at hl
  rw [← hl] at he
  have hr := Sl.of_row (Row.strNew w (parts c s) (by omega))
  rw [strs_length] at hr
  refine ⟨_, he, ⟨⟨?_, fun i hi => by have := parts_size c s i hi; unfold maxLen; omega⟩, by simp [Value.ownBlock]⟩, (Below.refl _ _).alloc (Nat.le_refl _) _⟩
  rw [← parts_split]
  exact hr

set_option maxHeartbeats 1000000 in
theorem impl_SplitString_law {s sep : ByteArray} {w : World} (hs : s.size ≤ 1048576) (hp : sep.size ≤ 1048576) (hM : MxS w) :
    Calls Tryd.prog 34 #[.string s, .string sep] w fun e w' => ∃ r F, e = .returned (.tuple #[r, .bool (srR s sep).2]) ∧ RStringS w' r (srR s sep).1 F ∧ Fr w.heap.size F ∧ Below w.heap.size w w' ∧ (srR s sep).1.length ≤ 100000000000 := by
  have hlen := Lib.hid (srR_len s sep)
  by_cases h1 : sep.size = 1
  · have h1i : ((sep.size : Int) != 1) = false := by simp; omega
    have h1j : (sep.size : Int) = 1 := by omega
    by_cases h2 : s.size ≤ 4000
    · rw [srR_yes h1 h2] at hlen ⊢
      have hc := split_any s (sep[0]'(by omega)) w h2 hM
      rw [← sepOne h1] at hc
      replace hc := Lib.hid hc
      have h2i : decide (4000 < (s.size : Int)) = false := by simp; omega
      generalize parts (sep[0]'(by omega)) s = P at *
      clear hM
      go_enter Tryd.func34, Tryd.ntmps34
      go_wp2_with fail
      refine hc.out.mono ?_
      rintro e w1 ⟨v, rfl, hr, hB⟩
      replace hr := Lib.hid hr
      replace hB := Lib.hid hB
      go_wp2
      go_ret2
      exact ⟨_, _, rfl, hr.out, fun b hb => by rw [List.mem_singleton] at hb; omega, hB.out, hlen.out⟩
    · rw [srR_no (fun k => h2 k.2)] at hlen ⊢
      have h2i : decide (4000 < (s.size : Int)) = true := by simp; omega
      clear hM
      go_enter Tryd.func34, Tryd.ntmps34
      go_wp2
      go_ret2
      first
      | exact ⟨_, _, rfl, (nilF w).1, (nilF w).2.1, (nilF w).2.2, hlen.out⟩
      | exact ⟨_, rfl, _, (nilF w).1, (nilF w).2.1, (nilF w).2.2, hlen.out⟩
      | exact ⟨_, rfl, _, (nilF w).1, (nilF w).2.1, (nilF w).2.2⟩
  · rw [srR_no (fun k => h1 k.1)] at hlen ⊢
    have h1i : ((sep.size : Int) != 1) = true := by simp; omega
    have h1j : ¬ (sep.size : Int) = 1 := by omega
    clear hM
    by_cases h2 : s.size ≤ 4000
    · have h2i : decide (4000 < (s.size : Int)) = false := by simp; omega
      go_enter Tryd.func34, Tryd.ntmps34
      go_wp2
      go_ret2
      first
      | exact ⟨_, _, rfl, (nilF w).1, (nilF w).2.1, (nilF w).2.2, hlen.out⟩
      | exact ⟨_, rfl, _, (nilF w).1, (nilF w).2.1, (nilF w).2.2, hlen.out⟩
      | exact ⟨_, rfl, _, (nilF w).1, (nilF w).2.1, (nilF w).2.2⟩
    · have h2i : decide (4000 < (s.size : Int)) = true := by simp; omega
      go_enter Tryd.func34, Tryd.ntmps34
      go_wp2
      go_ret2
      first
      | exact ⟨_, _, rfl, (nilF w).1, (nilF w).2.1, (nilF w).2.2, hlen.out⟩
      | exact ⟨_, rfl, _, (nilF w).1, (nilF w).2.1, (nilF w).2.2, hlen.out⟩
      | exact ⟨_, rfl, _, (nilF w).1, (nilF w).2.1, (nilF w).2.2⟩
end Go.Proofs.YtoeonplbgbgjmaaDoor
