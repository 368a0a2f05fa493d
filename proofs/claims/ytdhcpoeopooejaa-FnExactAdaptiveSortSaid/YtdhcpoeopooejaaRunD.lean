/- RunMerges, impl: the run stack in memory: from, mergeAt. -/
import Derived.Test.YtdhcpoeopooejaaDel
import Derived.Test.YtdhcpoeopooejaaRunM
import Derived.BigRegion
import Derived.RegionTactic
namespace Go.Proofs.Ytdhcpoeopooejaa
open Go.RowKit
set_option linter.unusedVariables false
set_option linter.unusedSimpArgs false

theorem setCells_size {b e c : Nat} (vs : List Value) : ∀ (i : Nat) (w : World), (∃ cs, w.heap[b]? = some (.cells cs e (0, 0)) ∧ cs.size = c) → ∃ cs, (w.setCells b i vs).heap[b]? = some (.cells cs e (0, 0)) ∧ cs.size = c := by
  induction vs with
  | nil => intro i w h; simpa [World.setCells] using h
  | cons v r ih =>
    intro i w h
    obtain ⟨cs, h1, h2⟩ := h
    exact ih (i + 1) (w.setCell ⟨b, i, none⟩ v) ⟨_, heap_setCell_same w b i cs e v h1, by simpa using h2⟩
theorem Own.of_row {w : World} {e B g c : Nat} {xs : List Value} (h : Row w e g 0 c xs) (hs : ∃ cs, w.heap[g]? = some (.cells cs e (0, 0)) ∧ cs.size = c) (hB : B ≤ g) : Own w e B (.slice (some ⟨g, 0, none⟩) xs.length c) xs := by
  obtain ⟨cs, h1, h2⟩ := hs
  obtain ⟨cs', k1, k2, k3, k4, k5⟩ := h
  rw [h1] at k1
  simp only [Option.some.injEq, Obj.cells.injEq] at k1
  obtain ⟨rfl, _⟩ := k1
  refine ⟨by simp, .inr ⟨g, c, cs, rfl, hB, h1, k2, k4, by omega, ?_⟩⟩
  apply List.ext_getElem?
  intro i
  rw [Nat.mul_one, List.getElem?_take]
  by_cases hi : i < xs.length
  · rw [if_pos hi]
    have := k5 i hi
    rw [Nat.zero_add] at this
    rw [List.getElem?_eq_getElem hi, ← this]
    simp
  · rw [if_neg hi, List.getElem?_eq_none (by omega)]
theorem Own.cellsOf {w : World} {e B g n c : Nat} {xs : List Value} (h : Own w e B (.slice (some ⟨g, 0, none⟩) n c) xs) : n = xs.length ∧ Row w e g 0 c xs ∧ B ≤ g ∧ ∃ cs, w.heap[g]? = some (.cells cs e (0, 0)) ∧ cs.size = c := by
  have h' := h
  obtain ⟨hl, hh⟩ := h
  rcases hh with ⟨h, _⟩ | ⟨g', cap, cur, hv, hb, hg, hn, hm, hs, ht⟩
  · simp at h
  · simp only [Value.slice.injEq, Option.some.injEq, Addr.mk.injEq, and_true] at hv
    obtain ⟨rfl, rfl, rfl⟩ := hv
    exact ⟨rfl, Row.of_owns h', hb, cur, hg, by omega⟩
theorem deleteOwn_any {B g n c k : Nat} {L : List Int} {w : World} (h : Own w 3 B (.slice (some ⟨g, 0, none⟩) (n + 1) c) (ints L)) (hk : k < n + 1) :
    Calls Try.prog 126 #[.slice (some ⟨g, 0, none⟩) (n + 1) c, .int .i64 k, .int .i64 (k + 1 : Nat)] w fun e w' => e = .returned (.slice (some ⟨g, 0, none⟩) n c) ∧ Own w' 3 B (.slice (some ⟨g, 0, none⟩) n c) (ints (L.take k ++ L.drop (k + 1))) ∧ Ex [g] w w' := by
  obtain ⟨hl0, hR, hB, hcs⟩ := h.cellsOf
  have hl : L.length = n + 1 := by rw [hl0]; simp
  have hc := hR.le
  have hm := hR.capLe
  rw [ints_length] at hc
  unfold maxLen at hm
  refine (Go.Proofs.Any.slices_Delete_int_cells lays23 g 0 (n + 1) c k (k + 1) L w (by omega) (by omega) (by omega) (by omega) (by omega) (fun j hj => hR.cellInt hj) (fun j _ => hR.frozen (0 + j))).mono ?_
  rintro e w' ⟨rfl, q, rfl⟩
  have hn : n + 1 - (k + 1 - k) = n := by omega
  rw [hn]
  have ht : L.take (n + 1) = L := List.take_of_length_le (by omega)
  rw [ht]
  generalize hV : (L.take k ++ L.drop (k + 1) ++ List.replicate (k + 1 - k) 0).map (Value.int .i64) = V
  have hVl : V.length = n + 1 := by rw [← hV]; simp; omega
  have h := Row_setCells (e := 3) (b := g) (off := 0) (c := c) V 0 (w.drewN q) (ints L) (hR.drewN q) (by rw [ints_length]; omega)
  have hsz := setCells_size (b := g) (e := 3) (c := c) V (0 + 0) (w.drewN q) hcs
  have h1 := h.1.take n
  have hs : (splice (ints L) 0 V).take n = ints (L.take k ++ L.drop (k + 1)) := by
    have : splice (ints L) 0 V = V := by
      simp [splice]
      rw [hVl, hl]; exact Nat.le_refl _
    rw [this, ← hV]
    rw [List.map_append, List.take_append_of_le_length (by simp; omega)]
    rw [List.take_of_length_le (by simp; omega)]
    rfl
  rw [hs] at h1
  have h2 := Own.of_row (B := B) h1 hsz hB
  rw [ints_length, show (L.take k ++ L.drop (k + 1)).length = n by simp; omega] at h2
  exact ⟨rfl, h2, Ex.trans (Ex.drewN (Ex.refl _ _) q) h.2⟩

/-- The run stack behind its pointer: entries st, merges mg. -/
structure RS (w0 : World) (sb : Nat) (sv mv : Value) (st mg : List Int) (most : Int) (wr : World) : Prop where
  row : Row wr 87 sb 0 3 [sv, mv, .int .i64 most]
  so : Own wr 3 w0.heap.size sv (ints st)
  mo : Own wr 3 w0.heap.size mv (ints mg)
  sn : sv.ownBlock ≠ some sb
  mn : mv.ownBlock ≠ some sb
  sm : ∀ b, sv.ownBlock = some b → mv.ownBlock ≠ some b
  sbl : w0.heap.size ≤ sb
  bel : Below w0.heap.size w0 wr
theorem RS.drewN {w0 : World} {sb : Nat} {sv mv : Value} {st mg : List Int} {most : Int} {wr : World} (h : RS w0 sb sv mv st mg most wr) (n : Nat) : RS w0 sb sv mv st mg most (wr.drewN n) :=
  ⟨h.row, h.so, h.mo, h.sn, h.mn, h.sm, h.sbl, Below.drewN h.bel n⟩
theorem RS.cells {w0 : World} {sb : Nat} {sv mv : Value} {st mg : List Int} {most : Int} {wr : World} (h : RS w0 sb sv mv st mg most wr) :
    wr.cell? ⟨sb, 0, none⟩ = some sv ∧ wr.cell? ⟨sb, 1, none⟩ = some mv ∧ wr.cell? ⟨sb, 2, none⟩ = some (.int .i64 most) ∧ ∀ j, wr.frozen? ⟨sb, j, none⟩ = false := by
  have h0 := h.row.cell (i := 0) (by simp)
  have h1 := h.row.cell (i := 1) (by simp)
  have h2 := h.row.cell (i := 2) (by simp)
  simp at h0 h1 h2
  exact ⟨h0, h1, h2, fun j => h.row.frozen j⟩
set_option maxHeartbeats 1000000 in
theorem from_any (w0 : World) (sb k : Nat) (sv mv : Value) (st mg : List Int) (most : Int) (wr : World) (h : RS w0 sb sv mv st mg most wr) (hk : 1 ≤ k) (hl : k ≤ st.length) (hm : st.length ≤ 1000) :
    Calls Try.prog 110 #[.pointer (some ⟨sb, 0, none⟩), .int .i64 k] wr fun e w' => e = .returned (.int .i64 (fromT st k)) ∧ ∃ q, w' = wr.drewN q := by
  obtain ⟨c0, _, _, _⟩ := h.cells
  obtain ⟨ao, c, rfl, h1, h2, h3, h4⟩ := h.so.sl.openInts
  obtain ⟨b, off, rfl, hR⟩ := h4 (by omega)
  obtain ⟨p, hp⟩ : ∃ p, p = st.length - k := ⟨_, rfl⟩
  have hc1 := hR.cellInt (i := p) (by omega)
  have hf : Hid (fromT st k = gi st p) := Lib.hid (by unfold fromT; rw [hp])
  generalize hn : st.length = n at *
  have i1 : (n : Int) - (k : Int) = (p : Int) := by omega
  have i2 : (p : Int) < (n : Int) := by omega
  have i3 : (0 : Int) ≤ (p : Int) := by omega
  have i4 : IntKind.i64.wrap (p : Int) = (p : Int) := IntWalk.i64_in _ (by omega)
  generalize hx : gi st p = x at *
  replace hx := Lib.hid hx
  replace hp := Lib.hid hp
  replace hn := Lib.hid hn
  replace h := Lib.hid h
  clear hR h4 h1 h3
  go_enter Try.func110, Try.ntmps110
  go_wp2
  go_quiet (fail)
  go_wp2
  go_ret
  exact ⟨ret_int (by rw [hf.out]), _, rfl⟩
end Go.Proofs.Ytdhcpoeopooejaa
