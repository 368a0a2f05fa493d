/- CompareRows, impl: the whole. -/
import Derived.Test.YtoeonplbgbgjmaaDoorCmpI
namespace Go.Proofs.YtoeonplbgbgjmaaDoor
open Go.RowKit
set_option linter.unusedVariables false
set_option linter.unusedSimpArgs false

set_option maxRecDepth 10000 in
set_option maxHeartbeats 4000000 in
theorem impl_CompareRows_law {vs va vb : Value} {xs : List KS} {a b : List ByteArray} {F1 F2 F3 : List Nat} {w : World} (r1 : RKeySpecS w vs xs F1) (r2 : RRow w va a F2) (r3 : RRow w vb b F3) (hT : TabS w) :
    Calls Tryd.prog 23 #[vs, va, vb] w fun e w' => e = .returned (.tuple #[.int .i64 (crR xs a b).1, .bool (crR xs a b).2]) ∧ Below w.heap.size w w' := by
  have g2 := r2
  have g3 := r3
  obtain ⟨u, rfl, q2⟩ := r2
  obtain ⟨v, rfl, q3⟩ := r3
  have hu := q2.rd
  have hv := q3.rd
  have hs := r1.rd
  obtain ⟨W0, hWd⟩ : ∃ W0, W0 = (w.alloc (.cells #[u] 40)).alloc (.cells #[v] 40) := ⟨_, rfl⟩
  have hBW : Below w.heap.size w W0 := by rw [hWd]; exact ((Below.refl _ _).alloc (Nat.le_refl _) _).alloc (by simp) _
  have hsz0 : W0.heap.size = w.heap.size + 2 := by rw [hWd]; simp
  have c5 : W0.cell? ⟨w.heap.size, 0, none⟩ = some u := by rw [hWd]; simp [go_sem]
  have c6 : W0.cell? ⟨w.heap.size + 1, 0, none⟩ = some v := by rw [hWd]; simp [go_sem]
  have hS : Hid (∀ w', Below W0.heap.size W0 w' → w'.cell? ⟨w.heap.size, 0, none⟩ = some u ∧ w'.cell? ⟨w.heap.size + 1, 0, none⟩ = some v) := Lib.hid (fun w' hw =>
    ⟨(hw.cell (p := ⟨w.heap.size, 0, none⟩) (by simp; omega)).trans c5, (hw.cell (p := ⟨w.heap.size + 1, 0, none⟩) (by simp; omega)).trans c6⟩)
  have hfin : Hid (∀ wr, Below W0.heap.size W0 wr → Below w.heap.size w wr) := Lib.hid (fun wr hw => Below.next hBW hw)
  have hsr := Lib.hid (hs.below hBW)
  have hur := Lib.hid (hu)
  have hsp : Hid (∀ wr, Below W0.heap.size W0 wr → Calls Tryd.prog 63 #[vs] wr fun e w' => e = .returned (.bool (okK xs)) ∧ Below W0.heap.size W0 w') := Lib.hid (fun wr hw =>
    (areSpecs_any vs xs wr (hs.below (Below.next hBW hw))).mono fun _ _ ⟨he, hb⟩ => ⟨he, Below.next hw hb⟩)
  have hra : Hid (∀ wr, Below W0.heap.size W0 wr → Calls Tryd.prog 55 #[.agg #[u]] wr fun e w' => e = .returned (.bool (rowB a)) ∧ Below W0.heap.size W0 w') := Lib.hid (fun wr hw =>
    (impl_IsValidRow_law (g2.next (Below.next hBW hw))).mono fun _ _ ⟨he, hb⟩ => ⟨he, Below.next hw hb⟩)
  have hrb : Hid (∀ wr, Below W0.heap.size W0 wr → Calls Tryd.prog 55 #[.agg #[v]] wr fun e w' => e = .returned (.bool (rowB b)) ∧ Below W0.heap.size W0 w') := Lib.hid (fun wr hw =>
    (impl_IsValidRow_law (g3.next (Below.next hBW hw))).mono fun _ _ ⟨he, hb⟩ => ⟨he, Below.next hw hb⟩)
  have hcm : Hid (∀ wr, okK xs = true → rowB a = true → rowB b = true → Below W0.heap.size W0 wr → Calls Tryd.prog 74 #[vs, .agg #[u], .agg #[v]] wr fun e w' => e = .returned (.int .i64 (cmpRs a b xs)) ∧ Below W0.heap.size W0 w') := Lib.hid (fun wr h1 h2 h3 hw =>
    (compareRows_any vs xs u v a b wr (hs.below (Below.next hBW hw)) (hu.below (Below.next hBW hw)) (hv.below (Below.next hBW hw)) (fun i hi => okK_fld h1 hi) (row_facts h2).2 (row_facts h3).2 (hT.next (Below.next hBW hw))).mono fun _ _ ⟨he, hb⟩ => ⟨he, Below.next hw hb⟩)
  obtain ⟨ao, c, rfl, q1, q4, _⟩ := hs
  unfold maxLen at q4
  obtain ⟨RR, hRR⟩ : ∃ RR, crR xs a b = RR := ⟨_, rfl⟩
  have hcr : Hid (RR = if (okK xs && rowB a && rowB b) then (cmpRs a b xs, true) else (0, false)) := Lib.hid (by rw [← hRR]; rfl)
  rw [hRR]
  generalize xs.length = n at *
  generalize okK xs = b1 at *
  generalize rowB a = b2 at *
  generalize rowB b = b3 at *
  generalize cmpRs a b xs = C at *
  clear g2 g3 r1 q2 q3 hu hv c5 c6 hBW hRR hsr hur hT
  replace hWd := Lib.hid hWd
  replace hsz0 := Lib.hid hsz0
  have hB0 : Hid (Below W0.heap.size W0 W0) := Lib.hid (Below.refl _ _)
  go_enter Tryd.func23, Tryd.ntmps23
  go_wp2_with fail
  rw [← hWd.out]
  refine (hsp.out _ hB0.out).mono ?_
  rintro e w1 ⟨rfl, hB1⟩
  obtain ⟨d1, d2⟩ := hS.out _ hB1
  replace hB1 := Lib.hid hB1
  cases b1
  · have hv := Lib.hid (show RR = (0, false) by rw [hcr.out]; simp)
    go_wp2
    go_ret2
    exact ⟨by rw [hv.out]; rfl, hfin.out _ hB1.out⟩
  · go_wp2_with fail
    refine (hra.out _ hB1.out).mono ?_
    rintro e w2 ⟨rfl, hB2⟩
    clear d1 d2
    obtain ⟨d1, d2⟩ := hS.out _ hB2
    replace hB2 := Lib.hid hB2
    cases b2
    · have hv := Lib.hid (show RR = (0, false) by rw [hcr.out]; simp)
      go_wp2
      go_ret2
      exact ⟨by rw [hv.out]; rfl, hfin.out _ hB2.out⟩
    · go_wp2_with fail
      refine (hrb.out _ hB2.out).mono ?_
      rintro e w3 ⟨rfl, hB3⟩
      clear d1 d2
      obtain ⟨d1, d2⟩ := hS.out _ hB3
      replace hB3 := Lib.hid hB3
      cases b3
      · have hv := Lib.hid (show RR = (0, false) by rw [hcr.out]; simp)
        go_wp2
        go_ret2
        exact ⟨by rw [hv.out]; rfl, hfin.out _ hB3.out⟩
      · have hv := Lib.hid (show RR = (C, true) by rw [hcr.out]; simp)
        go_wp2_with fail
        refine (hcm.out _ (by trivial) (by trivial) (by trivial) hB3.out).mono ?_
        rintro e w4 ⟨rfl, hB4⟩
        replace hB4 := Lib.hid hB4
        clear d1 d2
        go_wp2
        go_ret2
        exact ⟨by rw [hv.out]; rfl, hfin.out _ hB4.out⟩
end Go.Proofs.YtoeonplbgbgjmaaDoor
