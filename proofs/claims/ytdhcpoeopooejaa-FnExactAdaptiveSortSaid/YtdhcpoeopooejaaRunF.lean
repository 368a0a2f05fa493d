/- RunMerges, impl: push, runMerges. -/
import Derived.Test.YtdhcpoeopooejaaRunE
import Derived.Deep.LoopGhost
import Derived.Deep.CutRange
namespace Go.Proofs.Ytdhcpoeopooejaa
open Go.RowKit
set_option linter.unusedVariables false
set_option linter.unusedSimpArgs false

theorem nextF_no {st : List Int} {n : Nat} {z1 z2 z3 z4 : Int} (hn : st.length = n) (h2 : 2 ≤ n) (f1 : fromT st 1 = z1) (f2 : fromT st 2 = z2) (f3 : fromT st 3 = z3) (f4 : fromT st 4 = z4) :
    nextF st false = if (3 ≤ n ∧ z3 ≤ z1 + z2) ∨ (4 ≤ n ∧ z4 ≤ z3 + z2) then (if z3 < z1 then (n : Int) - 3 else (n : Int) - 2) else if z2 ≤ z1 then (n : Int) - 2 else -1 := by
  subst hn f1 f2 f3 f4
  unfold nextF
  rw [if_neg (by omega), if_neg (by simp)]
theorem nextF_end {st : List Int} {n : Nat} {z1 z3 : Int} (hn : st.length = n) (h2 : 2 ≤ n) (f1 : fromT st 1 = z1) (f3 : fromT st 3 = z3) :
    nextF st true = if 3 ≤ n ∧ z3 < z1 then (n : Int) - 3 else (n : Int) - 2 := by
  subst hn f1 f3
  unfold nextF
  rw [if_neg (by omega), if_pos rfl]
theorem nextF_small {st : List Int} {e : Bool} (h : st.length < 2) : ¬ 0 ≤ nextF st e := by
  unfold nextF
  rw [if_pos h]; omega
theorem Gd.from_ {B : Int} {st : List Int} (h : Gd B st) {k : Nat} (hk : 1 ≤ k) (hl : k ≤ st.length) : 0 ≤ fromT st k ∧ fromT st k ≤ B := h.at_ (by omega)
/-- A new entry on the stack. -/
theorem RS.pushed {w0 : World} {sb : Nat} {sv mv sv' : Value} {st mg : List Int} {most x : Int} {wr w1 : World} (h : RS w0 sb sv mv st mg most wr) (ho : Own w1 3 w0.heap.size sv' (ints st ++ [.int .i64 x])) (hg : wr.grownBy w1 sv.ownBlock)
    (hat : sv'.ownBlock = sv.ownBlock ∨ sv'.ownBlock = some (wr.heap.size + 1)) : RS w0 sb sv' mv (st ++ [x]) mg most (w1.setCell ⟨sb, 0, none⟩ sv') := by
  have hsb := h.row.lt
  have hnb : sv'.ownBlock ≠ some sb := by
    rcases hat with e | e
    · rw [e]; exact h.sn
    · rw [e]; simp; omega
  have hr := (h.row.grown hg (fun e => h.sn e.symm)).set (i := 0) (by simp) sv'
  have hmo := h.mo.kept hg (by
    cases e : mv.ownBlock with
    | none => exact .inl rfl
    | some b => exact .inr (fun e2 => h.sm b e2.symm e))
  refine ⟨by simpa using hr, ?_, ?_, hnb, h.mn, ?_, h.sbl, Below.setCellNew (Below.appended h.bel h.so hg h.bel.size) h.sbl⟩
  · have := ho.kept (grownBy.setIn (World.grownBy.refl w1 (some sb)) (p := ⟨sb, 0, none⟩) (v := sv') rfl) (.inr hnb)
    simpa [ints] using this
  · exact hmo.kept (grownBy.setIn (World.grownBy.refl w1 (some sb)) (p := ⟨sb, 0, none⟩) rfl) (.inr h.mn)
  · intro b hb e2
    rcases hat with e | e
    · rw [e] at hb; exact h.sm b hb e2
    · rw [e] at hb
      have := (h.mo.lt b e2).2
      simp at hb; omega
theorem RS.setMost {w0 : World} {sb : Nat} {sv mv : Value} {st mg : List Int} {most x : Int} {wr : World} (h : RS w0 sb sv mv st mg most wr) : RS w0 sb sv mv st mg x (wr.setCell ⟨sb, 2, none⟩ (.int .i64 x)) := by
  have hr := h.row.set (i := 2) (by simp) (.int .i64 x)
  refine ⟨by simpa using hr, ?_, ?_, h.sn, h.mn, h.sm, h.sbl, Below.setCellNew h.bel h.sbl⟩
  · exact h.so.kept (grownBy.setIn (World.grownBy.refl wr (some sb)) (p := ⟨sb, 2, none⟩) rfl) (.inr h.sn)
  · exact h.mo.kept (grownBy.setIn (World.grownBy.refl wr (some sb)) (p := ⟨sb, 2, none⟩) rfl) (.inr h.mn)

set_option maxRecDepth 10000 in
set_option maxHeartbeats 8000000 in
theorem push_any (w0 : World) (sb m : Nat) (sv mv : Value) (st mg : List Int) (most : Nat) (x : Int) (wr : World) (h : RS w0 sb sv mv st mg (most : Nat) wr) (hl : st.length + mg.length ≤ 100) (hmost : most ≤ 1000) (hG : Gd 100000000 (st ++ [x])) (hm : st.length + 1 = m) :
    Calls Try.prog 82 #[.pointer (some ⟨sb, 0, none⟩), .int .i64 x] wr fun e w' => e = .returned (.tuple #[]) ∧ ∃ sv' mv', RS w0 sb sv' mv' (settle false m (st ++ [x]) mg).1 (settle false m (st ++ [x]) mg).2 ((max most m : Nat) : Int) w' := by
  obtain ⟨c0, _, c2, hfz⟩ := h.cells
  have f0 := hfz 0
  have hsl : (ints st).length ≤ 1000000000 := by rw [ints_length]; omega
  have hB : w0.heap.size ≤ wr.heap.size := h.bel.size
  have hso := Lib.hid h.so
  generalize hRR : settle false m (st ++ [x]) mg = R at *
  obtain ⟨M, hM⟩ : ∃ M : Int, M = ((max most m : Nat) : Int) := ⟨_, rfl⟩
  rw [← hM]
  replace h := Lib.hid h
  replace hRR := Lib.hid hRR
  replace hG := Lib.hid hG
  clear hfz
  go_enter Try.func82, Try.ntmps82
  go_wp2_with (at_builtin; refine append_one_at eltInt rfl _ _ rfl w0.heap.size _ _ rfl hso.out rfl rfl hsl hB ?_)
  intro sv' w1 ho hg hat
  have h2 := h.out.pushed ho hg hat
  have hrow1 := h.out.row.grown hg (fun e => h.out.sn e.symm)
  have c0' : w1.cell? ⟨sb, 0, none⟩ = some sv := by
    have := hrow1.cell (i := 0) (by simp)
    simpa using this
  have f0' : w1.frozen? ⟨sb, 0, none⟩ = false := hrow1.frozen 0
  obtain ⟨ah, ch, rfl, _⟩ := ho.sl
  have hm9 := Lib.hid (show st.length = m - 1 ∧ 1 ≤ m by omega)
  rw [List.length_append, ints_length, List.length_singleton, hm] at *
  obtain ⟨W, hW⟩ : ∃ W, W = w1.setCell ⟨sb, 0, none⟩ (.slice ah m ch) := ⟨_, rfl⟩
  rw [← hW] at h2
  obtain ⟨d0, _, d2, dz⟩ := h2.cells
  have z2 := dz 2
  replace hW := Lib.hid hW
  clear ho hg hat hrow1 dz c0 c2 f0 hso
  have main : ∀ W', RS w0 sb (.slice ah m ch) mv (st ++ [x]) mg M W' → Hid (RS w0 sb (.slice ah m ch) mv (st ++ [x]) mg M W') := fun _ h => Lib.hid h
  go_upto_region 1 with (fail)
  go_cut [] from 5 (fun wq => RS w0 sb (.slice ah m ch) mv (st ++ [x]) mg M wq)
  case first =>
    rw [← hW.out]
    have hS : Hid (RS w0 sb (.slice ah m ch) mv (st ++ [x]) mg M ((W.setCell ⟨sb, 2, none⟩ (.int .i64 (max (most : Int) (m : Int)))).drew)) := Lib.hid (by
      have : M = max (most : Int) (m : Int) := by rw [hM]; omega
      rw [this]; exact (h2.setMost).drewN 1)
    clear h2 main
    go_region
    go_wp2_with fail
    go_meet
    case rel => exact hS.out
  case rest =>
    have hS := Lib.hid hcut
    clear hcut h2 d0 d2 z2 main
    replace hM := Lib.hid hM
    go_wp2
    go_loopg [] m (fun g wq => ∃ (sv mv : Value) (st' mg' : List Int), RS w0 sb sv mv st' mg' M wq ∧ Hid (settle false g st' mg' = R) ∧ st'.length ≤ g ∧ g ≤ 101 ∧ st'.length + mg'.length ≤ 101 ∧ Hid (Gd 100000000 st'))
    case atStart => exact ⟨_, _, _, _, hS.out, hRR, by have := hm9.out; simp; omega, by have := hm9.out; omega, by have := hm9.out; simp; omega, hG⟩
    case round =>
      clear hS
      obtain ⟨sv, mv, st', mg', hS, hR, b1, b2, b3, hGd⟩ := hrel
      obtain ⟨a9, c9, rfl, q1, q2, q3, _⟩ := hS.so.sl.openInts
      have d0 := hS.cells.1
      generalize hn : st'.length = n at *
      replace hn := Lib.hid hn
      replace hS := Lib.hid hS
      clear q1 q2 q3
      by_cases hn2 : 2 ≤ n
      · obtain ⟨g, rfl⟩ : ∃ z, gk = z + 1 := ⟨gk - 1, by omega⟩
        obtain ⟨p2, hp2⟩ : ∃ p, p + 2 = n := ⟨n - 2, by omega⟩
        have i2 : (n : Int) - 2 = (p2 : Int) := by omega
        have g1 := hGd.out.from_ (k := 1) (by omega) (by rw [hn.out]; omega)
        have g2 := hGd.out.from_ (k := 2) (by omega) (by rw [hn.out]; omega)
        obtain ⟨z1, hz1⟩ : ∃ z, fromT st' 1 = z := ⟨_, rfl⟩
        obtain ⟨z2, hz2⟩ : ∃ z, fromT st' 2 = z := ⟨_, rfl⟩
        obtain ⟨z3, hz3⟩ : ∃ z, fromT st' 3 = z := ⟨_, rfl⟩
        obtain ⟨z4, hz4⟩ : ∃ z, fromT st' 4 = z := ⟨_, rfl⟩
        rw [hz1] at g1
        rw [hz2] at g2
        replace hz1 := Lib.hid hz1
        replace hz2 := Lib.hid hz2
        replace hz4 := Lib.hid hz4
        replace hp2 := Lib.hid hp2
        have k2 : (2 : Int) ≤ (n : Int) := by omega
        by_cases hn3 : 3 ≤ n
        · obtain ⟨p3, hp3⟩ : ∃ p, p + 3 = n := ⟨n - 3, by omega⟩
          have i3 : (n : Int) - 3 = (p3 : Int) := by omega
          have g3 := hGd.out.from_ (k := 3) (by omega) (by rw [hn.out]; omega)
          rw [hz3] at g3
          replace hz3 := Lib.hid hz3
          replace hp3 := Lib.hid hp3
          have k3 : (3 : Int) ≤ (n : Int) := by omega
          by_cases hA : z3 ≤ z1 + z2
          · by_cases ht : z3 < z1
            · have hnx : Hid (nextF st' false = (p3 : Int)) := Lib.hid (by rw [nextF_no hn.out hn2 hz1.out hz2.out hz3.out hz4.out, if_pos (.inl ⟨hn3, hA⟩), if_pos ht, i3])
              go_wp2_with fail
              refine (hS.out.from_ 3 _ rfl (by omega) (by rw [hn.out]; omega) (by rw [hn.out]; omega)).mono ?_
              rintro e w3 ⟨rfl, hS'⟩
              rw [hz3.out]
              replace hS := Lib.hid hS'
              clear hS'
              go_wp2_with fail
              refine (hS.out.from_ 1 _ rfl (by omega) (by rw [hn.out]; omega) (by rw [hn.out]; omega)).mono ?_
              rintro e w1 ⟨rfl, hS'⟩
              rw [hz1.out]
              replace hS := Lib.hid hS'
              clear hS'
              go_wp2_with fail
              refine (hS.out.from_ 2 _ rfl (by omega) (by rw [hn.out]; omega) (by rw [hn.out]; omega)).mono ?_
              rintro e w2 ⟨rfl, hS'⟩
              rw [hz2.out]
              replace hS := Lib.hid hS'
              clear hS'
              go_wp2_with fail
              refine (hS.out.from_ 3 _ rfl (by omega) (by rw [hn.out]; omega) (by rw [hn.out]; omega)).mono ?_
              rintro e w3 ⟨rfl, hS'⟩
              rw [hz3.out]
              replace hS := Lib.hid hS'
              clear hS'
              go_wp2_with fail
              refine (hS.out.from_ 1 _ rfl (by omega) (by rw [hn.out]; omega) (by rw [hn.out]; omega)).mono ?_
              rintro e w1 ⟨rfl, hS'⟩
              rw [hz1.out]
              replace hS := Lib.hid hS'
              clear hS'
              go_wp2_with fail
              refine (mergeAt_any w0 sb p3 _ (by first | rfl | omega) _ _ st' mg' M _ hS.out (by rw [hn.out]; omega) (by rw [hn.out]; omega) (by omega) hGd.out).mono ?_
              rintro e w9 ⟨rfl, sv9, mv9, hS9⟩
              replace hS9 := Lib.hid hS9
              have hst := settle_next (e := false) (m := g) (st := st') (out := mg') (by rw [hnx.out]; omega)
              rw [hnx.out, Int.toNat_natCast, hR.out] at hst
              have hml := mgAt_length (st := st') (k := p3) (by rw [hn.out]; omega)
              have hg9 := hGd.out.mg (k := p3) (by rw [hn.out]; omega)
              have hln := hn.out
              replace hst := Lib.hid hst
              replace hg9 := Lib.hid hg9
              clear hS
              go_wp2
              go_roundg g
              case measure => omega
              case rel => exact ⟨_, _, _, _, hS9.out, Lib.hid hst.out.symm, by omega, by omega, by simp; omega, hg9⟩
            · have hnx : Hid (nextF st' false = (p2 : Int)) := Lib.hid (by rw [nextF_no hn.out hn2 hz1.out hz2.out hz3.out hz4.out, if_pos (.inl ⟨hn3, hA⟩), if_neg ht, i2])
              go_wp2_with fail
              refine (hS.out.from_ 3 _ rfl (by omega) (by rw [hn.out]; omega) (by rw [hn.out]; omega)).mono ?_
              rintro e w3 ⟨rfl, hS'⟩
              rw [hz3.out]
              replace hS := Lib.hid hS'
              clear hS'
              go_wp2_with fail
              refine (hS.out.from_ 1 _ rfl (by omega) (by rw [hn.out]; omega) (by rw [hn.out]; omega)).mono ?_
              rintro e w1 ⟨rfl, hS'⟩
              rw [hz1.out]
              replace hS := Lib.hid hS'
              clear hS'
              go_wp2_with fail
              refine (hS.out.from_ 2 _ rfl (by omega) (by rw [hn.out]; omega) (by rw [hn.out]; omega)).mono ?_
              rintro e w2 ⟨rfl, hS'⟩
              rw [hz2.out]
              replace hS := Lib.hid hS'
              clear hS'
              go_wp2_with fail
              refine (hS.out.from_ 3 _ rfl (by omega) (by rw [hn.out]; omega) (by rw [hn.out]; omega)).mono ?_
              rintro e w3 ⟨rfl, hS'⟩
              rw [hz3.out]
              replace hS := Lib.hid hS'
              clear hS'
              go_wp2_with fail
              refine (hS.out.from_ 1 _ rfl (by omega) (by rw [hn.out]; omega) (by rw [hn.out]; omega)).mono ?_
              rintro e w1 ⟨rfl, hS'⟩
              rw [hz1.out]
              replace hS := Lib.hid hS'
              clear hS'
              go_wp2_with fail
              refine (mergeAt_any w0 sb p2 _ (by first | rfl | omega) _ _ st' mg' M _ hS.out (by rw [hn.out]; omega) (by rw [hn.out]; omega) (by omega) hGd.out).mono ?_
              rintro e w9 ⟨rfl, sv9, mv9, hS9⟩
              replace hS9 := Lib.hid hS9
              have hst := settle_next (e := false) (m := g) (st := st') (out := mg') (by rw [hnx.out]; omega)
              rw [hnx.out, Int.toNat_natCast, hR.out] at hst
              have hml := mgAt_length (st := st') (k := p2) (by rw [hn.out]; omega)
              have hg9 := hGd.out.mg (k := p2) (by rw [hn.out]; omega)
              have hln := hn.out
              replace hst := Lib.hid hst
              replace hg9 := Lib.hid hg9
              clear hS
              go_wp2
              go_roundg g
              case measure => omega
              case rel => exact ⟨_, _, _, _, hS9.out, Lib.hid hst.out.symm, by omega, by omega, by simp; omega, hg9⟩
          · by_cases hn4 : 4 ≤ n
            · have g4 := hGd.out.from_ (k := 4) (by omega) (by rw [hn.out]; omega)
              rw [hz4.out] at g4
              have k4 : (4 : Int) ≤ (n : Int) := by omega
              by_cases hBB : z4 ≤ z3 + z2
              · by_cases ht : z3 < z1
                · exfalso; omega
                · have hnx : Hid (nextF st' false = (p2 : Int)) := Lib.hid (by rw [nextF_no hn.out hn2 hz1.out hz2.out hz3.out hz4.out, if_pos (.inr ⟨hn4, hBB⟩), if_neg ht, i2])
                  go_wp2_with fail
                  refine (hS.out.from_ 3 _ rfl (by omega) (by rw [hn.out]; omega) (by rw [hn.out]; omega)).mono ?_
                  rintro e w3 ⟨rfl, hS'⟩
                  rw [hz3.out]
                  replace hS := Lib.hid hS'
                  clear hS'
                  go_wp2_with fail
                  refine (hS.out.from_ 1 _ rfl (by omega) (by rw [hn.out]; omega) (by rw [hn.out]; omega)).mono ?_
                  rintro e w1 ⟨rfl, hS'⟩
                  rw [hz1.out]
                  replace hS := Lib.hid hS'
                  clear hS'
                  go_wp2_with fail
                  refine (hS.out.from_ 2 _ rfl (by omega) (by rw [hn.out]; omega) (by rw [hn.out]; omega)).mono ?_
                  rintro e w2 ⟨rfl, hS'⟩
                  rw [hz2.out]
                  replace hS := Lib.hid hS'
                  clear hS'
                  go_wp2_with fail
                  refine (hS.out.from_ 4 _ rfl (by omega) (by rw [hn.out]; omega) (by rw [hn.out]; omega)).mono ?_
                  rintro e w4 ⟨rfl, hS'⟩
                  rw [hz4.out]
                  replace hS := Lib.hid hS'
                  clear hS'
                  go_wp2_with fail
                  refine (hS.out.from_ 3 _ rfl (by omega) (by rw [hn.out]; omega) (by rw [hn.out]; omega)).mono ?_
                  rintro e w3 ⟨rfl, hS'⟩
                  rw [hz3.out]
                  replace hS := Lib.hid hS'
                  clear hS'
                  go_wp2_with fail
                  refine (hS.out.from_ 2 _ rfl (by omega) (by rw [hn.out]; omega) (by rw [hn.out]; omega)).mono ?_
                  rintro e w2 ⟨rfl, hS'⟩
                  rw [hz2.out]
                  replace hS := Lib.hid hS'
                  clear hS'
                  go_wp2_with fail
                  refine (hS.out.from_ 3 _ rfl (by omega) (by rw [hn.out]; omega) (by rw [hn.out]; omega)).mono ?_
                  rintro e w3 ⟨rfl, hS'⟩
                  rw [hz3.out]
                  replace hS := Lib.hid hS'
                  clear hS'
                  go_wp2_with fail
                  refine (hS.out.from_ 1 _ rfl (by omega) (by rw [hn.out]; omega) (by rw [hn.out]; omega)).mono ?_
                  rintro e w1 ⟨rfl, hS'⟩
                  rw [hz1.out]
                  replace hS := Lib.hid hS'
                  clear hS'
                  go_wp2_with fail
                  refine (mergeAt_any w0 sb p2 _ (by first | rfl | omega) _ _ st' mg' M _ hS.out (by rw [hn.out]; omega) (by rw [hn.out]; omega) (by omega) hGd.out).mono ?_
                  rintro e w9 ⟨rfl, sv9, mv9, hS9⟩
                  replace hS9 := Lib.hid hS9
                  have hst := settle_next (e := false) (m := g) (st := st') (out := mg') (by rw [hnx.out]; omega)
                  rw [hnx.out, Int.toNat_natCast, hR.out] at hst
                  have hml := mgAt_length (st := st') (k := p2) (by rw [hn.out]; omega)
                  have hg9 := hGd.out.mg (k := p2) (by rw [hn.out]; omega)
                  have hln := hn.out
                  replace hst := Lib.hid hst
                  replace hg9 := Lib.hid hg9
                  clear hS
                  go_wp2
                  go_roundg g
                  case measure => omega
                  case rel => exact ⟨_, _, _, _, hS9.out, Lib.hid hst.out.symm, by omega, by omega, by simp; omega, hg9⟩
              · by_cases ht : z2 ≤ z1
                · have hnx : Hid (nextF st' false = (p2 : Int)) := Lib.hid (by rw [nextF_no hn.out hn2 hz1.out hz2.out hz3.out hz4.out, if_neg (by omega), if_pos ht, i2])
                  go_wp2_with fail
                  refine (hS.out.from_ 3 _ rfl (by omega) (by rw [hn.out]; omega) (by rw [hn.out]; omega)).mono ?_
                  rintro e w3 ⟨rfl, hS'⟩
                  rw [hz3.out]
                  replace hS := Lib.hid hS'
                  clear hS'
                  go_wp2_with fail
                  refine (hS.out.from_ 1 _ rfl (by omega) (by rw [hn.out]; omega) (by rw [hn.out]; omega)).mono ?_
                  rintro e w1 ⟨rfl, hS'⟩
                  rw [hz1.out]
                  replace hS := Lib.hid hS'
                  clear hS'
                  go_wp2_with fail
                  refine (hS.out.from_ 2 _ rfl (by omega) (by rw [hn.out]; omega) (by rw [hn.out]; omega)).mono ?_
                  rintro e w2 ⟨rfl, hS'⟩
                  rw [hz2.out]
                  replace hS := Lib.hid hS'
                  clear hS'
                  go_wp2_with fail
                  refine (hS.out.from_ 4 _ rfl (by omega) (by rw [hn.out]; omega) (by rw [hn.out]; omega)).mono ?_
                  rintro e w4 ⟨rfl, hS'⟩
                  rw [hz4.out]
                  replace hS := Lib.hid hS'
                  clear hS'
                  go_wp2_with fail
                  refine (hS.out.from_ 3 _ rfl (by omega) (by rw [hn.out]; omega) (by rw [hn.out]; omega)).mono ?_
                  rintro e w3 ⟨rfl, hS'⟩
                  rw [hz3.out]
                  replace hS := Lib.hid hS'
                  clear hS'
                  go_wp2_with fail
                  refine (hS.out.from_ 2 _ rfl (by omega) (by rw [hn.out]; omega) (by rw [hn.out]; omega)).mono ?_
                  rintro e w2 ⟨rfl, hS'⟩
                  rw [hz2.out]
                  replace hS := Lib.hid hS'
                  clear hS'
                  go_wp2_with fail
                  refine (hS.out.from_ 2 _ rfl (by omega) (by rw [hn.out]; omega) (by rw [hn.out]; omega)).mono ?_
                  rintro e w2 ⟨rfl, hS'⟩
                  rw [hz2.out]
                  replace hS := Lib.hid hS'
                  clear hS'
                  go_wp2_with fail
                  refine (hS.out.from_ 1 _ rfl (by omega) (by rw [hn.out]; omega) (by rw [hn.out]; omega)).mono ?_
                  rintro e w1 ⟨rfl, hS'⟩
                  rw [hz1.out]
                  replace hS := Lib.hid hS'
                  clear hS'
                  go_wp2_with fail
                  refine (mergeAt_any w0 sb p2 _ (by first | rfl | omega) _ _ st' mg' M _ hS.out (by rw [hn.out]; omega) (by rw [hn.out]; omega) (by omega) hGd.out).mono ?_
                  rintro e w9 ⟨rfl, sv9, mv9, hS9⟩
                  replace hS9 := Lib.hid hS9
                  have hst := settle_next (e := false) (m := g) (st := st') (out := mg') (by rw [hnx.out]; omega)
                  rw [hnx.out, Int.toNat_natCast, hR.out] at hst
                  have hml := mgAt_length (st := st') (k := p2) (by rw [hn.out]; omega)
                  have hg9 := hGd.out.mg (k := p2) (by rw [hn.out]; omega)
                  have hln := hn.out
                  replace hst := Lib.hid hst
                  replace hg9 := Lib.hid hg9
                  clear hS
                  go_wp2
                  go_roundg g
                  case measure => omega
                  case rel => exact ⟨_, _, _, _, hS9.out, Lib.hid hst.out.symm, by omega, by omega, by simp; omega, hg9⟩
                · have hnx : Hid (nextF st' false = -1) := Lib.hid (by rw [nextF_no hn.out hn2 hz1.out hz2.out hz3.out hz4.out, if_neg (by omega), if_neg ht])
                  have hst := settle_stop (e := false) (m := g + 1) (st := st') (out := mg') (by rw [hnx.out]; omega)
                  rw [hR.out] at hst
                  replace hst := Lib.hid hst
                  go_wp2_with fail
                  refine (hS.out.from_ 3 _ rfl (by omega) (by rw [hn.out]; omega) (by rw [hn.out]; omega)).mono ?_
                  rintro e w3 ⟨rfl, hS'⟩
                  rw [hz3.out]
                  replace hS := Lib.hid hS'
                  clear hS'
                  go_wp2_with fail
                  refine (hS.out.from_ 1 _ rfl (by omega) (by rw [hn.out]; omega) (by rw [hn.out]; omega)).mono ?_
                  rintro e w1 ⟨rfl, hS'⟩
                  rw [hz1.out]
                  replace hS := Lib.hid hS'
                  clear hS'
                  go_wp2_with fail
                  refine (hS.out.from_ 2 _ rfl (by omega) (by rw [hn.out]; omega) (by rw [hn.out]; omega)).mono ?_
                  rintro e w2 ⟨rfl, hS'⟩
                  rw [hz2.out]
                  replace hS := Lib.hid hS'
                  clear hS'
                  go_wp2_with fail
                  refine (hS.out.from_ 4 _ rfl (by omega) (by rw [hn.out]; omega) (by rw [hn.out]; omega)).mono ?_
                  rintro e w4 ⟨rfl, hS'⟩
                  rw [hz4.out]
                  replace hS := Lib.hid hS'
                  clear hS'
                  go_wp2_with fail
                  refine (hS.out.from_ 3 _ rfl (by omega) (by rw [hn.out]; omega) (by rw [hn.out]; omega)).mono ?_
                  rintro e w3 ⟨rfl, hS'⟩
                  rw [hz3.out]
                  replace hS := Lib.hid hS'
                  clear hS'
                  go_wp2_with fail
                  refine (hS.out.from_ 2 _ rfl (by omega) (by rw [hn.out]; omega) (by rw [hn.out]; omega)).mono ?_
                  rintro e w2 ⟨rfl, hS'⟩
                  rw [hz2.out]
                  replace hS := Lib.hid hS'
                  clear hS'
                  go_wp2_with fail
                  refine (hS.out.from_ 2 _ rfl (by omega) (by rw [hn.out]; omega) (by rw [hn.out]; omega)).mono ?_
                  rintro e w2 ⟨rfl, hS'⟩
                  rw [hz2.out]
                  replace hS := Lib.hid hS'
                  clear hS'
                  go_wp2_with fail
                  refine (hS.out.from_ 1 _ rfl (by omega) (by rw [hn.out]; omega) (by rw [hn.out]; omega)).mono ?_
                  rintro e w1 ⟨rfl, hS'⟩
                  rw [hz1.out]
                  replace hS := Lib.hid hS'
                  clear hS'
                  go_wp2
                  (try simp only [Exit.inBlock, Exit.then])
                  refine bodyPost_ret (results_none rfl _ _ _) rfl ?_
                  exact ⟨rfl, _, _, by rw [hst.out]; exact hS.out⟩
            · have k4 : ¬ (4 : Int) ≤ (n : Int) := by omega
              by_cases ht : z2 ≤ z1
              · have hnx : Hid (nextF st' false = (p2 : Int)) := Lib.hid (by rw [nextF_no hn.out hn2 hz1.out hz2.out hz3.out hz4.out, if_neg (by omega), if_pos ht, i2])
                go_wp2_with fail
                refine (hS.out.from_ 3 _ rfl (by omega) (by rw [hn.out]; omega) (by rw [hn.out]; omega)).mono ?_
                rintro e w3 ⟨rfl, hS'⟩
                rw [hz3.out]
                replace hS := Lib.hid hS'
                clear hS'
                go_wp2_with fail
                refine (hS.out.from_ 1 _ rfl (by omega) (by rw [hn.out]; omega) (by rw [hn.out]; omega)).mono ?_
                rintro e w1 ⟨rfl, hS'⟩
                rw [hz1.out]
                replace hS := Lib.hid hS'
                clear hS'
                go_wp2_with fail
                refine (hS.out.from_ 2 _ rfl (by omega) (by rw [hn.out]; omega) (by rw [hn.out]; omega)).mono ?_
                rintro e w2 ⟨rfl, hS'⟩
                rw [hz2.out]
                replace hS := Lib.hid hS'
                clear hS'
                go_wp2_with fail
                refine (hS.out.from_ 2 _ rfl (by omega) (by rw [hn.out]; omega) (by rw [hn.out]; omega)).mono ?_
                rintro e w2 ⟨rfl, hS'⟩
                rw [hz2.out]
                replace hS := Lib.hid hS'
                clear hS'
                go_wp2_with fail
                refine (hS.out.from_ 1 _ rfl (by omega) (by rw [hn.out]; omega) (by rw [hn.out]; omega)).mono ?_
                rintro e w1 ⟨rfl, hS'⟩
                rw [hz1.out]
                replace hS := Lib.hid hS'
                clear hS'
                go_wp2_with fail
                refine (mergeAt_any w0 sb p2 _ (by first | rfl | omega) _ _ st' mg' M _ hS.out (by rw [hn.out]; omega) (by rw [hn.out]; omega) (by omega) hGd.out).mono ?_
                rintro e w9 ⟨rfl, sv9, mv9, hS9⟩
                replace hS9 := Lib.hid hS9
                have hst := settle_next (e := false) (m := g) (st := st') (out := mg') (by rw [hnx.out]; omega)
                rw [hnx.out, Int.toNat_natCast, hR.out] at hst
                have hml := mgAt_length (st := st') (k := p2) (by rw [hn.out]; omega)
                have hg9 := hGd.out.mg (k := p2) (by rw [hn.out]; omega)
                have hln := hn.out
                replace hst := Lib.hid hst
                replace hg9 := Lib.hid hg9
                clear hS
                go_wp2
                go_roundg g
                case measure => omega
                case rel => exact ⟨_, _, _, _, hS9.out, Lib.hid hst.out.symm, by omega, by omega, by simp; omega, hg9⟩
              · have hnx : Hid (nextF st' false = -1) := Lib.hid (by rw [nextF_no hn.out hn2 hz1.out hz2.out hz3.out hz4.out, if_neg (by omega), if_neg ht])
                have hst := settle_stop (e := false) (m := g + 1) (st := st') (out := mg') (by rw [hnx.out]; omega)
                rw [hR.out] at hst
                replace hst := Lib.hid hst
                go_wp2_with fail
                refine (hS.out.from_ 3 _ rfl (by omega) (by rw [hn.out]; omega) (by rw [hn.out]; omega)).mono ?_
                rintro e w3 ⟨rfl, hS'⟩
                rw [hz3.out]
                replace hS := Lib.hid hS'
                clear hS'
                go_wp2_with fail
                refine (hS.out.from_ 1 _ rfl (by omega) (by rw [hn.out]; omega) (by rw [hn.out]; omega)).mono ?_
                rintro e w1 ⟨rfl, hS'⟩
                rw [hz1.out]
                replace hS := Lib.hid hS'
                clear hS'
                go_wp2_with fail
                refine (hS.out.from_ 2 _ rfl (by omega) (by rw [hn.out]; omega) (by rw [hn.out]; omega)).mono ?_
                rintro e w2 ⟨rfl, hS'⟩
                rw [hz2.out]
                replace hS := Lib.hid hS'
                clear hS'
                go_wp2_with fail
                refine (hS.out.from_ 2 _ rfl (by omega) (by rw [hn.out]; omega) (by rw [hn.out]; omega)).mono ?_
                rintro e w2 ⟨rfl, hS'⟩
                rw [hz2.out]
                replace hS := Lib.hid hS'
                clear hS'
                go_wp2_with fail
                refine (hS.out.from_ 1 _ rfl (by omega) (by rw [hn.out]; omega) (by rw [hn.out]; omega)).mono ?_
                rintro e w1 ⟨rfl, hS'⟩
                rw [hz1.out]
                replace hS := Lib.hid hS'
                clear hS'
                go_wp2
                (try simp only [Exit.inBlock, Exit.then])
                refine bodyPost_ret (results_none rfl _ _ _) rfl ?_
                exact ⟨rfl, _, _, by rw [hst.out]; exact hS.out⟩
        · have k3 : ¬ (3 : Int) ≤ (n : Int) := by omega
          have k4 : ¬ (4 : Int) ≤ (n : Int) := by omega
          replace hz3 := Lib.hid hz3
          by_cases ht : z2 ≤ z1
          · have hnx : Hid (nextF st' false = (p2 : Int)) := Lib.hid (by rw [nextF_no hn.out hn2 hz1.out hz2.out hz3.out hz4.out, if_neg (by omega), if_pos ht, i2])
            go_wp2_with fail
            refine (hS.out.from_ 2 _ rfl (by omega) (by rw [hn.out]; omega) (by rw [hn.out]; omega)).mono ?_
            rintro e w2 ⟨rfl, hS'⟩
            rw [hz2.out]
            replace hS := Lib.hid hS'
            clear hS'
            go_wp2_with fail
            refine (hS.out.from_ 1 _ rfl (by omega) (by rw [hn.out]; omega) (by rw [hn.out]; omega)).mono ?_
            rintro e w1 ⟨rfl, hS'⟩
            rw [hz1.out]
            replace hS := Lib.hid hS'
            clear hS'
            go_wp2_with fail
            refine (mergeAt_any w0 sb p2 _ (by first | rfl | omega) _ _ st' mg' M _ hS.out (by rw [hn.out]; omega) (by rw [hn.out]; omega) (by omega) hGd.out).mono ?_
            rintro e w9 ⟨rfl, sv9, mv9, hS9⟩
            replace hS9 := Lib.hid hS9
            have hst := settle_next (e := false) (m := g) (st := st') (out := mg') (by rw [hnx.out]; omega)
            rw [hnx.out, Int.toNat_natCast, hR.out] at hst
            have hml := mgAt_length (st := st') (k := p2) (by rw [hn.out]; omega)
            have hg9 := hGd.out.mg (k := p2) (by rw [hn.out]; omega)
            have hln := hn.out
            replace hst := Lib.hid hst
            replace hg9 := Lib.hid hg9
            clear hS
            go_wp2
            go_roundg g
            case measure => omega
            case rel => exact ⟨_, _, _, _, hS9.out, Lib.hid hst.out.symm, by omega, by omega, by simp; omega, hg9⟩
          · have hnx : Hid (nextF st' false = -1) := Lib.hid (by rw [nextF_no hn.out hn2 hz1.out hz2.out hz3.out hz4.out, if_neg (by omega), if_neg ht])
            have hst := settle_stop (e := false) (m := g + 1) (st := st') (out := mg') (by rw [hnx.out]; omega)
            rw [hR.out] at hst
            replace hst := Lib.hid hst
            go_wp2_with fail
            refine (hS.out.from_ 2 _ rfl (by omega) (by rw [hn.out]; omega) (by rw [hn.out]; omega)).mono ?_
            rintro e w2 ⟨rfl, hS'⟩
            rw [hz2.out]
            replace hS := Lib.hid hS'
            clear hS'
            go_wp2_with fail
            refine (hS.out.from_ 1 _ rfl (by omega) (by rw [hn.out]; omega) (by rw [hn.out]; omega)).mono ?_
            rintro e w1 ⟨rfl, hS'⟩
            rw [hz1.out]
            replace hS := Lib.hid hS'
            clear hS'
            go_wp2
            (try simp only [Exit.inBlock, Exit.then])
            refine bodyPost_ret (results_none rfl _ _ _) rfl ?_
            exact ⟨rfl, _, _, by rw [hst.out]; exact hS.out⟩
      · have k2 : ¬ (2 : Int) ≤ (n : Int) := by omega
        have hst := settle_stop (e := false) (m := gk) (st := st') (out := mg') (nextF_small (by rw [hn.out]; omega))
        rw [hR.out] at hst
        replace hst := Lib.hid hst
        go_wp2
        go_end0
        exact ⟨rfl, _, _, by rw [hst.out]; exact hS.out⟩
end Go.Proofs.Ytdhcpoeopooejaa
