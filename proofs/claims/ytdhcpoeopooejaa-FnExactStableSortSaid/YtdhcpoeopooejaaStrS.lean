/- spec.l2Stable. -/
import Derived.Test.YtdhcpoeopooejaaStrP
import Derived.Test.YtdhcpoeopooejaaRecOwn
import Derived.Laws.NewBlocks
namespace Go.Proofs.Ytdhcpoeopooejaa
open Go.RowKit
set_option linter.unusedVariables false
set_option linter.unusedSimpArgs false

theorem OwnQ.open {e : TypeId} {w : World} {B : Nat} {v : Value} {xs : List (Int × Int)} (h : OwnQ e w B v xs) (hx : xs.length ≤ 1000000000) (hp : 0 < xs.length) : ∃ g c, v = .slice (some ⟨g, 0, none⟩) xs.length c ∧ B ≤ g ∧ SlQ e w (.slice (some ⟨g, 0, none⟩) xs.length c) xs := by
  have hs := h.sl hx
  have hl := h.lt
  obtain ⟨hl', hh⟩ := h
  rcases hh with ⟨rfl, hn⟩ | ⟨g, cap, cur, rfl, hB, hg, hn, hm, hs2, ht⟩
  · omega
  · exact ⟨g, cap, rfl, hB, hs⟩

theorem Below.setIx {B : Nat} {a w : World} (h : Below B a w) {b j : Nat} (hb : B ≤ b) {v : Value} : Below B a (w.setCell ⟨b, j, none⟩ v) :=
  ⟨h.os, h.tape, h.output, by simpa [World.setCell] using h.size, fun k hk => (heap_setCell_other w ⟨b, j, none⟩ k v (by simp; omega)).trans (h.block k hk)⟩

set_option maxRecDepth 10000 in
set_option maxHeartbeats 4000000 in
theorem l2Stable_any (v : Value) (X : List (Int × Int)) (w : World) (hv : RdP w v X) (hl : X.length ≤ 1000) :
    Calls Try.prog 68 #[v] w fun e w' => ∃ r, e = .returned r ∧ SlQ 72 w' r (stF X) ∧ Fr w.heap.size r.ownBlock.toList ∧ Below w.heap.size w w' := by
  have hfin := fun (D : List Int) (h1 : D.Perm (pl X.length)) (h2 : Srt (cvR X) D 0 X.length) => stF_of h1 h2
  have hpl := pl_map X
  have hcv := Lib.hid (cvR_pre X)
  have hr := Lib.hid (hv.below (w' := w.alloc (.cells #[] 72)) ((Below.refl _ _).alloc (Nat.le_refl _) _))
  have ho := Lib.hid (OwnQ.empty 72 w)
  clear hv
  go_enter Try.func68, Try.ntmps68
  go_wp2_with (at_builtin; refine append_recs eltRec rfl _ _ rfl w.heap.size _ _ rfl ho.out _ _ rfl hr.out (by simp; omega) (by simp) ?_)
  intro v' w1 ho1 hg
  have hb := Lib.hid (Below.appendedQ ((Below.refl w.heap.size w).alloc (Nat.le_refl _) (.cells #[] 72)) ho.out hg (by simp))
  clear hg hr ho
  by_cases hp : 0 < X.length
  · obtain ⟨g, c, rfl, hB, hsl⟩ := ho1.open (by omega) hp
    have hR : RQ w1 g 0 c X.length X (pl X.length) := by
      unfold RQ
      rw [pl_map]; exact hsl
    generalize hn : X.length = n at *
    replace hn := Lib.hid hn
    replace hR := Lib.hid hR
    replace hfin := Lib.hid hfin
    clear ho1 hsl hpl
    go_wp2
    go_loopw [4] (fun iv wr => ∃ (i : Nat) (D : List Int), 1 ≤ i ∧ i ≤ n ∧ iv = .int .i64 (i : Nat) ∧ RQ wr g 0 c n X D ∧ Below w.heap.size w wr ∧ Mv (pl n) D 0 i ∧ Srt (cvR X) D 0 i) (fun iv _ => n - (intOf iv).toNat)
    case atStart => exact ⟨1, pl n, Nat.le_refl _, hp, rfl, hR.out, hb.out, Mv.refl _ _ _, Srt.one _ _ (Nat.le_refl _)⟩
    case round =>
      clear hR hb
      obtain ⟨i, D, h1i, hin, rfl, hR, hb, hm, hs⟩ := hrel
      replace hR := Lib.hid hR
      replace hb := Lib.hid hb
      by_cases hlt : i < n
      · have hlti : (i : Int) < (n : Int) := by omega
        have hXe : gi D i = (i : Int) := by rw [hm.out i (.inr (Nat.le_refl _)), gi_pl hlt]
        have hsm : ∀ t, t ≤ i → t ≠ i → gi D t < (i : Int) := fun t g2 g3 => by
          obtain ⟨t', k1, k2, k3⟩ := hm.ins t (Nat.zero_le _) (by omega)
          rw [k3, gi_pl (by omega)]; omega
        have hm2 := Lib.hid (hm.mono (a' := 0) (b' := i + 1) (Nat.le_refl _) (by omega))
        have hsx := Lib.hid (SrtX.start hs)
        replace hsm := Lib.hid hsm
        replace hXe := Lib.hid hXe
        clear hm hs
        go_wp2
        go_loopw [5] (fun kv wr => ∃ (k : Nat) (D : List Int), k ≤ i ∧ kv = .int .i64 (k : Nat) ∧ RQ wr g 0 c n X D ∧ Below w.heap.size w wr ∧ Mv (pl n) D 0 (i + 1) ∧ SrtX (cvR X) D 0 i k ∧ gi D k = (i : Int) ∧ ∀ t, t ≤ i → t ≠ k → gi D t < (i : Int)) (fun kv _ => (intOf kv).toNat)
        case atStart => exact ⟨i, D, Nat.le_refl _, rfl, hR.out, hb.out, hm2.out, hsx.out, hXe.out, hsm.out⟩
        case round =>
          clear hR hb hm2 hsx hsm hXe
          obtain ⟨k, D, hki, rfl, hR, hb, hm, hsx, hXk, hsm⟩ := hrel
          have hl := hm.len
          rw [pl_length] at hl
          replace hl := Lib.hid hl
          by_cases hk0 : 0 < k
          · obtain ⟨m, hjm⟩ : ∃ m, k = m + 1 := ⟨k - 1, by omega⟩
            have hki0 : (k : Int) > 0 := by omega
            have hYX := hsm m (by omega) (by omega)
            obtain ⟨hc1', hc1b, hfz⟩ := hR.cells (i := k) (by omega) hl.out
            obtain ⟨hc2', hc2b, _⟩ := hR.cells (i := m) (by omega) hl.out
            simp only [Nat.zero_add] at hc1' hc1b hc2' hc2b
            have hbw := hR.lt
            have hsw : ∀ w9, RQ w9 g 0 c n X D → _ := fun w9 h9 => RQ.swap h9 (i := m) (j := k) (by omega) (by omega) hl.out
            have hi3 : (k : Int) - 1 = (m : Int) := by omega
            have hmn : (m : Int) < (n : Int) := by omega
            have hkn : (k : Int) < (n : Int) := by omega
            have hi8 : (0 : Int) ≤ (m : Int) := by omega
            have hi9 : IntKind.i64.wrap (m : Int) = (m : Int) := IntWalk.i64_in _ (by omega)
            have hi10 : (0 : Int) ≤ (k : Int) := by omega
            have hx0 : gr X (gi D k).toNat = gr X i := by rw [hXk, Int.toNat_natCast]
            have hE1 : (gr X (gi D m).toNat).1 > (gr X (gi D k).toNat).1 → SrtX (cvR X) (swp D m k) 0 i m := fun hh => by
              have h3 : cvR X (gi D k) (gi D m) < 0 := by unfold cvR cmpI; rw [if_pos (by omega)]; omega
              subst hjm
              exact hsx.step (Nat.zero_le _) hki (by rw [hl.out]; omega) (.inl h3)
            have hE0 : ¬ (gr X (gi D m).toNat).1 > (gr X (gi D k).toNat).1 → Srt (cvR X) D 0 (i + 1) := fun hh => hsx.done hcv.out (.inr (by
              rw [show k - 1 = m by omega]
              by_cases h4 : (gr X (gi D m).toNat).1 < (gr X (gi D k).toNat).1
              · exact .inl (by unfold cvR cmpI; rw [if_pos h4]; omega)
              · refine .inr ⟨by unfold cvR cmpI; rw [if_neg h4, if_neg hh], by rw [hXk]; exact hYX⟩))
            have hm2 := Lib.hid (hm.trans (Mv.swp (D := D) (a := 0) (b := i + 1) (i := m) (j := k) (by omega) (by omega) (by omega) (by rw [hl.out]; omega)))
            have hX2 := Lib.hid (show gi (swp D m k) m = (i : Int) by rw [gi_swp (by rw [hl.out]; omega) (by rw [hl.out]; omega), if_neg (by omega), if_pos rfl, hXk])
            have hsm2 := Lib.hid (show ∀ t, t ≤ i → t ≠ m → gi (swp D m k) t < (i : Int) from fun t g2 g3 => by
              rw [gi_swp (by rw [hl.out]; omega) (by rw [hl.out]; omega)]
              by_cases e : t = k
              · rw [if_pos e]; exact hYX
              · rw [if_neg e, if_neg g3]; exact hsm t g2 e)
            have hmE := Lib.hid hm
            clear hsx hsm hm hXk hx0
            replace hR := Lib.hid hR
            replace hb := Lib.hid hb
            replace hsw := Lib.hid hsw
            have hf1 := hfz (k * 2)
            have hf1b := hfz (k * 2 + 1)
            have hf2 := hfz (m * 2)
            have hf2b := hfz (m * 2 + 1)
            have hn1 : ¬ k = m := by omega
            have hn2 : ¬ m = k := by omega
            have ha1 : ¬ m * 2 = k * 2 := by omega
            have ha2 : ¬ m * 2 = k * 2 + 1 := by omega
            have ha3 : ¬ m * 2 + 1 = k * 2 := by omega
            have ha4 : ¬ m * 2 + 1 = k * 2 + 1 := by omega
            have ha5 : ¬ k * 2 = m * 2 := by omega
            have ha6 : ¬ k * 2 + 1 = m * 2 := by omega
            have ha7 : ¬ g = wr.heap.size := by omega
            have ha8 : ¬ wr.heap.size = g := by omega
            replace hjm := Lib.hid hjm
            clear hfz
            generalize gr X (gi D k).toNat = U at *
            generalize gr X (gi D m).toNat = V at *
            obtain ⟨u1, u2⟩ := U
            obtain ⟨v1, v2⟩ := V
            dsimp only at hc1' hc1b hc2' hc2b hsw hE1 hE0
            by_cases hc : v1 > u1
            · replace hE1 := Lib.hid (hE1 hc)
              clear hE0
              go_wp2_with fail
              go_quiet (fail)
              have hz0 : ((wr.drewN nq).alloc (Obj.cells #[.int .i64 0, .int .i64 0] 72)).cell? ⟨wr.heap.size, 0, none⟩ = some (.int .i64 0) := (World.cell?_alloc_at _ _ _ _ rfl).trans rfl
              have hy0 : ((wr.drewN nq).alloc (Obj.cells #[.int .i64 0, .int .i64 0] 72)).frozen? ⟨wr.heap.size, 0, none⟩ = false := World.frozen?_alloc_at _ _ _ _ rfl
              have hz1 : ((wr.drewN nq).alloc (Obj.cells #[.int .i64 0, .int .i64 0] 72)).cell? ⟨wr.heap.size, 1, none⟩ = some (.int .i64 0) := (World.cell?_alloc_at _ _ _ _ rfl).trans rfl
              have hy1 : ((wr.drewN nq).alloc (Obj.cells #[.int .i64 0, .int .i64 0] 72)).frozen? ⟨wr.heap.size, 1, none⟩ = false := World.frozen?_alloc_at _ _ _ _ rfl
              have hx0 := (World.cell?_alloc_past (w := wr.drewN nq) (Obj.cells #[.int .i64 0, .int .i64 0] 72) g (k * 2) hbw).trans hc1'
              have hw0 := (World.frozen?_alloc_past (w := wr.drewN nq) (Obj.cells #[.int .i64 0, .int .i64 0] 72) g (k * 2) hbw).trans hf1
              have hx1 := (World.cell?_alloc_past (w := wr.drewN nq) (Obj.cells #[.int .i64 0, .int .i64 0] 72) g (k * 2 + 1) hbw).trans hc1b
              have hw1 := (World.frozen?_alloc_past (w := wr.drewN nq) (Obj.cells #[.int .i64 0, .int .i64 0] 72) g (k * 2 + 1) hbw).trans hf1b
              have hx2 := (World.cell?_alloc_past (w := wr.drewN nq) (Obj.cells #[.int .i64 0, .int .i64 0] 72) g (m * 2) hbw).trans hc2'
              have hw2 := (World.frozen?_alloc_past (w := wr.drewN nq) (Obj.cells #[.int .i64 0, .int .i64 0] 72) g (m * 2) hbw).trans hf2
              have hx3 := (World.cell?_alloc_past (w := wr.drewN nq) (Obj.cells #[.int .i64 0, .int .i64 0] 72) g (m * 2 + 1) hbw).trans hc2b
              have hw3 := (World.frozen?_alloc_past (w := wr.drewN nq) (Obj.cells #[.int .i64 0, .int .i64 0] 72) g (m * 2 + 1) hbw).trans hf2b
              go_wp2
              have hB1 : Below wr.heap.size wr ((((wr.drewN nq).alloc (Obj.cells #[.int .i64 0, .int .i64 0] 72)).setCell ⟨wr.heap.size, 0, none⟩ (.int .i64 v1)).setCell ⟨wr.heap.size, 1, none⟩ (.int .i64 v2)) :=
                Below.setIx (Below.setIx (Below.alloc (Below.drewN (Below.refl _ _) nq) (Nat.le_refl _) _) (Nat.le_refl _)) (Nat.le_refl _)
              have hR2 := hsw.out _ (hR.out.below hB1)
              simp only [Nat.zero_add] at hR2
              have hB2 := Below.setIx (j := k * 2 + 1) (v := .int .i64 v2) (Below.setIx (j := k * 2) (v := .int .i64 v1) (Below.setIx (j := m * 2 + 1) (v := .int .i64 u2) (Below.setIx (j := m * 2) (v := .int .i64 u1) (Below.next hb.out hB1) hB) hB) hB) hB
              go_roundw
              case rel => exact ⟨m, swp D m k, by omega, rfl, hR2, hB2, hm2.out, hE1.out, hX2.out, hsm2.out⟩
              case measure => simp [intOf]; omega
            · replace hE0 := Lib.hid (hE0 hc)
              clear hE1
              go_wp2_with fail
              go_quiet (fail)
              go_wp2
              go_roundw
              case rel => exact ⟨i + 1, D, by omega, by omega, by go_num, hR.out.drewN _, Below.drewN hb.out _, hmE.out, hE0.out⟩
              case measure => simp [intOf]; omega
          · obtain rfl : k = 0 := by omega
            have hki0 : ¬ ((0 : Nat) : Int) > 0 := by omega
            have hE0 := Lib.hid (hsx.done hcv.out (.inl rfl))
            replace hm := Lib.hid hm
            replace hR := Lib.hid hR
            replace hb := Lib.hid hb
            clear hsx hsm hXk
            go_wp2_with fail
            go_quiet (fail)
            go_wp2
            go_roundw
            case rel => exact ⟨i + 1, D, by omega, by omega, by go_num, hR.out.drewN _, Below.drewN hb.out _, hm.out, hE0.out⟩
            case measure => simp [intOf]; omega
      · obtain rfl : i = n := by omega
        have hff := Lib.hid (hfin.out D hm.perm hs)
        clear hm hs
        go_wp2
        go_ret
        exact ⟨_, rfl, by rw [← hff.out]; exact hR.out, by intro b0 h0; simp [Value.ownBlock] at h0; omega, hb.out⟩
  · obtain rfl : X = [] := List.eq_nil_of_length_eq_zero (by omega)
    clear hfin hpl hp hcv
    have hsl := Lib.hid (ho1.sl (by simp))
    have hfr : Hid (Fr w.heap.size v'.ownBlock.toList) := Lib.hid (fun b hb => (ho1.lt b (by simpa using hb)).1)
    clear ho1
    obtain ⟨ao, c, rfl, _, _⟩ := hsl.out.shape
    have hlz : ¬ ((1 : Int) < (([] : List (Int × Int)).length : Int)) := by simp
    go_wp2
    go_loopw [4] (fun iv wr => iv = .int .i64 1 ∧ wr = w1) (fun _ _ => 0)
    case atStart => exact ⟨rfl, rfl⟩
    case round =>
      obtain ⟨rfl, rfl⟩ := hrel
      go_wp2
      go_ret
      exact ⟨_, rfl, hsl.out, hfr.out, hb.out⟩
end Go.Proofs.Ytdhcpoeopooejaa
