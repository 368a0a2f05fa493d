/- OrderClasses, impl. -/
import Derived.Test.YtdhcpoeopooejaaOcM
import Derived.Test.YtdhcpoeopooejaaSso
import Derived.Test.YtdhcpoeopooejaaOrdI
import Derived.Test.YtdhcpoeopooejaaHIntSS
namespace Go.Proofs.Ytdhcpoeopooejaa
open Go.RowKit
set_option linter.unusedVariables false
set_option linter.unusedSimpArgs false

theorem ocR_sz (x : List (List Bool)) : szIntSS (ocR x).1 ≤ 100000000000 := by
  unfold ocR
  split
  · rename_i h
    simp only [Bool.and_eq_true] at h
    have hn := (relB_len h.1).2
    have h1 := clsO_len x x.length 0 x.length
    have h2 : szIntSS (clF x) ≤ (clF x).length * 12 := szIntSS_le fun l hl => by
      obtain ⟨c, _, _, e, _⟩ := clsO_mem hl
      have := clO_len x x.length c
      rw [e]; omega
    have h3 : (clF x).length * 12 ≤ 12 * 12 := Nat.mul_le_mul_right _ (by unfold clF; omega)
    dsimp only; omega
  · simp [szIntSS]

set_option maxHeartbeats 1000000 in
theorem before_any (v : Value) (x : List (List Bool)) (n i bp : Nat) (w : World) (hv : Rel w v x n) (hn : n ≤ 12) (hl : x.length = n) (hi : i < n) (hc : w.cell? ⟨bp, 0, none⟩ = some v) :
    Calls Try.prog 62 #[.int .i64 i, .pointer (some ⟨bp, 0, none⟩)] w fun e w' => e = .returned (.int .i64 (bfO x i : Nat)) ∧ w = w' := by
  obtain ⟨b, off, c, rfl, h1, h2, HA⟩ := hv
  unfold maxLen at h2
  unfold bfO
  rw [hl]
  replace HA := Lib.hid HA
  clear hl
  go_enter Try.func62, Try.ntmps62
  go_wp2
  go_loop [4, 8] (fun cv kv => ∃ K : Nat, K ≤ n ∧ kv = .int .i64 K ∧ cv = .int .i64 (bfK x i K : Nat)) (fun _ kv => n - (intOf kv).toNat)
  case atStart => exact ⟨0, Nat.zero_le _, rfl, by rw [bfK_zero]; rfl⟩
  case round =>
    obtain ⟨K, hK, rfl, rfl⟩ := hrel
    have hbk := bfK_le x i K
    by_cases hlt : K < n
    · obtain ⟨b2, off2, c2, e1, h4, h5⟩ := HA.out K hlt
      have e2 := h5 i hi
      have hs := bfK_succ x i K
      generalize hN : bfK x i (K + 1) = N at *
      generalize bfK x i K = M at *
      clear h5
      cases hb : lsB x K i
      · rw [hb] at e2 hs
        have hs : N = M := by simpa using hs
        subst hs
        replace hN := Lib.hid hN
        replace hb := Lib.hid hb
        go_wp2
        go_round
        case rel => exact ⟨K + 1, by omega, by go_num, by rw [hN.out]⟩
        case measure => simp [intOf]; omega
      · rw [hb] at e2 hs
        have hs : N = M + 1 := by simpa using hs
        subst hs
        replace hN := Lib.hid hN
        replace hb := Lib.hid hb
        go_wp2
        go_round
        case rel => exact ⟨K + 1, by omega, by go_num, by rw [hN.out]; go_num⟩
        case measure => simp [intOf]; omega
    · obtain rfl : K = n := by omega
      go_wp2
      go_ret
      exact ⟨rfl, rfl⟩

set_option maxRecDepth 10000 in
set_option maxHeartbeats 4000000 in
theorem impl_OrderClasses_law {v : Value} {x : List (List Bool)} {F : List Nat} {w : World} (r : RBoolSS w v x F) :
    Calls Try.prog 18 #[v] w fun e w' => ∃ r F, e = .returned (.tuple #[r, .bool (ocR x).2]) ∧ RIntSS w' r (ocR x).1 F ∧ Fr w.heap.size F ∧ Below w.heap.size w w' ∧ szIntSS (ocR x).1 ≤ 100000000000 := by
  have hlen := Lib.hid (ocR_sz x)
  have hbox : Hid (Below w.heap.size w (w.alloc (.cells #[v] 28))) := Lib.hid ((Below.refl _ _).alloc (Nat.le_refl _) _)
  have hv := Lib.hid (r.rd.below hbox.out)
  have hc0 : (w.alloc (.cells #[v] 28)).cell? ⟨w.heap.size, 0, none⟩ = some v := by simp [go_sem]
  have hlt0 : Hid (w.heap.size < (w.alloc (.cells #[v] 28)).heap.size) := Lib.hid (by simp)
  obtain ⟨ao0, cap0, us0, rfl, qq1, qq2, _⟩ := r.rd
  unfold maxLen at qq2
  clear r
  cases h : relB x
  · have e0 : ocR x = ([], false) := by simp [ocR, h]
    rw [e0] at hlen ⊢
    clear e0
    replace h := Lib.hid h
    generalize x.length = n0 at *
    go_enter Try.func18, Try.ntmps18
    go_wp2_with fail
    refine (isRelation_any _ _ _ hv.out).mono ?_
    rintro e w1 ⟨rfl, hb⟩
    have hF := Lib.hid (Below.next hbox.out hb)
    rw [h.out]
    clear hb hc0
    go_wp2
    go_ret2
    exact ⟨_, [], rfl, ⟨[], Sl.nil _ _, Inn.nil _ _ _, rfl⟩, fun b hb => by simp at hb, hF.out, hlen.out⟩
  · have hln := relB_len h
    obtain ⟨b0, off0, cp0, he, hcp0, hcp1, _⟩ := hv.out.rel h
    simp only [Value.slice.injEq, true_and] at he
    obtain ⟨rfl, rfl⟩ := he
    unfold maxLen at hcp1
    have hRB := Lib.hid (hv.out.rel h)
    have hoc : ∀ D, defF x = D → ocR x = if D = [] then (clF x, true) else ([], false) := by
      intro D hD
      subst hD
      unfold ocR
      simp [h]
    obtain ⟨D, hD⟩ : ∃ D, defF x = D := ⟨_, rfl⟩
    replace hoc := hoc D hD
    generalize ocR x = R at *
    replace hoc := Lib.hid hoc
    replace hD := Lib.hid hD
    replace h := Lib.hid h
    go_enter Try.func18, Try.ntmps18
    go_wp2_with fail
    refine (isRelation_any _ _ _ hv.out).mono ?_
    rintro e w1 ⟨rfl, hb⟩
    have hb1 := Lib.hid hb
    have hrel := Lib.hid ((hv.out.below hb).rel h.out)
    have hc1 := (hb.cell (p := ⟨w.heap.size, 0, none⟩) hlt0.out).trans hc0
    rw [h.out]
    clear hb hv
    go_wp2_with fail
    refine (orderDefect_any _ x x.length _ hrel.out hln.2 rfl).mono ?_
    rintro e w2 ⟨r1, rfl, hf, hnil⟩
    rw [hD.out] at hf hnil
    have hbf := hf.2.2
    have hb2 := Lib.hid (Below.next hb1.out hbf)
    clear hbf hrel hb1 hc1
    cases D with
    | cons d D =>
      obtain ⟨ad, cd, rfl, _, _, _, hne⟩ := hf.1.openInts
      obtain ⟨b9, off9, rfl, _⟩ := hne (by simp)
      have hF := Lib.hid (Below.next hbox.out hb2.out)
      clear hnil hf hne hc0
      have hRv := hoc.out
      rw [if_neg (by simp)] at hRv
      replace hRv := Lib.hid hRv
      clear hoc
      generalize (d :: D).length = LD at *
      go_wp2
      go_ret2
      rw [hRv.out] at hlen ⊢
      exact ⟨_, [], rfl, ⟨[], Sl.nil _ _, Inn.nil _ _ _, rfl⟩, fun b hb => by simp at hb, hF.out, hlen.out⟩
    | nil =>
      have hn1 := hnil rfl
      subst hn1
      have hRv := hoc.out
      rw [if_pos rfl, show clF x = clsO x x.length 0 x.length from rfl] at hRv
      replace hRv := Lib.hid hRv
      clear hnil hf hD hoc
      have hSt := Lib.hid (SSO.start (w.alloc (.cells #[.slice (some ⟨b0, off0, none⟩) x.length cap0] 28)) hb2.out)
      have hlx : Hid (x.length = x.length) := Lib.hid rfl
      have hc2 := (hb2.out.cell (p := ⟨w.heap.size, 0, none⟩) hlt0.out).trans hc0
      have hc3 := ((Below.alloc (Below.refl w2.heap.size w2) (Nat.le_refl _) (.cells #[] 22)).cell (p := ⟨w.heap.size, 0, none⟩) (block_lt_of_cell hc2)).trans hc2
      clear h
      generalize hnn : x.length = n at *
      replace hnn := Lib.hid hnn
      replace hc0 := Lib.hid hc0
      go_wp2
      go_loopw [5, 21] (fun o iv wr => ∃ (c : Nat) (us : List Value), c ≤ n ∧ iv = .int .i64 (c : Nat) ∧ SSO (w.alloc (.cells #[.slice (some ⟨b0, off0, none⟩) n cap0] 28)) (clsO x n 0 c) us o wr) (fun _ iv _ => n - (intOf iv).toNat)
      case atStart => exact ⟨0, [], Nat.zero_le _, rfl, hSt.out⟩
      case round =>
        clear hSt hb2 hc2 hc3
        obtain ⟨c, us, hc, rfl, hS⟩ := hrel
        have hcell := (hS.bel.cell (p := ⟨w.heap.size, 0, none⟩) hlt0.out).trans hc0.out
        by_cases hlt : c < n
        · have hstep : clsO x n 0 (c + 1) = clsO x n 0 c ++ neO (clO x n c) := by rw [clsO, Nat.zero_add]
          have hol := clsO_len x n 0 c
          have hus : us.length ≤ 1000 := by have := hS.inn.len; omega
          have hWs := hS.bel.size
          obtain ⟨W, rfl⟩ : ∃ W, W = wr := ⟨_, rfl⟩
          have hcz : Hid (Own (W.alloc (.cells #[] 3)) 3 W.heap.size (.slice (some ⟨W.heap.size, 0, none⟩) 0 0) (ints (clO x 0 c))) := Lib.hid (by rw [clO_zero]; exact Own.empty W 3)
          have hbz : Hid (Below W.heap.size W (W.alloc (.cells #[] 3))) := Lib.hid ((Below.refl _ _).alloc (Nat.le_refl _) _)
          have hcellz := (hbz.out.cell (p := ⟨w.heap.size, 0, none⟩) (block_lt_of_cell hcell)).trans hcell
          have hlW := block_lt_of_cell hcell
          generalize hS0 : clsO x n 0 c = S0 at *
          generalize hS1 : clsO x n 0 (c + 1) = S1 at *
          replace hS0 := Lib.hid hS0
          replace hS1 := Lib.hid hS1
          replace hstep := Lib.hid hstep
          replace hS := Lib.hid hS
          clear hol
          go_wp2
          go_loopw [7, 27] (fun cv kv wq => ∃ (K : Nat), K ≤ n ∧ kv = .int .i64 (K : Nat) ∧ Own wq 3 W.heap.size cv (ints (clO x K c)) ∧ Below W.heap.size W wq) (fun _ kv _ => n - (intOf kv).toNat)
          case atStart => exact ⟨0, Nat.zero_le _, rfl, hcz.out, hbz.out⟩
          case round =>
            clear hcz hbz hcellz
            obtain ⟨K, hK, rfl, hO, hB⟩ := hrel
            have hsz := hB.size
            have hRq := Lib.hid (hRB.out.below (Below.next hS.out.bel hB))
            have hcq := (hB.cell (p := ⟨w.heap.size, 0, none⟩) hlW).trans hcell
            by_cases hKl : K < n
            · have hcs := clO_succ x K c
              have hcl := clO_len x K c
              replace hB := Lib.hid hB
              replace hO := Lib.hid hO
              have hn12 := hln.2
              go_wp2_with fail
              refine (before_any _ x n K w.heap.size _ hRq.out hn12 hnn.out hKl hcq).mono ?_
              rintro e w5 ⟨rfl, rfl⟩
              by_cases hbk : bfO x K = c
              · rw [if_pos hbk] at hcs
                rw [hbk]
                have hl2 : (ints (clO x K c)).length ≤ 1000000000 := by rw [ints_length]; omega
                generalize hC0 : clO x K c = C0 at *
                generalize hC1 : clO x (K + 1) c = C1 at *
                replace hbk := Lib.hid hbk
                replace hcs := Lib.hid hcs
                replace hC0 := Lib.hid hC0
                replace hC1 := Lib.hid hC1
                go_wp2_with (at_builtin; refine append_one_at eltInt rfl _ _ rfl W.heap.size _ _ rfl hO.out rfl rfl hl2 hsz ?_)
                intro v' w3 ho hg hat
                have hB3 := Lib.hid (Below.appended hB.out hO.out hg hsz)
                have ho3 : Hid (Own w3 3 W.heap.size v' (ints C1)) := Lib.hid (by rw [hcs.out]; simpa [ints] using ho)
                clear ho hg hat
                go_wp2
                go_roundw
                case rel => exact ⟨K + 1, by omega, by go_num, by rw [hC1.out]; exact ho3.out, hB3.out⟩
                case measure => simp [intOf]; omega
              · rw [if_neg hbk, List.append_nil] at hcs
                have hbf : ¬ ((bfO x K : Nat) : Int) = (c : Int) := by omega
                have hbe : (((bfO x K : Nat) : Int) == (c : Int)) = false := by simp; omega
                generalize bfO x K = BK at *
                replace hcs := Lib.hid hcs
                go_wp2
                go_roundw
                case rel => exact ⟨K + 1, by omega, by go_num, by rw [hcs.out]; exact hO.out, hB.out⟩
                case measure => simp [intOf]; omega
            · obtain rfl : K = n := by omega
              have hst := hstep.out
              have hSq := Lib.hid (hS.out.below hB)
              obtain ⟨ac, cc, rfl, _⟩ := hO.sl
              rw [ints_length] at *
              generalize hC0 : clO x K c = C0 at *
              replace hC0 := Lib.hid hC0
              by_cases hc0 : C0.length = 0
              · rw [neO, if_pos hc0, List.append_nil] at hst
                have hc1 : ¬ (0 : Int) < (C0.length : Int) := by omega
                replace hst := Lib.hid hst
                replace hc0 := Lib.hid hc0
                replace hO := Lib.hid hO
                replace hB := Lib.hid hB
                go_wp2
                go_roundw
                case rel => exact ⟨c + 1, us, by omega, by go_num, by rw [hS1.out, hst.out]; exact hSq.out⟩
                case measure => simp [intOf]; omega
              · rw [neO, if_neg hc0] at hst
                have hc1 : (0 : Int) < (C0.length : Int) := by omega
                have hul : us.length ≤ 1000000000 := by omega
                have hqs : (w.alloc (.cells #[.slice (some ⟨b0, off0, none⟩) K cap0] 28)).heap.size ≤ wr.heap.size := by omega
                replace hst := Lib.hid hst
                replace hc0 := Lib.hid hc0
                replace hO := Lib.hid hO
                replace hB := Lib.hid hB
                go_wp2_with (at_builtin; refine append_one_at eltIntS rfl _ _ rfl (w.alloc (.cells #[.slice (some ⟨b0, off0, none⟩) K cap0] 28)).heap.size _ _ rfl hSq.out.own rfl rfl hul hqs ?_)
                intro v' w3 ho hg hat
                have hfin := Lib.hid (SSO.append hS.out hB.out hO.out (by simpa using ho) hg hat)
                clear ho hg hat
                go_wp2
                go_roundw
                case rel => exact ⟨c + 1, _, by omega, by go_num, by rw [hS1.out, hst.out]; exact hfin.out⟩
                case measure => simp [intOf]; omega
        · obtain rfl : c = n := by omega
          replace hS := Lib.hid hS
          go_wp2
          obtain ⟨F, f1, f2, f3⟩ := hS.out.made
          have hF := Lib.hid f1
          have f2' := Lib.hid (Fr.of hbox.out f2)
          have f3' := Lib.hid (Below.next hbox.out f3)
          clear f1 f2 f3
          go_ret2
          rw [hRv.out] at hlen ⊢
          exact ⟨_, F, rfl, hF.out, f2'.out, f3'.out, hlen.out⟩
end Go.Proofs.Ytdhcpoeopooejaa
