/- NextPermutation: the reference's walk. -/
import Derived.Test.YtbfffpdcpoejnaaNextW
namespace Go.Proofs.Ytbfffpdcpoejnaa
open Go.RowKit
set_option linter.unusedVariables false
set_option linter.unusedSimpArgs false

theorem goodP_ne {xs : List Int} (h : goodP xs = true) {j k : Nat} (hj : j < k) (hk : k < xs.length) : ¬ gi xs j = gi xs k := by
  have := (permAt_iff.1 ((goodP_iff.1 h).2 k hk)).2
  intro he
  apply this
  rw [← he, gi_eq (by omega)]
  rw [List.mem_take_iff_getElem]
  exact ⟨j, by omega, rfl⟩

set_option maxHeartbeats 8000000 in
theorem spec_NextPermutation_law {v : Value} {x : List Int} {F : List Nat} {w : World} (r : RIntS w v x F) (hx9 : x.length ≤ 1048576) :
    Calls Try.prog 30 #[v] w fun e w' => ∃ r F, e = .returned (.tuple #[r, .bool (nextR x).2]) ∧ RIntS w' r (nextR x).1 F ∧ Fr w.heap.size F ∧ Below w.heap.size w w' ∧ (nextR x).1.length ≤ 100000000000 := by
  have hv := Lib.hid r.1
  have hlen := Lib.hid (nextR_len x)
  clear r
  have hN : nextF x = match ascF x (x.length - 1) with | none => none | some i => some (revF x.length (swp x i (bigF x (gi x i) (x.length - 1))) (i + 1) (x.length - 1)) := rfl
  have hno0 : ∀ (w3 w4 : World), (goodP x = false ∨ nextF x = none) → Below w.heap.size w w3 → Below w3.heap.size w3 w4 →
      ∃ r F, Ending.returned (.tuple #[Value.slice (some ⟨w4.heap.size, 0, none⟩) 0 0, .bool false]) = .returned (.tuple #[r, .bool (nextR x).2]) ∧ RIntS (w4.alloc (.cells #[] 3)) r (nextR x).1 F ∧ Fr w.heap.size F ∧ Below w.heap.size w (w4.alloc (.cells #[] 3)) ∧ (nextR x).1.length ≤ 100000000000 := by
    intro w3 w4 hc h1 h2
    have hfr := Fresh.empty (Below.next h1 h2)
    have hlen := hlen.out
    rw [nextR_no hc] at hlen ⊢
    exact ⟨_, _, rfl, hfr.law.1, hfr.law.2.1, hfr.law.2.2, hlen⟩
  have hyes : ∀ (w3 : World) (ao : Option Addr) (n cap : Nat) (q : List Int), goodP x = true → nextF x = some q → Fresh w w3 (.slice ao n cap) q →
      ∃ r F, Ending.returned (.tuple #[Value.slice ao n cap, .bool true]) = .returned (.tuple #[r, .bool (nextR x).2]) ∧ RIntS w3 r (nextR x).1 F ∧ Fr w.heap.size F ∧ Below w.heap.size w w3 ∧ (nextR x).1.length ≤ 100000000000 := by
    intro w3 ao n cap q h1 h2 hf
    have hlen := hlen.out
    rw [nextR_yes h1 h2] at hlen ⊢
    exact ⟨_, _, rfl, hf.law.1, hf.law.2.1, hf.law.2.2, hlen⟩
  have hno := Lib.hid hno0
  have hye := Lib.hid hyes
  clear hno0 hyes hlen
  generalize hn : x.length = n at *
  have hgd : goodP x = true → n ≤ 64 := fun h => hn ▸ (goodP_iff.1 h).1
  have hne : goodP x = true → ∀ j k, j < k → k < n → ¬ gi x j = gi x k := fun h j k h1 h2 => goodP_ne h h1 (by omega)
  replace hgd := Lib.hid hgd
  replace hne := Lib.hid hne
  replace hN := Lib.hid hN
  replace hn := Lib.hid hn
  go_enter Try.func30, Try.ntmps30
  go_wp2_with fail
  refine (l1Own_any _ _ _ hv.out (by rw [hn.out]; omega)).mono ?_
  rintro e w2 ⟨r, rfl, hf⟩
  obtain ⟨ao, cap, rfl, hcl, hcm, hrow⟩ := hf.shape
  rw [hn.out] at hcl hrow
  have hb := Lib.hid hf.2
  have ho := Lib.hid hf.1
  have hv2 := Lib.hid (hv.out.rd.below hf.2)
  clear hf
  unfold maxLen at hcm
  rw [hn.out] at ho
  rw [hn.out]
  replace hrow := Lib.hid hrow
  by_cases hn2 : n < 2
  · have hA : nextF x = none := by
      have := hN.out
      rw [show n - 1 = 0 by omega] at this
      exact this
    have hneg : ¬ (0 : Int) ≤ (n : Int) - 2 := by omega
    have hneg2 : decide ((0 : Int) ≤ (n : Int) - 2) = false := decide_eq_false hneg
    have hneg3 : decide (2 ≤ (n : Int)) = false := decide_eq_false (by omega)
    have hneg4 : decide ((n : Int) - 2 < 0) = true := decide_eq_true (by omega)
    replace hA := Lib.hid hA
    go_wp2
    go_loopw [5] (fun ii wr => ii = .int .i64 ((n : Int) - 2) ∧ wr = w2) (fun _ _ => 0)
    case atStart => exact ⟨rfl, rfl⟩
    case round =>
      obtain ⟨rfl, rfl⟩ := hrel
      go_wp2
      go_quiet (fail)
      go_wp2_with fail
      refine (l3Good_any _ _ _ (Rd.drewN hv2.out _)).mono ?_
      rintro e w3 ⟨rfl, b⟩
      have hb3 := Lib.hid (Below.next (Below.drewN hb.out _) b)
      clear b
      cases hg : goodP x
      all_goals
        go_wp2
        go_ret2
        exact hno.out _ _ (.inr hA.out) hb3.out (Below.refl _ _)
  obtain ⟨m, rfl⟩ : ∃ m, n = m + 2 := ⟨n - 2, by omega⟩
  obtain ⟨b, rfl, hbw, hRow⟩ := hrow.out (by omega)
  have hcell : ∀ j, j < m + 2 → w2.cell? ⟨b, j, none⟩ = some (.int .i64 (gi x j)) := fun j hj => by have := hRow.cellInt (i := j) (by rw [hn.out]; omega); rwa [Nat.zero_add] at this
  have hfr := Lib.hid hRow.frozen
  clear hRow hrow
  have hNs := hN.out
  rw [show m + 2 - 1 = m + 1 by omega] at hNs
  replace hNs := Lib.hid hNs
  replace hcell := Lib.hid hcell
  clear hN
  have hmi : ((m + 2 : Nat) : Int) - 2 = (m : Int) := by omega
  go_wp2
  clear hmi
  go_loopw [5] (fun ii wr => ∃ (i q : Nat), i ≤ m + 1 ∧ ii = .int .i64 ((i : Int) - 1) ∧ wr = w2.drewN q ∧ ∀ j, i ≤ j → j < m + 1 → gi x j > gi x (j + 1)) (fun ii _ => ((intOf ii) + 1).toNat)
  case atStart => exact ⟨m + 1, 0, by omega, by go_num, rfl, fun j h1 h2 => absurd h2 (by omega)⟩
  case round =>
    obtain ⟨i, q, him, rfl, rfl, hdesc⟩ := hrel
    replace hdesc := Lib.hid hdesc
    by_cases hi0 : i = 0
    · have hA : nextF x = none := by
        have h1 := hNs.out
        rw [ascF_none fun j hj => by have := hdesc.out j (by omega) hj; omega] at h1
        exact h1
      replace hA := Lib.hid hA
      subst hi0
      go_wp2
      go_quiet (fail)
      go_wp2_with fail
      refine (l3Good_any _ _ _ (Rd.drewN hv2.out _)).mono ?_
      rintro e w3 ⟨rfl, b⟩
      have hb3 := Lib.hid (Below.next (Below.drewN hb.out _) b)
      clear b
      cases hg : goodP x
      all_goals
        go_wp2
        go_ret2
        exact hno.out _ _ (.inr hA.out) hb3.out (Below.refl _ _)
    · obtain ⟨k, rfl⟩ : ∃ k, i = k + 1 := ⟨i - 1, by omega⟩
      have hki : ((k + 1 : Nat) : Int) - 1 = (k : Int) := by omega
      rw [hki]
      have hc1 := hcell.out k (by omega)
      have hc2 := hcell.out (k + 1) (by omega)
      have hp1 : (0 : Int) ≤ (k : Int) := by omega
      have hp2 : IntKind.i64.wrap ((k : Int) + 1) = (k : Int) + 1 := IntWalk.i64_in _ (by omega)
      have hp3 : ((k : Int) + 1).toNat = k + 1 := by omega
      have hp4 : (0 : Int) ≤ (k : Int) + 1 := by omega
      have hp5 : decide ((0 : Int) ≤ (k : Int)) = true := decide_eq_true hp1
      generalize hx : gi x k = X at *
      generalize hy : gi x (k + 1) = Y at *
      replace hx := Lib.hid hx
      replace hy := Lib.hid hy
      by_cases hXY : X > Y
      · clear hki
        go_wp2
        go_quiet (fail)
        clear hp2 hp3
        go_wp2
        go_roundw
        case rel => exact ⟨k, _, by omega, by go_num, rfl, fun j h1 h2 => by
          by_cases hj : j = k
          · subst hj; rw [hx.out, hy.out]; omega
          · have := hdesc.out j (by omega) h2; omega⟩
        case measure => simp [intOf] <;> omega
      · cases hg : goodP x
        · replace hg := Lib.hid hg
          clear hki
          go_wp2
          go_quiet (fail)
          clear hp2 hp3
          go_wp2_with fail
          refine (l3Good_any _ _ _ (Rd.drewN hv2.out _)).mono ?_
          rintro e w3 ⟨rfl, b⟩
          have hb3 := Lib.hid (Below.next (Below.drewN hb.out _) b)
          clear b
          rw [hg.out]
          go_wp2
          go_ret2
          exact hno.out _ _ (.inl hg.out) hb3.out (Below.refl _ _)
        have hn64 := hgd.out hg
        have hXY2 : X < Y := by
          have := hne.out hg k (k + 1) (by omega) (by omega)
          rw [hx.out, hy.out] at this
          omega
        have hA : ascF x (m + 1) = some k := ascF_at (by omega) (by rw [hx.out, hy.out]; exact hXY2) fun j h1 h2 => by have := hdesc.out j (by omega) h2; omega
        have hN2 := hNs.out
        rw [hA] at hN2
        dsimp only at hN2
        rw [hx.out] at hN2
        replace hN2 := Lib.hid hN2
        have hd3 : decide ((k : Int) < 0) = false := decide_eq_false (by omega)
        clear hA hki
        have hmi2 : ((m + 2 : Nat) : Int) - 1 = ((m + 1 : Nat) : Int) := by omega
        replace hg := Lib.hid hg
        go_wp2
        go_quiet (fail)
        clear hp2 hp3
        go_wp2_with fail
        refine (l3Good_any _ _ _ (Rd.drewN hv2.out _)).mono ?_
        rintro e w3 ⟨rfl, bb⟩
        have ho3 := Own.below (Own.drewN ho.out _) bb
        have hsl3 := ho3.sl
        have hown3 := Lib.hid (fun k (hk : Value.ownBlock (.slice (some ⟨b, 0, none⟩) (m + 2) cap) = some k) => (ho3.lt k hk).1)
        replace hb := Lib.hid (Below.next (Below.drewN hb.out _) bb)
        clear bb ho3
        have hRow := hsl3.atRow (by omega)
        have hcell3 : ∀ j, j < m + 2 → w3.cell? ⟨b, j, none⟩ = some (.int .i64 (gi x j)) := fun j hj => by have := hRow.cellInt (i := j) (by rw [hn.out]; omega); rwa [Nat.zero_add] at this
        have hfr3 := Lib.hid hRow.frozen
        clear hRow
        replace hcell3 := Lib.hid hcell3
        replace hsl3 := Lib.hid hsl3
        rw [hg.out]
        go_wp2
        clear hmi2
        go_loopw [6] (fun kk wr => ∃ (t q : Nat), k < t ∧ t ≤ m + 1 ∧ kk = .int .i64 t ∧ wr = w3.drewN q ∧ ∀ j, t < j → j ≤ m + 1 → gi x j < X) (fun kk _ => (intOf kk).toNat)
        case atStart => exact ⟨m + 1, 0, by omega, by omega, by go_num, rfl, fun j h1 h2 => absurd h2 (by omega)⟩
        case round =>
          obtain ⟨t, q2, hkt, htm, rfl, rfl, hno2⟩ := hrel
          replace hno2 := Lib.hid hno2
          have hc3 := hcell3.out t (by omega)
          have hc4 := hcell3.out k (by omega)
          rw [hx.out] at hc4
          have hp6 : (0 : Int) ≤ (t : Int) := by omega
          generalize hz : gi x t = Z at *
          by_cases hZX : Z < X
          · have hne2 : ¬ t = k + 1 := by
              intro h
              rw [h, hy.out] at hz
              omega
            have hNZ := Lib.hid hz
            clear hz
            go_wp2
            go_quiet (fail)
            go_wp2
            go_roundw
            case rel => exact ⟨t - 1, _, by omega, by omega, by go_num, rfl, fun j h1 h2 => by
              by_cases hj : j = t
              · rw [hj, hNZ.out]; omega
              · have := hno2.out j (by omega) h2; omega⟩
            case measure => simp [intOf]; omega
          · have hXZ : X < Z := by
              have := hne.out hg.out k t hkt (by omega)
              rw [hx.out, hz] at this
              omega
            have hB : bigF x X (m + 1) = t := bigF_at htm (.inr (by rw [hz]; exact hXZ)) fun j h1 h2 => by have := hno2.out j h1 h2; omega
            have hN3 := hN2.out
            rw [hB] at hN3
            generalize hRR : revF (m + 2) (swp x k t) (k + 1) (m + 1) = R at *
            replace hRR := Lib.hid hRR
            replace hN3 := Lib.hid hN3
            clear hB
            have hset := (hsl3.out.setInt (i := k) (by omega) Z).setInt (i := t) (by omega) X
            rw [Nat.zero_add, Nat.zero_add] at hset
            replace hset := Lib.hid hset
            have hswp : swp x k t = (x.set k Z).set t X := by unfold swp; rw [hx.out, hz]
            replace hswp := Lib.hid hswp
            replace hz := Lib.hid hz
            have hf1 := hfr3.out k
            have hf2 := hfr3.out t
            have hne3 : ¬ k = t := by omega
            go_wp2
            go_quiet (fail)
            go_wp2
            go_loopw [8, 9] (fun ii jj wr => ∃ (f i j : Nat) (l : List Int), ii = .int .i64 i ∧ jj = .int .i64 j ∧ k < i ∧ i ≤ j + 1 ∧ j ≤ m + 1 ∧ m + 1 < f + i ∧ l.length = m + 2 ∧ revF f l i j = R ∧ Sl wr 3 (.slice (some ⟨b, 0, none⟩) (m + 2) cap) (ints l) ∧ Ex [b] w3 wr) (fun ii _ _ => 100 - (intOf ii).toNat)
            case atStart => exact ⟨m + 2, k + 1, m + 1, swp x k t, by go_num, by go_num, by omega, by omega, by omega, by omega, by simp [hn.out], hRR.out, by rw [hswp.out]; exact Sl.quietly hset.out, Ex.setIn (p := ⟨b, t, none⟩) (Ex.setIn (p := ⟨b, k, none⟩) (Ex.drewN (Ex.refl [b] w3) _) (by simp)) (by simp)⟩
            case round =>
              obtain ⟨f, i, j, l, rfl, rfl, hki, hij, hjm, hfi, hll, hF, hsl, hex⟩ := hrel
              have hRow := hsl.atRow (by omega)
              by_cases hlt : i < j
              · cases f with
                | zero => omega
                | succ f =>
                have hE := hF
                rw [revF, if_pos (by omega)] at hE
                clear hF
                replace hE := Lib.hid hE
                have hc5 : wr.cell? ⟨b, i, none⟩ = some (.int .i64 (gi l i)) := by have := hRow.cellInt (i := i) (by omega); rwa [Nat.zero_add] at this
                have hc6 : wr.cell? ⟨b, j, none⟩ = some (.int .i64 (gi l j)) := by have := hRow.cellInt (i := j) (by omega); rwa [Nat.zero_add] at this
                have hf3 := hRow.frozen i
                have hf4 := hRow.frozen j
                clear hRow hf1 hf2 hc3 hc4
                have hset2 := (hsl.setInt (i := i) (by omega) (gi l j)).setInt (i := j) (by omega) (gi l i)
                rw [Nat.zero_add, Nat.zero_add] at hset2
                replace hset2 := Lib.hid hset2
                replace hsl := Lib.hid hsl
                replace hex := Lib.hid hex
                replace hll := Lib.hid hll
                generalize hx2 : gi l i = X2 at *
                generalize hy2 : gi l j = Y2 at *
                replace hx2 := Lib.hid hx2
                replace hy2 := Lib.hid hy2
                have hne4 : ¬ i = j := by omega
                go_wp2
                go_roundw
                case rel => exact ⟨f, i + 1, j - 1, swp l i j, by go_num, by go_num, by omega, by omega, by omega, by omega, by simp [hll.out], hE.out, by unfold swp; rw [hx2.out, hy2.out]; exact hset2.out, Ex.setIn (p := ⟨b, j, none⟩) (Ex.setIn (p := ⟨b, i, none⟩) hex.out (by simp)) (by simp)⟩
                case measure => simp [intOf]; omega
              · have hE : l = R := (revF_stop (show ¬ i < j by omega)).symm.trans hF
                clear hF hRow hf1 hf2 hc3 hc4
                replace hE := Lib.hid hE
                replace hsl := Lib.hid hsl
                replace hex := Lib.hid hex
                go_wp2
                go_ret2
                exact hye.out _ _ _ _ _ hg.out hN3.out ⟨by rw [← hE.out]; exact hsl.out, hown3.out, Below.ex hb.out hex.out fun q hq => by rw [List.mem_singleton] at hq; rw [hq]; exact hown3.out b rfl⟩
end Go.Proofs.Ytbfffpdcpoejnaa
