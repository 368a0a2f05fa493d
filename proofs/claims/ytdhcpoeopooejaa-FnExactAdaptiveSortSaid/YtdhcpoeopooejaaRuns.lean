/- NaturalRuns: impl.naturalRuns, spec.l5Runs. -/
import Derived.Test.YtdhcpoeopooejaaRecOwn
import Derived.Test.YtdhcpoeopooejaaHRun
import Derived.Test.YtdhcpoeopooejaaValidR
import Derived.Test.YtdhcpoeopooejaaIntSS
namespace Go.Proofs.Ytdhcpoeopooejaa
open Go.RowKit
set_option linter.unusedVariables false
set_option linter.unusedSimpArgs false

/-- Whether place k goes on with a run that descends (d) or does not. -/
def goOn (d : Bool) (xs : List (Int × Int)) (k : Nat) : Bool := if d then decide ((gr xs k).1 < (gr xs (k - 1)).1) else decide ((gr xs k).1 ≥ (gr xs (k - 1)).1)
def ext (d : Bool) (xs : List (Int × Int)) : Nat → Nat → Nat
  | 0, k => k
  | m + 1, k => if k < xs.length ∧ goOn d xs k = true then ext d xs m (k + 1) else k
def runD (xs : List (Int × Int)) (i : Nat) : Bool := decide (i + 1 < xs.length ∧ (gr xs (i + 1)).1 < (gr xs i).1)
def runEnd (xs : List (Int × Int)) (i : Nat) : Nat := ext (runD xs i) xs xs.length (i + 1)
def runsG (xs : List (Int × Int)) : Nat → Nat → List (Int × Int) → List (Int × Int)
  | 0, _, out => out
  | m + 1, i, out => if i < xs.length then runsG xs m (runEnd xs i) (out ++ [((i : Int), ((runEnd xs i : Nat) : Int) - (i : Int))]) else out
def runsF (xs : List (Int × Int)) : List (Int × Int) := runsG xs xs.length 0 []
theorem ext_stop {d : Bool} {xs : List (Int × Int)} {m k : Nat} (h : ¬ (k < xs.length ∧ goOn d xs k = true)) : ext d xs m k = k := by
  cases m with
  | zero => rfl
  | succ m => rw [ext, if_neg h]
theorem ext_next {d : Bool} {xs : List (Int × Int)} {m k : Nat} (h : k < xs.length ∧ goOn d xs k = true) : ext d xs (m + 1) k = ext d xs m (k + 1) := by rw [ext, if_pos h]
theorem ext_ge (d : Bool) (xs : List (Int × Int)) : ∀ m k, k ≤ ext d xs m k ∧ (k ≤ xs.length → ext d xs m k ≤ xs.length) := by
  intro m
  induction m with
  | zero => intro k; exact ⟨Nat.le_refl _, id⟩
  | succ m ih =>
    intro k
    rw [ext]
    split
    · rename_i h
      have := ih (k + 1)
      exact ⟨by omega, fun _ => this.2 (by omega)⟩
    · exact ⟨Nat.le_refl _, id⟩
theorem runsG_stop {xs : List (Int × Int)} {m i : Nat} {out : List (Int × Int)} (h : ¬ i < xs.length) : runsG xs m i out = out := by
  cases m with
  | zero => rfl
  | succ m => rw [runsG, if_neg h]
theorem runsG_next {xs : List (Int × Int)} {m i : Nat} {out : List (Int × Int)} (h : i < xs.length) : runsG xs (m + 1) i out = runsG xs m (runEnd xs i) (out ++ [((i : Int), ((runEnd xs i : Nat) : Int) - (i : Int))]) := by rw [runsG, if_pos h]
theorem runEnd_gt (xs : List (Int × Int)) (i : Nat) (h : i < xs.length) : i < runEnd xs i ∧ runEnd xs i ≤ xs.length := by
  have := ext_ge (runD xs i) xs xs.length (i + 1)
  unfold runEnd
  exact ⟨by omega, this.2 (by omega)⟩
theorem runsG_len (xs : List (Int × Int)) : ∀ m i out, out.length ≤ i → i ≤ xs.length → (runsG xs m i out).length ≤ xs.length := by
  intro m
  induction m with
  | zero => intro i out h1 h2; rw [runsG]; omega
  | succ m ih =>
    intro i out h1 h2
    rw [runsG]
    split
    · rename_i h
      have := runEnd_gt xs i h
      refine ih _ _ ?_ this.2
      simp; omega
    · omega
/-- The result of NaturalRuns. -/
def runsR (x : List (Int × Int)) : List (Int × Int) × Bool := if vrecs x then (runsF x, true) else ([], false)
theorem runsR_sz (x : List (Int × Int)) : szRunS (runsR x).1 ≤ 100000000000 := by
  unfold runsR
  split
  · rename_i h
    have h1 := (vrecs_iff.1 h).1
    have h2 := runsG_len x x.length 0 [] (Nat.le_refl _) (Nat.zero_le _)
    unfold szRunS runsF
    dsimp only
    omega
  · simp [szRunS]
theorem infoRun : (Try.prog.info? 80).map (fun i => (i.zero, i.size, i.bytes)) = some (some (.agg #[.int .i64 0, .int .i64 0]), 2, 16) := by kernel_rfl
theorem eltRun : EltOk2 76 80 := by
  obtain ⟨i, h1, h2, h3, h4⟩ := info_parts infoRun
  exact ⟨i, _, 16, Try.underlying76, h1, h2, h3, h4, by omega, rfl⟩
theorem OwnQ.runLaw {w w' : World} {v : Value} {xs : List (Int × Int)} (h : OwnQ 80 w' w.heap.size v xs) (hx : xs.length ≤ 1000000000) : RRunS w' v xs v.ownBlock.toList ∧ Fr w.heap.size v.ownBlock.toList :=
  ⟨⟨h.sl hx, rfl⟩, fun b hb => (h.lt b (by simpa using hb)).1⟩
theorem OwnQ.app1 {e : TypeId} {B q : Nat} {a wr w' : World} {v : Value} {xs : List (Int × Int)} {o : Obj} (hb : Below B a wr) (ho : OwnQ e wr B v xs) (hB : B ≤ wr.heap.size) (hg : ((wr.drewN q).alloc o).grownBy w' v.ownBlock) : Below B a w' :=
  Below.appendedQ (Below.alloc (Below.drewN hb q) hB o) (OwnQ.alloc (OwnQ.drewN ho q) o) hg (by simp; omega)

set_option maxRecDepth 10000 in
set_option maxHeartbeats 4000000 in
theorem impl_naturalRuns_any (v : Value) (xs : List (Int × Int)) (w : World) (hv : RdR w v xs) (hl : xs.length ≤ 1000) :
    Calls Try.prog 76 #[v] w fun e w' => ∃ o, e = .returned o ∧ OwnQ 80 w' w.heap.size o (runsF xs) ∧ Below w.heap.size w w' := by
  obtain ⟨ao, c, rfl, h1, h2, HA⟩ := hv
  unfold maxLen at h2
  have hemp := Lib.hid (OwnQ.empty 80 w)
  have hF := Lib.hid (show runsG xs xs.length 0 [] = runsF xs from rfl)
  have hend := Lib.hid (fun i (h : i < xs.length) => runEnd_gt xs i h)
  have hED := Lib.hid (fun i => show ext (runD xs i) xs xs.length (i + 1) = runEnd xs i from rfl)
  generalize hn : xs.length = n at *
  replace HA := Lib.hid HA
  replace hn := Lib.hid hn
  go_enter Try.func76, Try.ntmps76
  go_wp2
  go_loopw [3, 4] (fun o i wr => ∃ (i0 : Nat) (out : List (Int × Int)) (m : Nat), i0 ≤ n ∧ i = .int .i64 i0 ∧ OwnQ 80 wr w.heap.size o out ∧ Below w.heap.size w wr ∧ runsG xs m i0 out = runsF xs ∧ n ≤ i0 + m ∧ out.length ≤ i0) (fun _ i _ => n - (intOf i).toNat)
  case atStart => exact ⟨0, [], n, Nat.zero_le _, rfl, hemp.out, (Below.refl _ _).alloc (Nat.le_refl _) _, hF.out, by omega, Nat.le_refl _⟩
  case round =>
    obtain ⟨i, out, m, hi, rfl, hown, hbel, hG, hm, hol⟩ := hrel
    obtain ⟨W, rfl⟩ : ∃ W, W = wr := ⟨_, rfl⟩
    have hB : w.heap.size ≤ W.heap.size := hbel.size
    by_cases hlt : i < n
    · obtain ⟨b, off, rfl, hR0⟩ := HA.out (by omega)
      have hb1 : b < w.heap.size := block_lt_of_cell (hR0 i hlt).1
      have hR : Hid (∀ j, j < n → W.cell? ⟨b, off + j * 2, none⟩ = some (.int .i64 (gr xs j).1)) := Lib.hid fun j hj => (hbel.cell (p := ⟨b, off + j * 2, none⟩) hb1).trans (hR0 j hj).1
      clear hR0
      obtain ⟨m, rfl⟩ : ∃ z, m = z + 1 := ⟨m - 1, by omega⟩
      have hnx := hG
      rw [runsG_next (by rw [hn.out]; exact hlt)] at hnx
      have hgt := hend.out i hlt
      have hEd := hED.out i
      have hD : runD xs i = decide (i + 1 < n ∧ (gr xs (i + 1)).1 < (gr xs i).1) := by unfold runD; rw [hn.out]
      generalize hEE : runEnd xs i = E at *
      have hB3 : ∀ q o, w.heap.size ≤ ((W.drewN q).alloc o).heap.size := fun q o => by simp; omega
      have hol : out.length + 1 ≤ 1000000000 := by omega
      replace hnx := Lib.hid hnx
      replace hown := Lib.hid hown
      replace hbel := Lib.hid hbel
      replace hG := Lib.hid hG
      replace hEE := Lib.hid hEE
      by_cases hd : i + 1 < n ∧ (gr xs (i + 1)).1 < (gr xs i).1
      · rw [hD, decide_eq_true hd] at hEd
        replace hEd := Lib.hid hEd
        replace hD := Lib.hid hD
        obtain ⟨hd1, hd2⟩ := hd
        have hi1 : (0 : Int) ≤ (i : Int) := by omega
        have hi2 : IntKind.i64.wrap ((i : Int) + 1) = (i : Int) + 1 := IntWalk.i64_in _ (by omega)
        have hi3 : ((i : Int) + 1).toNat = i + 1 := by omega
        have hi4 : (0 : Int) ≤ (i : Int) + 1 := by omega
        have hi5 : (i : Int) + 1 < (n : Int) := by omega
        have hi6 : (i : Int) < (n : Int) := by omega
        have hc1 := hR.out (i + 1) hd1
        have hc2 := hR.out i hlt
        generalize hx : (gr xs (i + 1)).1 = x at *
        generalize hy : (gr xs i).1 = y at *
        replace hx := Lib.hid hx
        replace hy := Lib.hid hy
        go_wp2
        go_quiet (fail)
        clear hi2 hi3
        go_wp2
        go_loopw [5] (fun kk wq => ∃ k mm q : Nat, kk = .int .i64 k ∧ i + 1 ≤ k ∧ k ≤ n ∧ n ≤ k + mm ∧ ext true xs mm k = E ∧ wq = W.drewN q) (fun kk _ => n - (intOf kk).toNat)
        case atStart => exact ⟨i + 1, n, _, by first | rfl | go_num, Nat.le_refl _, by omega, by omega, hEd.out, by first | rfl | exact (World.drewN_zero _).symm⟩
        case round =>
          obtain ⟨k, mm, q, rfl, hk1, hk2, hkm, hE, rfl⟩ := hrel
          obtain ⟨p, hp⟩ : ∃ p, k = p + 1 := ⟨k - 1, by omega⟩
          by_cases hkn : k < n
          · have hc1 := hR.out k hkn
            have hc2 := hR.out p (by omega)
            have hi1 : (0 : Int) ≤ (p : Int) := by omega
            have hi2 : (k : Int) - 1 = (p : Int) := by omega
            have hgo : goOn true xs k = decide ((gr xs k).1 < (gr xs p).1) := by unfold goOn; rw [show k - 1 = p by omega]; rfl
            have hpn : p < n := by omega
            have hi3 : (k : Int) < (n : Int) := by omega
            have hi4 : (p : Int) < (n : Int) := by omega
            have hi5 : (0 : Int) ≤ (k : Int) := by omega
            replace hp := Lib.hid hp
            generalize hx : (gr xs k).1 = x at *
            generalize hy : (gr xs p).1 = y at *
            replace hx := Lib.hid hx
            replace hy := Lib.hid hy
            by_cases hxy : x < y
            · have hg1 : k < xs.length ∧ goOn true xs k = true := ⟨by rw [hn.out]; exact hkn, by rw [hgo]; exact decide_eq_true hxy⟩
              obtain ⟨mm, rfl⟩ : ∃ z, mm = z + 1 := ⟨mm - 1, by omega⟩
              rw [ext_next hg1] at hE
              replace hE := Lib.hid hE
              clear hgo hg1
              go_wp2
              go_quiet (fail)
              go_wp2
              go_roundw
              case rel => exact ⟨k + 1, mm, _, by go_num, by omega, by omega, by omega, hE.out, by first | rfl | exact World.drewN_drewN ..⟩
              case measure => simp [intOf]; omega
            · have hg1 : ¬ (k < xs.length ∧ goOn true xs k = true) := fun h => by rw [hgo] at h; exact hxy (of_decide_eq_true h.2)
              rw [ext_stop hg1] at hE
              replace hE := Lib.hid hE
              clear hgo hg1
              go_wp2
              go_quiet (fail)
              clear hi1 hi2 hi3 hi4 hi5 hc1 hc2 hpn
              have hol2 : out.length + [((i : Int), (k : Int) - (i : Int))].length ≤ 1000000000 := by simp; omega
              go_wp2_with (at_builtin; refine append_recs eltRun rfl _ _ rfl w.heap.size _ _ rfl (hown.out.alloc _) _ [((i : Int), (k : Int) - (i : Int))] rfl (RdP.one _ _ _ _) hol2 (hB3 _ _) ?_)
              intro v' w3 ho hg
              have hb3 := Lib.hid (OwnQ.app1 hbel.out hown.out hB hg)
              replace ho := Lib.hid ho
              clear hg
              try clear hxy
              try clear hd2
              go_wp2
              go_roundw
              case rel => exact ⟨k, out ++ [((i : Int), (k : Int) - (i : Int))], m, by omega, rfl, ho.out, hb3.out, by rw [hE.out]; exact hnx.out, by omega, by have := hol; simp at this ⊢; omega⟩
              case measure => simp [intOf]; omega
          · have hg1 : ¬ (k < xs.length ∧ goOn true xs k = true) := fun h => by have := h.1; rw [hn.out] at this; exact hkn this
            rw [ext_stop hg1] at hE
            replace hE := Lib.hid hE
            replace hp := Lib.hid hp
            clear hg1
            have hz : decide (((k : Nat) : Int) < (n : Int)) = false := by simp; omega
            go_wp2
            go_quiet (fail)
            have hol2 : out.length + [((i : Int), (k : Int) - (i : Int))].length ≤ 1000000000 := by simp; omega
            go_wp2_with (at_builtin; refine append_recs eltRun rfl _ _ rfl w.heap.size _ _ rfl (hown.out.alloc _) _ [((i : Int), (k : Int) - (i : Int))] rfl (RdP.one _ _ _ _) hol2 (hB3 _ _) ?_)
            intro v' w3 ho hg
            have hb3 := Lib.hid (OwnQ.app1 hbel.out hown.out hB hg)
            replace ho := Lib.hid ho
            clear hg
            try clear hxy
            try clear hd2
            go_wp2
            go_roundw
            case rel => exact ⟨k, out ++ [((i : Int), (k : Int) - (i : Int))], m, by omega, rfl, ho.out, hb3.out, by rw [hE.out]; exact hnx.out, by omega, by have := hol; simp at this ⊢; omega⟩
            case measure => simp [intOf]; omega
      · rw [hD, decide_eq_false hd] at hEd
        replace hEd := Lib.hid hEd
        replace hD := Lib.hid hD
        by_cases hd1 : i + 1 < n
        · have hi1 : (0 : Int) ≤ (i : Int) := by omega
          have hi2 : IntKind.i64.wrap ((i : Int) + 1) = (i : Int) + 1 := IntWalk.i64_in _ (by omega)
          have hi3 : ((i : Int) + 1).toNat = i + 1 := by omega
          have hi4 : (0 : Int) ≤ (i : Int) + 1 := by omega
          have hi5 : (i : Int) + 1 < (n : Int) := by omega
          have hi6 : (i : Int) < (n : Int) := by omega
          have hc1 := hR.out (i + 1) hd1
          have hc2 := hR.out i hlt
          have hd2 : ¬ (gr xs (i + 1)).1 < (gr xs i).1 := fun h => hd ⟨hd1, h⟩
          replace hd := True.intro
          generalize hx : (gr xs (i + 1)).1 = x at *
          generalize hy : (gr xs i).1 = y at *
          replace hx := Lib.hid hx
          replace hy := Lib.hid hy
          go_wp2
          go_quiet (fail)
          clear hi2 hi3
          go_wp2
          go_loopw [5] (fun kk wq => ∃ k mm q : Nat, kk = .int .i64 k ∧ i + 1 ≤ k ∧ k ≤ n ∧ n ≤ k + mm ∧ ext false xs mm k = E ∧ wq = W.drewN q) (fun kk _ => n - (intOf kk).toNat)
          case atStart => exact ⟨i + 1, n, _, by first | rfl | go_num, Nat.le_refl _, by omega, by omega, hEd.out, by first | rfl | exact (World.drewN_zero _).symm⟩
          case round =>
            obtain ⟨k, mm, q, rfl, hk1, hk2, hkm, hE, rfl⟩ := hrel
            obtain ⟨p, hp⟩ : ∃ p, k = p + 1 := ⟨k - 1, by omega⟩
            by_cases hkn : k < n
            · have hc1 := hR.out k hkn
              have hc2 := hR.out p (by omega)
              have hi1 : (0 : Int) ≤ (p : Int) := by omega
              have hi2 : (k : Int) - 1 = (p : Int) := by omega
              have hgo : goOn false xs k = decide ((gr xs k).1 ≥ (gr xs p).1) := by unfold goOn; rw [show k - 1 = p by omega]; rfl
              have hpn : p < n := by omega
              have hi3 : (k : Int) < (n : Int) := by omega
              have hi4 : (p : Int) < (n : Int) := by omega
              have hi5 : (0 : Int) ≤ (k : Int) := by omega
              replace hp := Lib.hid hp
              generalize hx : (gr xs k).1 = x at *
              generalize hy : (gr xs p).1 = y at *
              replace hx := Lib.hid hx
              replace hy := Lib.hid hy
              by_cases hxy : x ≥ y
              · have hg1 : k < xs.length ∧ goOn false xs k = true := ⟨by rw [hn.out]; exact hkn, by rw [hgo]; exact decide_eq_true hxy⟩
                obtain ⟨mm, rfl⟩ : ∃ z, mm = z + 1 := ⟨mm - 1, by omega⟩
                rw [ext_next hg1] at hE
                replace hE := Lib.hid hE
                clear hgo hg1
                go_wp2
                go_quiet (fail)
                go_wp2
                go_roundw
                case rel => exact ⟨k + 1, mm, _, by go_num, by omega, by omega, by omega, hE.out, by first | rfl | exact World.drewN_drewN ..⟩
                case measure => simp [intOf]; omega
              · have hg1 : ¬ (k < xs.length ∧ goOn false xs k = true) := fun h => by rw [hgo] at h; exact hxy (of_decide_eq_true h.2)
                rw [ext_stop hg1] at hE
                replace hE := Lib.hid hE
                clear hgo hg1
                go_wp2
                go_quiet (fail)
                clear hi1 hi2 hi3 hi4 hi5 hc1 hc2 hpn
                have hol2 : out.length + [((i : Int), (k : Int) - (i : Int))].length ≤ 1000000000 := by simp; omega
                go_wp2_with (at_builtin; refine append_recs eltRun rfl _ _ rfl w.heap.size _ _ rfl (hown.out.alloc _) _ [((i : Int), (k : Int) - (i : Int))] rfl (RdP.one _ _ _ _) hol2 (hB3 _ _) ?_)
                intro v' w3 ho hg
                have hb3 := Lib.hid (OwnQ.app1 hbel.out hown.out hB hg)
                replace ho := Lib.hid ho
                clear hg
                try clear hxy
                try clear hd2
                go_wp2
                go_roundw
                case rel => exact ⟨k, out ++ [((i : Int), (k : Int) - (i : Int))], m, by omega, rfl, ho.out, hb3.out, by rw [hE.out]; exact hnx.out, by omega, by have := hol; simp at this ⊢; omega⟩
                case measure => simp [intOf]; omega
            · have hg1 : ¬ (k < xs.length ∧ goOn false xs k = true) := fun h => by have := h.1; rw [hn.out] at this; exact hkn this
              rw [ext_stop hg1] at hE
              replace hE := Lib.hid hE
              replace hp := Lib.hid hp
              clear hg1
              have hz : decide (((k : Nat) : Int) < (n : Int)) = false := by simp; omega
              go_wp2
              go_quiet (fail)
              have hol2 : out.length + [((i : Int), (k : Int) - (i : Int))].length ≤ 1000000000 := by simp; omega
              go_wp2_with (at_builtin; refine append_recs eltRun rfl _ _ rfl w.heap.size _ _ rfl (hown.out.alloc _) _ [((i : Int), (k : Int) - (i : Int))] rfl (RdP.one _ _ _ _) hol2 (hB3 _ _) ?_)
              intro v' w3 ho hg
              have hb3 := Lib.hid (OwnQ.app1 hbel.out hown.out hB hg)
              replace ho := Lib.hid ho
              clear hg
              try clear hxy
              try clear hd2
              go_wp2
              go_roundw
              case rel => exact ⟨k, out ++ [((i : Int), (k : Int) - (i : Int))], m, by omega, rfl, ho.out, hb3.out, by rw [hE.out]; exact hnx.out, by omega, by have := hol; simp at this ⊢; omega⟩
              case measure => simp [intOf]; omega
        · replace hd := True.intro
          have hE : Hid (n = E) := Lib.hid (by rw [← hEd, ext_stop (fun h => by have := h.1; rw [hn.out] at this; exact hd1 this)]; omega)
          have hz : (i : Int) + 1 = (n : Int) := by omega
          replace hz := Lib.hid hz
          replace hEd := Lib.hid hEd
          have hz2 : decide ((i : Int) + 1 < (n : Int)) = false := by simp; omega
          replace hd1 := Lib.hid hd1
          go_wp2
          go_quiet (fail)
          rw [hz.out] at *
          clear hz2
          go_wp2
          go_loopw [5] (fun kk wq => ∃ q : Nat, kk = .int .i64 n ∧ wq = W.drewN q) (fun kk _ => 0)
          case atStart => exact ⟨_, rfl, by first | rfl | exact (World.drewN_zero _).symm⟩
          case round =>
            obtain ⟨q, rfl, rfl⟩ := hrel
            obtain ⟨k, hk⟩ : ∃ k, k = n := ⟨_, rfl⟩
            have hz3 : decide ((n : Int) < (n : Int)) = false := by simp
            go_wp2
            go_quiet (fail)
            have hol2 : out.length + [((i : Int), (n : Int) - (i : Int))].length ≤ 1000000000 := by simp; omega
            go_wp2_with (at_builtin; refine append_recs eltRun rfl _ _ rfl w.heap.size _ _ rfl (hown.out.alloc _) _ [((i : Int), (n : Int) - (i : Int))] rfl (RdP.one _ _ _ _) hol2 (hB3 _ _) ?_)
            intro v' w3 ho hg
            have hb3 := Lib.hid (OwnQ.app1 hbel.out hown.out hB hg)
            replace ho := Lib.hid ho
            clear hg
            try clear hxy
            try clear hd2
            go_wp2
            go_roundw
            case rel => exact ⟨n, out ++ [((i : Int), (n : Int) - (i : Int))], m, by omega, rfl, ho.out, hb3.out, by rw [hE.out]; exact hnx.out, by omega, by have := hol; simp at this ⊢; omega⟩
            case measure => simp [intOf]; omega
    · have hst := runsG_stop (xs := xs) (m := m) (i := i) (out := out) (by rw [hn.out]; exact hlt)
      rw [hG] at hst
      replace hst := Lib.hid hst
      replace hown := Lib.hid hown
      replace hbel := Lib.hid hbel
      replace hG := Lib.hid hG
      go_wp2
      go_ret
      exact ⟨_, rfl, by rw [hst.out]; exact hown.out, hbel.out⟩

set_option maxRecDepth 10000 in
set_option maxHeartbeats 4000000 in
theorem l5Runs_any (v : Value) (xs : List (Int × Int)) (w : World) (hv : RdR w v xs) (hl : xs.length ≤ 1000) :
    Calls Try.prog 73 #[v] w fun e w' => ∃ o, e = .returned o ∧ OwnQ 80 w' w.heap.size o (runsF xs) ∧ Below w.heap.size w w' := by
  obtain ⟨ao, c, rfl, h1, h2, HA⟩ := hv
  unfold maxLen at h2
  have hemp := Lib.hid (OwnQ.empty 80 w)
  have hF := Lib.hid (show runsG xs xs.length 0 [] = runsF xs from rfl)
  have hend := Lib.hid (fun i (h : i < xs.length) => runEnd_gt xs i h)
  have hED := Lib.hid (fun i => show ext (runD xs i) xs xs.length (i + 1) = runEnd xs i from rfl)
  generalize hn : xs.length = n at *
  replace HA := Lib.hid HA
  replace hn := Lib.hid hn
  go_enter Try.func73, Try.ntmps73
  go_wp2
  go_loopw [3, 4] (fun o i wr => ∃ (i0 : Nat) (out : List (Int × Int)) (m : Nat), i0 ≤ n ∧ i = .int .i64 i0 ∧ OwnQ 80 wr w.heap.size o out ∧ Below w.heap.size w wr ∧ runsG xs m i0 out = runsF xs ∧ n ≤ i0 + m ∧ out.length ≤ i0) (fun _ i _ => n - (intOf i).toNat)
  case atStart => exact ⟨0, [], n, Nat.zero_le _, rfl, hemp.out, (Below.refl _ _).alloc (Nat.le_refl _) _, hF.out, by omega, Nat.le_refl _⟩
  case round =>
    obtain ⟨i, out, m, hi, rfl, hown, hbel, hG, hm, hol⟩ := hrel
    obtain ⟨W, rfl⟩ : ∃ W, W = wr := ⟨_, rfl⟩
    have hB : w.heap.size ≤ W.heap.size := hbel.size
    by_cases hlt : i < n
    · obtain ⟨b, off, rfl, hR0⟩ := HA.out (by omega)
      have hb1 : b < w.heap.size := block_lt_of_cell (hR0 i hlt).1
      have hR : Hid (∀ j, j < n → W.cell? ⟨b, off + j * 2, none⟩ = some (.int .i64 (gr xs j).1)) := Lib.hid fun j hj => (hbel.cell (p := ⟨b, off + j * 2, none⟩) hb1).trans (hR0 j hj).1
      clear hR0
      obtain ⟨m, rfl⟩ : ∃ z, m = z + 1 := ⟨m - 1, by omega⟩
      have hnx := hG
      rw [runsG_next (by rw [hn.out]; exact hlt)] at hnx
      have hgt := hend.out i hlt
      have hEd := hED.out i
      have hD : runD xs i = decide (i + 1 < n ∧ (gr xs (i + 1)).1 < (gr xs i).1) := by unfold runD; rw [hn.out]
      generalize hEE : runEnd xs i = E at *
      have hB3 : ∀ q o, w.heap.size ≤ ((W.drewN q).alloc o).heap.size := fun q o => by simp; omega
      have hol : out.length + 1 ≤ 1000000000 := by omega
      replace hnx := Lib.hid hnx
      replace hown := Lib.hid hown
      replace hbel := Lib.hid hbel
      replace hG := Lib.hid hG
      replace hEE := Lib.hid hEE
      by_cases hd : i + 1 < n ∧ (gr xs (i + 1)).1 < (gr xs i).1
      · rw [hD, decide_eq_true hd] at hEd
        replace hEd := Lib.hid hEd
        replace hD := Lib.hid hD
        obtain ⟨hd1, hd2⟩ := hd
        have hi1 : (0 : Int) ≤ (i : Int) := by omega
        have hi2 : IntKind.i64.wrap ((i : Int) + 1) = (i : Int) + 1 := IntWalk.i64_in _ (by omega)
        have hi3 : ((i : Int) + 1).toNat = i + 1 := by omega
        have hi4 : (0 : Int) ≤ (i : Int) + 1 := by omega
        have hi5 : (i : Int) + 1 < (n : Int) := by omega
        have hi6 : (i : Int) < (n : Int) := by omega
        have hc1 := hR.out (i + 1) hd1
        have hc2 := hR.out i hlt
        generalize hx : (gr xs (i + 1)).1 = x at *
        generalize hy : (gr xs i).1 = y at *
        replace hx := Lib.hid hx
        replace hy := Lib.hid hy
        go_wp2
        go_quiet (fail)
        clear hi2 hi3
        go_wp2
        go_loopw [5] (fun kk wq => ∃ k mm q : Nat, kk = .int .i64 k ∧ i + 1 ≤ k ∧ k ≤ n ∧ n ≤ k + mm ∧ ext true xs mm k = E ∧ wq = W.drewN q) (fun kk _ => n - (intOf kk).toNat)
        case atStart => exact ⟨i + 1, n, _, by first | rfl | go_num, Nat.le_refl _, by omega, by omega, hEd.out, by first | rfl | exact (World.drewN_zero _).symm⟩
        case round =>
          obtain ⟨k, mm, q, rfl, hk1, hk2, hkm, hE, rfl⟩ := hrel
          obtain ⟨p, hp⟩ : ∃ p, k = p + 1 := ⟨k - 1, by omega⟩
          by_cases hkn : k < n
          · have hc1 := hR.out k hkn
            have hc2 := hR.out p (by omega)
            have hi1 : (0 : Int) ≤ (p : Int) := by omega
            have hi2 : (k : Int) - 1 = (p : Int) := by omega
            have hgo : goOn true xs k = decide ((gr xs k).1 < (gr xs p).1) := by unfold goOn; rw [show k - 1 = p by omega]; rfl
            have hpn : p < n := by omega
            have hi3 : (k : Int) < (n : Int) := by omega
            have hi4 : (p : Int) < (n : Int) := by omega
            have hi5 : (0 : Int) ≤ (k : Int) := by omega
            replace hp := Lib.hid hp
            generalize hx : (gr xs k).1 = x at *
            generalize hy : (gr xs p).1 = y at *
            replace hx := Lib.hid hx
            replace hy := Lib.hid hy
            by_cases hxy : x < y
            · have hg1 : k < xs.length ∧ goOn true xs k = true := ⟨by rw [hn.out]; exact hkn, by rw [hgo]; exact decide_eq_true hxy⟩
              obtain ⟨mm, rfl⟩ : ∃ z, mm = z + 1 := ⟨mm - 1, by omega⟩
              rw [ext_next hg1] at hE
              replace hE := Lib.hid hE
              clear hgo hg1
              go_wp2
              go_quiet (fail)
              go_wp2
              go_roundw
              case rel => exact ⟨k + 1, mm, _, by go_num, by omega, by omega, by omega, hE.out, by first | rfl | exact World.drewN_drewN ..⟩
              case measure => simp [intOf]; omega
            · have hg1 : ¬ (k < xs.length ∧ goOn true xs k = true) := fun h => by rw [hgo] at h; exact hxy (of_decide_eq_true h.2)
              rw [ext_stop hg1] at hE
              replace hE := Lib.hid hE
              clear hgo hg1
              go_wp2
              go_quiet (fail)
              clear hi1 hi2 hi3 hi4 hi5 hc1 hc2 hpn
              have hol2 : out.length + [((i : Int), (k : Int) - (i : Int))].length ≤ 1000000000 := by simp; omega
              go_wp2_with (at_builtin; refine append_recs eltRun rfl _ _ rfl w.heap.size _ _ rfl (hown.out.alloc _) _ [((i : Int), (k : Int) - (i : Int))] rfl (RdP.one _ _ _ _) hol2 (hB3 _ _) ?_)
              intro v' w3 ho hg
              have hb3 := Lib.hid (OwnQ.app1 hbel.out hown.out hB hg)
              replace ho := Lib.hid ho
              clear hg
              try clear hxy
              try clear hd2
              go_wp2
              go_roundw
              case rel => exact ⟨k, out ++ [((i : Int), (k : Int) - (i : Int))], m, by omega, rfl, ho.out, hb3.out, by rw [hE.out]; exact hnx.out, by omega, by have := hol; simp at this ⊢; omega⟩
              case measure => simp [intOf]; omega
          · have hg1 : ¬ (k < xs.length ∧ goOn true xs k = true) := fun h => by have := h.1; rw [hn.out] at this; exact hkn this
            rw [ext_stop hg1] at hE
            replace hE := Lib.hid hE
            replace hp := Lib.hid hp
            clear hg1
            have hz : decide (((k : Nat) : Int) < (n : Int)) = false := by simp; omega
            go_wp2
            go_quiet (fail)
            have hol2 : out.length + [((i : Int), (k : Int) - (i : Int))].length ≤ 1000000000 := by simp; omega
            go_wp2_with (at_builtin; refine append_recs eltRun rfl _ _ rfl w.heap.size _ _ rfl (hown.out.alloc _) _ [((i : Int), (k : Int) - (i : Int))] rfl (RdP.one _ _ _ _) hol2 (hB3 _ _) ?_)
            intro v' w3 ho hg
            have hb3 := Lib.hid (OwnQ.app1 hbel.out hown.out hB hg)
            replace ho := Lib.hid ho
            clear hg
            try clear hxy
            try clear hd2
            go_wp2
            go_roundw
            case rel => exact ⟨k, out ++ [((i : Int), (k : Int) - (i : Int))], m, by omega, rfl, ho.out, hb3.out, by rw [hE.out]; exact hnx.out, by omega, by have := hol; simp at this ⊢; omega⟩
            case measure => simp [intOf]; omega
      · rw [hD, decide_eq_false hd] at hEd
        replace hEd := Lib.hid hEd
        replace hD := Lib.hid hD
        by_cases hd1 : i + 1 < n
        · have hi1 : (0 : Int) ≤ (i : Int) := by omega
          have hi2 : IntKind.i64.wrap ((i : Int) + 1) = (i : Int) + 1 := IntWalk.i64_in _ (by omega)
          have hi3 : ((i : Int) + 1).toNat = i + 1 := by omega
          have hi4 : (0 : Int) ≤ (i : Int) + 1 := by omega
          have hi5 : (i : Int) + 1 < (n : Int) := by omega
          have hi6 : (i : Int) < (n : Int) := by omega
          have hc1 := hR.out (i + 1) hd1
          have hc2 := hR.out i hlt
          have hd2 : ¬ (gr xs (i + 1)).1 < (gr xs i).1 := fun h => hd ⟨hd1, h⟩
          replace hd := True.intro
          generalize hx : (gr xs (i + 1)).1 = x at *
          generalize hy : (gr xs i).1 = y at *
          replace hx := Lib.hid hx
          replace hy := Lib.hid hy
          go_wp2
          go_quiet (fail)
          clear hi2 hi3
          go_wp2
          go_loopw [5] (fun kk wq => ∃ k mm q : Nat, kk = .int .i64 k ∧ i + 1 ≤ k ∧ k ≤ n ∧ n ≤ k + mm ∧ ext false xs mm k = E ∧ wq = W.drewN q) (fun kk _ => n - (intOf kk).toNat)
          case atStart => exact ⟨i + 1, n, _, by first | rfl | go_num, Nat.le_refl _, by omega, by omega, hEd.out, by first | rfl | exact (World.drewN_zero _).symm⟩
          case round =>
            obtain ⟨k, mm, q, rfl, hk1, hk2, hkm, hE, rfl⟩ := hrel
            obtain ⟨p, hp⟩ : ∃ p, k = p + 1 := ⟨k - 1, by omega⟩
            by_cases hkn : k < n
            · have hc1 := hR.out k hkn
              have hc2 := hR.out p (by omega)
              have hi1 : (0 : Int) ≤ (p : Int) := by omega
              have hi2 : (k : Int) - 1 = (p : Int) := by omega
              have hgo : goOn false xs k = decide ((gr xs k).1 ≥ (gr xs p).1) := by unfold goOn; rw [show k - 1 = p by omega]; rfl
              have hpn : p < n := by omega
              have hi3 : (k : Int) < (n : Int) := by omega
              have hi4 : (p : Int) < (n : Int) := by omega
              have hi5 : (0 : Int) ≤ (k : Int) := by omega
              replace hp := Lib.hid hp
              generalize hx : (gr xs k).1 = x at *
              generalize hy : (gr xs p).1 = y at *
              replace hx := Lib.hid hx
              replace hy := Lib.hid hy
              by_cases hxy : x ≥ y
              · have hg1 : k < xs.length ∧ goOn false xs k = true := ⟨by rw [hn.out]; exact hkn, by rw [hgo]; exact decide_eq_true hxy⟩
                obtain ⟨mm, rfl⟩ : ∃ z, mm = z + 1 := ⟨mm - 1, by omega⟩
                rw [ext_next hg1] at hE
                replace hE := Lib.hid hE
                clear hgo hg1
                go_wp2
                go_quiet (fail)
                go_wp2
                go_roundw
                case rel => exact ⟨k + 1, mm, _, by go_num, by omega, by omega, by omega, hE.out, by first | rfl | exact World.drewN_drewN ..⟩
                case measure => simp [intOf]; omega
              · have hg1 : ¬ (k < xs.length ∧ goOn false xs k = true) := fun h => by rw [hgo] at h; exact hxy (of_decide_eq_true h.2)
                rw [ext_stop hg1] at hE
                replace hE := Lib.hid hE
                clear hgo hg1
                go_wp2
                go_quiet (fail)
                clear hi1 hi2 hi3 hi4 hi5 hc1 hc2 hpn
                have hol2 : out.length + [((i : Int), (k : Int) - (i : Int))].length ≤ 1000000000 := by simp; omega
                go_wp2_with (at_builtin; refine append_recs eltRun rfl _ _ rfl w.heap.size _ _ rfl (hown.out.alloc _) _ [((i : Int), (k : Int) - (i : Int))] rfl (RdP.one _ _ _ _) hol2 (hB3 _ _) ?_)
                intro v' w3 ho hg
                have hb3 := Lib.hid (OwnQ.app1 hbel.out hown.out hB hg)
                replace ho := Lib.hid ho
                clear hg
                try clear hxy
                try clear hd2
                go_wp2
                go_roundw
                case rel => exact ⟨k, out ++ [((i : Int), (k : Int) - (i : Int))], m, by omega, rfl, ho.out, hb3.out, by rw [hE.out]; exact hnx.out, by omega, by have := hol; simp at this ⊢; omega⟩
                case measure => simp [intOf]; omega
            · have hg1 : ¬ (k < xs.length ∧ goOn false xs k = true) := fun h => by have := h.1; rw [hn.out] at this; exact hkn this
              rw [ext_stop hg1] at hE
              replace hE := Lib.hid hE
              replace hp := Lib.hid hp
              clear hg1
              have hz : decide (((k : Nat) : Int) < (n : Int)) = false := by simp; omega
              go_wp2
              go_quiet (fail)
              have hol2 : out.length + [((i : Int), (k : Int) - (i : Int))].length ≤ 1000000000 := by simp; omega
              go_wp2_with (at_builtin; refine append_recs eltRun rfl _ _ rfl w.heap.size _ _ rfl (hown.out.alloc _) _ [((i : Int), (k : Int) - (i : Int))] rfl (RdP.one _ _ _ _) hol2 (hB3 _ _) ?_)
              intro v' w3 ho hg
              have hb3 := Lib.hid (OwnQ.app1 hbel.out hown.out hB hg)
              replace ho := Lib.hid ho
              clear hg
              try clear hxy
              try clear hd2
              go_wp2
              go_roundw
              case rel => exact ⟨k, out ++ [((i : Int), (k : Int) - (i : Int))], m, by omega, rfl, ho.out, hb3.out, by rw [hE.out]; exact hnx.out, by omega, by have := hol; simp at this ⊢; omega⟩
              case measure => simp [intOf]; omega
        · replace hd := True.intro
          have hE : Hid (n = E) := Lib.hid (by rw [← hEd, ext_stop (fun h => by have := h.1; rw [hn.out] at this; exact hd1 this)]; omega)
          have hz : (i : Int) + 1 = (n : Int) := by omega
          replace hz := Lib.hid hz
          replace hEd := Lib.hid hEd
          have hz2 : decide ((i : Int) + 1 < (n : Int)) = false := by simp; omega
          replace hd1 := Lib.hid hd1
          go_wp2
          go_quiet (fail)
          rw [hz.out] at *
          clear hz2
          go_wp2
          go_loopw [5] (fun kk wq => ∃ q : Nat, kk = .int .i64 n ∧ wq = W.drewN q) (fun kk _ => 0)
          case atStart => exact ⟨_, rfl, by first | rfl | exact (World.drewN_zero _).symm⟩
          case round =>
            obtain ⟨q, rfl, rfl⟩ := hrel
            obtain ⟨k, hk⟩ : ∃ k, k = n := ⟨_, rfl⟩
            have hz3 : decide ((n : Int) < (n : Int)) = false := by simp
            go_wp2
            go_quiet (fail)
            have hol2 : out.length + [((i : Int), (n : Int) - (i : Int))].length ≤ 1000000000 := by simp; omega
            go_wp2_with (at_builtin; refine append_recs eltRun rfl _ _ rfl w.heap.size _ _ rfl (hown.out.alloc _) _ [((i : Int), (n : Int) - (i : Int))] rfl (RdP.one _ _ _ _) hol2 (hB3 _ _) ?_)
            intro v' w3 ho hg
            have hb3 := Lib.hid (OwnQ.app1 hbel.out hown.out hB hg)
            replace ho := Lib.hid ho
            clear hg
            try clear hxy
            try clear hd2
            go_wp2
            go_roundw
            case rel => exact ⟨n, out ++ [((i : Int), (n : Int) - (i : Int))], m, by omega, rfl, ho.out, hb3.out, by rw [hE.out]; exact hnx.out, by omega, by have := hol; simp at this ⊢; omega⟩
            case measure => simp [intOf]; omega
    · have hst := runsG_stop (xs := xs) (m := m) (i := i) (out := out) (by rw [hn.out]; exact hlt)
      rw [hG] at hst
      replace hst := Lib.hid hst
      replace hown := Lib.hid hown
      replace hbel := Lib.hid hbel
      replace hG := Lib.hid hG
      go_wp2
      go_ret
      exact ⟨_, rfl, by rw [hst.out]; exact hown.out, hbel.out⟩


end Go.Proofs.Ytdhcpoeopooejaa
