/- The law's helpers on slices of slices of ints: eqIntSS, markIntSS, heldIntSS. -/
import Derived.Test.YtdhcpoeopooejaaIntSS
import Derived.Test.YtdhcpoeopooejaaHInt
namespace Go.Proofs.Ytdhcpoeopooejaa
open Go.RowKit
set_option linter.unusedVariables false
set_option linter.unusedSimpArgs false

theorem eqIntS_q {v u : Value} {xs ys : List Int} {w : World} {a n : Nat} {t : Bool} (hv : Sl w 3 v (ints xs)) (hu : Sl w 3 u (ints ys)) (ht : decide (xs = ys) = t) :
    Calls Try.prog 14 #[v, u] (w.drewN (a + n)) fun e w'' => e = .returned (.bool t) ∧ ∃ m, w'' = w.drewN (a + m) :=
  (eqIntS_any v u xs ys _ (hv.drewN _) (hu.drewN _)).mono fun _ _ ⟨he, q, hq⟩ => ⟨by rw [he, ht], n + q, by rw [hq, World.drewN_drewN, Nat.add_assoc]⟩

set_option maxHeartbeats 1000000 in
theorem eqIntSS_any (v u : Value) (xs ys : List (List Int)) (us vs : List Value) (w : World) (hv : Sl w 22 v us) (hu : Sl w 22 u vs)
    (hx : us.length = xs.length ∧ ∀ i, i < xs.length → Sl w 3 (gv us i) (ints (gl xs i))) (hy : vs.length = ys.length ∧ ∀ i, i < ys.length → Sl w 3 (gv vs i) (ints (gl ys i))) :
    Calls Try.prog 19 #[v, u] w fun e w' => e = .returned (.bool (decide (xs = ys))) ∧ ∃ q, w' = w.drewN q := by
  obtain ⟨ao, c, rfl, _, h1, HA⟩ := hv.opened
  obtain ⟨bo, d, rfl, _, h2, HB⟩ := hu.opened
  obtain ⟨ex, hx⟩ := hx
  obtain ⟨ey, hy⟩ := hy
  replace HA := Lib.hid HA
  replace HB := Lib.hid HB
  replace hx := Lib.hid hx
  replace hy := Lib.hid hy
  clear hv hu
  unfold maxLen at h1 h2
  by_cases hne : us.length = vs.length
  · generalize hn : us.length = n at *
    generalize hm : vs.length = m at *
    subst hne
    replace hn := Lib.hid hn
    replace hm := Lib.hid hm
    replace ex := Lib.hid ex
    replace ey := Lib.hid ey
    go_enter Try.func19, Try.ntmps19
    go_wp2
    go_loopw [5] (fun i wr => ∃ k q : Nat, k ≤ n ∧ i = .int .i64 k ∧ wr = w.drewN q ∧ ∀ j, j < k → gl xs j = gl ys j) (fun i _ => n - (intOf i).toNat)
    case atStart => exact ⟨0, 0, Nat.zero_le _, rfl, rfl, fun j hj => absurd hj (by omega)⟩
    case round =>
      obtain ⟨k, q, hk, rfl, rfl, heq⟩ := hrel
      replace heq := Lib.hid heq
      by_cases hlt : k < n
      · obtain ⟨b, off, rfl, hR⟩ := HA.out (by omega)
        obtain ⟨b2, off2, rfl, hR2⟩ := HB.out (by omega)
        have hc1 : w.cell? ⟨b, off + k, none⟩ = some (gv us k) := by rw [hR.cell (by rw [hn.out]; omega), gv_eq (by rw [hn.out]; omega)]
        have hc2 : w.cell? ⟨b2, off2 + k, none⟩ = some (gv vs k) := by rw [hR2.cell (by rw [hm.out]; omega), gv_eq (by rw [hm.out]; omega)]
        have hsx := hx.out k (by rw [← ex.out]; exact hlt)
        have hsy := hy.out k (by rw [← ey.out]; exact hlt)
        clear hR hR2
        generalize hgx : gv us k = ux at *
        generalize hgy : gv vs k = uy at *
        replace hgx := Lib.hid hgx
        replace hgy := Lib.hid hgy
        replace hsx := Lib.hid hsx
        replace hsy := Lib.hid hsy
        by_cases hxy : gl xs k = gl ys k
        · have ht := Lib.hid (decide_eq_true hxy)
          replace hxy := Lib.hid hxy
          go_wp2
          go_quiet ((go_at_call 14; exact eqIntS_q hsx.out hsy.out ht.out))
          go_wp2
          go_roundw
          case rel =>
            refine ⟨k + 1, _, by omega, by go_num, rfl, fun j hj => ?_⟩
            by_cases hjk : j = k
            · subst hjk; exact hxy.out
            · exact heq.out j (by omega)
          case measure => simp [intOf]; omega
        · have ht := Lib.hid (decide_eq_false hxy)
          replace hxy := Lib.hid hxy
          go_wp2
          go_quiet ((go_at_call 14; exact eqIntS_q hsx.out hsy.out ht.out))
          go_wp2
          go_ret
          refine ⟨ret_bool ?_, by first | exact ⟨_, rfl⟩ | exact ⟨_, World.drewN_drewN ..⟩⟩
          exact (decide_eq_false (fun e => hxy.out (by rw [e]))).symm
      · go_wp2
        go_ret
        refine ⟨ret_bool ?_, _, rfl⟩
        obtain rfl : k = n := by omega
        exact (decide_eq_true (gl_ext (by rw [← ex.out, ← ey.out]) (by rw [← ex.out]; exact heq.out))).symm
  · have hd : decide (xs = ys) = false := decide_eq_false (fun e => hne (by rw [ex, ey, e]))
    rw [hd]
    generalize hn : us.length = n at *
    generalize hm : vs.length = m at *
    replace hn := Lib.hid hn
    replace hm := Lib.hid hm
    clear hd ex ey
    go_enter Try.func19, Try.ntmps19
    go_wp2
    all_goals go_ret
    all_goals exact ⟨rfl, 0, rfl⟩
theorem eqIntSS_law {v u : Value} {x y : List (List Int)} {F G : List Nat} {w : World} (h : RIntSS w v x F) (k : RIntSS w u y G) :
    Calls Try.prog 19 #[v, u] w fun e w' => e = .returned (.bool (decide (x = y))) ∧ Below w.heap.size w w' := by
  obtain ⟨us, h1, h2, rfl⟩ := h
  obtain ⟨vs, k1, k2, rfl⟩ := k
  exact (eqIntSS_any v u x y us vs w h1 k1 ⟨h2.len, h2.sl⟩ ⟨k2.len, k2.sl⟩).mono fun _ _ ⟨he, hb⟩ => ⟨he, Below.quiet hb⟩

/-- The slices bear the marks from k to k', one after the other. -/
def MkIntSS (k k' : Int) (y : List (List Int)) : Prop := ∃ K : Nat → Int, K 0 = k ∧ K y.length = k' ∧ k' ≤ 1000000000000 ∧ (∀ i j, i ≤ j → j ≤ y.length → K i ≤ K j) ∧ ∀ i, i < y.length → ∃ n : Nat, gl y i = marks (K i) n ∧ K (i + 1) = K i + n ∧ n ≤ 100000000000
/-- The marks behind i slices. -/
def mkTo (k : Int) (x : List (List Int)) (i : Nat) : Int := k + (szTo x i : Nat)
def mkSS (k : Int) (x : List (List Int)) (i : Nat) : List (List Int) := (List.range x.length).map fun j => if j < i then marks (mkTo k x j) (gl x j).length else gl x j
@[simp] theorem mkSS_length (k : Int) (x : List (List Int)) (i : Nat) : (mkSS k x i).length = x.length := by simp [mkSS]
theorem gl_mkSS {k : Int} {x : List (List Int)} {i j : Nat} (h : j < x.length) : gl (mkSS k x i) j = if j < i then marks (mkTo k x j) (gl x j).length else gl x j := by
  rw [gl_eq (by simpa using h)]; simp [mkSS]
theorem mkSS_zero (k : Int) (x : List (List Int)) : mkSS k x 0 = x := gl_ext (by simp) fun j hj => by rw [gl_mkSS (by simpa using hj)]; simp

set_option maxHeartbeats 1000000 in
theorem markIntSS_any (v : Value) (us : List Value) (xs : List (List Int)) (k : Int) (w : World) (hv : Sl w 22 v us) (hI : Inn w 0 v us xs) (hz : szIntSS xs ≤ 100000000000) (hk0 : 0 ≤ k) (hk : k ≤ 900000000000) :
    Calls Try.prog 22 #[v, .int .i64 k] w fun e w' => e = .returned (.int .i64 (mkTo k xs xs.length)) ∧
      Sl w' 22 v us ∧ Inn w' 0 v us (mkSS k xs xs.length) ∧ Ex (fbl us) w w' := by
  obtain ⟨ao, c, rfl, _, h1, HA⟩ := hv.opened
  unfold maxLen at h1
  have ex := hI.len
  have hst := fun i (h : i ≤ xs.length) => szTo_le xs i xs.length h
  rw [szTo_all] at hst
  generalize hn : us.length = n at *
  replace hn := Lib.hid hn
  replace HA := Lib.hid HA
  replace hv := Lib.hid hv
  replace hI := Lib.hid hI
  rw [← ex] at hst ⊢
  replace ex := Lib.hid ex
  replace hst := Lib.hid hst
  go_enter Try.func22, Try.ntmps22
  go_wp2
  go_loopw [1, 5] (fun m i wr => ∃ j : Nat, j ≤ n ∧ i = .int .i64 j ∧ m = .int .i64 (mkTo k xs j) ∧ Sl wr 22 (.slice ao n c) us ∧ Inn wr 0 (.slice ao n c) us (mkSS k xs j) ∧ Ex (fbl us) w wr) (fun _ i _ => n - (intOf i).toNat)
  case atStart => exact ⟨0, Nat.zero_le _, rfl, by simp [mkTo, szTo], hv.out, by rw [mkSS_zero]; exact hI.out, Ex.refl _ _⟩
  case round =>
    obtain ⟨j, hj, rfl, rfl, hs, hin, hg⟩ := hrel
    by_cases hlt : j < n
    · obtain ⟨_, _, hao, _, _, hrow⟩ := hs.opened
      simp at hao
      obtain ⟨rfl, hx0, rfl⟩ := hao
      clear hx0
      obtain ⟨b, off, rfl, hR⟩ := hrow (by rw [hn.out]; omega)
      have hc1 : wr.cell? ⟨b, off + j, none⟩ = some (gv us j) := by rw [hR.cell (by rw [hn.out]; omega), gv_eq (by rw [hn.out]; omega)]
      have hxl : j < xs.length := by rw [← ex.out]; exact hlt
      have hsj := hin.sl j (by simpa using hxl)
      rw [gl_mkSS hxl, if_neg (by omega)] at hsj
      have hle1 := hst.out j (by omega)
      have hle2 := hst.out (j + 1) (by omega)
      have hstep : szTo xs (j + 1) = szTo xs j + (gl xs j).length := rfl
      have hmk0 : 0 ≤ mkTo k xs j ∧ mkTo k xs j ≤ 1000000000000 := by unfold mkTo; omega
      have hmk1 : mkTo k xs (j + 1) = mkTo k xs j + (gl xs j).length := by unfold mkTo; rw [hstep]; omega
      have hll : (gl xs j).length ≤ 100000000000 := by omega
      have hfin : ∀ (w' : World), Sl w' 3 (gv us j) (ints (marks (mkTo k xs j) (gl xs j).length)) → wr.grownBy w' (gv us j).ownBlock →
          Sl w' 22 (.slice (some ⟨b, off, none⟩) n c) us ∧ Inn w' 0 (.slice (some ⟨b, off, none⟩) n c) us (mkSS k xs (j + 1)) ∧ Ex (fbl us) w w' := by
        intro w' hsl hgr
        refine ⟨?_, ?_, ?_⟩
        · refine hs.grown hgr (.inr ?_)
          intro e
          exact hin.hd j (by simpa using hxl) b (by rw [← e]; rfl) rfl
        · refine ⟨by rw [mkSS_length]; exact hn.out.trans ex.out, ?_, fun _ _ _ _ => Nat.zero_le _, by simpa using hin.hd, by simpa using hin.dj⟩
          intro i hi
          have hi' : i < xs.length := by simpa using hi
          rw [gl_mkSS hi']
          by_cases e : i = j
          · subst e
            rw [if_pos (by omega)]
            exact hsl
          · have h0 := hin.sl i (by simpa using hi')
            rw [gl_mkSS hi'] at h0
            have h1 : (if i < j + 1 then marks (mkTo k xs i) (gl xs i).length else gl xs i) = (if i < j then marks (mkTo k xs i) (gl xs i).length else gl xs i) := by
              by_cases e3 : i < j
              · rw [if_pos e3, if_pos (by omega)]
              · rw [if_neg e3, if_neg (by omega)]
            rw [h1]
            refine h0.grown hgr ?_
            cases ho : (gv us i).ownBlock with
            | none => exact .inl rfl
            | some q => exact .inr (fun e2 => hin.dj i j (by simpa using hi') (by simpa using hxl) e q ho e2.symm)
        · refine hg.trans ⟨hgr.os, hgr.tape, hgr.output, hgr.size, fun q hq hqn => hgr.block q hq (fun e => hqn (mem_fbl.2 ⟨j, by rw [hn.out]; exact hlt, e.symm⟩))⟩
      replace hfin := Lib.hid hfin
      replace hsj := Lib.hid hsj
      clear hR hs hin hg hrow
      generalize hgx : gv us j = u at *
      replace hgx := Lib.hid hgx
      generalize hM : mkTo k xs j = M at *
      generalize hM1 : mkTo k xs (j + 1) = M1 at *
      replace hM := Lib.hid hM
      replace hM1 := Lib.hid hM1
      replace hstep := Lib.hid hstep
      go_wp2_with fail
      refine (markIntS_any _ _ _ _ hsj.out (by omega) hmk0.1 hmk0.2).mono ?_
      rintro e w' ⟨rfl, hsl, hgr⟩
      have hF := Lib.hid (hfin.out w' hsl hgr)
      clear hsl hgr hsj
      rw [← hmk1]
      go_wp2
      go_roundw
      case rel => exact ⟨j + 1, by omega, by go_num, by rw [hM1.out, hmk1], hF.out.1, hF.out.2.1, hF.out.2.2⟩
      case measure => simp [intOf]; omega
    · obtain rfl : j = n := by omega
      replace hs := Lib.hid hs
      replace hin := Lib.hid hin
      replace hg := Lib.hid hg
      go_wp2
      go_ret
      exact ⟨rfl, hs.out, hin.out, hg.out⟩
theorem markIntSS_law {v : Value} {x : List (List Int)} {F : List Nat} {w : World} {k : Int} (h : RIntSS w v x F) (hl : szIntSS x ≤ 100000000000) (h0 : 0 ≤ k) (hk : k ≤ 900000000000) :
    Calls Try.prog 22 #[v, .int .i64 k] w fun e w' => ∃ y k', e = .returned (.int .i64 k') ∧ RIntSS w' v y F ∧ MkIntSS k k' y ∧ k ≤ k' ∧ k' ≤ k + szIntSS x ∧ Ex F w w' := by
  obtain ⟨us, h1, h2, rfl⟩ := h
  refine (markIntSS_any v us x k w h1 h2 hl h0 hk).mono ?_
  rintro e w' ⟨rfl, a1, a2, a3⟩
  have ha := szTo_all x
  refine ⟨_, _, rfl, ⟨us, a1, a2, rfl⟩, ⟨mkTo k x, by simp [mkTo, szTo], by rw [mkSS_length], by unfold mkTo; omega, ?_, ?_⟩, by unfold mkTo; omega, by unfold mkTo; omega, a3.mono fun b hb => List.mem_append_right _ hb⟩
  · intro i j hij hj
    have := szTo_le x i j hij
    unfold mkTo; omega
  · intro i hi
    rw [mkSS_length] at hi
    have h1 := szTo_le x (i + 1) x.length (by omega)
    have h2 : szTo x (i + 1) = szTo x i + (gl x i).length := rfl
    refine ⟨(gl x i).length, by rw [gl_mkSS hi, if_pos hi], by unfold mkTo; rw [h2]; omega, by omega⟩

set_option maxHeartbeats 1000000 in
theorem heldIntSS_any (v : Value) (us : List Value) (y : List (List Int)) (k k' : Int) (w : World) (hv : Sl w 22 v us) (hI : us.length = y.length ∧ ∀ i, i < y.length → Sl w 3 (gv us i) (ints (gl y i))) (hm : MkIntSS k k' y) (hk0 : 0 ≤ k) :
    Calls Try.prog 23 #[v, .int .i64 k] w fun e w' => e = .returned (.int .i64 k') ∧ ∃ q, w' = w.drewN q := by
  obtain ⟨ao, c, rfl, _, h1, HA⟩ := hv.opened
  unfold maxLen at h1
  obtain ⟨ex, hI⟩ := hI
  obtain ⟨K, e0, e1, hbd, hmono, hK⟩ := hm
  rw [← ex] at e1 hmono hK hI
  generalize hn : us.length = n at *
  replace hn := Lib.hid hn
  replace HA := Lib.hid HA
  replace hv := Lib.hid hv
  replace hI := Lib.hid hI
  replace ex := Lib.hid ex
  replace hK := Lib.hid hK
  replace hmono := Lib.hid hmono
  replace e0 := Lib.hid e0
  replace e1 := Lib.hid e1
  go_enter Try.func23, Try.ntmps23
  go_wp2
  go_loopw [1, 5] (fun m i wr => ∃ j q : Nat, j ≤ n ∧ i = .int .i64 j ∧ m = .int .i64 (K j) ∧ wr = w.drewN q) (fun _ i _ => n - (intOf i).toNat)
  case atStart => exact ⟨0, 0, Nat.zero_le _, rfl, by rw [e0.out], rfl⟩
  case round =>
    obtain ⟨j, q, hj, rfl, rfl, rfl⟩ := hrel
    by_cases hlt : j < n
    · obtain ⟨b, off, rfl, hR⟩ := HA.out (by omega)
      have hc1 : w.cell? ⟨b, off + j, none⟩ = some (gv us j) := by rw [hR.cell (by rw [hn.out]; omega), gv_eq (by rw [hn.out]; omega)]
      have hsj := hI.out j hlt
      obtain ⟨m, hm1, hm2, hm3⟩ := hK.out j hlt
      rw [hm1] at hsj
      have hb0 := hmono.out 0 j (Nat.zero_le _) (by omega)
      have hb1 := hmono.out j n (by omega) (Nat.le_refl _)
      have hb2 := hmono.out (j + 1) n (by omega) (Nat.le_refl _)
      rw [e0.out] at hb0
      rw [e1.out] at hb1 hb2
      generalize hgx : gv us j = u at *
      replace hgx := Lib.hid hgx
      generalize hM : K j = M at *
      generalize hM1 : K (j + 1) = M1 at *
      replace hM := Lib.hid hM
      replace hM1 := Lib.hid hM1
      replace hsj := Lib.hid hsj
      have hge : ¬ M1 < 0 := by omega
      clear hR hm1
      go_wp2_with fail
      refine (heldIntS_any _ m _ _ (hsj.out.drewN _) (by omega) (by omega) (by omega)).mono ?_
      rintro e w' ⟨rfl, q2, rfl⟩
      rw [← hm2]
      clear hm2
      go_wp2
      go_roundw
      case rel => exact ⟨j + 1, _, by omega, by go_num, by rw [hM1.out], by first | exact World.drewN_drewN .. | rfl⟩
      case measure => simp [intOf]; omega
    · obtain rfl : j = n := by omega
      have e2 := e1.out
      go_wp2
      go_ret
      exact ⟨by rw [e2]; rfl, _, rfl⟩
theorem heldIntSS_law {v : Value} {y : List (List Int)} {F : List Nat} {w : World} {k k' : Int} (h : RIntSS w v y F) (m : MkIntSS k k' y) (h0 : 0 ≤ k) (_hk : k ≤ 1000000000000) :
    Calls Try.prog 23 #[v, .int .i64 k] w fun e w' => e = .returned (.int .i64 k') ∧ Below w.heap.size w w' := by
  obtain ⟨us, h1, h2, rfl⟩ := h
  exact (heldIntSS_any v us y k k' w h1 ⟨h2.len, h2.sl⟩ m h0).mono fun _ _ ⟨he, hb⟩ => ⟨he, Below.quiet hb⟩
end Go.Proofs.Ytdhcpoeopooejaa
