/- The laws' helpers at slices of rows: sz, to, eq, mark, held. -/
import Derived.Test.YtoeonplbgbgjmaaDoorRowS
import Derived.Test.YtoeonplbgbgjmaaDoorHStr
import Derived.Deep.RegionHeld3
namespace Go.Proofs.YtoeonplbgbgjmaaDoor
open Go.RowKit
set_option linter.unusedVariables false
set_option linter.unusedSimpArgs false

theorem Below.drew1 {B : Nat} {a w : World} (h : Below B a w) : Below B a w.drew := Below.drewN h 1
theorem eqRow_rd {a b : Value} {x y : List ByteArray} {F G : List Nat} {w : World} (h : RStringS w a x F) (k : RStringS w b y G) :
    Calls Tryd.prog 24 #[.agg #[a], .agg #[b]] w fun e w' => e = .returned (.bool (decide (x = y))) ∧ Below w.heap.size w w' := eqRow_law ⟨a, rfl, h⟩ ⟨b, rfl, k⟩
set_option maxHeartbeats 2000000 in
theorem eqRowS_law {v u : Value} {x y : List (List ByteArray)} {F G : List Nat} {w : World} (h : RRowS w v x F) (k : RRowS w u y G) :
    Calls Tryd.prog 29 #[v, u] w fun e w' => e = .returned (.bool (decide (x = y))) ∧ Below w.heap.size w w' := by
  obtain ⟨us, g1, g2, rfl⟩ := h
  obtain ⟨vs, k1, k2, rfl⟩ := k
  obtain ⟨ao, c, rfl, _, h1, HA⟩ := g1.opened
  obtain ⟨bo, d, rfl, _, h2, HB⟩ := k1.opened
  have ex := g2.len
  have ey := k2.len
  have hx := g2.sl
  have hy := k2.sl
  replace HA := Lib.hid HA
  replace HB := Lib.hid HB
  replace hx := Lib.hid hx
  replace hy := Lib.hid hy
  clear g1 g2 k1 k2
  unfold maxLen at h1 h2
  by_cases hne : us.length = vs.length
  · generalize hn : us.length = n at *
    generalize hm : vs.length = m at *
    subst hne
    replace hn := Lib.hid hn
    replace hm := Lib.hid hm
    replace ex := Lib.hid ex
    replace ey := Lib.hid ey
    go_enter Tryd.func29, Tryd.ntmps29
    go_wp2
    go_loopw [5] (fun i wr => ∃ k : Nat, k ≤ n ∧ i = .int .i64 k ∧ Below w.heap.size w wr ∧ ∀ j, j < k → gf x j = gf y j) (fun i _ => n - (intOf i).toNat)
    case atStart => exact ⟨0, Nat.zero_le _, rfl, Below.refl _ _, fun j hj => absurd hj (by omega)⟩
    case round =>
      obtain ⟨k, hk, rfl, hb, heq⟩ := hrel
      replace heq := Lib.hid heq
      by_cases hlt : k < n
      · obtain ⟨b, off, rfl, hR⟩ := HA.out (by omega)
        obtain ⟨b2, off2, rfl, hR2⟩ := HB.out (by omega)
        have hB1 : b < wr.heap.size := Nat.lt_of_lt_of_le hR.lt hb.size
        have hB2 : b2 < wr.heap.size := Nat.lt_of_lt_of_le hR2.lt hb.size
        have hc1 : wr.cell? ⟨b, off + k, none⟩ = some (gv us k) := by rw [(hR.below hb hR.lt).cell (by rw [hn.out]; omega), gv_eq (by rw [hn.out]; omega)]
        have hc2 : wr.cell? ⟨b2, off2 + k, none⟩ = some (gv vs k) := by rw [(hR2.below hb hR2.lt).cell (by rw [hm.out]; omega), gv_eq (by rw [hm.out]; omega)]
        have hsx := hx.out k (by rw [← ex.out]; exact hlt)
        have hsy := hy.out k (by rw [← ey.out]; exact hlt)
        clear hR hR2
        generalize hgx : gv us k = ux at *
        generalize hgy : gv vs k = uy at *
        obtain ⟨xa, xc, rfl⟩ := hsx.rd.shape
        obtain ⟨ya, yc, rfl⟩ := hsy.rd.shape
        replace hgx := Lib.hid hgx
        replace hgy := Lib.hid hgy
        have hcl := fun w' (hw : Below w.heap.size w w') => eqRow_rd (hsx.next hw) (hsy.next hw)
        generalize hX : gf x k = X at *
        generalize hY : gf y k = Y at *
        generalize X.length = xl at *
        generalize Y.length = yl at *
        replace hsx := Lib.hid hsx
        replace hsy := Lib.hid hsy
        replace hX := Lib.hid hX
        replace hY := Lib.hid hY
        replace hb := Lib.hid hb
        by_cases hxy : X = Y
        · have ht := decide_eq_true hxy
          rw [ht] at hcl
          replace hcl := Lib.hid hcl
          replace hxy := Lib.hid hxy
          clear ht
          go_wp2
          go_region_held3 (fun w' => w'.cell? ⟨b, off + k, none⟩ = some (.slice xa xl xc) ∧ w'.cell? ⟨b2, off2 + k, none⟩ = some (.slice ya yl yc)) ((first | exact ⟨(hbel.cell (p := ⟨b, off + k, none⟩) hB1).trans hc1, (hbel.cell (p := ⟨b2, off2 + k, none⟩) hB2).trans hc2⟩ | go_keep)) ((go_at_call 24; refine (hcl.out wr.drew (Below.drew1 hb.out)).mono ?_; rintro e w' ⟨rfl, hbel⟩))
          go_wp2
          go_roundw
          case rel =>
            refine ⟨k + 1, by omega, by go_num, ?_, fun j hj => ?_⟩
            · exact Below.next (Below.drew1 hb.out) hbel
            · by_cases hjk : j = k
              · subst hjk; rw [hX.out, hY.out, hxy.out]
              · exact heq.out j (by omega)
          case measure => simp [intOf]; omega
        · have ht := decide_eq_false hxy
          rw [ht] at hcl
          replace hcl := Lib.hid hcl
          replace hxy := Lib.hid hxy
          clear ht
          go_wp2
          go_region_held3 (fun w' => w'.cell? ⟨b, off + k, none⟩ = some (.slice xa xl xc) ∧ w'.cell? ⟨b2, off2 + k, none⟩ = some (.slice ya yl yc)) ((first | exact ⟨(hbel.cell (p := ⟨b, off + k, none⟩) hB1).trans hc1, (hbel.cell (p := ⟨b2, off2 + k, none⟩) hB2).trans hc2⟩ | go_keep)) ((go_at_call 24; refine (hcl.out wr.drew (Below.drew1 hb.out)).mono ?_; rintro e w' ⟨rfl, hbel⟩))
          go_wp2
          go_ret
          refine ⟨ret_bool ?_, Below.next (Below.drew1 hb.out) hbel⟩
          refine (decide_eq_false fun e => hxy.out ?_).symm
          rw [← hX.out, ← hY.out, e]
      · obtain rfl : k = n := by omega
        have hd : decide (x = y) = true := decide_eq_true (gf_ext (by rw [← ex.out, ← ey.out]) (fun j hj => heq.out j (by rw [← ex.out] at hj; omega)))
        replace hd := Lib.hid hd
        replace hb := Lib.hid hb
        go_wp2
        go_ret
        exact ⟨ret_bool hd.out.symm, hb.out⟩
  · have hd : decide (x = y) = false := decide_eq_false (fun e => hne (by rw [ex, ey, e]))
    rw [hd]
    generalize hn : us.length = n at *
    generalize hm : vs.length = m at *
    replace hn := Lib.hid hn
    replace hm := Lib.hid hm
    clear hd ex ey
    go_enter Tryd.func29, Tryd.ntmps29
    go_wp2
    all_goals go_ret
    all_goals exact ⟨rfl, Below.refl _ _⟩

/-! Marks. -/
def MkRowS (k k' : Int) (y : List (List ByteArray)) : Prop := ∃ K : Nat → Int, K 0 = k ∧ K y.length = k' ∧ k' ≤ 1000000000000 ∧ (∀ i, i < y.length → K i ≤ K (i + 1)) ∧ ∀ i, i < y.length → MkStringS (K i) (K (i + 1)) (gf y i)
theorem mono_K {K : Nat → Int} {n : Nat} (h : ∀ i, i < n → K i ≤ K (i + 1)) : ∀ i j, i ≤ j → j ≤ n → K i ≤ K j := by
  intro i j hij
  induction j with
  | zero => intro _; have : i = 0 := by omega
            subst this; exact Int.le_refl _
  | succ j ih =>
    intro hj
    by_cases e : i = j + 1
    · subst e; exact Int.le_refl _
    · have := ih (by omega) (by omega)
      have := h j (by omega)
      omega
theorem len_szRow (x : List ByteArray) : x.length ≤ szRow x := by unfold szRow szStringS; omega
set_option maxHeartbeats 2000000 in
theorem markRowS_law {v : Value} {x : List (List ByteArray)} {F : List Nat} {w : World} {k : Int} (h : RRowS w v x F) (hl : szRowS x ≤ 100000000000) (h0 : 1 ≤ k) (hk : k ≤ 900000000000) :
    Calls Tryd.prog 30 #[v, .int .i64 k] w fun e w' => ∃ y k', e = .returned (.int .i64 k') ∧ RRowS w' v y F ∧ MkRowS k k' y ∧ k ≤ k' ∧ k' ≤ k + szRowS x ∧ Ex F w w' := by
  obtain ⟨us, hv, hI, rfl⟩ := h
  obtain ⟨ao, c, rfl, _, h1, HA⟩ := hv.opened
  unfold maxLen at h1
  have ex := hI.len
  have hst := fun i (h : i ≤ x.length) => szToR_le x i x.length h
  have hsz : szToR x x.length ≤ szRowS x := by unfold szRowS; omega
  generalize hn : us.length = n at *
  replace hn := Lib.hid hn
  replace HA := Lib.hid HA
  replace hv := Lib.hid hv
  replace hI := Lib.hid hI
  generalize hZ : szRowS x = Z at *
  replace ex := Lib.hid ex
  replace hst := Lib.hid hst
  replace hZ := Lib.hid hZ
  replace hsz := Lib.hid hsz
  go_enter Tryd.func30, Tryd.ntmps30
  go_wp2
  go_loopw [1, 5] (fun m i wr => ∃ (j : Nat) (ys : List (List ByteArray)) (K : Nat → Int), j ≤ n ∧ i = .int .i64 j ∧ m = .int .i64 (K j) ∧ K 0 = k ∧ (∀ i, i < j → K i ≤ K (i + 1)) ∧ K j ≤ k + (szToR x j : Nat) ∧ (∀ i, i < j → MkStringS (K i) (K (i + 1)) (gf ys i)) ∧ (∀ i, j ≤ i → gf ys i = gf x i) ∧ Sl wr 40 (.slice ao n c) us ∧ InR wr 0 (.slice ao n c) us ys ∧ Ex (fbl us) w wr) (fun _ i _ => n - (intOf i).toNat)
  case atStart => exact ⟨0, x, fun _ => k, Nat.zero_le _, rfl, rfl, rfl, fun _ h => absurd h (by omega), by simp [szToR], fun _ h => absurd h (by omega), fun _ _ => rfl, hv.out, hI.out, Ex.refl _ _⟩
  case round =>
    obtain ⟨j, ys, K, hj, rfl, rfl, hK0, hKm, hKz, hms, hsame, hs, hin, hg⟩ := hrel
    have hKj := mono_K hKm 0 j (Nat.zero_le _) (Nat.le_refl _)
    rw [hK0] at hKj
    by_cases hlt : j < n
    · obtain ⟨_, _, hao, _, _, hrow⟩ := hs.opened
      simp at hao
      obtain ⟨rfl, hx0, rfl⟩ := hao
      clear hx0
      obtain ⟨b, off, rfl, hR⟩ := hrow (by rw [hn.out]; omega)
      have hc1 : wr.cell? ⟨b, off + j, none⟩ = some (gv us j) := by rw [hR.cell (by rw [hn.out]; omega), gv_eq (by rw [hn.out]; omega)]
      have hyn : ys.length = n := by have := hin.len; have := hn.out; omega
      have hsj := hin.sl j (by omega)
      rw [hsame j (Nat.le_refl _)] at hsj
      have hle2 := hst.out (j + 1) (by have := ex.out; omega)
      have hstep : szToR x (j + 1) = szToR x j + szRow (gf x j) := rfl
      have hlr := len_szRow (gf x j)
      have hzz := hsz.out
      have hll : (gf x j).length ≤ 100000000000 := by omega
      have hkk : 1 ≤ K j ∧ K j ≤ 1000000000000 := by omega
      have hfin : ∀ (w' : World) (y : List ByteArray) (k' : Int), RStringS w' (gv us j) y (gv us j).ownBlock.toList → MkStringS (K j) k' y → K j ≤ k' → k' ≤ K j + (gf x j).length → Ex (gv us j).ownBlock.toList wr w' →
          ∃ (ys' : List (List ByteArray)) (K' : Nat → Int), K' (j + 1) = k' ∧ K' 0 = k ∧ (∀ i, i < j + 1 → K' i ≤ K' (i + 1)) ∧ K' (j + 1) ≤ k + (szToR x (j + 1) : Nat) ∧ (∀ i, i < j + 1 → MkStringS (K' i) (K' (i + 1)) (gf ys' i)) ∧ (∀ i, j + 1 ≤ i → gf ys' i = gf x i) ∧ Sl w' 40 (.slice (some ⟨b, off, none⟩) n c) us ∧ InR w' 0 (.slice (some ⟨b, off, none⟩) n c) us ys' ∧ Ex (fbl us) w w' := by
        intro w' y k' hsl hmk hle hle' hgr
        have hKs : ∀ i, i ≤ j → (fun i => if i ≤ j then K i else k') i = K i := fun i hi => if_pos hi
        have hKn : (fun i => if i ≤ j then K i else k') (j + 1) = k' := if_neg (by omega)
        refine ⟨ys.set j y, fun i => if i ≤ j then K i else k', hKn, by rw [hKs 0 (Nat.zero_le _)]; exact hK0, ?_, by rw [hKn]; omega, ?_, ?_, ?_, ?_, ?_⟩
        · intro i hi
          rw [hKs i (by omega)]
          by_cases e : i = j
          · subst e; rw [hKn]; exact hle
          · rw [hKs (i + 1) (by omega)]; exact hKm i (by omega)
        · intro i hi
          rw [hKs i (by omega), gf_set (by omega)]
          by_cases e : i = j
          · subst e; rw [hKn, if_pos rfl]; exact hmk
          · rw [hKs (i + 1) (by omega), if_neg (Ne.symm e)]; exact hms i (by omega)
        · intro i hi
          rw [gf_set (by omega), if_neg (by omega)]; exact hsame i (by omega)
        · refine hs.of_block fun q hq => hgr.block q (hs.lt q hq) fun e => ?_
          exact hin.hd j (by omega) q (by simpa using e) hq
        · refine ⟨by simp; have := hin.len; omega, ?_, fun _ _ _ _ => Nat.zero_le _, by simpa using hin.hd, by simpa using hin.dj⟩
          intro i hi
          have hi' : i < ys.length := by simpa using hi
          rw [gf_set (by omega)]
          by_cases e : i = j
          · subst e; rw [if_pos rfl]; exact hsl
          · rw [if_neg (Ne.symm e)]
            refine (hin.sl i hi').ex hgr ?_
            intro q hq hq2
            exact hin.dj i j hi' (by omega) e q (by simpa using hq) (by simpa using hq2)
        · refine hg.trans (hgr.mono fun q hq => mem_fbl.2 ⟨j, by rw [hn.out]; exact hlt, by simpa using hq⟩)
      replace hfin := Lib.hid hfin
      clear hR hs hin hg hrow hsame hms hKm hKz hK0 hKj
      generalize hgx : gv us j = u at *
      replace hgx := Lib.hid hgx
      obtain ⟨ua, uc, rfl⟩ := hsj.rd.shape
      replace hsj := Lib.hid hsj
      generalize hM : K j = M at *
      replace hM := Lib.hid hM
      generalize hL : (gf x j).length = L at *
      replace hL := Lib.hid hL
      replace hstep := Lib.hid hstep
      clear hle2 hlr hzz
      go_wp2_with fail
      refine (markStringS_law hsj.out (by rw [hL.out]; exact hll) hkk.1 hkk.2).mono ?_
      rintro e w' ⟨y, k', rfl, hr', hmk, hle, hle', hex⟩
      rw [hL.out] at hle'
      obtain ⟨ys', K', e1, e2, e3, e4, e5, e6, e7, e8, e9⟩ := hfin.out w' y k' hr' hmk hle hle' hex
      replace e2 := Lib.hid e2
      replace e3 := Lib.hid e3
      replace e4 := Lib.hid e4
      replace e5 := Lib.hid e5
      replace e6 := Lib.hid e6
      replace e7 := Lib.hid e7
      replace e8 := Lib.hid e8
      replace e9 := Lib.hid e9
      replace e1 := Lib.hid e1
      clear hr' hmk hex hfin
      go_wp2
      go_roundw
      case rel => exact ⟨j + 1, ys', K', by omega, by go_num, by rw [e1.out], e2.out, e3.out, e4.out, e5.out, e6.out, e7.out, e8.out, e9.out⟩
      case measure => simp [intOf]; omega
    · obtain rfl : n = j := by omega
      have hyl : ys.length = n := by have := hin.len; have := hn.out; omega
      have hzz := hsz.out
      have hex := ex.out
      rw [← hex] at hzz
      have hfin : RRowS wr (.slice ao n c) ys ((Value.slice ao n c).ownBlock.toList ++ fbl us) ∧ MkRowS k (K n) ys ∧ k ≤ K n ∧ K n ≤ k + (Z : Int) ∧ Ex ((Value.slice ao n c).ownBlock.toList ++ fbl us) w wr := by
        refine ⟨⟨us, hs, hin, rfl⟩, ⟨K, hK0, by rw [hyl], by omega, by rw [hyl]; exact hKm, by rw [hyl]; exact hms⟩, hKj, by omega, hg.mono fun b hb => List.mem_append_right _ hb⟩
      replace hfin := Lib.hid hfin
      generalize hM : K n = M at *
      clear hs hin hg hsame hms hKm hKz hK0 hKj hzz hex
      go_wp2
      go_ret
      exact ⟨ys, M, rfl, hfin.out⟩
set_option maxHeartbeats 2000000 in
theorem heldRowS_law {v : Value} {y : List (List ByteArray)} {F : List Nat} {w : World} {k k' : Int} (h : RRowS w v y F) (m : MkRowS k k' y) (h0 : 0 ≤ k) (_hk : k ≤ 1000000000000) :
    Calls Tryd.prog 31 #[v, .int .i64 k] w fun e w' => e = .returned (.int .i64 k') ∧ Below w.heap.size w w' := by
  obtain ⟨us, hv, hI, rfl⟩ := h
  obtain ⟨ao, c, rfl, _, h1, HA⟩ := hv.opened
  unfold maxLen at h1
  have ex := hI.len
  obtain ⟨K, e0, e1, hbd, hmono, hK⟩ := m
  have hmm := mono_K hmono
  have hI2 := hI.sl
  rw [← ex] at e1 hmm hK hI2
  generalize hn : us.length = n at *
  replace hn := Lib.hid hn
  replace HA := Lib.hid HA
  replace hI2 := Lib.hid hI2
  replace ex := Lib.hid ex
  replace hK := Lib.hid hK
  replace hmm := Lib.hid hmm
  replace e0 := Lib.hid e0
  replace e1 := Lib.hid e1
  clear hv hI hmono
  go_enter Tryd.func31, Tryd.ntmps31
  go_wp2
  go_loopw [1, 5] (fun m i wr => ∃ j : Nat, j ≤ n ∧ i = .int .i64 j ∧ m = .int .i64 (K j) ∧ Below w.heap.size w wr) (fun _ i _ => n - (intOf i).toNat)
  case atStart => exact ⟨0, Nat.zero_le _, rfl, by rw [e0.out], Below.refl _ _⟩
  case round =>
    obtain ⟨j, hj, rfl, rfl, hb⟩ := hrel
    by_cases hlt : j < n
    · obtain ⟨b, off, rfl, hR⟩ := HA.out (by omega)
      have hc1 : wr.cell? ⟨b, off + j, none⟩ = some (gv us j) := by rw [(hR.below hb hR.lt).cell (by rw [hn.out]; omega), gv_eq (by rw [hn.out]; omega)]
      have hsj := (hI2.out j hlt).next hb
      have hm1 := hK.out j hlt
      have hb0 := hmm.out 0 j (Nat.zero_le _) (by omega)
      have hb1 := hmm.out j n (by omega) (Nat.le_refl _)
      have hb2 := hmm.out (j + 1) n (by omega) (Nat.le_refl _)
      have hb3 := hmm.out 0 (j + 1) (Nat.zero_le _) (by omega)
      rw [e0.out] at hb0 hb3
      rw [e1.out] at hb1 hb2
      generalize hgx : gv us j = u at *
      replace hgx := Lib.hid hgx
      obtain ⟨ua, uc, rfl⟩ := hsj.rd.shape
      generalize hL : (gf y j).length = L at *
      replace hL := Lib.hid hL
      generalize hM : K j = M at *
      generalize hM1 : K (j + 1) = M1 at *
      replace hM := Lib.hid hM
      replace hM1 := Lib.hid hM1
      replace hsj := Lib.hid hsj
      replace hm1 := Lib.hid hm1
      have hge : ¬ M1 < 0 := by omega
      replace hb := Lib.hid hb
      clear hR
      go_wp2_with fail
      refine (heldStringS_law hsj.out hm1.out (by omega) (by omega)).mono ?_
      rintro e w' ⟨rfl, hb'⟩
      replace hb := Lib.hid (Below.next hb.out hb')
      clear hb' hsj
      go_wp2
      go_roundw
      case rel => exact ⟨j + 1, by omega, by go_num, by rw [hM1.out], hb.out⟩
      case measure => simp [intOf]; omega
    · obtain rfl : n = j := by omega
      have e2 := e1.out
      replace hb := Lib.hid hb
      go_wp2
      go_ret
      exact ⟨by rw [e2]; rfl, hb.out⟩

/-! sz and to. -/
theorem RdS.drow {w : World} {u : Value} {x : List ByteArray} (h : RdS w u x) : DRow w (.agg #[u]) x := ⟨u, rfl, h⟩
set_option maxHeartbeats 2000000 in
theorem szRowS_yes {v : Value} {x : List (List ByteArray)} {k : Int} {w : World} (hv : DRowS w v x) (hk2 : k ≤ 1048576) (hle : (szRowS x : Int) ≤ k) :
    Calls Tryd.prog 25 #[v, .int .i64 k] w fun e w' => e = .returned (.int .i64 (k - (szRowS x : Int))) ∧ Below w.heap.size w w' := by
  obtain ⟨ao, c, us, rfl, h1, h2, hu, HA, HB⟩ := hv
  unfold maxLen at h2
  have hst := Lib.hid (fun i (h : i ≤ x.length) => szToR_le x i x.length h)
  have hz := Lib.hid (show szRowS x = x.length + szToR x x.length from rfl)
  have hnx := Lib.hid (fun i => show szToR x (i + 1) = szToR x i + szRow (gf x i) from rfl)
  generalize hZ : szRowS x = Z at *
  generalize hn : x.length = n at *
  replace HA := Lib.hid HA
  replace HB := Lib.hid HB
  replace hn := Lib.hid hn
  replace hu := Lib.hid hu
  have hzz := hz.out
  have hd : ¬ (k - (n : Int)) < 0 := by omega
  replace hzz := Lib.hid hzz
  go_enter Tryd.func25, Tryd.ntmps25
  go_wp2
  go_loopw [1, 5] (fun l i wr => ∃ j : Nat, j ≤ n ∧ i = .int .i64 j ∧ l = .int .i64 (k - (n : Int) - (szToR x j : Nat)) ∧ Below w.heap.size w wr) (fun _ i _ => n - (intOf i).toNat)
  case atStart => exact ⟨0, Nat.zero_le _, rfl, by simp [szToR], Below.refl _ _⟩
  case round =>
    obtain ⟨j, hj, rfl, rfl, hb⟩ := hrel
    by_cases hlt : j < n
    · obtain ⟨b, off, rfl, hR⟩ := HA.out (by omega)
      have hc0 := hR j hlt
      have hc1 := (hb.cell (p := ⟨b, off + j, none⟩) (block_lt_of_cell hc0)).trans hc0
      have hrj := (HB.out j hlt).below hb
      have hle1 := hst.out (j + 1) (by omega)
      have hstep := hnx.out j
      have hzz2 := hzz.out
      clear hR hc0
      generalize hx : gv us j = u at *
      obtain ⟨ua, uc, rfl⟩ := hrj.shape
      generalize hY : gf x j = Y at *
      generalize hA : szToR x j = A at *
      generalize hA1 : szToR x (j + 1) = A1 at *
      generalize hAn : szToR x n = An at *
      have hif : (szRow Y : Int) ≤ k - (n : Int) - (A : Int) := by omega
      have hA2 : k - (n : Int) - (A : Int) - (szRow Y : Int) = k - (n : Int) - (A1 : Int) := by omega
      have hbd : k - (n : Int) - (A : Int) ≤ 1048576 := by omega
      have hd3 : ¬ (k - (n : Int) - (A1 : Int)) < 0 := by omega
      generalize hYl : Y.length = yl at *
      replace hYl := Lib.hid hYl
      replace hx := Lib.hid hx
      replace hY := Lib.hid hY
      replace hA := Lib.hid hA
      replace hA1 := Lib.hid hA1
      replace hAn := Lib.hid hAn
      replace hrj := Lib.hid hrj
      replace hstep := Lib.hid hstep
      replace hzz2 := Lib.hid hzz2
      replace hA2 := Lib.hid hA2
      replace hif := Lib.hid hif
      replace hb := Lib.hid hb
      go_wp2_with fail
      refine (szRow_yes hrj.out.drow hbd hif.out).mono ?_
      rintro e w' ⟨rfl, hb'⟩
      replace hb := Lib.hid (Below.next hb.out hb')
      clear hb' hrj
      rw [hA2.out]
      go_wp2
      go_roundw
      case rel => exact ⟨j + 1, by omega, by go_num, by rw [hA1.out], hb.out⟩
      case measure => simp [intOf]; omega
    · obtain rfl : n = j := by omega
      have he : k - (n : Int) - (szToR x n : Nat) = k - (Z : Int) := by have := hzz.out; omega
      replace he := Lib.hid he
      replace hb := Lib.hid hb
      go_wp2
      go_ret
      exact ⟨by rw [← he.out]; rfl, hb.out⟩
set_option maxHeartbeats 2000000 in
theorem szRowS_no {v : Value} {x : List (List ByteArray)} {k : Int} {w : World} (hv : DRowS w v x) (hk : 0 ≤ k) (hk2 : k ≤ 1048576) (hle : ¬ (szRowS x : Int) ≤ k) :
    Calls Tryd.prog 25 #[v, .int .i64 k] w fun e w' => e = .returned (.int .i64 (-1)) ∧ Below w.heap.size w w' := by
  obtain ⟨ao, c, us, rfl, h1, h2, hu, HA, HB⟩ := hv
  unfold maxLen at h2
  have hz := show szRowS x = x.length + szToR x x.length from rfl
  have hnx := Lib.hid (fun i => show szToR x (i + 1) = szToR x i + szRow (gf x i) from rfl)
  generalize hZ : szRowS x = Z at *
  generalize hn : x.length = n at *
  replace HA := Lib.hid HA
  replace HB := Lib.hid HB
  replace hn := Lib.hid hn
  replace hu := Lib.hid hu
  by_cases hfirst : (n : Int) ≤ k
  · have hd : ¬ (k - (n : Int)) < 0 := by omega
    have hzz : ¬ (szToR x n : Int) ≤ k - (n : Int) := by omega
    replace hzz := Lib.hid hzz
    replace hz := Lib.hid hz
    go_enter Tryd.func25, Tryd.ntmps25
    go_wp2
    go_loopw [1, 5] (fun l i wr => ∃ j : Nat, j ≤ n ∧ i = .int .i64 j ∧ l = .int .i64 (k - (n : Int) - (szToR x j : Nat)) ∧ (szToR x j : Int) ≤ k - (n : Int) ∧ Below w.heap.size w wr) (fun _ i _ => n - (intOf i).toNat)
    case atStart => exact ⟨0, Nat.zero_le _, rfl, by simp [szToR], by simp [szToR]; omega, Below.refl _ _⟩
    case round =>
      obtain ⟨j, hj, rfl, rfl, hjle, hb⟩ := hrel
      by_cases hlt : j < n
      · obtain ⟨b, off, rfl, hR⟩ := HA.out (by omega)
        have hc0 := hR j hlt
        have hc1 := (hb.cell (p := ⟨b, off + j, none⟩) (block_lt_of_cell hc0)).trans hc0
        have hrj := (HB.out j hlt).below hb
        have hstep := hnx.out j
        clear hR hc0
        generalize hx : gv us j = u at *
        obtain ⟨ua, uc, rfl⟩ := hrj.shape
        generalize hY : gf x j = Y at *
        generalize hA : szToR x j = A at *
        generalize hA1 : szToR x (j + 1) = A1 at *
        have hbd : k - (n : Int) - (A : Int) ≤ 1048576 := by omega
        have hbd0 : 0 ≤ k - (n : Int) - (A : Int) := by omega
        generalize hYl : Y.length = yl at *
        replace hYl := Lib.hid hYl
        replace hx := Lib.hid hx
        replace hY := Lib.hid hY
        replace hA := Lib.hid hA
        replace hA1 := Lib.hid hA1
        replace hrj := Lib.hid hrj
        replace hb := Lib.hid hb
        by_cases hif : (szRow Y : Int) ≤ k - (n : Int) - (A : Int)
        · have hA2 : k - (n : Int) - (A : Int) - (szRow Y : Int) = k - (n : Int) - (A1 : Int) := by omega
          have hd3 : ¬ (k - (n : Int) - (A1 : Int)) < 0 := by omega
          replace hA2 := Lib.hid hA2
          replace hif := Lib.hid hif
          replace hstep := Lib.hid hstep
          go_wp2_with fail
          refine (szRow_yes hrj.out.drow hbd hif.out).mono ?_
          rintro e w' ⟨rfl, hb'⟩
          replace hb := Lib.hid (Below.next hb.out hb')
          clear hb' hrj
          rw [hA2.out]
          go_wp2
          go_roundw
          case rel => exact ⟨j + 1, by omega, by go_num, by rw [hA1.out], by rw [hA1.out]; omega, hb.out⟩
          case measure => simp [intOf]; omega
        · replace hif := Lib.hid hif
          replace hstep := Lib.hid hstep
          go_wp2_with fail
          refine (szRow_no hrj.out.drow hbd0 hbd (by have := hif.out; omega)).mono ?_
          rintro e w' ⟨rfl, hb'⟩
          replace hb := Lib.hid (Below.next hb.out hb')
          clear hb' hrj
          go_wp2
          go_ret
          exact ⟨rfl, hb.out⟩
      · exfalso
        obtain rfl : n = j := by omega
        have := hzz.out; omega
  · have hd : (k - (n : Int)) < 0 := by omega
    replace hz := Lib.hid hz
    go_enter Tryd.func25, Tryd.ntmps25
    go_wp2
    go_ret
    exact ⟨rfl, Below.refl _ _⟩
theorem take_setR {us : List Value} {n k : Nat} {u : Value} (hu : us.length = k) (hk : k < n) : (us ++ List.replicate (n - k) (Value.slice none 0 0)).set k u = (us ++ [u]) ++ List.replicate (n - (k + 1)) (Value.slice none 0 0) := by
  subst hu
  rw [List.set_append_right _ _ (Nat.le_refl _), Nat.sub_self, show n - us.length = (n - (us.length + 1)) + 1 by omega, List.replicate_succ]
  simp
set_option maxHeartbeats 2000000 in
theorem toRowS_law {v : Value} {x : List (List ByteArray)} {w : World} (hv : DRowS w v x) (hl : szRowS x ≤ 1048576) :
    Calls Tryd.prog 27 #[v] w fun e w' => ∃ u F, e = .returned u ∧ RRowS w' u x F ∧ Fr w.heap.size F ∧ Below w.heap.size w w' := by
  obtain ⟨i0, hi, hz0, hz1, hz2⟩ := info_parts infoRow
  obtain ⟨ao, c, us, rfl, h1, h2, hu, HA, HB⟩ := hv
  unfold maxLen at h2
  have hst := fun i (h : i ≤ x.length) => szToR_le x i x.length h
  have hnx := fun i => show szToR x (i + 1) = szToR x i + szRow (gf x i) from rfl
  have hln : ∀ i, i < x.length → szRow (gf x i) ≤ 1048576 := by
    intro i hi
    have h1 := hst (i + 1) (by omega)
    have h2 := hnx i
    unfold szRowS at hl
    omega
  have hxl : x.length ≤ 1048576 := by unfold szRowS at hl; omega
  clear hst hnx hl
  replace hln := Lib.hid hln
  generalize hn : x.length = n at *
  replace hn := Lib.hid hn
  replace HA := Lib.hid HA
  replace HB := Lib.hid HB
  replace hu := Lib.hid hu
  go_enter Tryd.func27, Tryd.ntmps27
  go_wp2_with (at_make; refine wpList_make_full _ rfl _ _ 46 rfl w.heap.size 40 i0 (.agg #[.slice none 0 0]) 1 Tryd.underlying46 hi hz0 hz1 _ _ _ _ n rfl rfl rfl rfl (by rw [hz2]; omega) (by unfold maxLen; omega) (Nat.le_refl _) ?_)
  intro w1 hown hgrow
  have hrow := Row.of_owns (by simpa using hown)
  have hmade : (madeCells #[Value.slice none 0 0] n).toList = List.replicate n (Value.slice none 0 0) := toList_madeCells_one _ _
  rw [hmade] at hrow
  have HR := Lib.hid hrow
  have HG := Lib.hid hgrow
  have hblt := hrow.lt
  clear hrow hown hgrow hi hz0 hz1 hz2 hmade
  go_wp2
  go_loopw [4] (fun i wr => ∃ (k : Nat) (vs : List Value), k ≤ n ∧ i = .int .i64 k ∧ vs.length = k ∧ Row wr 40 w.heap.size 0 n (vs ++ List.replicate (n - k) (.slice none 0 0)) ∧ InR wr (w.heap.size + 1) (.slice (some ⟨w.heap.size, 0, none⟩) n n) vs (x.take k) ∧ w.grownBy wr none) (fun i _ => n - (intOf i).toNat)
  case atStart => exact ⟨0, [], Nat.zero_le _, rfl, rfl, by simpa using HR.out, InR.nil _ _ _, HG.out⟩
  case round =>
    obtain ⟨k, vs, hk, rfl, hvl, hrow, hin, hgrow⟩ := hrel
    by_cases hlt : k < n
    · have hg2 := hrow.lt
      obtain ⟨b, off, rfl, hR⟩ := HA.out (by omega)
      have hc1 : wr.cell? ⟨b, off + k, none⟩ = some (gv us k) := by
        have h0 := hR k hlt
        rw [World.cell?_of_block (w := w) (hgrow.block b (block_lt_of_cell h0) (by simp))]
        exact h0
      have hrk := (HB.out k hlt).below (grownBy.below hgrow)
      have hlk := hln.out k hlt
      clear hR
      generalize hx : gv us k = u at *
      replace hx := Lib.hid hx
      have HS := Lib.hid hrow
      have HG2 := Lib.hid hgrow
      have hin2 := Lib.hid hin
      obtain ⟨ua, uc, rfl⟩ := hrk.shape
      generalize hYl : (gf x k).length = yl at *
      replace hYl := Lib.hid hYl
      replace hrk := Lib.hid hrk
      replace hvl := Lib.hid hvl
      clear hrow hgrow hin
      go_wp2_with fail
      refine (toRow_law hrk.out.drow hlk).mono ?_
      rintro e w2 ⟨_, F2, rfl, ⟨u2, rfl, hsl⟩, hfr, hb⟩
      obtain ⟨ub, ud, rfl⟩ := hsl.rd.shape
      have hF2 := hsl.2
      have hR2 := HS.out.below hb hg2
      have hf := hR2.frozen k
      obtain ⟨y, hy⟩ : ∃ y, w2.cell? ⟨w.heap.size, k, none⟩ = some y := by
        have := hR2.cell (i := k) (by simp [hvl.out]; omega)
        rw [Nat.zero_add] at this
        exact ⟨_, this⟩
      rw [hYl.out] at hsl hF2 ⊢
      have hin3 : InR w2 (w.heap.size + 1) (.slice (some ⟨w.heap.size, 0, none⟩) n n) (vs ++ [.slice ub yl ud]) (x.take k ++ [gf x k]) := by
        refine (hin2.out.below hb).snoc (by rw [← hF2]; exact hsl) ?_ (fun i hi q hq => hin2.out.hd i hi q hq)
        intro q hq
        have hq2 := hfr q (by rw [hF2]; simp [hq])
        refine ⟨by omega, by simp [Value.ownBlock]; omega, fun i hi e => ?_⟩
        have := hin2.out.lt hi e
        omega
      have htk : x.take k ++ [gf x k] = x.take (k + 1) := by
        rw [gf_eq (by rw [hn.out]; exact hlt)]; simp
      rw [htk] at hin3
      have hset := hR2.set (i := k) (by simp [hvl.out]; omega) (.slice ub yl ud)
      rw [Nat.zero_add, take_setR hvl.out hlt] at hset
      replace hset := Lib.hid hset
      have hG3 := Lib.hid (grownBy.setNew (grownBy.trans HG2.out (grownBy.of_below hb none)) (p := ⟨w.heap.size, k, none⟩) (Nat.le_refl _) (v := .slice ub yl ud))
      have hin4 := Lib.hid (hin3.of_block (w' := w2.setCell ⟨w.heap.size, k, none⟩ (.slice ub yl ud)) (fun i hi q hq => heap_setCell_other w2 ⟨w.heap.size, k, none⟩ q _ (by have := hin3.low i hi q hq; simp; omega)))
      clear hb hsl htk hF2 hin3 hfr hR2
      go_wp2
      go_roundw
      case rel => exact ⟨k + 1, _, by omega, by go_num, by simp [hvl.out], hset.out, hin4.out, hG3.out⟩
      case measure => simp [intOf]; omega
    · obtain rfl : n = k := by omega
      have hx : x.take n = x := List.take_of_length_le (by rw [hn.out]; exact Nat.le_refl _)
      rw [hx] at hin
      have hr2 : Row wr 40 w.heap.size 0 n vs := by simpa using hrow
      have hfin : ∃ F, RRowS wr (.slice (some ⟨w.heap.size, 0, none⟩) n n) x F ∧ Fr w.heap.size F := by
        have hs := Sl.of_row hr2
        rw [hvl] at hs
        refine ⟨_, ⟨vs, hs, ⟨hin.len, hin.sl, fun _ _ _ _ => Nat.zero_le _, hin.hd, hin.dj⟩, rfl⟩, ?_⟩
        intro q hq
        rcases List.mem_append.1 hq with hq | hq
        · simp [Value.ownBlock] at hq; omega
        · obtain ⟨i, hi, hq⟩ := mem_fbl.1 hq
          have := hin.low i (by rw [← hin.len]; exact hi) q hq
          omega
      obtain ⟨F, f1, f2⟩ := hfin
      replace f1 := Lib.hid f1
      replace f2 := Lib.hid f2
      have hB := Lib.hid (grownBy.below hgrow)
      clear hrow hin hgrow hr2 hx
      go_wp2
      go_ret
      exact ⟨_, F, rfl, f1.out, f2.out, hB.out⟩
end Go.Proofs.YtoeonplbgbgjmaaDoor
