/- SortRows, spec: the whole. -/
import Derived.Test.YtoeonplbgbgjmaaDoorMg12
import Derived.Test.YtoeonplbgbgjmaaDoorMg15
namespace Go.Proofs.YtoeonplbgbgjmaaDoor
open Go.RowKit
set_option linter.unusedVariables false
set_option linter.unusedSimpArgs false

theorem row_all {Fs : List (List ByteArray)} (h : ∀ j, j < Fs.length → rowB (gf Fs j) = true) : Fs.all rowB = true := by
  rw [List.all_eq_true]
  intro r hr
  obtain ⟨j, hj, rfl⟩ := List.getElem_of_mem hr
  rw [← gf_eq hj]; exact h j hj
theorem row_bad {Fs : List (List ByteArray)} {j : Nat} (hj : j < Fs.length) (h : rowB (gf Fs j) = false) : Fs.all rowB = false := by
  cases e : Fs.all rowB
  · rfl
  · have := List.all_eq_true.1 e _ (List.getElem_mem hj)
    rw [← gf_eq hj, h] at this
    cases this
theorem Ex.alloc1 {F : List Nat} {a b : World} (h : Ex F a b) (o : Obj) : Ex F a (b.alloc o) := h.trans (Ex.of_below ((Below.refl _ _).alloc (Nat.le_refl _) o))
set_option maxRecDepth 10000 in
set_option maxHeartbeats 8000000 in
theorem spec_SortRows_law {vs vr : Value} {xs : List KS} {Fs : List (List ByteArray)} {F1 F2 : List Nat} {w : World} (r1 : RKeySpecS w vs xs F1) (r2 : RRowS w vr Fs F2) :
    Calls Tryd.prog 26 #[vs, vr] w fun e w' => ∃ r F, e = .returned (.tuple #[r, .bool (svR xs Fs).2]) ∧ RRowS w' r (svR xs Fs).1 F ∧ Fr w.heap.size F ∧ Below w.heap.size w w' ∧ szRowS (svR xs Fs).1 ≤ 100000000000 := by
  have hs := r1.rd
  have hsp := Lib.hid (l2Specs_any vs xs w hs)
  have hcm : Hid (∀ (wr : World) (b n c : Nat) (us : List Value), Below w.heap.size w wr → SWR w.heap.size Fs us (.slice (some ⟨b, 0, none⟩) n c) wr → okK xs = true → Fs.all rowB = true → ∀ w9 x y, Ex [b] wr w9 → Calls Tryd.prog 72 #[vs, .agg #[gv us (Int.toNat x)], .agg #[gv us (Int.toNat y)]] w9 fun e w' => e = .returned (.int .i64 (cvV xs Fs x y)) ∧ Below w9.heap.size w9 w') := Lib.hid (fun wr b n c us hw hr h1 h2 w9 x y hx => by
    have hb : w.heap.size ≤ b := (hr.own.lt b rfl).1
    have hw2 : Below w.heap.size w w9 := Below.ex hw hx (fun k hk => by simp at hk; omega)
    exact l2Compare_any vs xs (gv us x.toNat) (gv us y.toNat) (gf Fs x.toNat) (gf Fs y.toNat) w9 (hs.below hw2) (hr.rd hx _) (hr.rd hx _) (fun i hi => okK_fld h1 hi) (fun i hi => fld_le h2 _ i hi) (fun i hi => fld_le h2 _ i hi))
  obtain ⟨us0, g1, g2, g3⟩ := r2
  obtain ⟨bo, d, rfl, _, q3, HA⟩ := g1.opened
  have hul := g2.len
  have hel : Hid (∀ wr, Below w.heap.size w wr → ∀ k, k < Fs.length → RStringS wr (gv us0 k) (gf Fs k) (gv us0 k).ownBlock.toList) := Lib.hid (fun wr hw k hk => (g2.sl k hk).next hw)
  have hcl0 : Hid (∀ wr, Below w.heap.size w wr → ∀ k, k < Fs.length → ∃ b off, bo = some ⟨b, off, none⟩ ∧ wr.cell? ⟨b, off + k, none⟩ = some (gv us0 k)) := Lib.hid (fun wr hw k hk => by
    obtain ⟨b, off, rfl, hR⟩ := HA (by omega)
    exact ⟨b, off, rfl, by rw [(hR.below hw hR.lt).cell (by omega), gv_eq (by omega)]⟩)
  unfold maxLen at q3
  clear HA g1 g2 g3
  rw [hul]
  have hres : svR xs Fs = if (okK xs && decide (Fs.length ≤ 64) && Fs.all rowB) then (stV xs Fs, true) else ([], false) := rfl
  have hz := Lib.hid (svR_sz xs Fs)
  have hall := Lib.hid (row_all (Fs := Fs))
  have hbad : Hid (∀ j, j < Fs.length → rowB (gf Fs j) = false → Fs.all rowB = false) := Lib.hid (fun j h1 h2 => row_bad h1 h2)
  have hx6 : Hid (∀ k, rowB (gf Fs k) = true → (gf Fs k).length ≤ 6) := Lib.hid (fun k h => (row_facts h).1)
  have hgl : svR xs Fs = svR xs Fs := rfl
  generalize hRR : svR xs Fs = RR at *
  clear hgl
  obtain ⟨ao, c, rfl, q1, q4, _⟩ := hs
  unfold maxLen at q4
  have hst : Hid (∀ D : List Int, D.Perm (pv Fs.length) → Srt (cvV xs Fs) D 0 Fs.length → (D.map fun i => gf Fs i.toNat) = stV xs Fs) := Lib.hid (fun D h1 h2 => by rw [stP_unique (cvV_pre xs Fs) h1 h2]; rfl)
  have htk : Fs.take Fs.length = Fs := List.take_of_length_le (Nat.le_refl _)
  have hnx : Hid (∀ k, k < Fs.length → Fs.take k ++ [gf Fs k] = Fs.take (k + 1)) := Lib.hid (fun k hk => by rw [gf_eq hk]; simp)
  have hzz : Hid (Fs.length = 0 → stV xs Fs = []) := Lib.hid (fun h => List.eq_nil_of_length_eq_zero (by rw [stV_length]; exact h))
  have hcv := Lib.hid (cvV_pre xs Fs)
  generalize hm : xs.length = m at *
  generalize hn : Fs.length = n at *
  generalize hk1 : okK xs = b1 at *
  replace htk := Lib.hid htk
  replace hres := Lib.hid hres
  replace hRR := Lib.hid hRR
  replace hn := Lib.hid hn
  replace hm := Lib.hid hm
  replace hul := Lib.hid hul
  replace hk1 := Lib.hid hk1
  clear r1
  have hB0 : Hid (Below w.heap.size w w) := Lib.hid (Below.refl _ _)
  go_enter Tryd.func26, Tryd.ntmps26
  go_wp2_with fail
  refine hsp.out.mono ?_
  rintro e w1 ⟨rfl, rfl⟩
  clear hsp
  have hE0 := Lib.hid (SWR.start (B := w.heap.size) (W := w) (Nat.le_refl _)).made
  cases b1
  · have hv := Lib.hid (show RR = ([], false) by rw [hres.out]; simp)
    go_wp2
    go_ret2
    obtain ⟨F, f1, f2⟩ := hE0.out
    exact ⟨.slice (some ⟨w.heap.size, 0, none⟩) 0 0, F, by rw [hv.out]; rfl, by rw [hv.out]; exact f1, f2, (Below.refl _ _).alloc (Nat.le_refl _) _, hz.out⟩
  · by_cases hn64 : n ≤ 64
    · have hni : ¬ (n : Int) > 64 := by omega
      have hst0 := Lib.hid (SWR.start (B := w.heap.size) (W := w) (Nat.le_refl _))
      have hB3 : Hid (Below w.heap.size w (w.alloc (.cells #[] 40))) := Lib.hid ((Below.refl _ _).alloc (Nat.le_refl _) _)
      clear hE0
      go_wp2
      go_loopw [6, 7] (fun o iv wr => ∃ (j : Nat) (us : List Value), j ≤ n ∧ iv = .int .i64 (j : Nat) ∧ SWR w.heap.size (Fs.take j) us o wr ∧ Below w.heap.size w wr ∧ ∀ q, q < j → rowB (gf Fs q) = true) (fun _ iv _ => n - (intOf iv).toNat)
      case atStart => exact ⟨0, [], Nat.zero_le _, rfl, hst0.out, hB3.out, fun q hq => absurd hq (by omega)⟩
      case round =>
        clear hst0 hB3
        obtain ⟨j, us, hj, rfl, hR, hb, hq⟩ := hrel
        have hus : us.length = j := by rw [hR.len, List.length_take, hn.out]; omega
        have hsW : w.heap.size ≤ wr.heap.size := hb.size
        by_cases hlt : j < n
        · obtain ⟨rb, ro, rfl, hc1⟩ := hcl0.out _ hb j hlt
          have hrs := hel.out _ hb j hlt
          have hnxt := hnx.out j hlt
          have hfl : Hid (∀ i, i < (gf Fs j).length → (gs (gf Fs j) i).size ≤ maxLen) := Lib.hid (fun i hi => hrs.1.2 i hi)
          have hX6 := hx6.out j
          have hbj := hbad.out j hlt
          have hlr := Lib.hid (l2Row_any (gv us0 j) (gf Fs j) wr hrs.rd)
          obtain ⟨wo, rfl⟩ : ∃ wo, wo = wr := ⟨_, rfl⟩
          cases hrB : rowB (gf Fs j)
          · have hv := Lib.hid (show RR = ([], false) by rw [hres.out, hbj hrB]; simp)
            rw [hrB] at hlr
            generalize gf Fs j = X at *
            generalize gv us0 j = u at *
            obtain ⟨ua, uc, rfl⟩ := hrs.rd.shape
            generalize X.length = xl at *
            clear hX6 hfl hnxt hbj hrs
            replace hR := Lib.hid hR
            replace hb := Lib.hid hb
            replace hq := Lib.hid hq
            go_wp2_with fail
            refine hlr.out.mono ?_
            rintro e w2 ⟨rfl, hb2⟩
            have hB2 := Lib.hid (Below.next hb.out hb2)
            have hs2 : w.heap.size ≤ w2.heap.size := hB2.out.size
            have hE0 := Lib.hid (SWR.start (B := w.heap.size) (W := w2) hs2).made
            clear hb2 hc1
            go_wp2
            go_ret2
            obtain ⟨F, f1, f2⟩ := hE0.out
            exact ⟨.slice (some ⟨w2.heap.size, 0, none⟩) 0 0, F, by rw [hv.out]; rfl, by rw [hv.out]; exact f1, f2, Below.alloc hB2.out hs2 _, hz.out⟩
          · have hX := hX6 hrB
            have hq2 : Hid (∀ q, q < j + 1 → rowB (gf Fs q) = true) := Lib.hid (fun q h => by
              by_cases e : q = j
              · subst e; exact hrB
              · exact hq q (by omega))
            rw [hrB] at hlr
            generalize gf Fs j = X at *
            generalize gv us0 j = u at *
            obtain ⟨ua, uc, rfl⟩ := hrs.rd.shape
            clear hX6 hbj
            replace hR := Lib.hid hR
            replace hb := Lib.hid hb
            replace hq := Lib.hid hq
            replace hrs := Lib.hid hrs
            generalize hXl : X.length = xl at *
            replace hXl := Lib.hid hXl
            go_wp2_with fail
            refine hlr.out.mono ?_
            rintro e w2 ⟨rfl, hb2⟩
            have hB2 := Lib.hid (Below.next hb.out hb2)
            have hs2 : w.heap.size ≤ w2.heap.size := hB2.out.size
            have hc2 : w2.cell? ⟨rb, ro + j, none⟩ = some (.slice ua xl uc) := (hb2.cell (p := ⟨rb, ro + j, none⟩) (block_lt_of_cell hc1)).trans hc1
            have hc3 : (w2.alloc (.cells #[] 9)).cell? ⟨rb, ro + j, none⟩ = some (.slice ua xl uc) := (World.cell?_alloc_past (w := w2) (Obj.cells #[] 9) rb (ro + j) (block_lt_of_cell hc2)).trans hc2
            have hba : Below w2.heap.size w2 (w2.alloc (.cells #[] 9)) := (Below.refl _ _).alloc (Nat.le_refl _) _
            have hrd := Lib.hid (RdV.of_sl ((hrs.out.next hb2).next hba).1.1)
            have hoe := Lib.hid (Own.empty w2 9)
            have hsl : (strs X).length = xl := by rw [strs_length, hXl.out]
            have hlen : ([] : List Value).length + (strs X).length ≤ 1000000000 := by rw [hsl]; simp; omega
            have hbb := Lib.hid hb2
            have hba2 := Lib.hid hba
            clear hb2 hc1 hba
            go_wp2_with (at_builtin; refine wpList_append_all eltStrO rfl _ _ rfl w2.heap.size _ _ rfl hoe.out _ _ rfl hrd.out (strs_one _) hlen (by simp) ?_)
            intro v3 w3 ho3 hg3
            have hb3 := Below.appended hba2.out hoe.out hg3 (by simp)
            obtain ⟨ra, rc, rfl, _⟩ := ho3.sl
            rw [hsl] at ho3 ⊢
            have hb7 := Lib.hid (Below.next hbb.out hb3)
            have hB8 := Lib.hid (Below.next hb.out hb7.out)
            have hw3 : w.heap.size ≤ w3.heap.size := hB8.out.size
            have ho4 := Lib.hid (ho3.base (B' := wo.heap.size) hbb.out.size)
            have hRq := Lib.hid (hR.out.below hb7.out)
            have hul2 : us.length ≤ 1000000000 := by omega
            clear ho3 hg3 hb3 hc2 hc3
            go_wp2_with (at_builtin; refine append_one_at eltRow rfl _ _ rfl w.heap.size _ _ rfl hRq.out.own rfl rfl hul2 hw3 ?_)
            intro v5 w5 ho5 hg5 hat
            have hfR := SWR.snoc hR.out hb7.out hsW ho4.out (by rw [hXl.out]; exact hfl.out) ho5 hg5
            rw [hnxt] at hfR
            have hfB := Lib.hid (Below.thenGrown hB8.out hg5 hw3 (fun q hq => (hRq.out.own.lt q hq).1))
            replace hfR := Lib.hid hfR
            clear ho5 hg5 hat
            go_wp2
            go_roundw
            case rel => exact ⟨j + 1, _, by omega, by go_num, hfR.out, hfB.out, hq2.out⟩
            case measure => simp [intOf]; omega
        · obtain rfl : n = j := by omega
          rw [htk.out] at hR
          obtain ⟨b, c9, rfl⟩ := hR.nn
          rw [hus] at hR ⊢
          have hal := hall.out hq
          have hv := Lib.hid (show RR = (stV xs Fs, true) by rw [hres.out, hal]; simp [hn64])
          obtain ⟨v1, v2, v3⟩ := hR.rv
          have hcmp := Lib.hid (hcm.out wr b n c9 us hb hR (by trivial) hal)
          have hbB := (hR.own.lt b rfl).1
          have hXs := Lib.hid hR.hd
          have hRV := Lib.hid v1
          replace hR := Lib.hid hR
          replace hb := Lib.hid hb
          replace hal := Lib.hid hal
          obtain ⟨wz, rfl⟩ : ∃ wz, wz = wr := ⟨_, rfl⟩
          clear hcm hel hcl0 hbad hall hx6 hnx hq v1 v2
          by_cases hp : 0 < n
          · go_wp2
            go_loopw [8] (fun iv wr => ∃ (i : Nat) (D : List Int), 1 ≤ i ∧ i ≤ n ∧ iv = .int .i64 (i : Nat) ∧ RV wr b 0 c9 n us D ∧ Ex [b] wz wr ∧ Mv (pv n) D 0 i ∧ Srt (cvV xs Fs) D 0 i) (fun iv _ => n - (intOf iv).toNat)
            case atStart => exact ⟨1, pv n, Nat.le_refl _, hp, rfl, hRV.out, Ex.refl _ _, Mv.refl _ _ _, Srt.one _ _ (Nat.le_refl _)⟩
            case round =>
              clear hRV
              obtain ⟨wo, rfl⟩ : ∃ wo, wo = wr := ⟨_, rfl⟩
              obtain ⟨i, D, h1i, hin, rfl, hRV, hx, hm, hs⟩ := hrel
              replace hRV := Lib.hid hRV
              replace hx := Lib.hid hx
              by_cases hlt2 : i < n
              · have hlti : (i : Int) < (n : Int) := by omega
                have hXe : gi D i = (i : Int) := by rw [hm.out i (.inr (Nat.le_refl _)), gi_pv hlt2]
                have hsm : ∀ t, t ≤ i → t ≠ i → gi D t < (i : Int) := fun t g2 g3 => by
                  obtain ⟨t', k1, k2, k3⟩ := hm.ins t (Nat.zero_le _) (by omega)
                  rw [k3, gi_pv (by omega)]; omega
                have hm2 := Lib.hid (hm.mono (a' := 0) (b' := i + 1) (Nat.le_refl _) (by omega))
                have hsx := Lib.hid (SrtX.start hs)
                replace hsm := Lib.hid hsm
                replace hXe := Lib.hid hXe
                clear hm hs
                go_wp2
                go_loopw [9] (fun kv wr => ∃ (k : Nat) (D : List Int), k ≤ i ∧ kv = .int .i64 (k : Nat) ∧ RV wr b 0 c9 n us D ∧ Ex [b] wz wr ∧ Mv (pv n) D 0 (i + 1) ∧ SrtX (cvV xs Fs) D 0 i k ∧ gi D k = (i : Int) ∧ ∀ t, t ≤ i → t ≠ k → gi D t < (i : Int)) (fun kv _ => (intOf kv).toNat)
                case atStart => exact ⟨i, D, Nat.le_refl _, rfl, hRV.out, hx.out, hm2.out, hsx.out, hXe.out, hsm.out⟩
                case round =>
                  clear hRV hx hm2 hsx hsm hXe
                  obtain ⟨wi, rfl⟩ : ∃ wi, wi = wr := ⟨_, rfl⟩
                  obtain ⟨k, D, hki, rfl, hRV, hx, hm, hsx, hXk, hsm⟩ := hrel
                  have hl := hm.len
                  rw [pv_length] at hl
                  replace hl := Lib.hid hl
                  by_cases hk0 : 0 < k
                  · obtain ⟨m, hjm⟩ : ∃ m, k = m + 1 := ⟨k - 1, by omega⟩
                    have hki0 : (k : Int) > 0 := by omega
                    have hYX := hsm m (by omega) (by omega)
                    obtain ⟨hc1', hfz⟩ := hRV.cells (i := k) (by omega) hl.out
                    obtain ⟨hc2', _⟩ := hRV.cells (i := m) (by omega) hl.out
                    simp only [Nat.zero_add] at hc1' hc2'
                    have hbw := hRV.lt
                    have hsw : ∀ w9, RV w9 b 0 c9 n us D → _ := fun w9 h9 => RV.swap h9 (i := m) (j := k) (by omega) (by omega) hl.out
                    have hE1 : cvV xs Fs (gi D m) (gi D k) > 0 → SrtX (cvV xs Fs) (swp D m k) 0 i m := fun hh => by
                      have h3 : cvV xs Fs (gi D k) (gi D m) < 0 := (hcv.out.anti _ _).2 hh
                      subst hjm
                      exact hsx.step (Nat.zero_le _) hki (by rw [hl.out]; omega) (.inl h3)
                    have hE0 : ¬ cvV xs Fs (gi D m) (gi D k) > 0 → Srt (cvV xs Fs) D 0 (i + 1) := fun hh => hsx.done hcv.out (.inr (by
                      rw [show k - 1 = m by omega]
                      by_cases h4 : cvV xs Fs (gi D m) (gi D k) < 0
                      · exact .inl h4
                      · exact .inr ⟨by omega, by rw [hXk]; exact hYX⟩))
                    have hm2 := Lib.hid (hm.trans (Mv.swp (D := D) (a := 0) (b := i + 1) (i := m) (j := k) (by omega) (by omega) (by omega) (by rw [hl.out]; omega)))
                    have hX2 := Lib.hid (show gi (swp D m k) m = (i : Int) by rw [gi_swp (by rw [hl.out]; omega) (by rw [hl.out]; omega), if_neg (by omega), if_pos rfl, hXk])
                    have hsm2 := Lib.hid (show ∀ t, t ≤ i → t ≠ m → gi (swp D m k) t < (i : Int) from fun t g2 g3 => by
                      rw [gi_swp (by rw [hl.out]; omega) (by rw [hl.out]; omega)]
                      by_cases e : t = k
                      · rw [if_pos e]; exact hYX
                      · rw [if_neg e, if_neg g3]; exact hsm t g2 e)
                    have hmE := Lib.hid hm
                    have hcl := Lib.hid (hcmp.out wi.drew (gi D m) (gi D k) (show Ex [b] wz wi.drew from hx.drewN 1))
                    have hi3 : (k : Int) - 1 = (m : Int) := by omega
                    have hmn : (m : Int) < (n : Int) := by omega
                    have hkn : (k : Int) < (n : Int) := by omega
                    have hi7 : IntKind.i64.wrap ((k : Int) - 1) = (m : Int) := by rw [hi3]; exact IntWalk.i64_in _ (by omega)
                    have hi8 : (0 : Int) ≤ (m : Int) := by omega
                    have hi9 : IntKind.i64.wrap (m : Int) = (m : Int) := IntWalk.i64_in _ (by omega)
                    have hi10 : (0 : Int) ≤ (k : Int) := by omega
                    clear hsx hsm hm hXk
                    replace hRV := Lib.hid hRV
                    replace hx := Lib.hid hx
                    replace hsw := Lib.hid hsw
                    replace hjm := Lib.hid hjm
                    generalize hz0 : cvV xs Fs (gi D m) (gi D k) = z at *
                    have hUs := hXs.out (gi D k).toNat
                    have hVs := hXs.out (gi D m).toNat
                    generalize gv us (gi D k).toNat = U at *
                    generalize gv us (gi D m).toNat = V at *
                    obtain ⟨u1, u2, u3, rfl⟩ := hUs
                    obtain ⟨v1, v2, v3, rfl⟩ := hVs
                    replace hz0 := Lib.hid hz0
                    by_cases hzp : z > 0
                    · have hE := Lib.hid (hE1 hzp)
                      clear hE1 hE0
                      go_wp2
                      go_region_held3 (fun w' => w'.cell? ⟨b, k, none⟩ = some (.slice u1 u2 u3) ∧ w'.cell? ⟨b, m, none⟩ = some (.slice v1 v2 v3)) ((first | exact ⟨(hbel.cell (p := ⟨b, k, none⟩) hbw).trans hc1', (hbel.cell (p := ⟨b, m, none⟩) hbw).trans hc2'⟩ | go_keep)) ((go_at_call 72; refine hcl.out.mono ?_; rintro e w' ⟨rfl, hbel⟩))
                      obtain ⟨d1, d2⟩ : _ ∧ _ := ‹w'.cell? ⟨b, k, none⟩ = some (.slice u1 u2 u3) ∧ w'.cell? ⟨b, m, none⟩ = some (.slice v1 v2 v3)›
                      have hR2 : RV w' b 0 c9 n us D := (show RV wi.drew b 0 c9 n us D from hRV.out.drewN 1).below hbel
                      have hx2 : Hid (Ex [b] wz w') := Lib.hid ((show Ex [b] wz wi.drew from hx.out.drewN 1).trans (Ex.of_below hbel))
                      have hbw2 : b < w'.heap.size := hR2.lt
                      have hfz2 := (hR2.cells (i := m) (by omega) hl.out).2
                      have hy1 : (w'.alloc (Obj.cells #[.slice v1 v2 v3] 40)).cell? ⟨w'.heap.size, 0, none⟩ = some (.slice v1 v2 v3) := (World.cell?_alloc_at _ _ _ _ rfl).trans rfl
                      have hx0 : (w'.alloc (Obj.cells #[.slice v1 v2 v3] 40)).cell? ⟨b, k, none⟩ = some (.slice u1 u2 u3) := (World.cell?_alloc_past (w := w') (Obj.cells #[.slice v1 v2 v3] 40) b k hbw2).trans d1
                      have hx1 : (w'.alloc (Obj.cells #[.slice v1 v2 v3] 40)).cell? ⟨b, m, none⟩ = some (.slice v1 v2 v3) := (World.cell?_alloc_past (w := w') (Obj.cells #[.slice v1 v2 v3] 40) b m hbw2).trans d2
                      have hf0 : (w'.alloc (Obj.cells #[.slice v1 v2 v3] 40)).frozen? ⟨b, k, none⟩ = false := (World.frozen?_alloc_past (w := w') (Obj.cells #[.slice v1 v2 v3] 40) b k hbw2).trans (hfz2 k)
                      have hf1 : (w'.alloc (Obj.cells #[.slice v1 v2 v3] 40)).frozen? ⟨b, m, none⟩ = false := (World.frozen?_alloc_past (w := w') (Obj.cells #[.slice v1 v2 v3] 40) b m hbw2).trans (hfz2 m)
                      have hn1 : ¬ k = m := by have := hjm.out; omega
                      have hn2 : ¬ m = k := by have := hjm.out; omega
                      have ha7 : ¬ b = w'.heap.size := by omega
                      have ha8 : ¬ w'.heap.size = b := by omega
                      have hr9 := hR2.1.set (i := m) (by have := hl.out; simp; omega) (.slice u1 u2 u3)
                      rw [Nat.zero_add] at hr9
                      have hf2 : ((w'.setCell ⟨b, m, none⟩ (.slice u1 u2 u3)).alloc (Obj.cells #[.slice v1 v2 v3] 40)).frozen? ⟨b, k, none⟩ = false := (hr9.alloc _).frozen k
                      have hf3 : (w'.setCell ⟨b, m, none⟩ (.slice u1 u2 u3)).frozen? ⟨b, k, none⟩ = false := hr9.frozen k
                      have hset0 := hsw.out w' hR2
                      simp only [Nat.zero_add] at hset0
                      have hset := Lib.hid (hset0.below ((Below.refl _ _).alloc (Nat.le_refl _) (Obj.cells #[.slice v1 v2 v3] 40)))
                      have hx3 := Lib.hid (Ex.alloc1 (Ex.set2V (i1 := m) (i2 := k) (x := .slice u1 u2 u3) (y := .slice v1 v2 v3) hx2.out (show b ∈ [b] by simp)) (Obj.cells #[.slice v1 v2 v3] 40))
                      clear hset0 hr9
                      clear hbel hc1' hc2' hfz hfz2 hRV hx hR2 hsw
                      go_wp2
                      go_roundw
                      case rel => exact ⟨m, swp D m k, by have := hjm.out; omega, by first | rfl | go_num, hset.out, hx3.out, hm2.out, hE.out, hX2.out, hsm2.out⟩
                      case measure => have := hjm.out; first | (simp [intOf]; done) | (simp [intOf]; omega)
                    · have hE := Lib.hid (hE0 hzp)
                      clear hE1 hE0
                      go_wp2
                      go_region_held3 (fun w' => w'.cell? ⟨b, k, none⟩ = some (.slice u1 u2 u3) ∧ w'.cell? ⟨b, m, none⟩ = some (.slice v1 v2 v3)) ((first | exact ⟨(hbel.cell (p := ⟨b, k, none⟩) hbw).trans hc1', (hbel.cell (p := ⟨b, m, none⟩) hbw).trans hc2'⟩ | go_keep)) ((go_at_call 72; refine hcl.out.mono ?_; rintro e w' ⟨rfl, hbel⟩))
                      have hR2 : RV w' b 0 c9 n us D := (show RV wi.drew b 0 c9 n us D from hRV.out.drewN 1).below hbel
                      have hx2 : Hid (Ex [b] wz w') := Lib.hid ((show Ex [b] wz wi.drew from hx.out.drewN 1).trans (Ex.of_below hbel))
                      replace hR2 := Lib.hid hR2
                      clear hbel
                      go_wp2
                      go_roundw
                      case rel => exact ⟨i + 1, D, by omega, by omega, by go_num, hR2.out, hx2.out, hmE.out, hE.out⟩
                      case measure => simp [intOf]; omega
                  · obtain rfl : k = 0 := by omega
                    have hki0 : ¬ ((0 : Nat) : Int) > 0 := by omega
                    have hE0 := Lib.hid (hsx.done hcv.out (.inl rfl))
                    replace hm := Lib.hid hm
                    replace hRV := Lib.hid hRV
                    replace hx := Lib.hid hx
                    clear hsx hsm hXk
                    go_wp2_with fail
                    go_quiet (fail)
                    go_wp2
                    go_roundw
                    case rel => exact ⟨i + 1, D, by omega, by omega, by go_num, hRV.out.drewN _, hx.out.drewN _, hm.out, hE0.out⟩
                    case measure => simp [intOf]; omega
              · obtain rfl : n = i := by omega
                obtain ⟨F, f1, f2⟩ := hR.out.sorted hx.out hRV.out hm.perm
                rw [hst.out D hm.perm hs] at f1
                have hB9 := Lib.hid (Below.ex hb.out hx.out (fun k hk => by simp at hk; omega))
                replace f1 := Lib.hid f1
                replace f2 := Lib.hid f2
                clear hm hs
                go_wp2
                go_ret2
                exact ⟨.slice (some ⟨b, 0, none⟩) n c9, F, by rw [hv.out]; rfl, by rw [hv.out]; exact f1.out, f2.out, hB9.out, hz.out⟩
          · obtain rfl : n = 0 := by omega
            obtain ⟨F, f1, f2⟩ := hR.out.made
            have hz0 := hzz.out rfl
            have hF0 : Fs = [] := List.eq_nil_of_length_eq_zero hn.out
            rw [hF0] at f1
            replace f1 := Lib.hid f1
            replace f2 := Lib.hid f2
            replace hz0 := Lib.hid hz0
            clear hF0 hRV
            go_wp2
            go_loopw [8] (fun iv wr => iv = .int .i64 1 ∧ wr = wz) (fun _ _ => 0)
            case atStart => exact ⟨rfl, rfl⟩
            case round =>
              obtain ⟨rfl, rfl⟩ := hrel
              go_wp2
              go_ret2
              exact ⟨.slice (some ⟨b, 0, none⟩) 0 c9, F, by rw [hv.out]; rfl, by rw [hv.out]; dsimp only; rw [hz0.out]; exact f1.out, f2.out, hb.out, hz.out⟩
    · have hni : (n : Int) > 64 := by omega
      have hv := Lib.hid (show RR = ([], false) by rw [hres.out]; simp [hn64])
      go_wp2
      go_ret2
      obtain ⟨F, f1, f2⟩ := hE0.out
      exact ⟨.slice (some ⟨w.heap.size, 0, none⟩) 0 0, F, by rw [hv.out]; rfl, by rw [hv.out]; exact f1, f2, (Below.refl _ _).alloc (Nat.le_refl _) _, hz.out⟩
end Go.Proofs.YtoeonplbgbgjmaaDoor
