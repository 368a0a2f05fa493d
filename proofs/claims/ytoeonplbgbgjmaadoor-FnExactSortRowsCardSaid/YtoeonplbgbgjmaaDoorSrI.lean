/- SortRows, impl: the whole. -/
import Derived.Test.YtoeonplbgbgjmaaDoorSrP
namespace Go.Proofs.YtoeonplbgbgjmaaDoor
open Go.RowKit
set_option linter.unusedVariables false
set_option linter.unusedSimpArgs false

theorem cell_kept {F : List Nat} {w w' : World} {q : Nat} {v : Value} (hx : Ex F w w') (hc : w.cell? ⟨q, 0, none⟩ = some v) (hq : ¬ q ∈ F) : w'.cell? ⟨q, 0, none⟩ = some v := by
  rw [World.cell?_of_block (w := w) (hx.block q (block_lt_of_cell hc) hq)]
  exact hc
set_option maxRecDepth 10000 in
set_option maxHeartbeats 8000000 in
theorem impl_SortRows_law {vs vr : Value} {xs : List KS} {Fs : List (List ByteArray)} {F1 F2 : List Nat} {w : World} (r1 : RKeySpecS w vs xs F1) (r2 : RRowS w vr Fs F2) (hT : TabS w) :
    Calls Tryd.prog 28 #[vs, vr] w fun e w' => ∃ r F, e = .returned (.tuple #[r, .bool (svR xs Fs).2]) ∧ RRowS w' r (svR xs Fs).1 F ∧ Fr w.heap.size F ∧ Below w.heap.size w w' ∧ szRowS (svR xs Fs).1 ≤ 100000000000 := by
  have hs := r1.rd
  obtain ⟨W0, hWd⟩ : ∃ W0, W0 = w.alloc (.cells #[vs] 26) := ⟨_, rfl⟩
  have hBW : Below w.heap.size w W0 := by rw [hWd]; exact (Below.refl _ _).alloc (Nat.le_refl _) _
  have hsz0 : W0.heap.size = w.heap.size + 1 := by rw [hWd]; simp
  have c0 : W0.cell? ⟨w.heap.size, 0, none⟩ = some vs := by rw [hWd]; simp [go_sem]
  have hS : Hid (∀ w', Below W0.heap.size W0 w' → w'.cell? ⟨w.heap.size, 0, none⟩ = some vs) := Lib.hid (fun w' hw => (hw.cell (p := ⟨w.heap.size, 0, none⟩) (by simp; omega)).trans c0)
  have hfin : Hid (∀ wr, Below W0.heap.size W0 wr → Below w.heap.size w wr) := Lib.hid (fun wr hw => Below.next hBW hw)
  have hsp : Hid (∀ wr, Below W0.heap.size W0 wr → Calls Tryd.prog 63 #[vs] wr fun e w' => e = .returned (.bool (okK xs)) ∧ Below W0.heap.size W0 w') := Lib.hid (fun wr hw =>
    (areSpecs_any vs xs wr (hs.below (Below.next hBW hw))).mono fun _ _ ⟨he, hb⟩ => ⟨he, Below.next hw hb⟩)
  have hal : Hid (∀ wr, Below W0.heap.size W0 wr → Calls Tryd.prog 76 #[vr, .func (.func 55) #[] #[]] wr fun e w' => e = .returned (.bool (Fs.all rowB)) ∧ Below W0.heap.size W0 w') := Lib.hid (fun wr hw =>
    (allRow_any vr Fs F2 wr (r2.next (Below.next hBW hw))).mono fun _ _ ⟨he, hb⟩ => ⟨he, Below.next hw hb⟩)
  have hcm : Hid (∀ (wr w' : World) (b n c : Nat) (us : List Value), Below W0.heap.size W0 wr → SWR W0.heap.size Fs us (.slice (some ⟨b, 0, none⟩) n c) wr → okK xs = true → Fs.all rowB = true → CmpV wr b w.heap.size us (cvV xs Fs)) := Lib.hid (fun wr w' b n c us hw hr h1 h2 w9 x y hx => by
    have hb : W0.heap.size ≤ b := (hr.own.lt b rfl).1
    have hw2 : Below w.heap.size w w9 := Below.ex (Below.next hBW hw) hx (fun k hk => by simp at hk; omega)
    exact cmpFn_any vs (gv us x.toNat) (gv us y.toNat) xs (gf Fs x.toNat) (gf Fs y.toNat) w.heap.size w9 (cell_kept hx ((hw.cell (p := ⟨w.heap.size, 0, none⟩) (by simp; omega)).trans c0) (by simp; omega)) (hs.below hw2) (hr.rd hx _) (hr.rd hx _) h1 (fun i hi => fld_le h2 _ i hi) (fun i hi => fld_le h2 _ i hi) (hT.next hw2))
  obtain ⟨us0, g1, g2, g3⟩ := r2
  obtain ⟨bo, d, rfl, _, q3, HA⟩ := g1.opened
  have hul := g2.len
  have hel : Hid (∀ wr, Below W0.heap.size W0 wr → ∀ k, k < Fs.length → RStringS wr (gv us0 k) (gf Fs k) (gv us0 k).ownBlock.toList) := Lib.hid (fun wr hw k hk => (g2.sl k hk).next (Below.next hBW hw))
  have hcl0 : Hid (∀ wr, Below W0.heap.size W0 wr → ∀ k, k < Fs.length → ∃ b off, bo = some ⟨b, off, none⟩ ∧ wr.cell? ⟨b, off + k, none⟩ = some (gv us0 k)) := Lib.hid (fun wr hw k hk => by
    obtain ⟨b, off, rfl, hR⟩ := HA (by omega)
    exact ⟨b, off, rfl, by rw [(hR.below (Below.next hBW hw) hR.lt).cell (by omega), gv_eq (by omega)]⟩)
  unfold maxLen at q3
  clear HA g1 g2 g3
  rw [hul] at hal ⊢
  have hres : svR xs Fs = if (okK xs && decide (Fs.length ≤ 64) && Fs.all rowB) then (stV xs Fs, true) else ([], false) := rfl
  have hz := Lib.hid (svR_sz xs Fs)
  generalize hRR : svR xs Fs = RR at *
  obtain ⟨ao, c, rfl, q1, q4, _⟩ := hs
  unfold maxLen at q4
  have hst : Hid (∀ D : List Int, D.Perm (pv Fs.length) → Srt (cvV xs Fs) D 0 Fs.length → (D.map fun i => gf Fs i.toNat) = stV xs Fs) := Lib.hid (fun D h1 h2 => by rw [stP_unique (cvV_pre xs Fs) h1 h2]; rfl)
  have htk : Fs.take Fs.length = Fs := List.take_of_length_le (Nat.le_refl _)
  have hnx : Hid (∀ k, k < Fs.length → Fs.take k ++ [gf Fs k] = Fs.take (k + 1)) := Lib.hid (fun k hk => by rw [gf_eq hk]; simp)
  have hzz : Hid (Fs.length = 0 → stV xs Fs = []) := Lib.hid (fun h => List.eq_nil_of_length_eq_zero (by rw [stV_length]; exact h))
  have hpre := Lib.hid (cvV_pre xs Fs)
  have hx6 : Hid (Fs.all rowB = true → ∀ k, k < Fs.length → (gf Fs k).length ≤ 6) := Lib.hid (fun h k hk => (row_facts (x := gf Fs k) (by rw [gf_eq hk]; exact List.all_eq_true.1 h _ (List.getElem_mem hk))).1)
  generalize hm : xs.length = m at *
  generalize hn : Fs.length = n at *
  generalize hk1 : okK xs = b1 at *
  generalize hk3 : Fs.all rowB = b3 at *
  replace htk := Lib.hid htk
  replace hres := Lib.hid hres
  replace hRR := Lib.hid hRR
  replace hn := Lib.hid hn
  replace hm := Lib.hid hm
  replace hul := Lib.hid hul
  replace hk1 := Lib.hid hk1
  replace hk3 := Lib.hid hk3
  replace hWd := Lib.hid hWd
  replace hsz0 := Lib.hid hsz0
  clear c0 hBW hT r1
  have hB0 : Hid (Below W0.heap.size W0 W0) := Lib.hid (Below.refl _ _)
  go_enter Tryd.func28, Tryd.ntmps28
  go_wp2_with fail
  rw [← hWd.out]
  have d0 := hS.out _ hB0.out
  go_wp2_with fail
  refine (hsp.out _ hB0.out).mono ?_
  rintro e w1 ⟨rfl, hB1⟩
  clear d0
  have d1 := hS.out _ hB1
  replace hB1 := Lib.hid hB1
  cases b1
  · have hv := Lib.hid (show RR = ([], false) by rw [hres.out]; simp)
    go_wp2
    go_ret2
    exact ⟨.slice none 0 0, [], by rw [hv.out]; rfl, by rw [hv.out]; exact ⟨[], Sl.nil _ _, InR.nil _ _ _, rfl⟩, fun b hb => by simp at hb, hfin.out _ hB1.out, hz.out⟩
  · by_cases hn64 : n ≤ 64
    · have hni : ¬ (n : Int) > 64 := by omega
      go_wp2_with fail
      refine (hal.out _ hB1.out).mono ?_
      rintro e w2 ⟨rfl, hB2⟩
      clear d1
      have d2 := hS.out _ hB2
      replace hB2 := Lib.hid hB2
      cases b3
      · have hv := Lib.hid (show RR = ([], false) by rw [hres.out]; simp)
        go_wp2
        go_ret2
        exact ⟨.slice none 0 0, [], by rw [hv.out]; rfl, by rw [hv.out]; exact ⟨[], Sl.nil _ _, InR.nil _ _ _, rfl⟩, fun b hb => by simp at hb, hfin.out _ hB2.out, hz.out⟩
      · have hv := Lib.hid (show RR = (stV xs Fs, true) by rw [hres.out]; simp [hn64])
        have hs2 : W0.heap.size ≤ w2.heap.size := hB2.out.size
        have hst0 := Lib.hid (SWR.start (B := W0.heap.size) (W := w2) hs2)
        have hB3 := Lib.hid (Below.alloc hB2.out hs2 (.cells #[] 40))
        clear d2
        go_wp2
        go_loopw [6, 25] (fun o iv wr => ∃ (j : Nat) (us : List Value), j ≤ n ∧ iv = .int .i64 (j : Nat) ∧ SWR W0.heap.size (Fs.take j) us o wr ∧ Below W0.heap.size W0 wr) (fun _ iv _ => n - (intOf iv).toNat)
        case atStart => exact ⟨0, [], Nat.zero_le _, rfl, hst0.out, hB3.out⟩
        case round =>
          clear hst0 hB3 hs2
          obtain ⟨j, us, hj, rfl, hR, hb⟩ := hrel
          have hus : us.length = j := by rw [hR.len, List.length_take, hn.out]; omega
          have hsW : W0.heap.size ≤ wr.heap.size := hb.size
          by_cases hlt : j < n
          · obtain ⟨rb, ro, rfl, hc1⟩ := hcl0.out _ hb j hlt
            have hrs := hel.out _ hb j hlt
            have hnxt := hnx.out j hlt
            have hfl : Hid (∀ i, i < (gf Fs j).length → (gs (gf Fs j) i).size ≤ maxLen) := Lib.hid (fun i hi => hrs.1.2 i hi)
            have hX6 := hx6.out (by trivial) j hlt
            generalize gf Fs j = X at *
            generalize gv us0 j = u at *
            have hb5 : Below wr.heap.size wr (wr.alloc (.cells #[u] 40)) := (Below.refl _ _).alloc (Nat.le_refl _) _
            have hcp := Lib.hid (copyStr_any u X _ (hrs.next hb5).1.1 (by omega))
            obtain ⟨ua, uc, rfl⟩ := hrs.rd.shape
            generalize hXl : X.length = xl at *
            have c6 : (wr.alloc (.cells #[.slice none 0 0] 40)).cell? ⟨wr.heap.size, 0, none⟩ = some (.slice none 0 0) := by simp [go_sem]
            have f6 : (wr.alloc (.cells #[.slice none 0 0] 40)).frozen? ⟨wr.heap.size, 0, none⟩ = false := by simp [go_sem]
            have c7 : (wr.alloc (.cells #[.slice ua xl uc] 40)).cell? ⟨wr.heap.size, 0, none⟩ = some (.slice ua xl uc) := by simp [go_sem]
            replace hb5 := Lib.hid hb5
            replace hR := Lib.hid hR
            replace hb := Lib.hid hb
            replace hrs := Lib.hid hrs
            replace hXl := Lib.hid hXl
            go_wp2_with fail
            refine hcp.out.mono ?_
            rintro e w3 ⟨r, rfl, ho, hb6⟩
            obtain ⟨ra, rc, rfl, _⟩ := ho.sl
            have hb7 := Lib.hid (Below.next hb5.out hb6)
            have hB8 := Lib.hid (Below.next hb.out hb7.out)
            have hw3 : W0.heap.size ≤ w3.heap.size := hB8.out.size
            have ho2 := Lib.hid (ho.base (B' := wr.heap.size) hb5.out.size)
            have hRq := Lib.hid (hR.out.below hb7.out)
            have hul2 : us.length ≤ 1000000000 := by omega
            rw [strs_length, hXl.out] at ho2 ⊢
            clear ho hb6 c6 f6 c7 hc1
            go_wp2_with (at_builtin; refine append_one_at eltRow rfl _ _ rfl W0.heap.size _ _ rfl hRq.out.own rfl rfl hul2 hw3 ?_)
            intro v' w4 ho4 hg4 hat
            have hfR := SWR.snoc hR.out hb7.out hsW ho2.out (by rw [hXl.out]; exact hfl.out) ho4 hg4
            rw [hnxt] at hfR
            have hfB := Lib.hid (Below.thenGrown hB8.out hg4 hw3 (fun q hq => (hRq.out.own.lt q hq).1))
            replace hfR := Lib.hid hfR
            clear ho4 hg4 hat
            go_wp2
            go_roundw
            case rel => exact ⟨j + 1, _, by omega, by go_num, hfR.out, hfB.out⟩
            case measure => simp [intOf]; omega
          · obtain rfl : n = j := by omega
            rw [htk.out] at hR
            obtain ⟨b, c9, rfl⟩ := hR.nn
            rw [hus] at hR ⊢
            by_cases hp : 0 < n
            · obtain ⟨v1, v2, v3⟩ := hR.rv
              have hcmp := hcm.out wr wr b n c9 us hb hR (by trivial) (by trivial)
              have hso := Lib.hid (sortStableV_any wr b 0 c9 n w.heap.size us (cvV xs Fs) hpre.out hcmp hR.hd (by omega) hn64 (pv n) wr v1 (pv_length n) (Ex.refl _ _) (fun i hi => gi_pv hi))
              have hbB := (hR.own.lt b rfl).1
              replace hR := Lib.hid hR
              replace hb := Lib.hid hb
              clear v1 v2 v3 hcmp
              go_wp2_with fail
              refine hso.out.mono ?_
              rintro e w5 ⟨rfl, D, hR5, hx5, hm5, hs5⟩
              obtain ⟨F, f1, f2⟩ := hR.out.sorted hx5 hR5 hm5.perm
              rw [hst.out D hm5.perm hs5] at f1
              have hB9 := Lib.hid (Below.ex (hfin.out _ hb.out) hx5 (fun k hk => by simp at hk; have := hsz0.out; omega))
              replace f1 := Lib.hid f1
              have f3 := Lib.hid (Fr.le (A := w.heap.size) (by have := hsz0.out; omega) f2)
              clear hR5 hx5 hm5 hs5 f2 hso
              go_wp2
              go_ret2
              exact ⟨.slice (some ⟨b, 0, none⟩) n c9, F, by rw [hv.out]; rfl, by rw [hv.out]; exact f1.out, f3.out, hB9.out, hz.out⟩
            · obtain rfl : n = 0 := by omega
              obtain ⟨F, f1, f2⟩ := hR.made
              have hz0 := hzz.out rfl
              have hF0 : Fs = [] := List.eq_nil_of_length_eq_zero hn.out
              rw [hF0] at f1
              replace f1 := Lib.hid f1
              have f3 := Lib.hid (Fr.le (A := w.heap.size) (by have := hsz0.out; omega) f2)
              have hB9 := Lib.hid (hfin.out _ hb)
              replace hz0 := Lib.hid hz0
              clear hR hb f2 hF0
              go_wp2_with fail
              refine (sortStableV_zero _ c9 w.heap.size _).mono ?_
              rintro e w5 ⟨rfl, rfl⟩
              go_wp2
              go_ret2
              exact ⟨.slice (some ⟨b, 0, none⟩) 0 c9, F, by rw [hv.out]; rfl, by rw [hv.out]; dsimp only; rw [hz0.out]; exact f1.out, f3.out, hB9.out, hz.out⟩
    · have hni : (n : Int) > 64 := by omega
      have hv := Lib.hid (show RR = ([], false) by rw [hres.out]; simp [hn64])
      go_wp2
      go_ret2
      exact ⟨.slice none 0 0, [], by rw [hv.out]; rfl, by rw [hv.out]; exact ⟨[], Sl.nil _ _, InR.nil _ _ _, rfl⟩, fun b hb => by simp at hb, hfin.out _ hB1.out, hz.out⟩
end Go.Proofs.YtoeonplbgbgjmaaDoor
