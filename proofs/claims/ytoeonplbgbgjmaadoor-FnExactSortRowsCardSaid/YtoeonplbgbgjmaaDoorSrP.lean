/- SortRows, impl: the parts: copyOf at strings, all at rows, the comparison. -/
import Derived.Test.YtoeonplbgbgjmaaDoorRowO
import Derived.Test.YtoeonplbgbgjmaaDoorSvL
import Derived.Test.YtoeonplbgbgjmaaDoorSvZ
import Derived.Test.YtoeonplbgbgjmaaDoorCmpJ
namespace Go.Proofs.YtoeonplbgbgjmaaDoor
open Go.RowKit
set_option linter.unusedVariables false
set_option linter.unusedSimpArgs false

theorem okV_facts {xs : List KS} {Fs : List (List ByteArray)} (h : okV xs Fs = true) : okK xs = true ∧ Fs.length ≤ 64 ∧ Fs.all rowB = true ∧ ∀ i, rowB (gf Fs i) = true ∨ gf Fs i = [] := by
  simp only [okV, Bool.and_eq_true, decide_eq_true_eq] at h
  refine ⟨h.1.1, h.1.2, h.2, fun i => ?_⟩
  by_cases hi : i < Fs.length
  · rw [gf_eq hi]; exact .inl (List.all_eq_true.1 h.2 _ (List.getElem_mem hi))
  · exact .inr (by simp [gf, List.getElem?_eq_none (Nat.le_of_not_lt hi)])
theorem fld_le {Fs : List (List ByteArray)} (h : Fs.all rowB = true) (q i : Nat) (hi : i < (gf Fs q).length) : (gs (gf Fs q) i).size ≤ 40 := by
  by_cases hq : q < Fs.length
  · have hr : rowB (gf Fs q) = true := by rw [gf_eq hq]; exact List.all_eq_true.1 h _ (List.getElem_mem hq)
    exact (row_facts hr).2 i hi
  · have : gf Fs q = [] := by simp [gf, List.getElem?_eq_none (Nat.le_of_not_lt hq)]
    rw [this] at hi; simp at hi
theorem szSTo_bd (x : List ByteArray) (h : ∀ i, i < x.length → (gs x i).size ≤ 40) : ∀ k, k ≤ x.length → szSTo x k ≤ 40 * k := by
  intro k
  induction k with
  | zero => intro _; exact Nat.le_refl _
  | succ k ih =>
    intro hk
    have h1 := ih (by omega)
    have h2 := h k (by omega)
    rw [szSTo]; omega
theorem szToR_bd (x : List (List ByteArray)) (h : ∀ i, i < x.length → szRow (gf x i) ≤ 1000) : ∀ k, k ≤ x.length → szToR x k ≤ 1000 * k := by
  intro k
  induction k with
  | zero => intro _; exact Nat.le_refl _
  | succ k ih =>
    intro hk
    have h1 := ih (by omega)
    have h2 := h k (by omega)
    rw [szToR]; omega
theorem svR_sz (xs : List KS) (Fs : List (List ByteArray)) : szRowS (svR xs Fs).1 ≤ 100000000000 := by
  unfold svR
  split
  · rename_i h
    obtain ⟨_, h2, h3, _⟩ := okV_facts h
    have hl := stV_length xs Fs
    dsimp only
    have hall : (stV xs Fs).all rowB = true := by
      rw [List.all_eq_true] at h3 ⊢
      exact fun r hr => h3 r ((stV_perm xs Fs).mem_iff.1 hr)
    have hb := szToR_bd (stV xs Fs) (fun i hi => by
      have hr : rowB (gf (stV xs Fs) i) = true := by rw [gf_eq hi]; exact List.all_eq_true.1 hall _ (List.getElem_mem hi)
      obtain ⟨f1, f2⟩ := row_facts hr
      have := szSTo_bd _ f2 _ (Nat.le_refl _)
      unfold szRow szStringS
      omega) _ (Nat.le_refl _)
    unfold szRowS
    omega
  · simp [szRowS, szToR]

set_option maxHeartbeats 400000 in
theorem copyStr_any (v : Value) (xs : List ByteArray) (w : World) (hv : Sl w 9 v (strs xs)) (hl : xs.length ≤ 1000000000) :
    Calls Tryd.prog 77 #[v] w fun e w' => ∃ r, e = .returned r ∧ Own w' 9 w.heap.size r (strs xs) ∧ Below w.heap.size w w' := by
  have hr := Lib.hid (RdV.of_sl (hv.below (w' := w.alloc (.cells #[] 9)) ((Below.refl _ _).alloc (Nat.le_refl _) _) hv.lt))
  have ho := Lib.hid (Own.empty w 9)
  clear hv
  go_enter Tryd.func77, Tryd.ntmps77
  go_wp2_with (at_builtin; refine wpList_append_all eltStrO rfl _ _ rfl w.heap.size _ _ rfl ho.out _ _ rfl hr.out (strs_one _) (by simp; omega) (by simp) ?_)
  intro v' w1 ho1 hg
  have hb := Lib.hid (Below.appended ((Below.refl w.heap.size w).alloc (Nat.le_refl _) (.cells #[] 9)) ho.out hg (by simp))
  replace ho1 := Lib.hid ho1
  clear hg
  go_wp2
  go_ret
  exact ⟨_, rfl, by simpa using ho1.out, hb.out⟩

set_option maxHeartbeats 1000000 in
theorem allRowFn_any (u : Value) (x : List ByteArray) (F : List Nat) (bp : Nat) (w : World) (hu : RStringS w u x F) (hc : w.cell? ⟨bp, 0, none⟩ = some (.func (.func 55) #[] #[])) :
    Calls Tryd.prog 116 #[.agg #[u], .pointer (some ⟨bp, 0, none⟩)] w fun e w' => e = .returned (.bool (!rowB x)) ∧ Below w.heap.size w w' := by
  have hbel := (Below.refl w.heap.size w).alloc (Nat.le_refl _) (.cells #[u] 40)
  have hu2 := Lib.hid (hu.next hbel)
  have hc1 : (w.alloc (.cells #[u] 40)).cell? ⟨bp, 0, none⟩ = some (.func (.func 55) #[] #[]) := (hbel.cell (p := ⟨bp, 0, none⟩) (block_lt_of_cell hc)).trans hc
  have hc2 : (w.alloc (.cells #[u] 40)).cell? ⟨w.heap.size, 0, none⟩ = some u := by simp [go_sem]
  replace hbel := Lib.hid hbel
  obtain ⟨a, c, e⟩ := hu.rd.shape
  replace hu := Lib.hid hu
  subst e
  go_enter Tryd.func116, Tryd.ntmps116
  go_wp2_with fail
  refine (impl_IsValidRow_law ⟨_, rfl, hu2.out⟩).mono ?_
  rintro e w1 ⟨rfl, hb⟩
  have hB := Lib.hid (Below.next hbel.out hb)
  clear hb hc1 hc2
  go_wp2
  go_ret
  exact ⟨rfl, hB.out⟩

set_option maxHeartbeats 1000000 in
theorem indexRow_any (v : Value) (x : List (List ByteArray)) (F : List Nat) (bp : Nat) (w : World) (hv : RRowS w v x F) (hc : w.cell? ⟨bp, 0, none⟩ = some (.func (.func 55) #[] #[])) :
    Calls Tryd.prog 138 #[v, .func (.func 116) #[] #[.pointer (some ⟨bp, 0, none⟩)]] w fun e w' => e = .returned (.int .i64 (ixf (fun r => !rowB r) x)) ∧ Below w.heap.size w w' := by
  obtain ⟨us, h1, h2, rfl⟩ := hv
  obtain ⟨ao, c, rfl, _, h3, HA⟩ := h1.opened
  unfold maxLen at h3
  have hul := h2.len
  have hsl := h2.sl
  replace hsl := Lib.hid hsl
  replace HA := Lib.hid HA
  clear h1 h2
  generalize hn : us.length = n at *
  replace hn := Lib.hid hn
  replace hul := Lib.hid hul.symm
  replace hc := Lib.hid hc
  go_enter Tryd.func138, Tryd.ntmps138
  go_wp2
  go_loopw [8] (fun i wr => ∃ k : Nat, k ≤ n ∧ i = .int .i64 k ∧ Below w.heap.size w wr ∧ ∀ j, j < k → rowB (gf x j) = true) (fun i _ => n - (intOf i).toNat)
  case atStart => exact ⟨0, Nat.zero_le _, rfl, Below.refl _ _, fun j hj => absurd hj (by omega)⟩
  case round =>
    obtain ⟨k, hk, rfl, hb, hq⟩ := hrel
    replace hq := Lib.hid hq
    by_cases hlt : k < n
    · obtain ⟨b, off, rfl, hR⟩ := HA.out (by omega)
      have hR2 := hR.below hb hR.lt
      have hc1 : wr.cell? ⟨b, off + k, none⟩ = some (gv us k) := by rw [hR2.cell (by rw [hn.out]; omega), gv_eq (by rw [hn.out]; omega)]
      have hfn : wr.cell? ⟨bp, 0, none⟩ = some (.func (.func 55) #[] #[]) := (hb.cell (p := ⟨bp, 0, none⟩) (block_lt_of_cell hc.out)).trans hc.out
      have hsk := hsl.out k (by rw [hul.out]; exact hlt)
      clear hR hR2
      generalize hx : gf x k = X at *
      have hsk2 := Lib.hid (hsk.next hb)
      obtain ⟨ua, uc, e⟩ := hsk.rd.shape
      rw [e] at hc1 hsk2
      generalize X.length = xl at *
      clear hsk e
      replace hx := Lib.hid hx
      have hcl := Lib.hid (allRowFn_any _ _ _ _ _ hsk2.out hfn)
      replace hb := Lib.hid hb
      cases hbb : rowB X
      · rw [hbb] at hcl
        go_wp2_with fail
        refine hcl.out.mono ?_
        rintro e w1 ⟨rfl, hb1⟩
        have hB := Lib.hid (Below.next hb.out hb1)
        clear hb1 hc1 hfn
        go_wp2
        go_ret
        refine ⟨ret_int (ixf_some (by rw [hul.out]; omega) ?_ fun j hj => ?_).symm, hB.out⟩
        · rw [← gf_eq, hx.out, hbb]; rfl
        · have := hq.out j hj
          rw [← gf_eq, this]; rfl
      · rw [hbb] at hcl
        go_wp2_with fail
        refine hcl.out.mono ?_
        rintro e w1 ⟨rfl, hb1⟩
        have hB := Lib.hid (Below.next hb.out hb1)
        clear hb1 hc1 hfn
        go_wp2
        go_roundw
        case rel =>
          refine ⟨k + 1, by omega, by go_num, hB.out, fun j hj => ?_⟩
          by_cases hjk : j = k
          · subst hjk; rw [hx.out]; exact hbb
          · exact hq.out j (by omega)
        case measure => simp [intOf]; omega
    · obtain rfl : n = k := by omega
      replace hb := Lib.hid hb
      go_wp2
      go_ret
      refine ⟨ret_int (ixf_none fun j hj => ?_).symm, hb.out⟩
      have := hq.out j (by rw [hul.out] at hj; exact hj)
      rw [← gf_eq, this]; rfl

set_option maxHeartbeats 400000 in
theorem containsRow_any (v : Value) (x : List (List ByteArray)) (F : List Nat) (bp : Nat) (w : World) (hv : RRowS w v x F) (hc : w.cell? ⟨bp, 0, none⟩ = some (.func (.func 55) #[] #[])) :
    Calls Tryd.prog 115 #[v, .func (.func 116) #[] #[.pointer (some ⟨bp, 0, none⟩)]] w fun e w' => e = .returned (.bool (x.any fun r => !rowB r)) ∧ Below w.heap.size w w' := by
  rw [← ixf_nonneg]
  have hcl := Lib.hid (indexRow_any v x F bp w hv hc)
  clear hv hc
  go_enter Tryd.func115, Tryd.ntmps115
  go_wp2_with fail
  refine hcl.out.mono ?_
  rintro e w1 ⟨rfl, hb⟩
  replace hb := Lib.hid hb
  go_wp2
  go_ret
  exact ⟨rfl, hb.out⟩

set_option maxHeartbeats 400000 in
theorem allRow_any (v : Value) (x : List (List ByteArray)) (F : List Nat) (w : World) (hv : RRowS w v x F) :
    Calls Tryd.prog 76 #[v, .func (.func 55) #[] #[]] w fun e w' => e = .returned (.bool (x.all rowB)) ∧ Below w.heap.size w w' := by
  have hbel := (Below.refl w.heap.size w).alloc (Nat.le_refl _) (.cells #[.func (.func 55) #[] #[]] 74)
  have hcl := Lib.hid (containsRow_any v x F w.heap.size _ (hv.next hbel) (by simp [go_sem]))
  replace hbel := Lib.hid hbel
  clear hv
  go_enter Tryd.func76, Tryd.ntmps76
  go_wp2_with fail
  refine hcl.out.mono ?_
  rintro e w1 ⟨rfl, hb⟩
  have hB := Lib.hid (Below.next hbel.out hb)
  clear hb
  go_wp2
  go_ret
  exact ⟨ret_bool (any_not rowB x), hB.out⟩

set_option maxHeartbeats 2000000 in
theorem cmpFn_any (vs u v : Value) (xs : List KS) (a b : List ByteArray) (sp : Nat) (w : World) (hc : w.cell? ⟨sp, 0, none⟩ = some vs) (hs : RdK w vs xs) (hu : RdS w u a) (hv : RdS w v b) (hk : okK xs = true)
    (ha : ∀ i, i < a.length → (gs a i).size ≤ 40) (hb : ∀ i, i < b.length → (gs b i).size ≤ 40) (hT : TabS w) :
    Calls Tryd.prog 79 #[.agg #[u], .agg #[v], .pointer (some ⟨sp, 0, none⟩)] w fun e w' => e = .returned (.int .i64 (cmpRs a b xs)) ∧ Below w.heap.size w w' := by
  obtain ⟨W0, hWd⟩ : ∃ W0, W0 = (w.alloc (.cells #[u] 40)).alloc (.cells #[v] 40) := ⟨_, rfl⟩
  have hBW : Below w.heap.size w W0 := by rw [hWd]; exact ((Below.refl _ _).alloc (Nat.le_refl _) _).alloc (by simp) _
  have c4 : W0.cell? ⟨sp, 0, none⟩ = some vs := (hBW.cell (p := ⟨sp, 0, none⟩) (block_lt_of_cell hc)).trans hc
  have c5 : W0.cell? ⟨w.heap.size, 0, none⟩ = some u := by rw [hWd]; simp [go_sem]
  have c6 : W0.cell? ⟨w.heap.size + 1, 0, none⟩ = some v := by rw [hWd]; simp [go_sem]
  have hcl := Lib.hid (compareRows_any vs xs u v a b W0 (hs.below hBW) (hu.below hBW) (hv.below hBW) (fun i hi => okK_fld hk hi) ha hb (hT.next hBW))
  obtain ⟨x1, x2, x3⟩ : ∃ a m c, u = .slice a m c := by
    obtain ⟨q, r, e⟩ := hu.shape
    exact ⟨_, _, _, e⟩
  obtain ⟨x4, rfl⟩ := x3
  obtain ⟨y1, y2, y3⟩ : ∃ a m c, v = .slice a m c := by
    obtain ⟨q, r, e⟩ := hv.shape
    exact ⟨_, _, _, e⟩
  obtain ⟨y4, rfl⟩ := y3
  obtain ⟨ao, c, rfl, _⟩ := hs
  generalize xs.length = n at *
  clear hu hv hT hk ha hb hc
  rw [hWd] at c4 c5 c6
  replace hWd := Lib.hid hWd
  replace hBW := Lib.hid hBW
  go_enter Tryd.func79, Tryd.ntmps79
  go_wp2_with fail
  rw [← hWd.out]
  refine hcl.out.mono ?_
  rintro e w1 ⟨rfl, hb1⟩
  have hB := Lib.hid (Below.next hBW.out hb1)
  clear hb1 c4 c5 c6
  go_wp2
  go_ret
  exact ⟨rfl, hB.out⟩
end Go.Proofs.YtoeonplbgbgjmaaDoor
