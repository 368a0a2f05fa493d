/- Valid key specs: impl.areSpecs, spec.l2Specs. -/
import Derived.Test.YtoeonplbgbgjmaaDoorValid
import Derived.Test.YtoeonplbgbgjmaaDoorKs
namespace Go.Proofs.YtoeonplbgbgjmaaDoor
open Go.RowKit
set_option linter.unusedVariables false
set_option linter.unusedSimpArgs false

def fldB (k : KS) : Bool := inB k.1 0 5
/-- A key specification. -/
def okK (xs : List KS) : Bool := inB (xs.length : Int) 1 4 && xs.all fldB
theorem all_bad {xs : List KS} {k : Nat} (hk : k < xs.length) (h : fldB (gk xs k) = false) : xs.all fldB = false := by
  rw [gk_eq hk] at h
  rw [List.all_eq_false]
  exact ⟨_, List.getElem_mem hk, by simp [h]⟩
theorem all_good {xs : List KS} (h : ∀ j, j < xs.length → fldB (gk xs j) = true) : xs.all fldB = true := by
  rw [List.all_eq_true]
  intro x hx
  obtain ⟨j, hj, rfl⟩ := List.getElem_of_mem hx
  have := h j hj
  rwa [gk_eq hj] at this
theorem okK_len {xs : List KS} (h : okK xs = true) : 1 ≤ xs.length ∧ xs.length ≤ 4 := by
  unfold okK at h
  rw [Bool.and_eq_true] at h
  have := inB_iff.1 h.1
  omega
theorem okK_fld {xs : List KS} (h : okK xs = true) {i : Nat} (hi : i < xs.length) : 0 ≤ (gk xs i).1 ∧ (gk xs i).1 ≤ 5 := by
  unfold okK at h
  rw [Bool.and_eq_true, List.all_eq_true] at h
  have := h.2 _ (List.getElem_mem hi)
  rw [← gk_eq hi] at this
  exact inB_iff.1 this

set_option maxHeartbeats 400000 in
theorem specFn_any (a : Int) (p q r : Bool) (w : World) :
    Calls Tryd.prog 105 #[.agg #[.int .i64 a, .bool p, .bool q, .bool r]] w fun e w' => e = .returned (.bool (inB a 0 5)) ∧ Below w.heap.size w w' := by
  go_enter Tryd.func105, Tryd.ntmps105
  go_wp2_with fail
  refine (in_any _ _ _ _).mono ?_
  rintro e w1 ⟨rfl, rfl⟩
  go_wp2
  go_ret
  exact ⟨rfl, (Below.refl _ _).alloc (Nat.le_refl _) _⟩

set_option maxHeartbeats 400000 in
theorem allKsFn_any (a : Int) (p q r : Bool) (bp : Nat) (w : World) (hc : w.cell? ⟨bp, 0, none⟩ = some (.func (.func 105) #[] #[])) :
    Calls Tryd.prog 127 #[.agg #[.int .i64 a, .bool p, .bool q, .bool r], .pointer (some ⟨bp, 0, none⟩)] w fun e w' => e = .returned (.bool (!inB a 0 5)) ∧ Below w.heap.size w w' := by
  have hlt := block_lt_of_cell hc
  have hca : ∀ o, (w.alloc o).cell? ⟨bp, 0, none⟩ = some (.func (.func 105) #[] #[]) := fun o => (((Below.refl w.heap.size w).alloc (Nat.le_refl _) o).cell (p := ⟨bp, 0, none⟩) hlt).trans hc
  go_enter Tryd.func127, Tryd.ntmps127
  go_wp2_with fail
  refine (specFn_any _ _ _ _ _).mono ?_
  rintro e w1 ⟨rfl, hb⟩
  replace hb := Lib.hid hb
  go_wp2
  go_ret
  exact ⟨rfl, Below.next ((Below.refl w.heap.size w).alloc (Nat.le_refl _) _) hb.out⟩

set_option maxHeartbeats 1000000 in
theorem indexKs_any (v : Value) (xs : List KS) (bp : Nat) (w : World) (hv : RdK w v xs) (hc : w.cell? ⟨bp, 0, none⟩ = some (.func (.func 105) #[] #[])) :
    Calls Tryd.prog 147 #[v, .func (.func 127) #[] #[.pointer (some ⟨bp, 0, none⟩)]] w fun e w' => e = .returned (.int .i64 (ixf (fun x => !fldB x) xs)) ∧ Below w.heap.size w w' := by
  obtain ⟨ao, c, rfl, h1, h2, HA⟩ := hv
  unfold maxLen at h2
  have hlt0 := block_lt_of_cell hc
  generalize hn : xs.length = n at *
  replace HA := Lib.hid HA
  replace hn := Lib.hid hn
  replace hc := Lib.hid hc
  go_enter Tryd.func147, Tryd.ntmps147
  go_wp2
  go_loopw [8] (fun i wr => ∃ k : Nat, k ≤ n ∧ i = .int .i64 k ∧ Below w.heap.size w wr ∧ ∀ j, j < k → fldB (gk xs j) = true) (fun i _ => n - (intOf i).toNat)
  case atStart => exact ⟨0, Nat.zero_le _, rfl, Below.refl _ _, fun j hj => absurd hj (by omega)⟩
  case round =>
    obtain ⟨k, hk, rfl, hb, hq⟩ := hrel
    replace hq := Lib.hid hq
    by_cases hlt : k < n
    · obtain ⟨b, off, rfl, hR⟩ := HA.out (by omega)
      obtain ⟨hc1, hc2, hc3, hc4⟩ := (hR k hlt).below hb
      have hcf := Lib.hid ((hb.cell (p := ⟨bp, 0, none⟩) hlt0).trans hc.out)
      clear hR
      generalize hx : gk xs k = x at *
      obtain ⟨x1, x2, x3, x4⟩ := x
      dsimp only at hc1 hc2 hc3 hc4
      replace hx := Lib.hid hx
      replace hb := Lib.hid hb
      have hfe : Hid (fldB (x1, x2, x3, x4) = inB x1 0 5) := Lib.hid rfl
      cases hr : inB x1 0 5
      · replace hr := Lib.hid hr
        go_wp2_with fail
        refine (allKsFn_any _ _ _ _ _ _ hcf.out).mono ?_
        rintro e w2 ⟨rfl, b2⟩
        replace hb := Lib.hid (Below.next hb.out b2)
        clear b2
        rw [hr.out]
        go_wp2
        go_ret
        refine ⟨ret_int (ixf_some (by rw [hn.out]; omega) ?_ fun j hj => ?_).symm, hb.out⟩
        · rw [← gk_eq, hx.out, hfe.out, hr.out]; rfl
        · have := hq.out j hj
          rw [← gk_eq, this]; rfl
      · replace hr := Lib.hid hr
        go_wp2_with fail
        refine (allKsFn_any _ _ _ _ _ _ hcf.out).mono ?_
        rintro e w2 ⟨rfl, b2⟩
        replace hb := Lib.hid (Below.next hb.out b2)
        clear b2
        rw [hr.out]
        go_wp2
        go_roundw
        case rel =>
          refine ⟨k + 1, by omega, by go_num, hb.out, fun j hj => ?_⟩
          by_cases hjk : j = k
          · subst hjk; rw [hx.out, hfe.out]; exact hr.out
          · exact hq.out j (by omega)
        case measure => simp [intOf]; omega
    · obtain rfl : k = n := by omega
      replace hb := Lib.hid hb
      go_wp2
      go_ret
      refine ⟨ret_int (ixf_none fun j hj => ?_).symm, hb.out⟩
      have := hq.out j (by rw [← hn.out]; exact hj)
      rw [← gk_eq, this]; rfl

set_option maxHeartbeats 400000 in
theorem containsKs_any (v : Value) (xs : List KS) (bp : Nat) (w : World) (hv : RdK w v xs) (hc : w.cell? ⟨bp, 0, none⟩ = some (.func (.func 105) #[] #[])) :
    Calls Tryd.prog 126 #[v, .func (.func 127) #[] #[.pointer (some ⟨bp, 0, none⟩)]] w fun e w' => e = .returned (.bool (xs.any fun x => !fldB x)) ∧ Below w.heap.size w w' := by
  rw [← ixf_nonneg]
  replace hv := Lib.hid hv
  replace hc := Lib.hid hc
  go_enter Tryd.func126, Tryd.ntmps126
  go_wp2_with fail
  refine (indexKs_any _ _ _ _ hv.out hc.out).mono ?_
  rintro e w1 ⟨rfl, hb⟩
  replace hb := Lib.hid hb
  go_wp2
  go_ret
  exact ⟨rfl, hb.out⟩

set_option maxHeartbeats 400000 in
theorem allKs_any (v : Value) (xs : List KS) (w : World) (hv : RdK w v xs) :
    Calls Tryd.prog 104 #[v, .func (.func 105) #[] #[]] w fun e w' => e = .returned (.bool (xs.all fldB)) ∧ Below w.heap.size w w' := by
  have hb : Below w.heap.size w (w.alloc (.cells #[.func (.func 105) #[] #[]] 120)) := (Below.refl _ _).alloc (Nat.le_refl _) _
  have hv2 := Lib.hid (hv.below hb)
  clear hv
  replace hb := Lib.hid hb
  go_enter Tryd.func104, Tryd.ntmps104
  go_wp2_with fail
  refine (containsKs_any _ _ _ _ hv2.out (by simp [go_sem])).mono ?_
  rintro e w' ⟨rfl, hb2⟩
  have hb3 := Lib.hid (Below.next hb.out hb2)
  clear hb2
  go_wp2
  go_ret
  exact ⟨ret_bool (any_not _ xs), hb3.out⟩

set_option maxHeartbeats 400000 in
theorem areSpecs_any (v : Value) (xs : List KS) (w : World) (hv : RdK w v xs) :
    Calls Tryd.prog 63 #[v] w fun e w' => e = .returned (.bool (okK xs)) ∧ Below w.heap.size w w' := by
  have hv2 := Lib.hid hv
  obtain ⟨ao, c, rfl, h1, h2, _⟩ := hv
  unfold maxLen at h2
  unfold okK
  cases hi : inB (xs.length : Int) 1 4
  · rw [Bool.false_and]
    replace hi := Lib.hid hi
    generalize hn : xs.length = n at *
    replace hn := Lib.hid hn
    go_enter Tryd.func63, Tryd.ntmps63
    go_wp2_with fail
    refine (in_any _ _ _ _).mono ?_
    rintro e w1 ⟨rfl, rfl⟩
    rw [hi.out]
    go_wp2
    go_ret
    exact ⟨rfl, Below.refl _ _⟩
  · rw [Bool.true_and]
    replace hi := Lib.hid hi
    generalize hn : xs.length = n at *
    replace hn := Lib.hid hn
    have hal := Lib.hid (allKs_any _ xs w hv2.out)
    go_enter Tryd.func63, Tryd.ntmps63
    go_wp2_with fail
    refine (in_any _ _ _ _).mono ?_
    rintro e w1 ⟨rfl, rfl⟩
    rw [hi.out]
    go_wp2_with fail
    refine hal.out.mono ?_
    rintro e w1 ⟨rfl, hb⟩
    replace hb := Lib.hid hb
    go_wp2
    go_ret
    exact ⟨rfl, hb.out⟩

set_option maxHeartbeats 1000000 in
theorem l2Specs_any (v : Value) (xs : List KS) (w : World) (hv : RdK w v xs) :
    Calls Tryd.prog 60 #[v] w fun e w' => e = .returned (.bool (okK xs)) ∧ w = w' := by
  have hno := Lib.hid (fun (k : Nat) (hk : k < xs.length) (h : fldB (gk xs k) = false) => show okK xs = false by unfold okK; rw [all_bad hk h, Bool.and_false])
  have hyes := Lib.hid (fun (h : ∀ j, j < xs.length → fldB (gk xs j) = true) => show okK xs = inB (xs.length : Int) 1 4 by unfold okK; rw [all_good h, Bool.and_true])
  obtain ⟨ao, c, rfl, h1, h2, HA⟩ := hv
  unfold maxLen at h2
  generalize hR : okK xs = R at *
  generalize hn : xs.length = n at *
  replace HA := Lib.hid HA
  replace hn := Lib.hid hn
  replace hR := Lib.hid hR
  go_enter Tryd.func60, Tryd.ntmps60
  go_wp2
  go_loop [3] (fun i => ∃ k : Nat, k ≤ n ∧ i = .int .i64 k ∧ ∀ j, j < k → fldB (gk xs j) = true) (fun i => n - (intOf i).toNat)
  case atStart => exact ⟨0, Nat.zero_le _, rfl, fun j hj => absurd hj (by omega)⟩
  case round =>
    obtain ⟨k, hk, rfl, hq⟩ := hrel
    replace hq := Lib.hid hq
    by_cases hlt : k < n
    · obtain ⟨b, off, rfl, hRd⟩ := HA.out (by omega)
      obtain ⟨hc1, _, _, _⟩ := hRd k hlt
      clear hRd
      have hfe : Hid (fldB (gk xs k) = inB (gk xs k).1 0 5) := Lib.hid rfl
      generalize hX : (gk xs k).1 = X at *
      replace hX := Lib.hid hX
      cases hr : inB X 0 5
      · have hf := Lib.hid (hno.out k hlt (by rw [hfe.out, hr]))
        replace hr := Lib.hid hr
        go_wp2_with fail
        refine (l1In_any _ _ _ _).mono ?_
        rintro e w' ⟨rfl, rfl⟩
        rw [hr.out]
        go_wp2
        go_ret
        exact ⟨by rw [hf.out]; rfl, rfl⟩
      · replace hr := Lib.hid hr
        go_wp2_with fail
        refine (l1In_any _ _ _ _).mono ?_
        rintro e w' ⟨rfl, rfl⟩
        rw [hr.out]
        go_wp2
        go_round
        case rel =>
          refine ⟨k + 1, by omega, by go_num, fun j hj => ?_⟩
          by_cases hjk : j = k
          · subst hjk; rw [hfe.out]; exact hr.out
          · exact hq.out j (by omega)
        case measure => simp [intOf]; omega
    · obtain rfl : k = n := by omega
      have hf := Lib.hid (hyes.out hq.out)
      go_wp2_with fail
      refine (l1In_any _ _ _ _).mono ?_
      rintro e w' ⟨rfl, rfl⟩
      go_wp2
      go_ret
      exact ⟨by rw [hf.out]; rfl, rfl⟩
end Go.Proofs.YtoeonplbgbgjmaaDoor
