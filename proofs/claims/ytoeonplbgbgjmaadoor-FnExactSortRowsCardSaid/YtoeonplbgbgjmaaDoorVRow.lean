/- IsValidRow. -/
import Derived.Test.YtoeonplbgbgjmaaDoorRow
import Derived.Test.YtoeonplbgbgjmaaDoorValid
namespace Go.Proofs.YtoeonplbgbgjmaaDoor
open Go.RowKit
set_option linter.unusedVariables false
set_option linter.unusedSimpArgs false

def prB (c : UInt8) : Bool := decide (32 ≤ (c.toNat : Int)) && decide ((c.toNat : Int) ≤ 126)
def printB (s : ByteArray) : Bool := s.data.toList.all prB
def fieldB (s : ByteArray) : Bool := decide (s.size ≤ 40) && printB s
/-- A valid row. -/
def rowB (x : List ByteArray) : Bool := inB x.length 1 6 && x.all fieldB
theorem printB_true {s : ByteArray} (h : ∀ k, (hk : k < s.size) → prB s[k] = true) : printB s = true := by
  unfold printB
  rw [List.all_eq_true]
  intro c hc
  obtain ⟨k, hk, rfl⟩ := List.getElem_of_mem hc
  exact h k (by simpa using hk)
theorem printB_false {s : ByteArray} {k : Nat} (hk : k < s.size) (h : prB s[k] = false) : printB s = false := by
  unfold printB
  rw [List.all_eq_false]
  refine ⟨s[k], ?_, by simp [h]⟩
  show s.data[k] ∈ s.data.toList
  simp
set_option maxHeartbeats 400000 in
theorem isPrintable_any (s : ByteArray) (w : World) (hs : s.size ≤ maxLen) :
    Calls Tryd.prog 102 #[.string s] w fun e w' => e = .returned (.bool (printB s)) ∧ w = w' := by
  unfold maxLen at hs
  go_enter Tryd.func102, Tryd.ntmps102
  go_wp2
  go_loop [6] (fun i => ∃ k : Nat, k ≤ s.size ∧ i = .int .i64 k ∧ ∀ j, (hj : j < s.size) → j < k → prB s[j] = true) (fun i => s.size - (intOf i).toNat)
  case atStart => exact ⟨0, Nat.zero_le _, rfl, fun j _ hj => absurd hj (by omega)⟩
  case round =>
    obtain ⟨k, hk, rfl, hq⟩ := hrel
    replace hq := Lib.hid hq
    by_cases hlt : k < s.size
    · have hc : (s[k].toNat : Int) < 256 := by have := s[k].toNat_lt; omega
      have hp : prB s[k] = (decide (32 ≤ (s[k].toNat : Int)) && decide ((s[k].toNat : Int) ≤ 126)) := rfl
      by_cases h1 : (s[k].toNat : Int) < 32
      · have hf : Hid (prB s[k] = false) := Lib.hid (by rw [hp]; simp; omega)
        clear hp
        go_wp2
        go_ret
        exact ⟨ret_bool (printB_false hlt hf.out).symm, rfl⟩
      · by_cases h2 : (s[k].toNat : Int) > 126
        · have hf : Hid (prB s[k] = false) := Lib.hid (by rw [hp]; simp; omega)
          clear hp
          go_wp2
          go_ret
          exact ⟨ret_bool (printB_false hlt hf.out).symm, rfl⟩
        · have hf : Hid (prB s[k] = true) := Lib.hid (by rw [hp]; simp; omega)
          clear hp
          go_wp2
          go_round
          case rel =>
            refine ⟨k + 1, by omega, by go_num, fun j hj hjk => ?_⟩
            by_cases e : j = k
            · subst e; exact hf.out
            · exact hq.out j hj (by omega)
          case measure => simp [intOf]; omega
    · have hall : Hid (printB s = true) := Lib.hid (printB_true fun j hj => hq.out j hj (by omega))
      go_wp2
      go_ret
      exact ⟨ret_bool hall.out.symm, rfl⟩
set_option maxHeartbeats 400000 in
theorem fieldFn_any (s : ByteArray) (w : World) (hs : s.size ≤ maxLen) :
    Calls Tryd.prog 101 #[.string s] w fun e w' => e = .returned (.bool (fieldB s)) ∧ w = w' := by
  have hs' := hs
  unfold maxLen at hs'
  by_cases h : s.size ≤ 40
  · have hd : decide ((s.size : Int) ≤ 40) = true := by simp; omega
    have hr : fieldB s = printB s := by simp [fieldB, h]
    rw [hr]
    clear hr
    go_enter Tryd.func101, Tryd.ntmps101
    go_wp2_with (go_at_call 102; refine (isPrintable_any _ _ hs).mono ?_; rintro e w' ⟨rfl, rfl⟩)
    go_ret
    exact ⟨rfl, rfl⟩
  · have hd : decide ((s.size : Int) ≤ 40) = false := by simp; omega
    have hr : fieldB s = false := by simp [fieldB, h]
    rw [hr]
    clear hr
    go_enter Tryd.func101, Tryd.ntmps101
    go_wp2
    go_ret
    exact ⟨rfl, rfl⟩
set_option maxHeartbeats 400000 in
theorem allFldFn_any (x : ByteArray) (bp : Nat) (w : World) (hs : x.size ≤ maxLen) (hc : w.cell? ⟨bp, 0, none⟩ = some (.func (.func 101) #[] #[])) :
    Calls Tryd.prog 125 #[.string x, .pointer (some ⟨bp, 0, none⟩)] w fun e w' => e = .returned (.bool (!fieldB x)) ∧ w = w' := by
  go_enter Tryd.func125, Tryd.ntmps125
  go_wp2_with (go_at_call 101; refine (fieldFn_any _ _ hs).mono ?_; rintro e w' ⟨rfl, rfl⟩)
  go_ret
  exact ⟨rfl, rfl⟩

set_option maxHeartbeats 400000 in
theorem indexFld_any (v : Value) (xs : List ByteArray) (bp : Nat) (w : World) (hv : RdS w v xs) (hc : w.cell? ⟨bp, 0, none⟩ = some (.func (.func 101) #[] #[])) :
    Calls Tryd.prog 146 #[v, .func (.func 125) #[] #[.pointer (some ⟨bp, 0, none⟩)]] w fun e w' => e = .returned (.int .i64 (ixf (fun x => !fieldB x) xs)) ∧ w = w' := by
  obtain ⟨ao, c, rfl, h1, h2, hsz, HA⟩ := hv
  replace hsz := Lib.hid hsz
  unfold maxLen at h2
  generalize hn : xs.length = n at *
  replace HA := Lib.hid HA
  replace hn := Lib.hid hn
  go_enter Tryd.func146, Tryd.ntmps146
  go_wp2
  go_loop [8] (fun i => ∃ k : Nat, k ≤ n ∧ i = .int .i64 k ∧ ∀ j, j < k → fieldB (gs xs j) = true) (fun i => n - (intOf i).toNat)
  case atStart => exact ⟨0, Nat.zero_le _, rfl, fun j hj => absurd hj (by omega)⟩
  case round =>
    obtain ⟨k, hk, rfl, hq⟩ := hrel
    replace hq := Lib.hid hq
    by_cases hlt : k < n
    · obtain ⟨b, off, rfl, hR⟩ := HA.out (by omega)
      have hc1 := hR k hlt
      have hsk := hsz.out k hlt
      clear hR
      generalize hx : gs xs k = x at *
      replace hx := Lib.hid hx
      replace hsk := Lib.hid hsk
      by_cases hb : fieldB x = true
      · go_wp2_with (go_at_call 125; refine (allFldFn_any _ _ _ hsk.out hc).mono ?_; rintro e w' ⟨rfl, rfl⟩)
        go_round
        case rel =>
          refine ⟨k + 1, by omega, by go_num, fun j hj => ?_⟩
          by_cases hjk : j = k
          · subst hjk; rw [hx.out]; exact hb
          · exact hq.out j (by omega)
        case measure => simp [intOf]; omega
      · replace hb : fieldB x = false := by simpa using hb
        go_wp2_with (go_at_call 125; refine (allFldFn_any _ _ _ hsk.out hc).mono ?_; rintro e w' ⟨rfl, rfl⟩)
        go_ret
        refine ⟨ret_int (ixf_some (by rw [hn.out]; omega) ?_ fun j hj => ?_).symm, rfl⟩
        · rw [← gs_eq, hx.out, hb]; rfl
        · have := hq.out j hj
          rw [← gs_eq, this]; rfl
    · obtain rfl : k = n := by omega
      go_wp2
      go_ret
      refine ⟨ret_int (ixf_none fun j hj => ?_).symm, rfl⟩
      have := hq.out j (by rw [← hn.out]; exact hj)
      rw [← gs_eq, this]; rfl

set_option maxHeartbeats 400000 in
theorem containsFld_any (v : Value) (xs : List ByteArray) (bp : Nat) (w : World) (hv : RdS w v xs) (hc : w.cell? ⟨bp, 0, none⟩ = some (.func (.func 101) #[] #[])) :
    Calls Tryd.prog 124 #[v, .func (.func 125) #[] #[.pointer (some ⟨bp, 0, none⟩)]] w fun e w' => e = .returned (.bool (xs.any fun x => !fieldB x)) ∧ w = w' := by
  rw [← ixf_nonneg]
  go_enter Tryd.func124, Tryd.ntmps124
  go_wp2_with (go_at_call 146; refine (indexFld_any _ _ _ _ hv hc).mono ?_; rintro e w' ⟨rfl, rfl⟩)
  go_ret
  exact ⟨rfl, rfl⟩

set_option maxHeartbeats 400000 in
theorem allFld_any (v : Value) (xs : List ByteArray) (w : World) (hv : RdS w v xs) :
    Calls Tryd.prog 100 #[v, .func (.func 101) #[] #[]] w fun e w' => e = .returned (.bool (xs.all fieldB)) ∧ Below w.heap.size w w' := by
  have hv2 := hv.below (w' := w.alloc (.cells #[.func (.func 101) #[] #[]] 33)) ((Below.refl _ _).alloc (Nat.le_refl _) _)
  replace hv := Lib.hid hv
  replace hv2 := Lib.hid hv2
  go_enter Tryd.func100, Tryd.ntmps100
  go_wp2_with fail
  refine (containsFld_any _ _ _ _ hv2.out (by simp [go_sem])).mono ?_
  rintro e w' ⟨rfl, rfl⟩
  go_wp2
  go_ret
  exact ⟨ret_bool (any_not fieldB xs), (Below.refl _ _).alloc (Nat.le_refl _) _⟩


set_option maxHeartbeats 1000000 in
theorem impl_IsValidRow_law {v : Value} {x : List ByteArray} {F : List Nat} {w : World} (r : RRow w v x F) :
    Calls Tryd.prog 55 #[v] w fun e w' => e = .returned (.bool (rowB x)) ∧ Below w.heap.size w w' := by
  obtain ⟨u, rfl, r⟩ := r
  have hv := r.rd
  clear r
  have hv0 := hv
  obtain ⟨ao, c, rfl, h1, h2, _, _⟩ := hv0
  unfold maxLen at h2
  have hb0 := Lib.hid ((Below.refl w.heap.size w).alloc (Nat.le_refl _) (.cells #[.slice ao x.length c] 40))
  have hr0 := Row.one1 w 40 (.slice ao x.length c)
  replace hr0 := Lib.hid hr0
  replace hv := Lib.hid hv
  have hrow := Lib.hid (show rowB x = (inB x.length 1 6 && x.all fieldB) from rfl)
  cases ha : x.all fieldB
  · have e0 : rowB x = false := by rw [hrow.out, ha]; simp
    rw [e0]
    clear e0
    go_enter Tryd.func55, Tryd.ntmps55
    go_wp2_with fail
    refine (allFld_any _ _ _ (hv.out.below hb0.out)).mono ?_
    rintro e w1 ⟨rfl, hb⟩
    rw [ha]
    have hc := (hr0.out.below hb hr0.out.lt).cell1
    replace hb0 := Lib.hid (Below.next hb0.out hb)
    clear hb
    go_wp2_with (go_at_call 88; refine (in_any _ _ _ _).mono ?_; rintro e w' ⟨rfl, rfl⟩)
    all_goals (try go_ret)
    all_goals exact ⟨ret_bool (by simp), hb0.out⟩
  · have e0 : rowB x = inB x.length 1 6 := by rw [hrow.out, ha]; simp
    rw [e0]
    clear e0
    cases hi : inB (x.length : Int) 1 6
    · replace hi := Lib.hid hi
      go_enter Tryd.func55, Tryd.ntmps55
      go_wp2_with fail
      refine (allFld_any _ _ _ (hv.out.below hb0.out)).mono ?_
      rintro e w1 ⟨rfl, hb⟩
      rw [ha]
      have hc := (hr0.out.below hb hr0.out.lt).cell1
      replace hb0 := Lib.hid (Below.next hb0.out hb)
      clear hb
      go_wp2_with fail
      refine (in_any _ _ _ _).mono ?_
      rintro e w' ⟨rfl, rfl⟩
      rw [hi.out]
      go_wp2
      go_ret
      exact ⟨rfl, hb0.out⟩
    · replace hi := Lib.hid hi
      go_enter Tryd.func55, Tryd.ntmps55
      go_wp2_with fail
      refine (allFld_any _ _ _ (hv.out.below hb0.out)).mono ?_
      rintro e w1 ⟨rfl, hb⟩
      rw [ha]
      have hc := (hr0.out.below hb hr0.out.lt).cell1
      replace hb0 := Lib.hid (Below.next hb0.out hb)
      clear hb
      go_wp2_with fail
      refine (in_any _ _ _ _).mono ?_
      rintro e w' ⟨rfl, rfl⟩
      rw [hi.out]
      go_wp2
      go_ret
      exact ⟨rfl, hb0.out⟩

theorem rowB_false {x : List ByteArray} {k : Nat} (hk : k < x.length) (h : fieldB (gs x k) = false) : rowB x = false := by
  unfold rowB
  have : x.all fieldB = false := by
    rw [List.all_eq_false]
    exact ⟨_, List.getElem_mem hk, by rw [← gs_eq hk, h]; simp⟩
  simp [this]
theorem rowB_true {x : List ByteArray} (hi : inB x.length 1 6 = true) (h : ∀ k, k < x.length → fieldB (gs x k) = true) : rowB x = true := by
  unfold rowB
  have : x.all fieldB = true := by
    rw [List.all_eq_true]
    intro s hs
    obtain ⟨k, hk, rfl⟩ := List.getElem_of_mem hs
    rw [← gs_eq hk]; exact h k hk
  simp [this, hi]
set_option maxHeartbeats 2000000 in
theorem l2Row_any (u : Value) (x : List ByteArray) (w : World) (hv : RdS w u x) :
    Calls Tryd.prog 71 #[.agg #[u]] w fun e w' => e = .returned (.bool (rowB x)) ∧ Below w.heap.size w w' := by
  have hv0 := hv
  obtain ⟨ao, c, rfl, h1, h2, _, _⟩ := hv0
  unfold maxLen at h2
  have hb0 := Lib.hid ((Below.refl w.heap.size w).alloc (Nat.le_refl _) (.cells #[.slice ao x.length c] 40))
  have hv1 := hv.below hb0.out
  obtain ⟨ao', c', he, _, _, hsz, HA⟩ := hv1
  simp only [Value.slice.injEq] at he
  obtain ⟨rfl, he2, rfl⟩ := he
  clear he2 hv
  cases hi : inB (x.length : Int) 1 6
  · have e0 : rowB x = false := by simp [rowB, hi]
    rw [e0]
    clear e0 HA hsz
    replace hi := Lib.hid hi
    go_enter Tryd.func71, Tryd.ntmps71
    go_wp2_with fail
    refine (l1In_any _ _ _ _).mono ?_
    rintro e w' ⟨rfl, rfl⟩
    rw [hi.out]
    go_wp2
    go_ret
    exact ⟨rfl, hb0.out⟩
  · replace hi := Lib.hid hi
    generalize hn : x.length = n at *
    replace hn := Lib.hid hn
    replace HA := Lib.hid HA
    replace hsz := Lib.hid hsz
    have hbad := Lib.hid (fun k (hk : k < n) (h : fieldB (gs x k) = false) => rowB_false (x := x) (by rw [hn.out]; exact hk) h)
    have hgood := Lib.hid (fun (h : ∀ k, k < n → fieldB (gs x k) = true) => rowB_true (x := x) (by rw [hn.out]; exact hi.out) (by rw [hn.out]; exact h))
    generalize hRB : rowB x = RB at *
    replace hRB := Lib.hid hRB
    go_enter Tryd.func71, Tryd.ntmps71
    go_wp2_with fail
    refine (l1In_any _ _ _ _).mono ?_
    rintro e w' ⟨rfl, rfl⟩
    rw [hi.out]
    go_wp2
    go_loop [3] (fun i => ∃ k : Nat, k ≤ n ∧ i = .int .i64 k ∧ Hid (∀ j, j < k → fieldB (gs x j) = true)) (fun i => n - (intOf i).toNat)
    case atStart => exact ⟨0, Nat.zero_le _, rfl, Lib.hid fun j hj => absurd hj (by omega)⟩
    case round =>
      obtain ⟨k, hk, rfl, hq⟩ := hrel
      by_cases hlt : k < n
      · obtain ⟨b, off, rfl, hR⟩ := HA.out (by omega)
        have hc1 := hR k hlt
        have hs := hsz.out k hlt
        unfold maxLen at hs
        clear hR
        have hbk := Lib.hid (hbad.out k hlt)
        generalize hx : gs x k = s at *
        replace hx := Lib.hid hx
        have hfb := Lib.hid (show fieldB s = (decide (s.size ≤ 40) && printB s) from rfl)
        by_cases h40 : s.size ≤ 40
        · have hd : ¬ (40 : Int) < (s.size : Int) := by omega
          go_wp2
          go_loop [4] (fun i => ∃ m : Nat, m ≤ s.size ∧ i = .int .i64 m ∧ Hid (∀ j, (hj : j < s.size) → j < m → prB s[j] = true)) (fun i => s.size - (intOf i).toNat)
          case atStart => exact ⟨0, Nat.zero_le _, rfl, Lib.hid fun j _ hj => absurd hj (by omega)⟩
          case round =>
            obtain ⟨m, hm, rfl, hp⟩ := hrel
            by_cases hlt2 : m < s.size
            · have hcc : (s[m].toNat : Int) < 256 := by have := s[m].toNat_lt; omega
              have hpp : prB s[m] = inB (s[m].toNat : Int) 32 126 := rfl
              cases hin : inB (s[m].toNat : Int) 32 126
              · have hf : Hid (rowB x = false) := Lib.hid (by rw [hRB.out]; exact hbk.out (by rw [hfb.out, printB_false hlt2 (by rw [hpp, hin])]; simp))
                replace hin := Lib.hid hin
                clear hpp
                go_wp2_with fail
                refine (l1In_any _ _ _ _).mono ?_
                rintro e w' ⟨rfl, rfl⟩
                rw [hin.out]
                go_wp2
                go_ret
                exact ⟨ret_bool (by rw [← hRB.out, hf.out]), hb0.out⟩
              · have hf : Hid (prB s[m] = true) := Lib.hid (by rw [hpp, hin])
                replace hin := Lib.hid hin
                clear hpp
                go_wp2_with fail
                refine (l1In_any _ _ _ _).mono ?_
                rintro e w' ⟨rfl, rfl⟩
                rw [hin.out]
                go_wp2
                go_round
                case rel =>
                  refine ⟨m + 1, by omega, by go_num, Lib.hid fun j hj hjm => ?_⟩
                  by_cases e : j = m
                  · subst e; exact hf.out
                  · exact hp.out j hj (by omega)
                case measure => simp [intOf]; omega
            · have hf : Hid (fieldB s = true) := Lib.hid (by rw [hfb.out, printB_true fun j hj => hp.out j hj (by omega)]; simp [h40])
              go_wp2
              go_round
              case rel =>
                refine ⟨k + 1, by omega, by go_num, Lib.hid fun j hj => ?_⟩
                by_cases e : j = k
                · subst e; rw [hx.out]; exact hf.out
                · exact hq.out j (by omega)
              case measure => simp [intOf]; omega
        · have hd : (40 : Int) < (s.size : Int) := by omega
          have hf : Hid (rowB x = false) := Lib.hid (by rw [hRB.out]; exact hbk.out (by rw [hfb.out]; simp [h40]))
          go_wp2
          go_ret
          exact ⟨ret_bool (by rw [← hRB.out, hf.out]), hb0.out⟩
      · have hf : Hid (rowB x = true) := Lib.hid (by rw [hRB.out]; exact hgood.out fun j hj => hq.out j (by omega))
        obtain rfl : k = n := by omega
        go_wp2
        go_ret
        exact ⟨ret_bool (by rw [← hRB.out, hf.out]), hb0.out⟩
set_option maxHeartbeats 1000000 in
theorem spec_IsValidRow_law {v : Value} {x : List ByteArray} {F : List Nat} {w : World} (r : RRow w v x F) :
    Calls Tryd.prog 56 #[v] w fun e w' => e = .returned (.bool (rowB x)) ∧ Below w.heap.size w w' := by
  obtain ⟨u, rfl, r⟩ := r
  have hv := r.rd
  clear r
  have hv0 := hv
  obtain ⟨ao, c, rfl, _⟩ := hv0
  have hb0 := Lib.hid ((Below.refl w.heap.size w).alloc (Nat.le_refl _) (.cells #[.slice ao x.length c] 40))
  replace hv := Lib.hid hv
  go_enter Tryd.func56, Tryd.ntmps56
  go_wp2_with fail
  refine (l2Row_any _ _ _ (hv.out.below hb0.out)).mono ?_
  rintro e w1 ⟨rfl, hb⟩
  replace hb0 := Lib.hid (Below.next hb0.out hb)
  clear hb
  go_wp2
  go_ret
  exact ⟨rfl, hb0.out⟩
end Go.Proofs.YtoeonplbgbgjmaaDoor
