/- laws.FnSplitJoin: the walk. -/
import Derived.Test.YtoeonplbgbgjmaaDoorVLaw
import Derived.Test.YtoeonplbgbgjmaaDoorDrawT
import Derived.Test.YtoeonplbgbgjmaaDoorSpJM
import Derived.Test.YtoeonplbgbgjmaaDoorLess
namespace Go.Proofs.YtoeonplbgbgjmaaDoor
open Go.RowKit
set_option linter.unusedVariables false
set_option linter.unusedSimpArgs false

theorem spl_sz (c : UInt8) : ∀ (l acc : List UInt8), (spl c acc l).length + ((spl c acc l).map (·.length)).sum = acc.length + l.length + 1 := by
  intro l
  induction l with
  | nil => intro acc; simp [spl]; omega
  | cons b r ih =>
    intro acc
    rw [spl]
    by_cases e : b = c
    · have := ih []
      rw [if_pos e]
      simp at this ⊢; omega
    · have := ih (acc ++ [b])
      rw [if_neg e]
      simp at this ⊢; omega
theorem szSTo_sum : ∀ (L : List ByteArray) (k : Nat), k ≤ L.length → szSTo L k = ((L.take k).map (·.size)).sum := by
  intro L k
  induction k with
  | zero => intro _; simp [szSTo]
  | succ k ih =>
    intro hk
    rw [szSTo, ih (by omega), List.take_succ_eq_append_getElem (by omega), gs_eq (by omega), List.map_append, List.sum_append]
    simp
theorem parts_sz (c : UInt8) (s : ByteArray) : szStringS (parts c s) ≤ s.size + 1 := by
  have h := spl_sz c s.data.toList []
  unfold szStringS
  rw [szSTo_sum _ _ (Nat.le_refl _), List.take_length]
  have e1 : (parts c s).length = (spl c [] s.data.toList).length := by simp [parts]
  have e2 : (parts c s).map (·.size) = (spl c [] s.data.toList).map (·.length) := by
    unfold parts
    rw [List.map_map]
    apply List.map_congr_left
    intro x _
    simp [strB_size]
  rw [e1, e2, h, size_toList]
  simp
set_option maxRecDepth 10000 in
set_option maxHeartbeats 4000000 in
theorem FnSplitJoin_walk (d : Value) (w : World) (h : RdBy w d) (hd : ∀ b, d.ownBlock = some b → b < w.heap.size) (T : MxS w) :
    Calls Tryd.prog 7 #[d] w fun e w' => e = .returned (.bool true) ∧ Below w.heap.size w w' := by
  have hT := Lib.hid T
  clear T
  obtain ⟨ao, n, c, rfl, q1, q2, q3⟩ := id h
  replace h := Lib.hid h
  replace hd := Lib.hid hd
  have hB := Lib.hid (Below.refl w.heap.size w)
  clear q3
  unfold maxLen at q2
  by_cases hbig : (65536 : Int) < (n : Int)
  · have hbd : decide ((65536 : Int) < (n : Int)) = true := by simp; omega
    go_enter Tryd.func7, Tryd.ntmps7
    go_wp2_with fail
    refine vBig_law.mono ?_
    rintro e w1 ⟨rfl, rfl⟩
    rw [hbd]
    go_wp2
    go_ret
    exact ⟨rfl, Below.refl _ _⟩
  · have hbd : decide ((65536 : Int) < (n : Int)) = false := by simp; omega
    go_enter Tryd.func7, Tryd.ntmps7
    go_wp2_with fail
    refine vBig_law.mono ?_
    rintro e w0 ⟨rfl, rfl⟩
    rw [hbd]
    go_wp2_with fail
    refine (DrawSplitString_law h.out hd.out).mono ?_
    rintro e w1 ⟨s, sep, rfl, hs, hsep, b⟩
    replace hB := Lib.hid (Below.next hB.out b)
    replace h := Lib.hid (h.out.next b)
    replace hd := Lib.hid (lt_next hd.out b)
    clear b
    go_wp2_with fail
    refine (impl_SplitString_law (s := s) (sep := sep) (by omega) (by omega) (hT.out.next hB.out)).mono ?_
    rintro e w2 ⟨vl, Fl, rfl, rl, fl, b, hll⟩
    replace hB := Lib.hid (Below.next hB.out b)
    replace h := Lib.hid (h.out.next b)
    replace hd := Lib.hid (lt_next hd.out b)
    replace rl := Lib.hid rl
    clear b
    clear fl hll
    go_wp2_with fail
    refine (DrawJoinStrings_law h.out hd.out).mono ?_
    rintro e w3 ⟨vk, k, Fk, mark, rfl, rk, fk, hm, hkl, hkz, b⟩
    replace hB := Lib.hid (Below.next hB.out b)
    replace h := Lib.hid (h.out.next b)
    replace hd := Lib.hid (lt_next hd.out b)
    replace rl := Lib.hid (rl.out.next b)
    replace rk := Lib.hid rk
    clear b
    clear fk
    go_wp2_with fail
    refine (impl_JoinStrings_law rk.out (by unfold maxLen; omega) (by omega)).mono ?_
    rintro e w4 ⟨rfl, b⟩
    replace hB := Lib.hid (Below.next hB.out b)
    replace h := Lib.hid (h.out.next b)
    replace hd := Lib.hid (lt_next hd.out b)
    replace rl := Lib.hid (rl.out.next b)
    replace rk := Lib.hid (rk.out.next b)
    clear b
    go_wp2_with fail
    refine (spec_JoinStrings_law rk.out (by unfold maxLen; omega) (by omega)).mono ?_
    rintro e w5 ⟨rfl, b⟩
    replace hB := Lib.hid (Below.next hB.out b)
    replace h := Lib.hid (h.out.next b)
    replace hd := Lib.hid (lt_next hd.out b)
    replace rl := Lib.hid (rl.out.next b)
    replace rk := Lib.hid (rk.out.next b)
    clear b
    clear rk
    go_wp2_with fail
    refine (DrawLessString_law h.out hd.out).mono ?_
    rintro e w6 ⟨x, y, rfl, hx, hy, b⟩
    replace hB := Lib.hid (Below.next hB.out b)
    replace h := Lib.hid (h.out.next b)
    replace hd := Lib.hid (lt_next hd.out b)
    replace rl := Lib.hid (rl.out.next b)
    clear b
    clear h hd
    generalize hJ : jnR k mark = J at *
    obtain ⟨j, fine⟩ := J
    clear hJ
    dsimp only
    have hxm : Hid (x.size ≤ maxLen) := Lib.hid (by unfold maxLen; omega)
    have hym : Hid (y.size ≤ maxLen) := Lib.hid (by unfold maxLen; omega)
    have hle := Lib.hid (less_asymm x.toList y.toList)
    go_wp2_with fail
    refine (impl_LessString_law (a := x) (b := y) hxm.out hym.out).mono ?_
    rintro e w7 ⟨rfl, b⟩
    replace hB := Lib.hid (Below.next hB.out b)
    replace rl := Lib.hid (rl.out.next b)
    clear b
    go_wp2_with fail
    refine (spec_LessString_law (a := x) (b := y) hxm.out hym.out).mono ?_
    rintro e w8 ⟨rfl, b⟩
    replace hB := Lib.hid (Below.next hB.out b)
    replace rl := Lib.hid (rl.out.next b)
    clear b
    go_wp2_with fail
    refine (impl_LessString_law (a := x) (b := y) hxm.out hym.out).mono ?_
    rintro e w9 ⟨rfl, b⟩
    replace hB := Lib.hid (Below.next hB.out b)
    replace rl := Lib.hid (rl.out.next b)
    clear b
    generalize hlt : Op.bytesLess x.toList y.toList = lt at *
    replace hlt := Lib.hid hlt
    have hfin : True := trivial
    cases lt
    · skip
      obtain ⟨lo, lc, rfl, q5⟩ := rl.out.1.1.opened
      clear q5
      by_cases h1 : sep.size = 1
      · have h1i : ((sep.size : Int) != 1) = false := by simp; omega
        have hback := Lib.hid (jnR_srR (s := s) h1 (by omega))
        rw [srR_yes h1 (by omega)] at rl hback ⊢
        dsimp only at rl hback ⊢
        rw [strs_length]
        have hz := parts_sz (sep[0]'(by omega)) s
        generalize parts (sep[0]'(by omega)) s = P at *
        have hl9 := Lib.hid (impl_JoinStrings_law rl.out (show sep.size ≤ maxLen by unfold maxLen; omega) (by omega))
        rw [hback.out, strs_length] at hl9
        dsimp only at hl9
        have hrl := Lib.hid rl.out
        clear rl
        generalize P.length = n9 at *
        replace h1 := Lib.hid h1
        clear hrl hback hz
        go_wp2_with fail
        refine hl9.out.mono ?_
        rintro e wb ⟨rfl, b⟩
        replace hB := Lib.hid (Below.next hB.out b)
        clear b
        go_wp2
        go_ret
        exact ⟨rfl, hB.out⟩
      · have h1i : ((sep.size : Int) != 1) = true := by simp; omega
        rw [srR_no (fun k => h1 k.1)] at rl ⊢
        dsimp only at rl ⊢
        rw [strs_length]
        replace h1 := Lib.hid h1
        go_wp2
        go_ret
        exact ⟨rfl, hB.out⟩
    · skip
      have hno := hle.out rfl
      go_wp2_with fail
      refine (impl_LessString_law (a := y) (b := x) hym.out hxm.out).mono ?_
      rintro e w10 ⟨rfl, b⟩
      replace hB := Lib.hid (Below.next hB.out b)
      replace rl := Lib.hid (rl.out.next b)
      clear b
      rw [hno]
      obtain ⟨lo, lc, rfl, q5⟩ := rl.out.1.1.opened
      clear q5
      by_cases h1 : sep.size = 1
      · have h1i : ((sep.size : Int) != 1) = false := by simp; omega
        have hback := Lib.hid (jnR_srR (s := s) h1 (by omega))
        rw [srR_yes h1 (by omega)] at rl hback ⊢
        dsimp only at rl hback ⊢
        rw [strs_length]
        have hz := parts_sz (sep[0]'(by omega)) s
        generalize parts (sep[0]'(by omega)) s = P at *
        have hl9 := Lib.hid (impl_JoinStrings_law rl.out (show sep.size ≤ maxLen by unfold maxLen; omega) (by omega))
        rw [hback.out, strs_length] at hl9
        dsimp only at hl9
        have hrl := Lib.hid rl.out
        clear rl
        generalize P.length = n9 at *
        replace h1 := Lib.hid h1
        clear hrl hback hz
        go_wp2_with fail
        refine hl9.out.mono ?_
        rintro e wb ⟨rfl, b⟩
        replace hB := Lib.hid (Below.next hB.out b)
        clear b
        go_wp2
        go_ret
        exact ⟨rfl, hB.out⟩
      · have h1i : ((sep.size : Int) != 1) = true := by simp; omega
        rw [srR_no (fun k => h1 k.1)] at rl ⊢
        dsimp only at rl ⊢
        rw [strs_length]
        replace h1 := Lib.hid h1
        go_wp2
        go_ret
        exact ⟨rfl, hB.out⟩
end Go.Proofs.YtoeonplbgbgjmaaDoor
