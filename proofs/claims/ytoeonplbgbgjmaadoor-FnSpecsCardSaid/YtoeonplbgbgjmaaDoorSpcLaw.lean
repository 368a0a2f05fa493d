/- laws.FnSpecs: the walk. -/
import Derived.Test.YtoeonplbgbgjmaaDoorVLaw
import Derived.Test.YtoeonplbgbgjmaaDoorDrawX
import Derived.Test.YtoeonplbgbgjmaaDoorDrawZ
import Derived.Test.YtoeonplbgbgjmaaDoorFSpI
import Derived.Test.YtoeonplbgbgjmaaDoorFSpS
import Derived.Test.YtoeonplbgbgjmaaDoorPsI
import Derived.Test.YtoeonplbgbgjmaaDoorPsS
import Derived.Test.YtoeonplbgbgjmaaDoorSpcM
import Derived.BigRegion
import Derived.RegionTactic
namespace Go.Proofs.YtoeonplbgbgjmaaDoor
open Go.RowKit
set_option linter.unusedVariables false
set_option linter.unusedSimpArgs false

theorem fsR_psR (K : List KS) : (fsR K).2 = true → psR (fsR K).1 = (K, true) := by
  intro h
  cases hk : okK K
  · rw [fsR_no hk] at h; cases h
  · rw [fsR_yes hk]; exact psR_text hk
theorem fsR_size (K : List KS) : (fsR K).1.size ≤ 40 := by
  cases hk : okK K
  · rw [fsR_no hk]; simp
  · rw [fsR_yes hk]; exact tK_size4 hk
set_option maxRecDepth 10000 in
set_option maxHeartbeats 4000000 in
theorem FnSpecs_walk (d : Value) (w : World) (h : RdBy w d) (hd : ∀ b, d.ownBlock = some b → b < w.heap.size) (T : PsT w) :
    Calls Tryd.prog 9 #[d] w fun e w' => e = .returned (.bool true) ∧ Below w.heap.size w w' := by
  have hT := Lib.hid T
  clear T
  obtain ⟨ao, n, c, rfl, q1, q2, q3⟩ := id h
  replace h := Lib.hid h
  replace hd := Lib.hid hd
  have hB := Lib.hid (Below.refl w.heap.size w)
  clear q3
  unfold maxLen at q2
  by_cases hbig : (65536 : Int) < (n : Int)
  · have hbd : decide ((65536 : Int) < (n : Int)) = true := by simp; omega
    go_enter Tryd.func9, Tryd.ntmps9
    go_wp2_with fail
    refine vBig_law.mono ?_
    rintro e w1 ⟨rfl, rfl⟩
    rw [hbd]
    go_wp2
    go_ret
    exact ⟨rfl, Below.refl _ _⟩
  · have hbd : decide ((65536 : Int) < (n : Int)) = false := by simp; omega
    go_enter Tryd.func9, Tryd.ntmps9
    go_wp2_with fail
    refine vBig_law.mono ?_
    rintro e w0 ⟨rfl, rfl⟩
    rw [hbd]
    go_wp2_with fail
    refine (DrawFormatSpecs_law h.out hd.out).mono ?_
    rintro e w1 ⟨vk, K, Fk, rfl, rk, fk, hk, b⟩
    replace hB := Lib.hid (Below.next hB.out b)
    replace h := Lib.hid (h.out.next b)
    replace hd := Lib.hid (lt_next hd.out b)
    replace rk := Lib.hid rk
    clear b
    clear fk
    go_wp2_with fail
    refine (impl_FormatSpecs_law rk.out (hT.out.1.next hB.out)).mono ?_
    rintro e w2 ⟨rfl, b⟩
    replace hB := Lib.hid (Below.next hB.out b)
    replace h := Lib.hid (h.out.next b)
    replace hd := Lib.hid (lt_next hd.out b)
    replace rk := Lib.hid (rk.out.next b)
    clear b
    go_wp2_with fail
    refine (spec_FormatSpecs_law rk.out).mono ?_
    rintro e w3 ⟨rfl, b⟩
    replace hB := Lib.hid (Below.next hB.out b)
    replace h := Lib.hid (h.out.next b)
    replace hd := Lib.hid (lt_next hd.out b)
    replace rk := Lib.hid (rk.out.next b)
    clear b
    have hfs := Lib.hid (fsR_psR K)
    have hfz := fsR_size K
    generalize hFS : fsR K = FS at *
    obtain ⟨s, ok⟩ := FS
    clear hFS
    dsimp only at hfs hfz ⊢
    go_wp2_with fail
    refine (DrawParseSpecs_law h.out hd.out).mono ?_
    rintro e w4 ⟨t, rfl, ht, b⟩
    replace hB := Lib.hid (Below.next hB.out b)
    replace h := Lib.hid (h.out.next b)
    replace hd := Lib.hid (lt_next hd.out b)
    replace rk := Lib.hid (rk.out.next b)
    clear b
    clear h hd
    go_wp2_with fail
    refine (impl_ParseSpecs_law (s := t) (by omega) (hT.out.next hB.out)).mono ?_
    rintro e w5 ⟨vl, Fl, rfl, rl, fl, b, hll⟩
    replace hB := Lib.hid (Below.next hB.out b)
    replace rk := Lib.hid (rk.out.next b)
    replace rl := Lib.hid rl
    clear b
    clear fl hll
    go_wp2_with fail
    refine (spec_ParseSpecs_law (s := t) (by omega)).mono ?_
    rintro e w6 ⟨vm, Fm, rfl, rm, fm, b, hll⟩
    replace hB := Lib.hid (Below.next hB.out b)
    replace rk := Lib.hid (rk.out.next b)
    replace rl := Lib.hid (rl.out.next b)
    replace rm := Lib.hid rm
    clear b
    clear fm
    have hbk := Lib.hid (fun (h : (psR t).2 = true) => fsR_back h)
    generalize hPR : psR t = PR at *
    obtain ⟨L, fine⟩ := PR
    clear hPR
    dsimp only at rl rm hbk hll ⊢
    obtain ⟨la, lc, rfl, hl1, hl2, hlR⟩ := rl.out.rd
    obtain ⟨ma, mc, rfl, hm1, hm2, hmR⟩ := rm.out.rd
    clear hm1 hm2 hl1 hl2
    replace hlR := Lib.hid hlR
    replace hmR := Lib.hid hmR
    generalize hLn : L.length = ln at *
    replace hLn := Lib.hid hLn
    go_wp2
    go_loopw [13] (fun i wr => ∃ k : Nat, k ≤ ln ∧ i = .int .i64 k ∧ Below w6.heap.size w6 wr) (fun i _ => ln - (intOf i).toNat)
    case atStart => exact ⟨0, Nat.zero_le _, rfl, Below.refl _ _⟩
    case round =>
      obtain ⟨k, hk9, rfl, bl⟩ := hrel
      by_cases hlt : k < ln
      · obtain ⟨b1, off1, rfl, hR1⟩ := hlR.out (by omega)
        obtain ⟨b2, off2, rfl, hR2⟩ := hmR.out (by omega)
        have h3 := (hR1 k hlt).below bl
        have h4 := (hR2 k hlt).below bl
        clear hR1 hR2
        generalize gk L k = x at *
        obtain ⟨x1, x2, x3, x4⟩ := x
        obtain ⟨hc1, hc2, hc3, hc4⟩ := h3
        obtain ⟨hd1, hd2, hd3, hd4⟩ := h4
        dsimp only at hc1 hc2 hc3 hc4 hd1 hd2 hd3 hd4
        have hp : (0 : Int) ≤ (k : Int) := by omega
        replace bl := Lib.hid bl
        go_wp2
        go_region
        all_goals
          go_wp2
          go_roundw
          case rel => exact ⟨k + 1, by omega, by go_num, Below.drewN bl.out 1⟩
          case measure => simp [intOf]; omega
      · obtain rfl : k = ln := by omega
        have b := bl
        clear bl
        replace hB := Lib.hid (Below.next hB.out b)
        replace rk := Lib.hid (rk.out.next b)
        replace rl := Lib.hid (rl.out.next b)
        replace rm := Lib.hid (rm.out.next b)
        clear b
        clear rm hmR
        go_wp2_with fail
        refine (impl_ParseSpecs_law (s := s) (by omega) (hT.out.next hB.out)).mono ?_
        rintro e w8 ⟨vb, Fb, rfl, rb, fb, b, hlb⟩
        replace hB := Lib.hid (Below.next hB.out b)
        replace rk := Lib.hid (rk.out.next b)
        replace rl := Lib.hid (rl.out.next b)
        replace rb := Lib.hid rb
        clear b
        clear fb
        go_wp2_with fail
        refine (impl_FormatSpecs_law rl.out (hT.out.1.next hB.out)).mono ?_
        rintro e w9 ⟨rfl, b⟩
        replace hB := Lib.hid (Below.next hB.out b)
        replace rk := Lib.hid (rk.out.next b)
        replace rl := Lib.hid (rl.out.next b)
        replace rb := Lib.hid (rb.out.next b)
        clear b
        clear rl
        cases ok
        · skip
          cases fine
          · go_wp2
            go_ret
            exact ⟨rfl, hB.out⟩
          · have hb2 := hbk.out rfl
            rw [hb2]
            go_wp2
            go_ret
            exact ⟨rfl, hB.out⟩
        · skip
          have hp2 := hfs.out rfl
          rw [hp2] at rb hlb ⊢
          dsimp only at rb hlb ⊢
          clear hp2
          obtain ⟨ka, kc, rfl, hk1, hk2, hkR⟩ := rk.out.rd
          obtain ⟨ba, bc, rfl, hb1, hb2, hbR⟩ := rb.out.rd
          clear hk1 hk2 hb1 hb2
          replace hkR := Lib.hid hkR
          replace hbR := Lib.hid hbR
          generalize hKn : K.length = kn at *
          replace hKn := Lib.hid hKn
          go_wp2
          go_loopw [18] (fun i wr => ∃ k : Nat, k ≤ kn ∧ i = .int .i64 k ∧ Below w9.heap.size w9 wr) (fun i _ => kn - (intOf i).toNat)
          case atStart => exact ⟨0, Nat.zero_le _, rfl, Below.refl _ _⟩
          case round =>
            obtain ⟨k, hk9, rfl, bl⟩ := hrel
            by_cases hlt : k < kn
            · obtain ⟨b1, off1, rfl, hR1⟩ := hbR.out (by omega)
              obtain ⟨b2, off2, rfl, hR2⟩ := hkR.out (by omega)
              have h3 := (hR1 k hlt).below bl
              have h4 := (hR2 k hlt).below bl
              clear hR1 hR2
              generalize gk K k = x at *
              obtain ⟨x1, x2, x3, x4⟩ := x
              obtain ⟨hc1, hc2, hc3, hc4⟩ := h3
              obtain ⟨hd1, hd2, hd3, hd4⟩ := h4
              dsimp only at hc1 hc2 hc3 hc4 hd1 hd2 hd3 hd4
              have hp : (0 : Int) ≤ (k : Int) := by omega
              replace bl := Lib.hid bl
              go_wp2
              go_region
              all_goals
                go_wp2
                go_roundw
                case rel => exact ⟨k + 1, by omega, by go_num, Below.drewN bl.out 1⟩
                case measure => simp [intOf]; omega
            · obtain rfl : k = kn := by omega
              have b := bl
              clear bl
              replace hB := Lib.hid (Below.next hB.out b)
              replace rk := Lib.hid (rk.out.next b)
              replace rb := Lib.hid (rb.out.next b)
              clear b
              cases fine
              · go_wp2
                go_ret
                exact ⟨rfl, hB.out⟩
              · have hb2 := hbk.out rfl
                rw [hb2]
                go_wp2
                go_ret
                exact ⟨rfl, hB.out⟩
end Go.Proofs.YtoeonplbgbgjmaaDoor
