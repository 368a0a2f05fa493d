/- slices.stableCmpFunc, slices.SortStableFunc at rows. -/
import Derived.Test.YtoeonplbgbgjmaaDoorSvK
import Derived.Test.YtoeonplbgbgjmaaDoorStbL
namespace Go.Proofs.YtoeonplbgbgjmaaDoor
open Go.RowKit
set_option linter.unusedVariables false
set_option linter.unusedSimpArgs false

set_option maxRecDepth 10000 in
set_option maxHeartbeats 8000000 in
theorem stableV_any (w0 : World) (b off c n sp : Nat) (X : List Value) (cv : Int → Int → Int) (hcv : Pre cv) (hcmp : CmpV w0 b sp X cv) (hXs : HdV X) (hc1 : n ≤ 1000000000) (hn64 : n ≤ 64) (D : List Int) (w : World) (hR : RV w b off c n X D) (hn : D.length = n) (hx : Ex [b] w0 w) (hid : ∀ i, i < n → gi D i = (i : Int)) :
    Calls Tryd.prog 117 #[.slice (some ⟨b, off, none⟩) n c, .int .i64 (n : Nat), .func (.func 79) #[] #[.pointer (some ⟨sp, 0, none⟩)]] w fun e w' => e = .returned (.tuple #[]) ∧ ∃ D', RV w' b off c n X D' ∧ Ex [b] w0 w' ∧ Mv D D' 0 n ∧ Srt cv D' 0 n := by
  have hd : Hid (Dist D) := Lib.hid (fun i j hij hj => by rw [hid i (by omega), hid j (by omega)]; omega)
  replace hcv := Lib.hid hcv
  replace hcmp := Lib.hid hcmp
  replace hXs := Lib.hid hXs
  replace hid := Lib.hid hid
  replace hR := Lib.hid hR
  replace hx := Lib.hid hx
  replace hn := Lib.hid hn
  go_enter Tryd.func117, Tryd.ntmps117
  go_wp2
  go_loopw [7, 8] (fun av bv wr => ∃ (a t : Nat) (D' : List Int), a = 20 * t ∧ a ≤ n ∧ av = .int .i64 (a : Nat) ∧ bv = .int .i64 ((a : Int) + 20) ∧ RV wr b off c n X D' ∧ Ex [b] w0 wr ∧ Mv D D' 0 n ∧ Lv cv D' 20 0 a ∧ ∀ i, a ≤ i → i < n → gi D' i = (i : Int)) (fun av _ _ => n - (intOf av).toNat)
  case atStart => exact ⟨0, 0, D, rfl, Nat.zero_le _, rfl, by first | rfl | go_num, hR.out, hx.out, Mv.refl _ _ _, Lv.none _ _ _ _, fun i _ h => hid.out i h⟩
  case round =>
    clear hR hx hid
    obtain ⟨a, t, D', hat, han, rfl, rfl, hR, hx, hm, hlv, hid⟩ := hrel
    have hl := hm.len.trans hn.out
    replace hm := Lib.hid hm
    replace hlv := Lib.hid hlv
    replace hat := Lib.hid hat
    by_cases hlt : a + 20 ≤ n
    · have hlti : (a : Int) + 20 ≤ (n : Int) := by omega
      have hins := Lib.hid (insCmpV_any w0 b off c n sp X cv hcv.out hcmp.out hXs.out D' wr hR hl hx a (a + 20) (by omega) hlt hc1 (fun i j h1 h2 h3 => by rw [hid i h1 (by omega), hid j (by omega) (by omega)]; omega))
      replace hid := Lib.hid hid
      clear hR hx
      have he : ((a + 20 : Nat) : Int) = (a : Int) + 20 := by omega
      go_wp2_with fail
      rw [← he]
      refine hins.out.mono ?_
      rintro e w1 ⟨rfl, D2, hR2, hx2, hm2, hs2⟩
      have hlv2 := Lib.hid (hlv.out.first hat.out (by omega) (Nat.le_refl _) hlt hid.out hm2 hs2)
      have hid2 := Lib.hid (show ∀ i, a + 20 ≤ i → i < n → gi D2 i = (i : Int) from fun i h1 h2 => by rw [hm2.out i (.inr h1)]; exact hid.out i (by omega) h2)
      have hmm := Lib.hid (hm.out.trans (hm2.mono (Nat.zero_le _) hlt))
      replace hR2 := Lib.hid hR2
      replace hx2 := Lib.hid hx2
      clear hins hm2 hs2 he
      go_wp2
      go_roundw
      case rel => exact ⟨a + 20, t + 1, D2, by have := hat.out; omega, by omega, by go_num, by first | rfl | go_num, hR2.out, hx2.out, hmm.out, hlv2.out, hid2.out⟩
      case measure => simp [intOf]; omega
    · have hlti : ¬ (a : Int) + 20 ≤ (n : Int) := by omega
      have hins := Lib.hid (insCmpV_any w0 b off c n sp X cv hcv.out hcmp.out hXs.out D' wr hR hl hx a n (by omega) (Nat.le_refl _) hc1 (fun i j h1 h2 h3 => by rw [hid i h1 (by omega), hid j (by omega) (by omega)]; omega))
      replace hid := Lib.hid hid
      clear hR hx
      go_wp2_with fail
      refine hins.out.mono ?_
      rintro e w1 ⟨rfl, D2, hR2, hx2, hm2, hs2⟩
      have hlv2 := Lib.hid (hlv.out.first hat.out (by omega) (by omega) (Nat.le_refl _) hid.out hm2 hs2)
      have hmm := Lib.hid (hm.out.trans (hm2.mono (Nat.zero_le _) (Nat.le_refl _)))
      replace hR2 := Lib.hid hR2
      replace hx2 := Lib.hid hx2
      clear hins hm2 hs2 hm hlv hid hl
      go_wp2
      go_loopw [6] (fun sv wr => ∃ (bs : Nat) (D' : List Int), (bs = 20 ∨ bs = 40 ∨ bs = 80) ∧ sv = .int .i64 (bs : Nat) ∧ RV wr b off c n X D' ∧ Ex [b] w0 wr ∧ Mv D D' 0 n ∧ Lv cv D' bs 0 n) (fun sv _ => 100 - (intOf sv).toNat)
      case atStart => exact ⟨20, D2, .inl rfl, rfl, hR2.out, hx2.out, hmm.out, hlv2.out⟩
      case round =>
        clear hR2 hx2 hmm hlv2
        obtain ⟨bs, D', hbs, rfl, hR, hx, hm, hlv⟩ := hrel
        replace hR := Lib.hid hR
        replace hx := Lib.hid hx
        replace hm := Lib.hid hm
        replace hlv := Lib.hid hlv
        by_cases hlt2 : bs < n
        · have hlt2i : (bs : Int) < (n : Int) := by omega
          have hb2 : Hid (bs = 20 ∨ bs = 40) := Lib.hid (by omega)
          have hbb : 20 ≤ bs ∧ bs ≤ 40 := by omega
          replace hbs := Lib.hid hbs
          go_wp2
          go_loopw [7, 8] (fun av bv wr => ∃ (a u : Nat) (D' : List Int), a = 2 * bs * u ∧ a ≤ n ∧ av = .int .i64 (a : Nat) ∧ bv = .int .i64 ((a : Int) + 2 * (bs : Int)) ∧ RV wr b off c n X D' ∧ Ex [b] w0 wr ∧ Mv D D' 0 n ∧ Lv cv D' (2 * bs) 0 a ∧ Lv cv D' bs a n) (fun av _ _ => n - (intOf av).toNat)
          case atStart => exact ⟨0, 0, D', rfl, Nat.zero_le _, rfl, by first | rfl | go_num, hR.out, hx.out, hm.out, Lv.none _ _ _ _, hlv.out⟩
          case round =>
            clear hR hx hm hlv
            obtain ⟨a, u, D', hau, han2, rfl, rfl, hR, hx, hm, hl1, hl2⟩ := hrel
            have hl := hm.len.trans hn.out
            have hd' := Lib.hid (hm.dist hd.out)
            replace hm := Lib.hid hm
            replace hl1 := Lib.hid hl1
            replace hl2 := Lib.hid hl2
            replace hau := Lib.hid hau
            by_cases hlt3 : a + 2 * bs ≤ n
            · have hlt3i : (a : Int) + 2 * (bs : Int) ≤ (n : Int) := by omega
              obtain ⟨k1, k2, k3⟩ := hl2.out.pair hb2.out hau.out (Nat.le_refl _) (by omega) hlt3
              have hsm := Lib.hid (symMergeV_any w0 b off c n sp X cv hcv.out hcmp.out hXs.out hc1 (2 * bs) D' wr hR hl hx hd'.out a (a + bs) (a + 2 * bs) (by omega) (by omega) hlt3 (by omega) k1 k2 k3)
              have e1 : ((a + bs : Nat) : Int) = (a : Int) + (bs : Int) := by omega
              have e2 : ((a + 2 * bs : Nat) : Int) = (a : Int) + 2 * (bs : Int) := by omega
              rw [e1, e2] at hsm
              clear hR hx k1 k2 k3 e1 e2
              go_wp2_with fail
              refine hsm.out.mono ?_
              rintro e w2 ⟨rfl, D3, hR3, hx3, hm3, hs3⟩
              have hlv3 := Lib.hid (Lv.merged hb2.out hl1.out hl2.out hau.out (Nat.le_refl _) (by omega) hlt3 hm3 hs3)
              have hmm := Lib.hid (hm.out.trans (hm3.mono (Nat.zero_le _) hlt3))
              replace hR3 := Lib.hid hR3
              replace hx3 := Lib.hid hx3
              clear hsm hm3 hs3
              go_wp2
              go_roundw
              case rel => exact ⟨a + 2 * bs, u + 1, D3, by have := hau.out; rw [Nat.mul_add]; omega, hlt3, by go_num, by first | rfl | go_num, hR3.out, hx3.out, hmm.out, hlv3.out.1, hlv3.out.2⟩
              case measure => simp [intOf]; omega
            · have hlt3i : ¬ (a : Int) + 2 * (bs : Int) ≤ (n : Int) := by omega
              by_cases hlt4 : a + bs < n
              · have hlt4i : (a : Int) + (bs : Int) < (n : Int) := by omega
                obtain ⟨k1, k2, k3⟩ := hl2.out.pair hb2.out hau.out (e := n) (by omega) hlt4 (Nat.le_refl _)
                have hsm := Lib.hid (symMergeV_any w0 b off c n sp X cv hcv.out hcmp.out hXs.out hc1 (2 * bs) D' wr hR hl hx hd'.out a (a + bs) n (by omega) (by omega) (Nat.le_refl _) (by omega) k1 k2 k3)
                have e1 : ((a + bs : Nat) : Int) = (a : Int) + (bs : Int) := by omega
                rw [e1] at hsm
                clear hR hx k1 k2 k3 e1
                go_wp2_with fail
                refine hsm.out.mono ?_
                rintro e w2 ⟨rfl, D3, hR3, hx3, hm3, hs3⟩
                have hlv3 := Lib.hid (Lv.merged hb2.out hl1.out hl2.out hau.out (by omega) (by omega) (Nat.le_refl _) hm3 hs3).1
                have hmm := Lib.hid (hm.out.trans (hm3.mono (Nat.zero_le _) (Nat.le_refl _)))
                replace hR3 := Lib.hid hR3
                replace hx3 := Lib.hid hx3
                clear hsm hm3 hs3
                go_wp2
                go_roundw
                case rel => exact ⟨2 * bs, D3, by have := hb2.out; omega, by first | rfl | go_num, hR3.out, hx3.out, hmm.out, hlv3.out⟩
                case measure => simp [intOf]; omega
              · have hlt4i : ¬ (a : Int) + (bs : Int) < (n : Int) := by omega
                have hlv3 := Lib.hid (Lv.alone hb2.out hl1.out hl2.out hau.out (by omega))
                replace hR := Lib.hid hR
                replace hx := Lib.hid hx
                go_wp2
                go_roundw
                case rel => exact ⟨2 * bs, D', by have := hb2.out; omega, by first | rfl | go_num, hR.out, hx.out, hm.out, hlv3.out⟩
                case measure => simp [intOf]; omega
        · have hlt2i : ¬ (bs : Int) < (n : Int) := by omega
          have hfin := Lib.hid (hlv.out.whole (by omega) (by omega))
          clear hbs
          go_wp2
          go_end0
          exact ⟨rfl, D', hR.out, hx.out, hm.out, hfin.out⟩

set_option maxHeartbeats 1000000 in
theorem sortStableV_any (w0 : World) (b off c n sp : Nat) (X : List Value) (cv : Int → Int → Int) (hcv : Pre cv) (hcmp : CmpV w0 b sp X cv) (hXs : HdV X) (hc1 : n ≤ 1000000000) (hn64 : n ≤ 64) (D : List Int) (w : World) (hR : RV w b off c n X D) (hn : D.length = n) (hx : Ex [b] w0 w) (hid : ∀ i, i < n → gi D i = (i : Int)) :
    Calls Tryd.prog 78 #[.slice (some ⟨b, off, none⟩) n c, .func (.func 79) #[] #[.pointer (some ⟨sp, 0, none⟩)]] w fun e w' => e = .returned (.tuple #[]) ∧ ∃ D', RV w' b off c n X D' ∧ Ex [b] w0 w' ∧ Mv D D' 0 n ∧ Srt cv D' 0 n := by
  have hst := Lib.hid (stableV_any w0 b off c n sp X cv hcv hcmp hXs hc1 hn64 D w hR hn hx hid)
  clear hR hx hid hn hcv
  go_enter Tryd.func78, Tryd.ntmps78
  go_wp2_with fail
  refine hst.out.mono ?_
  rintro e w1 ⟨rfl, D', h1, h2, h3, h4⟩
  replace h1 := Lib.hid h1
  replace h2 := Lib.hid h2
  replace h3 := Lib.hid h3
  replace h4 := Lib.hid h4
  clear hst
  go_wp2
  go_end0
  exact ⟨rfl, D', h1.out, h2.out, h3.out, h4.out⟩
end Go.Proofs.YtoeonplbgbgjmaaDoor
