/- ParseSpecs, spec. -/
import Derived.Test.YtoeonplbgbgjmaaDoorPsM
import Derived.Test.YtoeonplbgbgjmaaDoorKsO
import Derived.Test.YtoeonplbgbgjmaaDoorVKs
import Derived.Test.YtoeonplbgbgjmaaDoorFSpS
import Derived.Test.YtoeonplbgbgjmaaDoorSplW
import Derived.Test.YtoeonplbgbgjmaaDoorSplit
import Derived.Test.YtoeonplbgbgjmaaDoorRow
namespace Go.Proofs.YtoeonplbgbgjmaaDoor
open Go.RowKit
set_option linter.unusedVariables false
set_option linter.unusedSimpArgs false

theorem psQ_take {s : ByteArray} {i : Nat} (h : i < (parts 44 s).length) : (psQ s).take (i + 1) = (psQ s).take i ++ [kS (gs (parts 44 s) i)] := by
  rw [List.take_succ_eq_append_getElem (by simpa [psQ] using h)]
  congr 2
  rw [gs_eq h]
  simp [psQ]
theorem kst_step {W : ByteArray} {j : Nat} (h : j < W.size) : kst W (j + 1) = stp j W[j] (kst W j) := by rw [kst, sb_eq h]
theorem stp_dig {j : Nat} {b : UInt8} {k : KS} (h : j = 0 ∧ 48 ≤ b.toNat ∧ b.toNat ≤ 57) : stp j b k = ((b.toNat : Int) - 48, k.2.1, k.2.2.1, k.2.2.2) := by unfold stp; rw [if_pos h]
theorem stp_n {j : Nat} {b : UInt8} {k : KS} (h : b.toNat = 110) : stp j b k = (k.1, true, k.2.2.1, k.2.2.2) := by unfold stp; rw [if_neg (by omega), if_pos h]
theorem stp_d {j : Nat} {b : UInt8} {k : KS} (h : b.toNat = 100) : stp j b k = (k.1, k.2.1, true, k.2.2.2) := by unfold stp; rw [if_neg (by omega), if_neg (by omega), if_pos h]
theorem stp_f {j : Nat} {b : UInt8} {k : KS} (h : b.toNat = 102) : stp j b k = (k.1, k.2.1, k.2.2.1, true) := by unfold stp; rw [if_neg (by omega), if_neg (by omega), if_neg (by omega), if_pos h]
theorem stp_o {j : Nat} {b : UInt8} {k : KS} (h0 : ¬ (j = 0 ∧ 48 ≤ b.toNat ∧ b.toNat ≤ 57)) (h1 : ¬ b.toNat = 110) (h2 : ¬ b.toNat = 100) (h3 : ¬ b.toNat = 102) : stp j b k = k := by unfold stp; rw [if_neg h0, if_neg h1, if_neg h2, if_neg h3]
theorem emptyK (w : World) : RKeySpecS (w.alloc (.cells #[] 71)) (.slice (some ⟨w.heap.size, 0, none⟩) 0 0) [] [w.heap.size] := ⟨(OwnK.empty w).sl (by simp), rfl⟩
-- WALK
theorem gk_one (k : KS) : gk [k] 0 = k := rfl
/-- One key spec in a block of its own. -/
def K1 (w : World) (b : Nat) (k : KS) : Prop := Row w 71 b 0 4 (kss [k])
theorem K1.set1 {w : World} {b : Nat} {k : KS} (h : K1 w b k) (a : Int) : K1 (w.setCell ⟨b, 0, none⟩ (.int .i64 a)) b (a, k.2.1, k.2.2.1, k.2.2.2) := Row.set h (i := 0) (by simp) _
theorem K1.set2 {w : World} {b : Nat} {k : KS} (h : K1 w b k) (a : Bool) : K1 (w.setCell ⟨b, 1, none⟩ (.bool a)) b (k.1, a, k.2.2.1, k.2.2.2) := Row.set h (i := 1) (by simp) _
theorem K1.set3 {w : World} {b : Nat} {k : KS} (h : K1 w b k) (a : Bool) : K1 (w.setCell ⟨b, 2, none⟩ (.bool a)) b (k.1, k.2.1, a, k.2.2.2) := Row.set h (i := 2) (by simp) _
theorem K1.set4 {w : World} {b : Nat} {k : KS} (h : K1 w b k) (a : Bool) : K1 (w.setCell ⟨b, 3, none⟩ (.bool a)) b (k.1, k.2.1, k.2.2.1, a) := Row.set h (i := 3) (by simp) _
theorem K1.new (w : World) (k : KS) : K1 (w.alloc (.cells #[.int .i64 k.1, .bool k.2.1, .bool k.2.2.1, .bool k.2.2.2] 71)) w.heap.size k := by
  refine ⟨#[.int .i64 k.1, .bool k.2.1, .bool k.2.2.1, .bool k.2.2.2], by show (w.heap.push _)[w.heap.size]? = _; simp, by simp, by simp, by unfold maxLen; omega, fun i hi => ?_⟩
  rw [Nat.zero_add]
  have : i < 4 := by simpa using hi
  match i, this with
  | 0, _ => rfl
  | 1, _ => rfl
  | 2, _ => rfl
  | 3, _ => rfl
set_option maxRecDepth 10000 in
set_option maxHeartbeats 8000000 in
theorem spec_ParseSpecs_law {s : ByteArray} {w : World} (hs : s.size ≤ 1048576) :
    Calls Tryd.prog 16 #[.string s] w fun e w' => ∃ r F, e = .returned (.tuple #[r, .bool (psR s).2]) ∧ RKeySpecS w' r (psR s).1 F ∧ Fr w.heap.size F ∧ Below w.heap.size w w' ∧ (psR s).1.length ≤ 100000000000 := by
  have hlen := Lib.hid (psR_len (s := s))
  have hE := Lib.hid (OwnK.empty w)
  have hEm := Lib.hid (emptyK w)
  have hB0 := Lib.hid ((Below.refl w.heap.size w).alloc (Nat.le_refl _) (.cells #[] 71))
  by_cases h40 : s.size ≤ 40
  · have h4 : decide (40 < (s.size : Int)) = false := by simp; omega
    have hpl := parts_len 44 s
    have hpz := Lib.hid (parts_size 44 s)
    have hpt := Lib.hid (fun i (h : i < (parts 44 s).length) => psQ_take (s := s) h)
    have hol := Lib.hid (psQ_len s)
    have hyes := Lib.hid (fun h ht => psR_spec_yes (s := s) h40 h ht)
    have hbad := Lib.hid (fun h => psR_spec_bad (s := s) h)
    have hne := Lib.hid (fun h ht => psR_spec_ne (s := s) h ht)
    have hsp : Hid (∀ wr : World, Calls Tryd.prog 67 #[.string s, .int .u8 44] wr fun e w' => ∃ r, e = .returned r ∧ Own w' 9 wr.heap.size r (strs (parts 44 s)) ∧ Below wr.heap.size wr w') := Lib.hid (fun wr => l1Split_any s 44 wr hs)
    generalize hP : parts 44 s = P at *
    generalize hO : psQ s = O at *
    generalize hR : psR s = R at *
    replace hP := Lib.hid hP
    replace hO := Lib.hid hO
    replace hR := Lib.hid hR
    go_enter Tryd.func16, Tryd.ntmps16
    go_wp2_with fail
    refine (hsp.out _).mono ?_
    rintro e w1 ⟨v1, rfl, hOw, hb⟩
    have hrS : Hid (RStringS w1 v1 P v1.ownBlock.toList) := Lib.hid ⟨⟨hOw.sl, fun i hi => by have := hpz.out i hi; unfold maxLen; omega⟩, rfl⟩
    have hB1 := Lib.hid (Below.next hB0.out hb)
    have hE1 := Lib.hid (hE.out.below hb)
    clear hb hOw hE hB0
    obtain ⟨ao, c, rfl, q1, q2, _⟩ := id hrS.out.rd
    generalize hn : P.length = n at *
    unfold maxLen at q2
    replace hn := Lib.hid hn
    go_wp2
    go_loopw [4, 6] (fun o iv wr => ∃ i : Nat, i ≤ n ∧ iv = .int .i64 (i : Nat) ∧ OwnK wr w.heap.size o (O.take i) ∧ Below w.heap.size w wr ∧ (∃ F, RStringS wr (.slice ao n c) P F)) (fun _ iv _ => n - (intOf iv).toNat)
    case atStart => exact ⟨0, Nat.zero_le _, rfl, hE1.out, hB1.out, ⟨_, hrS.out⟩⟩
    case round =>
      clear hE1 hEm
      obtain ⟨i, hi, rfl, hO4, hB, ⟨FS, hBs⟩⟩ := hrel
      by_cases hlt : i < n
      · obtain ⟨b, off, hao, hRc⟩ : ∃ b off, ao = some ⟨b, off, none⟩ ∧ ∀ wq, Below wr.heap.size wr wq → wq.cell? ⟨b, off + i, none⟩ = some (.string (gs P i)) := by
          obtain ⟨ao2, c2, e2, _, _, _, HA⟩ := hBs.rd
          rw [hn.out] at e2 HA
          simp at e2
          obtain ⟨rfl, rfl⟩ := e2
          obtain ⟨b, off, rfl, hRc⟩ := HA (by omega)
          exact ⟨b, off, rfl, fun wq hq => (hq.cell (p := ⟨b, off + i, none⟩) (block_lt_of_cell (hRc i hlt))).trans (hRc i hlt)⟩
        subst hao
        have hWz := hpz.out i hlt
        have hpi := Lib.hid (hpt.out i hlt)
        generalize hW : gs P i = W at *
        replace hW := Lib.hid hW
        have hc0 := hRc wr (Below.refl _ _)
        replace hRc := Lib.hid hRc
        replace hBs := Lib.hid hBs
        replace hB := Lib.hid hB
        replace hO4 := Lib.hid hO4
        have hK1 := Lib.hid (K1.new wr (-1, false, false, false))
        have hBk := Lib.hid ((Below.refl wr.heap.size wr).alloc (Nat.le_refl _) (.cells #[.int .i64 (-1), .bool false, .bool false, .bool false] 71))
        go_wp2
        go_loopw [8] (fun jv wq => ∃ j : Nat, j ≤ W.size ∧ jv = .int .i64 (j : Nat) ∧ K1 wq wr.heap.size (kst W j) ∧ Below wr.heap.size wr wq) (fun jv _ => W.size - (intOf jv).toNat)
        case atStart => exact ⟨0, Nat.zero_le _, rfl, hK1.out, hBk.out⟩
        case round =>
          clear hK1 hBk hc0
          obtain ⟨j, hj, rfl, hRow, hBq⟩ := hrel
          have hc1 := hRc.out _ hBq
          by_cases hjl : j < W.size
          · have hst := Lib.hid (kst_step hjl)
            obtain ⟨hk1, hk2, hk3, hk4⟩ := Row.k4 hRow (i := 0) (by simp)
            have f1 := Row.frozen hRow 0
            have f2 := Row.frozen hRow 1
            have f3 := Row.frozen hRow 2
            have f4 := Row.frozen hRow 3
            rw [gk_one] at hk1 hk2 hk3 hk4
            simp only [Nat.zero_mul, Nat.zero_add] at hk1 hk2 hk3 hk4
            have hb2 := UInt8.toNat_lt W[j]
            have hkq : True := trivial
            generalize hX : (W[j].toNat : Int) = X at *
            have hX1 : 0 ≤ X := by omega
            have hX2 : X < 256 := by omega
            by_cases hd : j = 0 ∧ 48 ≤ X ∧ X ≤ 57
            · have hnx := Lib.hid (hst.out.trans (stp_dig (by omega)))
              obtain ⟨rfl, hd1, hd2⟩ := hd
              have hnx := Lib.hid (by have h9 := hnx.out; rw [hX] at h9; exact h9)
              replace hRow := Lib.hid hRow
              replace hBq := Lib.hid hBq
              replace hkq := Lib.hid hkq
              go_wp2
              go_roundw
              case rel => exact ⟨0 + 1, by omega, by go_num, by rw [hnx.out]; exact K1.set1 hRow.out _, Below.setCell hBq.out (Nat.le_refl _) _⟩
              case measure => simp [intOf]; omega
            · by_cases hj0 : j = 0
              · subst hj0
                by_cases hl : X < 48
                · have hl2 : decide (48 ≤ X) = false := by simp; omega
                  have hnx := Lib.hid (hst.out.trans (stp_o (by omega) (by omega) (by omega) (by omega)))
                  have g1 : (X == 110) = false := by simp; omega
                  have g2 : (X == 100) = false := by simp; omega
                  have g3 : (X == 102) = false := by simp; omega
                  replace hRow := Lib.hid hRow
                  replace hBq := Lib.hid hBq
                  replace hkq := Lib.hid hkq
                  go_wp2
                  go_roundw
                  case rel => exact ⟨0 + 1, by omega, by go_num, by rw [hnx.out]; exact hRow.out, hBq.out⟩
                  case measure => simp [intOf]; omega
                · have hl1 : 48 ≤ X := by omega
                  have hl2 : ¬ X ≤ 57 := by omega
                  have hl3 : decide (X ≤ 57) = false := by simp; omega
                  by_cases c1 : X = 110
                  · have hnx := Lib.hid (hst.out.trans (stp_n (by omega)))
                    subst c1
                    replace hRow := Lib.hid hRow
                    replace hBq := Lib.hid hBq
                    replace hkq := Lib.hid hkq
                    go_wp2
                    go_roundw
                    case rel => exact ⟨0 + 1, by omega, by go_num, by rw [hnx.out]; exact K1.set2 hRow.out _, Below.setCell hBq.out (Nat.le_refl _) _⟩
                    case measure => simp [intOf]; omega
                  · by_cases c2 : X = 100
                    · have hnx := Lib.hid (hst.out.trans (stp_d (by omega)))
                      subst c2
                      replace hRow := Lib.hid hRow
                      replace hBq := Lib.hid hBq
                      replace hkq := Lib.hid hkq
                      go_wp2
                      go_roundw
                      case rel => exact ⟨0 + 1, by omega, by go_num, by rw [hnx.out]; exact K1.set3 hRow.out _, Below.setCell hBq.out (Nat.le_refl _) _⟩
                      case measure => simp [intOf]; omega
                    · by_cases c3 : X = 102
                      · have hnx := Lib.hid (hst.out.trans (stp_f (by omega)))
                        subst c3
                        replace hRow := Lib.hid hRow
                        replace hBq := Lib.hid hBq
                        replace hkq := Lib.hid hkq
                        go_wp2
                        go_roundw
                        case rel => exact ⟨0 + 1, by omega, by go_num, by rw [hnx.out]; exact K1.set4 hRow.out _, Below.setCell hBq.out (Nat.le_refl _) _⟩
                        case measure => simp [intOf]; omega
                      · have hnx := Lib.hid (hst.out.trans (stp_o (by omega) (by omega) (by omega) (by omega)))
                        have g1 : (X == 110) = false := by simp; omega
                        have g2 : (X == 100) = false := by simp; omega
                        have g3 : (X == 102) = false := by simp; omega
                        replace hRow := Lib.hid hRow
                        replace hBq := Lib.hid hBq
                        replace hkq := Lib.hid hkq
                        go_wp2
                        go_roundw
                        case rel => exact ⟨0 + 1, by omega, by go_num, by rw [hnx.out]; exact hRow.out, hBq.out⟩
                        case measure => simp [intOf]; omega
              · have hj1 : ((j : Int) == 0) = false := by simp; omega
                by_cases c1 : X = 110
                · have hnx := Lib.hid (hst.out.trans (stp_n (by omega)))
                  subst c1
                  replace hRow := Lib.hid hRow
                  replace hBq := Lib.hid hBq
                  replace hkq := Lib.hid hkq
                  go_wp2
                  go_roundw
                  case rel => exact ⟨j + 1, by omega, by go_num, by rw [hnx.out]; exact K1.set2 hRow.out _, Below.setCell hBq.out (Nat.le_refl _) _⟩
                  case measure => simp [intOf]; omega
                · by_cases c2 : X = 100
                  · have hnx := Lib.hid (hst.out.trans (stp_d (by omega)))
                    subst c2
                    replace hRow := Lib.hid hRow
                    replace hBq := Lib.hid hBq
                    replace hkq := Lib.hid hkq
                    go_wp2
                    go_roundw
                    case rel => exact ⟨j + 1, by omega, by go_num, by rw [hnx.out]; exact K1.set3 hRow.out _, Below.setCell hBq.out (Nat.le_refl _) _⟩
                    case measure => simp [intOf]; omega
                  · by_cases c3 : X = 102
                    · have hnx := Lib.hid (hst.out.trans (stp_f (by omega)))
                      subst c3
                      replace hRow := Lib.hid hRow
                      replace hBq := Lib.hid hBq
                      replace hkq := Lib.hid hkq
                      go_wp2
                      go_roundw
                      case rel => exact ⟨j + 1, by omega, by go_num, by rw [hnx.out]; exact K1.set4 hRow.out _, Below.setCell hBq.out (Nat.le_refl _) _⟩
                      case measure => simp [intOf]; omega
                    · have hnx := Lib.hid (hst.out.trans (stp_o (by omega) (by omega) (by omega) (by omega)))
                      have g1 : (X == 110) = false := by simp; omega
                      have g2 : (X == 100) = false := by simp; omega
                      have g3 : (X == 102) = false := by simp; omega
                      replace hRow := Lib.hid hRow
                      replace hBq := Lib.hid hBq
                      replace hkq := Lib.hid hkq
                      go_wp2
                      go_roundw
                      case rel => exact ⟨j + 1, by omega, by go_num, by rw [hnx.out]; exact hRow.out, hBq.out⟩
                      case measure => simp [intOf]; omega
          · obtain rfl : j = W.size := by omega
            have hO5 := Lib.hid (hO4.out.below hBq)
            have hB5 := Lib.hid (Below.next hB.out hBq)
            have hS5 := Lib.hid (hBs.out.next hBq)
            have hs5 := hB5.out.size
            have hke : kst W W.size = kS W := rfl
            rw [hke] at hRow
            obtain ⟨hk1, hk2, hk3, hk4⟩ := Row.k4 hRow (i := 0) (by simp)
            rw [gk_one] at hk1 hk2 hk3 hk4
            simp only [Nat.zero_mul, Nat.zero_add] at hk1 hk2 hk3 hk4
            have hll : (O.take i).length ≤ 100000000 := by simp; omega
            generalize hkS : kS W = k at *
            obtain ⟨k1, k2, k3, k4⟩ := k
            dsimp only at hk1 hk2 hk3 hk4
            replace hkS := Lib.hid hkS
            replace hBq := Lib.hid hBq
            replace hRow := Lib.hid hRow
            have hs6 : w.heap.size ≤ wr.heap.size + 1 := by omega
            clear hRc hke
            go_wp2_with (at_builtin; refine append_kss1 rfl _ _ rfl w.heap.size _ _ rfl (hO5.out.alloc _) wr.heap.size (k1, k2, k3, k4) rfl (by refine ⟨?_, ?_, ?_, ?_⟩ <;> simp [go_sem]) hll (by simp; omega) ?_)
            intro v6 w6 ho6 hg6
            have hB6 := Lib.hid (Below.appendedK (Below.alloc hB5.out hs5 _) (hO5.out.alloc _) hg6 (by simp; omega))
            have hS6 := Lib.hid ((hO5.out.alloc _).keepS (hS5.out.next ((Below.refl _ _).alloc (Nat.le_refl _) _)) hg6)
            have ho7 : Hid (OwnK w6 w.heap.size v6 (O.take (i + 1))) := Lib.hid (by rw [hpi.out]; exact ho6)
            clear ho6 hg6
            go_wp2
            go_roundw
            case rel => exact ⟨i + 1, by omega, by go_num, ho7.out, hB6.out, ⟨_, hS6.out⟩⟩
            case measure => simp [intOf]; omega
      · obtain rfl : i = n := by omega
        have hoO : OwnK wr w.heap.size u4 O := by
          have := hO4
          rwa [List.take_of_length_le (by rw [hol.out]; exact Nat.le_refl _)] at this
        have hlO : O.length ≤ 1000000000 := by rw [hol.out]; omega
        have hoL := Lib.hid (hoO.sl hlO)
        have hoF := Lib.hid (fun b hb => (hoO.lt b hb).1)
        have hLS := Lib.hid (l2Specs_any u4 O wr (hoO.sl hlO).rd)
        have hLT := Lib.hid (l2Text_any u4 O wr (hoO.sl hlO).rd)
        have hsB := hB.size
        have hEe := Lib.hid (fun wq => emptyK wq)
        replace hB := Lib.hid hB
        clear hO4 hBs
        obtain ⟨ao4, c4, hu4⟩ := hoO.shape
        clear hoO hlO
        subst hu4
        cases hk : okK O
        · have hR9 := hbad.out hk
          rw [hk] at hLS
          subst hR9
          replace hk := Lib.hid hk
          go_wp2_with fail
          refine hLS.out.mono ?_
          rintro e w9 ⟨rfl, rfl⟩
          go_wp2
          go_ret2
          first
          | exact ⟨_, _, rfl, hEe.out _, fun b hb => by rw [List.mem_singleton] at hb; omega, hB.out.alloc hsB _, by simp⟩
          | exact ⟨_, rfl, _, hEe.out _, fun b hb => by rw [List.mem_singleton] at hb; omega, hB.out.alloc hsB _, by simp⟩
          | exact ⟨_, rfl, _, hEe.out _, fun b hb => by rw [List.mem_singleton] at hb; omega, hB.out.alloc hsB _⟩
        · rw [hk] at hLS
          have hLT2 := Lib.hid (hLT.out hk)
          have hye := Lib.hid (hyes.out hk)
          have hnn := Lib.hid (hne.out hk)
          replace hk := Lib.hid hk
          clear hLT hyes hne
          go_wp2_with fail
          refine hLS.out.mono ?_
          rintro e w9 ⟨rfl, rfl⟩
          go_wp2_with fail
          refine hLT2.out.mono ?_
          rintro e w9 ⟨rfl, q9, rfl⟩
          by_cases ht : tK O O.length = s
          · have hR9 := hye.out ht
            have hl9 : O.length ≤ 100000000000 := by rw [hol.out]; omega
            have hrO : Hid (RKeySpecS wr (.slice ao4 O.length c4) O (Value.slice ao4 O.length c4).ownBlock.toList ∧ Fr w.heap.size (Value.slice ao4 O.length c4).ownBlock.toList) := Lib.hid ⟨⟨hoL.out, rfl⟩, fun b hb => hoF.out b (by simpa using hb)⟩
            rw [ht]
            replace ht := Lib.hid ht
            subst hR9
            go_wp2
            go_ret2
            first
            | exact ⟨_, _, rfl, hrO.out.1, hrO.out.2, Below.drewN hB.out _, hl9⟩
            | exact ⟨_, rfl, _, hrO.out.1, hrO.out.2, Below.drewN hB.out _, hl9⟩
            | exact ⟨_, rfl, _, hrO.out.1, hrO.out.2, Below.drewN hB.out _⟩
          · have hR9 := hnn.out ht
            have hnb : ((tK O O.length).toList == s.toList) = false := ne_toList ht
            subst hR9
            generalize tK O O.length = T9 at *
            replace ht := Lib.hid ht
            go_wp2
            go_ret2
            first
            | exact ⟨_, _, rfl, hEe.out _, fun b hb => by rw [List.mem_singleton] at hb; simp at hb; omega, (Below.drewN hB.out _).alloc hsB _, by simp⟩
            | exact ⟨_, rfl, _, hEe.out _, fun b hb => by rw [List.mem_singleton] at hb; simp at hb; omega, (Below.drewN hB.out _).alloc hsB _, by simp⟩
            | exact ⟨_, rfl, _, hEe.out _, fun b hb => by rw [List.mem_singleton] at hb; simp at hb; omega, (Below.drewN hB.out _).alloc hsB _⟩
  · have h4 : decide (40 < (s.size : Int)) = true := by simp; omega
    have hbR := psR_no (s := s) (fun h => h40 h.1)
    rw [hbR] at *
    go_enter Tryd.func16, Tryd.ntmps16
    go_wp2
    go_ret2
    first
    | exact ⟨_, _, rfl, hEm.out, fun b hb => by rw [List.mem_singleton] at hb; omega, hB0.out, by simp⟩
    | exact ⟨_, rfl, _, hEm.out, fun b hb => by rw [List.mem_singleton] at hb; omega, hB0.out, by simp⟩
    | exact ⟨_, rfl, _, hEm.out, fun b hb => by rw [List.mem_singleton] at hb; omega, hB0.out⟩
    | exact ⟨_, rfl, _, hEm.out, fun b hb => by rw [List.mem_singleton] at hb; omega, hB0.out⟩
end Go.Proofs.YtoeonplbgbgjmaaDoor
