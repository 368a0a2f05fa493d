/- The law's own helpers markText, markStringS, heldStringS. -/
import Derived.Test.YtoeonplbgbgjmaaDoorNumL
import Derived.Test.YtoeonplbgbgjmaaDoorRow
import Derived.Deep.RegionWith
import Derived.Laws.IdiomStrings
namespace Go.Proofs.YtoeonplbgbgjmaaDoor
open Go.RowKit
set_option linter.unusedVariables false
set_option linter.unusedSimpArgs false

/-- The text of mark k. -/
def mkT (k : Int) : ByteArray := strB (109 :: Lib.decDigits k.toNat)
def marksT (k : Int) (n : Nat) : List ByteArray := (List.range n).map fun (j : Nat) => mkT (k + (j : Int))
@[simp] theorem marksT_length (k : Int) (n : Nat) : (marksT k n).length = n := by simp [marksT]
theorem marksT_gs (k : Int) (n j : Nat) (h : j < n) : gs (marksT k n) j = mkT (k + (j : Int)) := by
  rw [gs_eq (by simpa using h)]; simp [marksT]
theorem dec_step {m : Nat} {L : List UInt8} (h : 0 < m) : Lib.decDigits m ++ L = (if m / 10 = 0 then [] else Lib.decDigits (m / 10)) ++ (UInt8.ofNat (48 + m % 10) :: L) := by
  rw [Lib.decDigits]
  by_cases h10 : m < 10
  · rw [dif_pos h10, if_pos (by omega), show m % 10 = m by omega]; rfl
  · rw [dif_neg h10, if_neg (by omega)]; simp

set_option maxHeartbeats 1000000 in
theorem markText_any (K : Nat) (w : World) (hK : 1 ≤ K) (hK2 : K ≤ 2000000000000) :
    Calls Tryd.prog 118 #[.int .i64 (K : Int)] w fun e w' => e = .returned (.string (mkT K)) ∧ Below w.heap.size w w' := by
  have hres : Hid (mkT K = strB (109 :: Lib.decDigits K)) := Lib.hid rfl
  have hneg : ¬ (K : Int) ≤ 0 := by omega
  go_enter Tryd.func118, Tryd.ntmps118
  go_wp2
  go_loopw [0, 3] (fun kv ov wr => ∃ (m : Nat) (L : List UInt8), kv = .int .i64 (m : Nat) ∧ ov = .string (strB L) ∧ m ≤ 2000000000000 ∧ L.length ≤ 100 ∧ Hid (Lib.decDigits K = (if m = 0 then [] else Lib.decDigits m) ++ L) ∧ Below w.heap.size w wr) (fun kv _ _ => (intOf kv).toNat)
  case atStart => exact ⟨K, [], rfl, rfl, hK2, by simp, Lib.hid (by rw [if_neg (by omega)]; simp), Below.refl _ _⟩
  case round =>
    obtain ⟨m, L, rfl, rfl, hm, hL, hd, hB⟩ := hrel
    have hXs : (strB L).size ≤ 200 := by rw [strB_size]; omega
    by_cases hp : 0 < m
    · have hpi : (0 : Int) < (m : Int) := by omega
      have hnx : Hid (Lib.decDigits K = (if m / 10 = 0 then [] else Lib.decDigits (m / 10)) ++ (UInt8.ofNat (48 + m % 10) :: L)) := Lib.hid (by rw [hd.out, if_neg (by omega), dec_step hp])
      obtain ⟨r, hr⟩ : ∃ r, m % 10 = r := ⟨_, rfl⟩
      obtain ⟨d, hdd⟩ : ∃ d, m / 10 = d := ⟨_, rfl⟩
      rw [hr, hdd] at hnx
      have hr10 : r < 10 := by omega
      have hmd : (m : Int) % 10 = (r : Int) := by omega
      have hdv : (m : Int) / 10 = (d : Int) := by omega
      have hmd2 : ((m : Int)).tmod 10 = (r : Int) := by rw [Int.tmod_eq_emod_of_nonneg (by omega)]; exact hmd
      have hdv2 : ((m : Int)).tdiv 10 = (d : Int) := by rw [Int.tdiv_eq_ediv_of_nonneg (by omega)]; exact hdv
      obtain ⟨b, hb⟩ : ∃ b, UInt8.ofNat (48 + r) = b := ⟨_, rfl⟩
      have hbn : (b.toNat : Int) = 48 + (r : Int) := by rw [← hb]; have := (Lib.digitVal_eq (digit_byte r hr10)); omega
      have hcv : Sem.run Tryd.prog (convert 53 9 (.slice (some ⟨wr.heap.size, 0, none⟩) 1 1)) (wr.alloc (.cells #[.int .u8 (48 + (r : Int))] 5)) = .ok (.string ⟨#[b]⟩) (wr.alloc (.cells #[.int .u8 (48 + (r : Int))] 5)) := by
        have := run_convert_bytes_back (P := Tryd.prog) (wr.alloc (.cells #[.int .u8 (48 + (r : Int))] 5)) 53 9 5 ⟨wr.heap.size, 0, none⟩ 1 [b] Tryd.underlying53 Tryd.underlying5 Tryd.underlying9 (fun j hj => by
          have : j = 0 := by simp at hj; omega
          subst this
          rw [Addr.add_lit]
          simp [go_sem, hbn])
        exact this
      have hcat : (⟨#[b]⟩ : ByteArray) ++ strB L = strB (b :: L) := by
        apply ByteArray.ext; simp [strB]
      have hYs : (strB (b :: L)).size ≤ 200 := by rw [strB_size]; simp; omega
      rw [hb] at hnx
      have hB2 := Lib.hid (hB.alloc hB.size (.cells #[.int .u8 (48 + (r : Int))] 5))
      have hLK : L.length + 1 ≤ 100 := by
        have h1 := congrArg List.length hnx.out
        simp only [List.length_append, List.length_cons] at h1
        have h2 : (Lib.decDigits K).length ≤ 20 := by rw [Lib.decDigits_length]; exact Lib.nDigits_le20 K (by omega)
        omega
      replace hb := Lib.hid hb
      replace hbn := Lib.hid hbn
      replace hr := Lib.hid hr
      replace hdd2 := Lib.hid hdd
      clear hd hB
      generalize strB L = X at *
      generalize hY : strB (b :: L) = Y at *
      have hY2 := Lib.hid hY
      clear hY
      go_wp2
      go_roundw
      case rel => exact ⟨d, b :: L, by go_num, by rw [hY2.out], by omega, by simp; omega, hnx, hB2.out⟩
      case measure => simp [intOf]; omega
    · have hm0 : m = 0 := by omega
      have hfin : Hid (mkT K = (⟨#[109]⟩ : ByteArray) ++ strB L) := Lib.hid (by
        rw [hres.out, hd.out, if_pos hm0, List.nil_append]
        apply ByteArray.ext; simp [strB])
      have hpi : ¬ (0 : Int) < (m : Int) := by omega
      replace hB := Lib.hid hB
      generalize strB L = X at *
      clear hd
      go_wp2
      go_ret
      exact ⟨by rw [hfin.out]; try rfl, hB.out⟩

set_option maxHeartbeats 1000000 in
theorem markStringS_any (v : Value) (xs : List ByteArray) (K : Nat) (w : World) (hv : Sl w 9 v (strs xs)) (hl : xs.length ≤ 100000000000) (hk0 : 1 ≤ K) (hk : K ≤ 1000000000000) :
    Calls Tryd.prog 80 #[v, .int .i64 (K : Int)] w fun e w' => e = .returned (.int .i64 ((K : Int) + xs.length)) ∧ Sl w' 9 v (strs (marksT K xs.length)) ∧ Ex v.ownBlock.toList w w' := by
  obtain ⟨ao, c, rfl, hrow⟩ := id hv
  have hcl : c ≤ maxLen := by
    rcases hrow with ⟨_, _, rfl⟩ | ⟨b, off, _, hr⟩
    · exact Nat.zero_le _
    · exact hr.capLe
  rw [strs_length] at *
  generalize hn : xs.length = n at *
  replace hn := Lib.hid hn
  replace hv := Lib.hid hv
  have hst : Hid (∀ (ys : List ByteArray) (wr : World), ys.length = n → Sl wr 9 (.slice ao n c) (strs ys) → 0 < n → ∃ b off, ao = some ⟨b, off, none⟩ ∧ Row wr 9 b off c (strs ys)) := Lib.hid (by
    rintro ys wr hy ⟨ao', c', hv', h⟩ hp
    simp at hv'
    obtain ⟨rfl, _, rfl⟩ := hv'
    rcases h with ⟨_, h, _⟩ | ⟨b, off, rfl, hr⟩
    · have : ys = [] := by simpa [strs] using h
      subst this; simp at hy; omega
    · exact ⟨b, off, rfl, hr⟩)
  clear hrow
  go_enter Tryd.func80, Tryd.ntmps80
  go_wp2
  go_loopw [1, 5] (fun m i wr => ∃ j : Nat, j ≤ n ∧ i = .int .i64 j ∧ m = .int .i64 ((K + j : Nat) : Int) ∧ Sl wr 9 (.slice ao n c) (strs (marksT K j ++ xs.drop j)) ∧ Ex (Value.slice ao n c).ownBlock.toList w wr) (fun _ i _ => n - (intOf i).toNat)
  case atStart => exact ⟨0, Nat.zero_le _, rfl, rfl, by simpa [marksT] using hv.out, Ex.refl _ _⟩
  case round =>
    obtain ⟨j, hj, rfl, rfl, hs, hg⟩ := hrel
    replace hs := Lib.hid hs
    replace hg := Lib.hid hg
    by_cases hlt : j < n
    · have hyl : (marksT K j ++ xs.drop j).length = n := by simp [hn.out]; omega
      obtain ⟨b, off, rfl, hR⟩ := hst.out _ _ hyl hs.out (by omega)
      replace hR := Lib.hid hR
      go_wp2_with fail
      refine (markText_any (K + j) wr (by omega) (by omega)).mono ?_
      rintro e w1 ⟨rfl, hb⟩
      have hR1 := hR.out.below hb hR.out.lt
      have hf := hR1.frozen (off + j)
      obtain ⟨y, hy⟩ : ∃ y, w1.cell? ⟨b, off + j, none⟩ = some y := ⟨_, hR1.cellStr (by rw [hyl]; omega)⟩
      have hg1 := Lib.hid (hg.out.trans (Ex.of_below hb))
      replace hR1 := Lib.hid hR1
      obtain ⟨T, hT⟩ : ∃ T, mkT ((K + j : Nat) : Int) = T := ⟨_, rfl⟩
      rw [hT]
      replace hT := Lib.hid hT
      clear hb
      go_wp2
      go_roundw
      case rel =>
        refine ⟨j + 1, by omega, by go_num, by go_num, ?_, ?_⟩
        · have h1 := Sl.of_row (hR1.out.setStr (i := j) (by rw [hyl]; omega) T)
          rw [strs_length, List.length_set, hyl] at h1
          have h2 : (marksT K j ++ xs.drop j).set j T = marksT K (j + 1) ++ xs.drop (j + 1) := by
            apply List.ext_getElem?
            intro i
            rw [List.getElem?_set]
            by_cases e : j = i
            · subst e
              rw [if_pos rfl, if_pos (by rw [hyl]; exact hlt), List.getElem?_append_left (by simp)]
              simp only [marksT, List.getElem?_map, List.getElem?_range (show j < j + 1 by omega), Option.map_some]
              rw [← hT.out]; simp
            · rw [if_neg e]
              by_cases h3 : i < j
              · rw [List.getElem?_append_left (by simp; omega), List.getElem?_append_left (by simp; omega)]
                simp [marksT, h3, Nat.lt_succ_of_lt h3]
              · rw [List.getElem?_append_right (by simp; omega), List.getElem?_append_right (by simp; omega)]
                simp only [marksT_length, List.getElem?_drop]
                congr 1
                omega
          rw [h2] at h1
          exact h1
        · exact hg1.out.setIn (p := ⟨b, off + j, none⟩) (by simp [Value.ownBlock])
      case measure => simp [intOf]; omega
    · obtain rfl : j = n := by omega
      go_wp2
      go_ret
      refine ⟨by simp, ?_, hg.out⟩
      have := hs.out
      rwa [List.drop_of_length_le (by rw [hn.out]; exact Nat.le_refl _), List.append_nil] at this

set_option maxHeartbeats 1000000 in
theorem heldStringS_any (v : Value) (n K : Nat) (w : World) (hv : Sl w 9 v (strs (marksT K n))) (hl : n ≤ 100000000000) (hk0 : 1 ≤ K) (hk : K ≤ 1000000000000) :
    Calls Tryd.prog 81 #[v, .int .i64 (K : Int)] w fun e w' => e = .returned (.int .i64 ((K : Int) + n)) ∧ Below w.heap.size w w' := by
  obtain ⟨ao, c, rfl, hrow⟩ := hv
  rw [strs_length, marksT_length]
  have hst : Hid (0 < n → ∃ b off, ao = some ⟨b, off, none⟩ ∧ Row w 9 b off c (strs (marksT K n))) := Lib.hid (fun hp => by
    rcases hrow with ⟨_, h, _⟩ | h
    · have : (marksT K n).length = 0 := by have := congrArg List.length h; simpa using this
      rw [marksT_length] at this; omega
    · exact h)
  have hcl : c ≤ maxLen := by
    rcases hrow with ⟨_, _, rfl⟩ | ⟨b, off, _, hr⟩
    · exact Nat.zero_le _
    · exact hr.capLe
  clear hrow
  go_enter Tryd.func81, Tryd.ntmps81
  go_wp2
  go_loopw [1, 5] (fun m i wr => ∃ j : Nat, j ≤ n ∧ i = .int .i64 j ∧ m = .int .i64 ((K + j : Nat) : Int) ∧ Below w.heap.size w wr) (fun _ i _ => n - (intOf i).toNat)
  case atStart => exact ⟨0, Nat.zero_le _, rfl, rfl, Below.refl _ _⟩
  case round =>
    obtain ⟨j, hj, rfl, rfl, hB⟩ := hrel
    by_cases hlt : j < n
    · obtain ⟨b, off, rfl, hR⟩ := hst.out (by omega)
      have hR1 := hR.below hB hR.lt
      have hc1 : wr.cell? ⟨b, off + j, none⟩ = some (.string (mkT ((K + j : Nat) : Int))) := by
        rw [hR1.cellStr (by simpa using hlt), marksT_gs _ _ _ hlt]
        congr 2
      have hblt := hR1.lt
      have hmt := Lib.hid (fun wq => markText_any (K + j) wq (by omega) (by omega))
      obtain ⟨T, hT⟩ : ∃ T, mkT ((K + j : Nat) : Int) = T := ⟨_, rfl⟩
      rw [hT] at hmt hc1
      replace hT := Lib.hid hT
      have hB1 : Hid (Below w.heap.size w wr.drew) := Lib.hid (Below.drewN hB 1)
      replace hB := Lib.hid hB
      obtain ⟨N, hN⟩ : ∃ N, N = K + j := ⟨_, rfl⟩
      rw [← hN] at hmt ⊢
      have hNb : N ≤ 2000000000000 := by omega
      have hN1 : K + (j + 1) = N + 1 := by omega
      replace hN1 := Lib.hid hN1
      replace hN := Lib.hid hN
      clear hR hR1
      go_wp2
      go_region_with (go_at_call 118; refine (hmt.out _).mono ?_; rintro e w' ⟨rfl, hb⟩; have hc2 := (hb.cell (p := ⟨b, off + j, none⟩) hblt).trans hc1; have hB2 := Lib.hid (Below.next hB1.out hb); clear hb)
      all_goals go_wp2
      all_goals go_roundw
      all_goals first
        | exact ⟨j + 1, by omega, by go_num, by rw [hN1.out]; go_num, by first | exact hB2.out | exact Below.drewN hB2.out _⟩
        | (simp [intOf]; omega)
    · obtain rfl : j = n := by omega
      go_wp2
      go_ret
      exact ⟨by simp, hB⟩

/-- The strings bear the marks from k to k'. -/
def MkStringS (k k' : Int) (y : List ByteArray) : Prop := ∃ K n : Nat, k = (K : Int) ∧ 1 ≤ K ∧ y = marksT K n ∧ k' = k + n ∧ n ≤ 100000000000
theorem mkT_size (K : Nat) (h : K ≤ 2000000000000) : (mkT (K : Int)).size ≤ 30 := by
  unfold mkT
  rw [strB_size]
  have h2 : (Lib.decDigits K).length ≤ 20 := by rw [Lib.decDigits_length]; exact Lib.nDigits_le20 K (by omega)
  simp only [Int.toNat_natCast, List.length_cons]
  omega
theorem markStringS_law {v : Value} {x : List ByteArray} {F : List Nat} {w : World} {k : Int} (h : RStringS w v x F) (hl : x.length ≤ 100000000000) (h0 : 1 ≤ k) (hk : k ≤ 1000000000000) :
    Calls Tryd.prog 80 #[v, .int .i64 k] w fun e w' => ∃ y k', e = .returned (.int .i64 k') ∧ RStringS w' v y F ∧ MkStringS k k' y ∧ k ≤ k' ∧ k' ≤ k + x.length ∧ Ex F w w' := by
  obtain ⟨K, rfl⟩ := Int.eq_ofNat_of_zero_le (show 0 ≤ k by omega)
  obtain ⟨⟨h1, _⟩, rfl⟩ := h
  refine (markStringS_any v x K w h1 hl (by omega) (by omega)).mono ?_
  rintro e w' ⟨he, hs, hg⟩
  refine ⟨_, _, he, ⟨⟨hs, fun i hi => ?_⟩, rfl⟩, ⟨K, x.length, rfl, by omega, rfl, rfl, hl⟩, by omega, by omega, hg⟩
  have hi' : i < x.length := by simpa using hi
  rw [marksT_gs _ _ _ hi']
  have := mkT_size (K + i) (by omega)
  have e1 : ((K : Int) + (i : Int)) = ((K + i : Nat) : Int) := by omega
  rw [e1]
  unfold maxLen; omega
theorem heldStringS_law {v : Value} {y : List ByteArray} {F : List Nat} {w : World} {k k' : Int} (h : RStringS w v y F) (m : MkStringS k k' y) (_h0 : 0 ≤ k) (hk : k ≤ 1000000000000) :
    Calls Tryd.prog 81 #[v, .int .i64 k] w fun e w' => e = .returned (.int .i64 k') ∧ Below w.heap.size w w' := by
  obtain ⟨K, n, rfl, hK, rfl, rfl, hn⟩ := m
  exact heldStringS_any v n K w h.1.1 hn hK (by omega)
end Go.Proofs.YtoeonplbgbgjmaaDoor
