/- spec.l1Split: the parts of a text between bytes. -/
import Derived.Test.YtoeonplbgbgjmaaDoorSplL
import Derived.Test.YtoeonplbgbgjmaaDoorStr
import Derived.Test.YtoeonplbgbgjmaaDoorIntSS
namespace Go.Proofs.YtoeonplbgbgjmaaDoor
open Go.RowKit
set_option linter.unusedVariables false
set_option linter.unusedSimpArgs false

theorem infoString : (Tryd.prog.info? 9).map (fun i => (i.zero, i.size, i.bytes)) = some (some (.string ByteArray.empty), 1, 16) := by kernel_rfl
theorem eltStr : EltOk 34 9 := by
  obtain ⟨i, h1, h2, h3, h4⟩ := info_parts infoString
  exact ⟨i, _, 16, Tryd.underlying34, h1, h2, h3, h4, by omega, rfl⟩
theorem strs_snoc (x : List ByteArray) (y : ByteArray) : strs (x ++ [y]) = strs x ++ [.string y] := by simp [strs]

set_option maxHeartbeats 4000000 in
theorem l1Split_any (s : ByteArray) (c : UInt8) (w : World) (hs : s.size ≤ 1048576) :
    Calls Tryd.prog 67 #[.string s, .int .u8 (c.toNat : Int)] w fun e w' => ∃ r, e = .returned r ∧ Own w' 9 w.heap.size r (strs (parts c s)) ∧ Below w.heap.size w w' := by
  have hcn := Lib.hid (fun (a : UInt8) (h : ¬ a = c) => fun (e : (a.toNat : Int) = (c.toNat : Int)) => h (UInt8.toNat_inj.1 (by omega)))
  have hO0 := Lib.hid (Own.empty w 9)
  have hB0 := Lib.hid ((Below.refl w.heap.size w).alloc (Nat.le_refl _) (.cells #[] 9))
  obtain ⟨P, hP⟩ : ∃ P, parts c s = P := ⟨_, rfl⟩
  rw [hP]
  replace hP := Lib.hid hP
  go_enter Tryd.func67, Tryd.ntmps67
  go_wp2
  go_loopw [5, 6, 7] (fun o fv iv wr => ∃ (i f : Nat) (L : List ByteArray), f ≤ i ∧ i ≤ s.size ∧ iv = .int .i64 (i : Nat) ∧ fv = .int .i64 (f : Nat) ∧ Own wr 9 w.heap.size o (strs L) ∧ L.length ≤ i ∧ Below w.heap.size w wr ∧
    Hid (L ++ (spl c (sub s.data.toList f i) (s.data.toList.drop i)).map strB = P)) (fun _ _ iv _ => s.size - (intOf iv).toNat)
  case atStart => exact ⟨0, 0, [], Nat.le_refl _, Nat.zero_le _, rfl, rfl, hO0.out, Nat.zero_le _, hB0.out, Lib.hid (by rw [← hP.out, sub_none]; rfl)⟩
  case round =>
    clear hO0 hB0
    obtain ⟨i, f, L, hfi, hi, rfl, rfl, hO, hL, hB, hR⟩ := hrel
    have hsz : w.heap.size ≤ wr.heap.size := hB.size
    replace hO := Lib.hid hO
    replace hB := Lib.hid hB
    by_cases hlt : i < s.size
    · have hdr : Hid (s.data.toList.drop i = s[i] :: s.data.toList.drop (i + 1)) := Lib.hid (by
        rw [List.drop_eq_getElem_cons (by rw [size_toList]; exact hlt)]; rfl)
      by_cases hb : s[i] = c
      · have hbe : ((s[i].toNat : Int) == (c.toNat : Int)) = true := by rw [hb]; simp
        have hnx : Hid ((L ++ [s.extract f i]) ++ (spl c (sub s.data.toList (i + 1) (i + 1)) (s.data.toList.drop (i + 1))).map strB = P) := Lib.hid (by
          have h := hR.out
          rw [hdr.out, hb, spl_hit] at h
          rw [sub_none, ← sub_bytes]
          simpa using h)
        have hsl : (strs L).length ≤ 1000000000 := by rw [strs_length]; omega
        have hfi2 : (f : Int) ≤ (i : Int) := by omega
        have hlt2 : i ≤ s.size := by omega
        obtain ⟨x, hx⟩ : ∃ x, s.extract f i = x := ⟨_, rfl⟩
        rw [hx] at hnx
        replace hb := Lib.hid hb
        clear hR hdr hcn
        go_wp2_with (at_builtin; refine append_one_at eltStr rfl _ _ rfl w.heap.size _ _ rfl hO.out rfl rfl hsl hsz ?_)
        intro v' w1 ho hg hat
        have hB1 := Lib.hid (Below.appended hB.out hO.out hg hsz)
        rw [← strs_snoc] at ho
        replace ho := Lib.hid ho
        clear hg hat
        go_wp2
        go_roundw
        case rel => exact ⟨i + 1, i + 1, L ++ [x], Nat.le_refl _, by omega, by go_num, by go_num, ho.out, by simp; omega, hB1.out, hnx⟩
        case measure => simp [intOf]; omega
      · have hbe : ((s[i].toNat : Int) == (c.toNat : Int)) = false := by rw [beq_eq_false_iff_ne]; exact hcn.out _ hb
        have hnx : Hid (L ++ (spl c (sub s.data.toList f (i + 1)) (s.data.toList.drop (i + 1))).map strB = P) := Lib.hid (by
          have h := hR.out
          rw [hdr.out, spl_go hb] at h
          rw [sub_next _ _ _ hfi (by rw [size_toList]; exact hlt)]
          exact h)
        replace hb := Lib.hid hb
        clear hR hdr
        go_wp2
        go_roundw
        case rel => exact ⟨i + 1, f, L, by omega, by omega, by go_num, rfl, hO.out, by omega, hB.out, hnx⟩
        case measure => simp [intOf]; omega
    · obtain rfl : i = s.size := by omega
      have hfin : Hid (P = L ++ [s.extract f s.size]) := Lib.hid (by
        have h := hR.out
        rw [List.drop_of_length_le (by rw [size_toList]; exact Nat.le_refl _), spl] at h
        rw [← h, ← sub_bytes]; rfl)
      have hsl : (strs L).length ≤ 1000000000 := by rw [strs_length]; omega
      have hfi2 : (f : Int) ≤ (s.size : Int) := by omega
      obtain ⟨x, hx⟩ : ∃ x, s.extract f s.size = x := ⟨_, rfl⟩
      rw [hx] at hfin
      clear hR hcn
      go_wp2_with (at_builtin; refine append_one_at eltStr rfl _ _ rfl w.heap.size _ _ rfl hO.out rfl rfl hsl hsz ?_)
      intro v' w1 ho hg hat
      have hB1 := Lib.hid (Below.appended hB.out hO.out hg hsz)
      rw [← strs_snoc, ← hfin.out] at ho
      replace ho := Lib.hid ho
      clear hg hat
      go_wp2
      go_ret
      exact ⟨_, rfl, ho.out, hB1.out⟩
end Go.Proofs.YtoeonplbgbgjmaaDoor
