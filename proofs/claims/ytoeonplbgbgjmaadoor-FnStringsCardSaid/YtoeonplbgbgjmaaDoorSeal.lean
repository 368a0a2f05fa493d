/- AppendChecksum: both sides. -/
import Derived.Test.YtoeonplbgbgjmaaDoorHasC
import Derived.Test.YtoeonplbgbgjmaaDoorNum
import Derived.Test.YtoeonplbgbgjmaaDoorCk
namespace Go.Proofs.YtoeonplbgbgjmaaDoor
open Go.RowKit
set_option linter.unusedVariables false
set_option linter.unusedSimpArgs false

/-- A string with its checksum. -/
def sealB (s : ByteArray) : ByteArray := (s ++ ⟨#[35]⟩) ++ strB (Lib.itoa (ckSum s.data.toList))
/-- The result of AppendChecksum. -/
def acR (s : ByteArray) : ByteArray × Bool := if s.size ≤ 4000 then (if hasC s 35 then (ByteArray.empty, false) else if (sealB s).size ≤ 4000 then (sealB s, true) else (ByteArray.empty, false)) else (ByteArray.empty, false)
theorem size_hash : (⟨#[35]⟩ : ByteArray).size = 1 := rfl
theorem ck_dec (l : List UInt8) : decB (ckSum l) = true := by have := ckSum_bd l; rw [decB_iff]; omega
theorem ck_text (l : List UInt8) : (strB (Lib.itoa (ckSum l))).size ≤ 7 := by rw [strB_size]; exact itoa_len7 (ck_dec l)

set_option maxHeartbeats 1000000 in
theorem l1Seal_any (s : ByteArray) (w : World) (hs : s.size ≤ 1048576) :
    Calls Tryd.prog 94 #[.string s] w fun e w' => e = .returned (.string (sealB s)) ∧ ∃ q, w' = w.drewN q := by
  have hc := l1Num_any (ckSum s.data.toList) w (decB_iff.1 (ck_dec _))
  have ht := ck_text s.data.toList
  unfold sealB
  have hsum := l1Sum_any s w (by unfold maxLen; omega)
  generalize hT : strB (Lib.itoa (ckSum s.data.toList)) = T at *
  generalize ckSum s.data.toList = h at *
  obtain ⟨A, hA⟩ : ∃ A : ByteArray, s ++ (⟨#[35]⟩ : ByteArray) = A := ⟨_, rfl⟩
  have hAs : A.size ≤ 1048577 := by rw [← hA, ByteArray.size_append, size_hash]; omega
  rw [hA]
  replace hc := Lib.hid hc
  replace hsum := Lib.hid hsum
  replace hT := Lib.hid hT
  go_enter Tryd.func94, Tryd.ntmps94
  go_wp2_with fail
  refine hsum.out.mono ?_
  rintro e w' ⟨rfl, rfl⟩
  go_wp2_with fail
  refine hc.out.mono ?_
  rintro e w' ⟨rfl, q, rfl⟩
  go_wp2
  go_ret
  exact ⟨rfl, q, rfl⟩

set_option maxHeartbeats 1000000 in
theorem spec_AppendChecksum_law {s : ByteArray} {w : World} (hs : s.size ≤ 1048576) :
    Calls Tryd.prog 49 #[.string s] w fun e w' => e = .returned (.tuple #[.string (acR s).1, .bool (acR s).2]) ∧ Below w.heap.size w w' := by
  by_cases h1 : s.size ≤ 4000
  · have h1i : decide (4000 < (s.size : Int)) = false := by simp; omega
    have hst := Lib.hid (l1Stands_any s 35 w hs)
    have hse := Lib.hid (fun w => l1Seal_any s w hs)
    have hbs : (sealB s).size ≤ 4008 := by unfold sealB; have := ck_text s.data.toList; rw [ByteArray.size_append, ByteArray.size_append, size_hash]; omega
    cases h2 : hasC s 35
    · by_cases h3 : (sealB s).size ≤ 4000
      · have e0 : acR s = (sealB s, true) := by simp [acR, h1, h2, h3]
        rw [e0]
        generalize sealB s = R at *
        have h3i : decide (4000 < (R.size : Int)) = false := by simp; omega
        go_enter Tryd.func49, Tryd.ntmps49
        go_wp2_with fail
        refine hst.out.mono ?_
        rintro e w' ⟨rfl, rfl⟩
        rw [h2]
        go_wp2_with fail
        refine (hse.out _).mono ?_
        rintro e w' ⟨rfl, q, rfl⟩
        go_wp2_with fail
        refine (hse.out _).mono ?_
        rintro e w' ⟨rfl, q2, rfl⟩
        go_wp2
        go_ret2
        exact ⟨rfl, Below.quiet ⟨_, by first | rfl | exact World.drewN_drewN ..⟩⟩
      · have e0 : acR s = (ByteArray.empty, false) := by simp [acR, h1, h2, h3]
        rw [e0]
        generalize sealB s = R at *
        have h3i : decide (4000 < (R.size : Int)) = true := by simp; omega
        go_enter Tryd.func49, Tryd.ntmps49
        go_wp2_with fail
        refine hst.out.mono ?_
        rintro e w' ⟨rfl, rfl⟩
        rw [h2]
        go_wp2_with fail
        refine (hse.out _).mono ?_
        rintro e w' ⟨rfl, q, rfl⟩
        go_wp2
        go_ret2
        exact ⟨rfl, Below.quiet ⟨_, rfl⟩⟩
    · have e0 : acR s = (ByteArray.empty, false) := by simp [acR, h1, h2]
      rw [e0]
      go_enter Tryd.func49, Tryd.ntmps49
      go_wp2_with fail
      refine hst.out.mono ?_
      rintro e w' ⟨rfl, rfl⟩
      rw [h2]
      go_wp2
      go_ret2
      exact ⟨rfl, Below.refl _ _⟩
  · have e0 : acR s = (ByteArray.empty, false) := by simp [acR, h1]
    rw [e0]
    have h1i : decide (4000 < (s.size : Int)) = true := by simp; omega
    go_enter Tryd.func49, Tryd.ntmps49
    go_wp2
    go_ret2
    exact ⟨rfl, Below.refl _ _⟩

set_option maxHeartbeats 1000000 in
theorem impl_AppendChecksum_law {s : ByteArray} {w : World} (hs : s.size ≤ 1048576) (hT : Tab w) :
    Calls Tryd.prog 48 #[.string s] w fun e w' => e = .returned (.tuple #[.string (acR s).1, .bool (acR s).2]) ∧ Below w.heap.size w w' := by
  obtain ⟨A, hA⟩ : ∃ A : ByteArray, s ++ (⟨#[35]⟩ : ByteArray) = A := ⟨_, rfl⟩
  have hAs : A.size ≤ 1048577 := by rw [← hA, ByteArray.size_append, size_hash]; omega
  have hck := Lib.hid (impl_Checksum_any s w)
  have hcon := Lib.hid (fun w => contains1_any s 35 w)
  have hex := Lib.hid (below_grow w)
  replace hT := Lib.hid hT
  by_cases h1 : s.size ≤ 4000
  · have hr : ckR s = (ckSum s.data.toList, true) := by simp [ckR, h1]
    rw [hr] at hck
    have ht := ck_text s.data.toList
    have hbd := ckSum_bd s.data.toList
    have hit := itoa_any (ckSum s.data.toList) w (by omega) hT.out
    have hac : acR s = if hasC s 35 then (ByteArray.empty, false) else if (A ++ strB (Lib.itoa (ckSum s.data.toList))).size ≤ 4000 then (A ++ strB (Lib.itoa (ckSum s.data.toList)), true) else (ByteArray.empty, false) := by
      rw [acR, if_pos h1]; unfold sealB; rw [hA]
    generalize strB (Lib.itoa (ckSum s.data.toList)) = T at *
    generalize ckSum s.data.toList = h at *
    obtain ⟨R, hR⟩ : ∃ R : ByteArray, A ++ T = R := ⟨_, rfl⟩
    have hRs : R.size ≤ 1048590 := by rw [← hR, ByteArray.size_append]; omega
    rw [hR] at hac
    replace hit := Lib.hid hit
    clear hbd hr
    cases h2 : hasC s 35
    · by_cases h3 : R.size ≤ 4000
      · have e0 : acR s = (R, true) := by simp [hac, h2, h3]
        rw [e0]
        have h3i : decide (4000 < (R.size : Int)) = false := by simp; omega
        clear hac e0
        go_enter Tryd.func48, Tryd.ntmps48
        go_wp2_with fail
        refine hck.out.mono ?_
        rintro e w' ⟨rfl, rfl⟩
        go_wp2_with fail
        refine hit.out.mono ?_
        rintro e w' ⟨rfl, hb⟩
        replace hb := Lib.hid hb
        go_wp2_with fail
        refine (hcon.out _).mono ?_
        rintro e w' ⟨rfl, rfl⟩
        rw [h2]
        go_wp2
        go_ret2
        exact ⟨rfl, hb.out⟩
      · have e0 : acR s = (ByteArray.empty, false) := by simp [hac, h2, h3]
        rw [e0]
        have h3i : decide (4000 < (R.size : Int)) = true := by simp; omega
        clear hac e0
        go_enter Tryd.func48, Tryd.ntmps48
        go_wp2_with fail
        refine hck.out.mono ?_
        rintro e w' ⟨rfl, rfl⟩
        go_wp2_with fail
        refine hit.out.mono ?_
        rintro e w' ⟨rfl, hb⟩
        replace hb := Lib.hid hb
        go_wp2_with fail
        refine (hcon.out _).mono ?_
        rintro e w' ⟨rfl, rfl⟩
        rw [h2]
        go_wp2
        go_ret2
        exact ⟨rfl, hb.out⟩
    · have e0 : acR s = (ByteArray.empty, false) := by simp [hac, h2]
      rw [e0]
      clear hac e0
      go_enter Tryd.func48, Tryd.ntmps48
      go_wp2_with fail
      refine hck.out.mono ?_
      rintro e w' ⟨rfl, rfl⟩
      go_wp2_with fail
      refine hit.out.mono ?_
      rintro e w' ⟨rfl, hb⟩
      replace hb := Lib.hid hb
      go_wp2_with fail
      refine (hcon.out _).mono ?_
      rintro e w' ⟨rfl, rfl⟩
      rw [h2]
      go_wp2
      go_ret2
      exact ⟨rfl, hb.out⟩
  · have hr : ckR s = (0, false) := by simp [ckR, h1]
    rw [hr] at hck
    have e0 : acR s = (ByteArray.empty, false) := by simp [acR, h1]
    rw [e0]
    have hit := itoa_any 0 w (by omega) hT.out
    have ht : (strB (Lib.itoa 0)).size ≤ 7 := by rw [strB_size]; exact itoa_len7 (by decide)
    generalize strB (Lib.itoa 0) = T at *
    obtain ⟨R, hR⟩ : ∃ R : ByteArray, A ++ T = R := ⟨_, rfl⟩
    replace hit := Lib.hid hit
    go_enter Tryd.func48, Tryd.ntmps48
    go_wp2_with fail
    refine hck.out.mono ?_
    rintro e w' ⟨rfl, rfl⟩
    go_wp2_with fail
    refine hit.out.mono ?_
    rintro e w' ⟨rfl, hb⟩
    replace hb := Lib.hid hb
    go_wp2
    go_ret2
    exact ⟨rfl, hb.out⟩
end Go.Proofs.YtoeonplbgbgjmaaDoor
