/- ParseInt, spec: l1Read. -/
import Derived.Test.YtoeonplbgbgjmaaDoorPInt
import Derived.Deep.CutRange
namespace Go.Proofs.YtoeonplbgbgjmaaDoor
open Go.RowKit
set_option linter.unusedVariables false
set_option linter.unusedSimpArgs false

/-- What is read ends as piR says. -/
def endR (s : ByteArray) (o : Option Int) : Int × Bool := match o with
  | some v => if Lib.itoa v = s.data.toList then (v, true) else (0, false)
  | none => (0, false)
theorem piR_end (s : ByteArray) : piR s = endR s (readO s.data.toList) := piR_read s
theorem dig_yes {b : UInt8} (h : 48 ≤ b.toNat ∧ b.toNat ≤ 57) : Lib.digitVal b = some (b.toNat - 48) := by simp [Lib.digitVal, h]
theorem dig_no {b : UInt8} (h : ¬ (48 ≤ b.toNat ∧ b.toNat ≤ 57)) : Lib.digitVal b = none := by
  unfold Lib.digitVal
  rw [if_neg h]
theorem dec_stop {l : List UInt8} {k : Nat} {b : UInt8} (hb : l[k]? = some b) (hn : Lib.digitVal b = none) : Lib.decFrom 0 l = none := by
  cases h : Lib.decFrom 0 l with
  | none => rfl
  | some m =>
    obtain ⟨d, hd⟩ := Lib.digit_of_decFrom l 0 m h k b hb
    rw [hn] at hd; cases hd
theorem dec_bd {l : List UInt8} {k m : Nat} (h : Lib.decFrom 0 (l.take k) = some m) (hk : k ≤ 6) : m ≤ 999999 := decFrom6 h (by simp; omega)

theorem drop_one_toList (s : ByteArray) : (s.extract 1 s.size).data.toList = s.data.toList.drop 1 := by
  rw [ByteArray.data_extract, Array.toList_extract]
  rw [List.extract_eq_take_drop, List.take_of_length_le (by simp)]
theorem readO_yes {s : ByteArray} (h : 1 < s.size) (h45 : s[0] = 45) : readO s.data.toList = readT true (s.extract 1 s.size).data.toList := by
  have hs : signB s.data.toList = true := by
    unfold signB
    rw [size_toList, decide_eq_true h, Bool.true_and]
    refine decide_eq_true ?_
    rw [List.head?_eq_getElem?]
    show s.data.toList[0]? = _
    rw [List.getElem?_eq_getElem (by rw [size_toList]; omega)]
    congr 1
  unfold readO
  rw [if_pos hs, drop_one_toList]
theorem readO_no {s : ByteArray} (h : ∀ h1 : 1 < s.size, s[0] ≠ 45) : readO s.data.toList = readT false s.data.toList := by
  have hs : ¬ signB s.data.toList = true := by
    unfold signB
    rw [size_toList]
    intro hh
    rw [Bool.and_eq_true] at hh
    have h1 := of_decide_eq_true hh.1
    have h2 := of_decide_eq_true hh.2
    rw [List.head?_eq_getElem?] at h2
    rw [List.getElem?_eq_getElem (by rw [size_toList]; omega)] at h2
    apply h h1
    exact Option.some.inj h2
  unfold readO
  rw [if_neg hs]

set_option maxHeartbeats 4000000 in
theorem l1Read_neg (s t : ByteArray) (w : World) (hs : s.size ≤ 1048576) (h1 : 1 < s.size) (h45 : s[0] = 45) (ht : t = s.extract 1 s.size) (R : Int × Bool) (hR : endR s (readT true t.data.toList) = R) :
    Calls Tryd.prog 92 #[.string s] w fun e w' => e = .returned (.tuple #[.int .i64 R.1, .bool R.2]) ∧ Below w.heap.size w w' := by
  have e1 : t.size = s.size - 1 := by rw [ht]; simp [ByteArray.size_extract]
  have hneg : Hid (decide ((t.size : Int) < (s.size : Int)) = true) := Lib.hid (by rw [e1]; simp; omega)
  have hts : t.size ≤ 1048576 := by omega
  have hex : s.extract 1 s.size = t := ht.symm
  replace hR := Lib.hid hR
  have h1i : (1 : Int) < (s.size : Int) := by omega
  have hd1 : decide ((1 : Int) < (s.size : Int)) = true := by simp; omega
  have hbe : ((s[0].toNat : Int) == 45) = true := by rw [h45]; decide
  replace h45 := Lib.hid h45
  replace e1 := Lib.hid e1
  clear ht
  go_enter Tryd.func92, Tryd.ntmps92
  by_cases hlen : 1 ≤ t.size ∧ t.size ≤ 6
  · have hin : inB (t.size : Int) 1 6 = true := inB_iff.2 (by omega)
    have hrd : Hid (readT true t.data.toList = (Lib.decFrom 0 t.data.toList).map fun (m : Nat) => if true then -(m : Int) else (m : Int)) := Lib.hid (by unfold readT; rw [if_pos (by rw [size_toList]; exact hlen)])
    have ht6 : t.size ≤ 6 := hlen.2
    go_wp2_with fail
    refine (l1In_any _ _ _ _).mono ?_
    rintro e w' ⟨rfl, rfl⟩
    rw [hin]
    go_wp2
    go_loop [5, 6] (fun n i => ∃ k m : Nat, k ≤ t.size ∧ i = .int .i64 k ∧ n = .int .i64 m ∧ Lib.decFrom 0 (t.data.toList.take k) = some m) (fun _ i => t.size - (intOf i).toNat)
    case atStart => exact ⟨0, 0, Nat.zero_le _, rfl, rfl, rfl⟩
    case round =>
      obtain ⟨k, m, hk, rfl, rfl, hd⟩ := hrel
      have hmb := dec_bd hd (by omega)
      replace hd := Lib.hid hd
      by_cases hlt : k < t.size
      · have hget : Hid (t.data.toList[k]? = some t[k]) := Lib.hid (by rw [List.getElem?_eq_getElem (by rw [size_toList]; exact hlt)]; rfl)
        generalize hbb : t[k] = b at *
        have hb256 := b.toNat_lt
        by_cases hdg : 48 ≤ b.toNat ∧ b.toNat ≤ 57
        · have hnx : Hid (Lib.decFrom 0 (t.data.toList.take (k + 1)) = some (m * 10 + (b.toNat - 48))) := Lib.hid (Lib.decFrom_take _ _ _ _ _ _ hd.out hget.out (dig_yes hdg))
          obtain ⟨D, hD⟩ : ∃ D, b.toNat = D + 48 := ⟨b.toNat - 48, by omega⟩
          have hD9 : D ≤ 9 := by omega
          have hbi : (b.toNat : Int) = (D : Int) + 48 := by omega
          have z1 : decide ((b.toNat : Int) < 48) = false := by simp; omega
          have z2 : decide ((57 : Int) < (b.toNat : Int)) = false := by simp; omega
          have z3 : IntKind.u8.wrap ((b.toNat : Int) - 48) = (D : Int) := by rw [hbi, show (D : Int) + 48 - 48 = (D : Int) by omega]; exact IntWalk.u8_in _ (by omega)
          have z4 : IntKind.i64.wrap (D : Int) = (D : Int) := IntWalk.i64_in _ (by omega)
          rw [show b.toNat - 48 = D by omega] at hnx
          clear hbi
          replace hD := Lib.hid hD
          replace hdg := Lib.hid hdg
          replace hbb2 := Lib.hid hbb
          go_wp2
          go_round
          case rel => exact ⟨k + 1, m * 10 + D, by omega, by go_num, by go_num, hnx.out⟩
          case measure => simp [intOf]; omega
        · have hbad : Hid (R = (0, false)) := Lib.hid (by rw [← hR.out, hrd.out, dec_stop hget.out (dig_no hdg)]; rfl)
          by_cases h48 : b.toNat < 48
          · have z1 : decide ((b.toNat : Int) < 48) = true := by simp; omega
            replace hdg := Lib.hid hdg
            go_wp2
            go_ret2
            exact ⟨by rw [hbad.out]; try rfl, Below.refl _ _⟩
          · have z1 : decide ((b.toNat : Int) < 48) = false := by simp; omega
            have z2 : decide ((57 : Int) < (b.toNat : Int)) = true := by simp; omega
            replace hdg := Lib.hid hdg
            go_wp2
            go_ret2
            exact ⟨by rw [hbad.out]; try rfl, Below.refl _ _⟩
      · obtain rfl : k = t.size := by omega
        have hall : Lib.decFrom 0 t.data.toList = some m := by
          have := hd.out
          rwa [List.take_of_length_le (by rw [size_toList]; exact Nat.le_refl _)] at this
        obtain ⟨V, hV⟩ : ∃ V : Int, (if true then -(m : Int) else (m : Int)) = V := ⟨_, rfl⟩
        have hend : R = if Lib.itoa V = s.data.toList then (V, true) else (0, false) := by
          rw [← hR.out, hrd.out, hall]
          show endR s (some (if true then -(m : Int) else (m : Int))) = _
          rw [hV]; rfl
        have hVb : -999999 ≤ V ∧ V ≤ 999999 := by rw [← hV]; split <;> omega
        have hnum := Lib.hid (fun w => l1Num_any V w hVb)
        have hneg2 := hneg.out
        have hneg3 : (t.size : Int) < (s.size : Int) := of_decide_eq_true hneg.out
        have hneg4 : t.size < s.size := by omega
        have hV2 : -(m : Int) = V := by rw [← hV]; rfl
        replace hV := Lib.hid hV
        clear hall
        by_cases hit : Lib.itoa V = s.data.toList
        · rw [if_pos hit] at hend
          rw [hit, strB_toList] at hnum
          replace hend := Lib.hid hend
          replace hit := Lib.hid hit
          go_wp2_with fail
          first | rw [hV2] | skip
          refine (hnum.out _).mono ?_
          rintro e w' ⟨rfl, q, rfl⟩
          go_wp2
          go_ret2
          exact ⟨by rw [hend.out]; try rfl, Below.quiet ⟨_, rfl⟩⟩
        · rw [if_neg hit] at hend
          obtain ⟨T, hT0⟩ : ∃ T, strB (Lib.itoa V) = T := ⟨_, rfl⟩
          have hnb : (T.toList == s.toList) = false := ne_toList (fun h => hit (strB_inj.1 (hT0.trans h)))
          rw [hT0] at hnum
          replace hend := Lib.hid hend
          replace hit := Lib.hid hit
          replace hT0 := Lib.hid hT0
          go_wp2_with fail
          first | rw [hV2] | skip
          refine (hnum.out _).mono ?_
          rintro e w' ⟨rfl, q, rfl⟩
          go_wp2
          go_ret2
          exact ⟨by rw [hend.out]; try rfl, Below.quiet ⟨_, rfl⟩⟩
  · have hin : inB (t.size : Int) 1 6 = false := by
      cases h : inB (t.size : Int) 1 6
      · rfl
      · exact absurd (inB_iff.1 h) (by omega)
    have hbad : Hid (R = (0, false)) := Lib.hid (by
      rw [← hR.out]; unfold readT; rw [if_neg (by rw [size_toList]; exact hlen)]; rfl)
    go_wp2_with fail
    refine (l1In_any _ _ _ _).mono ?_
    rintro e w' ⟨rfl, rfl⟩
    rw [hin]
    go_wp2
    go_ret2
    exact ⟨by rw [hbad.out]; try rfl, Below.refl _ _⟩

set_option maxHeartbeats 4000000 in
theorem l1Read_pos (t s : ByteArray) (w : World) (hst : s = t) (hs : t.size ≤ 1048576) (hno : ∀ h1 : 1 < t.size, t[0] ≠ 45) (R : Int × Bool) (hR : endR s (readT false t.data.toList) = R) :
    Calls Tryd.prog 92 #[.string t] w fun e w' => e = .returned (.tuple #[.int .i64 R.1, .bool R.2]) ∧ Below w.heap.size w w' := by
  subst hst
  have hneg : Hid (decide ((s.size : Int) < (s.size : Int)) = false) := Lib.hid (by simp)
  replace hR := Lib.hid hR
  by_cases h1 : 1 < s.size
  · have h1i : (1 : Int) < (s.size : Int) := by omega
    have hd1 : decide ((1 : Int) < (s.size : Int)) = true := by simp; omega
    have hbe : ((s[0].toNat : Int) == 45) = false := by
      rw [beq_eq_false_iff_ne]
      intro h
      exact hno h1 (UInt8.toNat_inj.1 (by have : (45 : UInt8).toNat = 45 := rfl; omega))
    replace hno := Lib.hid hno
    go_enter Tryd.func92, Tryd.ntmps92
    by_cases hlen : 1 ≤ s.size ∧ s.size ≤ 6
    · have hin : inB (s.size : Int) 1 6 = true := inB_iff.2 (by omega)
      have hrd : Hid (readT false s.data.toList = (Lib.decFrom 0 s.data.toList).map fun (m : Nat) => if false then -(m : Int) else (m : Int)) := Lib.hid (by unfold readT; rw [if_pos (by rw [size_toList]; exact hlen)])
      have ht6 : s.size ≤ 6 := hlen.2
      go_wp2_with fail
      refine (l1In_any _ _ _ _).mono ?_
      rintro e w' ⟨rfl, rfl⟩
      rw [hin]
      go_wp2
      go_loop [5, 6] (fun n i => ∃ k m : Nat, k ≤ s.size ∧ i = .int .i64 k ∧ n = .int .i64 m ∧ Lib.decFrom 0 (s.data.toList.take k) = some m) (fun _ i => s.size - (intOf i).toNat)
      case atStart => exact ⟨0, 0, Nat.zero_le _, rfl, rfl, rfl⟩
      case round =>
        obtain ⟨k, m, hk, rfl, rfl, hd⟩ := hrel
        have hmb := dec_bd hd (by omega)
        replace hd := Lib.hid hd
        by_cases hlt : k < s.size
        · have hget : Hid (s.data.toList[k]? = some s[k]) := Lib.hid (by rw [List.getElem?_eq_getElem (by rw [size_toList]; exact hlt)]; rfl)
          generalize hbb : s[k] = b at *
          have hb256 := b.toNat_lt
          by_cases hdg : 48 ≤ b.toNat ∧ b.toNat ≤ 57
          · have hnx : Hid (Lib.decFrom 0 (s.data.toList.take (k + 1)) = some (m * 10 + (b.toNat - 48))) := Lib.hid (Lib.decFrom_take _ _ _ _ _ _ hd.out hget.out (dig_yes hdg))
            obtain ⟨D, hD⟩ : ∃ D, b.toNat = D + 48 := ⟨b.toNat - 48, by omega⟩
            have hD9 : D ≤ 9 := by omega
            have hbi : (b.toNat : Int) = (D : Int) + 48 := by omega
            have z1 : decide ((b.toNat : Int) < 48) = false := by simp; omega
            have z2 : decide ((57 : Int) < (b.toNat : Int)) = false := by simp; omega
            have z3 : IntKind.u8.wrap ((b.toNat : Int) - 48) = (D : Int) := by rw [hbi, show (D : Int) + 48 - 48 = (D : Int) by omega]; exact IntWalk.u8_in _ (by omega)
            have z4 : IntKind.i64.wrap (D : Int) = (D : Int) := IntWalk.i64_in _ (by omega)
            rw [show b.toNat - 48 = D by omega] at hnx
            clear hbi
            replace hD := Lib.hid hD
            replace hdg := Lib.hid hdg
            replace hbb2 := Lib.hid hbb
            go_wp2
            go_round
            case rel => exact ⟨k + 1, m * 10 + D, by omega, by go_num, by go_num, hnx.out⟩
            case measure => simp [intOf]; omega
          · have hbad : Hid (R = (0, false)) := Lib.hid (by rw [← hR.out, hrd.out, dec_stop hget.out (dig_no hdg)]; rfl)
            by_cases h48 : b.toNat < 48
            · have z1 : decide ((b.toNat : Int) < 48) = true := by simp; omega
              replace hdg := Lib.hid hdg
              go_wp2
              go_ret2
              exact ⟨by rw [hbad.out]; try rfl, Below.refl _ _⟩
            · have z1 : decide ((b.toNat : Int) < 48) = false := by simp; omega
              have z2 : decide ((57 : Int) < (b.toNat : Int)) = true := by simp; omega
              replace hdg := Lib.hid hdg
              go_wp2
              go_ret2
              exact ⟨by rw [hbad.out]; try rfl, Below.refl _ _⟩
        · obtain rfl : k = s.size := by omega
          have hall : Lib.decFrom 0 s.data.toList = some m := by
            have := hd.out
            rwa [List.take_of_length_le (by rw [size_toList]; exact Nat.le_refl _)] at this
          obtain ⟨V, hV⟩ : ∃ V : Int, (if false then -(m : Int) else (m : Int)) = V := ⟨_, rfl⟩
          have hend : R = if Lib.itoa V = s.data.toList then (V, true) else (0, false) := by
            rw [← hR.out, hrd.out, hall]
            show endR s (some (if false then -(m : Int) else (m : Int))) = _
            rw [hV]; rfl
          have hVb : -999999 ≤ V ∧ V ≤ 999999 := by rw [← hV]; split <;> omega
          have hnum := Lib.hid (fun w => l1Num_any V w hVb)
          have hneg2 := hneg.out
          have hV2 : (m : Int) = V := by rw [← hV]; rfl
          replace hV := Lib.hid hV
          clear hall
          by_cases hit : Lib.itoa V = s.data.toList
          · rw [if_pos hit] at hend
            rw [hit, strB_toList] at hnum
            replace hend := Lib.hid hend
            replace hit := Lib.hid hit
            go_wp2_with fail
            first | rw [hV2] | skip
            refine (hnum.out _).mono ?_
            rintro e w' ⟨rfl, q, rfl⟩
            go_wp2
            go_ret2
            exact ⟨by rw [hend.out]; try rfl, Below.quiet ⟨_, rfl⟩⟩
          · rw [if_neg hit] at hend
            obtain ⟨T, hT0⟩ : ∃ T, strB (Lib.itoa V) = T := ⟨_, rfl⟩
            have hnb : (T.toList == s.toList) = false := ne_toList (fun h => hit (strB_inj.1 (hT0.trans h)))
            rw [hT0] at hnum
            replace hend := Lib.hid hend
            replace hit := Lib.hid hit
            replace hT0 := Lib.hid hT0
            go_wp2_with fail
            first | rw [hV2] | skip
            refine (hnum.out _).mono ?_
            rintro e w' ⟨rfl, q, rfl⟩
            go_wp2
            go_ret2
            exact ⟨by rw [hend.out]; try rfl, Below.quiet ⟨_, rfl⟩⟩
    · have hin : inB (s.size : Int) 1 6 = false := by
        cases h : inB (s.size : Int) 1 6
        · rfl
        · exact absurd (inB_iff.1 h) (by omega)
      have hbad : Hid (R = (0, false)) := Lib.hid (by
        rw [← hR.out]; unfold readT; rw [if_neg (by rw [size_toList]; exact hlen)]; rfl)
      go_wp2_with fail
      refine (l1In_any _ _ _ _).mono ?_
      rintro e w' ⟨rfl, rfl⟩
      rw [hin]
      go_wp2
      go_ret2
      exact ⟨by rw [hbad.out]; try rfl, Below.refl _ _⟩
  · have h1i : ¬ (1 : Int) < (s.size : Int) := by omega
    have hd1 : decide ((1 : Int) < (s.size : Int)) = false := by simp; omega
    replace hno := Lib.hid hno
    go_enter Tryd.func92, Tryd.ntmps92
    by_cases hlen : 1 ≤ s.size ∧ s.size ≤ 6
    · have hin : inB (s.size : Int) 1 6 = true := inB_iff.2 (by omega)
      have hrd : Hid (readT false s.data.toList = (Lib.decFrom 0 s.data.toList).map fun (m : Nat) => if false then -(m : Int) else (m : Int)) := Lib.hid (by unfold readT; rw [if_pos (by rw [size_toList]; exact hlen)])
      have ht6 : s.size ≤ 6 := hlen.2
      go_wp2_with fail
      refine (l1In_any _ _ _ _).mono ?_
      rintro e w' ⟨rfl, rfl⟩
      rw [hin]
      go_wp2
      go_loop [5, 6] (fun n i => ∃ k m : Nat, k ≤ s.size ∧ i = .int .i64 k ∧ n = .int .i64 m ∧ Lib.decFrom 0 (s.data.toList.take k) = some m) (fun _ i => s.size - (intOf i).toNat)
      case atStart => exact ⟨0, 0, Nat.zero_le _, rfl, rfl, rfl⟩
      case round =>
        obtain ⟨k, m, hk, rfl, rfl, hd⟩ := hrel
        have hmb := dec_bd hd (by omega)
        replace hd := Lib.hid hd
        by_cases hlt : k < s.size
        · have hget : Hid (s.data.toList[k]? = some s[k]) := Lib.hid (by rw [List.getElem?_eq_getElem (by rw [size_toList]; exact hlt)]; rfl)
          generalize hbb : s[k] = b at *
          have hb256 := b.toNat_lt
          by_cases hdg : 48 ≤ b.toNat ∧ b.toNat ≤ 57
          · have hnx : Hid (Lib.decFrom 0 (s.data.toList.take (k + 1)) = some (m * 10 + (b.toNat - 48))) := Lib.hid (Lib.decFrom_take _ _ _ _ _ _ hd.out hget.out (dig_yes hdg))
            obtain ⟨D, hD⟩ : ∃ D, b.toNat = D + 48 := ⟨b.toNat - 48, by omega⟩
            have hD9 : D ≤ 9 := by omega
            have hbi : (b.toNat : Int) = (D : Int) + 48 := by omega
            have z1 : decide ((b.toNat : Int) < 48) = false := by simp; omega
            have z2 : decide ((57 : Int) < (b.toNat : Int)) = false := by simp; omega
            have z3 : IntKind.u8.wrap ((b.toNat : Int) - 48) = (D : Int) := by rw [hbi, show (D : Int) + 48 - 48 = (D : Int) by omega]; exact IntWalk.u8_in _ (by omega)
            have z4 : IntKind.i64.wrap (D : Int) = (D : Int) := IntWalk.i64_in _ (by omega)
            rw [show b.toNat - 48 = D by omega] at hnx
            clear hbi
            replace hD := Lib.hid hD
            replace hdg := Lib.hid hdg
            replace hbb2 := Lib.hid hbb
            go_wp2
            go_round
            case rel => exact ⟨k + 1, m * 10 + D, by omega, by go_num, by go_num, hnx.out⟩
            case measure => simp [intOf]; omega
          · have hbad : Hid (R = (0, false)) := Lib.hid (by rw [← hR.out, hrd.out, dec_stop hget.out (dig_no hdg)]; rfl)
            by_cases h48 : b.toNat < 48
            · have z1 : decide ((b.toNat : Int) < 48) = true := by simp; omega
              replace hdg := Lib.hid hdg
              go_wp2
              go_ret2
              exact ⟨by rw [hbad.out]; try rfl, Below.refl _ _⟩
            · have z1 : decide ((b.toNat : Int) < 48) = false := by simp; omega
              have z2 : decide ((57 : Int) < (b.toNat : Int)) = true := by simp; omega
              replace hdg := Lib.hid hdg
              go_wp2
              go_ret2
              exact ⟨by rw [hbad.out]; try rfl, Below.refl _ _⟩
        · obtain rfl : k = s.size := by omega
          have hall : Lib.decFrom 0 s.data.toList = some m := by
            have := hd.out
            rwa [List.take_of_length_le (by rw [size_toList]; exact Nat.le_refl _)] at this
          obtain ⟨V, hV⟩ : ∃ V : Int, (if false then -(m : Int) else (m : Int)) = V := ⟨_, rfl⟩
          have hend : R = if Lib.itoa V = s.data.toList then (V, true) else (0, false) := by
            rw [← hR.out, hrd.out, hall]
            show endR s (some (if false then -(m : Int) else (m : Int))) = _
            rw [hV]; rfl
          have hVb : -999999 ≤ V ∧ V ≤ 999999 := by rw [← hV]; split <;> omega
          have hnum := Lib.hid (fun w => l1Num_any V w hVb)
          have hneg2 := hneg.out
          have hV2 : (m : Int) = V := by rw [← hV]; rfl
          replace hV := Lib.hid hV
          clear hall
          by_cases hit : Lib.itoa V = s.data.toList
          · rw [if_pos hit] at hend
            rw [hit, strB_toList] at hnum
            replace hend := Lib.hid hend
            replace hit := Lib.hid hit
            go_wp2_with fail
            first | rw [hV2] | skip
            refine (hnum.out _).mono ?_
            rintro e w' ⟨rfl, q, rfl⟩
            go_wp2
            go_ret2
            exact ⟨by rw [hend.out]; try rfl, Below.quiet ⟨_, rfl⟩⟩
          · rw [if_neg hit] at hend
            obtain ⟨T, hT0⟩ : ∃ T, strB (Lib.itoa V) = T := ⟨_, rfl⟩
            have hnb : (T.toList == s.toList) = false := ne_toList (fun h => hit (strB_inj.1 (hT0.trans h)))
            rw [hT0] at hnum
            replace hend := Lib.hid hend
            replace hit := Lib.hid hit
            replace hT0 := Lib.hid hT0
            go_wp2_with fail
            first | rw [hV2] | skip
            refine (hnum.out _).mono ?_
            rintro e w' ⟨rfl, q, rfl⟩
            go_wp2
            go_ret2
            exact ⟨by rw [hend.out]; try rfl, Below.quiet ⟨_, rfl⟩⟩
    · have hin : inB (s.size : Int) 1 6 = false := by
        cases h : inB (s.size : Int) 1 6
        · rfl
        · exact absurd (inB_iff.1 h) (by omega)
      have hbad : Hid (R = (0, false)) := Lib.hid (by
        rw [← hR.out]; unfold readT; rw [if_neg (by rw [size_toList]; exact hlen)]; rfl)
      go_wp2_with fail
      refine (l1In_any _ _ _ _).mono ?_
      rintro e w' ⟨rfl, rfl⟩
      rw [hin]
      go_wp2
      go_ret2
      exact ⟨by rw [hbad.out]; try rfl, Below.refl _ _⟩

theorem l1Read_any (s : ByteArray) (w : World) (hs : s.size ≤ 1048576) :
    Calls Tryd.prog 92 #[.string s] w fun e w' => e = .returned (.tuple #[.int .i64 (piR s).1, .bool (piR s).2]) ∧ Below w.heap.size w w' := by
  rw [piR_end]
  by_cases h : ∃ h : 1 < s.size, s[0] = 45
  · obtain ⟨h1, h2⟩ := h
    rw [readO_yes h1 h2]
    exact l1Read_neg s _ w hs h1 h2 rfl _ rfl
  · have h' : ∀ h1 : 1 < s.size, s[0] ≠ 45 := fun h1 h2 => h ⟨h1, h2⟩
    rw [readO_no h']
    exact l1Read_pos s s w rfl hs h' _ rfl

set_option maxHeartbeats 1000000 in
theorem spec_ParseInt_law {s : ByteArray} {w : World} (hs : s.size ≤ 1048576) :
    Calls Tryd.prog 46 #[.string s] w fun e w' => e = .returned (.tuple #[.int .i64 (piR s).1, .bool (piR s).2]) ∧ Below w.heap.size w w' := by
  have hc := Lib.hid (l1Read_any s w hs)
  generalize piR s = R at *
  go_enter Tryd.func46, Tryd.ntmps46
  go_wp2_with fail
  refine hc.out.mono ?_
  rintro e w1 ⟨rfl, hb⟩
  replace hb := Lib.hid hb
  go_wp2
  go_ret2
  exact ⟨rfl, hb.out⟩
end Go.Proofs.YtoeonplbgbgjmaaDoor
