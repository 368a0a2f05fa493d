/- FormatInt, spec: l1Num. -/
import Derived.Test.YtoeonplbgbgjmaaDoorNumL
import Derived.Test.YtoeonplbgbgjmaaDoorMg2
import Derived.Deep.RegionWith
namespace Go.Proofs.YtoeonplbgbgjmaaDoor
open Go.RowKit
set_option linter.unusedVariables false
set_option linter.unusedSimpArgs false

def dig10 : ByteArray := ⟨#[48, 49, 50, 51, 52, 53, 54, 55, 56, 57]⟩
theorem dig10_at {d : Nat} (h : d < 10) : dig10.extract d (d + 1) = strB [UInt8.ofNat (48 + d)] := by
  have : ∀ d : Fin 10, dig10.extract d.val (d.val + 1) = strB [UInt8.ofNat (48 + d.val)] := by decide +kernel
  exact this ⟨d, h⟩

set_option maxRecDepth 10000 in
set_option maxHeartbeats 1000000 in
theorem l1Num_nat : ∀ (f n : Nat) (w : World), n < f → n ≤ 999999 →
    Calls Tryd.prog 90 #[.int .i64 (n : Int)] w fun e w' => e = .returned (.string (strB (Lib.decDigits n))) ∧ ∃ q, w' = w.drewN q := by
  intro f
  induction f with
  | zero => intro n w h; omega
  | succ f ih =>
    intro n w hf hn
    have hneg : ¬ (n : Int) < 0 := by omega
    by_cases h : n < 10
    · have h10 : (n : Int) < 10 := by omega
      have hd := Lib.hid (dig10_at h)
      have hv : Hid (Lib.decDigits n = [UInt8.ofNat (48 + n)]) := Lib.hid (by rw [Lib.decDigits, dif_pos h])
      have hx : dig10.extract n (n + 1) = strB [UInt8.ofNat (48 + n)] := hd.out
      unfold dig10 at hx
      obtain ⟨S, hS⟩ : ∃ S, strB [UInt8.ofNat (48 + n)] = S := ⟨_, rfl⟩
      rw [hS] at hx
      replace hS := Lib.hid hS
      clear hd
      go_enter Tryd.func90, Tryd.ntmps90
      go_wp2
      go_ret
      exact ⟨by rw [hv.out, hS.out]; rfl, 0, rfl⟩
    · have h10 : ¬ (n : Int) < 10 := by omega
      have hv : Hid (Lib.decDigits n = Lib.decDigits (n / 10) ++ [UInt8.ofNat (48 + n % 10)]) := Lib.hid (by rw [Lib.decDigits, dif_neg h])
      have hdv : ((n : Int)).tdiv 10 = ((n / 10 : Nat) : Int) := by
        rw [Int.tdiv_eq_ediv_of_nonneg (by omega)]; exact (Int.natCast_ediv n 10).symm
      have hmd : ((n : Int)).tmod 10 = ((n % 10 : Nat) : Int) := by
        rw [Int.tmod_eq_emod_of_nonneg (by omega)]; exact (Int.natCast_emod n 10).symm
      have hih := Lib.hid (fun w => ih (n / 10) w (by omega) (by omega))
      have hx : dig10.extract (n % 10) (n % 10 + 1) = strB [UInt8.ofNat (48 + n % 10)] := dig10_at (by omega)
      unfold dig10 at hx
      obtain ⟨S, hS⟩ : ∃ S, strB [UInt8.ofNat (48 + n % 10)] = S := ⟨_, rfl⟩
      rw [hS] at hx
      replace hS := Lib.hid hS
      obtain ⟨T, hT⟩ : ∃ T, strB (Lib.decDigits (n / 10)) = T := ⟨_, rfl⟩
      have hTs : T.size ≤ 100 := by rw [← hT, strB_size]; have := decDigits_len6 (u := n / 10) (by omega); omega
      have hSs : S.size ≤ 100 := by rw [← hS.out, strB_size]; simp
      rw [hT] at hih
      replace hT := Lib.hid hT
      have hres : Hid (strB (Lib.decDigits n) = T ++ S) := Lib.hid (by rw [hv.out, ← strB_append, hT.out, hS.out])
      obtain ⟨d, hd⟩ : ∃ d, n / 10 = d := ⟨_, rfl⟩
      obtain ⟨r, hr⟩ : ∃ r, n % 10 = r := ⟨_, rfl⟩
      rw [hd] at hdv hih
      rw [hr] at hmd hx
      have hr10 : r < 10 := by omega
      have hdv2 : (n : Int) / 10 = (d : Int) := by omega
      have hmd2 : (n : Int) % 10 = (r : Int) := by omega
      have hr10i : (r : Int) < 10 := by omega
      have hwr : IntKind.i64.wrap ((r : Int) + 1) = (r : Int) + 1 := IntWalk.i64_in _ (by omega)
      have y1 : (0 : Int) ≤ (r : Int) := by omega
      have y2 : (r : Int) + 1 ≤ 10 := by omega
      have y3 : r + 1 ≤ 10 := by omega
      have y4 : (r : Int) ≤ (r : Int) + 1 := by omega
      have y5 : ((r : Int) + 1).toNat = r + 1 := by omega
      have y6 : (0 : Int) ≤ (r : Int) + 1 := by omega
      have y7 : ¬ (10 : Int) < (r : Int) + 1 := by omega
      have hwd : Hid (IntKind.i64.wrap (d : Int) = (d : Int)) := Lib.hid (IntWalk.i64_in _ (by omega))
      replace hd := Lib.hid hd
      replace hr := Lib.hid hr
      have hq : ∀ m, Calls Tryd.prog 90 #[.int .i64 (d : Int)] (w.drewN m) fun e w'' => e = .returned (.string T) ∧ ∃ m', w'' = w.drewN m' := fun m =>
        (hih.out (w.drewN m)).mono fun _ _ ⟨he, q, hq⟩ => ⟨he, m + q, by rw [hq, World.drewN_drewN]⟩
      replace hq := Lib.hid hq
      clear hv ih
      go_enter Tryd.func90, Tryd.ntmps90
      go_wp2
      go_region_with (go_at_call 90; (first | (rw [hwd.out]; refine (hih.out _).mono ?_) | refine (hih.out _).mono ?_); rintro e w' ⟨rfl, q, rfl⟩)
      all_goals go_wp2
      all_goals go_ret
      all_goals exact ⟨by rw [hres.out]; rfl, by first | exact ⟨_, rfl⟩ | exact ⟨_, World.drewN_drewN ..⟩⟩
theorem l1Num_any (n : Int) (w : World) (h : -999999 ≤ n ∧ n ≤ 999999) :
    Calls Tryd.prog 90 #[.int .i64 n] w fun e w' => e = .returned (.string (strB (Lib.itoa n))) ∧ ∃ q, w' = w.drewN q := by
  by_cases h0 : n < 0
  · obtain ⟨m, hm⟩ : ∃ m : Nat, n.natAbs = m := ⟨_, rfl⟩
    have hneg : -n = (m : Int) := by omega
    have hv : Hid (strB (Lib.itoa n) = (⟨#[45]⟩ : ByteArray) ++ strB (Lib.decDigits m)) := Lib.hid (by
      unfold Lib.itoa
      rw [if_pos h0, hm]
      exact (strB_append [45] (Lib.decDigits m)).symm)
    have hc := l1Num_nat (m + 1) m w (by omega) (by omega)
    replace hm := Lib.hid hm
    obtain ⟨T, hT⟩ : ∃ T, strB (Lib.decDigits m) = T := ⟨_, rfl⟩
    have hTs : T.size ≤ 100 := by rw [← hT, strB_size]; have := decDigits_len6 (u := m) (by have := hm.out; omega); omega
    rw [hT] at hc hv
    replace hc := Lib.hid hc
    have hwn : IntKind.i64.wrap (m : Int) = (m : Int) := IntWalk.i64_in _ (by omega)
    go_enter Tryd.func90, Tryd.ntmps90
    go_wp2_with fail
    first | rw [hneg] | skip
    refine hc.out.mono ?_
    rintro e w' ⟨rfl, q, rfl⟩
    go_wp2
    go_ret
    exact ⟨by rw [hv.out]; rfl, q, rfl⟩
  · obtain ⟨m, rfl⟩ := Int.eq_ofNat_of_zero_le (show 0 ≤ n by omega)
    have hv : Lib.itoa (m : Int) = Lib.decDigits m := by unfold Lib.itoa; rw [if_neg h0]; rfl
    rw [hv]
    exact l1Num_nat (m + 1) m w (by omega) (by omega)
end Go.Proofs.YtoeonplbgbgjmaaDoor
