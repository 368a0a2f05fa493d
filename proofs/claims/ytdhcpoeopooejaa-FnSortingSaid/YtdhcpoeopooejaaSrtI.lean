/- impl.SortingPermutation. -/
import Derived.Test.YtdhcpoeopooejaaStbK
import Derived.Test.YtdhcpoeopooejaaSrtM
import Derived.Test.YtdhcpoeopooejaaCopy
namespace Go.Proofs.Ytdhcpoeopooejaa
open Go.RowKit
set_option linter.unusedVariables false
set_option linter.unusedSimpArgs false

set_option maxHeartbeats 1000000 in
theorem cmpAt_any (bp : Nat) (ao : Option Addr) (n c : Nat) (x : List Int) (w : World) (hb : w.cell? ⟨bp, 0, none⟩ = some (.slice ao n c)) (hr : Rd w (.slice ao n c) x) (hx : x.length = n) (p q : Int) (hp : 0 ≤ p ∧ p < (n : Int)) (hq : 0 ≤ q ∧ q < (n : Int)) :
    Calls Try.prog 104 #[.int .i64 p, .int .i64 q, .pointer (some ⟨bp, 0, none⟩)] w fun e w' => e = .returned (.int .i64 (cvL x p q)) ∧ ∃ k, w' = w.drewN k := by
  obtain ⟨a9, c9, e9, h1, h2, HA⟩ := hr
  rw [hx] at e9
  simp at e9
  obtain ⟨rfl, rfl⟩ := e9
  unfold maxLen at h2
  obtain ⟨b, off, rfl, hR⟩ := HA (by omega)
  obtain ⟨P, rfl⟩ := Int.eq_ofNat_of_zero_le hp.1
  obtain ⟨Q, rfl⟩ := Int.eq_ofNat_of_zero_le hq.1
  have hc1 := hR P (by omega)
  have hc2 := hR Q (by omega)
  have hcv : Hid (cvL x (P : Int) (Q : Int) = cmpI (gi x P) (gi x Q)) := Lib.hid (by unfold cvL; rw [Int.toNat_natCast, Int.toNat_natCast])
  clear hR HA
  generalize gi x P = X at *
  generalize gi x Q = Y at *
  generalize hz : cmpI X Y = z at *
  have hcl : Hid (∀ qq, Calls Try.prog 105 #[.int .i64 X, .int .i64 Y] (w.drewN qq) fun e w'' => e = .returned (.int .i64 z) ∧ w'' = w.drewN qq) := Lib.hid (fun qq => (cmpInt_any X Y _).mono fun e w' h => ⟨by rw [h.1, hz], h.2.symm⟩)
  replace hz := Lib.hid hz
  replace hx := Lib.hid hx
  go_enter Try.func104, Try.ntmps104
  go_wp2
  go_quiet ((go_at_call 105; exact Calls.quiet_of_same (hcl.out _)))
  try go_wp2
  go_ret
  exact ⟨by rw [hcv.out]; rfl, _, rfl⟩

set_option maxRecDepth 10000 in
set_option maxHeartbeats 4000000 in
theorem impl_sorting_any (v : Value) (x : List Int) (w : World) (hv : Sl w 3 v (ints x)) (hl64 : x.length ≤ 64) :
    Calls Try.prog 66 #[v] w fun e w' => ∃ r, e = .returned r ∧ Fresh w w' r (srtK x x.length) := by
  have hrd := hv.rd
  have hlt := hv.lt
  obtain ⟨ao, c, rfl, _, hc9, _, _⟩ := hv.openInts
  clear hv
  generalize hn : x.length = n at *
  have hB0 : Below w.heap.size w (w.alloc (.cells #[.slice ao n c] 22)) := (Below.refl _ _).alloc (Nat.le_refl _) _
  have hB1 : Below w.heap.size w ((w.alloc (.cells #[.slice ao n c] 22)).alloc (.cells #[] 3)) := hB0.alloc (by simp) _
  have hbox : Row (w.alloc (.cells #[.slice ao n c] 22)) 22 w.heap.size 0 1 [.slice ao n c] := by
    refine ⟨#[.slice ao n c], by show (w.heap.push _)[w.heap.size]? = _; simp, by simp, by simp, by unfold maxLen; omega, fun i hi => ?_⟩
    match i, hi with
    | 0, _ => rfl
  have hbox1 := Lib.hid (hbox.alloc (.cells #[] 3))
  have hown0 : Hid (Own ((w.alloc (.cells #[.slice ao n c] 22)).alloc (.cells #[] 3)) 3 (w.heap.size + 1) (.slice (some ⟨w.heap.size + 1, 0, none⟩) 0 0) []) := Lib.hid (by simpa using Own.empty (w.alloc (.cells #[.slice ao n c] 22)) 3)
  replace hB1 := Lib.hid hB1
  replace hrd := Lib.hid hrd
  replace hlt := Lib.hid hlt
  replace hn := Lib.hid hn
  clear hB0 hbox
  go_enter Try.func66, Try.ntmps66
  go_wp2
  go_loopw [3, 8] (fun o iv wr => ∃ (i g c2 : Nat), i ≤ n ∧ iv = .int .i64 (i : Nat) ∧ o = .slice (some ⟨g, 0, none⟩) i c2 ∧ Own wr 3 (w.heap.size + 1) o (ints (pl i)) ∧ Row wr 22 w.heap.size 0 1 [.slice ao n c] ∧ Below w.heap.size w wr) (fun _ iv _ => n - (intOf iv).toNat)
  case atStart => exact ⟨0, _, 0, Nat.zero_le _, rfl, rfl, hown0.out, hbox1.out, hB1.out⟩
  case round =>
    clear hown0 hbox1 hB1
    obtain ⟨i, g, c2, hi, rfl, rfl, hO, hBx, hb⟩ := hrel
    have hcb : wr.cell? ⟨w.heap.size, 0, none⟩ = some (.slice ao n c) := by have := hBx.cell (i := 0) (by simp); simpa using this
    by_cases hlt2 : i < n
    · have hlti : (i : Int) < (n : Int) := by omega
      have hs2 : w.heap.size + 1 ≤ wr.heap.size := by have := hBx.lt; omega
      have hl2 : (ints (pl i)).length ≤ 1000000000 := by simp; omega
      replace hO := Lib.hid hO
      replace hBx := Lib.hid hBx
      replace hb := Lib.hid hb
      go_wp2_with (at_builtin; refine append_one_at eltInt rfl _ _ rfl (w.heap.size + 1) _ _ rfl hO.out rfl rfl hl2 hs2 ?_; intro v6 w6 ho6 hg6 _)
      have hb6 : Below w.heap.size w w6 := Below.appended hb.out (hO.out.base (by omega)) hg6 hb.out.size
      have hBx6 : Row w6 22 w.heap.size 0 1 [.slice ao n c] := hBx.out.grown hg6 (by
        intro e
        have := (hO.out.lt w.heap.size e.symm).1
        omega)
      have ho7 : Own w6 3 (w.heap.size + 1) v6 (ints (pl (i + 1))) := by simpa [ints, pl] using ho6
      have ho8 := ho7
      unfold Own at ho7
      rw [ints_length, pl_length] at ho7
      obtain ⟨b6, c6, rfl, hb7, _⟩ := World.ownsRow.form ho7 (by simp)
      exact ⟨⟨i + 1, b6, c6, by omega, by go_num, rfl, ho8, hBx6, hb6⟩, by simp [intOf]; omega⟩
    · obtain rfl : i = n := by omega
      have hO2 := hO
      have hg := (hO.lt g rfl).1
      unfold Own at hO2
      rw [ints_length, pl_length] at hO2
      have hR := Row.of_owns hO2
      have hrl := hR.le
      rw [ints_length, pl_length] at hrl
      have hcmp : CmpI wr g i w.heap.size (cvL x) := by
        intro w' p q hex p1 p2 q1 q2
        have hb1 : Row w' 22 w.heap.size 0 1 [.slice ao i c] := hBx.of_block (hex.block _ hBx.lt (by simp; omega))
        exact cmpAt_any w.heap.size ao i c x w' (by have := hb1.cell (i := 0) (by simp); simpa using this) (hrd.out.ex hb hex (fun b hb2 => by simp at hb2; omega)) hn.out p q ⟨p1, p2⟩ ⟨q1, q2⟩
      have hst := Lib.hid (sortStable_any wr g 0 c2 i w.heap.size (cvL x) (cvL_pre x) hcmp hrl (by omega) hl64 (pl i) wr hR (pl_length i) (Ex.refl _ _) (fun j hj => gi_pl hj))
      replace hb := Lib.hid hb
      clear hR hO hO2 hcmp hBx hcb
      go_wp2_with fail
      refine hst.out.mono ?_
      rintro e w2 ⟨rfl, D', hR2, hx2, hm2, hs2⟩
      have hD := srtK_unique hm2.perm hs2
      subst hD
      have hsl : Sl w2 3 (.slice (some ⟨g, 0, none⟩) i c2) (ints (srtK x i)) := by
        have := Sl.of_row hR2
        rwa [ints_length, srtK_length] at this
      have hbf : Below w.heap.size w w2 := Below.ex hb.out hx2 (fun b hb2 => by simp at hb2; omega)
      have hfin := Lib.hid (show Fresh w w2 (.slice (some ⟨g, 0, none⟩) i c2) (srtK x i) from ⟨hsl, fun k hk => by simp [Value.ownBlock] at hk; omega, hbf⟩)
      clear hst hR2 hx2 hm2 hs2 hsl hbf
      go_wp2
      go_ret
      exact ⟨_, rfl, hfin.out⟩

set_option maxHeartbeats 1000000 in
theorem impl_SortingPermutation_law {v : Value} {x : List Int} {F : List Nat} {w : World} (r : RIntS w v x F) :
    Calls Try.prog 25 #[v] w fun e w' => ∃ r F, e = .returned (.tuple #[r, .bool (srR x).2]) ∧ RIntS w' r (srR x).1 F ∧ Fr w.heap.size F ∧ Below w.heap.size w w' ∧ (srR x).1.length ≤ 100000000000 := by
  have hv := Lib.hid r.1
  have hlen := Lib.hid (srR_len x)
  clear r
  cases h : vlist x
  · have e0 : srR x = ([], false) := by simp [srR, h]
    rw [e0] at hlen ⊢
    clear e0
    go_enter Try.func25, Try.ntmps25
    go_wp2_with fail
    refine (isValidList_any _ _ _ (Sl.rd hv.out)).mono ?_
    rintro e w1 ⟨rfl, hb⟩
    rw [h]
    replace hb := Lib.hid hb
    go_wp2
    go_ret2
    exact ⟨_, _, rfl, (Fresh.nil hb.out).law.1, (Fresh.nil hb.out).law.2.1, (Fresh.nil hb.out).law.2.2, hlen.out⟩
  · have e0 : srR x = (srtK x x.length, true) := by simp [srR, h]
    have hl := (vlist_iff.1 h).1
    rw [e0] at hlen ⊢
    clear e0
    go_enter Try.func25, Try.ntmps25
    go_wp2_with fail
    refine (isValidList_any _ _ _ (Sl.rd hv.out)).mono ?_
    rintro e w1 ⟨rfl, hb⟩
    rw [h]
    replace hv := Lib.hid (hv.out.below hb hv.out.lt)
    replace hb := Lib.hid hb
    go_wp2_with fail
    refine (impl_sorting_any _ _ _ hv.out hl).mono ?_
    rintro e w2 ⟨r, rfl, hf⟩
    have f1 := Lib.hid hf.law.1
    have f2 := Lib.hid (Fr.of hb.out hf.law.2.1)
    have f3 := Lib.hid (Below.next hb.out hf.law.2.2)
    clear hf
    go_wp2
    go_ret2
    exact ⟨_, _, rfl, f1.out, f2.out, f3.out, hlen.out⟩
end Go.Proofs.Ytdhcpoeopooejaa
