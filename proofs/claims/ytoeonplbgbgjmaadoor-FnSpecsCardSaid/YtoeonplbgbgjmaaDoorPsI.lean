/- ParseSpecs, impl. -/
import Derived.Test.YtoeonplbgbgjmaaDoorPsM
import Derived.Test.YtoeonplbgbgjmaaDoorKsO
import Derived.Test.YtoeonplbgbgjmaaDoorFSpI
import Derived.Test.YtoeonplbgbgjmaaDoorSplit
namespace Go.Proofs.YtoeonplbgbgjmaaDoor
open Go.RowKit
set_option linter.unusedVariables false
set_option linter.unusedSimpArgs false

abbrev PsT (w : World) : Prop := Tab w ∧ MxS w
theorem PsT.next {w w' : World} (h : PsT w) (hb : Below w.heap.size w w') : PsT w' := ⟨h.1.next hb, h.2.next hb⟩
theorem containsC_any (s : ByteArray) (c : UInt8) (w : World) :
    Calls Tryd.prog 69 #[.string s, .string ⟨#[c]⟩] w fun e w' => e = .returned (.bool (hasC s c)) ∧ w = w' :=
  (Any.strings_Contains_one lays144 s c w).mono fun _ _ ⟨he, hw⟩ => ⟨he, hw.symm⟩
theorem byEmpty {W : ByteArray} (h : W.size = 0) : W = ⟨#[]⟩ := by
  apply ByteArray.ext
  exact Array.eq_empty_of_size_eq_zero h
theorem psO_take {s : ByteArray} {i : Nat} (h : i < (parts 44 s).length) : (psO s).take (i + 1) = (psO s).take i ++ [kI (gs (parts 44 s) i)] := by
  rw [List.take_succ_eq_append_getElem (by simpa [psO] using h)]
  congr 2
  rw [gs_eq h]
  simp [psO]
theorem fsR_yes {xs : List KS} (h : okK xs = true) : fsR xs = (tK xs xs.length, true) := by simp [fsR, h]
theorem fsR_no {xs : List KS} (h : okK xs = false) : fsR xs = (ByteArray.empty, false) := by simp [fsR, h]
theorem nilK (w : World) : RKeySpecS w (.slice none 0 0) [] [] ∧ Fr w.heap.size [] := ⟨⟨⟨none, 0, rfl, .inl ⟨rfl, rfl, rfl⟩⟩, rfl⟩, fun _ h => by simp at h⟩
theorem kI_parts (W : ByteArray) (h : 0 < W.size) : kI W = ((W[0].toNat : Int) - 48, hasC (W.extract 1 W.size) 110, hasC (W.extract 1 W.size) 100, hasC (W.extract 1 W.size) 102) := by
  unfold kI
  rw [sb_eq h]
set_option maxRecDepth 10000 in
set_option maxHeartbeats 8000000 in
theorem impl_ParseSpecs_law {s : ByteArray} {w : World} (hs : s.size ≤ 1048576) (hTT : PsT w) :
    Calls Tryd.prog 17 #[.string s] w fun e w' => ∃ r F, e = .returned (.tuple #[r, .bool (psR s).2]) ∧ RKeySpecS w' r (psR s).1 F ∧ Fr w.heap.size F ∧ Below w.heap.size w w' ∧ (psR s).1.length ≤ 100000000000 := by
  have hlen := Lib.hid (psR_len (s := s))
  by_cases h40 : s.size ≤ 40
  · have h4 : decide (40 < (s.size : Int)) = false := by simp; omega
    have hpl := parts_len 44 s
    have hpz := Lib.hid (parts_size 44 s)
    have hpt := Lib.hid (fun i (h : i < (parts 44 s).length) => psO_take (s := s) h)
    have hbad := Lib.hid (fun i (h : i < (parts 44 s).length) (h0 : (gs (parts 44 s) i).size = 0) => psR_no (s := s) (fun h => h.2.1 i (by assumption) h0))
    have hol := Lib.hid (psO_len s)
    have hne : Hid (okK (psO s) = false → psR s = ([], false)) := Lib.hid (fun h => psR_no (fun k => by have h9 := k.2.2.1; rw [h] at h9; cases h9))
    have hne2 : Hid (¬ tK (psO s) (psO s).length = s → psR s = ([], false)) := Lib.hid (fun h => psR_no (fun k => h k.2.2.2))
    have hyes : Hid ((∀ i, i < (parts 44 s).length → (gs (parts 44 s) i).size ≠ 0) → okK (psO s) = true → tK (psO s) (psO s).length = s → psR s = (psO s, true)) := Lib.hid (fun h1 h2 h3 => psR_yes ⟨h40, h1, h2, h3⟩)
    have hsp := Lib.hid (fun (wr : World) (h : MxS wr) => split_any s 44 wr (by omega) h)
    have hK0 : Hid (∀ k, k < (parts 44 s).length → (gs (parts 44 s) k).size ≠ 0 → kI (gs (parts 44 s) k) = (((sb (gs (parts 44 s) k) 0).toNat : Int) - 48, hasC ((gs (parts 44 s) k).extract 1 (gs (parts 44 s) k).size) 110, hasC ((gs (parts 44 s) k).extract 1 (gs (parts 44 s) k).size) 100, hasC ((gs (parts 44 s) k).extract 1 (gs (parts 44 s) k).size) 102)) := Lib.hid (fun k _ _ => rfl)
    generalize hP : parts 44 s = P at *
    generalize hO : psO s = O at *
    generalize hR : psR s = R at *
    replace hP := Lib.hid hP
    replace hO := Lib.hid hO
    replace hR := Lib.hid hR
    have hT := Lib.hid hTT
    clear hTT
    have hE := Lib.hid (OwnK.empty w)
    have hB0 := Lib.hid ((Below.refl w.heap.size w).alloc (Nat.le_refl _) (.cells #[] 71))
    have hB0' := Lib.hid ((Below.refl w.heap.size w).alloc (Nat.le_refl _) (.cells #[] 71))
    go_enter Tryd.func17, Tryd.ntmps17
    go_wp2_with fail
    refine (hsp.out _ (hT.out.next hB0.out).2).mono ?_
    rintro e w1 ⟨v1, rfl, hr, hb⟩
    have hB1 := Lib.hid (Below.next hB0.out hb)
    have hE1 := Lib.hid (hE.out.below hb)
    have hrS := Lib.hid hr
    obtain ⟨ao, c, rfl, q1, q2, _⟩ := id hr.rd
    clear hb hr hE hB0
    generalize hn : P.length = n at *
    unfold maxLen at q2
    replace hn := Lib.hid hn
    go_wp2
    go_loopw [4, 17] (fun o iv wr => ∃ i : Nat, i ≤ n ∧ iv = .int .i64 (i : Nat) ∧ OwnK wr w.heap.size o (O.take i) ∧ Below w.heap.size w wr ∧ (∃ F, RStringS wr (.slice ao n c) P F) ∧ (∀ j, j < i → (gs P j).size ≠ 0)) (fun _ iv _ => n - (intOf iv).toNat)
    case atStart => exact ⟨0, Nat.zero_le _, rfl, hE1.out, hB1.out, ⟨_, hrS.out⟩, fun j hj => absurd hj (by omega)⟩
    case round =>
      clear hE1 hB0'
      obtain ⟨i, hi, rfl, hO4, hB, ⟨FS, hBs⟩, hz⟩ := hrel
      by_cases hlt : i < n
      · obtain ⟨ao2, c2, e2, _, _, _, HA⟩ := hBs.rd
        rw [hn.out] at e2 HA
        simp at e2
        obtain ⟨rfl, rfl⟩ := e2
        obtain ⟨b, off, rfl, hRc⟩ := HA (by omega)
        have hc1 := hRc i hlt
        clear hRc HA
        have hWz := hpz.out i hlt
        have hbd := Lib.hid (hbad.out i hlt)
        have hki := Lib.hid (kI_parts (gs P i))
        have hpi := Lib.hid (hpt.out i hlt)
        have hzz : Hid ((gs P i).size ≠ 0 → ∀ j, j < i + 1 → (gs P j).size ≠ 0) := Lib.hid (fun h j hj => by
          by_cases hji : j = i
          · subst hji; exact h
          · exact hz j (by omega))
        generalize hW : gs P i = W at *
        replace hW := Lib.hid hW
        have hBs := Lib.hid hBs
        have hB := Lib.hid hB
        have hO4 := Lib.hid hO4
        clear hz
        by_cases h0 : W.size = 0
        · have hbR := hbd.out h0
          obtain rfl := byEmpty h0
          subst hbR
          clear h0 hbd hki hpi hzz
          go_wp2
          go_ret2
          first
          | exact ⟨_, _, rfl, (nilK _).1, (nilK _).2, hB.out, by simp⟩
          | exact ⟨_, rfl, _, (nilK _).1, (nilK _).2, hB.out, by simp⟩
          | exact ⟨_, rfl, _, (nilK _).1, (nilK _).2, hB.out⟩
          | exact ⟨_, rfl, _, (nilK _).1, (nilK _).2, hB.out⟩
        · have hp : 0 < W.size := by omega
          have hki2 := Lib.hid (hki.out hp)
          have hz2 := Lib.hid (hzz.out h0)
          have hne0 : (W.toList == (⟨#[]⟩ : ByteArray).toList) = false := ne_toList (fun e => h0 (by rw [e]; rfl))
          have hie : W.toList.isEmpty = false := by simpa using hne0
          have hb2 := UInt8.toNat_lt W[0]
          have hll : (O.take i).length ≤ 100000000 := by simp; omega
          generalize hX : (W[0].toNat : Int) = X at *
          have hX0 : 0 ≤ X := by omega
          have hX2 : X < 256 := by omega
          have hwr0 : IntKind.i64.wrap X = X := IntWalk.i64_in _ (by omega)
          have hwr1 : IntKind.i64.wrap (X - 48) = X - 48 := IntWalk.i64_in _ (by omega)
          have hwr : IntKind.i64.wrap (IntKind.i64.wrap X - 48) = X - 48 := by rw [hwr0]; exact IntWalk.i64_in _ (by omega)
          generalize hY : W.extract 1 W.size = Y at *
          generalize hN : hasC Y 110 = N at *
          generalize hD : hasC Y 100 = D at *
          generalize hF : hasC Y 102 = FF at *
          have hcN : Hid (∀ wr, Calls Tryd.prog 69 #[.string Y, .string ⟨#[110]⟩] wr fun e w' => e = .returned (.bool N) ∧ wr = w') := Lib.hid (fun wr => by rw [← hN]; exact containsC_any Y 110 wr)
          have hcD : Hid (∀ wr, Calls Tryd.prog 69 #[.string Y, .string ⟨#[100]⟩] wr fun e w' => e = .returned (.bool D) ∧ wr = w') := Lib.hid (fun wr => by rw [← hD]; exact containsC_any Y 100 wr)
          have hcF : Hid (∀ wr, Calls Tryd.prog 69 #[.string Y, .string ⟨#[102]⟩] wr fun e w' => e = .returned (.bool FF) ∧ wr = w') := Lib.hid (fun wr => by rw [← hF]; exact containsC_any Y 102 wr)
          replace hN := Lib.hid hN
          replace hD := Lib.hid hD
          replace hF := Lib.hid hF
          have hsB := hB.out.size
          have hlt2 : i < n := hlt
          have hp1 : (1 : Int) ≤ (W.size : Int) := by omega
          clear hbd hki hzz h0
          go_wp2
          have htt : True := trivial
          go_region_held_law (fun _ => True) (trivial)
            (first
              | (refine step_append_kss1 rfl (.tmp 25) (.tmp 37) rfl w.heap.size u4 (O.take i) (by simp [Act.eval, Act.put]) ((hO4.out.drewN 1).alloc _) wr.heap.size (X - 48, N, D, FF) (by simp [Act.eval, Act.put]) (by refine ⟨?_, ?_, ?_, ?_⟩ <;> simp [go_sem, hwr0, hwr1]) hll (by simp; omega) ?_; intro v1 w6 ho1 hg1)
              | (go_at_call 69; (first | refine (hcN.out _).mono ?_ | refine (hcD.out _).mono ?_ | refine (hcF.out _).mono ?_); rintro e w' ⟨rfl, rfl⟩))
          all_goals (
            go_simp
            have hB6 := Lib.hid (OwnK.app hB.out hO4.out hsB hg1)
            have ho6 : Hid (OwnK w6 w.heap.size v1 (O.take (i + 1))) := Lib.hid (by rw [hpi.out, hki2.out]; exact ho1)
            have hS6 : Hid (RStringS w6 (.slice (some ⟨b, off, none⟩) n c) P FS) := Lib.hid (((hO4.out.drewN 1).alloc _).keepS (hBs.out.next ((Below.drewN (Below.refl _ _) 1).alloc (Nat.le_refl _) _)) hg1)
            clear ho1 hg1
            go_wp2
            go_roundw
            case rel => exact ⟨i + 1, by omega, by go_num, ho6.out, hB6.out, ⟨_, hS6.out⟩, hz2.out⟩
            case measure => simp [intOf]; omega)
      · obtain rfl : i = n := by omega
        have hzi : Hid (∀ j, j < i → (gs P j).size ≠ 0) := Lib.hid hz
        clear hz hBs
        have hoO : OwnK wr w.heap.size u4 O := by
          have := hO4
          rwa [List.take_of_length_le (by rw [hol.out]; exact Nat.le_refl _)] at this
        have hlO : O.length ≤ 1000000000 := by rw [hol.out]; omega
        have hoL := Lib.hid (hoO.sl hlO)
        have hoF := Lib.hid (fun b hb => (hoO.lt b hb).1)
        have hFS := Lib.hid (impl_FormatSpecs_any u4 O wr (hoO.sl hlO).rd (hT.out.next hB).1)
        replace hB := Lib.hid hB
        clear hO4
        obtain ⟨ao4, c4, hu4⟩ := hoO.shape
        clear hoO hlO
        subst hu4
        go_wp2_with fail
        refine hFS.out.mono ?_
        rintro e w9 ⟨rfl, hb9⟩
        have hB9 := Lib.hid (Below.next hB.out hb9)
        have hrO : Hid (RKeySpecS w9 (.slice ao4 O.length c4) O (Value.slice ao4 O.length c4).ownBlock.toList ∧ Fr w.heap.size (Value.slice ao4 O.length c4).ownBlock.toList) := Lib.hid ⟨RKeySpecS.next ⟨hoL.out, rfl⟩ hb9, fun b hb => hoF.out b (by simpa using hb)⟩
        clear hb9 hFS hoL hoF
        cases hk : okK O
        · have hR9 := hne.out hk
          rw [fsR_no hk]
          replace hk := Lib.hid hk
          subst hR9
          go_wp2
          go_ret2
          first
          | exact ⟨_, _, rfl, (nilK _).1, (nilK _).2, hB9.out, by simp⟩
          | exact ⟨_, rfl, _, (nilK _).1, (nilK _).2, hB9.out, by simp⟩
          | exact ⟨_, rfl, _, (nilK _).1, (nilK _).2, hB9.out⟩
        · rw [fsR_yes hk]
          by_cases ht : tK O O.length = s
          · have hR9 := hyes.out hzi.out hk ht
            have hl9 : O.length ≤ 100000000000 := by rw [hol.out]; omega
            rw [ht]
            replace hk := Lib.hid hk
            replace ht := Lib.hid ht
            subst hR9
            go_wp2
            go_ret2
            first
            | exact ⟨_, _, rfl, hrO.out.1, hrO.out.2, hB9.out, hl9⟩
            | exact ⟨_, rfl, _, hrO.out.1, hrO.out.2, hB9.out, hl9⟩
            | exact ⟨_, rfl, _, hrO.out.1, hrO.out.2, hB9.out⟩
          · have hR9 := hne2.out ht
            have hnb : ((tK O O.length).toList == s.toList) = false := ne_toList ht
            replace hk := Lib.hid hk
            subst hR9
            generalize tK O O.length = T9 at *
            replace ht := Lib.hid ht
            go_wp2
            go_ret2
            first
            | exact ⟨_, _, rfl, (nilK _).1, (nilK _).2, hB9.out, by simp⟩
            | exact ⟨_, rfl, _, (nilK _).1, (nilK _).2, hB9.out, by simp⟩
            | exact ⟨_, rfl, _, (nilK _).1, (nilK _).2, hB9.out⟩
  · have h4 : decide (40 < (s.size : Int)) = true := by simp; omega
    have hbR := psR_no (s := s) (fun h => h40 h.1)
    rw [hbR] at *
    clear hTT
    go_enter Tryd.func17, Tryd.ntmps17
    go_wp2
    go_ret2
    first
    | exact ⟨_, _, rfl, (nilK _).1, (nilK _).2, Below.refl _ _, by simp⟩
    | exact ⟨_, rfl, _, (nilK _).1, (nilK _).2, Below.refl _ _, by simp⟩
    | exact ⟨_, rfl, _, (nilK _).1, (nilK _).2, Below.refl _ _⟩
    | exact ⟨_, rfl, _, (nilK _).1, (nilK _).2, Below.refl _ _⟩
end Go.Proofs.YtoeonplbgbgjmaaDoor
