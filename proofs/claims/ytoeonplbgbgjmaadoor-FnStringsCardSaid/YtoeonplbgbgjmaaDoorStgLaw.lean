/- laws.FnStrings: the walk. -/
import Derived.Test.YtoeonplbgbgjmaaDoorVAt
import Derived.Test.YtoeonplbgbgjmaaDoorDrawV
import Derived.Test.YtoeonplbgbgjmaaDoorStgM
import Derived.Test.YtoeonplbgbgjmaaDoorPInt
import Derived.Test.YtoeonplbgbgjmaaDoorRead
import Derived.Test.YtoeonplbgbgjmaaDoorFInt
import Derived.Deep.Cut
import Derived.Laws.BitsAllLaws
namespace Go.Proofs.YtoeonplbgbgjmaaDoor
open Go.RowKit
set_option linter.unusedVariables false
set_option linter.unusedSimpArgs false

theorem fi_size (n : Int) : (fiR n).1.size ≤ 7 := by
  unfold fiR
  split
  · rename_i h
    dsimp only
    rw [strB_size]; exact itoa_len7 h
  · simp
theorem strOfNums_bytes (l : List UInt8) : strOfNums (l.map fun b => (b.toNat : Int)) = strB l := by
  unfold strOfNums strB
  rw [List.map_map]
  congr 1
  congr 1
  conv => rhs; rw [← List.map_id l]
  apply List.map_congr_left
  intro b _
  simp
theorem xor_ne {Y m V : Nat} (hm : m ≠ 0) (h : Y ^^^ m = V) : V ≠ Y := by
  rintro rfl
  have := congrArg (V ^^^ ·) h
  simp only [← Nat.xor_assoc, Nat.xor_self, Nat.zero_xor] at this
  exact hm this
theorem set_cells {W : World} {b N k V : Nat} {f : Nat → Nat} (q : Nat) (h : ∀ i, i < N → W.cell? ⟨b, i, none⟩ = some (.int .u8 (f i : Int))) (hk : k < N) :
    ∀ i, i < N → ((W.drewN q).setCell ⟨b, k, none⟩ (.int .u8 (V : Int))).cell? ⟨b, i, none⟩ = some (.int .u8 ((if i = k then V else f i : Nat) : Int)) := by
  intro i hi
  have h2 : (W.drewN q).cell? ⟨b, i, none⟩ = some (.int .u8 (f i : Int)) := h i hi
  by_cases e : i = k
  · subst e
    rw [if_pos rfl]
    apply World.cell?_setCell_same
    exact h2
  · rw [if_neg e, ← h2]
    apply World.cell?_setCell_other
    intro e2
    exact e (by simpa using e2.symm)
theorem wrap_one (m : Nat) (h : m < 300) : IntKind.i64.wrap (1 + (m : Int)) = ((m + 1 : Nat) : Int) := by
  rw [show (1 + (m : Int)) = ((m + 1 : Nat) : Int) by omega]; exact IntWalk.i64_in _ (by omega)
theorem tmod_nat (a m : Nat) (h : m = a % 255) : (a : Int).tmod 255 = (m : Int) := by
  rw [h, Int.tmod_eq_emod_of_nonneg (by omega)]; omega
theorem wrap_u8_id {m : Int} (h1 : 0 ≤ m) (h2 : m < 256) : IntKind.u8.wrap m = m := by
  rw [IntKind.wrap_u8]; omega
def TabX (w : World) : Prop := TabS w ∧ Mx w
set_option maxRecDepth 10000 in
set_option maxHeartbeats 4000000 in
theorem FnStrings_walk (d : Value) (w : World) (h : RdBy w d) (hd : ∀ b, d.ownBlock = some b → b < w.heap.size) (T : TabX w) :
    Calls Tryd.prog 8 #[d] w fun e w' => e = .returned (.bool true) ∧ Below w.heap.size w w' := by
  have hT := Lib.hid T
  clear T
  obtain ⟨ao, n, c, rfl, q1, q2, q3⟩ := id h
  replace h := Lib.hid h
  replace hd := Lib.hid hd
  have hB := Lib.hid (Below.refl w.heap.size w)
  clear q3
  unfold maxLen at q2
  by_cases hbig : (65536 : Int) < (n : Int)
  · have hbd : decide ((65536 : Int) < (n : Int)) = true := by simp; omega
    go_enter Tryd.func8, Tryd.ntmps8
    go_wp2_with fail
    refine vBig_law.mono ?_
    rintro e w1 ⟨rfl, rfl⟩
    rw [hbd]
    go_wp2
    go_ret
    exact ⟨rfl, Below.refl _ _⟩
  · have hbd : decide ((65536 : Int) < (n : Int)) = false := by simp; omega
    go_enter Tryd.func8, Tryd.ntmps8
    go_wp2_with fail
    refine vBig_law.mono ?_
    rintro e w0 ⟨rfl, rfl⟩
    rw [hbd]
    go_wp2_with fail
    refine (DrawFormatInt_law h.out hd.out).mono ?_
    rintro e w1 ⟨n1, rfl, hn1, hn2, b⟩
    replace hB := Lib.hid (Below.next hB.out b)
    replace h := Lib.hid (h.out.next b)
    replace hd := Lib.hid (lt_next hd.out b)
    clear b
    have hfi := Lib.hid (fun (h : (fiR n1).2 = true) => piR_fiR h)
    have hfs := fi_size n1
    go_wp2_with fail
    refine (impl_FormatInt_law (n := n1) (by omega) (hT.out.1.1.next hB.out)).mono ?_
    rintro e w2 ⟨rfl, b⟩
    replace hB := Lib.hid (Below.next hB.out b)
    replace h := Lib.hid (h.out.next b)
    replace hd := Lib.hid (lt_next hd.out b)
    clear b
    go_wp2_with fail
    refine (spec_FormatInt_law (n := n1) (by omega)).mono ?_
    rintro e w3 ⟨rfl, b⟩
    replace hB := Lib.hid (Below.next hB.out b)
    replace h := Lib.hid (h.out.next b)
    replace hd := Lib.hid (lt_next hd.out b)
    clear b
    generalize hFI : fiR n1 = FI at *
    obtain ⟨s1, ok⟩ := FI
    clear hFI
    dsimp only at hfi hfs ⊢
    go_wp2_with fail
    refine (DrawParseInt_law h.out hd.out).mono ?_
    rintro e w4 ⟨t1, rfl, ht1, b⟩
    replace hB := Lib.hid (Below.next hB.out b)
    replace h := Lib.hid (h.out.next b)
    replace hd := Lib.hid (lt_next hd.out b)
    clear b
    go_wp2_with fail
    refine (impl_ParseInt_law (s := t1) (by omega) (hT.out.1.next hB.out)).mono ?_
    rintro e w5 ⟨rfl, b⟩
    replace hB := Lib.hid (Below.next hB.out b)
    replace h := Lib.hid (h.out.next b)
    replace hd := Lib.hid (lt_next hd.out b)
    clear b
    go_wp2_with fail
    refine (spec_ParseInt_law (s := t1) (by omega)).mono ?_
    rintro e w6 ⟨rfl, b⟩
    replace hB := Lib.hid (Below.next hB.out b)
    replace h := Lib.hid (h.out.next b)
    replace hd := Lib.hid (lt_next hd.out b)
    clear b
    generalize hPI : piR t1 = PI at *
    obtain ⟨m1, fine⟩ := PI
    clear hPI
    dsimp only
    go_wp2_with fail
    refine (DrawAppendChecksum_law h.out hd.out).mono ?_
    rintro e w7 ⟨x, rfl, hx, b⟩
    replace hB := Lib.hid (Below.next hB.out b)
    replace h := Lib.hid (h.out.next b)
    replace hd := Lib.hid (lt_next hd.out b)
    clear b
    have hyes := Lib.hid (fun (h : (acR x).2 = true) => acR_yes h)
    have hno := Lib.hid (fun (h : (acR x).2 = false) => acR_none h)
    go_wp2_with fail
    refine (impl_AppendChecksum_law (s := x) (by omega) (hT.out.1.1.next hB.out)).mono ?_
    rintro e w8 ⟨rfl, b⟩
    replace hB := Lib.hid (Below.next hB.out b)
    replace h := Lib.hid (h.out.next b)
    replace hd := Lib.hid (lt_next hd.out b)
    clear b
    go_wp2_with fail
    refine (spec_AppendChecksum_law (s := x) (by omega)).mono ?_
    rintro e w9 ⟨rfl, b⟩
    replace hB := Lib.hid (Below.next hB.out b)
    replace h := Lib.hid (h.out.next b)
    replace hd := Lib.hid (lt_next hd.out b)
    clear b
    generalize hAC : acR x = AC at *
    obtain ⟨y, sealed⟩ := AC
    clear hAC
    dsimp only at hyes hno ⊢
    go_wp2_with fail
    refine (impl_ParseInt_law (s := s1) (by omega) (hT.out.1.next hB.out)).mono ?_
    rintro e w10 ⟨rfl, b⟩
    replace hB := Lib.hid (Below.next hB.out b)
    replace h := Lib.hid (h.out.next b)
    replace hd := Lib.hid (lt_next hd.out b)
    clear b
    obtain ⟨P1, hP1⟩ : ∃ P1, P1 = piR s1 := ⟨_, rfl⟩
    rw [← hP1] at hfi ⊢
    clear hP1
    obtain ⟨back, there⟩ := P1
    dsimp only at hfi ⊢
    clear hn1 hn2
    cases ok
    · skip
      skip
      clear hfi
      cases sealed
      · skip
        have h1 := hno.out rfl
        subst h1
        clear hno hyes
        go_wp2
        go_ret
        exact ⟨rfl, hB.out⟩
      · skip
        obtain ⟨h1, h2, h3, h4⟩ := hyes.out rfl
        subst h1
        clear hyes hno
        have hvs := vcR_seal h2 h4
        have hy2 : 1 ≤ (sealB x).size := by unfold sealB; simp only [ByteArray.size_append, size_hash]; omega
        have hch := Lib.hid (fun (s : ByteArray) (k : Nat) (c : UInt8) (hk : k < (sealB x).size) (hc : c ≠ (sealB x).data.toList[k]'(by rw [size_toList]; exact hk)) (hs : s.data.toList = (sealB x).data.toList.set k c) => vcR_change h2 hk hc hs)
        generalize sealB x = y at *
        have lv := Lib.hid (fun w hw => impl_VerifyChecksum_law (s := y) (w := w) (by omega) hw)
        rw [hvs] at lv
        replace h2 := Lib.hid h2
        clear hvs
        go_wp2_with fail
        refine (lv.out _ ⟨hT.out.1.1.next hB.out, hT.out.2.next hB.out⟩).mono ?_
        rintro e w11 ⟨rfl, b⟩
        replace hB := Lib.hid (Below.next hB.out b)
        replace h := Lib.hid (h.out.next b)
        replace hd := Lib.hid (lt_next hd.out b)
        clear b
        obtain ⟨N, hN⟩ : ∃ N, y.size = N := ⟨_, rfl⟩
        rw [hN] at h4 hy2
        have hcv := Lib.run_convert_string_bytes (P := Tryd.prog) w11 9 53 5 y Tryd.underlying9 Tryd.underlying53 Tryd.underlying5
        have hbw := Lib.bytesWorld_below w11 5 y
        have hcel := Lib.hid (Lib.bytesWorld_cell w11 5 y)
        have hnew := Lib.hid (Lib.bytesWorld_at_new w11 5 y)
        have hcs : N ≤ (Lib.bytesCells w11 5 y).size := by unfold Lib.bytesCells; rw [Array.size_append, Array.size_map]; show N ≤ y.data.size + _; have : y.data.size = N := hN; omega
        have hcm : grownCap w11 y.size 0 5 = grownCap w11 y.size 0 5 := rfl
        generalize grownCap w11 y.size 0 5 = cap at *
        generalize Lib.bytesCells w11 5 y = CS at *
        generalize hW5 : Lib.bytesWorld w11 5 y = W5 at *
        clear hcm hW5
        rw [hN] at hcv
        replace hcs := Lib.hid hcs
        have hbl := Lib.hid (hnew.out)
        clear hnew
        have hBm := hB
        replace hB := Lib.hid (Below.next hB.out hbw)
        replace h := Lib.hid (h.out.next hbw)
        replace hd := Lib.hid (lt_next hd.out hbw)
        clear hbw
        replace hN := Lib.hid hN
        go_wp2_with fail
        refine (vAt_any ao n c 9 W5 h.out (by omega) (by omega)).mono ?_
        rintro e wv ⟨⟨a9, rfl, ha9⟩, q9, rfl⟩
        obtain ⟨k, hk⟩ : ∃ k, k = a9 % N := ⟨_, rfl⟩
        have hkN : k < N := by rw [hk]; exact Nat.mod_lt _ (by omega)
        have hmd : (a9 : Int).tmod (N : Int) = (k : Int) := by rw [hk, Int.tmod_eq_emod_of_nonneg (by omega)]; omega
        have hmd2 : (a9 : Int) % (N : Int) = (k : Int) := by rw [hk]; omega
        have hn0 : ¬ (N : Int) = 0 := by omega
        have hkl : k < y.data.toList.length := by rw [size_toList, hN.out]; exact hkN
        have hck := hcel.out k (by rw [hN.out]; exact hkN)
        have hgd : y.data.toList.getD k 0 = y.data.toList[k] := by rw [List.getD_eq_getElem?_getD, List.getElem?_eq_getElem hkl]; rfl
        rw [hgd] at hck
        have hY := (y.data.toList[k]).toNat_lt
        have hYe := Lib.hid (rfl : (y.data.toList[k]).toNat = (y.data.toList[k]).toNat)
        have hfz : W5.frozen? ⟨w11.heap.size, k, none⟩ = false := by
          unfold World.frozen?
          have hh := hcs.out
          simp [hbl.out]
          omega
        obtain ⟨Y, hYd⟩ : ∃ Y, Y = (y.data.toList[k]).toNat := ⟨_, rfl⟩
        rw [← hYd] at hck hY
        replace hYd := Lib.hid hYd
        clear hYe hgd hk
        replace hkl := Lib.hid hkl
        go_upto_region 22 with (fail)
        go_cut [] from 26 (fun wq => ∃ (V : Nat), V < 256 ∧ V ≠ Y ∧ Below w0.heap.size w0 wq ∧ ∀ i, i < N → wq.cell? ⟨w11.heap.size, i, none⟩ = some (.int .u8 ((if i = k then V else (y.data.toList.getD i 0).toNat : Nat) : Int)))
        case first =>
          have hsz11 := Lib.hid (show w0.heap.size ≤ w11.heap.size from hBm.out.size)
          have hal := Lib.hid (fun q => vAt_any ao n c 10 (W5.drewN q) (h.out.ex (Ex.drewN (Ex.refl [] _) q) (fun _ _ => by simp)) (by omega) (by omega))
          go_region_with (go_at_call 51; refine (hal.out _).mono ?_; rintro e wv ⟨⟨a8, rfl, ha8⟩, q8, rfl⟩; obtain ⟨m8, hm8⟩ : ∃ m8 : Nat, m8 = a8 % 255 := ⟨_, rfl⟩; have hm8l : m8 < 255 := (by omega); have hmd8 : (a8 : Int).tmod 255 = (m8 : Int) := tmod_nat a8 m8 hm8; have hmd9 : (a8 : Int) % 255 = (m8 : Int) := (by omega); have hw8 : IntKind.i64.wrap (1 + (m8 : Int)) = ((m8 + 1 : Nat) : Int) := wrap_one m8 (by omega); have hu8 : IntKind.u8.wrap ((m8 + 1 : Nat) : Int) = ((m8 + 1 : Nat) : Int) := wrap_u8_id (by omega) (by omega); have hx8 := u8_xor_nat Y (m8 + 1) hY (by omega); clear hm8; generalize hV8 : Y ^^^ (m8 + 1) = V8 at hx8; replace hV8 := Lib.hid hV8)
          all_goals
            have hVV := hV8.out
            have hval : bits BinOp.xor IntKind.u8 (Y : Int) (IntKind.u8.wrap ((m8 : Int) + 1)) = (V8 : Int) := by
              rw [show ((m8 : Int) + 1) = ((m8 + 1 : Nat) : Int) by omega, hu8]; exact hx8
            rw [hval]
            have hV1 : V8 < 256 := by rw [← hVV]; exact Nat.xor_lt_two_pow (n := 8) (by omega) (by omega)
            have hV2 := xor_ne (Y := Y) (m := m8 + 1) (by omega) hVV
            have hsz9 := hsz11.out
            have hBz := Below.setCell (Below.drewN hB.out (q9 + 1 + q8)) (p := ⟨w11.heap.size, k, none⟩) hsz9 (.int .u8 (V8 : Int))
            have hcz := set_cells (q9 + 1 + q8) (V := V8) (fun i hi => hcel.out i (by rw [hN.out]; exact hi)) hkN
            replace hVV := Lib.hid hVV
            replace hx8 := Lib.hid hx8
            replace hval := Lib.hid hval
            replace hBz := Lib.hid hBz
            replace hcz := Lib.hid hcz
            go_wp2_with fail
            go_meet
            case rel => exact ⟨V8, hV1, hV2, hBz.out, hcz.out⟩
        case rest =>
          obtain ⟨V, hV, hVY, hB6, hce⟩ := hcut
          have hkl2 := hkl.out
          obtain ⟨S, hS⟩ : ∃ S, S = strB (y.data.toList.set k (UInt8.ofNat V)) := ⟨_, rfl⟩
          have hofV : (UInt8.ofNat V).toNat = V := by rw [UInt8.toNat_ofNat']; omega
          have hSz : S.size = N := by rw [hS, strB_size, List.length_set, size_toList, hN.out]
          have hcv2 : (convert 53 9 (.slice (some ⟨w11.heap.size, 0, none⟩) N cap)).run Tryd.prog wc = .ok (.string S) wc := by
            rw [hS, ← strOfNums_bytes]
            refine run_convert_bytes_arg wc _ _ Tryd.underlying53 Tryd.underlying5 w11.heap.size 0 N cap _ (by rw [List.length_map, List.length_set, size_toList, hN.out]) (fun i hi => ?_) _ Tryd.underlying9
            have hil : i < y.data.toList.length := by rw [size_toList, hN.out]; exact hi
            rw [Nat.zero_add, hce i hi]
            simp only [List.getD_eq_getElem?_getD, List.getElem?_map, List.getElem?_set, List.getElem?_eq_getElem hil]
            have hiy : i < y.size := by rw [hN.out]; exact hi
            by_cases e : i = k
            · subst e; simp [hofV, hiy]
            · have e2 : ¬ k = i := fun h => e h.symm
              simp [e, e2, hil]
          have hbad := hch.out S k (UInt8.ofNat V) (by rw [hN.out]; exact hkN) (by intro e; apply hVY; rw [hYd.out, ← e, hofV]) (by rw [hS, strB_data])
          have lv2 := Lib.hid (impl_VerifyChecksum_law (s := S) (w := wc) (by omega) ⟨hT.out.1.1.next hB6, hT.out.2.next hB6⟩)
          generalize hVC : vcR S = VC at *
          obtain ⟨zz, bad⟩ := VC
          dsimp only at hbad lv2
          subst hbad
          replace hB6 := Lib.hid hB6
          replace hS := Lib.hid hS
          replace hSz := Lib.hid hSz
          clear hce hVC hch hofV
          go_wp2_with fail
          refine lv2.out.mono ?_
          rintro e wz ⟨rfl, b⟩
          have hB7 := Lib.hid (Below.next hB6.out b)
          clear b
          go_wp2
          go_ret
          exact ⟨rfl, hB7.out⟩
    · have hpf := hfi.out rfl
      obtain ⟨rfl, rfl⟩ := Prod.mk.inj hpf
      skip
      clear hfi
      cases sealed
      · skip
        have h1 := hno.out rfl
        subst h1
        clear hno hyes
        go_wp2
        go_ret
        exact ⟨rfl, hB.out⟩
      · skip
        obtain ⟨h1, h2, h3, h4⟩ := hyes.out rfl
        subst h1
        clear hyes hno
        have hvs := vcR_seal h2 h4
        have hy2 : 1 ≤ (sealB x).size := by unfold sealB; simp only [ByteArray.size_append, size_hash]; omega
        have hch := Lib.hid (fun (s : ByteArray) (k : Nat) (c : UInt8) (hk : k < (sealB x).size) (hc : c ≠ (sealB x).data.toList[k]'(by rw [size_toList]; exact hk)) (hs : s.data.toList = (sealB x).data.toList.set k c) => vcR_change h2 hk hc hs)
        generalize sealB x = y at *
        have lv := Lib.hid (fun w hw => impl_VerifyChecksum_law (s := y) (w := w) (by omega) hw)
        rw [hvs] at lv
        replace h2 := Lib.hid h2
        clear hvs
        go_wp2_with fail
        refine (lv.out _ ⟨hT.out.1.1.next hB.out, hT.out.2.next hB.out⟩).mono ?_
        rintro e w11 ⟨rfl, b⟩
        replace hB := Lib.hid (Below.next hB.out b)
        replace h := Lib.hid (h.out.next b)
        replace hd := Lib.hid (lt_next hd.out b)
        clear b
        obtain ⟨N, hN⟩ : ∃ N, y.size = N := ⟨_, rfl⟩
        rw [hN] at h4 hy2
        have hcv := Lib.run_convert_string_bytes (P := Tryd.prog) w11 9 53 5 y Tryd.underlying9 Tryd.underlying53 Tryd.underlying5
        have hbw := Lib.bytesWorld_below w11 5 y
        have hcel := Lib.hid (Lib.bytesWorld_cell w11 5 y)
        have hnew := Lib.hid (Lib.bytesWorld_at_new w11 5 y)
        have hcs : N ≤ (Lib.bytesCells w11 5 y).size := by unfold Lib.bytesCells; rw [Array.size_append, Array.size_map]; show N ≤ y.data.size + _; have : y.data.size = N := hN; omega
        have hcm : grownCap w11 y.size 0 5 = grownCap w11 y.size 0 5 := rfl
        generalize grownCap w11 y.size 0 5 = cap at *
        generalize Lib.bytesCells w11 5 y = CS at *
        generalize hW5 : Lib.bytesWorld w11 5 y = W5 at *
        clear hcm hW5
        rw [hN] at hcv
        replace hcs := Lib.hid hcs
        have hbl := Lib.hid (hnew.out)
        clear hnew
        have hBm := hB
        replace hB := Lib.hid (Below.next hB.out hbw)
        replace h := Lib.hid (h.out.next hbw)
        replace hd := Lib.hid (lt_next hd.out hbw)
        clear hbw
        replace hN := Lib.hid hN
        go_wp2_with fail
        refine (vAt_any ao n c 9 W5 h.out (by omega) (by omega)).mono ?_
        rintro e wv ⟨⟨a9, rfl, ha9⟩, q9, rfl⟩
        obtain ⟨k, hk⟩ : ∃ k, k = a9 % N := ⟨_, rfl⟩
        have hkN : k < N := by rw [hk]; exact Nat.mod_lt _ (by omega)
        have hmd : (a9 : Int).tmod (N : Int) = (k : Int) := by rw [hk, Int.tmod_eq_emod_of_nonneg (by omega)]; omega
        have hmd2 : (a9 : Int) % (N : Int) = (k : Int) := by rw [hk]; omega
        have hn0 : ¬ (N : Int) = 0 := by omega
        have hkl : k < y.data.toList.length := by rw [size_toList, hN.out]; exact hkN
        have hck := hcel.out k (by rw [hN.out]; exact hkN)
        have hgd : y.data.toList.getD k 0 = y.data.toList[k] := by rw [List.getD_eq_getElem?_getD, List.getElem?_eq_getElem hkl]; rfl
        rw [hgd] at hck
        have hY := (y.data.toList[k]).toNat_lt
        have hYe := Lib.hid (rfl : (y.data.toList[k]).toNat = (y.data.toList[k]).toNat)
        have hfz : W5.frozen? ⟨w11.heap.size, k, none⟩ = false := by
          unfold World.frozen?
          have hh := hcs.out
          simp [hbl.out]
          omega
        obtain ⟨Y, hYd⟩ : ∃ Y, Y = (y.data.toList[k]).toNat := ⟨_, rfl⟩
        rw [← hYd] at hck hY
        replace hYd := Lib.hid hYd
        clear hYe hgd hk
        replace hkl := Lib.hid hkl
        go_upto_region 22 with (fail)
        go_cut [] from 26 (fun wq => ∃ (V : Nat), V < 256 ∧ V ≠ Y ∧ Below w0.heap.size w0 wq ∧ ∀ i, i < N → wq.cell? ⟨w11.heap.size, i, none⟩ = some (.int .u8 ((if i = k then V else (y.data.toList.getD i 0).toNat : Nat) : Int)))
        case first =>
          have hsz11 := Lib.hid (show w0.heap.size ≤ w11.heap.size from hBm.out.size)
          have hal := Lib.hid (fun q => vAt_any ao n c 10 (W5.drewN q) (h.out.ex (Ex.drewN (Ex.refl [] _) q) (fun _ _ => by simp)) (by omega) (by omega))
          go_region_with (go_at_call 51; refine (hal.out _).mono ?_; rintro e wv ⟨⟨a8, rfl, ha8⟩, q8, rfl⟩; obtain ⟨m8, hm8⟩ : ∃ m8 : Nat, m8 = a8 % 255 := ⟨_, rfl⟩; have hm8l : m8 < 255 := (by omega); have hmd8 : (a8 : Int).tmod 255 = (m8 : Int) := tmod_nat a8 m8 hm8; have hmd9 : (a8 : Int) % 255 = (m8 : Int) := (by omega); have hw8 : IntKind.i64.wrap (1 + (m8 : Int)) = ((m8 + 1 : Nat) : Int) := wrap_one m8 (by omega); have hu8 : IntKind.u8.wrap ((m8 + 1 : Nat) : Int) = ((m8 + 1 : Nat) : Int) := wrap_u8_id (by omega) (by omega); have hx8 := u8_xor_nat Y (m8 + 1) hY (by omega); clear hm8; generalize hV8 : Y ^^^ (m8 + 1) = V8 at hx8; replace hV8 := Lib.hid hV8)
          all_goals
            have hVV := hV8.out
            have hval : bits BinOp.xor IntKind.u8 (Y : Int) (IntKind.u8.wrap ((m8 : Int) + 1)) = (V8 : Int) := by
              rw [show ((m8 : Int) + 1) = ((m8 + 1 : Nat) : Int) by omega, hu8]; exact hx8
            rw [hval]
            have hV1 : V8 < 256 := by rw [← hVV]; exact Nat.xor_lt_two_pow (n := 8) (by omega) (by omega)
            have hV2 := xor_ne (Y := Y) (m := m8 + 1) (by omega) hVV
            have hsz9 := hsz11.out
            have hBz := Below.setCell (Below.drewN hB.out (q9 + 1 + q8)) (p := ⟨w11.heap.size, k, none⟩) hsz9 (.int .u8 (V8 : Int))
            have hcz := set_cells (q9 + 1 + q8) (V := V8) (fun i hi => hcel.out i (by rw [hN.out]; exact hi)) hkN
            replace hVV := Lib.hid hVV
            replace hx8 := Lib.hid hx8
            replace hval := Lib.hid hval
            replace hBz := Lib.hid hBz
            replace hcz := Lib.hid hcz
            go_wp2_with fail
            go_meet
            case rel => exact ⟨V8, hV1, hV2, hBz.out, hcz.out⟩
        case rest =>
          obtain ⟨V, hV, hVY, hB6, hce⟩ := hcut
          have hkl2 := hkl.out
          obtain ⟨S, hS⟩ : ∃ S, S = strB (y.data.toList.set k (UInt8.ofNat V)) := ⟨_, rfl⟩
          have hofV : (UInt8.ofNat V).toNat = V := by rw [UInt8.toNat_ofNat']; omega
          have hSz : S.size = N := by rw [hS, strB_size, List.length_set, size_toList, hN.out]
          have hcv2 : (convert 53 9 (.slice (some ⟨w11.heap.size, 0, none⟩) N cap)).run Tryd.prog wc = .ok (.string S) wc := by
            rw [hS, ← strOfNums_bytes]
            refine run_convert_bytes_arg wc _ _ Tryd.underlying53 Tryd.underlying5 w11.heap.size 0 N cap _ (by rw [List.length_map, List.length_set, size_toList, hN.out]) (fun i hi => ?_) _ Tryd.underlying9
            have hil : i < y.data.toList.length := by rw [size_toList, hN.out]; exact hi
            rw [Nat.zero_add, hce i hi]
            simp only [List.getD_eq_getElem?_getD, List.getElem?_map, List.getElem?_set, List.getElem?_eq_getElem hil]
            have hiy : i < y.size := by rw [hN.out]; exact hi
            by_cases e : i = k
            · subst e; simp [hofV, hiy]
            · have e2 : ¬ k = i := fun h => e h.symm
              simp [e, e2, hil]
          have hbad := hch.out S k (UInt8.ofNat V) (by rw [hN.out]; exact hkN) (by intro e; apply hVY; rw [hYd.out, ← e, hofV]) (by rw [hS, strB_data])
          have lv2 := Lib.hid (impl_VerifyChecksum_law (s := S) (w := wc) (by omega) ⟨hT.out.1.1.next hB6, hT.out.2.next hB6⟩)
          generalize hVC : vcR S = VC at *
          obtain ⟨zz, bad⟩ := VC
          dsimp only at hbad lv2
          subst hbad
          replace hB6 := Lib.hid hB6
          replace hS := Lib.hid hS
          replace hSz := Lib.hid hSz
          clear hce hVC hch hofV
          go_wp2_with fail
          refine lv2.out.mono ?_
          rintro e wz ⟨rfl, b⟩
          have hB7 := Lib.hid (Below.next hB6.out b)
          clear b
          go_wp2
          go_ret
          exact ⟨rfl, hB7.out⟩
end Go.Proofs.YtoeonplbgbgjmaaDoor
