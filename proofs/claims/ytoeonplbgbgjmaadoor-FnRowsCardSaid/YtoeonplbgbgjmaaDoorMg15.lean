/- CompareRows, spec: l2Strings, l2Key, l2Compare. CompareRows, spec: the whole. -/
import Derived.Test.YtoeonplbgbgjmaaDoorMg10
import Derived.Test.YtoeonplbgbgjmaaDoorRead
import Derived.Test.YtoeonplbgbgjmaaDoorMg2
namespace Go.Proofs.YtoeonplbgbgjmaaDoor
open Go.RowKit
set_option linter.unusedVariables false
set_option linter.unusedSimpArgs false

set_option maxHeartbeats 1000000 in
theorem l2Strings_any (a b : ByteArray) (w : World) (ha : a.size ≤ 40) (hb : b.size ≤ 40) :
    Calls Tryd.prog 134 #[.string a, .string b] w fun e w' => e = .returned (.int .i64 (cmpB a b)) ∧ Below w.heap.size w w' := by
  have e := cmpB_less a b
  have l1 := Lib.hid (fun w => spec_LessString_law (a := a) (b := b) (w := w) (by unfold maxLen; omega) (by unfold maxLen; omega))
  have l2 := Lib.hid (fun w => spec_LessString_law (a := b) (b := a) (w := w) (by unfold maxLen; omega) (by unfold maxLen; omega))
  generalize cmpB a b = C at *
  generalize Op.bytesLess a.toList b.toList = p at *
  generalize Op.bytesLess b.toList a.toList = q at *
  replace e := Lib.hid e
  cases p
  · go_enter Tryd.func134, Tryd.ntmps134
    go_wp2_with fail
    refine (l1.out _).mono ?_
    rintro e w1 ⟨rfl, b1⟩
    replace b1 := Lib.hid b1
    go_wp2_with fail
    refine (l2.out _).mono ?_
    rintro e w2 ⟨rfl, b2⟩
    have hB := Lib.hid (Below.next b1.out b2)
    clear b2
    cases q
    · go_wp2
      go_ret
      exact ⟨by rw [e.out]; rfl, hB.out⟩
    · go_wp2
      go_ret
      exact ⟨by rw [e.out]; rfl, hB.out⟩
  · go_enter Tryd.func134, Tryd.ntmps134
    go_wp2_with fail
    refine (l1.out _).mono ?_
    rintro e w1 ⟨rfl, b1⟩
    replace b1 := Lib.hid b1
    go_wp2
    go_ret
    exact ⟨by rw [e.out]; rfl, b1.out⟩

set_option maxHeartbeats 2000000 in
theorem l2Key_any (k : KS) (x y : ByteArray) (w : World) (hx : x.size ≤ 40) (hy : y.size ≤ 40) :
    Calls Tryd.prog 112 #[ksV k, .string x, .string y] w fun e w' => e = .returned (.int .i64 (keyC k.2.1 x y)) ∧ Below w.heap.size w w' := by
  obtain ⟨f, n, d, c⟩ := k
  unfold ksV
  dsimp only
  have hB0 : Hid (∀ A, Below w.heap.size w (w.alloc A)) := Lib.hid (fun A => (Below.refl _ _).alloc (Nat.le_refl _) A)
  have hls := Lib.hid (fun w => l2Strings_any x y w hx hy)
  have hrx := Lib.hid (fun w => l1Read_any x w (by omega))
  have hry := Lib.hid (fun w => l1Read_any y w (by omega))
  cases n
  · have hkc : keyC false x y = cmpB x y := rfl
    rw [hkc]
    clear hkc
    generalize cmpB x y = C at *
    go_enter Tryd.func112, Tryd.ntmps112
    go_wp2_with fail
    refine (hls.out _).mono ?_
    rintro e w2 ⟨rfl, b2⟩
    have hB := Lib.hid (Below.next (hB0.out _) b2)
    clear b2
    go_wp2
    go_ret
    exact ⟨rfl, hB.out⟩
  · obtain ⟨K, hK⟩ : ∃ K, keyC true x y = K := ⟨_, rfl⟩
    have hkc : Hid (K = if (piR x).2 then (if (piR y).2 then Lib.compareInt (piR x).1 (piR y).1 else 1) else (if (piR y).2 then -1 else cmpB x y)) := Lib.hid hK.symm
    rw [hK]
    clear hK
    generalize cmpB x y = C at *
    generalize piR x = P at *
    generalize piR y = Q at *
    obtain ⟨p1, p2⟩ := P
    obtain ⟨q1, q2⟩ := Q
    dsimp only at hkc hrx hry
    go_enter Tryd.func112, Tryd.ntmps112
    go_wp2_with fail
    refine (hrx.out _).mono ?_
    rintro e w2 ⟨rfl, b2⟩
    have hB2 := Lib.hid (Below.next (hB0.out _) b2)
    clear b2
    go_wp2_with fail
    refine (hry.out _).mono ?_
    rintro e w3 ⟨rfl, b3⟩
    have hB3 := Lib.hid (Below.next hB2.out b3)
    clear b3
    cases p2
    · cases q2
      · have hv := Lib.hid (show K = C by rw [hkc.out]; simp)
        go_wp2_with fail
        refine (hls.out _).mono ?_
        rintro e w4 ⟨rfl, b4⟩
        have hB4 := Lib.hid (Below.next hB3.out b4)
        clear b4
        go_wp2
        go_ret
        exact ⟨by rw [hv.out]; rfl, hB4.out⟩
      · have hv := Lib.hid (show K = -1 by rw [hkc.out]; simp)
        go_wp2
        go_ret
        exact ⟨by rw [hv.out]; rfl, hB3.out⟩
    · cases q2
      · have hv := Lib.hid (show K = 1 by rw [hkc.out]; simp)
        go_wp2
        go_ret
        exact ⟨by rw [hv.out]; rfl, hB3.out⟩
      · have hv0 : K = Lib.compareInt p1 q1 := by rw [hkc.out]; simp
        unfold Lib.compareInt at hv0
        by_cases h1 : p1 < q1
        · rw [if_pos h1] at hv0
          replace hv0 := Lib.hid hv0
          go_wp2
          go_ret
          exact ⟨by rw [hv0.out]; rfl, hB3.out⟩
        · rw [if_neg h1] at hv0
          by_cases h2 : p1 > q1
          · rw [if_pos h2] at hv0
            replace hv0 := Lib.hid hv0
            have h3 : q1 < p1 := h2
            go_wp2
            go_ret
            exact ⟨by rw [hv0.out]; rfl, hB3.out⟩
          · rw [if_neg h2] at hv0
            replace hv0 := Lib.hid hv0
            have h3 : ¬ q1 < p1 := h2
            go_wp2
            go_ret
            exact ⟨by rw [hv0.out]; rfl, hB3.out⟩

set_option maxRecDepth 10000 in
set_option maxHeartbeats 8000000 in
theorem l2Compare_any (vs : Value) (xs : List KS) (u v : Value) (a b : List ByteArray) (w : World) (hs : RdK w vs xs) (hu : RdS w u a) (hv : RdS w v b) (hk : ∀ i, i < xs.length → 0 ≤ (gk xs i).1 ∧ (gk xs i).1 ≤ 5) (ha : ∀ i, i < a.length → (gs a i).size ≤ 40) (hb : ∀ i, i < b.length → (gs b i).size ≤ 40) :
    Calls Tryd.prog 72 #[vs, .agg #[u], .agg #[v]] w fun e w' => e = .returned (.int .i64 (cmpRs a b xs)) ∧ Below w.heap.size w w' := by
  obtain ⟨W0, hWd⟩ : ∃ W0, W0 = (w.alloc (.cells #[u] 40)).alloc (.cells #[v] 40) := ⟨_, rfl⟩
  have hBW : Below w.heap.size w W0 := by rw [hWd]; exact ((Below.refl _ _).alloc (Nat.le_refl _) _).alloc (by simp) _
  have hsz0 : W0.heap.size = w.heap.size + 2 := by rw [hWd]; simp
  have c5 : W0.cell? ⟨w.heap.size, 0, none⟩ = some u := by rw [hWd]; simp [go_sem]
  have c6 : W0.cell? ⟨w.heap.size + 1, 0, none⟩ = some v := by rw [hWd]; simp [go_sem]
  have hS : Hid (∀ w', Below W0.heap.size W0 w' → w'.cell? ⟨w.heap.size, 0, none⟩ = some u ∧ w'.cell? ⟨w.heap.size + 1, 0, none⟩ = some v) := Lib.hid (fun w' hw =>
    ⟨(hw.cell (p := ⟨w.heap.size, 0, none⟩) (by simp; omega)).trans c5, (hw.cell (p := ⟨w.heap.size + 1, 0, none⟩) (by simp; omega)).trans c6⟩)
  have hval : Hid (∀ k z S, 0 ≤ k.1 → k.1 ≤ 5 → ((z = u ∧ S = valF k a) ∨ (z = v ∧ S = valF k b)) → ∀ wr, Below W0.heap.size W0 wr → Calls Tryd.prog 113 #[ksV k, .agg #[z]] wr fun e w' => e = .returned (.string S) ∧ Below W0.heap.size W0 w') := Lib.hid (fun k z S h0 h5 hz wr hw => by
    rcases hz with ⟨rfl, rfl⟩ | ⟨rfl, rfl⟩
    · exact (l2Value_any k z a wr (hu.below (Below.next hBW hw)) h0 h5 ha).mono fun _ _ ⟨he, hb⟩ => ⟨he, Below.next hw hb⟩
    · exact (l2Value_any k z b wr (hv.below (Below.next hBW hw)) h0 h5 hb).mono fun _ _ ⟨he, hb⟩ => ⟨he, Below.next hw hb⟩)
  have hkey : Hid (∀ k wr, 0 ≤ k.1 → Below W0.heap.size W0 wr → Calls Tryd.prog 112 #[ksV k, .string (valF k a), .string (valF k b)] wr fun e w' => e = .returned (.int .i64 (keyC k.2.1 (valF k a) (valF k b))) ∧ Below W0.heap.size W0 w') := Lib.hid (fun k wr h0 hw =>
    (l2Key_any k (valF k a) (valF k b) wr (valF_size h0 ha) (valF_size h0 hb)).mono fun _ _ ⟨he, hb⟩ => ⟨he, Below.next hw hb⟩)
  have hfin : Hid (∀ wr, Below W0.heap.size W0 wr → Below w.heap.size w wr) := Lib.hid (fun wr hw => Below.next hBW hw)
  have hsr := Lib.hid (fun wr (hw : Below W0.heap.size W0 wr) => hs.below (Below.next hBW hw))
  have hstep := Lib.hid (fun i (hi : i < xs.length) => cmpRs_step (a := a) (b := b) hi)
  have hend := Lib.hid (fun i (hi : xs.length ≤ i) => cmpRs_end (a := a) (b := b) hi)
  have hkb := Lib.hid (fun k : KS => keyC_bd k.2.1 (valF k a) (valF k b))
  have hkd : Hid (∀ k : KS, cmpK k a b = if k.2.2.1 then -(keyC k.2.1 (valF k a) (valF k b)) else keyC k.2.1 (valF k a) (valF k b)) := Lib.hid (fun k => rfl)
  replace hk := Lib.hid hk
  obtain ⟨R, hR⟩ : ∃ R, cmpRs a b xs = R := ⟨_, rfl⟩
  have hR0 : Hid (cmpRs a b (xs.drop 0) = R) := Lib.hid (by simpa using hR)
  rw [hR]
  obtain ⟨ao, c, rfl, q1, q2, _⟩ := hs
  unfold maxLen at q2
  obtain ⟨n, hn⟩ : ∃ n, xs.length = n := ⟨_, rfl⟩
  rw [hn] at hstep hend hk q1 ⊢
  rw [hn] at hsr
  replace hn := Lib.hid hn
  clear hu hv ha hb c5 c6 hR hBW
  replace hWd := Lib.hid hWd
  replace hsz0 := Lib.hid hsz0
  go_enter Tryd.func72, Tryd.ntmps72
  go_wp2
  rw [← hWd.out]
  go_loopw [7] (fun iv wr => ∃ i : Nat, i ≤ n ∧ iv = .int .i64 (i : Nat) ∧ Below W0.heap.size W0 wr ∧ Hid (cmpRs a b (xs.drop i) = R)) (fun iv _ => n - (intOf iv).toNat)
  case atStart => exact ⟨0, Nat.zero_le _, rfl, Below.refl _ _, hR0⟩
  case round =>
    clear hR0
    obtain ⟨i, hi, rfl, hB, hQ⟩ := hrel
    by_cases hlt : i < n
    · obtain ⟨ao2, c2, e2, _, _, HA⟩ := hsr.out wr hB
      rw [hn.out] at e2 HA
      simp at e2
      obtain ⟨rfl, rfl⟩ := e2
      obtain ⟨b9, off, rfl, hRd⟩ := HA (by omega)
      have hK0 := hRd i hlt
      clear hRd HA
      obtain ⟨hf0, hf5⟩ := hk.out i hlt
      have hst := hstep.out i hlt
      rw [hQ.out] at hst
      generalize hx : gk xs i = x at *
      have hx' := Lib.hid hx
      clear hx
      have hcel : ∀ w', Below W0.heap.size W0 w' → K4 w' b9 (off + i * 4) x := fun w' hw => by
        obtain ⟨a', c', e', _, _, H⟩ := hsr.out w' hw
        rw [hn.out] at e' H
        simp at e'
        obtain ⟨rfl, rfl⟩ := e'
        obtain ⟨b', o', h', hR⟩ := H (by omega)
        simp at h'
        obtain ⟨rfl, rfl⟩ := h'
        have := hR i hlt
        rwa [hx'.out] at this
      have hSS : Hid (∀ w', Below W0.heap.size W0 w' → Below W0.heap.size W0 w' ∧ w'.cell? ⟨b9, off + i * 4, none⟩ = some (.int .i64 x.1) ∧ w'.cell? ⟨b9, off + i * 4 + 1, none⟩ = some (.bool x.2.1) ∧ w'.cell? ⟨b9, off + i * 4 + 2, none⟩ = some (.bool x.2.2.1) ∧ w'.cell? ⟨b9, off + i * 4 + 3, none⟩ = some (.bool x.2.2.2) ∧ w'.cell? ⟨w.heap.size, 0, none⟩ = some u ∧ w'.cell? ⟨w.heap.size + 1, 0, none⟩ = some v) := Lib.hid (fun w' hw =>
        ⟨hw, (hcel w' hw).1, (hcel w' hw).2.1, (hcel w' hw).2.2.1, (hcel w' hw).2.2.2, (hS.out _ hw).1, (hS.out _ hw).2⟩)
      have hvx := Lib.hid (fun z S hz w' hw => hval.out x z S hf0 hf5 hz w' hw)
      have hkx := Lib.hid (fun w' hw => hkey.out x w' hf0 hw)
      have hkd1 := hkd.out x
      have hkb1 := hkb.out x
      unfold ksV at hvx hkx
      generalize valF x a = X at *
      generalize valF x b = Y at *
      generalize hC : keyC x.2.1 X Y = C at *
      replace hC := Lib.hid hC
      rw [hkd1] at hst
      have hwn : IntKind.i64.wrap (-C) = -C := IntWalk.i64_in _ (by omega)
      replace hst := Lib.hid hst
      replace hB := Lib.hid hB
      clear hK0 hcel hkd1 hQ
      go_wp2
      go_region_held3 (fun w' => Below W0.heap.size W0 w' ∧ w'.cell? ⟨b9, off + i * 4, none⟩ = some (.int .i64 x.1) ∧ w'.cell? ⟨b9, off + i * 4 + 1, none⟩ = some (.bool x.2.1) ∧ w'.cell? ⟨b9, off + i * 4 + 2, none⟩ = some (.bool x.2.2.1) ∧ w'.cell? ⟨b9, off + i * 4 + 3, none⟩ = some (.bool x.2.2.2) ∧ w'.cell? ⟨w.heap.size, 0, none⟩ = some u ∧ w'.cell? ⟨w.heap.size + 1, 0, none⟩ = some v) ((refine hSS.out _ ?_; first | assumption | exact Below.drewN hB.out 1)) (first | (go_at_call 113; refine (hvx.out _ _ (by first | exact .inl ⟨rfl, rfl⟩ | exact .inr ⟨rfl, rfl⟩) _ (by first | assumption | (apply And.left; assumption))).mono ?_; rintro e w' ⟨rfl, hbel⟩) | (go_at_call 112; refine (hkx.out _ (by first | assumption | (apply And.left; assumption))).mono ?_; rintro e w' ⟨rfl, hbel⟩))
      have hB5 := Lib.hid hbel
      obtain ⟨_, _, _, hd3, _, _, _⟩ := hSS.out _ hbel
      clear hbel hvx hkx hSS
      have hst2 := hst.out
      clear hst
      generalize x.2.2.1 = dd at *
      cases dd
      · simp only [Bool.false_eq_true, if_false] at hst2
        by_cases h0 : C = 0
        · rw [if_pos h0] at hst2
          subst h0
          replace hst2 := Lib.hid hst2
          clear hwn
          go_wp2
          go_roundw
          case rel => exact ⟨i + 1, by omega, by go_num, hB5.out, Lib.hid hst2.out.symm⟩
          case measure => simp [intOf]; omega
        · rw [if_neg h0] at hst2
          subst hst2
          have h0b : (R == 0) = false := by simpa using h0
          clear hwn
          go_wp2
          go_ret
          exact ⟨rfl, hfin.out _ hB5.out⟩
      · simp only [if_true] at hst2
        by_cases h0 : C = 0
        · rw [if_pos (by omega)] at hst2
          subst h0
          replace hst2 := Lib.hid hst2
          clear hwn
          go_wp2
          go_roundw
          case rel => exact ⟨i + 1, by omega, by go_num, hB5.out, Lib.hid hst2.out.symm⟩
          case measure => simp [intOf]; omega
        · rw [if_neg (by omega)] at hst2
          have h0b : (-C == 0) = false := by
            rw [beq_eq_false_iff_ne]; omega
          have h0c : ¬ -C = 0 := by omega
          replace hst2 := Lib.hid hst2
          go_wp2
          go_ret
          exact ⟨by rw [hst2.out]; first | rfl | (rw [← hwn]; rfl), hfin.out _ hB5.out⟩
    · obtain rfl : i = n := by omega
      have hq := hend.out i (Nat.le_refl _)
      rw [hQ.out] at hq
      subst hq
      have hf := Lib.hid (hfin.out _ hB)
      clear hB
      go_wp2
      go_ret
      exact ⟨rfl, hf.out⟩
end Go.Proofs.YtoeonplbgbgjmaaDoor
namespace Go.Proofs.YtoeonplbgbgjmaaDoor
open Go.RowKit
set_option linter.unusedVariables false
set_option linter.unusedSimpArgs false

set_option maxRecDepth 10000 in
set_option maxHeartbeats 4000000 in
theorem spec_CompareRows_law {vs va vb : Value} {xs : List KS} {a b : List ByteArray} {F1 F2 F3 : List Nat} {w : World} (r1 : RKeySpecS w vs xs F1) (r2 : RRow w va a F2) (r3 : RRow w vb b F3) :
    Calls Tryd.prog 21 #[vs, va, vb] w fun e w' => e = .returned (.tuple #[.int .i64 (crR xs a b).1, .bool (crR xs a b).2]) ∧ Below w.heap.size w w' := by
  have g2 := r2
  have g3 := r3
  obtain ⟨u, rfl, q2⟩ := r2
  obtain ⟨v, rfl, q3⟩ := r3
  have hu := q2.rd
  have hv := q3.rd
  have hs := r1.rd
  obtain ⟨W0, hWd⟩ : ∃ W0, W0 = (w.alloc (.cells #[u] 40)).alloc (.cells #[v] 40) := ⟨_, rfl⟩
  have hBW : Below w.heap.size w W0 := by rw [hWd]; exact ((Below.refl _ _).alloc (Nat.le_refl _) _).alloc (by simp) _
  have hsz0 : W0.heap.size = w.heap.size + 2 := by rw [hWd]; simp
  have c5 : W0.cell? ⟨w.heap.size, 0, none⟩ = some u := by rw [hWd]; simp [go_sem]
  have c6 : W0.cell? ⟨w.heap.size + 1, 0, none⟩ = some v := by rw [hWd]; simp [go_sem]
  have hS : Hid (∀ w', Below W0.heap.size W0 w' → w'.cell? ⟨w.heap.size, 0, none⟩ = some u ∧ w'.cell? ⟨w.heap.size + 1, 0, none⟩ = some v) := Lib.hid (fun w' hw =>
    ⟨(hw.cell (p := ⟨w.heap.size, 0, none⟩) (by simp; omega)).trans c5, (hw.cell (p := ⟨w.heap.size + 1, 0, none⟩) (by simp; omega)).trans c6⟩)
  have hfin : Hid (∀ wr, Below W0.heap.size W0 wr → Below w.heap.size w wr) := Lib.hid (fun wr hw => Below.next hBW hw)
  have hsr := Lib.hid (hs.below hBW)
  have hur := Lib.hid (hu)
  have hsp : Hid (∀ wr, Below W0.heap.size W0 wr → Calls Tryd.prog 60 #[vs] wr fun e w' => e = .returned (.bool (okK xs)) ∧ Below W0.heap.size W0 w') := Lib.hid (fun wr hw =>
    (l2Specs_any vs xs wr (hs.below (Below.next hBW hw))).mono fun _ _ ⟨he, hb⟩ => ⟨he, hb ▸ hw⟩)
  have hra : Hid (∀ wr, Below W0.heap.size W0 wr → Calls Tryd.prog 71 #[.agg #[u]] wr fun e w' => e = .returned (.bool (rowB a)) ∧ Below W0.heap.size W0 w') := Lib.hid (fun wr hw =>
    (l2Row_any u a wr (hu.below (Below.next hBW hw))).mono fun _ _ ⟨he, hb⟩ => ⟨he, Below.next hw hb⟩)
  have hrb : Hid (∀ wr, Below W0.heap.size W0 wr → Calls Tryd.prog 71 #[.agg #[v]] wr fun e w' => e = .returned (.bool (rowB b)) ∧ Below W0.heap.size W0 w') := Lib.hid (fun wr hw =>
    (l2Row_any v b wr (hv.below (Below.next hBW hw))).mono fun _ _ ⟨he, hb⟩ => ⟨he, Below.next hw hb⟩)
  have hcm : Hid (∀ wr, okK xs = true → rowB a = true → rowB b = true → Below W0.heap.size W0 wr → Calls Tryd.prog 72 #[vs, .agg #[u], .agg #[v]] wr fun e w' => e = .returned (.int .i64 (cmpRs a b xs)) ∧ Below W0.heap.size W0 w') := Lib.hid (fun wr h1 h2 h3 hw =>
    (l2Compare_any vs xs u v a b wr (hs.below (Below.next hBW hw)) (hu.below (Below.next hBW hw)) (hv.below (Below.next hBW hw)) (fun i hi => okK_fld h1 hi) (row_facts h2).2 (row_facts h3).2).mono fun _ _ ⟨he, hb⟩ => ⟨he, Below.next hw hb⟩)
  obtain ⟨ao, c, rfl, q1, q4, _⟩ := hs
  unfold maxLen at q4
  obtain ⟨RR, hRR⟩ : ∃ RR, crR xs a b = RR := ⟨_, rfl⟩
  have hcr : Hid (RR = if (okK xs && rowB a && rowB b) then (cmpRs a b xs, true) else (0, false)) := Lib.hid (by rw [← hRR]; rfl)
  rw [hRR]
  generalize xs.length = n at *
  generalize okK xs = b1 at *
  generalize rowB a = b2 at *
  generalize rowB b = b3 at *
  generalize cmpRs a b xs = C at *
  clear g2 g3 r1 q2 q3 hu hv c5 c6 hBW hRR hsr hur
  replace hWd := Lib.hid hWd
  replace hsz0 := Lib.hid hsz0
  have hB0 : Hid (Below W0.heap.size W0 W0) := Lib.hid (Below.refl _ _)
  go_enter Tryd.func21, Tryd.ntmps21
  go_wp2_with fail
  rw [← hWd.out]
  refine (hsp.out _ hB0.out).mono ?_
  rintro e w1 ⟨rfl, hB1⟩
  obtain ⟨d1, d2⟩ := hS.out _ hB1
  replace hB1 := Lib.hid hB1
  cases b1
  · have hv := Lib.hid (show RR = (0, false) by rw [hcr.out]; simp)
    go_wp2
    go_ret2
    exact ⟨by rw [hv.out]; rfl, hfin.out _ hB1.out⟩
  · go_wp2_with fail
    refine (hra.out _ hB1.out).mono ?_
    rintro e w2 ⟨rfl, hB2⟩
    clear d1 d2
    obtain ⟨d1, d2⟩ := hS.out _ hB2
    replace hB2 := Lib.hid hB2
    cases b2
    · have hv := Lib.hid (show RR = (0, false) by rw [hcr.out]; simp)
      go_wp2
      go_ret2
      exact ⟨by rw [hv.out]; rfl, hfin.out _ hB2.out⟩
    · go_wp2_with fail
      refine (hrb.out _ hB2.out).mono ?_
      rintro e w3 ⟨rfl, hB3⟩
      clear d1 d2
      obtain ⟨d1, d2⟩ := hS.out _ hB3
      replace hB3 := Lib.hid hB3
      cases b3
      · have hv := Lib.hid (show RR = (0, false) by rw [hcr.out]; simp)
        go_wp2
        go_ret2
        exact ⟨by rw [hv.out]; rfl, hfin.out _ hB3.out⟩
      · have hv := Lib.hid (show RR = (C, true) by rw [hcr.out]; simp)
        go_wp2_with fail
        refine (hcm.out _ (by trivial) (by trivial) (by trivial) hB3.out).mono ?_
        rintro e w4 ⟨rfl, hB4⟩
        replace hB4 := Lib.hid hB4
        clear d1 d2
        go_wp2
        go_ret2
        exact ⟨by rw [hv.out]; rfl, hfin.out _ hB4.out⟩
end Go.Proofs.YtoeonplbgbgjmaaDoor
