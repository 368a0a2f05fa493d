/- CompareRows, impl. CompareRows, impl: the whole. -/
import Derived.Test.YtoeonplbgbgjmaaDoorMg8
import Derived.Test.YtoeonplbgbgjmaaDoorPInt
import Derived.Test.YtoeonplbgbgjmaaDoorLay
import Derived.Deep.RegionHeld3
namespace Go.Proofs.YtoeonplbgbgjmaaDoor
open Go.RowKit
set_option linter.unusedVariables false
set_option linter.unusedSimpArgs false

set_option maxHeartbeats 400000 in
theorem isNaNi_any (a : Int) (w : World) : Calls Tryd.prog 163 #[.int .i64 a] w fun e w' => e = .returned (.bool false) ∧ w = w' := by
  go_enter Tryd.func163, Tryd.ntmps163
  go_wp2
  go_ret
  exact ⟨rfl, rfl⟩
set_option maxHeartbeats 400000 in
theorem cmpInts_any (a b : Int) (w : World) : Calls Tryd.prog 137 #[.int .i64 a, .int .i64 b] w fun e w' => e = .returned (.int .i64 (Lib.compareInt a b)) ∧ w = w' := by
  by_cases h1 : a < b
  · rw [show Lib.compareInt a b = -1 by simp [Lib.compareInt, h1]]
    go_enter Tryd.func137, Tryd.ntmps137
    go_wp2_with (go_at_call 163; refine (isNaNi_any _ _).mono ?_; rintro e w' ⟨rfl, rfl⟩)
    go_ret
    exact ⟨rfl, rfl⟩
  · by_cases h2 : a > b
    · rw [show Lib.compareInt a b = 1 by unfold Lib.compareInt; rw [if_neg h1, if_pos h2]]
      go_enter Tryd.func137, Tryd.ntmps137
      go_wp2_with (go_at_call 163; refine (isNaNi_any _ _).mono ?_; rintro e w' ⟨rfl, rfl⟩)
      go_ret
      exact ⟨rfl, rfl⟩
    · rw [show Lib.compareInt a b = 0 by unfold Lib.compareInt; rw [if_neg h1, if_neg h2]]
      go_enter Tryd.func137, Tryd.ntmps137
      go_wp2_with (go_at_call 163; refine (isNaNi_any _ _).mono ?_; rintro e w' ⟨rfl, rfl⟩)
      go_ret
      exact ⟨rfl, rfl⟩
theorem strCmp_any (a b : ByteArray) (w : World) : Calls Tryd.prog 136 #[.string a, .string b] w fun e w' => e = .returned (.int .i64 (cmpB a b)) ∧ w = w' :=
  (Any.strings_Compare lays106 a b w).mono fun _ _ ⟨he, hw⟩ => ⟨he, hw.symm⟩

set_option maxRecDepth 10000 in
set_option maxHeartbeats 4000000 in
theorem compare_any (k : KS) (u v : Value) (a b : List ByteArray) (w : World) (hu : RdS w u a) (hv : RdS w v b) (h0 : 0 ≤ k.1) (h5 : k.1 ≤ 5) (ha : ∀ i, i < a.length → (gs a i).size ≤ 40) (hb : ∀ i, i < b.length → (gs b i).size ≤ 40) (hT : TabS w) :
    Calls Tryd.prog 114 #[ksV k, .agg #[u], .agg #[v]] w fun e w' => e = .returned (.int .i64 (cmpK k a b)) ∧ Below w.heap.size w w' := by
  have hza := valF_size (k := k) h0 ha
  have hzb := valF_size (k := k) h0 hb
  have hW0 : ∀ A B C : Obj, Below w.heap.size w (((w.alloc A).alloc B).alloc C) := fun A B C => (((Below.refl _ _).alloc (Nat.le_refl _) A).alloc (by simp) B).alloc (by simp; omega) C
  obtain ⟨W0, hWd⟩ : ∃ W0, W0 = ((w.alloc (.cells #[.int .i64 k.1, .bool k.2.1, .bool k.2.2.1, .bool k.2.2.2] 71)).alloc (.cells #[u] 40)).alloc (.cells #[v] 40) := ⟨_, rfl⟩
  have hBW : Below w.heap.size w W0 := by rw [hWd]; exact hW0 _ _ _
  have hsz0 : W0.heap.size = w.heap.size + 3 := by rw [hWd]; simp
  have c1 : W0.cell? ⟨w.heap.size, 0, none⟩ = some (.int .i64 k.1) := by rw [hWd]; simp [go_sem]
  have c2 : W0.cell? ⟨w.heap.size, 1, none⟩ = some (.bool k.2.1) := by rw [hWd]; simp [go_sem]
  have c3 : W0.cell? ⟨w.heap.size, 2, none⟩ = some (.bool k.2.2.1) := by rw [hWd]; simp [go_sem]
  have c4 : W0.cell? ⟨w.heap.size, 3, none⟩ = some (.bool k.2.2.2) := by rw [hWd]; simp [go_sem]
  have c5 : W0.cell? ⟨w.heap.size + 1, 0, none⟩ = some u := by rw [hWd]; simp [go_sem]
  have c6 : W0.cell? ⟨w.heap.size + 1 + 1, 0, none⟩ = some v := by rw [hWd]; simp [go_sem]
  have hS : Hid (∀ w', Below W0.heap.size W0 w' → Below W0.heap.size W0 w' ∧ w'.cell? ⟨w.heap.size, 0, none⟩ = some (.int .i64 k.1) ∧ w'.cell? ⟨w.heap.size, 1, none⟩ = some (.bool k.2.1) ∧ w'.cell? ⟨w.heap.size, 2, none⟩ = some (.bool k.2.2.1) ∧ w'.cell? ⟨w.heap.size, 3, none⟩ = some (.bool k.2.2.2) ∧ w'.cell? ⟨w.heap.size + 1, 0, none⟩ = some u ∧ w'.cell? ⟨w.heap.size + 1 + 1, 0, none⟩ = some v) := Lib.hid (fun w' hw =>
    ⟨hw, (hw.cell (p := ⟨w.heap.size, 0, none⟩) (by simp; omega)).trans c1, (hw.cell (p := ⟨w.heap.size, 1, none⟩) (by simp; omega)).trans c2, (hw.cell (p := ⟨w.heap.size, 2, none⟩) (by simp; omega)).trans c3, (hw.cell (p := ⟨w.heap.size, 3, none⟩) (by simp; omega)).trans c4, (hw.cell (p := ⟨w.heap.size + 1, 0, none⟩) (by simp; omega)).trans c5, (hw.cell (p := ⟨w.heap.size + 1 + 1, 0, none⟩) (by simp; omega)).trans c6⟩)
  have hva : Hid (∀ wr, Below W0.heap.size W0 wr → Calls Tryd.prog 135 #[ksV k, .agg #[u]] wr fun e w' => e = .returned (.string (valF k a)) ∧ Below W0.heap.size W0 w') := Lib.hid (fun wr hw =>
    (value_any k u a wr (hu.below (Below.next hBW hw)) h0 h5 ha).mono fun _ _ ⟨he, hb⟩ => ⟨he, Below.next hw hb⟩)
  have hvb : Hid (∀ wr, Below W0.heap.size W0 wr → Calls Tryd.prog 135 #[ksV k, .agg #[v]] wr fun e w' => e = .returned (.string (valF k b)) ∧ Below W0.heap.size W0 w') := Lib.hid (fun wr hw =>
    (value_any k v b wr (hv.below (Below.next hBW hw)) h0 h5 hb).mono fun _ _ ⟨he, hb⟩ => ⟨he, Below.next hw hb⟩)
  have hTW : Hid (∀ wr, Below W0.heap.size W0 wr → TabS wr) := Lib.hid (fun wr hw => hT.next (Below.next hBW hw))
  have hfin : Hid (∀ wr, Below W0.heap.size W0 wr → Below w.heap.size w wr) := Lib.hid (fun wr hw => Below.next hBW hw)
  obtain ⟨f, n, d, c⟩ := k
  unfold ksV at hva hvb ⊢
  dsimp only at *
  have hck : Hid (cmpK (f, n, d, c) a b = if d then -(keyC n (valF (f, n, d, c) a) (valF (f, n, d, c) b)) else keyC n (valF (f, n, d, c) a) (valF (f, n, d, c) b)) := Lib.hid rfl
  generalize valF (f, n, d, c) a = X at *
  generalize valF (f, n, d, c) b = Y at *
  obtain ⟨K, hK⟩ : ∃ K, cmpK (f, n, d, c) a b = K := ⟨_, rfl⟩
  rw [hK] at hck ⊢
  have hvv : Hid (∀ z S, ((z = u ∧ S = X) ∨ (z = v ∧ S = Y)) → ∀ wr, Below W0.heap.size W0 wr → Calls Tryd.prog 135 #[.agg #[.int .i64 f, .bool n, .bool d, .bool c], .agg #[z]] wr fun e w' => e = .returned (.string S) ∧ Below W0.heap.size W0 w') := Lib.hid (fun z S hz wr hw => by
    rcases hz with ⟨rfl, rfl⟩ | ⟨rfl, rfl⟩
    · exact hva.out wr hw
    · exact hvb.out wr hw)
  clear hu hv ha hb hT hW0 c1 c2 c3 c4 c5 c6 hK hBW h0 h5 hva hvb
  replace hWd := Lib.hid hWd
  replace hsz0 := Lib.hid hsz0
  go_enter Tryd.func114, Tryd.ntmps114
  go_wp2
  rw [← hWd.out]
  go_region_held3 (fun w' => Below W0.heap.size W0 w' ∧ w'.cell? ⟨w.heap.size, 0, none⟩ = some (.int .i64 f) ∧ w'.cell? ⟨w.heap.size, 1, none⟩ = some (.bool n) ∧ w'.cell? ⟨w.heap.size, 2, none⟩ = some (.bool d) ∧ w'.cell? ⟨w.heap.size, 3, none⟩ = some (.bool c) ∧ w'.cell? ⟨w.heap.size + 1, 0, none⟩ = some u ∧ w'.cell? ⟨w.heap.size + 1 + 1, 0, none⟩ = some v) ((refine hS.out _ ?_; first | assumption | exact Below.drewN (Below.refl _ _) 1)) ((go_at_call 135; refine (hvv.out _ _ (by first | exact .inl ⟨rfl, rfl⟩ | exact .inr ⟨rfl, rfl⟩) _ (by first | assumption | (apply And.left; assumption))).mono ?_; rintro e w' ⟨rfl, hbel⟩))
  have hB := Lib.hid hbel
  clear hbel
  have hwn := Lib.hid (fun (z : Int) (h : -1 ≤ z ∧ z ≤ 1) => (IntWalk.i64_in (-z) (by omega) : IntKind.i64.wrap (-z) = -z))
  have hcbd := cmpB_bd X Y
  go_wp2_with fail
  refine (strCmp_any X Y _).mono ?_
  rintro e w2 ⟨rfl, rfl⟩
  obtain ⟨_, _, hc2, _, _, _, _⟩ := hS.out _ hB.out
  cases n
  · have hkc : keyC false X Y = cmpB X Y := rfl
    rw [hkc] at hck
    clear hkc
    generalize cmpB X Y = C at *
    replace hwn := hwn.out C hcbd
    obtain ⟨_, _, _, hd3, _, _, _⟩ := hS.out _ hB.out
    cases d
    · rw [if_neg (by simp)] at hck
      go_wp2
      go_ret
      exact ⟨by rw [hck.out]; rfl, hfin.out _ hB.out⟩
    · rw [if_pos rfl] at hck
      go_wp2
      go_ret
      exact ⟨by rw [hck.out]; first | rfl | (rw [← hwn]; rfl), hfin.out _ hB.out⟩
  · have hkc : Hid (keyC true X Y = if (piR X).2 then (if (piR Y).2 then Lib.compareInt (piR X).1 (piR Y).1 else 1) else (if (piR Y).2 then -1 else cmpB X Y)) := Lib.hid rfl
    generalize cmpB X Y = C at *
    go_wp2_with fail
    refine (impl_ParseInt_law (s := X) (by omega) (hTW.out _ hB.out)).mono ?_
    rintro e w3 ⟨rfl, b3⟩
    replace hB := Lib.hid (Below.next hB.out b3)
    clear b3 hc2
    go_wp2_with fail
    refine (impl_ParseInt_law (s := Y) (by omega) (hTW.out _ hB.out)).mono ?_
    rintro e w4 ⟨rfl, b4⟩
    replace hB := Lib.hid (Below.next hB.out b4)
    clear b4
    generalize piR X = P at *
    generalize piR Y = Q at *
    obtain ⟨p1, p2⟩ := P
    obtain ⟨q1, q2⟩ := Q
    dsimp only at hkc ⊢
    rw [hkc.out] at hck
    clear hkc
    cases p2
    · cases q2
      · have hck : Hid (K = if d = true then -C else C) := Lib.hid (by rw [hck.out]; simp)
        replace hwn := hwn.out C hcbd
        obtain ⟨_, _, _, hd3, _, _, _⟩ := hS.out _ hB.out
        cases d
        · rw [if_neg (by simp)] at hck
          go_wp2
          go_ret
          exact ⟨by rw [hck.out]; rfl, hfin.out _ hB.out⟩
        · rw [if_pos rfl] at hck
          go_wp2
          go_ret
          exact ⟨by rw [hck.out]; first | rfl | (rw [← hwn]; rfl), hfin.out _ hB.out⟩
      · have hck : Hid (K = if d = true then -(-1) else -1) := Lib.hid (by rw [hck.out]; simp)
        clear hcbd
        replace hwn := hwn.out (-1) (by omega)
        obtain ⟨_, _, _, hd3, _, _, _⟩ := hS.out _ hB.out
        cases d
        · rw [if_neg (by simp)] at hck
          go_wp2
          go_ret
          exact ⟨by rw [hck.out]; rfl, hfin.out _ hB.out⟩
        · rw [if_pos rfl] at hck
          go_wp2
          go_ret
          exact ⟨by rw [hck.out]; first | rfl | (rw [← hwn]; rfl), hfin.out _ hB.out⟩
    · cases q2
      · have hck : Hid (K = if d = true then -1 else 1) := Lib.hid (by rw [hck.out]; simp)
        clear hcbd
        replace hwn := hwn.out 1 (by omega)
        obtain ⟨_, _, _, hd3, _, _, _⟩ := hS.out _ hB.out
        cases d
        · rw [if_neg (by simp)] at hck
          go_wp2
          go_ret
          exact ⟨by rw [hck.out]; rfl, hfin.out _ hB.out⟩
        · rw [if_pos rfl] at hck
          go_wp2
          go_ret
          exact ⟨by rw [hck.out]; first | rfl | (rw [← hwn]; rfl), hfin.out _ hB.out⟩
      · have hck : Hid (K = if d = true then -(Lib.compareInt p1 q1) else Lib.compareInt p1 q1) := Lib.hid (by rw [hck.out]; simp)
        clear hcbd
        go_wp2_with fail
        refine (cmpInts_any p1 q1 _).mono ?_
        rintro e w5 ⟨rfl, rfl⟩
        have hcbd := compareInt_bd p1 q1
        generalize Lib.compareInt p1 q1 = D at *
        replace hwn := hwn.out D hcbd
        obtain ⟨_, _, _, hd3, _, _, _⟩ := hS.out _ hB.out
        cases d
        · rw [if_neg (by simp)] at hck
          go_wp2
          go_ret
          exact ⟨by rw [hck.out]; rfl, hfin.out _ hB.out⟩
        · rw [if_pos rfl] at hck
          go_wp2
          go_ret
          exact ⟨by rw [hck.out]; first | rfl | (rw [← hwn]; rfl), hfin.out _ hB.out⟩

theorem row_facts {x : List ByteArray} (h : rowB x = true) : x.length ≤ 6 ∧ ∀ i, i < x.length → (gs x i).size ≤ 40 := by
  unfold rowB at h
  rw [Bool.and_eq_true] at h
  have h1 := inB_iff.1 h.1
  refine ⟨by omega, fun i hi => ?_⟩
  have h2 := List.all_eq_true.1 h.2 _ (List.getElem_mem hi)
  rw [← gs_eq hi] at h2
  unfold fieldB at h2
  rw [Bool.and_eq_true] at h2
  exact of_decide_eq_true h2.1
set_option maxRecDepth 10000 in
set_option maxHeartbeats 4000000 in
theorem compareRows_any (vs : Value) (xs : List KS) (u v : Value) (a b : List ByteArray) (w : World) (hs : RdK w vs xs) (hu : RdS w u a) (hv : RdS w v b) (hk : ∀ i, i < xs.length → 0 ≤ (gk xs i).1 ∧ (gk xs i).1 ≤ 5) (ha : ∀ i, i < a.length → (gs a i).size ≤ 40) (hb : ∀ i, i < b.length → (gs b i).size ≤ 40) (hT : TabS w) :
    Calls Tryd.prog 74 #[vs, .agg #[u], .agg #[v]] w fun e w' => e = .returned (.int .i64 (cmpRs a b xs)) ∧ Below w.heap.size w w' := by
  obtain ⟨W0, hWd⟩ : ∃ W0, W0 = (w.alloc (.cells #[u] 40)).alloc (.cells #[v] 40) := ⟨_, rfl⟩
  have hBW : Below w.heap.size w W0 := by rw [hWd]; exact ((Below.refl _ _).alloc (Nat.le_refl _) _).alloc (by simp) _
  have hsz0 : W0.heap.size = w.heap.size + 2 := by rw [hWd]; simp
  have c5 : W0.cell? ⟨w.heap.size, 0, none⟩ = some u := by rw [hWd]; simp [go_sem]
  have c6 : W0.cell? ⟨w.heap.size + 1, 0, none⟩ = some v := by rw [hWd]; simp [go_sem]
  have hS : Hid (∀ w', Below W0.heap.size W0 w' → w'.cell? ⟨w.heap.size, 0, none⟩ = some u ∧ w'.cell? ⟨w.heap.size + 1, 0, none⟩ = some v) := Lib.hid (fun w' hw =>
    ⟨(hw.cell (p := ⟨w.heap.size, 0, none⟩) (by simp; omega)).trans c5, (hw.cell (p := ⟨w.heap.size + 1, 0, none⟩) (by simp; omega)).trans c6⟩)
  have hcm : Hid (∀ k wr, 0 ≤ k.1 → k.1 ≤ 5 → Below W0.heap.size W0 wr → Calls Tryd.prog 114 #[ksV k, .agg #[u], .agg #[v]] wr fun e w' => e = .returned (.int .i64 (cmpK k a b)) ∧ Below W0.heap.size W0 w') := Lib.hid (fun k wr h0 h5 hw =>
    (compare_any k u v a b wr (hu.below (Below.next hBW hw)) (hv.below (Below.next hBW hw)) h0 h5 ha hb (hT.next (Below.next hBW hw))).mono fun _ _ ⟨he, hb⟩ => ⟨he, Below.next hw hb⟩)
  have hfin : Hid (∀ wr, Below W0.heap.size W0 wr → Below w.heap.size w wr) := Lib.hid (fun wr hw => Below.next hBW hw)
  have hsr := Lib.hid (fun wr (hw : Below W0.heap.size W0 wr) => hs.below (Below.next hBW hw))
  have hstep := Lib.hid (fun i (hi : i < xs.length) => cmpRs_step (a := a) (b := b) hi)
  have hend := Lib.hid (fun i (hi : xs.length ≤ i) => cmpRs_end (a := a) (b := b) hi)
  have hkb := Lib.hid (fun k => cmpK_bd k a b)
  replace hk := Lib.hid hk
  obtain ⟨R, hR⟩ : ∃ R, cmpRs a b xs = R := ⟨_, rfl⟩
  have hR0 : Hid (cmpRs a b (xs.drop 0) = R) := Lib.hid (by simpa using hR)
  rw [hR]
  obtain ⟨ao, c, rfl, q1, q2, _⟩ := hs
  unfold maxLen at q2
  obtain ⟨n, hn⟩ : ∃ n, xs.length = n := ⟨_, rfl⟩
  rw [hn] at hstep hend hk q1 ⊢
  rw [hn] at hsr
  replace hn := Lib.hid hn
  clear hu hv ha hb hT c5 c6 hR hBW
  replace hWd := Lib.hid hWd
  replace hsz0 := Lib.hid hsz0
  go_enter Tryd.func74, Tryd.ntmps74
  go_wp2
  rw [← hWd.out]
  go_loopw [12] (fun iv wr => ∃ i : Nat, i ≤ n ∧ iv = .int .i64 (i : Nat) ∧ Below W0.heap.size W0 wr ∧ Hid (cmpRs a b (xs.drop i) = R)) (fun iv _ => n - (intOf iv).toNat)
  case atStart => exact ⟨0, Nat.zero_le _, rfl, Below.refl _ _, hR0⟩
  case round =>
    clear hR0
    obtain ⟨i, hi, rfl, hB, hQ⟩ := hrel
    by_cases hlt : i < n
    · obtain ⟨ao2, c2, e2, _, _, HA⟩ := hsr.out wr hB
      rw [hn.out] at e2 HA
      simp at e2
      obtain ⟨rfl, rfl⟩ := e2
      obtain ⟨b9, off, rfl, hRd⟩ := HA (by omega)
      obtain ⟨hc1, hc2, hc3, hc4⟩ := hRd i hlt
      clear hRd HA
      obtain ⟨hf0, hf5⟩ := hk.out i hlt
      have hst := hstep.out i hlt
      rw [hQ.out] at hst
      generalize hx : gk xs i = x at *
      replace hx := Lib.hid hx
      have hBk : ∀ o, Below W0.heap.size W0 (wr.alloc o) := fun o => hB.alloc hB.size o
      have hB1 := Lib.hid (hBk (.cells #[.int .i64 x.1, .bool x.2.1, .bool x.2.2.1, .bool x.2.2.2] 71))
      obtain ⟨hb5, hb6⟩ := hS.out _ hB1.out
      have hcall := Lib.hid (hcm.out x _ hf0 hf5 hB1.out)
      unfold ksV at hcall
      have hbd := hkb.out x
      replace hB := Lib.hid hB
      clear hBk hQ
      go_wp2_with fail
      refine hcall.out.mono ?_
      rintro e w5 ⟨rfl, hB5⟩
      replace hB5 := Lib.hid hB5
      generalize hC : cmpK x a b = C at *
      replace hC := Lib.hid hC
      by_cases h0 : C = 0
      · rw [if_pos h0] at hst
        subst h0
        replace hst := Lib.hid hst
        go_wp2
        go_roundw
        case rel => exact ⟨i + 1, by omega, by go_num, hB5.out, Lib.hid hst.out.symm⟩
        case measure => simp [intOf]; omega
      · rw [if_neg h0] at hst
        subst hst
        have h0b : (R == 0) = false := by simpa using h0
        go_wp2
        go_ret
        exact ⟨rfl, hfin.out _ hB5.out⟩
    · obtain rfl : i = n := by omega
      have hq := hend.out i (Nat.le_refl _)
      rw [hQ.out] at hq
      subst hq
      have hf := Lib.hid (hfin.out _ hB)
      clear hB
      go_wp2
      go_ret
      exact ⟨rfl, hf.out⟩
end Go.Proofs.YtoeonplbgbgjmaaDoor
namespace Go.Proofs.YtoeonplbgbgjmaaDoor
open Go.RowKit
set_option linter.unusedVariables false
set_option linter.unusedSimpArgs false

set_option maxRecDepth 10000 in
set_option maxHeartbeats 4000000 in
theorem impl_CompareRows_law {vs va vb : Value} {xs : List KS} {a b : List ByteArray} {F1 F2 F3 : List Nat} {w : World} (r1 : RKeySpecS w vs xs F1) (r2 : RRow w va a F2) (r3 : RRow w vb b F3) (hT : TabS w) :
    Calls Tryd.prog 23 #[vs, va, vb] w fun e w' => e = .returned (.tuple #[.int .i64 (crR xs a b).1, .bool (crR xs a b).2]) ∧ Below w.heap.size w w' := by
  have g2 := r2
  have g3 := r3
  obtain ⟨u, rfl, q2⟩ := r2
  obtain ⟨v, rfl, q3⟩ := r3
  have hu := q2.rd
  have hv := q3.rd
  have hs := r1.rd
  obtain ⟨W0, hWd⟩ : ∃ W0, W0 = (w.alloc (.cells #[u] 40)).alloc (.cells #[v] 40) := ⟨_, rfl⟩
  have hBW : Below w.heap.size w W0 := by rw [hWd]; exact ((Below.refl _ _).alloc (Nat.le_refl _) _).alloc (by simp) _
  have hsz0 : W0.heap.size = w.heap.size + 2 := by rw [hWd]; simp
  have c5 : W0.cell? ⟨w.heap.size, 0, none⟩ = some u := by rw [hWd]; simp [go_sem]
  have c6 : W0.cell? ⟨w.heap.size + 1, 0, none⟩ = some v := by rw [hWd]; simp [go_sem]
  have hS : Hid (∀ w', Below W0.heap.size W0 w' → w'.cell? ⟨w.heap.size, 0, none⟩ = some u ∧ w'.cell? ⟨w.heap.size + 1, 0, none⟩ = some v) := Lib.hid (fun w' hw =>
    ⟨(hw.cell (p := ⟨w.heap.size, 0, none⟩) (by simp; omega)).trans c5, (hw.cell (p := ⟨w.heap.size + 1, 0, none⟩) (by simp; omega)).trans c6⟩)
  have hfin : Hid (∀ wr, Below W0.heap.size W0 wr → Below w.heap.size w wr) := Lib.hid (fun wr hw => Below.next hBW hw)
  have hsr := Lib.hid (hs.below hBW)
  have hur := Lib.hid (hu)
  have hsp : Hid (∀ wr, Below W0.heap.size W0 wr → Calls Tryd.prog 63 #[vs] wr fun e w' => e = .returned (.bool (okK xs)) ∧ Below W0.heap.size W0 w') := Lib.hid (fun wr hw =>
    (areSpecs_any vs xs wr (hs.below (Below.next hBW hw))).mono fun _ _ ⟨he, hb⟩ => ⟨he, Below.next hw hb⟩)
  have hra : Hid (∀ wr, Below W0.heap.size W0 wr → Calls Tryd.prog 55 #[.agg #[u]] wr fun e w' => e = .returned (.bool (rowB a)) ∧ Below W0.heap.size W0 w') := Lib.hid (fun wr hw =>
    (impl_IsValidRow_law (g2.next (Below.next hBW hw))).mono fun _ _ ⟨he, hb⟩ => ⟨he, Below.next hw hb⟩)
  have hrb : Hid (∀ wr, Below W0.heap.size W0 wr → Calls Tryd.prog 55 #[.agg #[v]] wr fun e w' => e = .returned (.bool (rowB b)) ∧ Below W0.heap.size W0 w') := Lib.hid (fun wr hw =>
    (impl_IsValidRow_law (g3.next (Below.next hBW hw))).mono fun _ _ ⟨he, hb⟩ => ⟨he, Below.next hw hb⟩)
  have hcm : Hid (∀ wr, okK xs = true → rowB a = true → rowB b = true → Below W0.heap.size W0 wr → Calls Tryd.prog 74 #[vs, .agg #[u], .agg #[v]] wr fun e w' => e = .returned (.int .i64 (cmpRs a b xs)) ∧ Below W0.heap.size W0 w') := Lib.hid (fun wr h1 h2 h3 hw =>
    (compareRows_any vs xs u v a b wr (hs.below (Below.next hBW hw)) (hu.below (Below.next hBW hw)) (hv.below (Below.next hBW hw)) (fun i hi => okK_fld h1 hi) (row_facts h2).2 (row_facts h3).2 (hT.next (Below.next hBW hw))).mono fun _ _ ⟨he, hb⟩ => ⟨he, Below.next hw hb⟩)
  obtain ⟨ao, c, rfl, q1, q4, _⟩ := hs
  unfold maxLen at q4
  obtain ⟨RR, hRR⟩ : ∃ RR, crR xs a b = RR := ⟨_, rfl⟩
  have hcr : Hid (RR = if (okK xs && rowB a && rowB b) then (cmpRs a b xs, true) else (0, false)) := Lib.hid (by rw [← hRR]; rfl)
  rw [hRR]
  generalize xs.length = n at *
  generalize okK xs = b1 at *
  generalize rowB a = b2 at *
  generalize rowB b = b3 at *
  generalize cmpRs a b xs = C at *
  clear g2 g3 r1 q2 q3 hu hv c5 c6 hBW hRR hsr hur hT
  replace hWd := Lib.hid hWd
  replace hsz0 := Lib.hid hsz0
  have hB0 : Hid (Below W0.heap.size W0 W0) := Lib.hid (Below.refl _ _)
  go_enter Tryd.func23, Tryd.ntmps23
  go_wp2_with fail
  rw [← hWd.out]
  refine (hsp.out _ hB0.out).mono ?_
  rintro e w1 ⟨rfl, hB1⟩
  obtain ⟨d1, d2⟩ := hS.out _ hB1
  replace hB1 := Lib.hid hB1
  cases b1
  · have hv := Lib.hid (show RR = (0, false) by rw [hcr.out]; simp)
    go_wp2
    go_ret2
    exact ⟨by rw [hv.out]; rfl, hfin.out _ hB1.out⟩
  · go_wp2_with fail
    refine (hra.out _ hB1.out).mono ?_
    rintro e w2 ⟨rfl, hB2⟩
    clear d1 d2
    obtain ⟨d1, d2⟩ := hS.out _ hB2
    replace hB2 := Lib.hid hB2
    cases b2
    · have hv := Lib.hid (show RR = (0, false) by rw [hcr.out]; simp)
      go_wp2
      go_ret2
      exact ⟨by rw [hv.out]; rfl, hfin.out _ hB2.out⟩
    · go_wp2_with fail
      refine (hrb.out _ hB2.out).mono ?_
      rintro e w3 ⟨rfl, hB3⟩
      clear d1 d2
      obtain ⟨d1, d2⟩ := hS.out _ hB3
      replace hB3 := Lib.hid hB3
      cases b3
      · have hv := Lib.hid (show RR = (0, false) by rw [hcr.out]; simp)
        go_wp2
        go_ret2
        exact ⟨by rw [hv.out]; rfl, hfin.out _ hB3.out⟩
      · have hv := Lib.hid (show RR = (C, true) by rw [hcr.out]; simp)
        go_wp2_with fail
        refine (hcm.out _ (by trivial) (by trivial) (by trivial) hB3.out).mono ?_
        rintro e w4 ⟨rfl, hB4⟩
        replace hB4 := Lib.hid hB4
        clear d1 d2
        go_wp2
        go_ret2
        exact ⟨by rw [hv.out]; rfl, hfin.out _ hB4.out⟩
end Go.Proofs.YtoeonplbgbgjmaaDoor
