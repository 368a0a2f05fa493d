/- PushHeap. -/
import Derived.Test.YtkdengglllfcdaaHeap
namespace Go.Proofs.Ytkdengglllfcdaa
open Go.RowKit
set_option linter.unusedVariables false
set_option linter.unusedSimpArgs false

theorem Own.below {w w' : World} {e B : Nat} {v : Value} {xs : List Value} (h : Own w e B v xs) (hb : Below w.heap.size w w') : Own w' e B v xs :=
  h.kept (r := none) (grownBy.of_below hb none) (by cases h : v.ownBlock <;> simp)
theorem Fresh.atN {w w5 wr : World} {r : Value} {l : List Int} (hb : Below w.heap.size w w5) (hs : Sl wr 3 r (ints l)) (hex : Ex r.ownBlock.toList w5 wr) (hown : ∀ b ∈ r.ownBlock.toList, w.heap.size ≤ b) (n : Nat) : Fresh w (wr.drewN n) r l :=
  ⟨hs, fun k hk => hown k (by simp [hk]), Below.drewN (Below.ex hb hex hown) n⟩
/-- A heap: isHeap, l6Heap. -/
def heapB (x : List Int) (d : Int) : Bool := (vlist x && inB d 2 8) && decide (faultF d.toNat x < 0)
def upF (d : Nat) : Nat → List Int → Nat → Nat → List Int × Nat
  | 0, l, _, c => (l, c)
  | f + 1, l, i, c => if 0 < i ∧ gi l i > gi l ((i - 1) / d) then upF d f (swp l i ((i - 1) / d)) ((i - 1) / d) (c + 1) else (l, c)
theorem upF_stop {d f i c : Nat} {l : List Int} (h : ¬ (0 < i ∧ gi l i > gi l ((i - 1) / d))) : upF d f l i c = (l, c) := by
  cases f with
  | zero => rfl
  | succ f => rw [upF, if_neg h]
theorem upF_go {d f i c : Nat} {l : List Int} (h : 0 < i ∧ gi l i > gi l ((i - 1) / d)) : upF d (f + 1) l i c = upF d f (swp l i ((i - 1) / d)) ((i - 1) / d) (c + 1) := by
  rw [upF, if_pos h]
theorem upF_length (d f : Nat) : ∀ (l : List Int) (i c : Nat), (upF d f l i c).1.length = l.length := by
  induction f with
  | zero => intros; rfl
  | succ f ih =>
    intro l i c
    rw [upF]
    split
    · rw [ih]; simp
    · rfl
/-- The result of PushHeap. -/
def pushR (x : List Int) (d y : Int) : List Int × Nat × Bool :=
  if heapB x d && vlist (x ++ [y]) then ((upF d.toNat (x.length + 1) (x ++ [y]) x.length 0).1, (upF d.toNat (x.length + 1) (x ++ [y]) x.length 0).2, true) else ([], 0, false)
theorem pushR_len (x : List Int) (d y : Int) : (pushR x d y).1.length ≤ 100000000000 := by
  unfold pushR
  split
  · rename_i h
    simp only [Bool.and_eq_true] at h
    have := (vlist_iff.1 h.2).1
    dsimp only
    rw [upF_length]; omega
  · simp

set_option maxHeartbeats 400000 in
theorem impl_isHeap_any (v : Value) (x : List Int) (d : Int) (w : World) (hv : Rd w v x) :
    Calls Try.prog 65 #[v, .int .i64 d] w fun e w' => e = .returned (.bool (heapB x d)) ∧ Below w.heap.size w w' := by
  replace hv := Lib.hid hv
  cases h : vlist x
  · rw [show heapB x d = false by simp [heapB, h]]
    go_enter Try.func65, Try.ntmps65
    go_wp2_with (go_at_call 55; refine (isValidList_any _ _ _ hv.out).mono ?_; rintro e w' ⟨rfl, hb⟩)
    go_ret
    exact ⟨rfl, by assumption⟩
  cases hd : inB d 2 8
  · rw [show heapB x d = false by simp [heapB, hd]]
    go_enter Try.func65, Try.ntmps65
    go_wp2_with fail
    refine (isValidList_any _ _ _ hv.out).mono ?_
    rintro e w1 ⟨rfl, hb⟩
    replace hb := Lib.hid hb
    go_wp2_with (go_at_call 68; refine (isArity_any _ _).mono ?_; rintro e w' ⟨rfl, rfl⟩)
    go_ret
    exact ⟨rfl, hb.out⟩
  · have hd' := inB_iff.1 hd
    obtain ⟨D, rfl⟩ := Int.eq_ofNat_of_zero_le (show 0 ≤ d by omega)
    rw [show heapB x (D : Int) = decide (faultF D x < 0) by simp [heapB, hd, h]]
    have h1 : 1 ≤ D := by omega
    have h2 : D ≤ 8 := by omega
    clear hd'
    go_enter Try.func65, Try.ntmps65
    go_wp2_with fail
    refine (isValidList_any _ _ _ hv.out).mono ?_
    rintro e w1 ⟨rfl, hb⟩
    replace hb := Lib.hid hb
    go_wp2_with (go_at_call 68; refine (isArity_any _ _).mono ?_; rintro e w' ⟨rfl, rfl⟩)
    refine (firstFault_any _ _ _ _ (hv.out.below hb.out) h1 h2).mono ?_
    rintro e w2 ⟨rfl, b⟩
    replace hb := Lib.hid (Below.next hb.out (Below.quiet b))
    clear b
    go_wp2
    go_ret
    exact ⟨rfl, hb.out⟩
set_option maxHeartbeats 400000 in
theorem l6Heap_any (v : Value) (x : List Int) (d : Int) (w : World) (hv : Rd w v x) :
    Calls Try.prog 63 #[v, .int .i64 d] w fun e w' => e = .returned (.bool (heapB x d)) ∧ Below w.heap.size w w' := by
  replace hv := Lib.hid hv
  cases h : vlist x && inB d 2 8
  · rw [show heapB x d = false by simp [heapB, h]]
    go_enter Try.func63, Try.ntmps63
    go_wp2_with (go_at_call 66; refine (l6Valid_any _ _ _ _ hv.out).mono ?_; rintro e w' ⟨rfl, rfl⟩)
    go_ret
    exact ⟨rfl, Below.refl _ _⟩
  · have hd' := inB_iff.1 (show inB d 2 8 = true by simp at h; exact h.2)
    obtain ⟨D, rfl⟩ := Int.eq_ofNat_of_zero_le (show 0 ≤ d by omega)
    rw [show heapB x (D : Int) = decide (faultF D x < 0) by simp only [heapB, h]; simp]
    have h1 : 1 ≤ D := by omega
    have h2 : D ≤ 8 := by omega
    clear hd'
    go_enter Try.func63, Try.ntmps63
    go_wp2_with (go_at_call 66; refine (l6Valid_any _ _ _ _ hv.out).mono ?_; rintro e w' ⟨rfl, rfl⟩)
    refine (l6Defect_any _ _ _ _ hv.out h1 h2).mono ?_
    rintro e w2 ⟨rfl, b⟩
    replace b := Lib.hid (Below.quiet b)
    go_wp2
    go_ret
    exact ⟨rfl, b.out⟩

set_option maxHeartbeats 4000000 in
theorem impl_PushHeap_law {v : Value} {x : List Int} {F : List Nat} {d y : Int} {w : World} (r : RIntS w v x F) (_ : -9223372036854775808 ≤ d ∧ d ≤ 9223372036854775807) (_ : -9223372036854775808 ≤ y ∧ y ≤ 9223372036854775807) (hx9 : x.length ≤ 1048576) :
    Calls Try.prog 41 #[v, .int .i64 d, .int .i64 y] w fun e w' => ∃ r F, e = .returned (.tuple #[r, .int .i64 (pushR x d y).2.1, .bool (pushR x d y).2.2]) ∧ RIntS w' r (pushR x d y).1 F ∧ Fr w.heap.size F ∧ Below w.heap.size w w' ∧ (pushR x d y).1.length ≤ 100000000000 := by
  have hv := Lib.hid r.1
  have hlen := Lib.hid (pushR_len x d y)
  clear r
  replace hx9 : x.length ≤ 1000000000 := by omega
  obtain ⟨L, hL⟩ : ∃ L, L = x ++ [y] := ⟨_, rfl⟩
  have hln : L.length = x.length + 1 := by rw [hL]; simp
  have hpush : pushR x d y = if heapB x d && vlist L then ((upF d.toNat (x.length + 1) L x.length 0).1, (upF d.toNat (x.length + 1) L x.length 0).2, true) else ([], 0, false) := by rw [hL]; rfl
  replace hL := Lib.hid hL
  replace hln := Lib.hid hln
  replace hpush := Lib.hid hpush
  cases h : heapB x d
  · have e0 : pushR x d y = ([], 0, false) := by rw [hpush.out]; simp [h]
    rw [e0] at hlen ⊢
    clear e0
    go_enter Try.func41, Try.ntmps41
    go_wp2_with fail
    refine (copyInt_any _ _ _ hv.out hx9).mono ?_
    rintro e w2 ⟨r, rfl, hf⟩
    have hf1 := Lib.hid hf.1
    replace hb := Lib.hid hf.2
    clear hf
    go_wp2_with (at_builtin; refine wpList_append_one eltInt rfl _ _ rfl w.heap.size _ _ rfl hf1.out rfl rfl (by rw [ints_length]; exact hx9) hb.out.size ?_)
    intro r2 w3 ho hg
    replace hb := Lib.hid (Below.appended hb.out hf1.out hg hb.out.size)
    have ho := Lib.hid (show Own w3 3 w.heap.size r2 (ints L) by rw [hL.out]; simpa [ints] using ho)
    clear hg hf1
    obtain ⟨ao2, c2, hr2⟩ : ∃ ao2 c2, r2 = .slice ao2 L.length c2 := by
      obtain ⟨ao2, c2, h, _⟩ := ho.out.sl.openInts
      exact ⟨ao2, c2, h⟩
    subst hr2
    go_wp2_with fail
    refine (impl_isHeap_any _ _ _ _ (hv.out.rd.below hb.out)).mono ?_
    rintro e w4 ⟨rfl, b⟩
    replace hb := Lib.hid (Below.next hb.out b)
    replace ho := Lib.hid (ho.out.below b)
    clear b
    go_wp2
    go_ret3
    exact ⟨_, _, rfl, (Fresh.nil hb.out).law.1, (Fresh.nil hb.out).law.2.1, (Fresh.nil hb.out).law.2.2, hlen.out⟩
  cases h2 : vlist L
  · have e0 : pushR x d y = ([], 0, false) := by rw [hpush.out]; simp [h2]
    rw [e0] at hlen ⊢
    clear e0
    go_enter Try.func41, Try.ntmps41
    go_wp2_with fail
    refine (copyInt_any _ _ _ hv.out hx9).mono ?_
    rintro e w2 ⟨r, rfl, hf⟩
    have hf1 := Lib.hid hf.1
    replace hb := Lib.hid hf.2
    clear hf
    go_wp2_with (at_builtin; refine wpList_append_one eltInt rfl _ _ rfl w.heap.size _ _ rfl hf1.out rfl rfl (by rw [ints_length]; exact hx9) hb.out.size ?_)
    intro r2 w3 ho hg
    replace hb := Lib.hid (Below.appended hb.out hf1.out hg hb.out.size)
    have ho := Lib.hid (show Own w3 3 w.heap.size r2 (ints L) by rw [hL.out]; simpa [ints] using ho)
    clear hg hf1
    obtain ⟨ao2, c2, hr2⟩ : ∃ ao2 c2, r2 = .slice ao2 L.length c2 := by
      obtain ⟨ao2, c2, h, _⟩ := ho.out.sl.openInts
      exact ⟨ao2, c2, h⟩
    subst hr2
    go_wp2_with fail
    refine (impl_isHeap_any _ _ _ _ (hv.out.rd.below hb.out)).mono ?_
    rintro e w4 ⟨rfl, b⟩
    replace hb := Lib.hid (Below.next hb.out b)
    replace ho := Lib.hid (ho.out.below b)
    clear b
    go_wp2_with fail
    refine (isValidList_any _ _ _ (Sl.rd ho.out.sl)).mono ?_
    rintro e w5 ⟨rfl, b⟩
    replace hb := Lib.hid (Below.next hb.out b)
    replace ho := Lib.hid (ho.out.below b)
    clear b
    go_wp2
    go_ret3
    exact ⟨_, _, rfl, (Fresh.nil hb.out).law.1, (Fresh.nil hb.out).law.2.1, (Fresh.nil hb.out).law.2.2, hlen.out⟩
  · have e0 : pushR x d y = ((upF d.toNat (x.length + 1) L x.length 0).1, (upF d.toNat (x.length + 1) L x.length 0).2, true) := by rw [hpush.out]; simp [h, h2]
    have hl := (vlist_iff.1 h2).1
    have hd' : 2 ≤ d ∧ d ≤ 8 := by simp only [heapB, Bool.and_eq_true] at h; exact inB_iff.1 h.1.2
    obtain ⟨D, rfl⟩ := Int.eq_ofNat_of_zero_le (show 0 ≤ d by omega)
    rw [Int.toNat_natCast] at e0
    have hD1 : 2 ≤ D := by omega
    have hD2 : D ≤ 8 := by omega
    rw [e0] at hlen ⊢
    clear e0 hd'
    generalize hR : upF D (x.length + 1) L x.length 0 = R at hlen ⊢
    replace hR := Lib.hid hR
    go_enter Try.func41, Try.ntmps41
    go_wp2_with fail
    refine (copyInt_any _ _ _ hv.out hx9).mono ?_
    rintro e w2 ⟨r, rfl, hf⟩
    have hf1 := Lib.hid hf.1
    replace hb := Lib.hid hf.2
    clear hf
    go_wp2_with (at_builtin; refine wpList_append_one eltInt rfl _ _ rfl w.heap.size _ _ rfl hf1.out rfl rfl (by rw [ints_length]; exact hx9) hb.out.size ?_)
    intro r2 w3 ho hg
    replace hb := Lib.hid (Below.appended hb.out hf1.out hg hb.out.size)
    have ho := Lib.hid (show Own w3 3 w.heap.size r2 (ints L) by rw [hL.out]; simpa [ints] using ho)
    clear hg hf1
    obtain ⟨ao2, c2, hr2⟩ : ∃ ao2 c2, r2 = .slice ao2 L.length c2 := by
      obtain ⟨ao2, c2, h, _⟩ := ho.out.sl.openInts
      exact ⟨ao2, c2, h⟩
    subst hr2
    go_wp2_with fail
    refine (impl_isHeap_any _ _ _ _ (hv.out.rd.below hb.out)).mono ?_
    rintro e w4 ⟨rfl, b⟩
    replace hb := Lib.hid (Below.next hb.out b)
    replace ho := Lib.hid (ho.out.below b)
    clear b
    go_wp2_with fail
    refine (isValidList_any _ _ _ (Sl.rd ho.out.sl)).mono ?_
    rintro e w5 ⟨rfl, b⟩
    replace hb := Lib.hid (Below.next hb.out b)
    replace ho := Lib.hid (ho.out.below b)
    clear b
    replace hln := hln.out
    have hsl0 := ho.out.sl
    have hown := Lib.hid (fun (b : Nat) (hm : b ∈ (Value.slice ao2 L.length c2).ownBlock.toList) => (ho.out.lt b (by simpa using hm)).1)
    clear ho
    generalize hn : L.length = n at *
    have hx1 : x.length + 1 = n := by omega
    replace hn := Lib.hid hn
    obtain ⟨m, rfl⟩ : ∃ m, n = m + 1 := ⟨x.length, hx1.symm⟩
    have hxm : x.length = m := by omega
    rw [hxm] at hR
    clear hx1 hln
    replace hxm := Lib.hid hxm
    have hmi : ((m + 1 : Nat) : Int) - 1 = (m : Int) := by omega
    replace hsl0 := Lib.hid hsl0
    have _w := True.intro
    go_wp2
    clear hmi
    go_loopw [10, 11] (fun cc ii wr => ∃ (f i c : Nat) (l : List Int), ii = .int .i64 i ∧ cc = .int .i64 c ∧ c + i ≤ m ∧ i < f ∧ l.length = m + 1 ∧ upF D f l i c = R ∧
        Sl wr 3 (.slice ao2 (m + 1) c2) (ints l) ∧ Ex (Value.slice ao2 (m + 1) c2).ownBlock.toList w5 wr) (fun _ ii _ => (intOf ii).toNat)
    case atStart => exact ⟨m + 1, m, 0, _, rfl, rfl, by omega, by omega, hn.out, hR.out, hsl0.out, Ex.refl _ _⟩
    case round =>
      obtain ⟨f, i, c, l, rfl, rfl, hci, hfi, hll, hF, hsl, hex⟩ := hrel
      cases f with
      | zero => omega
      | succ f =>
      by_cases hi0 : i = 0
      · have hE := Lib.hid ((upF_stop (by omega)).symm.trans hF)
        have hd0 : decide (0 < i) = false := decide_eq_false (by omega)
        have hni : ¬ 0 < i := by omega
        clear hF
        replace hi0 := Lib.hid hi0
        replace hsl := Lib.hid hsl
        replace hex := Lib.hid hex
        replace hll := Lib.hid hll
        go_wp2
        go_quiet (fail)
        go_wp2
        go_ret3
        have hfin := fun n => Fresh.atN hb.out hsl.out hex.out hown.out n
        rw [← hE.out] at hlen ⊢
        exact ⟨_, _, rfl, (hfin nq).law.1, (hfin nq).law.2.1, (hfin nq).law.2.2, hlen.out⟩
      · obtain ⟨j, rfl⟩ : ∃ j, i = j + 1 := ⟨i - 1, by omega⟩
        obtain ⟨b, off, rfl, _, hRow⟩ := hsl.rowInts (by omega)
        have hdv := Nat.div_le_self j D
        have hgo := fun hh => (upF_go (d := D) (f := f) (i := j + 1) (c := c) (l := l) hh).symm.trans hF
        have hst := fun hh => (upF_stop (d := D) (f := f + 1) (i := j + 1) (c := c) (l := l) hh).symm.trans hF
        rw [Nat.add_sub_cancel] at hgo hst
        clear hF
        have hi4 : (j : Int) / (D : Int) = ((j / D : Nat) : Int) := (Int.natCast_ediv j D).symm
        generalize hp : j / D = p at *
        have hc1 : wr.cell? ⟨b, off + (j + 1), none⟩ = some (.int .i64 (gi l (j + 1))) := hRow.cellInt (by omega)
        have hc2 : wr.cell? ⟨b, off + p, none⟩ = some (.int .i64 (gi l p)) := hRow.cellInt (by omega)
        have hf1 := hRow.frozen (off + (j + 1))
        have hf2 := hRow.frozen (off + p)
        clear hRow
        have hset := Lib.hid ((hsl.setInt (i := j + 1) (by omega) (gi l p)).setInt (i := p) (by omega) (gi l (j + 1)))
        replace hp := Lib.hid hp
        replace hsl := Lib.hid hsl
        replace hex := Lib.hid hex
        replace hll := Lib.hid hll
        have hi1 : (0 : Int) ≤ (j : Int) := by omega
        have hi2 : ((j + 1 : Nat) : Int) - 1 = (j : Int) := by omega
        have hi5 : (0 : Int) ≤ (p : Int) := by omega
        have hi6 : (p : Int) < ((m + 1 : Nat) : Int) := by omega
        have hi7 : ((p : Int)).toNat = p := by omega
        have hd0 : decide ((0 : Int) < ((j + 1 : Nat) : Int)) = true := decide_eq_true (by omega)
        generalize hx : gi l (j + 1) = X at *
        generalize hy : gi l p = Y at *
        replace hx := Lib.hid hx
        replace hy := Lib.hid hy
        by_cases hXY : X > Y
        · have hE := Lib.hid (hgo ⟨by omega, hXY⟩)
          clear hgo hst
          go_wp2
          go_quiet (fail)
          go_wp2
          go_region
          go_wp2
          clear hi2 hi7
          go_roundw
          case rel => exact ⟨f, p, c + 1, swp l (j + 1) p, by first | go_num | rw [hi4], by go_num, by omega, by omega, by simp [hll.out], hE.out, by unfold swp; rw [hx.out, hy.out]; exact hset.out, Ex.setIn (p := ⟨b, off + p, none⟩) (Ex.setIn (p := ⟨b, off + (j + 1), none⟩) (by first | exact Ex.drewN hex.out _ | exact Ex.drewN (Ex.drewN hex.out _) _) (by simp [Value.ownBlock])) (by simp [Value.ownBlock])⟩
          case measure => simp [intOf]; omega
        · have hE := Lib.hid (hst (by omega))
          clear hgo hst
          go_wp2
          go_quiet (fail)
          clear hi2 hi4 hi7
          go_wp2
          go_ret3
          have hfin := fun n => Fresh.atN hb.out hsl.out hex.out hown.out n
          rw [← hE.out] at hlen ⊢
          exact ⟨_, _, rfl, (hfin nq).law.1, (hfin nq).law.2.1, (hfin nq).law.2.2, hlen.out⟩

set_option maxHeartbeats 4000000 in
theorem spec_PushHeap_law {v : Value} {x : List Int} {F : List Nat} {d y : Int} {w : World} (r : RIntS w v x F) (_ : -9223372036854775808 ≤ d ∧ d ≤ 9223372036854775807) (_ : -9223372036854775808 ≤ y ∧ y ≤ 9223372036854775807) (hx9 : x.length ≤ 1048576) :
    Calls Try.prog 40 #[v, .int .i64 d, .int .i64 y] w fun e w' => ∃ r F, e = .returned (.tuple #[r, .int .i64 (pushR x d y).2.1, .bool (pushR x d y).2.2]) ∧ RIntS w' r (pushR x d y).1 F ∧ Fr w.heap.size F ∧ Below w.heap.size w w' ∧ (pushR x d y).1.length ≤ 100000000000 := by
  have hv := Lib.hid r.1
  have hlen := Lib.hid (pushR_len x d y)
  clear r
  replace hx9 : x.length ≤ 1000000000 := by omega
  obtain ⟨L, hL⟩ : ∃ L, L = x ++ [y] := ⟨_, rfl⟩
  have hln : L.length = x.length + 1 := by rw [hL]; simp
  have hpush : pushR x d y = if heapB x d && vlist L then ((upF d.toNat (x.length + 1) L x.length 0).1, (upF d.toNat (x.length + 1) L x.length 0).2, true) else ([], 0, false) := by rw [hL]; rfl
  replace hL := Lib.hid hL
  replace hln := Lib.hid hln
  replace hpush := Lib.hid hpush
  cases h : heapB x d
  · have e0 : pushR x d y = ([], 0, false) := by rw [hpush.out]; simp [h]
    rw [e0] at hlen ⊢
    clear e0
    go_enter Try.func40, Try.ntmps40
    go_wp2_with fail
    refine (l1Own_any _ _ _ hv.out hx9).mono ?_
    rintro e w2 ⟨r, rfl, hf⟩
    have hf1 := Lib.hid hf.1
    replace hb := Lib.hid hf.2
    clear hf
    go_wp2_with (at_builtin; refine wpList_append_one eltInt rfl _ _ rfl w.heap.size _ _ rfl hf1.out rfl rfl (by rw [ints_length]; exact hx9) hb.out.size ?_)
    intro r2 w3 ho hg
    replace hb := Lib.hid (Below.appended hb.out hf1.out hg hb.out.size)
    have ho := Lib.hid (show Own w3 3 w.heap.size r2 (ints L) by rw [hL.out]; simpa [ints] using ho)
    clear hg hf1
    obtain ⟨ao2, c2, hr2⟩ : ∃ ao2 c2, r2 = .slice ao2 L.length c2 := by
      obtain ⟨ao2, c2, h, _⟩ := ho.out.sl.openInts
      exact ⟨ao2, c2, h⟩
    subst hr2
    go_wp2_with fail
    refine (l6Heap_any _ _ _ _ (hv.out.rd.below hb.out)).mono ?_
    rintro e w4 ⟨rfl, b⟩
    replace hb := Lib.hid (Below.next hb.out b)
    replace ho := Lib.hid (ho.out.below b)
    clear b
    go_wp2
    go_ret3
    exact ⟨_, _, rfl, (Fresh.empty hb.out).law.1, (Fresh.empty hb.out).law.2.1, (Fresh.empty hb.out).law.2.2, hlen.out⟩
  cases h2 : vlist L
  · have e0 : pushR x d y = ([], 0, false) := by rw [hpush.out]; simp [h2]
    rw [e0] at hlen ⊢
    clear e0
    go_enter Try.func40, Try.ntmps40
    go_wp2_with fail
    refine (l1Own_any _ _ _ hv.out hx9).mono ?_
    rintro e w2 ⟨r, rfl, hf⟩
    have hf1 := Lib.hid hf.1
    replace hb := Lib.hid hf.2
    clear hf
    go_wp2_with (at_builtin; refine wpList_append_one eltInt rfl _ _ rfl w.heap.size _ _ rfl hf1.out rfl rfl (by rw [ints_length]; exact hx9) hb.out.size ?_)
    intro r2 w3 ho hg
    replace hb := Lib.hid (Below.appended hb.out hf1.out hg hb.out.size)
    have ho := Lib.hid (show Own w3 3 w.heap.size r2 (ints L) by rw [hL.out]; simpa [ints] using ho)
    clear hg hf1
    obtain ⟨ao2, c2, hr2⟩ : ∃ ao2 c2, r2 = .slice ao2 L.length c2 := by
      obtain ⟨ao2, c2, h, _⟩ := ho.out.sl.openInts
      exact ⟨ao2, c2, h⟩
    subst hr2
    go_wp2_with fail
    refine (l6Heap_any _ _ _ _ (hv.out.rd.below hb.out)).mono ?_
    rintro e w4 ⟨rfl, b⟩
    replace hb := Lib.hid (Below.next hb.out b)
    replace ho := Lib.hid (ho.out.below b)
    clear b
    go_wp2_with fail
    refine (l2List_any _ _ _ (Sl.rd ho.out.sl)).mono ?_
    rintro e w5 ⟨rfl, rfl⟩
    go_wp2
    go_ret3
    exact ⟨_, _, rfl, (Fresh.empty hb.out).law.1, (Fresh.empty hb.out).law.2.1, (Fresh.empty hb.out).law.2.2, hlen.out⟩
  · have e0 : pushR x d y = ((upF d.toNat (x.length + 1) L x.length 0).1, (upF d.toNat (x.length + 1) L x.length 0).2, true) := by rw [hpush.out]; simp [h, h2]
    have hl := (vlist_iff.1 h2).1
    have hd' : 2 ≤ d ∧ d ≤ 8 := by simp only [heapB, Bool.and_eq_true] at h; exact inB_iff.1 h.1.2
    obtain ⟨D, rfl⟩ := Int.eq_ofNat_of_zero_le (show 0 ≤ d by omega)
    rw [Int.toNat_natCast] at e0
    have hD1 : 2 ≤ D := by omega
    have hD2 : D ≤ 8 := by omega
    rw [e0] at hlen ⊢
    clear e0 hd'
    generalize hR : upF D (x.length + 1) L x.length 0 = R at hlen ⊢
    replace hR := Lib.hid hR
    go_enter Try.func40, Try.ntmps40
    go_wp2_with fail
    refine (l1Own_any _ _ _ hv.out hx9).mono ?_
    rintro e w2 ⟨r, rfl, hf⟩
    have hf1 := Lib.hid hf.1
    replace hb := Lib.hid hf.2
    clear hf
    go_wp2_with (at_builtin; refine wpList_append_one eltInt rfl _ _ rfl w.heap.size _ _ rfl hf1.out rfl rfl (by rw [ints_length]; exact hx9) hb.out.size ?_)
    intro r2 w3 ho hg
    replace hb := Lib.hid (Below.appended hb.out hf1.out hg hb.out.size)
    have ho := Lib.hid (show Own w3 3 w.heap.size r2 (ints L) by rw [hL.out]; simpa [ints] using ho)
    clear hg hf1
    obtain ⟨ao2, c2, hr2⟩ : ∃ ao2 c2, r2 = .slice ao2 L.length c2 := by
      obtain ⟨ao2, c2, h, _⟩ := ho.out.sl.openInts
      exact ⟨ao2, c2, h⟩
    subst hr2
    go_wp2_with fail
    refine (l6Heap_any _ _ _ _ (hv.out.rd.below hb.out)).mono ?_
    rintro e w4 ⟨rfl, b⟩
    replace hb := Lib.hid (Below.next hb.out b)
    replace ho := Lib.hid (ho.out.below b)
    clear b
    go_wp2_with fail
    refine (l2List_any _ _ _ (Sl.rd ho.out.sl)).mono ?_
    rintro e w5 ⟨rfl, rfl⟩
    replace hln := hln.out
    have hsl0 := ho.out.sl
    have hown := Lib.hid (fun (b : Nat) (hm : b ∈ (Value.slice ao2 L.length c2).ownBlock.toList) => (ho.out.lt b (by simpa using hm)).1)
    clear ho
    generalize hn : L.length = n at *
    have hx1 : x.length + 1 = n := by omega
    replace hn := Lib.hid hn
    obtain ⟨m, rfl⟩ : ∃ m, n = m + 1 := ⟨x.length, hx1.symm⟩
    have hxm : x.length = m := by omega
    rw [hxm] at hR
    clear hx1 hln
    replace hxm := Lib.hid hxm
    have hmi : ((m + 1 : Nat) : Int) - 1 = (m : Int) := by omega
    replace hsl0 := Lib.hid hsl0
    have _w := True.intro
    go_wp2
    clear hmi
    go_loopw [10, 11] (fun cc ii wr => ∃ (f i c : Nat) (l : List Int), ii = .int .i64 i ∧ cc = .int .i64 c ∧ c + i ≤ m ∧ i < f ∧ l.length = m + 1 ∧ upF D f l i c = R ∧
        Sl wr 3 (.slice ao2 (m + 1) c2) (ints l) ∧ Ex (Value.slice ao2 (m + 1) c2).ownBlock.toList w4 wr) (fun _ ii _ => (intOf ii).toNat)
    case atStart => exact ⟨m + 1, m, 0, _, rfl, rfl, by omega, by omega, hn.out, hR.out, hsl0.out, Ex.refl _ _⟩
    case round =>
      obtain ⟨f, i, c, l, rfl, rfl, hci, hfi, hll, hF, hsl, hex⟩ := hrel
      cases f with
      | zero => omega
      | succ f =>
      by_cases hi0 : i = 0
      · have hE := Lib.hid ((upF_stop (by omega)).symm.trans hF)
        have hd0 : decide (0 < i) = false := decide_eq_false (by omega)
        have hni : ¬ 0 < i := by omega
        clear hF
        replace hi0 := Lib.hid hi0
        replace hsl := Lib.hid hsl
        replace hex := Lib.hid hex
        replace hll := Lib.hid hll
        go_wp2
        go_quiet (fail)
        go_wp2
        go_ret3
        have hfin := fun n => Fresh.atN hb.out hsl.out hex.out hown.out n
        rw [← hE.out] at hlen ⊢
        exact ⟨_, _, rfl, (hfin nq).law.1, (hfin nq).law.2.1, (hfin nq).law.2.2, hlen.out⟩
      · obtain ⟨j, rfl⟩ : ∃ j, i = j + 1 := ⟨i - 1, by omega⟩
        obtain ⟨b, off, rfl, _, hRow⟩ := hsl.rowInts (by omega)
        have hdv := Nat.div_le_self j D
        have hgo := fun hh => (upF_go (d := D) (f := f) (i := j + 1) (c := c) (l := l) hh).symm.trans hF
        have hst := fun hh => (upF_stop (d := D) (f := f + 1) (i := j + 1) (c := c) (l := l) hh).symm.trans hF
        rw [Nat.add_sub_cancel] at hgo hst
        clear hF
        have hi4 : (j : Int) / (D : Int) = ((j / D : Nat) : Int) := (Int.natCast_ediv j D).symm
        generalize hp : j / D = p at *
        have hc1 : wr.cell? ⟨b, off + (j + 1), none⟩ = some (.int .i64 (gi l (j + 1))) := hRow.cellInt (by omega)
        have hc2 : wr.cell? ⟨b, off + p, none⟩ = some (.int .i64 (gi l p)) := hRow.cellInt (by omega)
        have hf1 := hRow.frozen (off + (j + 1))
        have hf2 := hRow.frozen (off + p)
        clear hRow
        have hset := Lib.hid ((hsl.setInt (i := j + 1) (by omega) (gi l p)).setInt (i := p) (by omega) (gi l (j + 1)))
        replace hp := Lib.hid hp
        replace hsl := Lib.hid hsl
        replace hex := Lib.hid hex
        replace hll := Lib.hid hll
        have hi1 : (0 : Int) ≤ (j : Int) := by omega
        have hi2 : ((j + 1 : Nat) : Int) - 1 = (j : Int) := by omega
        have hi5 : (0 : Int) ≤ (p : Int) := by omega
        have hi6 : (p : Int) < ((m + 1 : Nat) : Int) := by omega
        have hi7 : ((p : Int)).toNat = p := by omega
        have hd0 : decide ((0 : Int) < ((j + 1 : Nat) : Int)) = true := decide_eq_true (by omega)
        generalize hx : gi l (j + 1) = X at *
        generalize hy : gi l p = Y at *
        replace hx := Lib.hid hx
        replace hy := Lib.hid hy
        by_cases hXY : X > Y
        · have hE := Lib.hid (hgo ⟨by omega, hXY⟩)
          clear hgo hst
          go_wp2
          go_quiet (fail)
          go_wp2_with fail
          refine (l6Swap_any (m + 1) c2 b off (j + 1) p l _ hll.out (Sl.drewN hsl.out _) (by omega) (by omega) (by omega)).mono ?_
          rintro e w6 ⟨rfl, hs4, hex4⟩
          replace hs4 := Lib.hid hs4
          have hex5 := Lib.hid (Ex.trans (by first | exact Ex.drewN hex.out _ | exact Ex.drewN (Ex.drewN hex.out _) _) hex4)
          clear hex4
          go_wp2
          clear hi2 hi7
          go_roundw
          case rel => exact ⟨f, p, c + 1, swp l (j + 1) p, by first | go_num | rw [hi4], by go_num, by omega, by omega, by simp [hll.out], hE.out, hs4.out, hex5.out⟩
          case measure => simp [intOf]; omega
        · have hE := Lib.hid (hst (by omega))
          clear hgo hst
          go_wp2
          go_quiet (fail)
          clear hi2 hi4 hi7
          go_wp2
          go_ret3
          have hfin := fun n => Fresh.atN hb.out hsl.out hex.out hown.out n
          rw [← hE.out] at hlen ⊢
          exact ⟨_, _, rfl, (hfin nq).law.1, (hfin nq).law.2.1, (hfin nq).law.2.2, hlen.out⟩
end Go.Proofs.Ytkdengglllfcdaa
