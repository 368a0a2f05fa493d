/- ComposePermutations. -/
import Derived.Test.YtbfffpdcpoejnaaApply
namespace Go.Proofs.Ytbfffpdcpoejnaa
open Go.RowKit
set_option linter.unusedVariables false
set_option linter.unusedSimpArgs false

/-- The result of ComposePermutations. -/
def compR (p q : List Int) : List Int × Bool := if goodP p && goodP q && decide (p.length = q.length) then (apF q p, true) else ([], false)
theorem compR_no {p q : List Int} (h : ¬ (goodP p = true ∧ goodP q = true ∧ p.length = q.length)) : compR p q = ([], false) := by
  unfold compR
  rw [if_neg]
  simp
  intro h1 h2 h3
  exact h ⟨h1, h2, h3⟩
theorem compR_yes {p q : List Int} (h1 : goodP p = true) (h2 : goodP q = true) (h3 : p.length = q.length) : compR p q = (apF q p, true) := by
  simp [compR, h1, h2, h3]

theorem compR_len (p q : List Int) : (compR p q).1.length ≤ 100000000000 := by
  unfold compR
  split
  · rename_i h
    simp at h
    have := (goodP_iff.1 h.1.2).1
    simp [apF]
    omega
  · simp
set_option maxHeartbeats 1000000 in
theorem impl_Compose_any (v u : Value) (p q : List Int) (w : World) (hv : Rd w v p) (hu : Rd w u q) :
    Calls Try.prog 20 #[v, u] w fun e w' => ∃ r, e = .returned (.tuple #[r, .bool (compR p q).2]) ∧ Fresh w w' r (compR p q).1 := by
  have hv' := hv
  have hu' := hu
  obtain ⟨ao, c, rfl, h1, h2, _⟩ := hv'
  obtain ⟨bo, d, rfl, h3, h4, _⟩ := hu'
  unfold maxLen at h2 h4
  replace hv := Lib.hid hv
  replace hu := Lib.hid hu
  cases hp : goodP p
  · rw [compR_no (by simp [hp])]
    go_enter Try.func20, Try.ntmps20
    go_wp2_with (go_at_call 16; refine (impl_permOk_any _ _ _ hv.out).mono ?_; rintro e w' ⟨rfl, hb⟩)
    go_ret2
    exact ⟨_, rfl, Fresh.nil (by assumption)⟩
  cases hq : goodP q
  · rw [compR_no (by simp [hq])]
    go_enter Try.func20, Try.ntmps20
    go_wp2_with fail
    refine (impl_permOk_any _ _ _ hv.out).mono ?_
    rintro e w1 ⟨rfl, hb⟩
    replace hb := Lib.hid hb
    go_wp2_with fail
    refine (impl_permOk_any _ _ _ (hu.out.below hb.out)).mono ?_
    rintro e w2 ⟨rfl, b⟩
    replace hb := Lib.hid (Below.next hb.out b)
    clear b
    go_wp2
    go_ret2
    exact ⟨_, rfl, Fresh.nil hb.out⟩
  by_cases hl : p.length = q.length
  · rw [compR_yes hp hq hl]
    have hpq := Lib.hid (show inR q p.length from hl ▸ inR_good hq)
    have hlq : q.length ≤ 64 := (goodP_iff.1 hq).1
    replace hp := hp
    generalize hn : p.length = n at *
    generalize hm : q.length = m at *
    subst hl
    replace hn := Lib.hid hn
    replace hm := Lib.hid hm
    go_enter Try.func20, Try.ntmps20
    go_wp2_with fail
    refine (impl_permOk_any _ _ _ hv.out).mono ?_
    rintro e w1 ⟨rfl, hb⟩
    replace hb := Lib.hid hb
    go_wp2_with fail
    refine (impl_permOk_any _ _ _ (hu.out.below hb.out)).mono ?_
    rintro e w2 ⟨rfl, b⟩
    replace hb := Lib.hid (Below.next hb.out b)
    clear b
    go_wp2_with fail
    refine (apply_any _ _ q p _ (hu.out.below hb.out) (hv.out.below hb.out) (by rw [hn.out]; exact hpq.out) (by rw [hm.out]; omega)).mono ?_
    rintro e w3 ⟨r, rfl, hf⟩
    replace hf := Lib.hid hf
    go_wp2
    go_ret2
    exact ⟨_, rfl, hf.out.1, fun k hk => Nat.le_trans hb.out.size (hf.out.2.1 k hk), Below.next hb.out hf.out.2.2⟩
  · rw [compR_no (by simp [hl])]
    have hd : ((p.length : Int) != (q.length : Int)) = true := by rw [bne_iff_ne]; omega
    go_enter Try.func20, Try.ntmps20
    go_wp2_with fail
    refine (impl_permOk_any _ _ _ hv.out).mono ?_
    rintro e w1 ⟨rfl, hb⟩
    replace hb := Lib.hid hb
    go_wp2_with fail
    refine (impl_permOk_any _ _ _ (hu.out.below hb.out)).mono ?_
    rintro e w2 ⟨rfl, b⟩
    replace hb := Lib.hid (Below.next hb.out b)
    clear b
    go_wp2
    go_ret2
    exact ⟨_, rfl, Fresh.nil hb.out⟩

theorem impl_ComposePermutations_law {v u : Value} {p q : List Int} {F G : List Nat} {w : World} (r : RIntS w v p F) (s : RIntS w u q G) :
    Calls Try.prog 20 #[v, u] w fun e w' => ∃ r F, e = .returned (.tuple #[r, .bool (compR p q).2]) ∧ RIntS w' r (compR p q).1 F ∧ Fr w.heap.size F ∧ Below w.heap.size w w' ∧ (compR p q).1.length ≤ 100000000000 :=
  (impl_Compose_any v u p q w r.rd s.rd).mono fun _ _ ⟨r, he, hf⟩ => ⟨r, _, he, hf.law.1, hf.law.2.1, hf.law.2.2, compR_len p q⟩

set_option maxHeartbeats 1000000 in
theorem spec_Compose_any (v u : Value) (p q : List Int) (w : World) (hv : Rd w v p) (hu : Rd w u q) :
    Calls Try.prog 22 #[v, u] w fun e w' => ∃ r, e = .returned (.tuple #[r, .bool (compR p q).2]) ∧ Fresh w w' r (compR p q).1 := by
  have hv' := hv
  have hu' := hu
  obtain ⟨ao, c, rfl, h1, h2, HA⟩ := hv'
  obtain ⟨bo, d, rfl, h3, h4, HB⟩ := hu'
  unfold maxLen at h2 h4
  replace HA := Lib.hid HA
  replace HB := Lib.hid HB
  have hba := Lib.hid ((Below.refl w.heap.size w).alloc (Nat.le_refl _) (.cells #[] 3))
  replace hv := Lib.hid hv
  replace hu := Lib.hid hu
  cases hp : goodP p
  · rw [compR_no (by simp [hp])]
    go_enter Try.func22, Try.ntmps22
    go_wp2_with fail
    refine (l3Good_any _ _ _ (hv.out.below hba.out)).mono ?_
    rintro e w1 ⟨rfl, b⟩
    obtain ⟨ho, hb⟩ := Own.keepEmpty b
    replace ho := Lib.hid ho
    replace hb := Lib.hid hb
    clear b
    go_wp2
    go_ret2
    exact ⟨_, rfl, Fresh.of_own ho.out hb.out⟩
  cases hq : goodP q
  · rw [compR_no (by simp [hq])]
    go_enter Try.func22, Try.ntmps22
    go_wp2_with fail
    refine (l3Good_any _ _ _ (hv.out.below hba.out)).mono ?_
    rintro e w1 ⟨rfl, b⟩
    replace b := Lib.hid b
    go_wp2_with fail
    refine (l3Good_any _ _ _ (hu.out.below (Own.keepEmpty b.out).2)).mono ?_
    rintro e w2 ⟨rfl, b2⟩
    obtain ⟨ho, hb⟩ := Own.keepEmpty (Below.next b.out b2)
    replace ho := Lib.hid ho
    replace hb := Lib.hid hb
    clear b b2
    go_wp2
    go_ret2
    exact ⟨_, rfl, Fresh.of_own ho.out hb.out⟩
  by_cases hl : p.length = q.length
  · rw [compR_yes hp hq hl]
    have hr := Lib.hid (show inR q p.length from hl ▸ inR_good hq)
    have hlq : q.length ≤ 64 := (goodP_iff.1 hq).1
    generalize hm : p.length = m at *
    generalize hn : q.length = n at *
    subst hl
    replace hn := Lib.hid hn
    replace hm := Lib.hid hm
    go_enter Try.func22, Try.ntmps22
    go_wp2_with fail
    refine (l3Good_any _ _ _ (hv.out.below hba.out)).mono ?_
    rintro e w1 ⟨rfl, b⟩
    replace b := Lib.hid b
    go_wp2_with fail
    refine (l3Good_any _ _ _ (hu.out.below (Own.keepEmpty b.out).2)).mono ?_
    rintro e w2 ⟨rfl, b2⟩
    obtain ⟨ho, hb⟩ := Own.keepEmpty (Below.next b.out b2)
    replace ho := Lib.hid ho
    replace hb := Lib.hid hb
    clear b b2
    go_wp2
    go_loopw [6, 7] (fun out i wr => ∃ k : Nat, k ≤ m ∧ i = .int .i64 k ∧ Own wr 3 w.heap.size out (ints (apF (q.take k) p)) ∧ Below w.heap.size w wr) (fun _ i _ => m - (intOf i).toNat)
    case atStart => exact ⟨0, Nat.zero_le _, rfl, ho.out, hb.out⟩
    case round =>
      clear hb ho
      obtain ⟨k, hk, rfl, hown, hb⟩ := hrel
      by_cases hlt : k < m
      · obtain ⟨b, off, rfl, hR⟩ := HB.out (by omega)
        have hx0 := hr.out k (by rw [hn.out]; omega)
        have hc1 : wr.cell? ⟨b, off + k, none⟩ = some (.int .i64 (gi q k)) := by
          have h0 := hR k hlt
          rw [hb.cell (p := ⟨b, off + k, none⟩) (block_lt_of_cell h0)]
          exact h0
        clear hR
        have hsnoc := Lib.hid (apF_snoc q p k (by rw [hn.out]; omega))
        generalize hx : gi q k = x at *
        replace hx := Lib.hid hx
        obtain ⟨X, rfl⟩ := Int.eq_ofNat_of_zero_le hx0.1
        have hX : X < m := by omega
        obtain ⟨b2, off2, rfl, hR2⟩ := HA.out (by omega)
        have hc2 : wr.cell? ⟨b2, off2 + X, none⟩ = some (.int .i64 (gi p X)) := by
          have h0 := hR2 X hX
          rw [hb.cell (p := ⟨b2, off2 + X, none⟩) (block_lt_of_cell h0)]
          exact h0
        clear hR2
        have hsz := hb.size
        replace hb := Lib.hid hb
        replace hown := Lib.hid hown
        generalize hy : gi p X = y at *
        replace hy := Lib.hid hy
        have hln := apF_take_length q p k
        go_wp2_with (at_builtin; refine wpList_append_one eltInt rfl _ _ rfl w.heap.size _ _ rfl hown.out rfl rfl (by rw [ints_length]; omega) hsz ?_)
        intro v' w1 ho hg
        replace ho := Lib.hid ho
        replace hg := Lib.hid hg
        go_wp2
        go_roundw
        case rel =>
          refine ⟨k + 1, by omega, by go_num, ?_, Below.appended hb.out hown.out hg.out hsz⟩
          have := ho.out
          rw [hsnoc.out, Int.toNat_natCast, hy.out]
          simpa [ints] using this
        case measure => simp [intOf]; omega
      · obtain rfl : k = m := by omega
        replace hb := Lib.hid hb
        replace hown := Lib.hid hown
        go_wp2
        go_ret2
        refine ⟨_, rfl, Fresh.of_own ?_ hb.out⟩
        have := hown.out
        rwa [List.take_of_length_le (by rw [hn.out]; omega)] at this
  · rw [compR_no (by simp [hl])]
    have hd : ((p.length : Int) != (q.length : Int)) = true := by rw [bne_iff_ne]; omega
    go_enter Try.func22, Try.ntmps22
    go_wp2_with fail
    refine (l3Good_any _ _ _ (hv.out.below hba.out)).mono ?_
    rintro e w1 ⟨rfl, b⟩
    replace b := Lib.hid b
    go_wp2_with fail
    refine (l3Good_any _ _ _ (hu.out.below (Own.keepEmpty b.out).2)).mono ?_
    rintro e w2 ⟨rfl, b2⟩
    obtain ⟨ho, hb⟩ := Own.keepEmpty (Below.next b.out b2)
    replace ho := Lib.hid ho
    replace hb := Lib.hid hb
    clear b b2
    go_wp2
    go_ret2
    exact ⟨_, rfl, Fresh.of_own ho.out hb.out⟩
theorem spec_ComposePermutations_law {v u : Value} {p q : List Int} {F G : List Nat} {w : World} (r : RIntS w v p F) (s : RIntS w u q G) :
    Calls Try.prog 22 #[v, u] w fun e w' => ∃ r F, e = .returned (.tuple #[r, .bool (compR p q).2]) ∧ RIntS w' r (compR p q).1 F ∧ Fr w.heap.size F ∧ Below w.heap.size w w' ∧ (compR p q).1.length ≤ 100000000000 :=
  (spec_Compose_any v u p q w r.rd s.rd).mono fun _ _ ⟨r, he, hf⟩ => ⟨r, _, he, hf.law.1, hf.law.2.1, hf.law.2.2, compR_len p q⟩
end Go.Proofs.Ytbfffpdcpoejnaa
