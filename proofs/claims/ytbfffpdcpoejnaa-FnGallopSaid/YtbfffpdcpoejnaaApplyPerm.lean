/- ApplyPermutation. -/
import Derived.Test.YtbfffpdcpoejnaaApply
namespace Go.Proofs.Ytbfffpdcpoejnaa
open Go.RowKit
set_option linter.unusedVariables false
set_option linter.unusedSimpArgs false

/-- The result of ApplyPermutation. -/
def appR (p l : List Int) : List Int × Bool := if goodP p && vlist l && decide (p.length = l.length) then (apF p l, true) else ([], false)
theorem appR_no {p l : List Int} (h : ¬ (goodP p = true ∧ vlist l = true ∧ p.length = l.length)) : appR p l = ([], false) := by
  unfold appR
  rw [if_neg]
  simp
  intro h1 h2 h3
  exact h ⟨h1, h2, h3⟩
theorem appR_yes {p l : List Int} (h1 : goodP p = true) (h2 : vlist l = true) (h3 : p.length = l.length) : appR p l = (apF p l, true) := by
  simp [appR, h1, h2, h3]
theorem appR_len (p l : List Int) : (appR p l).1.length ≤ 100000000000 := by
  unfold appR
  split
  · rename_i h
    simp at h
    have := (goodP_iff.1 h.1.1).1
    simp [apF]
    omega
  · simp

set_option maxHeartbeats 400000 in
theorem l3Apply_any (v u : Value) (p list : List Int) (w : World) (hv : Rd w v p) (hu : Rd w u list) (hr : inR p list.length) (hl : p.length ≤ 1000) :
    Calls Try.prog 69 #[v, u] w fun e w' => ∃ r, e = .returned r ∧ Fresh w w' r (apF p list) := by
  obtain ⟨ao, c, rfl, h1, h2, HA⟩ := hv
  obtain ⟨bo, d, rfl, h3, h4, HB⟩ := hu
  unfold maxLen at h2 h4
  have hemp := Lib.hid (Own.empty w 3)
  generalize hn : p.length = n at *
  generalize hm : list.length = m at *
  replace HA := Lib.hid HA
  replace HB := Lib.hid HB
  replace hn := Lib.hid hn
  replace hm := Lib.hid hm
  replace hr := Lib.hid hr
  go_enter Try.func69, Try.ntmps69
  go_wp2
  go_loopw [5, 6] (fun out i wr => ∃ k : Nat, k ≤ n ∧ i = .int .i64 k ∧ Own wr 3 w.heap.size out (ints (apF (p.take k) list)) ∧ Below w.heap.size w wr) (fun _ i _ => n - (intOf i).toNat)
  case atStart => exact ⟨0, Nat.zero_le _, rfl, hemp.out, (Below.refl _ _).alloc (Nat.le_refl _) _⟩
  case round =>
    obtain ⟨k, hk, rfl, hown, hb⟩ := hrel
    by_cases hlt : k < n
    · obtain ⟨b, off, rfl, hR⟩ := HA.out (by omega)
      have hx0 := hr.out k (by rw [hn.out]; omega)
      have hc1 : wr.cell? ⟨b, off + k, none⟩ = some (.int .i64 (gi p k)) := by
        have h0 := hR k hlt
        rw [hb.cell (p := ⟨b, off + k, none⟩) (block_lt_of_cell h0)]
        exact h0
      clear hR
      have hsnoc := Lib.hid (apF_snoc p list k (by rw [hn.out]; omega))
      generalize hx : gi p k = x at *
      replace hx := Lib.hid hx
      obtain ⟨X, rfl⟩ := Int.eq_ofNat_of_zero_le hx0.1
      have hX : X < m := by omega
      obtain ⟨b2, off2, rfl, hR2⟩ := HB.out (by omega)
      have hc2 : wr.cell? ⟨b2, off2 + X, none⟩ = some (.int .i64 (gi list X)) := by
        have h0 := hR2 X hX
        rw [hb.cell (p := ⟨b2, off2 + X, none⟩) (block_lt_of_cell h0)]
        exact h0
      clear hR2
      have hsz := hb.size
      replace hb := Lib.hid hb
      replace hown := Lib.hid hown
      generalize hy : gi list X = y at *
      replace hy := Lib.hid hy
      have hln := apF_take_length p list k
      go_wp2_with (at_builtin; refine wpList_append_one eltInt rfl _ _ rfl w.heap.size _ _ rfl hown.out rfl rfl (by rw [ints_length]; omega) hsz ?_)
      intro v' w1 ho hg
      replace ho := Lib.hid ho
      replace hg := Lib.hid hg
      go_wp2
      go_roundw
      case rel =>
        refine ⟨k + 1, by omega, by go_num, ?_, Below.appended hb.out hown.out hg.out hsz⟩
        have := ho.out
        rw [hsnoc.out, Int.toNat_natCast, hy.out]
        simpa [ints] using this
      case measure => simp [intOf]; omega
    · obtain rfl : k = n := by omega
      replace hb := Lib.hid hb
      replace hown := Lib.hid hown
      go_wp2
      go_ret
      refine ⟨_, rfl, Fresh.of_own ?_ hb.out⟩
      have := hown.out
      rwa [List.take_of_length_le (by rw [hn.out]; omega)] at this

set_option maxHeartbeats 1000000 in
theorem impl_ApplyPermutation_law {v u : Value} {p l : List Int} {F G : List Nat} {w : World} (r : RIntS w v p F) (s : RIntS w u l G) :
    Calls Try.prog 18 #[v, u] w fun e w' => ∃ r F, e = .returned (.tuple #[r, .bool (appR p l).2]) ∧ RIntS w' r (appR p l).1 F ∧ Fr w.heap.size F ∧ Below w.heap.size w w' ∧ (appR p l).1.length ≤ 100000000000 := by
  have hv := r.rd
  have hu := s.rd
  clear r s
  have hlen := Lib.hid (appR_len p l)
  have hv' := hv
  have hu' := hu
  obtain ⟨ao, c, rfl, h1, h2, _⟩ := hv'
  obtain ⟨bo, d, rfl, h3, h4, _⟩ := hu'
  unfold maxLen at h2 h4
  replace hv := Lib.hid hv
  replace hu := Lib.hid hu
  cases hp : goodP p
  · rw [appR_no (by simp [hp])] at hlen ⊢
    go_enter Try.func18, Try.ntmps18
    go_wp2_with fail
    refine (impl_permOk_any _ _ _ hv.out).mono ?_
    rintro e w1 ⟨rfl, hb⟩
    replace hb := Lib.hid hb
    go_wp2
    go_ret2
    exact ⟨_, _, rfl, (Fresh.nil hb.out).law.1, (Fresh.nil hb.out).law.2.1, (Fresh.nil hb.out).law.2.2, hlen.out⟩
  cases hq : vlist l
  · rw [appR_no (by simp [hq])] at hlen ⊢
    go_enter Try.func18, Try.ntmps18
    go_wp2_with fail
    refine (impl_permOk_any _ _ _ hv.out).mono ?_
    rintro e w1 ⟨rfl, hb⟩
    replace hb := Lib.hid hb
    go_wp2_with fail
    refine (isValidList_any _ _ _ (hu.out.below hb.out)).mono ?_
    rintro e w2 ⟨rfl, b⟩
    replace hb := Lib.hid (Below.next hb.out b)
    clear b
    go_wp2
    go_ret2
    exact ⟨_, _, rfl, (Fresh.nil hb.out).law.1, (Fresh.nil hb.out).law.2.1, (Fresh.nil hb.out).law.2.2, hlen.out⟩
  by_cases hl : p.length = l.length
  · rw [appR_yes hp hq hl] at hlen ⊢
    have hr := Lib.hid (show inR p l.length from hl ▸ inR_good hp)
    have hlq : p.length ≤ 64 := (goodP_iff.1 hp).1
    generalize hn : p.length = n at *
    generalize hm : l.length = m at *
    subst hl
    replace hn := Lib.hid hn
    replace hm := Lib.hid hm
    go_enter Try.func18, Try.ntmps18
    go_wp2_with fail
    refine (impl_permOk_any _ _ _ hv.out).mono ?_
    rintro e w1 ⟨rfl, hb⟩
    replace hb := Lib.hid hb
    go_wp2_with fail
    refine (isValidList_any _ _ _ (hu.out.below hb.out)).mono ?_
    rintro e w2 ⟨rfl, b⟩
    replace hb := Lib.hid (Below.next hb.out b)
    clear b
    go_wp2_with fail
    refine (apply_any _ _ p l _ (hv.out.below hb.out) (hu.out.below hb.out) (by rw [hm.out]; exact hr.out) (by rw [hn.out]; omega)).mono ?_
    rintro e w3 ⟨r, rfl, hf⟩
    replace hf := Lib.hid hf
    go_wp2
    go_ret2
    have hfin : Fresh w w3 r (apF p l) := ⟨hf.out.1, fun k hk => Nat.le_trans hb.out.size (hf.out.2.1 k hk), Below.next hb.out hf.out.2.2⟩
    exact ⟨_, _, rfl, hfin.law.1, hfin.law.2.1, hfin.law.2.2, hlen.out⟩
  · rw [appR_no (by simp [hl])] at hlen ⊢
    have hd : ((p.length : Int) != (l.length : Int)) = true := by rw [bne_iff_ne]; omega
    go_enter Try.func18, Try.ntmps18
    go_wp2_with fail
    refine (impl_permOk_any _ _ _ hv.out).mono ?_
    rintro e w1 ⟨rfl, hb⟩
    replace hb := Lib.hid hb
    go_wp2_with fail
    refine (isValidList_any _ _ _ (hu.out.below hb.out)).mono ?_
    rintro e w2 ⟨rfl, b⟩
    replace hb := Lib.hid (Below.next hb.out b)
    clear b
    go_wp2
    go_ret2
    exact ⟨_, _, rfl, (Fresh.nil hb.out).law.1, (Fresh.nil hb.out).law.2.1, (Fresh.nil hb.out).law.2.2, hlen.out⟩

set_option maxHeartbeats 1000000 in
theorem spec_ApplyPermutation_law {v u : Value} {p l : List Int} {F G : List Nat} {w : World} (r : RIntS w v p F) (s : RIntS w u l G) :
    Calls Try.prog 19 #[v, u] w fun e w' => ∃ r F, e = .returned (.tuple #[r, .bool (appR p l).2]) ∧ RIntS w' r (appR p l).1 F ∧ Fr w.heap.size F ∧ Below w.heap.size w w' ∧ (appR p l).1.length ≤ 100000000000 := by
  have hv := r.rd
  have hu := s.rd
  clear r s
  have hlen := Lib.hid (appR_len p l)
  have hv' := hv
  have hu' := hu
  obtain ⟨ao, c, rfl, h1, h2, _⟩ := hv'
  obtain ⟨bo, d, rfl, h3, h4, _⟩ := hu'
  unfold maxLen at h2 h4
  replace hv := Lib.hid hv
  replace hu := Lib.hid hu
  cases hp : goodP p
  · rw [appR_no (by simp [hp])] at hlen ⊢
    go_enter Try.func19, Try.ntmps19
    go_wp2_with fail
    refine (l3Good_any _ _ _ hv.out).mono ?_
    rintro e w1 ⟨rfl, hb⟩
    replace hb := Lib.hid hb
    go_wp2
    go_ret2
    exact ⟨_, _, rfl, (Fresh.empty hb.out).law.1, (Fresh.empty hb.out).law.2.1, (Fresh.empty hb.out).law.2.2, hlen.out⟩
  cases hq : vlist l
  · rw [appR_no (by simp [hq])] at hlen ⊢
    go_enter Try.func19, Try.ntmps19
    go_wp2_with fail
    refine (l3Good_any _ _ _ hv.out).mono ?_
    rintro e w1 ⟨rfl, hb⟩
    replace hb := Lib.hid hb
    go_wp2_with fail
    refine (l2List_any _ _ _ (hu.out.below hb.out)).mono ?_
    rintro e w2 ⟨rfl, rfl⟩
    go_wp2
    go_ret2
    exact ⟨_, _, rfl, (Fresh.empty hb.out).law.1, (Fresh.empty hb.out).law.2.1, (Fresh.empty hb.out).law.2.2, hlen.out⟩
  by_cases hl : p.length = l.length
  · rw [appR_yes hp hq hl] at hlen ⊢
    have hr := Lib.hid (show inR p l.length from hl ▸ inR_good hp)
    have hlq : p.length ≤ 64 := (goodP_iff.1 hp).1
    generalize hn : p.length = n at *
    generalize hm : l.length = m at *
    subst hl
    replace hn := Lib.hid hn
    replace hm := Lib.hid hm
    go_enter Try.func19, Try.ntmps19
    go_wp2_with fail
    refine (l3Good_any _ _ _ hv.out).mono ?_
    rintro e w1 ⟨rfl, hb⟩
    replace hb := Lib.hid hb
    go_wp2_with fail
    refine (l2List_any _ _ _ (hu.out.below hb.out)).mono ?_
    rintro e w2 ⟨rfl, rfl⟩
    go_wp2_with fail
    refine (l3Apply_any _ _ p l _ (hv.out.below hb.out) (hu.out.below hb.out) (by rw [hm.out]; exact hr.out) (by rw [hn.out]; omega)).mono ?_
    rintro e w3 ⟨r, rfl, hf⟩
    replace hf := Lib.hid hf
    go_wp2
    go_ret2
    have hfin : Fresh w w3 r (apF p l) := ⟨hf.out.1, fun k hk => Nat.le_trans hb.out.size (hf.out.2.1 k hk), Below.next hb.out hf.out.2.2⟩
    exact ⟨_, _, rfl, hfin.law.1, hfin.law.2.1, hfin.law.2.2, hlen.out⟩
  · rw [appR_no (by simp [hl])] at hlen ⊢
    have hd : ((p.length : Int) != (l.length : Int)) = true := by rw [bne_iff_ne]; omega
    go_enter Try.func19, Try.ntmps19
    go_wp2_with fail
    refine (l3Good_any _ _ _ hv.out).mono ?_
    rintro e w1 ⟨rfl, hb⟩
    replace hb := Lib.hid hb
    go_wp2_with fail
    refine (l2List_any _ _ _ (hu.out.below hb.out)).mono ?_
    rintro e w2 ⟨rfl, rfl⟩
    go_wp2
    go_ret2
    exact ⟨_, _, rfl, (Fresh.empty hb.out).law.1, (Fresh.empty hb.out).law.2.1, (Fresh.empty hb.out).law.2.2, hlen.out⟩
end Go.Proofs.Ytbfffpdcpoejnaa
