/- laws.FnSorting: the walk. -/
import Derived.Test.YtdhcpoeopooejaaVLaw
import Derived.Test.YtdhcpoeopooejaaSrtI
import Derived.Test.YtdhcpoeopooejaaSrtS
import Derived.Test.YtdhcpoeopooejaaDrawL
import Derived.Test.YtdhcpoeopooejaaApplyPerm
namespace Go.Proofs.Ytdhcpoeopooejaa
open Go.RowKit
set_option linter.unusedVariables false
set_option linter.unusedSimpArgs false

theorem srR_snd (l : List Int) : (srR l).2 = vlist l := by
  unfold srR
  cases vlist l <;> rfl
theorem srR_none {l : List Int} (h : (srR l).2 = false) : (srR l).1 = [] := by
  unfold srR at h ⊢
  split at h
  · cases h
  · rename_i hv; rw [if_neg hv]
/-- What FnSorting asks. -/
theorem srR_facts {l : List Int} (h : (srR l).2 = true) : l.length ≤ 64 ∧ (srR l).1.length = l.length ∧ (appR (srR l).1 l).2 = true ∧ (appR (srR l).1 l).1.length = l.length ∧
    ∀ i, i + 1 < l.length → gi (appR (srR l).1 l).1 i < gi (appR (srR l).1 l).1 (i + 1) ∨ (gi (appR (srR l).1 l).1 i = gi (appR (srR l).1 l).1 (i + 1) ∧ gi (srR l).1 i < gi (srR l).1 (i + 1)) := by
  unfold srR at h ⊢
  split at h
  · rename_i hv
    rw [if_pos hv]
    have hl := (vlist_iff.1 hv).1
    have hp := srtK_perm l l.length
    have hln := srtK_length l l.length
    have hr : inR (srtK l l.length) l.length := fun i hi => perm_pl_range hp (by omega)
    have hg : goodP (srtK l l.length) = true := by
      refine goodP_good (by omega) fun k hk => permAt_iff.2 ⟨⟨(hr k hk).1, by have := (hr k hk).2; rw [hln]; omega⟩, fun hm => ?_⟩
      rw [List.mem_take_iff_getElem] at hm
      obtain ⟨i, hi, he⟩ := hm
      have hs := srtK_srt l l.length i k (Nat.zero_le _) (by omega) (by omega)
      rw [← gi_eq (by omega)] at he
      rw [he] at hs
      exact (cvL_pre l).irr _ hs
    have e := appR_yes hg hv hln
    dsimp only
    rw [e]
    have hga : ∀ i, i < l.length → gi (apF (srtK l l.length) l) i = gi l (gi (srtK l l.length) i).toNat := fun i hi => by
      have h1 : i < (srtK l l.length).length := by omega
      have h2 : i < (apF (srtK l l.length) l).length := by simp [apF]; omega
      have e1 := gi_eq h2
      have e2 := gi_eq h1
      rw [e1, e2]; simp [apF]
    refine ⟨hl, hln, rfl, by simp [apF, hln], fun i hi => ?_⟩
    dsimp only
    rw [hga i (by omega), hga (i + 1) hi]
    rcases srtK_srt l l.length i (i + 1) (Nat.zero_le _) (by omega) hi with g | ⟨g, k⟩
    · exact .inl (cvL_lt.1 g)
    · refine .inr ⟨?_, k⟩
      have k1 := (cvL_le (x := l) (a := gi (srtK l l.length) i) (b := gi (srtK l l.length) (i + 1))).1 (by omega)
      have k2 : ¬ gi l (gi (srtK l l.length) i).toNat < gi l (gi (srtK l l.length) (i + 1)).toNat := fun e => by
        have := cvL_lt.2 e; omega
      omega
  · cases h

set_option maxRecDepth 10000 in
set_option maxHeartbeats 2000000 in
theorem DrawIsValidList_law {d : Value} {w : World} (h : RdBy w d) (hd : ∀ b, d.ownBlock = some b → b < w.heap.size) :
    Calls Try.prog 85 #[d] w fun e w' => ∃ (r : Value) (L : List Int) (F : List Nat), e = .returned r ∧ RIntS w' r L F ∧ Fr w.heap.size F ∧ Below w.heap.size w w' ∧ L.length ≤ 100 := by
  have hc := Lib.hid (Cur.start h hd)
  obtain ⟨ao, n, c, rfl, h1, h2, _⟩ := h
  have hal := Lib.hid (anyInts_any w.heap.size _ 0 _ hc.out (by simp) (fun b hb => by have := hd b hb; simp; omega) (by omega))
  have hfin := Lib.hid (fun (w' : World) (r : Value) (L : List Int) hO hx => drawn (w := w) (o := .cells #[.slice ao n c, .int .i64 0, .int .u64 0] 95) (w' := w') (r := r) (L := L) hO hx)
  clear hd hc
  go_enter Try.func85, Try.ntmps85
  go_wp2_with fail
  refine hal.out.mono ?_
  rintro e w1 ⟨r, L, rfl, hO, hL, _, hx⟩
  have q := Lib.hid (hfin.out _ _ _ hO hx)
  clear hO hx hal
  go_wp2
  go_ret
  exact ⟨_, L, _, rfl, q.out.1, q.out.2.1, q.out.2.2, hL⟩
set_option maxHeartbeats 1000000 in
theorem DrawSortingPermutation_law {d : Value} {w : World} (h : RdBy w d) (hd : ∀ b, d.ownBlock = some b → b < w.heap.size) :
    Calls Try.prog 42 #[d] w fun e w' => ∃ (r : Value) (L : List Int) (F : List Nat), e = .returned r ∧ RIntS w' r L F ∧ Fr w.heap.size F ∧ Below w.heap.size w w' ∧ L.length ≤ 100 := by
  have hal := Lib.hid (DrawIsValidList_law h hd)
  clear hd
  obtain ⟨ao, n, c, rfl, h1, h2, _⟩ := h
  go_enter Try.func42, Try.ntmps42
  go_wp2_with fail
  refine hal.out.mono ?_
  rintro e w1 ⟨r, L, F, rfl, hR, hF, hB, hL⟩
  replace hR := Lib.hid hR
  replace hF := Lib.hid hF
  replace hB := Lib.hid hB
  clear hal
  go_wp2
  go_ret
  exact ⟨_, L, F, rfl, hR.out, hF.out, hB.out, hL⟩

set_option maxRecDepth 10000 in
set_option maxHeartbeats 4000000 in
theorem FnSorting_walk (d : Value) (w : World) (h : RdBy w d) (hd : ∀ b, d.ownBlock = some b → b < w.heap.size) :
    Calls Try.prog 9 #[d] w fun e w' => e = .returned (.bool true) ∧ Below w.heap.size w w' := by
  obtain ⟨ao, n, c, rfl, q1, q2, q3⟩ := id h
  replace h := Lib.hid h
  replace hd := Lib.hid hd
  have hB := Lib.hid (Below.refl w.heap.size w)
  clear q3
  unfold maxLen at q2
  by_cases hbig : (65536 : Int) < (n : Int)
  · have hbd : decide ((65536 : Int) < (n : Int)) = true := by simp; omega
    go_enter Try.func9, Try.ntmps9
    go_wp2_with fail
    refine vBig_law.mono ?_
    rintro e w1 ⟨rfl, rfl⟩
    rw [hbd]
    go_wp2
    go_ret
    exact ⟨rfl, Below.refl _ _⟩
  · have hbd : decide ((65536 : Int) < (n : Int)) = false := by simp; omega
    go_enter Try.func9, Try.ntmps9
    go_wp2_with fail
    refine vBig_law.mono ?_
    rintro e w0 ⟨rfl, rfl⟩
    rw [hbd]
    go_wp2_with fail
    refine (DrawSortingPermutation_law h.out hd.out).mono ?_
    rintro e w1 ⟨vl, l, Fl, rfl, rl, fl, b, hll⟩
    replace hB := Lib.hid (Below.next hB.out b)
    replace h := Lib.hid (h.out.next b)
    replace hd := Lib.hid (lt_next hd.out b)
    replace rl := Lib.hid rl
    clear b
    clear fl h hd
    obtain ⟨lo, lc, rfl, _, _⟩ := rl.out.opened
    have hyes := fun (h : (srR l).2 = true) => srR_facts h
    have hno := fun (h : (srR l).2 = false) => srR_none h
    have hval := srR_snd l
    have l1 := Lib.hid (fun w (r : RIntS w (.slice lo l.length lc) l Fl) => impl_SortingPermutation_law r)
    have l2 := Lib.hid (fun w (r : RIntS w (.slice lo l.length lc) l Fl) => spec_SortingPermutation_law r)
    have l3 := Lib.hid (fun w (r : RIntS w (.slice lo l.length lc) l Fl) => impl_IsValidList_law r)
    rw [← hval] at l3
    clear hval
    generalize hS : srR l = S at *
    obtain ⟨p, ok⟩ := S
    dsimp only at l1 l2 l3 hyes hno
    replace hyes := Lib.hid hyes
    replace hno := Lib.hid hno
    clear hS
    go_wp2_with fail
    refine (l1.out _ rl.out).mono ?_
    rintro e w2 ⟨vp, Fp, rfl, rp, fp, b, _⟩
    replace hB := Lib.hid (Below.next hB.out b)
    replace rl := Lib.hid (rl.out.next b)
    replace rp := Lib.hid rp
    clear b
    go_wp2_with fail
    refine (l2.out _ rl.out).mono ?_
    rintro e w3 ⟨vw, Fw, rfl, rw_, fw, b, _⟩
    replace hB := Lib.hid (Below.next hB.out b)
    replace rl := Lib.hid (rl.out.next b)
    replace rp := Lib.hid (rp.out.next b)
    replace rw_ := Lib.hid rw_
    clear b
    clear fp fw l1 l2
    go_wp2_with fail
    refine (vInts_same rp.out rw_.out).mono ?_
    rintro e w4 ⟨rfl, b⟩
    replace hB := Lib.hid (Below.next hB.out b)
    replace rl := Lib.hid (rl.out.next b)
    replace rp := Lib.hid (rp.out.next b)
    replace rw_ := Lib.hid (rw_.out.next b)
    clear b
    go_wp2_with fail
    refine (l3.out _ rl.out).mono ?_
    rintro e w5 ⟨rfl, b⟩
    replace hB := Lib.hid (Below.next hB.out b)
    replace rl := Lib.hid (rl.out.next b)
    replace rp := Lib.hid (rp.out.next b)
    replace rw_ := Lib.hid (rw_.out.next b)
    clear b
    clear rw_
    clear l3
    obtain ⟨po, pc, rfl, _, _⟩ := rp.out.opened
    cases ok
    · skip
      have h1 := hno.out (by first | rfl | trivial)
      subst h1
      clear hno hyes
      go_wp2
      go_ret
      exact ⟨rfl, hB.out⟩
    · skip
      obtain ⟨h1, h2, h3, h4, h5⟩ := hyes.out (by first | rfl | trivial)
      clear hyes hno
      have l4 := Lib.hid (impl_ApplyPermutation_law rp.out rl.out)
      generalize hA : appR p l = A at *
      obtain ⟨s, told⟩ := A
      dsimp only at h3 h4 h5 l4
      subst h3
      clear hA
      replace h5 := Lib.hid h5
      replace h2 := Lib.hid h2
      replace h4 := Lib.hid h4
      go_wp2_with fail
      refine (l4.out).mono ?_
      rintro e w6 ⟨vs, Fs, rfl, rs, fs, b, _⟩
      replace hB := Lib.hid (Below.next hB.out b)
      replace rl := Lib.hid (rl.out.next b)
      replace rp := Lib.hid (rp.out.next b)
      replace rs := Lib.hid rs
      clear b
      clear l4 fs
      have hsl := rs.out.1
      obtain ⟨so, sc, rfl, _, _, _, HS⟩ := hsl.openInts
      have hpl2 := rp.out.1
      obtain ⟨_, _, hbe, _, _, _, HP⟩ := hpl2.openInts
      simp at hbe
      obtain ⟨rfl, rfl⟩ := hbe
      rw [h4.out] at HS
      rw [h2.out] at HP
      rw [h4.out, h2.out]
      generalize hm : l.length = m at *
      replace HP := Lib.hid HP
      replace HS := Lib.hid HS
      clear hsl hpl2
      go_wp2
      go_loopw [10] (fun iv wr => ∃ i q : Nat, (i ≤ m ∨ i = 0) ∧ iv = .int .i64 (i : Nat) ∧ wr = w6.drewN q) (fun iv _ => m + 1 - (intOf iv).toNat)
      case atStart => exact ⟨0, 0, .inr rfl, rfl, rfl⟩
      case round =>
        obtain ⟨i, q, hi, rfl, rfl⟩ := hrel
        by_cases hlt : (i : Int) + 1 < (m : Int)
        · obtain ⟨b, off, rfl, hR⟩ := HS.out (by omega)
          have hc1 : w6.cell? ⟨b, off + i, none⟩ = some (.int .i64 (gi s i)) := hR.cellInt (by rw [h4.out]; omega)
          have hc2 : w6.cell? ⟨b, off + (i + 1), none⟩ = some (.int .i64 (gi s (i + 1))) := hR.cellInt (by rw [h4.out]; omega)
          obtain ⟨b2, off2, rfl, hR2⟩ := HP.out (by omega)
          have hc3 : w6.cell? ⟨b2, off2 + i, none⟩ = some (.int .i64 (gi p i)) := hR2.cellInt (by rw [h2.out]; omega)
          have hc4 : w6.cell? ⟨b2, off2 + (i + 1), none⟩ = some (.int .i64 (gi p (i + 1))) := hR2.cellInt (by rw [h2.out]; omega)
          have hor := h5.out i (by omega)
          clear hR hR2
          generalize gi s i = X at *
          generalize gi s (i + 1) = Y at *
          generalize gi p i = P at *
          generalize gi p (i + 1) = Q at *
          rcases hor with hor | ⟨hor, hpq⟩
          · have g1 : ¬ X > Y := by omega
            have g2 : decide (X > Y) = false := decide_eq_false g1
            have g3 : (X == Y) = false := by simp; omega
            clear hor
            go_wp2
            first | go_quiet (fail) | skip
            try go_wp2
            go_roundw
            case rel => exact ⟨i + 1, _, by omega, by go_num, by first | rfl | exact World.drewN_drewN ..⟩
            case measure => simp [intOf]; omega
          · subst hor
            have g1 : ¬ X > X := by omega
            have g2 : decide (X > X) = false := decide_eq_false g1
            have g3 : ¬ P > Q := by omega
            have g4 : decide (P > Q) = false := decide_eq_false g3
            clear hpq
            go_wp2
            first | go_quiet (fail) | skip
            try go_wp2
            go_roundw
            case rel => exact ⟨i + 1, _, by omega, by go_num, by first | rfl | exact World.drewN_drewN ..⟩
            case measure => simp [intOf]; omega
        · have hfin := Lib.hid (Below.next hB.out (Below.drewN (Below.refl w6.heap.size w6) q))
          go_wp2
          go_ret
          exact ⟨rfl, hfin.out⟩
end Go.Proofs.Ytdhcpoeopooejaa
