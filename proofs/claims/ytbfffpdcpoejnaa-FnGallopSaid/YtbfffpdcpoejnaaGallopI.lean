/- GallopSearch: impl. -/
import Derived.Test.YtbfffpdcpoejnaaGallop
namespace Go.Proofs.Ytbfffpdcpoejnaa
open Go.RowKit
set_option linter.unusedVariables false
set_option linter.unusedSimpArgs false

/-- A new cell. -/
theorem Row.one (w : World) (e : Nat) (v : Value) : Row (w.alloc (.cells #[v] e)) e w.heap.size 0 1 [v] := by
  refine ⟨#[v], by show (w.heap.push _)[w.heap.size]? = _; simp, by simp, by simp, by unfold maxLen; omega, fun i hi => ?_⟩
  simp at hi
  subst hi
  simp

theorem row3a (v : World) (x : Value) (B C : Obj) : Row (((v.alloc (.cells #[x] 3)).alloc B).alloc C).drew 3 v.heap.size 0 1 [x] := (((Row.one v 3 x).alloc B).alloc C).drew
theorem row3b (v : World) (x : Value) (A C : Obj) : Row (((v.alloc A).alloc (.cells #[x] 3)).alloc C).drew 3 (v.heap.size + 1) 0 1 [x] := by
  have := (Row.one (v.alloc A) 3 x).alloc C
  simpa using this.drew
theorem row3c (v : World) (x : Value) (A B : Obj) : Row (((v.alloc A).alloc B).alloc (.cells #[x] 3)).drew 3 (v.heap.size + 1 + 1) 0 1 [x] := by
  have := Row.one ((v.alloc A).alloc B) 3 x
  simpa using this.drew
theorem GS.made {w v : World} {l : Value} {A B C : Obj} {lb hb cb n : Nat} {y : Int} (hB : Below w.heap.size w v) (hV : Row v 24 w.heap.size 0 1 [l]) (hX : Row v 3 (w.heap.size + 1) 0 1 [.int .i64 y])
    (h1 : lb ≠ hb) (h2 : lb ≠ cb) (h3 : hb ≠ cb) (h4 : w.heap.size + 1 < lb) (h5 : w.heap.size + 1 < hb) (h6 : w.heap.size + 1 < cb)
    (r1 : Row (((v.alloc A).alloc B).alloc C).drew 3 lb 0 1 [.int .i64 (0 : Nat)]) (r2 : Row (((v.alloc A).alloc B).alloc C).drew 3 hb 0 1 [.int .i64 (n : Nat)]) (r3 : Row (((v.alloc A).alloc B).alloc C).drew 3 cb 0 1 [.int .i64 (0 : Nat)]) :
    GS w w.heap.size (w.heap.size + 1) lb hb cb l y 0 n 0 (((v.alloc A).alloc B).alloc C).drew :=
  ⟨Below.drewN (((hB.alloc hB.size A).alloc (by simp; have := hB.size; omega) B).alloc (by simp; have := hB.size; omega) C) 1, (((hV.alloc A).alloc B).alloc C).drew, (((hX.alloc A).alloc B).alloc C).drew, r1, r2, r3, h1, h2, h3, ⟨by omega, by omega, by omega⟩, ⟨by omega, by omega, by omega⟩, ⟨by omega, by omega, by omega⟩⟩
set_option maxRecDepth 10000 in
set_option maxHeartbeats 8000000 in
theorem impl_GallopSearch_law {v : Value} {l : List Int} {F : List Nat} {x h : Int} {w : World} (r : RIntS w v l F) (_ : -9223372036854775808 ≤ x ∧ x ≤ 9223372036854775807) (_ : -9223372036854775808 ≤ h ∧ h ≤ 9223372036854775807) :
  Calls Try.prog 47 #[v, .int .i64 x, .int .i64 h] w fun e w' => e = .returned (.tuple #[.int .i64 ((galR l x h).1 : Nat), .int .i64 ((galR l x h).2.1 : Nat), .bool (galR l x h).2.2]) ∧ Below w.heap.size w w' := by
  have hv := r.rd
  clear r
  have hv0 := hv
  obtain ⟨ao, cap, rfl, hx1, hx2, hcell0⟩ := hv0
  unfold maxLen at hx2
  replace hv := Lib.hid hv
  replace hcell0 := Lib.hid hcell0
  have hB := Lib.hid (((Below.refl w.heap.size w).alloc (Nat.le_refl _) (.cells #[.slice ao l.length cap] 24)).alloc (by simp) (.cells #[.int .i64 x] 3))
  have hRV : Hid (Row ((w.alloc (.cells #[.slice ao l.length cap] 24)).alloc (.cells #[.int .i64 x] 3)) 24 w.heap.size 0 1 [.slice ao l.length cap]) := Lib.hid ((Row.one _ _ _).alloc _)
  have hRX : Hid (Row ((w.alloc (.cells #[.slice ao l.length cap] 24)).alloc (.cells #[.int .i64 x] 3)) 3 (w.heap.size + 1) 0 1 [.int .i64 x]) := Lib.hid (by have := Row.one (w.alloc (.cells #[.slice ao l.length cap] 24)) 3 (.int .i64 x); simpa using this)
  cases a1 : vlist l
  · skip
    have e0 : galR l x h = (0, 0, false) := by
      unfold galR
      rw [if_neg]
      unfold galB
      intro h9
      simp_all
    rw [e0]
    clear e0
    go_enter Try.func47, Try.ntmps47
    go_wp2_with fail
    refine (isValidList_any _ _ _ (hv.out.below hB.out)).mono ?_
    rintro e v1 ⟨rfl, hq⟩
    replace hB := Lib.hid (Below.next hB.out hq)
    replace hRV := Lib.hid (hRV.out.below hq hRV.out.lt)
    replace hRX := Lib.hid (hRX.out.below hq hRX.out.lt)
    clear hq
    have c1 := hRV.out.cell0
    have c2 := hRX.out.cell0
    rw [a1]
    go_wp2
    go_ret3
    exact ⟨rfl, hB.out⟩
  by_cases a2 : descF l ≥ 0
  · skip
    have e0 : galR l x h = (0, 0, false) := by
      unfold galR
      rw [if_neg]
      unfold galB
      intro h9
      simp_all
    rw [e0]
    clear e0
    go_enter Try.func47, Try.ntmps47
    go_wp2_with fail
    refine (isValidList_any _ _ _ (hv.out.below hB.out)).mono ?_
    rintro e v1 ⟨rfl, hq⟩
    replace hB := Lib.hid (Below.next hB.out hq)
    replace hRV := Lib.hid (hRV.out.below hq hRV.out.lt)
    replace hRX := Lib.hid (hRX.out.below hq hRX.out.lt)
    clear hq
    have c1 := hRV.out.cell0
    have c2 := hRX.out.cell0
    rw [a1]
    clear c1 c2
    have c1 := hRV.out.cell0
    have c2 := hRX.out.cell0
    go_wp2_with fail
    refine (impl_descent_any _ _ _ (hv.out.below hB.out)).mono ?_
    rintro e v2 ⟨rfl, hq⟩
    replace hq := Below.quiet hq
    replace hB := Lib.hid (Below.next hB.out hq)
    replace hRV := Lib.hid (hRV.out.below hq hRV.out.lt)
    replace hRX := Lib.hid (hRX.out.below hq hRX.out.lt)
    clear hq
    have c1 := hRV.out.cell0
    have c2 := hRX.out.cell0
    go_wp2
    go_ret3
    exact ⟨rfl, hB.out⟩
  cases a3 : keyB x
  · skip
    have e0 : galR l x h = (0, 0, false) := by
      unfold galR
      rw [if_neg]
      unfold galB
      intro h9
      simp_all
    rw [e0]
    clear e0
    go_enter Try.func47, Try.ntmps47
    go_wp2_with fail
    refine (isValidList_any _ _ _ (hv.out.below hB.out)).mono ?_
    rintro e v1 ⟨rfl, hq⟩
    replace hB := Lib.hid (Below.next hB.out hq)
    replace hRV := Lib.hid (hRV.out.below hq hRV.out.lt)
    replace hRX := Lib.hid (hRX.out.below hq hRX.out.lt)
    clear hq
    have c1 := hRV.out.cell0
    have c2 := hRX.out.cell0
    rw [a1]
    clear c1 c2
    have c1 := hRV.out.cell0
    have c2 := hRX.out.cell0
    go_wp2_with fail
    refine (impl_descent_any _ _ _ (hv.out.below hB.out)).mono ?_
    rintro e v2 ⟨rfl, hq⟩
    replace hq := Below.quiet hq
    replace hB := Lib.hid (Below.next hB.out hq)
    replace hRV := Lib.hid (hRV.out.below hq hRV.out.lt)
    replace hRX := Lib.hid (hRX.out.below hq hRX.out.lt)
    clear hq
    have c1 := hRV.out.cell0
    have c2 := hRX.out.cell0
    go_wp2_with fail
    refine (isKey_any _ _).mono ?_
    rintro e v3 ⟨rfl, hq⟩
    subst hq
    have c1 := hRV.out.cell0
    have c2 := hRX.out.cell0
    rw [a3]
    go_wp2
    go_ret3
    exact ⟨rfl, hB.out⟩
  cases a4 : inB h 0 ((l.length : Int) - 1)
  · skip
    have e0 : galR l x h = (0, 0, false) := by
      unfold galR
      rw [if_neg]
      unfold galB
      intro h9
      simp_all
    rw [e0]
    clear e0
    go_enter Try.func47, Try.ntmps47
    go_wp2_with fail
    refine (isValidList_any _ _ _ (hv.out.below hB.out)).mono ?_
    rintro e v1 ⟨rfl, hq⟩
    replace hB := Lib.hid (Below.next hB.out hq)
    replace hRV := Lib.hid (hRV.out.below hq hRV.out.lt)
    replace hRX := Lib.hid (hRX.out.below hq hRX.out.lt)
    clear hq
    have c1 := hRV.out.cell0
    have c2 := hRX.out.cell0
    rw [a1]
    clear c1 c2
    have c1 := hRV.out.cell0
    have c2 := hRX.out.cell0
    go_wp2_with fail
    refine (impl_descent_any _ _ _ (hv.out.below hB.out)).mono ?_
    rintro e v2 ⟨rfl, hq⟩
    replace hq := Below.quiet hq
    replace hB := Lib.hid (Below.next hB.out hq)
    replace hRV := Lib.hid (hRV.out.below hq hRV.out.lt)
    replace hRX := Lib.hid (hRX.out.below hq hRX.out.lt)
    clear hq
    have c1 := hRV.out.cell0
    have c2 := hRX.out.cell0
    go_wp2_with fail
    refine (isKey_any _ _).mono ?_
    rintro e v3 ⟨rfl, hq⟩
    subst hq
    have c1 := hRV.out.cell0
    have c2 := hRX.out.cell0
    rw [a3]
    go_wp2_with fail
    refine (in_any _ _ _ _).mono ?_
    rintro e v4 ⟨rfl, hq⟩
    subst hq
    have c1 := hRV.out.cell0
    have c2 := hRX.out.cell0
    rw [a4]
    go_wp2
    go_ret3
    exact ⟨rfl, hB.out⟩
  have h4 := inB_iff.1 a4
  obtain ⟨H, rfl⟩ := Int.eq_ofNat_of_zero_le h4.1
  have hl := (vlist_iff.1 a1).1
  have e0 : galR l x (H : Int) = ((galF l x H).1, (galF l x H).2, true) := by
    unfold galR
    rw [if_pos]
    · simp
    · unfold galB
      simp_all
  rw [e0]
  clear e0
  have hHn : H < l.length := by omega
  clear h4
  have hR3 := Lib.hid (show galF l x H = gBin l x l.length (gSt l x H).1 (gSt l x H).2.1 (gSt l x H).2.2 from rfl)
  have hS := Lib.hid (show gSt l x H = if gi l H < x then gUp l x H (l.length + 1) 1 (H + 1) 1 else gDn l x H (l.length + 1) 1 H 1 from rfl)
  generalize hR : gSt l x H = R at *
  generalize hF : galF l x H = R2 at *
  replace hR := Lib.hid hR
  replace hF := Lib.hid hF
  have a2' : ¬ (0 : Int) ≤ descF l := fun e => a2 (by omega)
  clear a2
  go_enter Try.func47, Try.ntmps47
  go_wp2_with fail
  refine (isValidList_any _ _ _ (hv.out.below hB.out)).mono ?_
  rintro e v1 ⟨rfl, hq⟩
  replace hB := Lib.hid (Below.next hB.out hq)
  replace hRV := Lib.hid (hRV.out.below hq hRV.out.lt)
  replace hRX := Lib.hid (hRX.out.below hq hRX.out.lt)
  clear hq
  have c1 := hRV.out.cell0
  have c2 := hRX.out.cell0
  rw [a1]
  clear c1 c2
  have c1 := hRV.out.cell0
  have c2 := hRX.out.cell0
  go_wp2_with fail
  refine (impl_descent_any _ _ _ (hv.out.below hB.out)).mono ?_
  rintro e v2 ⟨rfl, hq⟩
  replace hq := Below.quiet hq
  replace hB := Lib.hid (Below.next hB.out hq)
  replace hRV := Lib.hid (hRV.out.below hq hRV.out.lt)
  replace hRX := Lib.hid (hRX.out.below hq hRX.out.lt)
  clear hq
  have c1 := hRV.out.cell0
  have c2 := hRX.out.cell0
  go_wp2_with fail
  refine (isKey_any _ _).mono ?_
  rintro e v3 ⟨rfl, hq⟩
  subst hq
  have c1 := hRV.out.cell0
  have c2 := hRX.out.cell0
  rw [a3]
  go_wp2_with fail
  refine (in_any _ _ _ _).mono ?_
  rintro e v4 ⟨rfl, hq⟩
  subst hq
  have c1 := hRV.out.cell0
  have c2 := hRX.out.cell0
  rw [a4]
  obtain ⟨b, off, rfl, _⟩ := hcell0.out (by omega)
  clear hcell0
  generalize hn : l.length = n at *
  replace hn := Lib.hid hn
  replace a1 := Lib.hid a1
  replace a2' := Lib.hid a2'
  replace a3 := Lib.hid a3
  replace a4 := Lib.hid a4
  have hR2 : Hid (gBin l x n R.1 R.2.1 R.2.2 = R2) := Lib.hid hR3.out.symm
  clear hR3
  have hlt1 : w.heap.size < v2.heap.size := hRV.out.lt
  have ca1 : ∀ o, (v2.alloc o).cell? ⟨w.heap.size, 0, none⟩ = some (.slice (some ⟨b, off, none⟩) n cap) := fun o => ((((Below.refl v2.heap.size v2).alloc (Nat.le_refl _) o)).cell (p := ⟨w.heap.size, 0, none⟩) hlt1).trans c1
  have ca2 : ∀ o q, ((v2.alloc o).alloc q).cell? ⟨w.heap.size, 0, none⟩ = some (.slice (some ⟨b, off, none⟩) n cap) := fun o q => (((((Below.refl v2.heap.size v2).alloc (Nat.le_refl _) o)).alloc (by simp) q).cell (p := ⟨w.heap.size, 0, none⟩) hlt1).trans c1
  have ca3 : ∀ o q t, (((v2.alloc o).alloc q).alloc t).cell? ⟨w.heap.size, 0, none⟩ = some (.slice (some ⟨b, off, none⟩) n cap) := fun o q t => ((((((Below.refl v2.heap.size v2).alloc (Nat.le_refl _) o)).alloc (by simp) q).alloc (by simp; omega) t).cell (p := ⟨w.heap.size, 0, none⟩) hlt1).trans c1
  go_upto_region 3 with (fail)
  go_cut [9, 10, 11] from 15 (fun s9 s10 s11 wq => ∃ lb hb cb : Nat, s9 = .pointer (some ⟨lb, 0, none⟩) ∧ s10 = .pointer (some ⟨hb, 0, none⟩) ∧ s11 = .pointer (some ⟨cb, 0, none⟩) ∧ GS w w.heap.size (w.heap.size + 1) lb hb cb (.slice (some ⟨b, off, none⟩) n cap) x 0 n 0 wq)
  case first =>
    have hsz1 : w.heap.size + 1 < v2.heap.size := hRX.out.lt
    go_region
    all_goals (go_wp2_with fail; go_meet; case rel => (refine ⟨_, _, _, rfl, rfl, rfl, GS.made hB.out hRV.out hRX.out (by omega) (by omega) (by omega) (by omega) (by omega) (by omega) ?_ ?_ ?_⟩; all_goals (first | exact row3a _ _ _ _ | exact row3b _ _ _ _ | exact row3c _ _ _ _)))
  case rest =>
    obtain ⟨lb, hb, cb, rfl, rfl, rfl, hG⟩ := hcut
    replace hG := Lib.hid hG
    clear c1 c2
    have hS2 := hS.out

    by_cases hyx : gi l H < x
    · rw [if_pos hyx] at hS2
      replace hS2 := Lib.hid hS2
      have hyd := Lib.hid (decide_eq_true hyx)
      clear hyx
      go_wp2_with fail
      refine (less_any w w.heap.size (w.heap.size + 1) lb hb cb _ n cap l x _ H 0 n 0 _ hv.out hG.out rfl (by omega) (by omega) (by omega) hn.out (by omega) (by omega) (by omega) true hyd.out).mono ?_
      rintro e w8 ⟨rfl, hG2⟩
      simp only [if_true] at hG2
      clear hG
      have hG := Lib.hid hG2
      clear hG2
      go_wp2
      go_loopg [13] (n + 1) (fun g s13 wq => ∃ lo c s : Nat, s13 = .int .i64 s ∧ GS w w.heap.size (w.heap.size + 1) lb hb cb (.slice (some ⟨b, off, none⟩) n cap) x lo n c wq ∧ 1 ≤ s ∧ s ≤ 200 ∧ lo ≤ n ∧ lo ≤ H + s ∧ c + g ≤ 200 ∧ Hid (gUp l x H g s lo c = R) ∧ n ≤ H + s + g)
      case atStart => exact ⟨H + 1, 1, 1, rfl, hG.out, by omega, by omega, by omega, by omega, by omega, Lib.hid hS2.out.symm, by omega⟩
      case round =>
        clear hG
        obtain ⟨lo, c, s, rfl, hG, s1, s2, b1, b2, b3, hU, hfu⟩ := hrel
        obtain ⟨e, he⟩ : ∃ e, e = H + s := ⟨_, rfl⟩
        have he1 : (H : Int) + (s : Int) = (e : Int) := by omega
        have cv := hG.rv.cell0
        replace hG := Lib.hid hG
        replace he := Lib.hid he
        by_cases hen : e < n
        · obtain ⟨g, rfl⟩ : ∃ z, gk = z + 1 := ⟨gk - 1, by have := he.out; omega⟩
          have i1 : (e : Int) < (n : Int) := by omega
          have hU1 := hU.out
          have hel : H + s < l.length := by have := he.out; have := hn.out; omega
          have hle : lo ≤ e := by have := he.out; omega
          by_cases hyx2 : gi l e < x
          · rw [gUp_lt hel (by rw [← he.out]; exact hyx2), ← he.out] at hU1
            replace hU1 := Lib.hid hU1
            have hyd2 := Lib.hid (decide_eq_true hyx2)
            clear hyx2 hel
            replace hU := True.intro
            go_wp2_with fail
            refine (less_any w w.heap.size (w.heap.size + 1) lb hb cb _ n cap l x _ e lo n c _ hv.out hG.out (by first | rfl | exact he1 | omega) (by omega) (by omega) (by omega) hn.out (by omega) (by omega) (by omega) true hyd2.out).mono ?_
            rintro e2 w9 ⟨rfl, hG2⟩
            simp only [if_true] at hG2
            replace hG2 := Lib.hid hG2
            go_wp2
            go_roundg g
            case measure => omega
            case rel => exact ⟨e + 1, c + 1, 2 * s + 1, by go_num, hG2.out, by omega, by have := he.out; omega, by omega, by have := he.out; omega, by omega, hU1, by have := he.out; omega⟩
          · rw [gUp_ge hel (by rw [← he.out]; exact hyx2), ← he.out] at hU1
            have hRR : Hid ((lo, e, c + 1) = R) := Lib.hid hU1
            have hyd2 := Lib.hid (decide_eq_false hyx2)
            clear hyx2 hel hU1
            replace hU := True.intro
            go_wp2_with fail
            refine (less_any w w.heap.size (w.heap.size + 1) lb hb cb _ n cap l x _ e lo n c _ hv.out hG.out (by first | rfl | exact he1 | omega) (by omega) (by omega) (by omega) hn.out (by omega) (by omega) (by omega) false hyd2.out).mono ?_
            rintro e2 w9 ⟨rfl, hG2⟩
            simp only [if_false, Bool.false_eq_true] at hG2
            clear hG
            have hG := Lib.hid hG2
            clear hG2
            obtain ⟨c', hc'⟩ : ∃ c', c' = c + 1 := ⟨_, rfl⟩
            rw [← hc'] at hG hRR
            have hc9 : c' ≤ 201 := by omega
            replace hc' := Lib.hid hc'
            clear b3
            obtain ⟨c, rfl⟩ : ∃ c, c = c' := ⟨_, rfl⟩
            go_wp2
            go_loopg [] n (fun g wq => ∃ lo hi c : Nat, GS w w.heap.size (w.heap.size + 1) lb hb cb (.slice (some ⟨b, off, none⟩) n cap) x lo hi c wq ∧ Hid (gBin l x g lo hi c = R2) ∧ hi ≤ lo + g ∧ lo ≤ n ∧ hi ≤ n ∧ c + g ≤ 400)
            case atStart => exact ⟨lo, e, c, hG.out, Lib.hid (by rw [← hR2.out, ← hRR.out]), by omega, by omega, by omega, by omega⟩
            case round =>
              clear hG
              obtain ⟨lo, hi, c, hG, hB, b1, b2, b3, b4⟩ := hrel
              have cl := hG.rl.cell0
              have ch := hG.rh.cell0
              have cc := hG.rc.cell0
              replace hG := Lib.hid hG
              by_cases hlh : lo < hi
              · obtain ⟨g, rfl⟩ : ∃ z, gk = z + 1 := ⟨gk - 1, by omega⟩
                obtain ⟨md, hmd⟩ : ∃ md, md = (lo + hi) / 2 := ⟨_, rfl⟩
                have m1 : lo ≤ md := by omega
                have m2 : md < hi := by omega
                have hdv : ((lo : Int) + (hi : Int)).tdiv 2 = (md : Int) := by
                  rw [Int.tdiv_eq_ediv_of_nonneg (by omega)]; omega
                have hdv2 : ((lo : Int) + (hi : Int)) / 2 = (md : Int) := by omega
                have hlt := fun (h : gi l md < x) => gBin_lt (l := l) (x := x) (m := g) (c := c) hlh (by rw [← hmd]; exact h)
                have hge := fun (h : ¬ gi l md < x) => gBin_ge (l := l) (x := x) (m := g) (c := c) hlh (by rw [← hmd]; exact h)
                rw [← hmd] at hlt hge
                rw [hB.out] at hlt hge
                replace hmd := Lib.hid hmd
                replace hB := Lib.hid hB.out
                by_cases hyx : gi l md < x
                · replace hlt := Lib.hid (hlt hyx)
                  have hyd := Lib.hid (decide_eq_true hyx)
                  clear hge hyx
                  go_wp2_with fail
                  refine (less_any w w.heap.size (w.heap.size + 1) lb hb cb _ n cap l x _ md lo hi c _ hv.out hG.out (by first | rfl | exact hdv | omega) (by omega) (by omega) (by omega) hn.out (by omega) (by omega) (by omega) true hyd.out).mono ?_
                  rintro e w9 ⟨rfl, hG2⟩
                  simp only [if_true] at hG2
                  replace hG2 := Lib.hid hG2
                  go_wp2
                  go_roundg g
                  case measure => omega
                  case rel => exact ⟨md + 1, hi, c + 1, hG2.out, Lib.hid hlt.out.symm, by omega, by omega, by omega, by omega⟩
                · replace hge := Lib.hid (hge hyx)
                  have hyd := Lib.hid (decide_eq_false hyx)
                  clear hlt hyx
                  go_wp2_with fail
                  refine (less_any w w.heap.size (w.heap.size + 1) lb hb cb _ n cap l x _ md lo hi c _ hv.out hG.out (by first | rfl | exact hdv | omega) (by omega) (by omega) (by omega) hn.out (by omega) (by omega) (by omega) false hyd.out).mono ?_
                  rintro e w9 ⟨rfl, hG2⟩
                  simp only [if_false, Bool.false_eq_true] at hG2
                  replace hG2 := Lib.hid hG2
                  go_wp2
                  go_roundg g
                  case measure => omega
                  case rel => exact ⟨lo, md, c + 1, hG2.out, Lib.hid hge.out.symm, by omega, by omega, by omega, by omega⟩
              · have hst := gBin_stop (l := l) (x := x) (m := gk) (c := c) hlh
                rw [hB.out] at hst
                replace hst := Lib.hid hst
                replace hB := Lib.hid hB.out
                go_wp2
                go_quiet (fail)
                go_wp2
                go_ret3
                exact ⟨by rw [hst.out]; first | done | rfl, Below.drewN hG.out.bel _⟩
        · have hU1 := hU.out
          rw [gUp_stop (by have := he.out; have := hn.out; omega), hn.out] at hU1
          have hRR : Hid ((lo, n, c) = R) := Lib.hid hU1
          replace hU := True.intro
          replace hU1 := True.intro
          have i1 : ¬ (e : Int) < (n : Int) := by omega
          go_wp2
          go_loopg [] n (fun g wq => ∃ lo hi c : Nat, GS w w.heap.size (w.heap.size + 1) lb hb cb (.slice (some ⟨b, off, none⟩) n cap) x lo hi c wq ∧ Hid (gBin l x g lo hi c = R2) ∧ hi ≤ lo + g ∧ lo ≤ n ∧ hi ≤ n ∧ c + g ≤ 400)
          case atStart => exact ⟨lo, n, c, hG.out, Lib.hid (by rw [← hR2.out, ← hRR.out]), by omega, by omega, by omega, by omega⟩
          case round =>
            clear hG
            obtain ⟨lo, hi, c, hG, hB, b1, b2, b3, b4⟩ := hrel
            have cl := hG.rl.cell0
            have ch := hG.rh.cell0
            have cc := hG.rc.cell0
            replace hG := Lib.hid hG
            by_cases hlh : lo < hi
            · obtain ⟨g, rfl⟩ : ∃ z, gk = z + 1 := ⟨gk - 1, by omega⟩
              obtain ⟨md, hmd⟩ : ∃ md, md = (lo + hi) / 2 := ⟨_, rfl⟩
              have m1 : lo ≤ md := by omega
              have m2 : md < hi := by omega
              have hdv : ((lo : Int) + (hi : Int)).tdiv 2 = (md : Int) := by
                rw [Int.tdiv_eq_ediv_of_nonneg (by omega)]; omega
              have hdv2 : ((lo : Int) + (hi : Int)) / 2 = (md : Int) := by omega
              have hlt := fun (h : gi l md < x) => gBin_lt (l := l) (x := x) (m := g) (c := c) hlh (by rw [← hmd]; exact h)
              have hge := fun (h : ¬ gi l md < x) => gBin_ge (l := l) (x := x) (m := g) (c := c) hlh (by rw [← hmd]; exact h)
              rw [← hmd] at hlt hge
              rw [hB.out] at hlt hge
              replace hmd := Lib.hid hmd
              replace hB := Lib.hid hB.out
              by_cases hyx : gi l md < x
              · replace hlt := Lib.hid (hlt hyx)
                have hyd := Lib.hid (decide_eq_true hyx)
                clear hge hyx
                go_wp2_with fail
                refine (less_any w w.heap.size (w.heap.size + 1) lb hb cb _ n cap l x _ md lo hi c _ hv.out hG.out (by first | rfl | exact hdv | omega) (by omega) (by omega) (by omega) hn.out (by omega) (by omega) (by omega) true hyd.out).mono ?_
                rintro e w9 ⟨rfl, hG2⟩
                simp only [if_true] at hG2
                replace hG2 := Lib.hid hG2
                go_wp2
                go_roundg g
                case measure => omega
                case rel => exact ⟨md + 1, hi, c + 1, hG2.out, Lib.hid hlt.out.symm, by omega, by omega, by omega, by omega⟩
              · replace hge := Lib.hid (hge hyx)
                have hyd := Lib.hid (decide_eq_false hyx)
                clear hlt hyx
                go_wp2_with fail
                refine (less_any w w.heap.size (w.heap.size + 1) lb hb cb _ n cap l x _ md lo hi c _ hv.out hG.out (by first | rfl | exact hdv | omega) (by omega) (by omega) (by omega) hn.out (by omega) (by omega) (by omega) false hyd.out).mono ?_
                rintro e w9 ⟨rfl, hG2⟩
                simp only [if_false, Bool.false_eq_true] at hG2
                replace hG2 := Lib.hid hG2
                go_wp2
                go_roundg g
                case measure => omega
                case rel => exact ⟨lo, md, c + 1, hG2.out, Lib.hid hge.out.symm, by omega, by omega, by omega, by omega⟩
            · have hst := gBin_stop (l := l) (x := x) (m := gk) (c := c) hlh
              rw [hB.out] at hst
              replace hst := Lib.hid hst
              replace hB := Lib.hid hB.out
              go_wp2
              go_quiet (fail)
              go_wp2
              go_ret3
              exact ⟨by rw [hst.out]; first | done | rfl, Below.drewN hG.out.bel _⟩
    · rw [if_neg hyx] at hS2
      replace hS2 := Lib.hid hS2
      have hyd := Lib.hid (decide_eq_false hyx)
      clear hyx
      go_wp2_with fail
      refine (less_any w w.heap.size (w.heap.size + 1) lb hb cb _ n cap l x _ H 0 n 0 _ hv.out hG.out rfl (by omega) (by omega) (by omega) hn.out (by omega) (by omega) (by omega) false hyd.out).mono ?_
      rintro e w8 ⟨rfl, hG2⟩
      simp only [if_false, Bool.false_eq_true] at hG2
      clear hG
      have hG := Lib.hid hG2
      clear hG2
      go_wp2
      go_loopg [14] (n + 1) (fun g s14 wq => ∃ hi c s : Nat, s14 = .int .i64 s ∧ GS w w.heap.size (w.heap.size + 1) lb hb cb (.slice (some ⟨b, off, none⟩) n cap) x 0 hi c wq ∧ 1 ≤ s ∧ s ≤ 200 ∧ hi ≤ n ∧ H < hi + s ∧ c + g ≤ 200 ∧ Hid (gDn l x H g s hi c = R) ∧ H < s + g)
      case atStart => exact ⟨H, 1, 1, rfl, hG.out, by omega, by omega, by omega, by omega, by omega, Lib.hid hS2.out.symm, by omega⟩
      case round =>
        clear hG
        obtain ⟨hi, c, s, rfl, hG, s1, s2, b1, b2, b3, hU, hfu⟩ := hrel
        replace hG := Lib.hid hG
        by_cases hen : s ≤ H
        · obtain ⟨g, rfl⟩ : ∃ z, gk = z + 1 := ⟨gk - 1, by omega⟩
          obtain ⟨e, he⟩ : ∃ e, e = H - s := ⟨_, rfl⟩
          have he1 : (H : Int) - (s : Int) = (e : Int) := by omega
          have i2 : (0 : Int) ≤ (e : Int) := by omega
          have hen2 : e < n := by omega
          have hle : e < hi := by omega
          have hU1 := hU.out
          have hlt := fun (h : gi l e < x) => gDn_lt (l := l) (x := x) (h := H) (m := g) (s := s) (hi := hi) (c := c) hen (by rw [← he]; exact h)
          have hge := fun (h : ¬ gi l e < x) => gDn_ge (l := l) (x := x) (h := H) (m := g) (s := s) (hi := hi) (c := c) hen (by rw [← he]; exact h)
          rw [← he, hU1] at hlt hge
          replace hU := True.intro
          replace hU1 := True.intro
          replace he := Lib.hid he
          by_cases hyx2 : gi l e < x
          · have hRR : Hid ((e + 1, hi, c + 1) = R) := Lib.hid (hlt hyx2).symm
            have hyd2 := Lib.hid (decide_eq_true hyx2)
            clear hyx2 hlt hge
            go_wp2_with fail
            refine (less_any w w.heap.size (w.heap.size + 1) lb hb cb _ n cap l x _ e 0 hi c _ hv.out hG.out (by first | rfl | exact he1 | omega) (by omega) (by omega) (by omega) hn.out (by omega) (by omega) (by omega) true hyd2.out).mono ?_
            rintro e2 w9 ⟨rfl, hG2⟩
            simp only [if_true] at hG2
            clear hG
            have hG := Lib.hid hG2
            clear hG2
            obtain ⟨c', hc'⟩ : ∃ c', c' = c + 1 := ⟨_, rfl⟩
            rw [← hc'] at hG hRR
            have hc9 : c' ≤ 201 := by omega
            replace hc' := Lib.hid hc'
            clear b3
            obtain ⟨c, rfl⟩ : ∃ c, c = c' := ⟨_, rfl⟩
            go_wp2
            go_loopg [] n (fun g wq => ∃ lo hi c : Nat, GS w w.heap.size (w.heap.size + 1) lb hb cb (.slice (some ⟨b, off, none⟩) n cap) x lo hi c wq ∧ Hid (gBin l x g lo hi c = R2) ∧ hi ≤ lo + g ∧ lo ≤ n ∧ hi ≤ n ∧ c + g ≤ 400)
            case atStart => exact ⟨(e + 1), hi, c, hG.out, Lib.hid (by rw [← hR2.out, ← hRR.out]), by omega, by omega, by omega, by omega⟩
            case round =>
              clear hG
              obtain ⟨lo, hi, c, hG, hB, b1, b2, b3, b4⟩ := hrel
              have cl := hG.rl.cell0
              have ch := hG.rh.cell0
              have cc := hG.rc.cell0
              replace hG := Lib.hid hG
              by_cases hlh : lo < hi
              · obtain ⟨g, rfl⟩ : ∃ z, gk = z + 1 := ⟨gk - 1, by omega⟩
                obtain ⟨md, hmd⟩ : ∃ md, md = (lo + hi) / 2 := ⟨_, rfl⟩
                have m1 : lo ≤ md := by omega
                have m2 : md < hi := by omega
                have hdv : ((lo : Int) + (hi : Int)).tdiv 2 = (md : Int) := by
                  rw [Int.tdiv_eq_ediv_of_nonneg (by omega)]; omega
                have hdv2 : ((lo : Int) + (hi : Int)) / 2 = (md : Int) := by omega
                have hlt := fun (h : gi l md < x) => gBin_lt (l := l) (x := x) (m := g) (c := c) hlh (by rw [← hmd]; exact h)
                have hge := fun (h : ¬ gi l md < x) => gBin_ge (l := l) (x := x) (m := g) (c := c) hlh (by rw [← hmd]; exact h)
                rw [← hmd] at hlt hge
                rw [hB.out] at hlt hge
                replace hmd := Lib.hid hmd
                replace hB := Lib.hid hB.out
                by_cases hyx : gi l md < x
                · replace hlt := Lib.hid (hlt hyx)
                  have hyd := Lib.hid (decide_eq_true hyx)
                  clear hge hyx
                  go_wp2_with fail
                  refine (less_any w w.heap.size (w.heap.size + 1) lb hb cb _ n cap l x _ md lo hi c _ hv.out hG.out (by first | rfl | exact hdv | omega) (by omega) (by omega) (by omega) hn.out (by omega) (by omega) (by omega) true hyd.out).mono ?_
                  rintro e w9 ⟨rfl, hG2⟩
                  simp only [if_true] at hG2
                  replace hG2 := Lib.hid hG2
                  go_wp2
                  go_roundg g
                  case measure => omega
                  case rel => exact ⟨md + 1, hi, c + 1, hG2.out, Lib.hid hlt.out.symm, by omega, by omega, by omega, by omega⟩
                · replace hge := Lib.hid (hge hyx)
                  have hyd := Lib.hid (decide_eq_false hyx)
                  clear hlt hyx
                  go_wp2_with fail
                  refine (less_any w w.heap.size (w.heap.size + 1) lb hb cb _ n cap l x _ md lo hi c _ hv.out hG.out (by first | rfl | exact hdv | omega) (by omega) (by omega) (by omega) hn.out (by omega) (by omega) (by omega) false hyd.out).mono ?_
                  rintro e w9 ⟨rfl, hG2⟩
                  simp only [if_false, Bool.false_eq_true] at hG2
                  replace hG2 := Lib.hid hG2
                  go_wp2
                  go_roundg g
                  case measure => omega
                  case rel => exact ⟨lo, md, c + 1, hG2.out, Lib.hid hge.out.symm, by omega, by omega, by omega, by omega⟩
              · have hst := gBin_stop (l := l) (x := x) (m := gk) (c := c) hlh
                rw [hB.out] at hst
                replace hst := Lib.hid hst
                replace hB := Lib.hid hB.out
                go_wp2
                go_quiet (fail)
                go_wp2
                go_ret3
                exact ⟨by rw [hst.out]; first | done | rfl, Below.drewN hG.out.bel _⟩
          · replace hge := Lib.hid (hge hyx2)
            have hyd2 := Lib.hid (decide_eq_false hyx2)
            clear hyx2 hlt
            go_wp2_with fail
            refine (less_any w w.heap.size (w.heap.size + 1) lb hb cb _ n cap l x _ e 0 hi c _ hv.out hG.out (by first | rfl | exact he1 | omega) (by omega) (by omega) (by omega) hn.out (by omega) (by omega) (by omega) false hyd2.out).mono ?_
            rintro e2 w9 ⟨rfl, hG2⟩
            simp only [if_false, Bool.false_eq_true] at hG2
            replace hG2 := Lib.hid hG2
            go_wp2
            go_roundg g
            case measure => omega
            case rel => exact ⟨e, c + 1, 2 * s + 1, by go_num, hG2.out, by omega, by omega, by omega, by have := he.out; omega, by omega, Lib.hid hge.out.symm, by omega⟩
        · have hU1 := hU.out
          rw [gDn_stop hen] at hU1
          have hRR : Hid ((0, hi, c) = R) := Lib.hid hU1
          replace hU := True.intro
          replace hU1 := True.intro
          have i1 : ¬ (0 : Int) ≤ (H : Int) - (s : Int) := by omega
          go_wp2
          go_loopg [] n (fun g wq => ∃ lo hi c : Nat, GS w w.heap.size (w.heap.size + 1) lb hb cb (.slice (some ⟨b, off, none⟩) n cap) x lo hi c wq ∧ Hid (gBin l x g lo hi c = R2) ∧ hi ≤ lo + g ∧ lo ≤ n ∧ hi ≤ n ∧ c + g ≤ 400)
          case atStart => exact ⟨0, hi, c, hG.out, Lib.hid (by rw [← hR2.out, ← hRR.out]), by omega, by omega, by omega, by omega⟩
          case round =>
            clear hG
            obtain ⟨lo, hi, c, hG, hB, b1, b2, b3, b4⟩ := hrel
            have cl := hG.rl.cell0
            have ch := hG.rh.cell0
            have cc := hG.rc.cell0
            replace hG := Lib.hid hG
            by_cases hlh : lo < hi
            · obtain ⟨g, rfl⟩ : ∃ z, gk = z + 1 := ⟨gk - 1, by omega⟩
              obtain ⟨md, hmd⟩ : ∃ md, md = (lo + hi) / 2 := ⟨_, rfl⟩
              have m1 : lo ≤ md := by omega
              have m2 : md < hi := by omega
              have hdv : ((lo : Int) + (hi : Int)).tdiv 2 = (md : Int) := by
                rw [Int.tdiv_eq_ediv_of_nonneg (by omega)]; omega
              have hdv2 : ((lo : Int) + (hi : Int)) / 2 = (md : Int) := by omega
              have hlt := fun (h : gi l md < x) => gBin_lt (l := l) (x := x) (m := g) (c := c) hlh (by rw [← hmd]; exact h)
              have hge := fun (h : ¬ gi l md < x) => gBin_ge (l := l) (x := x) (m := g) (c := c) hlh (by rw [← hmd]; exact h)
              rw [← hmd] at hlt hge
              rw [hB.out] at hlt hge
              replace hmd := Lib.hid hmd
              replace hB := Lib.hid hB.out
              by_cases hyx : gi l md < x
              · replace hlt := Lib.hid (hlt hyx)
                have hyd := Lib.hid (decide_eq_true hyx)
                clear hge hyx
                go_wp2_with fail
                refine (less_any w w.heap.size (w.heap.size + 1) lb hb cb _ n cap l x _ md lo hi c _ hv.out hG.out (by first | rfl | exact hdv | omega) (by omega) (by omega) (by omega) hn.out (by omega) (by omega) (by omega) true hyd.out).mono ?_
                rintro e w9 ⟨rfl, hG2⟩
                simp only [if_true] at hG2
                replace hG2 := Lib.hid hG2
                go_wp2
                go_roundg g
                case measure => omega
                case rel => exact ⟨md + 1, hi, c + 1, hG2.out, Lib.hid hlt.out.symm, by omega, by omega, by omega, by omega⟩
              · replace hge := Lib.hid (hge hyx)
                have hyd := Lib.hid (decide_eq_false hyx)
                clear hlt hyx
                go_wp2_with fail
                refine (less_any w w.heap.size (w.heap.size + 1) lb hb cb _ n cap l x _ md lo hi c _ hv.out hG.out (by first | rfl | exact hdv | omega) (by omega) (by omega) (by omega) hn.out (by omega) (by omega) (by omega) false hyd.out).mono ?_
                rintro e w9 ⟨rfl, hG2⟩
                simp only [if_false, Bool.false_eq_true] at hG2
                replace hG2 := Lib.hid hG2
                go_wp2
                go_roundg g
                case measure => omega
                case rel => exact ⟨lo, md, c + 1, hG2.out, Lib.hid hge.out.symm, by omega, by omega, by omega, by omega⟩
            · have hst := gBin_stop (l := l) (x := x) (m := gk) (c := c) hlh
              rw [hB.out] at hst
              replace hst := Lib.hid hst
              replace hB := Lib.hid hB.out
              go_wp2
              go_quiet (fail)
              go_wp2
              go_ret3
              exact ⟨by rw [hst.out]; first | done | rfl, Below.drewN hG.out.bel _⟩
end Go.Proofs.Ytbfffpdcpoejnaa
