/- Two ascending lists of records merged: impl.merge, spec.l5Merge. -/
import Derived.Test.YtdhcpoeopooejaaRecOwn
import Derived.Test.YtdhcpoeopooejaaIntSS
import Derived.BigRegion
import Derived.RegionTactic
namespace Go.Proofs.Ytdhcpoeopooejaa
open Go.RowKit
set_option linter.unusedVariables false
set_option linter.unusedSimpArgs false

/-- The merge of two lists, and how many comparisons it takes. -/
def mergeF : List (Int × Int) → List (Int × Int) → List (Int × Int) × Nat
  | [], b => (b, 0)
  | x :: a, [] => (x :: a, 0)
  | x :: a, y :: b => if y.1 < x.1 then (y :: (mergeF (x :: a) b).1, (mergeF (x :: a) b).2 + 1) else (x :: (mergeF a (y :: b)).1, (mergeF a (y :: b)).2 + 1)
termination_by a b => a.length + b.length
theorem OwnQ.app {e : TypeId} {B q : Nat} {a wr w' : World} {v : Value} {xs : List (Int × Int)} {o : Obj} (hb : Below B a wr) (ho : OwnQ e wr B v xs) (hB : B ≤ wr.heap.size) (hg : ((wr.drewN q).alloc o).grownBy w' v.ownBlock) : Below B a w' :=
  Below.appendedQ (Below.alloc (Below.drewN hb q) hB o) (OwnQ.alloc (OwnQ.drewN ho q) o) hg (by simp; omega)
theorem mergeF_l (b : List (Int × Int)) : mergeF [] b = (b, 0) := by rw [mergeF]
theorem mergeF_r (a : List (Int × Int)) : mergeF a [] = (a, 0) := by
  cases a <;> rw [mergeF]
theorem mergeF_lt {x y : Int × Int} (a b : List (Int × Int)) (h : y.1 < x.1) : mergeF (x :: a) (y :: b) = (y :: (mergeF (x :: a) b).1, (mergeF (x :: a) b).2 + 1) := by rw [mergeF, if_pos h]
theorem mergeF_ge {x y : Int × Int} (a b : List (Int × Int)) (h : ¬ y.1 < x.1) : mergeF (x :: a) (y :: b) = (x :: (mergeF a (y :: b)).1, (mergeF a (y :: b)).2 + 1) := by rw [mergeF, if_neg h]
theorem mergeF_len : ∀ (n : Nat) (a b : List (Int × Int)), a.length + b.length = n → (mergeF a b).1.length = n ∧ (mergeF a b).2 ≤ n := by
  intro n
  induction n with
  | zero =>
    intro a b h
    have h1 : a = [] := List.eq_nil_of_length_eq_zero (by omega)
    have h2 : b = [] := List.eq_nil_of_length_eq_zero (by omega)
    subst h1 h2
    simp [mergeF_l]
  | succ n ih =>
    intro a b h
    cases a with
    | nil => rw [mergeF_l]; simp at h; simp [h]
    | cons x a =>
      cases b with
      | nil => rw [mergeF_r]; simp at h ⊢; omega
      | cons y b =>
        simp only [List.length_cons] at h
        by_cases hlt : y.1 < x.1
        · rw [mergeF_lt a b hlt]
          have := ih (x :: a) b (by simp only [List.length_cons]; omega)
          simp only [List.length_cons]
          omega
        · rw [mergeF_ge a b hlt]
          have := ih a (y :: b) (by simp only [List.length_cons]; omega)
          simp only [List.length_cons]
          omega

set_option maxHeartbeats 4000000 in
theorem impl_merge_any (va vb : Value) (A B : List (Int × Int)) (w : World) (ha : RdP w va A) (hb : RdP w vb B) (hl : A.length + B.length ≤ 1000000) :
    Calls Try.prog 80 #[va, vb] w fun e w' => ∃ o, e = .returned (.tuple #[o, .int .i64 ((mergeF A B).2 : Nat)]) ∧ OwnQ 72 w' w.heap.size o (mergeF A B).1 ∧ Below w.heap.size w w' := by
  obtain ⟨ao, ca, rfl, ha1, ha2⟩ := ha.shape
  obtain ⟨bo, cb, rfl, hb1, hb2⟩ := hb.shape
  unfold maxLen at ha2 hb2
  have hemp := Lib.hid (OwnQ.empty 72 w)
  generalize hL : A.length + B.length = L at *
  have hL0 := Lib.hid (show ([] : List (Int × Int)).length + A.length + B.length = L by simp; omega)
  generalize hR : mergeF A B = R at *
  generalize hna : A.length = na at *
  generalize hnb : B.length = nb at *
  replace ha := Lib.hid ha
  replace hb := Lib.hid hb
  replace hL := Lib.hid hL
  replace hR := Lib.hid hR
  replace hna := Lib.hid hna
  replace hnb := Lib.hid hnb
  go_enter Try.func80, Try.ntmps80
  go_wp2
  go_loopw [0, 1, 6, 7] (fun va vb o cn wr => ∃ (a b out : List (Int × Int)) (ao bo : Option Addr) (na ca nb cb : Nat), va = .slice ao na ca ∧ vb = .slice bo nb cb ∧ RdP w (.slice ao na ca) a ∧ RdP w (.slice bo nb cb) b ∧
    OwnQ 72 wr w.heap.size o out ∧ Below w.heap.size w wr ∧ cn = .int .i64 (out.length : Nat) ∧ out ++ (mergeF a b).1 = R.1 ∧ out.length + (mergeF a b).2 = R.2 ∧ out.length + a.length + b.length = L) (fun va vb _ _ _ => slN va + slN vb)
  case atStart => exact ⟨A, B, [], ao, bo, na, ca, nb, cb, rfl, rfl, ha.out, hb.out, hemp.out, (Below.refl _ _).alloc (Nat.le_refl _) _, rfl, by rw [hR.out]; rfl, by rw [hR.out]; simp, by rw [hna.out, hnb.out]; exact hL0.out⟩
  case round =>
    clear ha hb hemp hL0 hL hR hna hnb ha1 ha2 hb1 hb2 na nb ca cb ao bo
    obtain ⟨a, b, out, ao, bo, na, ca, nb, cb, rfl, rfl, ha, hb, hown, hbel, rfl, hR1, hR2, hlen⟩ := hrel
    obtain ⟨ha0, ha1, ha2⟩ := ha.empty
    obtain ⟨hb0, hb1, hb2⟩ := hb.empty
    unfold maxLen at ha2 hb2
    have hB : w.heap.size ≤ wr.heap.size := hbel.size
    by_cases hab : 0 < na ∧ 0 < nb
    · obtain ⟨hap, hbp⟩ := hab
      cases a with
      | nil => simp at ha0; omega
      | cons x a =>
        cases b with
        | nil => simp at hb0; omega
        | cons y b =>
          obtain ⟨p, po, rfl, u1, u2, u3, hx1, hx2, hae1, hae2⟩ := ha.cons
          obtain ⟨q, qo, rfl, u4, u5, u6, hy1, hy2, hbe1, hbe2⟩ := hb.cons
          clear u1 u2 u3 u4 u5 u6
          have hpl : p < w.heap.size := block_lt_of_cell hx1
          have hql : q < w.heap.size := block_lt_of_cell hy1
          have cx1 : wr.cell? ⟨p, po, none⟩ = some (.int .i64 x.1) := (hbel.cell (p := ⟨p, po, none⟩) hpl).trans hx1
          have cx2 : wr.cell? ⟨p, po + 1, none⟩ = some (.int .i64 x.2) := (hbel.cell (p := ⟨p, po + 1, none⟩) hpl).trans hx2
          have cy1 : wr.cell? ⟨q, qo, none⟩ = some (.int .i64 y.1) := (hbel.cell (p := ⟨q, qo, none⟩) hql).trans hy1
          have cy2 : wr.cell? ⟨q, qo + 1, none⟩ = some (.int .i64 y.2) := (hbel.cell (p := ⟨q, qo + 1, none⟩) hql).trans hy2
          simp only [List.length_cons] at hlen ha0 hb0
          have hol : out.length + 1 ≤ 1000000 := by omega
          generalize hon : out.length = on at *
          generalize hal : a.length = al at *
          generalize hbl : b.length = bl at *
          have hml := fun (h : y.1 < x.1) => mergeF_lt a b h
          have hmg := fun (h : ¬ y.1 < x.1) => mergeF_ge a b h
          replace hml := Lib.hid hml
          replace hmg := Lib.hid hmg
          replace hR1 := Lib.hid hR1
          replace hR2 := Lib.hid hR2
          replace hon := Lib.hid hon
          replace hal := Lib.hid hal
          replace hbl := Lib.hid hbl
          replace ha := Lib.hid ha
          replace hb := Lib.hid hb
          replace hae1 := Lib.hid hae1
          replace hae2 := Lib.hid hae2
          replace hbe1 := Lib.hid hbe1
          replace hbe2 := Lib.hid hbe2
          replace hown := Lib.hid hown
          replace hbel := Lib.hid hbel
          clear hx1 hx2 hy1 hy2
          obtain ⟨x1, x2⟩ := x
          obtain ⟨y1, y2⟩ := y
          dsimp only at cx1 cx2 cy1 cy2 hml hmg
          have hz1 : (0 : Int) < (na : Int) := by omega
          have hz2 : (0 : Int) < (nb : Int) := by omega
          replace ha0 := Lib.hid ha0
          replace hb0 := Lib.hid hb0
          replace hlen := Lib.hid hlen
          by_cases hlt : y1 < x1
          · have hm := Lib.hid (hml.out hlt)
            by_cases hc1 : cb = 1
            · have hcc : cb = 1 := hc1
              obtain ⟨hrd, hnil⟩ := hbe1.out hcc
              have hln : bl = 0 := by rw [← hbl.out, hnil]; rfl
              replace hln := Lib.hid hln
              replace hrd := Lib.hid hrd
              replace hnil := Lib.hid hnil
              subst hcc
              have hn1 : nb = 1 := by have := hb0.out; have := hln.out; omega
              subst hn1
              go_wp2
              go_quiet (fail)
              go_wp2
              go_region_law (first | (refine step_append_recs eltRec rfl (.tmp 28) (.tmp 32) rfl w.heap.size u6 out (by simp [Act.eval, Act.put]) (hown.out.alloc _) (.slice (some ⟨wr.heap.size, 0, none⟩) 1 1) [(y1, y2)] (by simp [Act.eval, Act.put]) (RdP.one _ _ _ _) (by simp; have := hon.out; omega) (by simp; omega) ?_; intro v1 w1 ho1 hg1))
              go_simp
              have hb1' := Lib.hid (OwnQ.app hbel.out hown.out hB hg1)
              replace ho1 := Lib.hid ho1
              clear hg1
              go_wp2
              go_roundw
              case rel =>
                refine ⟨(x1, x2) :: a, b, out ++ [(y1, y2)], some ⟨p, po, none⟩, some ⟨q, qo, none⟩, na, ca, 0, (0), rfl, rfl, ha.out, hrd.out, ho1.out, hb1'.out, by simp [hon.out], ?_, ?_, ?_⟩
                · have := hR1.out; rw [hm.out] at this; simpa using this
                · have := hR2.out; rw [hm.out] at this; simp [hon.out]; simp at this; omega
                · have := hlen.out; simp [hon.out, hal.out, hbl.out]; omega
              case measure => simp [slN] <;> omega
            · have hcc : cb ≠ 1 := hc1
              have hrd := hbe2.out hcc
              have hc2 : ¬ cb = 1 := hcc
              have hn2 : bl + 1 = nb := by have := hb0.out; omega
              have hn3 : 1 ≤ cb := by omega
              have hs1 : (1 : Int) ≤ (nb : Int) := by omega
              have hs2 : (nb : Int) ≤ (cb : Int) := by omega
              have hs3 : (bl : Nat) = nb - 1 := by omega
              rw [hs3] at hrd
              replace hrd := Lib.hid hrd
              replace hs3 := Lib.hid hs3
              have hs4 : (1 : Int) ≤ (cb : Int) := by omega
              have hs5 : 1 ≤ nb := by omega
              replace hn2 := Lib.hid hn2
              clear hcc
              go_wp2
              go_quiet (fail)
              go_wp2
              go_region_law (first | (refine step_append_recs eltRec rfl (.tmp 28) (.tmp 32) rfl w.heap.size u6 out (by simp [Act.eval, Act.put]) (hown.out.alloc _) (.slice (some ⟨wr.heap.size, 0, none⟩) 1 1) [(y1, y2)] (by simp [Act.eval, Act.put]) (RdP.one _ _ _ _) (by simp; have := hon.out; omega) (by simp; omega) ?_; intro v1 w1 ho1 hg1))
              go_simp
              have hb1' := Lib.hid (OwnQ.app hbel.out hown.out hB hg1)
              replace ho1 := Lib.hid ho1
              clear hg1
              go_wp2
              go_roundw
              case rel =>
                refine ⟨(x1, x2) :: a, b, out ++ [(y1, y2)], some ⟨p, po, none⟩, some ⟨q, qo + 2, none⟩, na, ca, (nb - 1), (cb - 1), rfl, rfl, ha.out, hrd.out, ho1.out, hb1'.out, by simp [hon.out], ?_, ?_, ?_⟩
                · have := hR1.out; rw [hm.out] at this; simpa using this
                · have := hR2.out; rw [hm.out] at this; simp [hon.out]; simp at this; omega
                · have := hlen.out; simp [hon.out, hal.out, hbl.out]; omega
              case measure => simp [slN] <;> omega
          · have hm := Lib.hid (hmg.out hlt)
            by_cases hc1 : ca = 1
            · have hcc : ca = 1 := hc1
              obtain ⟨hrd, hnil⟩ := hae1.out hcc
              have hln : al = 0 := by rw [← hal.out, hnil]; rfl
              replace hln := Lib.hid hln
              replace hrd := Lib.hid hrd
              replace hnil := Lib.hid hnil
              subst hcc
              have hn1 : na = 1 := by have := ha0.out; have := hln.out; omega
              subst hn1
              go_wp2
              go_quiet (fail)
              go_wp2
              go_region_law (first | (refine step_append_recs eltRec rfl (.tmp 36) (.tmp 40) rfl w.heap.size u6 out (by simp [Act.eval, Act.put]) (hown.out.alloc _) (.slice (some ⟨wr.heap.size, 0, none⟩) 1 1) [(x1, x2)] (by simp [Act.eval, Act.put]) (RdP.one _ _ _ _) (by simp; have := hon.out; omega) (by simp; omega) ?_; intro v1 w1 ho1 hg1))
              go_simp
              have hb1' := Lib.hid (OwnQ.app hbel.out hown.out hB hg1)
              replace ho1 := Lib.hid ho1
              clear hg1
              go_wp2
              go_roundw
              case rel =>
                refine ⟨a, (y1, y2) :: b, out ++ [(x1, x2)], some ⟨p, po, none⟩, some ⟨q, qo, none⟩, 0, (0), nb, cb, rfl, rfl, hrd.out, hb.out, ho1.out, hb1'.out, by simp [hon.out], ?_, ?_, ?_⟩
                · have := hR1.out; rw [hm.out] at this; simpa using this
                · have := hR2.out; rw [hm.out] at this; simp [hon.out]; simp at this; omega
                · have := hlen.out; simp [hon.out, hal.out, hbl.out]; omega
              case measure => simp [slN] <;> omega
            · have hcc : ca ≠ 1 := hc1
              have hrd := hae2.out hcc
              have hc2 : ¬ ca = 1 := hcc
              have hn2 : al + 1 = na := by have := ha0.out; omega
              have hn3 : 1 ≤ ca := by omega
              have hs1 : (1 : Int) ≤ (na : Int) := by omega
              have hs2 : (na : Int) ≤ (ca : Int) := by omega
              have hs3 : (al : Nat) = na - 1 := by omega
              rw [hs3] at hrd
              replace hrd := Lib.hid hrd
              replace hs3 := Lib.hid hs3
              have hs4 : (1 : Int) ≤ (ca : Int) := by omega
              have hs5 : 1 ≤ na := by omega
              replace hn2 := Lib.hid hn2
              clear hcc
              go_wp2
              go_quiet (fail)
              go_wp2
              go_region_law (first | (refine step_append_recs eltRec rfl (.tmp 36) (.tmp 40) rfl w.heap.size u6 out (by simp [Act.eval, Act.put]) (hown.out.alloc _) (.slice (some ⟨wr.heap.size, 0, none⟩) 1 1) [(x1, x2)] (by simp [Act.eval, Act.put]) (RdP.one _ _ _ _) (by simp; have := hon.out; omega) (by simp; omega) ?_; intro v1 w1 ho1 hg1))
              go_simp
              have hb1' := Lib.hid (OwnQ.app hbel.out hown.out hB hg1)
              replace ho1 := Lib.hid ho1
              clear hg1
              go_wp2
              go_roundw
              case rel =>
                refine ⟨a, (y1, y2) :: b, out ++ [(x1, x2)], some ⟨p, po + 2, none⟩, some ⟨q, qo, none⟩, (na - 1), (ca - 1), nb, cb, rfl, rfl, hrd.out, hb.out, ho1.out, hb1'.out, by simp [hon.out], ?_, ?_, ?_⟩
                · have := hR1.out; rw [hm.out] at this; simpa using this
                · have := hR2.out; rw [hm.out] at this; simp [hon.out]; simp at this; omega
                · have := hlen.out; simp [hon.out, hal.out, hbl.out]; omega
              case measure => simp [slN] <;> omega
    · replace ha := Lib.hid ha
      replace hb := Lib.hid hb
      have hfinR : out ++ a ++ b = R.1 ∧ out.length = R.2 := by
        rcases Nat.eq_zero_or_pos na with h | h
        · have : a = [] := List.eq_nil_of_length_eq_zero (by omega)
          subst this
          rw [mergeF_l] at hR1 hR2
          simpa using ⟨hR1, hR2⟩
        · have : b = [] := List.eq_nil_of_length_eq_zero (by omega)
          subst this
          rw [mergeF_r] at hR1 hR2
          simpa using ⟨hR1, hR2⟩
      have hra := Lib.hid (ha.out.below (w' := wr) hbel)
      have hl1 : out.length + a.length ≤ 1000000000 := by omega
      have hl2 : (out ++ a).length + b.length ≤ 1000000000 := by simp; omega
      have hR2' := hfinR.2
      replace hfinR := Lib.hid hfinR
      replace hown := Lib.hid hown
      replace hbel := Lib.hid hbel
      replace hR1 := Lib.hid hR1
      replace hR2 := Lib.hid hR2
      replace hlen := Lib.hid hlen
      replace ha0 := Lib.hid ha0
      replace hb0 := Lib.hid hb0
      replace hl1 := Lib.hid hl1
      replace hl2 := Lib.hid hl2
      have hfin1 := hfinR.out.1
      simp only [List.append_assoc] at hfin1
      replace hfin1 := Lib.hid hfin1
      replace hR2' := Lib.hid hR2'
      by_cases hz : 0 < na
      · have hz1 : (0 : Int) < (na : Int) := by omega
        have hz2 : ¬ (0 : Int) < (nb : Int) := by omega
        go_wp2_with (at_builtin; refine append_recs eltRec rfl _ _ rfl w.heap.size _ _ rfl hown.out _ _ rfl hra.out hl1.out hB ?_)
        intro v1 w1 ho1 hg1
        have hb1' := Lib.hid (Below.appendedQ hbel.out hown.out hg1 hB)
        have hB1 : w.heap.size ≤ w1.heap.size := hb1'.out.size
        have hrb := Lib.hid (hb.out.below (w' := w1) hb1'.out)
        replace ho1 := Lib.hid ho1
        clear hg1
        go_wp2_with (at_builtin; refine append_recs eltRec rfl _ _ rfl w.heap.size _ _ rfl ho1.out _ _ rfl hrb.out hl2.out hB1 ?_)
        intro v2 w2 ho2 hg2
        have hb2' := Lib.hid (Below.appendedQ hb1'.out ho1.out hg2 hB1)
        replace ho2 := Lib.hid ho2
        clear hg2
        go_wp2
        go_ret2
        have ho3 := ho2.out
        try simp only [List.append_assoc] at ho3
        rw [hfin1.out] at ho3
        replace ho3 := Lib.hid ho3
        refine ⟨_, ?_, ho3.out, hb2'.out⟩
        rw [← hR2'.out]
        rfl
      · have hz1 : ¬ (0 : Int) < (na : Int) := by omega
        go_wp2_with (at_builtin; refine append_recs eltRec rfl _ _ rfl w.heap.size _ _ rfl hown.out _ _ rfl hra.out hl1.out hB ?_)
        intro v1 w1 ho1 hg1
        have hb1' := Lib.hid (Below.appendedQ hbel.out hown.out hg1 hB)
        have hB1 : w.heap.size ≤ w1.heap.size := hb1'.out.size
        have hrb := Lib.hid (hb.out.below (w' := w1) hb1'.out)
        replace ho1 := Lib.hid ho1
        clear hg1
        go_wp2_with (at_builtin; refine append_recs eltRec rfl _ _ rfl w.heap.size _ _ rfl ho1.out _ _ rfl hrb.out hl2.out hB1 ?_)
        intro v2 w2 ho2 hg2
        have hb2' := Lib.hid (Below.appendedQ hb1'.out ho1.out hg2 hB1)
        replace ho2 := Lib.hid ho2
        clear hg2
        go_wp2
        go_ret2
        have ho3 := ho2.out
        try simp only [List.append_assoc] at ho3
        rw [hfin1.out] at ho3
        replace ho3 := Lib.hid ho3
        refine ⟨_, ?_, ho3.out, hb2'.out⟩
        rw [← hR2'.out]
        rfl

set_option maxHeartbeats 4000000 in
theorem l5Merge_any (va vb : Value) (A B : List (Int × Int)) (w : World) (ha : RdP w va A) (hb : RdP w vb B) (hl : A.length + B.length ≤ 1000000) :
    Calls Try.prog 75 #[va, vb] w fun e w' => ∃ o, e = .returned (.tuple #[o, .int .i64 ((mergeF A B).2 : Nat)]) ∧ OwnQ 72 w' w.heap.size o (mergeF A B).1 ∧ Below w.heap.size w w' := by
  obtain ⟨ao, ca, rfl, ha1, ha2⟩ := ha.shape
  obtain ⟨bo, cb, rfl, hb1, hb2⟩ := hb.shape
  unfold maxLen at ha2 hb2
  have hemp := Lib.hid (OwnQ.empty 72 w)
  generalize hL : A.length + B.length = L at *
  have hL0 := Lib.hid (show ([] : List (Int × Int)).length + A.length + B.length = L by simp; omega)
  generalize hR : mergeF A B = R at *
  generalize hna : A.length = na at *
  generalize hnb : B.length = nb at *
  replace ha := Lib.hid ha
  replace hb := Lib.hid hb
  replace hL := Lib.hid hL
  replace hR := Lib.hid hR
  replace hna := Lib.hid hna
  replace hnb := Lib.hid hnb
  go_enter Try.func75, Try.ntmps75
  go_wp2
  go_loopw [0, 1, 6, 7] (fun va vb o cn wr => ∃ (a b out : List (Int × Int)) (ao bo : Option Addr) (na ca nb cb : Nat), va = .slice ao na ca ∧ vb = .slice bo nb cb ∧ RdP w (.slice ao na ca) a ∧ RdP w (.slice bo nb cb) b ∧
    OwnQ 72 wr w.heap.size o out ∧ Below w.heap.size w wr ∧ cn = .int .i64 (out.length : Nat) ∧ out ++ (mergeF a b).1 = R.1 ∧ out.length + (mergeF a b).2 = R.2 ∧ out.length + a.length + b.length = L) (fun va vb _ _ _ => slN va + slN vb)
  case atStart => exact ⟨A, B, [], ao, bo, na, ca, nb, cb, rfl, rfl, ha.out, hb.out, hemp.out, (Below.refl _ _).alloc (Nat.le_refl _) _, rfl, by rw [hR.out]; rfl, by rw [hR.out]; simp, by rw [hna.out, hnb.out]; exact hL0.out⟩
  case round =>
    clear ha hb hemp hL0 hL hR hna hnb ha1 ha2 hb1 hb2 na nb ca cb ao bo
    obtain ⟨a, b, out, ao, bo, na, ca, nb, cb, rfl, rfl, ha, hb, hown, hbel, rfl, hR1, hR2, hlen⟩ := hrel
    obtain ⟨ha0, ha1, ha2⟩ := ha.empty
    obtain ⟨hb0, hb1, hb2⟩ := hb.empty
    unfold maxLen at ha2 hb2
    have hB : w.heap.size ≤ wr.heap.size := hbel.size
    by_cases hab : 0 < na ∧ 0 < nb
    · obtain ⟨hap, hbp⟩ := hab
      cases a with
      | nil => simp at ha0; omega
      | cons x a =>
        cases b with
        | nil => simp at hb0; omega
        | cons y b =>
          obtain ⟨p, po, rfl, u1, u2, u3, hx1, hx2, hae1, hae2⟩ := ha.cons
          obtain ⟨q, qo, rfl, u4, u5, u6, hy1, hy2, hbe1, hbe2⟩ := hb.cons
          clear u1 u2 u3 u4 u5 u6
          have hpl : p < w.heap.size := block_lt_of_cell hx1
          have hql : q < w.heap.size := block_lt_of_cell hy1
          have cx1 : wr.cell? ⟨p, po, none⟩ = some (.int .i64 x.1) := (hbel.cell (p := ⟨p, po, none⟩) hpl).trans hx1
          have cx2 : wr.cell? ⟨p, po + 1, none⟩ = some (.int .i64 x.2) := (hbel.cell (p := ⟨p, po + 1, none⟩) hpl).trans hx2
          have cy1 : wr.cell? ⟨q, qo, none⟩ = some (.int .i64 y.1) := (hbel.cell (p := ⟨q, qo, none⟩) hql).trans hy1
          have cy2 : wr.cell? ⟨q, qo + 1, none⟩ = some (.int .i64 y.2) := (hbel.cell (p := ⟨q, qo + 1, none⟩) hql).trans hy2
          simp only [List.length_cons] at hlen ha0 hb0
          have hol : out.length + 1 ≤ 1000000 := by omega
          generalize hon : out.length = on at *
          generalize hal : a.length = al at *
          generalize hbl : b.length = bl at *
          have hml := fun (h : y.1 < x.1) => mergeF_lt a b h
          have hmg := fun (h : ¬ y.1 < x.1) => mergeF_ge a b h
          replace hml := Lib.hid hml
          replace hmg := Lib.hid hmg
          replace hR1 := Lib.hid hR1
          replace hR2 := Lib.hid hR2
          replace hon := Lib.hid hon
          replace hal := Lib.hid hal
          replace hbl := Lib.hid hbl
          replace ha := Lib.hid ha
          replace hb := Lib.hid hb
          replace hae1 := Lib.hid hae1
          replace hae2 := Lib.hid hae2
          replace hbe1 := Lib.hid hbe1
          replace hbe2 := Lib.hid hbe2
          replace hown := Lib.hid hown
          replace hbel := Lib.hid hbel
          clear hx1 hx2 hy1 hy2
          obtain ⟨x1, x2⟩ := x
          obtain ⟨y1, y2⟩ := y
          dsimp only at cx1 cx2 cy1 cy2 hml hmg
          have hz1 : (0 : Int) < (na : Int) := by omega
          have hz2 : (0 : Int) < (nb : Int) := by omega
          replace ha0 := Lib.hid ha0
          replace hb0 := Lib.hid hb0
          replace hlen := Lib.hid hlen
          by_cases hlt : y1 < x1
          · have hm := Lib.hid (hml.out hlt)
            by_cases hc1 : cb = 1
            · have hcc : cb = 1 := hc1
              obtain ⟨hrd, hnil⟩ := hbe1.out hcc
              have hln : bl = 0 := by rw [← hbl.out, hnil]; rfl
              replace hln := Lib.hid hln
              replace hrd := Lib.hid hrd
              replace hnil := Lib.hid hnil
              subst hcc
              have hn1 : nb = 1 := by have := hb0.out; have := hln.out; omega
              subst hn1
              go_wp2
              go_quiet (fail)
              go_wp2_with (at_builtin; refine append_recs eltRec rfl _ _ rfl w.heap.size _ out rfl (hown.out.alloc _) _ [(y1, y2)] rfl (RdP.one _ _ _ _) (by simp; have := hon.out; omega) (by simp; omega) ?_)
              intro v1 w1 ho1 hg1
              have hb1' := Lib.hid (OwnQ.app hbel.out hown.out hB hg1)
              replace ho1 := Lib.hid ho1
              clear hg1
              go_wp2
              go_roundw
              case rel =>
                refine ⟨(x1, x2) :: a, b, out ++ [(y1, y2)], some ⟨p, po, none⟩, some ⟨q, qo, none⟩, na, ca, 0, (0), rfl, rfl, ha.out, hrd.out, ho1.out, hb1'.out, by simp [hon.out], ?_, ?_, ?_⟩
                · have := hR1.out; rw [hm.out] at this; simpa using this
                · have := hR2.out; rw [hm.out] at this; simp [hon.out]; simp at this; omega
                · have := hlen.out; simp [hon.out, hal.out, hbl.out]; omega
              case measure => simp [slN] <;> omega
            · have hcc : cb ≠ 1 := hc1
              have hrd := hbe2.out hcc
              have hc2 : ¬ cb = 1 := hcc
              have hn2 : bl + 1 = nb := by have := hb0.out; omega
              have hn3 : 1 ≤ cb := by omega
              have hs1 : (1 : Int) ≤ (nb : Int) := by omega
              have hs2 : (nb : Int) ≤ (cb : Int) := by omega
              have hs3 : (bl : Nat) = nb - 1 := by omega
              rw [hs3] at hrd
              replace hrd := Lib.hid hrd
              replace hs3 := Lib.hid hs3
              have hs4 : (1 : Int) ≤ (cb : Int) := by omega
              have hs5 : 1 ≤ nb := by omega
              replace hn2 := Lib.hid hn2
              clear hcc
              go_wp2
              go_quiet (fail)
              go_wp2_with (at_builtin; refine append_recs eltRec rfl _ _ rfl w.heap.size _ out rfl (hown.out.alloc _) _ [(y1, y2)] rfl (RdP.one _ _ _ _) (by simp; have := hon.out; omega) (by simp; omega) ?_)
              intro v1 w1 ho1 hg1
              have hb1' := Lib.hid (OwnQ.app hbel.out hown.out hB hg1)
              replace ho1 := Lib.hid ho1
              clear hg1
              go_wp2
              go_roundw
              case rel =>
                refine ⟨(x1, x2) :: a, b, out ++ [(y1, y2)], some ⟨p, po, none⟩, some ⟨q, qo + 2, none⟩, na, ca, (nb - 1), (cb - 1), rfl, rfl, ha.out, hrd.out, ho1.out, hb1'.out, by simp [hon.out], ?_, ?_, ?_⟩
                · have := hR1.out; rw [hm.out] at this; simpa using this
                · have := hR2.out; rw [hm.out] at this; simp [hon.out]; simp at this; omega
                · have := hlen.out; simp [hon.out, hal.out, hbl.out]; omega
              case measure => simp [slN] <;> omega
          · have hm := Lib.hid (hmg.out hlt)
            by_cases hc1 : ca = 1
            · have hcc : ca = 1 := hc1
              obtain ⟨hrd, hnil⟩ := hae1.out hcc
              have hln : al = 0 := by rw [← hal.out, hnil]; rfl
              replace hln := Lib.hid hln
              replace hrd := Lib.hid hrd
              replace hnil := Lib.hid hnil
              subst hcc
              have hn1 : na = 1 := by have := ha0.out; have := hln.out; omega
              subst hn1
              go_wp2
              go_quiet (fail)
              go_wp2_with (at_builtin; refine append_recs eltRec rfl _ _ rfl w.heap.size _ out rfl (hown.out.alloc _) _ [(x1, x2)] rfl (RdP.one _ _ _ _) (by simp; have := hon.out; omega) (by simp; omega) ?_)
              intro v1 w1 ho1 hg1
              have hb1' := Lib.hid (OwnQ.app hbel.out hown.out hB hg1)
              replace ho1 := Lib.hid ho1
              clear hg1
              go_wp2
              go_roundw
              case rel =>
                refine ⟨a, (y1, y2) :: b, out ++ [(x1, x2)], some ⟨p, po, none⟩, some ⟨q, qo, none⟩, 0, (0), nb, cb, rfl, rfl, hrd.out, hb.out, ho1.out, hb1'.out, by simp [hon.out], ?_, ?_, ?_⟩
                · have := hR1.out; rw [hm.out] at this; simpa using this
                · have := hR2.out; rw [hm.out] at this; simp [hon.out]; simp at this; omega
                · have := hlen.out; simp [hon.out, hal.out, hbl.out]; omega
              case measure => simp [slN] <;> omega
            · have hcc : ca ≠ 1 := hc1
              have hrd := hae2.out hcc
              have hc2 : ¬ ca = 1 := hcc
              have hn2 : al + 1 = na := by have := ha0.out; omega
              have hn3 : 1 ≤ ca := by omega
              have hs1 : (1 : Int) ≤ (na : Int) := by omega
              have hs2 : (na : Int) ≤ (ca : Int) := by omega
              have hs3 : (al : Nat) = na - 1 := by omega
              rw [hs3] at hrd
              replace hrd := Lib.hid hrd
              replace hs3 := Lib.hid hs3
              have hs4 : (1 : Int) ≤ (ca : Int) := by omega
              have hs5 : 1 ≤ na := by omega
              replace hn2 := Lib.hid hn2
              clear hcc
              go_wp2
              go_quiet (fail)
              go_wp2_with (at_builtin; refine append_recs eltRec rfl _ _ rfl w.heap.size _ out rfl (hown.out.alloc _) _ [(x1, x2)] rfl (RdP.one _ _ _ _) (by simp; have := hon.out; omega) (by simp; omega) ?_)
              intro v1 w1 ho1 hg1
              have hb1' := Lib.hid (OwnQ.app hbel.out hown.out hB hg1)
              replace ho1 := Lib.hid ho1
              clear hg1
              go_wp2
              go_roundw
              case rel =>
                refine ⟨a, (y1, y2) :: b, out ++ [(x1, x2)], some ⟨p, po + 2, none⟩, some ⟨q, qo, none⟩, (na - 1), (ca - 1), nb, cb, rfl, rfl, hrd.out, hb.out, ho1.out, hb1'.out, by simp [hon.out], ?_, ?_, ?_⟩
                · have := hR1.out; rw [hm.out] at this; simpa using this
                · have := hR2.out; rw [hm.out] at this; simp [hon.out]; simp at this; omega
                · have := hlen.out; simp [hon.out, hal.out, hbl.out]; omega
              case measure => simp [slN] <;> omega
    · replace ha := Lib.hid ha
      replace hb := Lib.hid hb
      have hfinR : out ++ a ++ b = R.1 ∧ out.length = R.2 := by
        rcases Nat.eq_zero_or_pos na with h | h
        · have : a = [] := List.eq_nil_of_length_eq_zero (by omega)
          subst this
          rw [mergeF_l] at hR1 hR2
          simpa using ⟨hR1, hR2⟩
        · have : b = [] := List.eq_nil_of_length_eq_zero (by omega)
          subst this
          rw [mergeF_r] at hR1 hR2
          simpa using ⟨hR1, hR2⟩
      have hra := Lib.hid (ha.out.below (w' := wr) hbel)
      have hl1 : out.length + a.length ≤ 1000000000 := by omega
      have hl2 : (out ++ a).length + b.length ≤ 1000000000 := by simp; omega
      have hR2' := hfinR.2
      replace hfinR := Lib.hid hfinR
      replace hown := Lib.hid hown
      replace hbel := Lib.hid hbel
      replace hR1 := Lib.hid hR1
      replace hR2 := Lib.hid hR2
      replace hlen := Lib.hid hlen
      replace ha0 := Lib.hid ha0
      replace hb0 := Lib.hid hb0
      replace hl1 := Lib.hid hl1
      replace hl2 := Lib.hid hl2
      have hfin1 := hfinR.out.1
      simp only [List.append_assoc] at hfin1
      replace hfin1 := Lib.hid hfin1
      replace hR2' := Lib.hid hR2'
      by_cases hz : 0 < na
      · have hz1 : (0 : Int) < (na : Int) := by omega
        have hz2 : ¬ (0 : Int) < (nb : Int) := by omega
        go_wp2_with (at_builtin; refine append_recs eltRec rfl _ _ rfl w.heap.size _ _ rfl hown.out _ _ rfl hra.out hl1.out hB ?_)
        intro v1 w1 ho1 hg1
        have hb1' := Lib.hid (Below.appendedQ hbel.out hown.out hg1 hB)
        have hB1 : w.heap.size ≤ w1.heap.size := hb1'.out.size
        have hrb := Lib.hid (hb.out.below (w' := w1) hb1'.out)
        replace ho1 := Lib.hid ho1
        clear hg1
        go_wp2_with (at_builtin; refine append_recs eltRec rfl _ _ rfl w.heap.size _ _ rfl ho1.out _ _ rfl hrb.out hl2.out hB1 ?_)
        intro v2 w2 ho2 hg2
        have hb2' := Lib.hid (Below.appendedQ hb1'.out ho1.out hg2 hB1)
        replace ho2 := Lib.hid ho2
        clear hg2
        go_wp2
        go_ret2
        have ho3 := ho2.out
        try simp only [List.append_assoc] at ho3
        rw [hfin1.out] at ho3
        replace ho3 := Lib.hid ho3
        refine ⟨_, ?_, ho3.out, hb2'.out⟩
        rw [← hR2'.out]
        rfl
      · have hz1 : ¬ (0 : Int) < (na : Int) := by omega
        go_wp2_with (at_builtin; refine append_recs eltRec rfl _ _ rfl w.heap.size _ _ rfl hown.out _ _ rfl hra.out hl1.out hB ?_)
        intro v1 w1 ho1 hg1
        have hb1' := Lib.hid (Below.appendedQ hbel.out hown.out hg1 hB)
        have hB1 : w.heap.size ≤ w1.heap.size := hb1'.out.size
        have hrb := Lib.hid (hb.out.below (w' := w1) hb1'.out)
        replace ho1 := Lib.hid ho1
        clear hg1
        go_wp2_with (at_builtin; refine append_recs eltRec rfl _ _ rfl w.heap.size _ _ rfl ho1.out _ _ rfl hrb.out hl2.out hB1 ?_)
        intro v2 w2 ho2 hg2
        have hb2' := Lib.hid (Below.appendedQ hb1'.out ho1.out hg2 hB1)
        replace ho2 := Lib.hid ho2
        clear hg2
        go_wp2
        go_ret2
        have ho3 := ho2.out
        try simp only [List.append_assoc] at ho3
        rw [hfin1.out] at ho3
        replace ho3 := Lib.hid ho3
        refine ⟨_, ?_, ho3.out, hb2'.out⟩
        rw [← hR2'.out]
        rfl
end Go.Proofs.Ytdhcpoeopooejaa
