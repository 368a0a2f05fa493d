/- Draws of rows. -/
import Derived.Test.YtoeonplbgbgjmaaDoorDrawT
import Derived.Test.YtoeonplbgbgjmaaDoorDrawP
import Derived.Test.YtoeonplbgbgjmaaDoorMg12
import Derived.Test.YtoeonplbgbgjmaaDoorMg3
namespace Go.Proofs.YtoeonplbgbgjmaaDoor
open Go.RowKit
set_option linter.unusedVariables false
set_option linter.unusedSimpArgs false

def rowL : List ByteArray := [⟨#[]⟩, ⟨#[97]⟩, ⟨#[65]⟩, ⟨#[97, 98]⟩, ⟨#[98]⟩, ⟨#[49, 48]⟩, ⟨#[57]⟩, ⟨#[45, 51]⟩, ⟨#[120]⟩, ⟨#[48, 48, 57]⟩, ⟨#[90, 101, 100]⟩]
theorem rowL_small : ∀ i, i < rowL.length → (gs rowL i).size ≤ 50 := small_all (by decide +kernel)
theorem Cur.setNew {w : World} {cb K b i : Nat} {v x : Value} (h : Cur w cb v K) (hb : b ≠ cb) (hv : ∀ q, v.ownBlock = some q → q ≠ b) : Cur (w.setCell ⟨b, i, none⟩ x) cb v K :=
  h.ex (F := [b]) ((Ex.refl [b] w).setIn (p := ⟨b, i, none⟩) (by simp)) (by simp; exact fun e => hb e.symm) (fun q hq => by simp; exact hv q hq)
theorem Own.setOther {w : World} {e B b i : Nat} {v x : Value} {xs : List Value} (h : Own w e B v xs) (hb : v.ownBlock ≠ some b) : Own (w.setCell ⟨b, i, none⟩ x) e B v xs :=
  h.kept (r := some b) (grownBy.setIn (World.grownBy.refl w (some b)) (p := ⟨b, i, none⟩) rfl) (.inr hb)
theorem Own.off {w : World} {e B b : Nat} {v : Value} {xs : List Value} (h : Own w e B v xs) (hb : b < B) : v.ownBlock ≠ some b := fun e => by have := (h.lt b e).1; omega
theorem Row.keptCur {w w' : World} {e b off c cb : Nat} {xs : List Value} (h : Row w e b off c xs) (hx : Ex [cb] w w') (hcb : b ≠ cb) : Row w' e b off c xs :=
  h.of_block (hx.block b h.lt (by simpa using hcb))
theorem Ex.setNewR {F : List Nat} {a b : World} (h : Ex F a b) {q i : Nat} (hp : a.heap.size ≤ q) {v : Value} : Ex F a (b.setCell ⟨q, i, none⟩ v) :=
  ⟨h.os, h.tape, h.output, by simpa [World.setCell] using h.size, fun k hk hr => (heap_setCell_other b ⟨q, i, none⟩ k v (by simp; omega)).trans (h.block k hk hr)⟩

set_option maxRecDepth 10000 in
set_option maxHeartbeats 4000000 in
theorem row_any (cb : Nat) (v : Value) (K : Nat) (w : World) (h : Cur w cb v K) (hcb : cb < w.heap.size) (hvb0 : ∀ b, v.ownBlock = some b → b < w.heap.size) (hK : K ≤ 10000000) :
    Calls Tryd.prog 103 #[.pointer (some ⟨cb, 0, none⟩)] w fun e w' => ∃ r L, e = .returned (.agg #[r]) ∧ Own w' 9 w.heap.size r (strs L) ∧ 1 ≤ L.length ∧ L.length ≤ 3 ∧ (∀ i, i < L.length → (gs L i).size ≤ 50) ∧ Cur w' cb v (K + 10) ∧ Ex [cb] w w' := by
  have hvb := Lib.hid hvb0
  clear hvb0
  have hB0 : Below w.heap.size w ((w.alloc (.cells #[.slice none 0 0] 40)).alloc (.cells #[.slice none 0 0] 40)) := ((Below.refl _ _).alloc (Nat.le_refl _) _).alloc (by simp) _
  have hr1 : Row ((w.alloc (.cells #[.slice none 0 0] 40)).alloc (.cells #[.slice none 0 0] 40)) 40 w.heap.size 0 1 [.slice none 0 0] := (Row.one1 w 40 (.slice none 0 0)).alloc _
  have hr2 : Row ((w.alloc (.cells #[.slice none 0 0] 40)).alloc (.cells #[.slice none 0 0] 40)) 40 (w.heap.size + 1) 0 1 [.slice none 0 0] := by
    have := Row.one1 (w.alloc (.cells #[.slice none 0 0] 40)) 40 (.slice none 0 0)
    simpa using this
  have hc0 := Lib.hid (h.ex (Ex.of_below (F := []) hB0) (by simp) (fun _ _ => by simp))
  have hx0 := Lib.hid (Ex.of_below (F := [cb]) hB0)
  replace hr1 := Lib.hid hr1
  replace hr2 := Lib.hid hr2
  clear h hB0
  go_enter Tryd.func103, Tryd.ntmps103
  go_wp2_with fail
  refine (pick_any _ _ K 3 _ hc0.out (by omega) (by omega)).mono ?_
  rintro e w1 ⟨⟨N, rfl, hN, _⟩, hc1, hx1⟩
  have hN3 := hN (by omega)
  have hX1 := Lib.hid (hx0.out.trans hx1)
  have hq1 := Lib.hid (hr1.out.keptCur hx1 (by omega))
  have hq2 := Lib.hid (hr2.out.keptCur hx1 (by omega))
  replace hc1 := Lib.hid hc1
  clear hN hx1 hr1 hr2 hc0 hx0
  go_wp2
  go_loopw [4] (fun iv wr => ∃ (m : Nat) (L : List ByteArray) (o : Value), iv = .int .i64 (m : Nat) ∧ m + L.length = N + 1 ∧ Row wr 40 w.heap.size 0 1 [.slice none 0 0] ∧ Row wr 40 (w.heap.size + 1) 0 1 [o] ∧ Own wr 9 (w.heap.size + 2) o (strs L) ∧ (∀ i, i < L.length → (gs L i).size ≤ 50) ∧ Cur wr cb v (K + 2 + 2 * L.length) ∧ Ex [cb] w wr) (fun iv _ => (intOf iv).toNat)
  case atStart => exact ⟨N + 1, [], .slice none 0 0, by go_num, by simp, hq1.out, hq2.out, Own.nil _ _ _, fun i hi => absurd hi (by simp), hc1.out.le (by simp), hX1.out⟩
  case round =>
    clear hq1 hq2 hc1 hX1
    obtain ⟨m, L, o, rfl, hm, hr1, hr2, hO, hS, hC, hX⟩ := hrel
    have hsz := hX.size
    have hsz2 := hr2.lt
    obtain ⟨oa, oc, rfl, _⟩ := hO.sl
    rw [strs_length] at hr2 hO
    obtain ⟨l, hl⟩ : ∃ l, L.length = l := ⟨_, rfl⟩
    have hvbr : ∀ b, v.ownBlock = some b → b < wr.heap.size := fun b hb => by have := hvb.out b hb; omega
    rw [hl] at hr2 hO hC hm
    have cc := hr2.cell1
    have ff := hr2.frozen 0
    by_cases hlt : 0 < m
    · obtain ⟨m, rfl⟩ : ∃ m', m = m' + 1 := ⟨m - 1, by omega⟩
      have hal := Lib.hid (of_lits cb v rowL _ 50 wr.drew (hC.drewN 1) (show cb < wr.heap.size by omega) hvbr (by omega) (by decide) (by decide) (by omega) rowL_small)
      have cc2 : (wr.alloc (.cells (strs rowL).toArray 9)).drew.cell? ⟨w.heap.size + 1, 0, none⟩ = some (.slice oa l oc) := ((Row.drew hr2).alloc _).cell1
      rw [show wr.drew.alloc (.cells (strs rowL).toArray 9) = (wr.alloc (.cells (strs rowL).toArray 9)).drew from rfl] at hal
      have hO1 := Lib.hid (show Own wr.drew _ _ _ _ from hO.drewN 1)
      have hX1 := Lib.hid (show Ex [cb] w wr.drew from hX.drewN 1)
      have hS1 := Lib.hid hS
      have hq1 := Lib.hid (Row.drew hr1)
      have hq2 := Lib.hid (Row.drew hr2)
      have hsl : (strs L).length = l := by rw [strs_length, hl]
      have hne := Lib.hid (hO.off (b := w.heap.size + 1) (by omega))
      have hne0 := Lib.hid (hO.off (b := w.heap.size) (by omega))
      clear hO hX hS hr1 hr2 hC
      go_wp2
      go_region_law (first
        | (go_simp; go_at_call 83; refine hal.out.mono ?_; rintro e w2 ⟨⟨s, rfl, hs⟩, hc2, hx2⟩; have hO2 := Lib.hid (hO1.out.keptCur hx2 (by omega)); have hX2 := Lib.hid (hX1.out.trans hx2); have hg1 := Lib.hid (hq1.out.keptCur hx2 (by omega)); have hg2 := Lib.hid (hq2.out.keptCur hx2 (by omega)); have cc3 := hg2.out.cell1; have cc4 := (hg2.out.alloc (.cells #[.string s] 9)).cell1; have hw2 := hX2.out.size; replace hc2 := Lib.hid hc2; clear hx2)
        | (refine step_append_all eltStrO rfl (.tmp 14) (.tmp 18) rfl (w.heap.size + 2) (.slice oa l oc) (strs L) (by simp [Act.eval, Act.put]) (hO2.out.alloc _) (.slice (some ⟨w2.heap.size, 0, none⟩) 1 1) [.string s] (by simp [Act.eval, Act.put]) RdV.new (by simp [Value.oneCell']) (by simp [hsl]; omega) (by simp; have := hg2.out.lt; omega) ?_; intro v5 w5 ho5 hg5; have hlen5 : (strs L ++ [Value.string s]).length = l + 1 := (by simp [hsl]); obtain ⟨na, nc, e5, _⟩ := ho5.sl; rw [hlen5] at e5; subst e5; have hr5 := (hg2.out.alloc (.cells #[.string s] 9)).grown hg5 (fun e => hne.out e.symm); have hr4 := Lib.hid ((hg1.out.alloc (.cells #[.string s] 9)).grown hg5 (fun e => hne0.out e.symm)); have cc5 := hr5.cell1; have ff5 := hr5.frozen 0; replace hr5 := Lib.hid hr5))
      all_goals
        have hXa : Ex [cb] w (w2.alloc (.cells #[.string s] 9)) := hX2.out.trans (Ex.of_below ((Below.refl _ _).alloc (Nat.le_refl _) _))
        have hca : Cur (w2.alloc (.cells #[.string s] 9)) cb v (K + 2 + 2 * l + 2) := hc2.out.ex (Ex.of_below (F := []) ((Below.refl _ _).alloc (Nat.le_refl _) _)) (by simp) (fun _ _ => by simp)
        have hX6 := Lib.hid ((hXa.grownOwn (hO2.out.alloc (.cells #[.string s] 9)) (by omega) hg5).setNewR (q := w.heap.size + 1) (i := 0) (v := .slice na (l + 1) nc) (by omega))
        have hc6 := Lib.hid ((hca.grownOwn (hO2.out.alloc (.cells #[.string s] 9)) hg5 (by omega) (fun b hb => by have := hvb.out b hb; omega)).setNew (b := w.heap.size + 1) (i := 0) (x := .slice na (l + 1) nc) (by omega) (fun q hq => by have := hvb.out q hq; omega))
        have hr6 := Lib.hid (hr4.out.setOther (a := ⟨w.heap.size + 1, 0, none⟩) (by simp) (.slice na (l + 1) nc))
        have hr7 := hr5.out.set (i := 0) (by simp) (.slice na (l + 1) nc)
        simp only [Nat.zero_add, List.set_cons_zero] at hr7
        rw [← strs_snoc] at ho5
        have ho6 := Lib.hid (ho5.setOther (b := w.heap.size + 1) (i := 0) (x := .slice na (l + 1) nc) (ho5.off (by omega)))
        have hS6 := Lib.hid (snoc_small hS1.out hs)
        replace hr7 := Lib.hid hr7
        clear ho5 hg5 hXa hca
        go_wp2
        go_roundw
        case rel => exact ⟨m, L ++ [s], _, by go_num, by simp; omega, hr6.out, hr7.out, ho6.out, hS6.out, hc6.out.le (by simp; omega), hX6.out⟩
        case measure => simp [intOf]
    · obtain rfl : m = 0 := by omega
      have c1 := hr1.cell1
      have f1 := hr1.frozen 0
      have hX6 := Lib.hid (hX.setNewR (q := w.heap.size) (i := 0) (v := .slice oa l oc) (Nat.le_refl _))
      have hc6 := Lib.hid (hC.setNew (b := w.heap.size) (i := 0) (x := .slice oa l oc) (by omega) (fun q hq => by have := hvb.out q hq; omega))
      have ho6 := Lib.hid ((hO.setOther (b := w.heap.size) (i := 0) (x := .slice oa l oc) (hO.off (by omega))).base (B' := w.heap.size) (by omega))
      have cR := (hr1.set (i := 0) (by simp) (.slice oa l oc)).cell1
      replace hS := Lib.hid hS
      clear hr1 hr2 hO hC hX
      go_wp2
      exact bodyPost_ret (v := .agg #[(.slice oa l oc)]) (by simp [results, Tryd.results103, go_sem, c1, f1]) rfl ⟨_, L, rfl, ho6.out, by omega, by omega, hS.out, hc6.out.le (by omega), hX6.out⟩
end Go.Proofs.YtoeonplbgbgjmaaDoor
