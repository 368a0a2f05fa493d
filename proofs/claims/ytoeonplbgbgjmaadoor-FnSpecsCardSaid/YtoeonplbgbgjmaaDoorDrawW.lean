/- Draws of key specs. -/
import Derived.Test.YtoeonplbgbgjmaaDoorDrawT
import Derived.Test.YtoeonplbgbgjmaaDoorDrawP
import Derived.Test.YtoeonplbgbgjmaaDoorKsO
import Derived.Test.YtoeonplbgbgjmaaDoorVKs
namespace Go.Proofs.YtoeonplbgbgjmaaDoor
open Go.RowKit
set_option linter.unusedVariables false
set_option linter.unusedSimpArgs false

theorem OwnK.keptCur {w w' : World} {B cb : Nat} {v : Value} {xs : List KS} (h : OwnK w B v xs) (hx : Ex [cb] w w') (hcb : cb < B) : OwnK w' B v xs := by
  refine World.ownsRow.kept (row := some cb) h ⟨hx.os, hx.tape, hx.output, hx.size, fun k hk hr => hx.block k hk (by simp; rintro rfl; exact hr rfl)⟩ ?_
  cases hv : v.ownBlock with
  | none => exact .inl rfl
  | some k =>
    have := (h.lt k hv).1
    exact .inr (by simp; omega)
theorem Ex.grownK {F : List Nat} {w0 w w' : World} {B : Nat} {v : Value} {xs : List KS} (h : Ex F w0 w) (ho : OwnK w B v xs) (hB : w0.heap.size ≤ B) (hg : w.grownBy w' v.ownBlock) : Ex F w0 w' :=
  ⟨hg.os.trans h.os, hg.tape.trans h.tape, hg.output.trans h.output, Nat.le_trans h.size hg.size, fun k hk hr => (hg.block k (Nat.lt_of_lt_of_le hk h.size) (by intro e; have := (ho.lt k e.symm).1; omega)).trans (h.block k hk hr)⟩
theorem Cur.grownK {w w' : World} {cb K B : Nat} {v s : Value} {xs : List KS} (h : Cur w cb v K) (ho : OwnK w B s xs) (hg : w.grownBy w' s.ownBlock) (hcb : cb < B) (hvb : ∀ b, v.ownBlock = some b → b < B) : Cur w' cb v K :=
  h.ex (Ex.of_grown hg) (by intro hm; have := (ho.lt cb (by simpa using hm)).1; omega) (fun b hb hm => by have := (ho.lt b (by simpa using hm)).1; have := hvb b hb; omega)
def fldsK (L : List KS) : Prop := ∀ j, j < L.length → fldB (gk L j) = true
theorem fldsK.snoc {L : List KS} {k : KS} (h : fldsK L) (hk : 0 ≤ k.1 ∧ k.1 ≤ 5) : fldsK (L ++ [k]) := by
  intro j hj
  simp only [List.length_append, List.length_singleton] at hj
  by_cases hjl : j < L.length
  · have := h j hjl
    rwa [show gk (L ++ [k]) j = gk L j by simp [gk, List.getD_eq_getElem?_getD, List.getElem?_append_left hjl]]
  · obtain rfl : j = L.length := by omega
    rw [show gk (L ++ [k]) L.length = k by simp [gk]]
    unfold fldB inB
    simp
    omega
set_option maxHeartbeats 4000000 in
theorem specs_any (cb : Nat) (v : Value) (K : Nat) (w : World) (h : Cur w cb v K) (hcb : cb < w.heap.size) (hvb0 : ∀ b, v.ownBlock = some b → b < w.heap.size) (hK : K ≤ 10000000) :
    Calls Tryd.prog 97 #[.pointer (some ⟨cb, 0, none⟩)] w fun e w' => ∃ r L, e = .returned r ∧ OwnK w' w.heap.size r L ∧ 1 ≤ L.length ∧ L.length ≤ 2 ∧ fldsK L ∧ Cur w' cb v (K + 18) ∧ Ex [cb] w w' := by
  have hvb := Lib.hid hvb0
  clear hvb0
  have hB0 : Below w.heap.size w (w.alloc (.cells #[] 71)) := (Below.refl _ _).alloc (Nat.le_refl _) _
  have ho0 := Lib.hid (OwnK.empty w)
  have hc0 := Lib.hid (h.ex (Ex.of_below (F := []) hB0) (by simp) (fun _ _ => by simp))
  have hx0 := Lib.hid (Ex.of_below (F := [cb]) hB0)
  clear h hB0
  go_enter Tryd.func97, Tryd.ntmps97
  go_wp2_with fail
  refine (pick_any _ _ K 2 _ hc0.out (by omega) (by omega)).mono ?_
  rintro e w1 ⟨⟨N, rfl, hN, _⟩, hc1, hx1⟩
  have hN2 := hN (by omega)
  have ho1 := Lib.hid (ho0.out.keptCur hx1 hcb)
  have hX1 := Lib.hid (hx0.out.trans hx1)
  replace hc1 := Lib.hid hc1
  clear hN hx1 ho0 hc0 hx0
  go_wp2
  go_loopw [3, 4] (fun o iv wr => ∃ (m : Nat) (L : List KS), iv = .int .i64 (m : Nat) ∧ m + L.length = N + 1 ∧ OwnK wr w.heap.size o L ∧ fldsK L ∧ Cur wr cb v (K + 2 + 8 * L.length) ∧ Ex [cb] w wr) (fun _ iv _ => (intOf iv).toNat)
  case atStart => exact ⟨N + 1, [], by simp; omega, rfl, ho1.out, fun j hj => absurd hj (by simp), hc1.out.le (by simp), hX1.out⟩
  case round =>
    clear ho1 hc1 hX1
    obtain ⟨m, L, rfl, hm, hO, hS, hC, hX⟩ := hrel
    by_cases hlt : 0 < m
    · replace hO := Lib.hid hO
      replace hX := Lib.hid hX
      replace hS := Lib.hid hS
      replace hC := Lib.hid hC
      go_wp2_with fail
      refine (pick_any _ _ _ 3 _ hC.out (by omega) (by omega)).mono ?_
      rintro e w2 ⟨⟨f, rfl, hf, _⟩, hc2, hx2⟩
      have hf3 := hf (by omega)
      clear hf
      replace hc2 := Lib.hid hc2
      go_wp2_with fail
      refine (one_any _ _ _ 2 _ hc2.out (by omega) (by omega)).mono ?_
      rintro e w3 ⟨⟨p1, rfl⟩, hc3, hx3⟩
      replace hc3 := Lib.hid hc3
      go_wp2_with fail
      refine (one_any _ _ _ 3 _ hc3.out (by omega) (by omega)).mono ?_
      rintro e w4 ⟨⟨p2, rfl⟩, hc4, hx4⟩
      replace hc4 := Lib.hid hc4
      go_wp2_with fail
      refine (one_any _ _ _ 3 _ hc4.out (by omega) (by omega)).mono ?_
      rintro e w5 ⟨⟨p3, rfl⟩, hc5, hx5⟩
      replace hc5 := Lib.hid hc5
      have hx25 := ((hx2.trans hx3).trans hx4).trans hx5
      have hO5 := Lib.hid (hO.out.keptCur hx25 hcb)
      have hX5 := Lib.hid (hX.out.trans hx25)
      have hs5 := hX5.out.size
      have hll : L.length ≤ 100000000 := by omega
      clear hx2 hx3 hx4 hx5 hx25 hO hX hC hc2 hc3 hc4
      go_wp2_with (at_builtin; refine append_kss1 rfl _ _ rfl w.heap.size _ _ rfl (hO5.out.alloc _) w5.heap.size ((f : Int), p1, p2, p3) rfl (by refine ⟨?_, ?_, ?_, ?_⟩ <;> simp [go_sem]) hll (by simp; omega) ?_)
      intro v6 w6 ho6 hg6
      have hXa : Ex [cb] w (w5.alloc (.cells #[.int .i64 (f : Int), .bool p1, .bool p2, .bool p3] 71)) := hX5.out.trans (Ex.of_below ((Below.refl _ _).alloc (Nat.le_refl _) _))
      have hca : Cur (w5.alloc (.cells #[.int .i64 (f : Int), .bool p1, .bool p2, .bool p3] 71)) cb v (K + 2 + 8 * L.length + 2 + 2 + 2 + 2) := hc5.out.ex (Ex.of_below (F := []) ((Below.refl _ _).alloc (Nat.le_refl _) _)) (by simp) (fun _ _ => by simp)
      have hX6 := Lib.hid (hXa.grownK (hO5.out.alloc _) (Nat.le_refl _) hg6)
      have hc6 := Lib.hid (hca.grownK (hO5.out.alloc _) hg6 hcb hvb.out)
      have hS6 := Lib.hid (hS.out.snoc (k := ((f : Int), p1, p2, p3)) ⟨by simp, by simp; omega⟩)
      replace ho6 := Lib.hid ho6
      obtain ⟨m, rfl⟩ : ∃ m', m = m' + 1 := ⟨m - 1, by omega⟩
      clear hg6 hXa hca
      go_wp2
      go_roundw
      case rel => exact ⟨m, _, by go_num, by simp; omega, ho6.out, hS6.out, hc6.out.le (by simp; omega), hX6.out⟩
      case measure => simp [intOf]
    · obtain rfl : m = 0 := by omega
      replace hO := Lib.hid hO
      replace hX := Lib.hid hX
      replace hS := Lib.hid hS
      replace hC := Lib.hid hC
      go_wp2
      go_ret
      exact ⟨_, L, rfl, hO.out, by omega, by omega, hS.out, hC.out.le (by omega), hX.out⟩
end Go.Proofs.YtoeonplbgbgjmaaDoor
