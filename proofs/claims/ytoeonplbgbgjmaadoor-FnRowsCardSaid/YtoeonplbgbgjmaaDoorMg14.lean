/- Draws of key specs. Draws of key specs: anySpecs. -/
import Derived.Test.YtoeonplbgbgjmaaDoorDrawT
import Derived.Test.YtoeonplbgbgjmaaDoorDrawP
import Derived.Test.YtoeonplbgbgjmaaDoorKsO
import Derived.Test.YtoeonplbgbgjmaaDoorMg6
namespace Go.Proofs.YtoeonplbgbgjmaaDoor
open Go.RowKit
set_option linter.unusedVariables false
set_option linter.unusedSimpArgs false

theorem OwnK.keptCur {w w' : World} {B cb : Nat} {v : Value} {xs : List KS} (h : OwnK w B v xs) (hx : Ex [cb] w w') (hcb : cb < B) : OwnK w' B v xs := by
  refine World.ownsRow.kept (row := some cb) h ⟨hx.os, hx.tape, hx.output, hx.size, fun k hk hr => hx.block k hk (by simp; rintro rfl; exact hr rfl)⟩ ?_
  cases hv : v.ownBlock with
  | none => exact .inl rfl
  | some k =>
    have := (h.lt k hv).1
    exact .inr (by simp; omega)
theorem Ex.grownK {F : List Nat} {w0 w w' : World} {B : Nat} {v : Value} {xs : List KS} (h : Ex F w0 w) (ho : OwnK w B v xs) (hB : w0.heap.size ≤ B) (hg : w.grownBy w' v.ownBlock) : Ex F w0 w' :=
  ⟨hg.os.trans h.os, hg.tape.trans h.tape, hg.output.trans h.output, Nat.le_trans h.size hg.size, fun k hk hr => (hg.block k (Nat.lt_of_lt_of_le hk h.size) (by intro e; have := (ho.lt k e.symm).1; omega)).trans (h.block k hk hr)⟩
theorem Cur.grownK {w w' : World} {cb K B : Nat} {v s : Value} {xs : List KS} (h : Cur w cb v K) (ho : OwnK w B s xs) (hg : w.grownBy w' s.ownBlock) (hcb : cb < B) (hvb : ∀ b, v.ownBlock = some b → b < B) : Cur w' cb v K :=
  h.ex (Ex.of_grown hg) (by intro hm; have := (ho.lt cb (by simpa using hm)).1; omega) (fun b hb hm => by have := (ho.lt b (by simpa using hm)).1; have := hvb b hb; omega)
def fldsK (L : List KS) : Prop := ∀ j, j < L.length → fldB (gk L j) = true
theorem fldsK.snoc {L : List KS} {k : KS} (h : fldsK L) (hk : 0 ≤ k.1 ∧ k.1 ≤ 5) : fldsK (L ++ [k]) := by
  intro j hj
  simp only [List.length_append, List.length_singleton] at hj
  by_cases hjl : j < L.length
  · have := h j hjl
    rwa [show gk (L ++ [k]) j = gk L j by simp [gk, List.getD_eq_getElem?_getD, List.getElem?_append_left hjl]]
  · obtain rfl : j = L.length := by omega
    rw [show gk (L ++ [k]) L.length = k by simp [gk]]
    unfold fldB inB
    simp
    omega
set_option maxHeartbeats 4000000 in
theorem specs_any (cb : Nat) (v : Value) (K : Nat) (w : World) (h : Cur w cb v K) (hcb : cb < w.heap.size) (hvb0 : ∀ b, v.ownBlock = some b → b < w.heap.size) (hK : K ≤ 10000000) :
    Calls Tryd.prog 97 #[.pointer (some ⟨cb, 0, none⟩)] w fun e w' => ∃ r L, e = .returned r ∧ OwnK w' w.heap.size r L ∧ 1 ≤ L.length ∧ L.length ≤ 2 ∧ fldsK L ∧ Cur w' cb v (K + 18) ∧ Ex [cb] w w' := by
  have hvb := Lib.hid hvb0
  clear hvb0
  have hB0 : Below w.heap.size w (w.alloc (.cells #[] 71)) := (Below.refl _ _).alloc (Nat.le_refl _) _
  have ho0 := Lib.hid (OwnK.empty w)
  have hc0 := Lib.hid (h.ex (Ex.of_below (F := []) hB0) (by simp) (fun _ _ => by simp))
  have hx0 := Lib.hid (Ex.of_below (F := [cb]) hB0)
  clear h hB0
  go_enter Tryd.func97, Tryd.ntmps97
  go_wp2_with fail
  refine (pick_any _ _ K 2 _ hc0.out (by omega) (by omega)).mono ?_
  rintro e w1 ⟨⟨N, rfl, hN, _⟩, hc1, hx1⟩
  have hN2 := hN (by omega)
  have ho1 := Lib.hid (ho0.out.keptCur hx1 hcb)
  have hX1 := Lib.hid (hx0.out.trans hx1)
  replace hc1 := Lib.hid hc1
  clear hN hx1 ho0 hc0 hx0
  go_wp2
  go_loopw [3, 4] (fun o iv wr => ∃ (m : Nat) (L : List KS), iv = .int .i64 (m : Nat) ∧ m + L.length = N + 1 ∧ OwnK wr w.heap.size o L ∧ fldsK L ∧ Cur wr cb v (K + 2 + 8 * L.length) ∧ Ex [cb] w wr) (fun _ iv _ => (intOf iv).toNat)
  case atStart => exact ⟨N + 1, [], by simp; omega, rfl, ho1.out, fun j hj => absurd hj (by simp), hc1.out.le (by simp), hX1.out⟩
  case round =>
    clear ho1 hc1 hX1
    obtain ⟨m, L, rfl, hm, hO, hS, hC, hX⟩ := hrel
    by_cases hlt : 0 < m
    · replace hO := Lib.hid hO
      replace hX := Lib.hid hX
      replace hS := Lib.hid hS
      replace hC := Lib.hid hC
      go_wp2_with fail
      refine (pick_any _ _ _ 3 _ hC.out (by omega) (by omega)).mono ?_
      rintro e w2 ⟨⟨f, rfl, hf, _⟩, hc2, hx2⟩
      have hf3 := hf (by omega)
      clear hf
      replace hc2 := Lib.hid hc2
      go_wp2_with fail
      refine (one_any _ _ _ 2 _ hc2.out (by omega) (by omega)).mono ?_
      rintro e w3 ⟨⟨p1, rfl⟩, hc3, hx3⟩
      replace hc3 := Lib.hid hc3
      go_wp2_with fail
      refine (one_any _ _ _ 3 _ hc3.out (by omega) (by omega)).mono ?_
      rintro e w4 ⟨⟨p2, rfl⟩, hc4, hx4⟩
      replace hc4 := Lib.hid hc4
      go_wp2_with fail
      refine (one_any _ _ _ 3 _ hc4.out (by omega) (by omega)).mono ?_
      rintro e w5 ⟨⟨p3, rfl⟩, hc5, hx5⟩
      replace hc5 := Lib.hid hc5
      have hx25 := ((hx2.trans hx3).trans hx4).trans hx5
      have hO5 := Lib.hid (hO.out.keptCur hx25 hcb)
      have hX5 := Lib.hid (hX.out.trans hx25)
      have hs5 := hX5.out.size
      have hll : L.length ≤ 100000000 := by omega
      clear hx2 hx3 hx4 hx5 hx25 hO hX hC hc2 hc3 hc4
      go_wp2_with (at_builtin; refine append_kss1 rfl _ _ rfl w.heap.size _ _ rfl (hO5.out.alloc _) w5.heap.size ((f : Int), p1, p2, p3) rfl (by refine ⟨?_, ?_, ?_, ?_⟩ <;> simp [go_sem]) hll (by simp; omega) ?_)
      intro v6 w6 ho6 hg6
      have hXa : Ex [cb] w (w5.alloc (.cells #[.int .i64 (f : Int), .bool p1, .bool p2, .bool p3] 71)) := hX5.out.trans (Ex.of_below ((Below.refl _ _).alloc (Nat.le_refl _) _))
      have hca : Cur (w5.alloc (.cells #[.int .i64 (f : Int), .bool p1, .bool p2, .bool p3] 71)) cb v (K + 2 + 8 * L.length + 2 + 2 + 2 + 2) := hc5.out.ex (Ex.of_below (F := []) ((Below.refl _ _).alloc (Nat.le_refl _) _)) (by simp) (fun _ _ => by simp)
      have hX6 := Lib.hid (hXa.grownK (hO5.out.alloc _) (Nat.le_refl _) hg6)
      have hc6 := Lib.hid (hca.grownK (hO5.out.alloc _) hg6 hcb hvb.out)
      have hS6 := Lib.hid (hS.out.snoc (k := ((f : Int), p1, p2, p3)) ⟨by simp, by simp; omega⟩)
      replace ho6 := Lib.hid ho6
      obtain ⟨m, rfl⟩ : ∃ m', m = m' + 1 := ⟨m - 1, by omega⟩
      clear hg6 hXa hca
      go_wp2
      go_roundw
      case rel => exact ⟨m, _, by go_num, by simp; omega, ho6.out, hS6.out, hc6.out.le (by simp; omega), hX6.out⟩
      case measure => simp [intOf]
    · obtain rfl : m = 0 := by omega
      replace hO := Lib.hid hO
      replace hX := Lib.hid hX
      replace hS := Lib.hid hS
      replace hC := Lib.hid hC
      go_wp2
      go_ret
      exact ⟨_, L, rfl, hO.out, by omega, by omega, hS.out, hC.out.le (by omega), hX.out⟩
end Go.Proofs.YtoeonplbgbgjmaaDoor
namespace Go.Proofs.YtoeonplbgbgjmaaDoor
open Go.RowKit
set_option linter.unusedVariables false
set_option linter.unusedSimpArgs false
def lenV : Value → Nat
  | .slice _ n _ => n
  | _ => 0

theorem Ex.setNewX {F : List Nat} {a b : World} (h : Ex F a b) {p : Addr} (hp : a.heap.size ≤ p.block) {v : Value} : Ex F a (b.setCell p v) :=
  ⟨h.os, h.tape, h.output, by simpa [World.setCell] using h.size, fun k hk hr => (heap_setCell_other b p k v (by omega)).trans (h.block k hk hr)⟩
theorem SlK.set0 {w : World} {b off n c : Nat} {k : KS} {xs : List KS} (h : SlK w (.slice (some ⟨b, off, none⟩) n c) (k :: xs)) (x : Int) :
    SlK (w.setCell ⟨b, off, none⟩ (.int .i64 x)) (.slice (some ⟨b, off, none⟩) n c) ((x, k.2.1, k.2.2.1, k.2.2.2) :: xs) := by
  obtain ⟨ao, c', hv, hh⟩ := h
  simp at hv
  obtain ⟨rfl, rfl, rfl⟩ := hv
  rcases hh with ⟨h1, _⟩ | ⟨b', off', hb, hc, hr⟩
  · cases h1
  · simp at hb
    obtain ⟨rfl, rfl⟩ := hb
    have h1 := hr.set (i := 0) (by simp) (.int .i64 x)
    exact ⟨some ⟨b, off, none⟩, c, by simp, .inr ⟨b, off, rfl, by simpa using hc, by simpa [kss] using h1⟩⟩
set_option maxHeartbeats 4000000 in
theorem anySpecs_any (cb : Nat) (v : Value) (K : Nat) (w : World) (h : Cur w cb v K) (hcb : cb < w.heap.size) (hvb0 : ∀ b, v.ownBlock = some b → b < w.heap.size) (hK : K ≤ 10000000) :
    Calls Tryd.prog 96 #[.pointer (some ⟨cb, 0, none⟩)] w fun e w' => ∃ r L, e = .returned r ∧ SlK w' r L ∧ (∀ b, r.ownBlock = some b → w.heap.size ≤ b) ∧ L.length ≤ 5 ∧ Cur w' cb v (K + 100) ∧ Ex [cb] w w' := by
  have hvb := Lib.hid hvb0
  have hsp := Lib.hid (specs_any cb v K w h hcb hvb0 hK)
  clear hvb0 h
  go_enter Tryd.func96, Tryd.ntmps96
  go_wp2_with fail
  refine hsp.out.mono ?_
  rintro e w1 ⟨r, L, rfl, hO, hL1, hL2, _, hC, hX⟩
  obtain ⟨ao, c, rfl⟩ := hO.shape
  replace hO := Lib.hid hO
  replace hX := Lib.hid hX
  replace hC := Lib.hid hC
  go_wp2_with fail
  refine (pick_any _ _ _ 20 _ hC.out (by omega) (by omega)).mono ?_
  rintro e w2 ⟨⟨x, rfl, _, _⟩, hc2, hx2⟩
  have hO2 := Lib.hid (hO.out.keptCur hx2 hcb)
  have hX2 := Lib.hid (hX.out.trans hx2)
  replace hc2 := Lib.hid hc2
  clear hx2 hO hX hC
  by_cases h0 : x = 0
  · subst h0
    go_wp2
    go_ret
    exact ⟨.slice none 0 0, [], rfl, ⟨none, 0, rfl, .inl ⟨rfl, rfl, rfl⟩⟩, fun b hb => by simp [Value.ownBlock] at hb, by simp, hc2.out.le (by omega), hX2.out⟩
  · have g0 : ((x : Int) == 0) = false := by simp; omega
    by_cases h1 : x = 1
    · subst h1
      obtain ⟨k0, Lr, rfl⟩ : ∃ k0 Lr, L = k0 :: Lr := by
        cases L with
        | nil => simp at hL1
        | cons a b => exact ⟨a, b, rfl⟩
      have hLr5 : ∀ z : KS, (z :: Lr).length ≤ 5 := fun z => by simp at hL2 ⊢; omega
      have hB : Below w2.heap.size w2 (w2.alloc (.cells (ints [-1, 5, 6, 10]).toArray 3)) := (Below.refl _ _).alloc (Nat.le_refl _) _
      have hal := Lib.hid (among_any cb v _ [-1, 5, 6, 10] _ _ (hc2.out.ex (Ex.of_below (F := []) hB) (by simp) (fun _ _ => by simp)) (by omega) (Rd.lits w2 _ (by simp)) (by simp) (by simp) (by intro b9 h9; simp [Value.ownBlock] at h9; have := hX2.out.size; omega))
      have hxb := Ex.of_below (F := [cb]) hB
      have hOb := Lib.hid (hO2.out.alloc (.cells (ints [-1, 5, 6, 10]).toArray 3))
      have hXb := Lib.hid (hX2.out.trans hxb)
      clear hB hxb hO2 hX2 hc2
      go_wp2_with fail
      refine hal.out.mono ?_
      rintro e w4 ⟨⟨i9, hi9, rfl⟩, hc4, hxa⟩
      generalize gi [-1, 5, 6, 10] i9 = z at *
      have hO4 := hOb.out.keptCur hxa hcb
      have hX4 := Lib.hid (hXb.out.trans hxa)
      have hS4 := hO4.sl (by omega)
      have hlt4 := Lib.hid (fun b hb => hO4.lt b hb)
      obtain ⟨b, off, rfl, _, _⟩ := hS4.row (by simp)
      obtain ⟨⟨hk1, _, _, _⟩, hf⟩ := hS4.cells (i := 0) (by simp)
      simp only [Nat.zero_mul, Nat.add_zero] at hk1
      have hf0 := hf off
      have hb4 := (hlt4.out b (by simp [Value.ownBlock])).1
      replace hS4 := Lib.hid hS4
      replace hc4 := Lib.hid hc4
      clear hf hO4 hxa hal
      go_wp2
      go_ret
      refine ⟨_, _, rfl, hS4.out.set0 z, fun b' hb' => (hlt4.out b' hb').1, hLr5 _, ?_, Ex.setNewX hX4.out hb4⟩
      exact (hc4.out.ex (F := [b]) ((Ex.refl [b] w4).setIn (p := ⟨b, off, none⟩) (by simp)) (by simp; omega) (fun b9 h9 => by have := hvb.out b9 h9; simp; omega)).le (by omega)
    · have g1 : ((x : Int) == 1) = false := by simp; omega
      by_cases h2 : x = 2
      · subst h2
        go_wp2
        go_loopw [3] (fun o wr => ∃ (M : List KS), OwnK wr w.heap.size o M ∧ M.length ≤ 5 ∧ Cur wr cb v (K + 20 + 2 * M.length) ∧ Ex [cb] w wr) (fun o _ => 6 - (lenV o))
        case atStart => exact ⟨L, hO2.out, by omega, hc2.out.le (by omega), hX2.out⟩
        case round =>
          obtain ⟨M, hOm, hM, hCm, hXm⟩ := hrel
          obtain ⟨ao3, c3, hu3⟩ := hOm.shape
          subst hu3
          replace hOm := Lib.hid hOm
          replace hXm := Lib.hid hXm
          replace hCm := Lib.hid hCm
          go_wp2_with fail
          refine (pick_any _ _ _ 2 _ hCm.out (by omega) (by omega)).mono ?_
          rintro e w3 ⟨⟨y, rfl, hy, _⟩, hc3, hx3⟩
          have hy2 := hy (by omega)
          clear hy
          have hO3 := Lib.hid (hOm.out.keptCur hx3 hcb)
          have hX3 := Lib.hid (hXm.out.trans hx3)
          replace hc3 := Lib.hid hc3
          clear hx3 hOm hXm hCm
          have hs3 := hX3.out.size
          have hll : M.length ≤ 100000000 := by omega
          by_cases hlt : (M.length : Int) < 4 + (y : Int)
          · go_wp2_with (at_builtin; refine append_kss1 rfl _ _ rfl w.heap.size _ _ rfl (hO3.out.alloc _) w3.heap.size ((1 : Int), false, false, false) rfl (by refine ⟨?_, ?_, ?_, ?_⟩ <;> simp [go_sem]) hll (by simp; omega) ?_)
            intro v6 w6 ho6 hg6
            have hXa : Ex [cb] w (w3.alloc (.cells #[.int .i64 1, .bool false, .bool false, .bool false] 71)) := hX3.out.trans (Ex.of_below ((Below.refl _ _).alloc (Nat.le_refl _) _))
            have hca : Cur (w3.alloc (.cells #[.int .i64 1, .bool false, .bool false, .bool false] 71)) cb v (K + 20 + 2 * M.length + 2) := hc3.out.ex (Ex.of_below (F := []) ((Below.refl _ _).alloc (Nat.le_refl _) _)) (by simp) (fun _ _ => by simp)
            have hX6 := Lib.hid (hXa.grownK (hO3.out.alloc _) (Nat.le_refl _) hg6)
            have hc6 := Lib.hid (hca.grownK (hO3.out.alloc _) hg6 hcb hvb.out)
            replace ho6 := Lib.hid ho6
            have hsh := ho6.out.shape
            obtain ⟨ao6, c6, hu6⟩ := hsh
            subst hu6
            clear hg6 hXa hca
            go_wp2
            go_roundw
            case rel => exact ⟨_, ho6.out, by simp; omega, hc6.out.le (by simp; omega), hX6.out⟩
            case measure => simp [lenV]; omega
          · go_wp2
            go_ret
            exact ⟨_, M, rfl, hO3.out.sl (by omega), fun b hb => (hO3.out.lt b hb).1, by omega, hc3.out.le (by omega), hX3.out⟩
      · have g2 : ((x : Int) == 2) = false := by simp; omega
        go_wp2
        go_ret
        exact ⟨_, L, rfl, hO2.out.sl (by omega), fun b hb => (hO2.out.lt b hb).1, by omega, hc2.out.le (by omega), hX2.out⟩
set_option maxRecDepth 10000 in
set_option maxHeartbeats 1000000 in
theorem DrawFormatSpecs_law {d : Value} {w : World} (h : RdBy w d) (hd : ∀ b, d.ownBlock = some b → b < w.heap.size) :
    Calls Tryd.prog 52 #[d] w fun e w' => ∃ r L F, e = .returned r ∧ RKeySpecS w' r L F ∧ Fr w.heap.size F ∧ L.length ≤ 5 ∧ Below w.heap.size w w' := by
  have hc := Lib.hid (Cur.start h hd)
  obtain ⟨ao, n, c, rfl, h1, h2, _⟩ := h
  have hvb : Hid (∀ b, (Value.slice ao n c).ownBlock = some b → b < (w.alloc (.cells #[.slice ao n c, .int .i64 0, .int .u64 0] 99)).heap.size) := Lib.hid (fun b hb => by have := hd b hb; simp; omega)
  have hcb : w.heap.size < (w.alloc (.cells #[.slice ao n c, .int .i64 0, .int .u64 0] 99)).heap.size := by simp
  have hfin := Lib.hid (fun (w' : World) hx => newCur (w := w) (o := .cells #[.slice ao n c, .int .i64 0, .int .u64 0] 99) (w' := w') hx)
  clear hd
  go_enter Tryd.func52, Tryd.ntmps52
  go_wp2_with fail
  refine (anySpecs_any _ _ 0 _ hc.out hcb hvb.out (by omega)).mono ?_
  rintro e w1 ⟨r, L, rfl, hS, hF, hL, _, hx1⟩
  have hB := Lib.hid (hfin.out _ hx1)
  replace hS := Lib.hid hS
  have hF2 : Hid (Fr w.heap.size r.ownBlock.toList) := Lib.hid (fun b hb => by have := hF b (by simpa using hb); simp at this; omega)
  clear hx1 hF
  obtain ⟨ao1, c1, rfl, _, _⟩ := hS.out.shape
  go_wp2
  go_ret
  exact ⟨_, L, _, rfl, ⟨hS.out, rfl⟩, hF2.out, hL, hB.out⟩
end Go.Proofs.YtoeonplbgbgjmaaDoor
