/- Draws of key specs: anySpecs. -/
import Derived.Test.YtoeonplbgbgjmaaDoorDrawW
import Derived.Test.YtoeonplbgbgjmaaDoorKsK
namespace Go.Proofs.YtoeonplbgbgjmaaDoor
open Go.RowKit
set_option linter.unusedVariables false
set_option linter.unusedSimpArgs false
def lenV : Value → Nat
  | .slice _ n _ => n
  | _ => 0

theorem Ex.setNewX {F : List Nat} {a b : World} (h : Ex F a b) {p : Addr} (hp : a.heap.size ≤ p.block) {v : Value} : Ex F a (b.setCell p v) :=
  ⟨h.os, h.tape, h.output, by simpa [World.setCell] using h.size, fun k hk hr => (heap_setCell_other b p k v (by omega)).trans (h.block k hk hr)⟩
theorem SlK.set0 {w : World} {b off n c : Nat} {k : KS} {xs : List KS} (h : SlK w (.slice (some ⟨b, off, none⟩) n c) (k :: xs)) (x : Int) :
    SlK (w.setCell ⟨b, off, none⟩ (.int .i64 x)) (.slice (some ⟨b, off, none⟩) n c) ((x, k.2.1, k.2.2.1, k.2.2.2) :: xs) := by
  obtain ⟨ao, c', hv, hh⟩ := h
  simp at hv
  obtain ⟨rfl, rfl, rfl⟩ := hv
  rcases hh with ⟨h1, _⟩ | ⟨b', off', hb, hc, hr⟩
  · cases h1
  · simp at hb
    obtain ⟨rfl, rfl⟩ := hb
    have h1 := hr.set (i := 0) (by simp) (.int .i64 x)
    exact ⟨some ⟨b, off, none⟩, c, by simp, .inr ⟨b, off, rfl, by simpa using hc, by simpa [kss] using h1⟩⟩
set_option maxHeartbeats 4000000 in
theorem anySpecs_any (cb : Nat) (v : Value) (K : Nat) (w : World) (h : Cur w cb v K) (hcb : cb < w.heap.size) (hvb0 : ∀ b, v.ownBlock = some b → b < w.heap.size) (hK : K ≤ 10000000) :
    Calls Tryd.prog 96 #[.pointer (some ⟨cb, 0, none⟩)] w fun e w' => ∃ r L, e = .returned r ∧ SlK w' r L ∧ (∀ b, r.ownBlock = some b → w.heap.size ≤ b) ∧ L.length ≤ 5 ∧ Cur w' cb v (K + 100) ∧ Ex [cb] w w' := by
  have hvb := Lib.hid hvb0
  have hsp := Lib.hid (specs_any cb v K w h hcb hvb0 hK)
  clear hvb0 h
  go_enter Tryd.func96, Tryd.ntmps96
  go_wp2_with fail
  refine hsp.out.mono ?_
  rintro e w1 ⟨r, L, rfl, hO, hL1, hL2, _, hC, hX⟩
  obtain ⟨ao, c, rfl⟩ := hO.shape
  replace hO := Lib.hid hO
  replace hX := Lib.hid hX
  replace hC := Lib.hid hC
  go_wp2_with fail
  refine (pick_any _ _ _ 20 _ hC.out (by omega) (by omega)).mono ?_
  rintro e w2 ⟨⟨x, rfl, _, _⟩, hc2, hx2⟩
  have hO2 := Lib.hid (hO.out.keptCur hx2 hcb)
  have hX2 := Lib.hid (hX.out.trans hx2)
  replace hc2 := Lib.hid hc2
  clear hx2 hO hX hC
  by_cases h0 : x = 0
  · subst h0
    go_wp2
    go_ret
    exact ⟨.slice none 0 0, [], rfl, ⟨none, 0, rfl, .inl ⟨rfl, rfl, rfl⟩⟩, fun b hb => by simp [Value.ownBlock] at hb, by simp, hc2.out.le (by omega), hX2.out⟩
  · have g0 : ((x : Int) == 0) = false := by simp; omega
    by_cases h1 : x = 1
    · subst h1
      obtain ⟨k0, Lr, rfl⟩ : ∃ k0 Lr, L = k0 :: Lr := by
        cases L with
        | nil => simp at hL1
        | cons a b => exact ⟨a, b, rfl⟩
      have hLr5 : ∀ z : KS, (z :: Lr).length ≤ 5 := fun z => by simp at hL2 ⊢; omega
      have hB : Below w2.heap.size w2 (w2.alloc (.cells (ints [-1, 5, 6, 10]).toArray 3)) := (Below.refl _ _).alloc (Nat.le_refl _) _
      have hal := Lib.hid (among_any cb v _ [-1, 5, 6, 10] _ _ (hc2.out.ex (Ex.of_below (F := []) hB) (by simp) (fun _ _ => by simp)) (by omega) (Rd.lits w2 _ (by simp)) (by simp) (by simp) (by intro b9 h9; simp [Value.ownBlock] at h9; have := hX2.out.size; omega))
      have hxb := Ex.of_below (F := [cb]) hB
      have hOb := Lib.hid (hO2.out.alloc (.cells (ints [-1, 5, 6, 10]).toArray 3))
      have hXb := Lib.hid (hX2.out.trans hxb)
      clear hB hxb hO2 hX2 hc2
      go_wp2_with fail
      refine hal.out.mono ?_
      rintro e w4 ⟨⟨i9, hi9, rfl⟩, hc4, hxa⟩
      generalize gi [-1, 5, 6, 10] i9 = z at *
      have hO4 := hOb.out.keptCur hxa hcb
      have hX4 := Lib.hid (hXb.out.trans hxa)
      have hS4 := hO4.sl (by omega)
      have hlt4 := Lib.hid (fun b hb => hO4.lt b hb)
      obtain ⟨b, off, rfl, _, _⟩ := hS4.row (by simp)
      obtain ⟨⟨hk1, _, _, _⟩, hf⟩ := hS4.cells (i := 0) (by simp)
      simp only [Nat.zero_mul, Nat.add_zero] at hk1
      have hf0 := hf off
      have hb4 := (hlt4.out b (by simp [Value.ownBlock])).1
      replace hS4 := Lib.hid hS4
      replace hc4 := Lib.hid hc4
      clear hf hO4 hxa hal
      go_wp2
      go_ret
      refine ⟨_, _, rfl, hS4.out.set0 z, fun b' hb' => (hlt4.out b' hb').1, hLr5 _, ?_, Ex.setNewX hX4.out hb4⟩
      exact (hc4.out.ex (F := [b]) ((Ex.refl [b] w4).setIn (p := ⟨b, off, none⟩) (by simp)) (by simp; omega) (fun b9 h9 => by have := hvb.out b9 h9; simp; omega)).le (by omega)
    · have g1 : ((x : Int) == 1) = false := by simp; omega
      by_cases h2 : x = 2
      · subst h2
        go_wp2
        go_loopw [3] (fun o wr => ∃ (M : List KS), OwnK wr w.heap.size o M ∧ M.length ≤ 5 ∧ Cur wr cb v (K + 20 + 2 * M.length) ∧ Ex [cb] w wr) (fun o _ => 6 - (lenV o))
        case atStart => exact ⟨L, hO2.out, by omega, hc2.out.le (by omega), hX2.out⟩
        case round =>
          obtain ⟨M, hOm, hM, hCm, hXm⟩ := hrel
          obtain ⟨ao3, c3, hu3⟩ := hOm.shape
          subst hu3
          replace hOm := Lib.hid hOm
          replace hXm := Lib.hid hXm
          replace hCm := Lib.hid hCm
          go_wp2_with fail
          refine (pick_any _ _ _ 2 _ hCm.out (by omega) (by omega)).mono ?_
          rintro e w3 ⟨⟨y, rfl, hy, _⟩, hc3, hx3⟩
          have hy2 := hy (by omega)
          clear hy
          have hO3 := Lib.hid (hOm.out.keptCur hx3 hcb)
          have hX3 := Lib.hid (hXm.out.trans hx3)
          replace hc3 := Lib.hid hc3
          clear hx3 hOm hXm hCm
          have hs3 := hX3.out.size
          have hll : M.length ≤ 100000000 := by omega
          by_cases hlt : (M.length : Int) < 4 + (y : Int)
          · go_wp2_with (at_builtin; refine append_kss1 rfl _ _ rfl w.heap.size _ _ rfl (hO3.out.alloc _) w3.heap.size ((1 : Int), false, false, false) rfl (by refine ⟨?_, ?_, ?_, ?_⟩ <;> simp [go_sem]) hll (by simp; omega) ?_)
            intro v6 w6 ho6 hg6
            have hXa : Ex [cb] w (w3.alloc (.cells #[.int .i64 1, .bool false, .bool false, .bool false] 71)) := hX3.out.trans (Ex.of_below ((Below.refl _ _).alloc (Nat.le_refl _) _))
            have hca : Cur (w3.alloc (.cells #[.int .i64 1, .bool false, .bool false, .bool false] 71)) cb v (K + 20 + 2 * M.length + 2) := hc3.out.ex (Ex.of_below (F := []) ((Below.refl _ _).alloc (Nat.le_refl _) _)) (by simp) (fun _ _ => by simp)
            have hX6 := Lib.hid (hXa.grownK (hO3.out.alloc _) (Nat.le_refl _) hg6)
            have hc6 := Lib.hid (hca.grownK (hO3.out.alloc _) hg6 hcb hvb.out)
            replace ho6 := Lib.hid ho6
            have hsh := ho6.out.shape
            obtain ⟨ao6, c6, hu6⟩ := hsh
            subst hu6
            clear hg6 hXa hca
            go_wp2
            go_roundw
            case rel => exact ⟨_, ho6.out, by simp; omega, hc6.out.le (by simp; omega), hX6.out⟩
            case measure => simp [lenV]; omega
          · go_wp2
            go_ret
            exact ⟨_, M, rfl, hO3.out.sl (by omega), fun b hb => (hO3.out.lt b hb).1, by omega, hc3.out.le (by omega), hX3.out⟩
      · have g2 : ((x : Int) == 2) = false := by simp; omega
        go_wp2
        go_ret
        exact ⟨_, L, rfl, hO2.out.sl (by omega), fun b hb => (hO2.out.lt b hb).1, by omega, hc2.out.le (by omega), hX2.out⟩
set_option maxRecDepth 10000 in
set_option maxHeartbeats 1000000 in
theorem DrawFormatSpecs_law {d : Value} {w : World} (h : RdBy w d) (hd : ∀ b, d.ownBlock = some b → b < w.heap.size) :
    Calls Tryd.prog 52 #[d] w fun e w' => ∃ r L F, e = .returned r ∧ RKeySpecS w' r L F ∧ Fr w.heap.size F ∧ L.length ≤ 5 ∧ Below w.heap.size w w' := by
  have hc := Lib.hid (Cur.start h hd)
  obtain ⟨ao, n, c, rfl, h1, h2, _⟩ := h
  have hvb : Hid (∀ b, (Value.slice ao n c).ownBlock = some b → b < (w.alloc (.cells #[.slice ao n c, .int .i64 0, .int .u64 0] 99)).heap.size) := Lib.hid (fun b hb => by have := hd b hb; simp; omega)
  have hcb : w.heap.size < (w.alloc (.cells #[.slice ao n c, .int .i64 0, .int .u64 0] 99)).heap.size := by simp
  have hfin := Lib.hid (fun (w' : World) hx => newCur (w := w) (o := .cells #[.slice ao n c, .int .i64 0, .int .u64 0] 99) (w' := w') hx)
  clear hd
  go_enter Tryd.func52, Tryd.ntmps52
  go_wp2_with fail
  refine (anySpecs_any _ _ 0 _ hc.out hcb hvb.out (by omega)).mono ?_
  rintro e w1 ⟨r, L, rfl, hS, hF, hL, _, hx1⟩
  have hB := Lib.hid (hfin.out _ hx1)
  replace hS := Lib.hid hS
  have hF2 : Hid (Fr w.heap.size r.ownBlock.toList) := Lib.hid (fun b hb => by have := hF b (by simpa using hb); simp at this; omega)
  clear hx1 hF
  obtain ⟨ao1, c1, rfl, _, _⟩ := hS.out.shape
  go_wp2
  go_ret
  exact ⟨_, L, _, rfl, ⟨hS.out, rfl⟩, hF2.out, hL, hB.out⟩
end Go.Proofs.YtoeonplbgbgjmaaDoor
