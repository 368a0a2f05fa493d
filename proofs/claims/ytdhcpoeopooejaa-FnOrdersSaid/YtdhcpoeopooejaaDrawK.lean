/- The draws: anyInts. -/
import Derived.Test.YtdhcpoeopooejaaDrawJ
namespace Go.Proofs.Ytdhcpoeopooejaa
open Go.RowKit
set_option linter.unusedVariables false
set_option linter.unusedSimpArgs false

/-- What a call owns stands while the cursor steps. -/
theorem Own.exc {w w' : World} {e B cb : Nat} {v : Value} {xs : List Value} (h : Own w e B v xs) (hx : Ex [cb] w w') (hcb : cb < B) : Own w' e B v xs := by
  refine h.kept (r := some cb) ⟨hx.os, hx.tape, hx.output, hx.size, fun k hk hr => hx.block k hk (by simp; rintro rfl; exact hr rfl)⟩ ?_
  cases hv : v.ownBlock with
  | none => exact .inl rfl
  | some k =>
    have := (h.lt k hv).1
    exact .inr (by simp; omega)
theorem Ex.appended {F : List Nat} {w0 w w' : World} {v : Value} {e : Nat} {xs : List Value} (h : Ex F w0 w) (ho : Own w e w0.heap.size v xs) (hg : w.grownBy w' v.ownBlock) : Ex F w0 w' :=
  ⟨hg.os.trans h.os, hg.tape.trans h.tape, hg.output.trans h.output, Nat.le_trans h.size hg.size, fun k hk hr => (hg.block k (Nat.lt_of_lt_of_le hk h.size) (by intro e; have := (ho.lt k e.symm).1; omega)).trans (h.block k hk hr)⟩
theorem Cur.appended {w w' : World} {cb K B : Nat} {v l : Value} {e : Nat} {xs : List Value} (h : Cur w cb v K) (ho : Own w e B l xs) (hg : w.grownBy w' l.ownBlock) (hcb : cb < B) (hvb : ∀ b, v.ownBlock = some b → b < B) : Cur w' cb v K := by
  cases hl : l.ownBlock with
  | none => exact h.ex (F := []) ⟨hg.os, hg.tape, hg.output, hg.size, fun k hk _ => hg.block k hk (by simp [hl])⟩ (by simp) (fun _ _ => by simp)
  | some b => exact h.grown hg hl hcb hvb (ho.lt b hl).1

set_option maxRecDepth 10000 in
set_option maxHeartbeats 4000000 in
theorem anyInts_any (cb : Nat) (v : Value) (K : Nat) (w : World) (h : Cur w cb v K) (hcb : cb < w.heap.size) (hvb : ∀ b, v.ownBlock = some b → b < w.heap.size) (hK : K ≤ 10000) :
    Calls Try.prog 114 #[.pointer (some ⟨cb, 0, none⟩)] w fun e w' => ∃ (r : Value) (L : List Int), e = .returned r ∧ Own w' 3 w.heap.size r (ints L) ∧ L.length ≤ 100 ∧ Cur w' cb v (K + 1000) ∧ Ex [cb] w w' := by
  have hc := Lib.hid h
  clear h
  replace hvb := Lib.hid hvb
  go_enter Try.func114, Try.ntmps114
  go_wp2_with fail
  refine (ints_any cb v K w hc.out hcb hvb.out (by omega)).mono ?_
  rintro e w1 ⟨r, L, rfl, hO, hL, hc1, hx1⟩
  obtain ⟨ao, c, rfl, _, _, _, _⟩ := hO.sl.openInts
  have hs1 := hx1.size
  replace hO := Lib.hid hO
  replace hc1 := Lib.hid hc1
  go_wp2_with fail
  refine (pick_any cb v _ 24 w1 hc1.out (by omega) (by omega)).mono ?_
  rintro e w3 ⟨⟨x, rfl, hx24, _⟩, hc3, hx4⟩
  have hs3 := hx4.size
  have hO3 := Lib.hid (hO.out.exc hx4 hcb)
  have hx5 := Lib.hid (hx1.trans hx4)
  replace hc3 := Lib.hid hc3
  clear hx4 hx1 hc1 hO hx24
  by_cases h0 : x = 0
  · subst h0
    have hB : Below w3.heap.size w3 (w3.alloc (.cells (ints [100001, -100001, 1099511627776]).toArray 3)) := (Below.refl _ _).alloc (Nat.le_refl _) _
    have hal := Lib.hid (among_any cb v _ [100001, -100001, 1099511627776] _ _ (hc3.out.ex (Ex.of_below (F := []) hB) (by simp) (fun _ _ => by simp)) (by omega) (Rd.lits w3 _ (by simp)) (by simp) (by simp) (by intro b9 h9; simp [Value.ownBlock] at h9; omega))
    have hx6 := Lib.hid (Ex.of_below (F := [cb]) hB)
    clear hB
    go_wp2_with fail
    refine hal.out.mono ?_
    rintro e w4 ⟨⟨i, hi, rfl⟩, hc4, hx7⟩
    have hx8 := Lib.hid (hx6.out.trans hx7)
    have hO4 := Lib.hid (hO3.out.exc hx8.out hcb)
    have hx9 := Lib.hid (hx5.out.trans hx8.out)
    have hs4 := hx9.out.size
    have hl4 : (ints L).length ≤ 1000000000 := by simp; omega
    generalize gi [100001, -100001, 1099511627776] i = y
    replace hc4 := Lib.hid hc4
    clear hx7 hx8 hal hi hx6 hx5 hO3
    go_wp2_with (at_builtin; refine append_one_at eltInt rfl _ _ rfl w.heap.size _ _ rfl hO4.out rfl rfl hl4 hs4 ?_; intro v5 w5 ho5 hg5 _)
    go_ret
    exact ⟨_, L ++ [y], rfl, by simpa [ints] using ho5, by simp; omega, (hc4.out.appended hO4.out hg5 hcb hvb.out).le (by omega), hx9.out.appended hO4.out hg5⟩
  · by_cases h1 : x = 1
    · subst h1
      go_wp2
      go_loopw [3] (fun o wr => ∃ (L : List Int) (ao : Option Addr) (c : Nat), L.length ≤ 65 ∧ o = .slice ao L.length c ∧ Own wr 3 w.heap.size o (ints L) ∧ Cur wr cb v (K + 300 + 4 * L.length) ∧ Ex [cb] w wr) (fun o _ => 200 - slN o)
      case atStart => exact ⟨L, ao, c, by omega, rfl, hO3.out, hc3.out.le (by omega), hx5.out⟩
      case round =>
        clear hO3 hc3 hx5 hL
        obtain ⟨L, ao, c, hL, rfl, hO, hC, hX⟩ := hrel
        replace hO := Lib.hid hO
        replace hC := Lib.hid hC
        replace hX := Lib.hid hX
        go_wp2_with fail
        refine (pick_any cb v _ 2 _ hC.out (by omega) (by omega)).mono ?_
        rintro e w4 ⟨⟨y, rfl, hy2, _⟩, hc4, hx4⟩
        have hy := hy2 (by omega)
        have hO4 := Lib.hid (hO.out.exc hx4 hcb)
        have hx5 := Lib.hid (hX.out.trans hx4)
        replace hc4 := Lib.hid hc4
        clear hx4 hO hC hX hy2
        by_cases hlt : (L.length : Int) < 64 + (y : Int)
        · go_wp2_with fail
          refine (pick_any cb v _ 5 _ hc4.out (by omega) (by omega)).mono ?_
          rintro e w5 ⟨⟨z, rfl, _, _⟩, hc5, hx6⟩
          have hO5 := Lib.hid (hO4.out.exc hx6 hcb)
          have hx7 := Lib.hid (hx5.out.trans hx6)
          have hs5 := hx7.out.size
          have hl5 : (ints L).length ≤ 1000000000 := by simp; omega
          replace hc5 := Lib.hid hc5
          clear hx6 hO4 hc4 hx5
          go_wp2_with (at_builtin; refine append_one_at eltInt rfl _ _ rfl w.heap.size _ _ rfl hO5.out rfl rfl hl5 hs5 ?_; intro v6 w6 ho6 hg6 _)
          have hc6 := hc5.out.appended hO5.out hg6 hcb hvb.out
          have hx8 := hx7.out.appended hO5.out hg6
          have ho7 : Own w6 3 w.heap.size v6 (ints (L ++ [(z : Int)])) := by simpa [ints] using ho6
          obtain ⟨ao7, c7, rfl, _, _, _, _⟩ := ho7.sl.openInts
          exact ⟨⟨L ++ [(z : Int)], ao7, c7, by simp; omega, rfl, ho7, hc6.le (by simp; omega), hx8⟩, by simp [slN]; omega⟩
        · go_wp2
          go_ret
          exact ⟨_, L, rfl, hO4.out, by omega, hc4.out.le (by omega), hx5.out⟩
    · have e0 : ((x : Int) == 0) = false := by simp; omega
      have e1 : ((x : Int) == 1) = false := by simp; omega
      go_wp2
      go_ret
      exact ⟨_, L, rfl, hO3.out, by omega, hc3.out.le (by omega), hx5.out⟩
end Go.Proofs.Ytdhcpoeopooejaa
