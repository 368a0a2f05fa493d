/- DrawParseSpecs. -/
import Derived.Test.YtoeonplbgbgjmaaDoorDrawY
namespace Go.Proofs.YtoeonplbgbgjmaaDoor
open Go.RowKit
set_option linter.unusedVariables false
set_option linter.unusedSimpArgs false

theorem fldsK.ok {L : List KS} (h : fldsK L) (h1 : 1 ≤ L.length) (h2 : L.length ≤ 4) : okK L = true := by
  unfold okK
  rw [all_good h]
  unfold inB
  simp
  omega
set_option maxRecDepth 10000 in
set_option maxHeartbeats 2000000 in
theorem DrawParseSpecs_law {d : Value} {w : World} (h : RdBy w d) (hd : ∀ b, d.ownBlock = some b → b < w.heap.size) :
    Calls Tryd.prog 53 #[d] w fun e w' => ∃ t : ByteArray, e = .returned (.string t) ∧ t.size ≤ 1002 ∧ Below w.heap.size w w' := by
  have hc := Lib.hid (Cur.start h hd)
  obtain ⟨ao, n, c, rfl, h1, h2, _⟩ := h
  have hvb : Hid (∀ b, (Value.slice ao n c).ownBlock = some b → b < (w.alloc (.cells #[.slice ao n c, .int .i64 0, .int .u64 0] 99)).heap.size) := Lib.hid (fun b hb => by have := hd b hb; simp; omega)
  have hcb : w.heap.size < (w.alloc (.cells #[.slice ao n c, .int .i64 0, .int .u64 0] 99)).heap.size := by simp
  have hfin := Lib.hid (fun (w' : World) hx => newCur (w := w) (o := .cells #[.slice ao n c, .int .i64 0, .int .u64 0] 99) (w' := w') hx)
  clear hd
  go_enter Tryd.func53, Tryd.ntmps53
  go_wp2_with fail
  refine (specs_any _ _ 0 _ hc.out hcb hvb.out (by omega)).mono ?_
  rintro e w1 ⟨r, L, rfl, hO, hL1, hL2, hF, hC, hx1⟩
  have hok := hF.ok hL1 (by omega)
  have hsz := tK_size hok L.length (Nat.le_refl _)
  have hlt := Lib.hid (l2Text_any r L w1 (hO.sl (by omega)).rd hok)
  obtain ⟨ao1, c1, rfl⟩ := hO.shape
  replace hx1 := Lib.hid hx1
  replace hC := Lib.hid hC
  clear hO hF hok
  go_wp2_with fail
  refine hlt.out.mono ?_
  rintro e w2 ⟨rfl, q, rfl⟩
  have hT : (tK L L.length).size ≤ 1000 := by omega
  generalize tK L L.length = T at *
  go_wp2_with fail
  refine (one_any _ _ _ 3 _ (hC.out.drewN q) (by omega) (by omega)).mono ?_
  rintro e w3 ⟨⟨p, rfl⟩, hc3, hx3⟩
  have hX3 := Lib.hid ((hx1.out.drewN q).trans hx3)
  replace hc3 := Lib.hid hc3
  clear hx3 hlt
  cases p
  · have hB := Lib.hid (hfin.out _ hX3.out)
    go_wp2
    go_ret
    exact ⟨T, rfl, by omega, hB.out⟩
  · go_wp2_with fail
    refine (spoilt_any _ _ _ T _ _ hc3.out (by omega) hT (by decide)).mono ?_
    rintro e w4 ⟨⟨t, rfl, ht⟩, _, hx4⟩
    have hB := Lib.hid (hfin.out _ (hX3.out.trans hx4))
    clear hx4
    go_wp2
    go_ret
    exact ⟨t, rfl, ht, hB.out⟩
end Go.Proofs.YtoeonplbgbgjmaaDoor
