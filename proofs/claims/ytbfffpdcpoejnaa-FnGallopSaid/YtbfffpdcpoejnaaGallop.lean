/- GallopSearch. -/
import Derived.Test.YtbfffpdcpoejnaaSorted
import Derived.Test.YtbfffpdcpoejnaaIntSS
import Derived.Deep.LoopGhost
import Derived.Deep.CutRange
import Derived.BigRegion
import Derived.RegionTactic
namespace Go.Proofs.Ytbfffpdcpoejnaa
open Go.RowKit
set_option linter.unusedVariables false
set_option linter.unusedSimpArgs false

def gUp (l : List Int) (x : Int) (h : Nat) : Nat → Nat → Nat → Nat → Nat × Nat × Nat
  | 0, _, lo, c => (lo, l.length, c)
  | m + 1, s, lo, c => if h + s < l.length then (if gi l (h + s) < x then gUp l x h m (2 * s + 1) (h + s + 1) (c + 1) else (lo, h + s, c + 1)) else (lo, l.length, c)
def gDn (l : List Int) (x : Int) (h : Nat) : Nat → Nat → Nat → Nat → Nat × Nat × Nat
  | 0, _, hi, c => (0, hi, c)
  | m + 1, s, hi, c => if s ≤ h then (if gi l (h - s) < x then (h - s + 1, hi, c + 1) else gDn l x h m (2 * s + 1) (h - s) (c + 1)) else (0, hi, c)
def gBin (l : List Int) (x : Int) : Nat → Nat → Nat → Nat → Nat × Nat
  | 0, lo, _, c => (lo, c)
  | m + 1, lo, hi, c => if lo < hi then (if gi l ((lo + hi) / 2) < x then gBin l x m ((lo + hi) / 2 + 1) hi (c + 1) else gBin l x m lo ((lo + hi) / 2) (c + 1)) else (lo, c)
theorem gUp_stop {l : List Int} {x : Int} {h m s lo c : Nat} (hs : ¬ h + s < l.length) : gUp l x h m s lo c = (lo, l.length, c) := by
  cases m with
  | zero => rfl
  | succ m => rw [gUp, if_neg hs]
theorem gUp_lt {l : List Int} {x : Int} {h m s lo c : Nat} (hs : h + s < l.length) (hx : gi l (h + s) < x) : gUp l x h (m + 1) s lo c = gUp l x h m (2 * s + 1) (h + s + 1) (c + 1) := by rw [gUp, if_pos hs, if_pos hx]
theorem gUp_ge {l : List Int} {x : Int} {h m s lo c : Nat} (hs : h + s < l.length) (hx : ¬ gi l (h + s) < x) : gUp l x h (m + 1) s lo c = (lo, h + s, c + 1) := by rw [gUp, if_pos hs, if_neg hx]
theorem gDn_stop {l : List Int} {x : Int} {h m s hi c : Nat} (hs : ¬ s ≤ h) : gDn l x h m s hi c = (0, hi, c) := by
  cases m with
  | zero => rfl
  | succ m => rw [gDn, if_neg hs]
theorem gDn_lt {l : List Int} {x : Int} {h m s hi c : Nat} (hs : s ≤ h) (hx : gi l (h - s) < x) : gDn l x h (m + 1) s hi c = (h - s + 1, hi, c + 1) := by rw [gDn, if_pos hs, if_pos hx]
theorem gDn_ge {l : List Int} {x : Int} {h m s hi c : Nat} (hs : s ≤ h) (hx : ¬ gi l (h - s) < x) : gDn l x h (m + 1) s hi c = gDn l x h m (2 * s + 1) (h - s) (c + 1) := by rw [gDn, if_pos hs, if_neg hx]
theorem gBin_stop {l : List Int} {x : Int} {m lo hi c : Nat} (h : ¬ lo < hi) : gBin l x m lo hi c = (lo, c) := by
  cases m with
  | zero => rfl
  | succ m => rw [gBin, if_neg h]
theorem gBin_lt {l : List Int} {x : Int} {m lo hi c : Nat} (h : lo < hi) (hx : gi l ((lo + hi) / 2) < x) : gBin l x (m + 1) lo hi c = gBin l x m ((lo + hi) / 2 + 1) hi (c + 1) := by rw [gBin, if_pos h, if_pos hx]
theorem gBin_ge {l : List Int} {x : Int} {m lo hi c : Nat} (h : lo < hi) (hx : ¬ gi l ((lo + hi) / 2) < x) : gBin l x (m + 1) lo hi c = gBin l x m lo ((lo + hi) / 2) (c + 1) := by rw [gBin, if_pos h, if_neg hx]
/-- Bounds behind the first comparison. -/
def gSt (l : List Int) (x : Int) (h : Nat) : Nat × Nat × Nat := if gi l h < x then gUp l x h (l.length + 1) 1 (h + 1) 1 else gDn l x h (l.length + 1) 1 h 1
def galF (l : List Int) (x : Int) (h : Nat) : Nat × Nat := gBin l x l.length (gSt l x h).1 (gSt l x h).2.1 (gSt l x h).2.2
def galB (l : List Int) (x h : Int) : Bool := vlist l && !decide (descF l ≥ 0) && keyB x && inB h 0 ((l.length : Int) - 1)
/-- The result of GallopSearch. -/
def galR (l : List Int) (x h : Int) : Nat × Nat × Bool := if galB l x h then ((galF l x h.toNat).1, (galF l x h.toNat).2, true) else (0, 0, false)

/-- The search's state in its boxes. -/
structure GS (w0 : World) (vb xb lb hb cb : Nat) (v : Value) (x : Int) (lo hi c : Nat) (wr : World) : Prop where
  bel : Below w0.heap.size w0 wr
  rv : Row wr 24 vb 0 1 [v]
  rx : Row wr 3 xb 0 1 [.int .i64 x]
  rl : Row wr 3 lb 0 1 [.int .i64 (lo : Nat)]
  rh : Row wr 3 hb 0 1 [.int .i64 (hi : Nat)]
  rc : Row wr 3 cb 0 1 [.int .i64 (c : Nat)]
  lh : lb ≠ hb
  lc : lb ≠ cb
  hc : hb ≠ cb
  vl : vb ≠ lb ∧ vb ≠ hb ∧ vb ≠ cb
  xl : xb ≠ lb ∧ xb ≠ hb ∧ xb ≠ cb
  big : w0.heap.size ≤ lb ∧ w0.heap.size ≤ hb ∧ w0.heap.size ≤ cb
theorem Row.cell0 {w : World} {e b : Nat} {v : Value} (h : Row w e b 0 1 [v]) : w.cell? ⟨b, 0, none⟩ = some v := by
  have := h.cell (i := 0) (by simp)
  simpa using this
theorem Row.set0 {w : World} {e b : Nat} {v : Value} (h : Row w e b 0 1 [v]) (u : Value) : Row (w.setCell ⟨b, 0, none⟩ u) e b 0 1 [u] := by
  have := h.set (i := 0) (by simp) u
  simpa using this
theorem Below.setNew {B : Nat} {a w : World} (h : Below B a w) {b : Nat} (hb : B ≤ b) (v : Value) : Below B a (w.setCell ⟨b, 0, none⟩ v) :=
  ⟨h.os, h.tape, h.output, by simpa [World.setCell] using h.size, fun k hk => (heap_setCell_other w ⟨b, 0, none⟩ k v (by simp; omega)).trans (h.block k hk)⟩
theorem GS.drewN {w0 : World} {vb xb lb hb cb : Nat} {v : Value} {x : Int} {lo hi c : Nat} {wr : World} (h : GS w0 vb xb lb hb cb v x lo hi c wr) (n : Nat) : GS w0 vb xb lb hb cb v x lo hi c (wr.drewN n) :=
  ⟨Below.drewN h.bel n, h.rv, h.rx, h.rl, h.rh, h.rc, h.lh, h.lc, h.hc, h.vl, h.xl, h.big⟩
theorem GS.setC {w0 : World} {vb xb lb hb cb : Nat} {v : Value} {x : Int} {lo hi c : Nat} {wr : World} (h : GS w0 vb xb lb hb cb v x lo hi c wr) (c' : Nat) : GS w0 vb xb lb hb cb v x lo hi c' (wr.setCell ⟨cb, 0, none⟩ (.int .i64 (c' : Nat))) :=
  ⟨Below.setNew h.bel h.big.2.2 _, h.rv.setOther (by simpa using h.vl.2.2) _, h.rx.setOther (by simpa using h.xl.2.2) _, h.rl.setOther (by simpa using h.lc) _, h.rh.setOther (by simpa using h.hc) _, h.rc.set0 _, h.lh, h.lc, h.hc, h.vl, h.xl, h.big⟩
theorem GS.setL {w0 : World} {vb xb lb hb cb : Nat} {v : Value} {x : Int} {lo hi c : Nat} {wr : World} (h : GS w0 vb xb lb hb cb v x lo hi c wr) (l' : Nat) : GS w0 vb xb lb hb cb v x l' hi c (wr.setCell ⟨lb, 0, none⟩ (.int .i64 (l' : Nat))) :=
  ⟨Below.setNew h.bel h.big.1 _, h.rv.setOther (by simpa using h.vl.1) _, h.rx.setOther (by simpa using h.xl.1) _, h.rl.set0 _, h.rh.setOther (by simpa using h.lh.symm) _, h.rc.setOther (by simpa using h.lc.symm) _, h.lh, h.lc, h.hc, h.vl, h.xl, h.big⟩
theorem GS.setH {w0 : World} {vb xb lb hb cb : Nat} {v : Value} {x : Int} {lo hi c : Nat} {wr : World} (h : GS w0 vb xb lb hb cb v x lo hi c wr) (l' : Nat) : GS w0 vb xb lb hb cb v x lo l' c (wr.setCell ⟨hb, 0, none⟩ (.int .i64 (l' : Nat))) :=
  ⟨Below.setNew h.bel h.big.2.1 _, h.rv.setOther (by simpa using h.vl.2.1) _, h.rx.setOther (by simpa using h.xl.2.1) _, h.rl.setOther (by simpa using h.lh) _, h.rh.set0 _, h.rc.setOther (by simpa using h.hc.symm) _, h.lh, h.lc, h.hc, h.vl, h.xl, h.big⟩

set_option maxRecDepth 10000 in
set_option maxHeartbeats 1000000 in
theorem less_any (w0 : World) (vb xb lb hb cb : Nat) (ao : Option Addr) (n cap : Nat) (l : List Int) (x I : Int) (i lo hi c : Nat) (wr : World) (hv : Rd w0 (.slice ao n cap) l) (hG : GS w0 vb xb lb hb cb (.slice ao n cap) x lo hi c wr)
    (hI : I = i) (h1 : lo ≤ i) (h2 : i < hi) (hn : i < n) (hnl : l.length = n) (hc : c ≤ 1000) (hn1 : n ≤ 1000) (hh : hi ≤ 1000) (t : Bool) (ht : decide (gi l i < x) = t) :
    Calls Try.prog 89 #[.int .i64 I, .pointer (some ⟨cb, 0, none⟩), .pointer (some ⟨vb, 0, none⟩), .pointer (some ⟨xb, 0, none⟩), .pointer (some ⟨lb, 0, none⟩), .pointer (some ⟨hb, 0, none⟩)] wr fun e w' =>
      e = .returned (.bool t) ∧ GS w0 vb xb lb hb cb (.slice ao n cap) x (if t then i + 1 else lo) (if t then hi else i) (c + 1) w' := by
  subst hI
  obtain ⟨ao', c', hv1, h3, h4, HA⟩ := hv
  simp only [Value.slice.injEq] at hv1
  obtain ⟨rfl, hv2, rfl⟩ := hv1
  clear hv2 h3
  unfold maxLen at h4
  obtain ⟨b, off, rfl, hR⟩ := HA (by omega)
  have hcl := hR i (by omega)
  have hbl : b < w0.heap.size := block_lt_of_cell hcl
  have cl : wr.cell? ⟨b, off + i, none⟩ = some (.int .i64 (gi l i)) := (hG.bel.cell (p := ⟨b, off + i, none⟩) hbl).trans hcl
  have c1 := hG.rv.cell0
  have c2 := hG.rx.cell0
  have c3 := hG.rl.cell0
  have c4 := hG.rh.cell0
  have c5 := hG.rc.cell0
  have f3 := hG.rl.frozen 0
  have f4 := hG.rh.frozen 0
  have f5 := hG.rc.frozen 0
  have n1 : ¬ cb = vb := fun e => hG.vl.2.2 e.symm
  have n2 : ¬ vb = cb := fun e => hG.vl.2.2 e
  have n3 : ¬ cb = xb := fun e => hG.xl.2.2 e.symm
  have n4 : ¬ xb = cb := fun e => hG.xl.2.2 e
  have n5 : ¬ cb = lb := fun e => hG.lc e.symm
  have n6 : ¬ lb = cb := fun e => hG.lc e
  have n7 : ¬ cb = hb := fun e => hG.hc e.symm
  have n8 : ¬ hb = cb := fun e => hG.hc e
  have n9 : ¬ cb = b := fun e => by have := hG.big.2.2; omega
  have n10 : ¬ b = cb := fun e => by have := hG.big.2.2; omega
  have i1 : (i : Int) < (n : Int) := by omega
  have i2 : (0 : Int) ≤ (i : Int) := by omega
  replace hG := Lib.hid hG
  clear hR HA hcl
  replace hnl := Lib.hid hnl
  generalize hg : gi l i = y at *
  replace hg := Lib.hid hg
  cases t
  · have hlt : ¬ y < x := of_decide_eq_false ht
    have hle : (i : Int) < (hi : Int) := by omega
    clear ht
    go_enter Try.func89, Try.ntmps89
    go_wp2
    go_quiet (fail)
    go_wp2
    go_ret
    exact ⟨rfl, by simpa using ((hG.out.setC (c + 1)).drewN _).setH i⟩
  · have hlt : y < x := of_decide_eq_true ht
    have hle : (lo : Int) ≤ (i : Int) + 1 := by omega
    have hle2 : (lo : Int) < (i : Int) + 1 := by omega
    clear ht
    go_enter Try.func89, Try.ntmps89
    go_wp2
    go_quiet (fail)
    go_wp2
    go_ret
    exact ⟨rfl, by simpa using ((hG.out.setC (c + 1)).drewN _).setL (i + 1)⟩
end Go.Proofs.Ytbfffpdcpoejnaa
