/- Draws of rows: anyRow. The draws of CompareRows and SortRows. The draw of CompareRows. -/
import Derived.Test.YtoeonplbgbgjmaaDoorDrawRow
import Derived.Deep.RegionHeld3
import Derived.Deep.LoopGhost
import Derived.Test.YtoeonplbgbgjmaaDoorMg14
import Derived.Test.YtoeonplbgbgjmaaDoorMg4
namespace Go.Proofs.YtoeonplbgbgjmaaDoor
open Go.RowKit
set_option linter.unusedVariables false
set_option linter.unusedSimpArgs false

def anyRowL : List ByteArray := [⟨#[10]⟩, ⟨#[127]⟩, ⟨#[48, 49, 50, 51, 52, 53, 54, 55, 56, 57, 48, 49, 50, 51, 52, 53, 54, 55, 56, 57, 48, 49, 50, 51, 52, 53, 54, 55, 56, 57, 48, 49, 50, 51, 52, 53, 54, 55, 56, 57]⟩, ⟨#[48, 49, 50, 51, 52, 53, 54, 55, 56, 57, 48, 49, 50, 51, 52, 53, 54, 55, 56, 57, 48, 49, 50, 51, 52, 53, 54, 55, 56, 57, 48, 49, 50, 51, 52, 53, 54, 55, 56, 57, 48]⟩]
theorem anyRowL_small : ∀ i, i < anyRowL.length → (gs anyRowL i).size ≤ 50 := small_all (by decide +kernel)
theorem Own.offRow {w : World} {e e' B b off c : Nat} {v : Value} {xs ys : List Value} (h : Own w e B v xs) (hr : Row w e' b off c ys) (hne : e ≠ e') : v.ownBlock ≠ some b := fun hb => by
  obtain ⟨cs, h1⟩ := h.typed hb
  obtain ⟨cs', h2, _⟩ := hr
  rw [h1] at h2
  simp only [Option.some.injEq, Obj.cells.injEq] at h2
  exact hne h2.2.1
/-- A row that is being drawn: its fields in variable p. -/
structure RW (w : World) (cb : Nat) (v : Value) (K p : Nat) (L : List ByteArray) (o : Value) (wr : World) : Prop where
  r1 : Row wr 40 w.heap.size 0 1 [.slice none 0 0]
  r2 : Row wr 40 p 0 1 [o]
  ow : Own wr 9 (w.heap.size + 1) o (strs L)
  sm : ∀ i, i < L.length → (gs L i).size ≤ 50
  cu : Cur wr cb v K
  ex : Ex [cb] w wr
theorem RW.cur {w : World} {cb : Nat} {v : Value} {K K' p : Nat} {L : List ByteArray} {o : Value} {wr w' : World} (h : RW w cb v K p L o wr) (hcb : cb < w.heap.size) (hp : w.heap.size < p) (hx : Ex [cb] wr w') (hc : Cur w' cb v K') : RW w cb v K' p L o w' :=
  ⟨h.r1.keptCur hx (by omega), h.r2.keptCur hx (by omega), h.ow.keptCur hx (by omega), h.sm, hc, h.ex.trans hx⟩
theorem RW.drew {w : World} {cb : Nat} {v : Value} {K p : Nat} {L : List ByteArray} {o : Value} {wr : World} (h : RW w cb v K p L o wr) : RW w cb v K p L o wr.drew :=
  ⟨h.r1.drew, h.r2.drew, h.ow.drewN 1, h.sm, h.cu.drewN 1, h.ex.drewN 1⟩
theorem RW.appended {w : World} {cb : Nat} {v : Value} {K p : Nat} {L : List ByteArray} {o v5 : Value} {s : ByteArray} {wr w5 : World} (h : RW w cb v K p L o wr) (hcb : cb < w.heap.size) (hp : w.heap.size < p) (hvb : ∀ b, v.ownBlock = some b → b < w.heap.size)
    (ho5 : Own w5 9 (w.heap.size + 1) v5 (strs L ++ [.string s])) (hg5 : wr.grownBy w5 o.ownBlock) (hs : s.size ≤ 50) :
    RW w cb v K p (L ++ [s]) v5 (w5.setCell ⟨p, 0, none⟩ v5) ∧ w5.cell? ⟨p, 0, none⟩ = some o ∧ w5.frozen? ⟨p, 0, none⟩ = false := by
  have hsz := h.ex.size
  have hne := h.ow.offRow h.r2 (by decide)
  have hne0 := h.ow.offRow h.r1 (by decide)
  have hr5 := h.r2.grown hg5 (fun e => hne e.symm)
  have hr4 := h.r1.grown hg5 (fun e => hne0 e.symm)
  have hr7 := hr5.set (i := 0) (by simp) v5
  simp only [Nat.zero_add, List.set_cons_zero] at hr7
  rw [← strs_snoc] at ho5
  exact ⟨⟨hr4.setOther (a := ⟨p, 0, none⟩) (by simp; omega) v5, hr7, ho5.setOther (ho5.offRow hr5 (by decide)), snoc_small h.sm hs,
    (h.cu.grownOwn h.ow hg5 (by omega) (fun b hb => by have := hvb b hb; omega)).setNew (by omega) (fun q hq => by have := hvb q hq; omega),
    (h.ex.grownOwn h.ow (by omega) hg5).setNewR (by omega)⟩, hr5.cell1, hr5.frozen 0⟩
theorem RW.cut {w : World} {cb : Nat} {v : Value} {K p : Nat} {L : List ByteArray} {o : Value} {wr : World} (h : RW w cb v K p L o wr) (hcb : cb < w.heap.size) (hp : w.heap.size < p) (hvb : ∀ b, v.ownBlock = some b → b < w.heap.size) :
    RW w cb v K p [] (.slice none 0 0) (wr.setCell ⟨p, 0, none⟩ (.slice none 0 0)) := by
  have hr7 := h.r2.set (i := 0) (by simp) (.slice none 0 0)
  simp only [Nat.zero_add, List.set_cons_zero] at hr7
  exact ⟨h.r1.setOther (a := ⟨p, 0, none⟩) (by simp; omega) _, hr7, Own.nil _ _ _, fun i hi => absurd hi (by simp), h.cu.setNew (by omega) (fun q hq => by have := hvb q hq; omega), h.ex.setNewR (by omega)⟩
/-- The row handed back. -/
theorem RW.fin {w : World} {cb : Nat} {v : Value} {K p : Nat} {L : List ByteArray} {o : Value} {wr : World} (h : RW w cb v K p L o wr) (hcb : cb < w.heap.size) (hvb : ∀ b, v.ownBlock = some b → b < w.heap.size) :
    Own (wr.setCell ⟨w.heap.size, 0, none⟩ o) 9 w.heap.size o (strs L) ∧ (∀ i, i < L.length → (gs L i).size ≤ 50) ∧ Cur (wr.setCell ⟨w.heap.size, 0, none⟩ o) cb v K ∧ Ex [cb] w (wr.setCell ⟨w.heap.size, 0, none⟩ o) ∧
    wr.cell? ⟨p, 0, none⟩ = some o ∧ wr.cell? ⟨w.heap.size, 0, none⟩ = some (.slice none 0 0) ∧ wr.frozen? ⟨w.heap.size, 0, none⟩ = false := by
  exact ⟨(h.ow.setOther (h.ow.off (by omega))).base (by omega), h.sm, h.cu.setNew (by omega) (fun q hq => by have := hvb q hq; omega), h.ex.setNewR (Nat.le_refl _), h.r2.cell1, h.r1.cell1, h.r1.frozen 0⟩

set_option maxRecDepth 10000 in
set_option maxHeartbeats 4000000 in
theorem anyRow_any (cb : Nat) (v : Value) (K : Nat) (w : World) (h : Cur w cb v K) (hcb : cb < w.heap.size) (hvb0 : ∀ b, v.ownBlock = some b → b < w.heap.size) (hK : K ≤ 10000000) :
    Calls Tryd.prog 99 #[.pointer (some ⟨cb, 0, none⟩)] w fun e w' => ∃ r L, e = .returned (.agg #[r]) ∧ Own w' 9 w.heap.size r (strs L) ∧ L.length ≤ 9 ∧ (∀ i, i < L.length → (gs L i).size ≤ 50) ∧ Cur w' cb v (K + 60) ∧ Ex [cb] w w' := by
  have hvb := Lib.hid hvb0
  have hB0 : Below w.heap.size w (w.alloc (.cells #[.slice none 0 0] 40)) := (Below.refl _ _).alloc (Nat.le_refl _) _
  have hr1 := Lib.hid (Row.one1 w 40 (.slice none 0 0))
  have hx0 := Lib.hid (Ex.of_below (F := [cb]) hB0)
  have hrow := Lib.hid (row_any cb v K (w.alloc (.cells #[.slice none 0 0] 40)) (h.ex (Ex.of_below (F := []) hB0) (by simp) (fun _ _ => by simp)) (by simp; omega) (fun b hb => by have := hvb0 b hb; simp; omega) hK)
  clear h hB0 hvb0
  go_enter Tryd.func99, Tryd.ntmps99
  go_wp2_with fail
  refine hrow.out.mono ?_
  rintro e w1 ⟨r, L, rfl, hO, hl1, hl3, hS, hC, hX⟩
  have hp : w.heap.size < w1.heap.size := by have := hX.size; simp at this; omega
  have hq1 := (hr1.out.keptCur hX (by omega)).alloc (.cells #[r] 40)
  have hRW : RW w cb v (K + 10) w1.heap.size L r (w1.alloc (.cells #[r] 40)) := ⟨hq1, Row.one1 w1 40 r, by simpa using hO.alloc (.cells #[r] 40), hS, hC.ex (Ex.of_below (F := []) ((Below.refl _ _).alloc (Nat.le_refl _) _)) (by simp) (fun _ _ => by simp), (hx0.out.trans hX).trans (Ex.of_below ((Below.refl _ _).alloc (Nat.le_refl _) _))⟩
  obtain ⟨ra, rc, rfl, _⟩ := hO.sl
  rw [strs_length] at *
  replace hRW := Lib.hid hRW
  clear hq1 hO hS hC hX hrow hx0 hr1
  generalize hl : L.length = l at *
  go_wp2_with fail
  refine (pick_any _ _ _ 20 _ hRW.out.cu (by omega) (by omega)).mono ?_
  rintro e w3 ⟨⟨x, rfl, _, _⟩, hc3, hx3⟩
  have hR3 := Lib.hid (hRW.out.cur hcb hp hx3 hc3)
  clear hc3 hx3 hRW
  have cc := hR3.out.r2.cell1
  have ff := hR3.out.r2.frozen 0
  by_cases h0 : x = 0
  · subst h0
    have hR4 := Lib.hid (hR3.out.cut hcb hp hvb.out)
    obtain ⟨f1, f2, f3, f4, f5, f6, f7⟩ := hR4.out.fin hcb hvb.out
    replace f1 := Lib.hid f1
    replace f3 := Lib.hid f3
    replace f4 := Lib.hid f4
    replace f2 := Lib.hid f2
    go_wp2
    exact bodyPost_ret (v := .agg #[.slice none 0 0]) (by simp [results, Tryd.results99, go_sem, f5, f6, f7]) rfl ⟨.slice none 0 0, [], rfl, f1.out, by simp, f2.out, f3.out.le (by omega), f4.out⟩
  · have g0 : ((x : Int) == 0) = false := by simp; omega
    by_cases h1 : x = 1
    · subst h1
      have hw3 := hR3.out.ex.size
      have hsz2 := hR3.out.r2.lt
      have hRd := Lib.hid hR3.out.drew
      have hal := Lib.hid (of_lits cb v anyRowL _ 50 w3.drew hRd.out.cu (show cb < w3.heap.size by omega) (fun b hb => show b < w3.heap.size by have := hvb.out b hb; omega) (by omega) (by decide) (by decide) (by omega) anyRowL_small)
      rw [show w3.drew.alloc (.cells (strs anyRowL).toArray 9) = (w3.alloc (.cells (strs anyRowL).toArray 9)).drew from rfl] at hal
      have cc2 : (w3.alloc (.cells (strs anyRowL).toArray 9)).drew.cell? ⟨w1.heap.size, 0, none⟩ = some (.slice ra l rc) := ((Row.drew hR3.out.r2).alloc _).cell1
      have hsl : (strs L).length = l := by rw [strs_length, hl]
      replace hl := Lib.hid hl
      go_wp2
      go_region_law (first
        | (go_simp; go_at_call 83; refine hal.out.mono ?_; rintro e w4 ⟨⟨s, rfl, hs⟩, hc4, hx4⟩; have hR4 := Lib.hid (hRd.out.cur hcb hp hx4 hc4); have cc3 := hR4.out.r2.cell1; have cc4 := (hR4.out.r2.alloc (.cells #[.string s] 9)).cell1; have hw4 := hR4.out.ex.size; clear hc4 hx4)
        | (refine step_append_all eltStrO rfl (.tmp 14) (.tmp 18) rfl (w.heap.size + 1) (.slice ra l rc) (strs L) (by simp [Act.eval, Act.put]) (hR4.out.ow.alloc _) (.slice (some ⟨w4.heap.size, 0, none⟩) 1 1) [.string s] (by simp [Act.eval, Act.put]) RdV.new (by simp [Value.oneCell']) (by simp [hsl]; omega) (by simp; omega) ?_; intro v5 w5 ho5 hg5; obtain ⟨hR5, cc5, ff5⟩ := hR4.out.appended hcb hp hvb.out ho5 (grownBy.trans (World.grownBy_alloc w4 (.cells #[.string s] 9) _) hg5) hs; have hlen5 : (strs L ++ [Value.string s]).length = l + 1 := (by simp [hsl]); obtain ⟨na, nc, e5, _⟩ := ho5.sl; rw [hlen5] at e5; subst e5; replace hR5 := Lib.hid hR5))
      all_goals
        obtain ⟨f1, f2, f3, f4, f5, f6, f7⟩ := hR5.out.fin hcb hvb.out
        replace f1 := Lib.hid f1
        replace f3 := Lib.hid f3
        replace f4 := Lib.hid f4
        replace f2 := Lib.hid f2
        clear ho5 hg5
        go_wp2
        exact bodyPost_ret (v := .agg #[.slice na (l + 1) nc]) (by simp [results, Tryd.results99, go_sem, f5, f6, f7]) rfl ⟨.slice na (l + 1) nc, L ++ [s], rfl, f1.out, by (have := hl.out; simp; omega), f2.out, f3.out.le (by omega), f4.out⟩
    · have g1 : ((x : Int) == 1) = false := by simp; omega
      by_cases h2 : x = 2
      · subst h2
        have hgh : (9 - l) + l = 9 := by omega
        go_wp2
        go_loopg [] (9 - l) (fun g wr => ∃ (M : List ByteArray) (o : Value), g + M.length = 9 ∧ RW w cb v (K + 12 + 2 * M.length) w1.heap.size M o wr)
        case atStart => exact ⟨L, .slice ra l rc, by rw [hl]; exact hgh, ⟨hR3.out.r1, hR3.out.r2, hR3.out.ow, hR3.out.sm, hR3.out.cu.le (by omega), hR3.out.ex⟩⟩
        case round =>
          obtain ⟨M, o, hg, hRr⟩ := hrel
          clear hR3 cc ff hgh
          obtain ⟨oa, oc, rfl, _⟩ := hRr.ow.sl
          rw [strs_length] at hRr
          obtain ⟨q, hq⟩ : ∃ q, M.length = q := ⟨_, rfl⟩
          rw [hq] at hRr hg
          have cc := hRr.r2.cell1
          have ff := hRr.r2.frozen 0
          have hRd := Lib.hid hRr.drew
          replace hRr := Lib.hid hRr
          go_wp2
          go_region_held3 (fun w' => w'.cell? ⟨w1.heap.size, 0, none⟩ = some (.slice oa q oc)) ((first | exact hR4.out.r2.cell1 | go_keep)) ((go_at_call 84; refine (pick_any _ _ _ 2 _ hRd.out.cu (by omega) (by omega)).mono ?_; rintro e w4 ⟨⟨y, rfl, hy, _⟩, hc4, hx4⟩; have hR4 := Lib.hid (hRd.out.cur hcb hp hx4 hc4)))
          have hy2 := hy (by omega)
          have hwr : IntKind.i64.wrap (6 + (y : Int)) = 6 + (y : Int) := IntWalk.i64_in _ (by omega)
          rw [hwr]
          have hw4 : w.heap.size + 1 ≤ w4.heap.size := by have := hR4.out.r2.lt; omega
          by_cases hlt : (q : Int) < 6 + (y : Int)
          · have hql : (strs M).length ≤ 1000000000 := by rw [strs_length]; omega
            have hsl : (strs M).length = q := by rw [strs_length, hq]
            replace hq := Lib.hid hq
            go_wp2_with (at_builtin; refine append_one_at eltStrO rfl _ _ rfl (w.heap.size + 1) _ _ rfl hR4.out.ow rfl rfl hql hw4 ?_)
            intro v5 w5 ho5 hg5 hat
            obtain ⟨hR5, cc5, ff5⟩ := hR4.out.appended (s := ⟨#[97]⟩) hcb hp hvb.out ho5 hg5 (by decide)
            have hlen5 : (strs M ++ [Value.string ⟨#[97]⟩]).length = q + 1 := by simp [hsl]
            obtain ⟨na, nc, e5, _⟩ := ho5.sl
            rw [hlen5] at e5
            subst e5
            replace hR5 := Lib.hid hR5
            obtain ⟨g, rfl⟩ : ∃ z, gk = z + 1 := ⟨gk - 1, by omega⟩
            clear ho5 hg5 hat hc4 hx4
            go_wp2
            go_roundg g
            case measure => omega
            case rel => exact ⟨M ++ [⟨#[97]⟩], _, by have := hq.out; simp; omega, ⟨hR5.out.r1, hR5.out.r2, hR5.out.ow, hR5.out.sm, hR5.out.cu.le (by have := hq.out; simp; omega), hR5.out.ex⟩⟩
          · obtain ⟨f1, f2, f3, f4, f5, f6, f7⟩ := hR4.out.fin hcb hvb.out
            replace f1 := Lib.hid f1
            replace f3 := Lib.hid f3
            replace f4 := Lib.hid f4
            replace f2 := Lib.hid f2
            clear hc4 hx4
            go_wp2
            exact bodyPost_ret (v := .agg #[.slice oa q oc]) (by simp [results, Tryd.results99, go_sem, f5, f6, f7]) rfl ⟨.slice oa q oc, rfl, M, f1.out, by omega, f2.out, f3.out.le (by omega), f4.out⟩
      · have g2 : ((x : Int) == 2) = false := by simp; omega
        obtain ⟨f1, f2, f3, f4, f5, f6, f7⟩ := hR3.out.fin hcb hvb.out
        replace f1 := Lib.hid f1
        replace f3 := Lib.hid f3
        replace f4 := Lib.hid f4
        replace f2 := Lib.hid f2
        go_wp2
        exact bodyPost_ret (v := .agg #[.slice ra l rc]) (by simp [results, Tryd.results99, go_sem, f5, f6, f7]) rfl ⟨.slice ra l rc, L, rfl, f1.out, by omega, f2.out, f3.out.le (by omega), f4.out⟩
end Go.Proofs.YtoeonplbgbgjmaaDoor
namespace Go.Proofs.YtoeonplbgbgjmaaDoor
open Go.RowKit
set_option linter.unusedVariables false
set_option linter.unusedSimpArgs false

theorem SWR.exc {B cb : Nat} {W wr : World} {out : List (List ByteArray)} {us : List Value} {o : Value} (h : SWR B out us o W) (hx : Ex [cb] W wr) (hcb : cb < B) : SWR B out us o wr :=
  ⟨h.own.keptCur hx hcb, h.nn, h.len, fun q hq => (h.el q hq).keptCur hx hcb, h.sz, h.dj⟩
theorem SWR.snoc2 {B A : Nat} {wr w2 : World} {out : List (List ByteArray)} {us : List Value} {o v' cv : Value} {c : List ByteArray} (h : SWR B out us o wr) (hA : ∀ q, q < out.length → ∀ b, (gv us q).ownBlock = some b → b < A) (hBA : B ≤ A)
    (hc : Own wr 9 A cv (strs c)) (hcs : ∀ i, i < c.length → (gs c i).size ≤ 50) (ho : Own w2 40 B v' (us ++ [cv])) (hg : wr.grownBy w2 o.ownBlock) : SWR B (out ++ [c]) (us ++ [cv]) v' w2 := by
  have hlen := h.len
  have key : ∀ i, i < (out ++ [c]).length → (i < out.length ∧ gv (us ++ [cv]) i = gv us i ∧ gf (out ++ [c]) i = gf out i) ∨ (i = out.length ∧ gv (us ++ [cv]) i = cv ∧ gf (out ++ [c]) i = c) := by
    intro i hi
    simp at hi
    by_cases e : i < out.length
    · exact .inl ⟨e, gv_snoc_lt (by omega), gf_snoc_lt e⟩
    · have : i = out.length := by omega
      subst this
      exact .inr ⟨rfl, by rw [← hlen]; exact gv_snoc_eq, gf_snoc_eq⟩
  refine ⟨ho, ?_, by simp [hlen], ?_, ?_, ?_⟩
  · obtain ⟨hl, hh⟩ := ho
    rcases hh with ⟨_, h2⟩ | ⟨g, cap, cur, hv, _⟩
    · simp at h2
    · exact ⟨g, cap, hv⟩
  · intro q hq
    rcases key q hq with ⟨a, e1, e2⟩ | ⟨a, e1, e2⟩
    · rw [e1, e2]; exact (h.el q a).keptOf h.own (by decide) hg
    · rw [e1, e2]; exact (hc.keptOf h.own (by decide) hg).base hBA
  · intro q hq
    rcases key q hq with ⟨a, _, e2⟩ | ⟨a, _, e2⟩
    · rw [e2]; exact h.sz q a
    · rw [e2]; exact fun i hi => by have := hcs i hi; unfold maxLen; omega
  · intro i j hi hj hij b hb
    rcases key i hi with ⟨a, e1, _⟩ | ⟨a, e1, _⟩ <;> rcases key j hj with ⟨a', e1', _⟩ | ⟨a', e1', _⟩
    · rw [e1] at hb; rw [e1']; exact h.dj i j a a' hij b hb
    · rw [e1] at hb; rw [e1']; intro e
      have := hA i a b hb
      have := (hc.lt b e).1
      omega
    · rw [e1] at hb; rw [e1']; intro e
      have := hA j a' b e
      have := (hc.lt b hb).1
      omega
    · omega
theorem Own.rstr {w : World} {B : Nat} {v : Value} {L : List ByteArray} (h : Own w 9 B v (strs L)) (hs : ∀ i, i < L.length → (gs L i).size ≤ 50) : RStringS w v L v.ownBlock.toList :=
  ⟨⟨h.sl, fun i hi => by have := hs i hi; unfold maxLen; omega⟩, rfl⟩
/-- A row drawn and put behind the others. -/
theorem SWR.drawn {B cb : Nat} {W wr w2 : World} {out : List (List ByteArray)} {us : List Value} {o v' cv : Value} {c : List ByteArray} (h : SWR B out us o W) (hx : Ex [cb] W wr) (hcb : cb < B) (hBW : B ≤ W.heap.size)
    (hc : Own wr 9 W.heap.size cv (strs c)) (hcs : ∀ i, i < c.length → (gs c i).size ≤ 50) (ho : Own w2 40 B v' (us ++ [cv])) (hg : wr.grownBy w2 o.ownBlock) : SWR B (out ++ [c]) (us ++ [cv]) v' w2 :=
  (h.exc hx hcb).snoc2 (fun q hq b hb => ((h.el q hq).lt b hb).2) hBW hc hcs ho hg

set_option maxRecDepth 10000 in
set_option maxHeartbeats 4000000 in
theorem DrawSortRows_law {d : Value} {w : World} (h : RdBy w d) (hd : ∀ b, d.ownBlock = some b → b < w.heap.size) :
    Calls Tryd.prog 58 #[d] w fun e w' => ∃ vs X F1 vr Fs F2, e = .returned (.tuple #[vs, vr]) ∧ RKeySpecS w' vs X F1 ∧ RRowS w' vr Fs F2 ∧ Below w.heap.size w w' := by
  have hc := Lib.hid (Cur.start h hd)
  obtain ⟨ao, n, c, rfl, h1, h2, _⟩ := h
  obtain ⟨W0, hW0⟩ : ∃ W0, W0 = w.alloc (.cells #[.slice ao n c, .int .i64 0, .int .u64 0] 99) := ⟨_, rfl⟩
  have hsz0 : W0.heap.size = w.heap.size + 1 := by rw [hW0]; simp
  have hvb : Hid (∀ b, (Value.slice ao n c).ownBlock = some b → b < W0.heap.size) := Lib.hid (fun b hb => by have := hd b hb; omega)
  have hvb2 : Hid (∀ b, (Value.slice ao n c).ownBlock = some b → b < w.heap.size) := Lib.hid hd
  have hcb : w.heap.size < W0.heap.size := by omega
  have hfin := Lib.hid (fun (w' : World) hx => newCur (w := w) (o := .cells #[.slice ao n c, .int .i64 0, .int .u64 0] 99) (w' := w') hx)
  rw [← hW0] at hc hfin
  clear hd
  go_enter Tryd.func58, Tryd.ntmps58
  go_wp2_with fail
  rw [← hW0]
  refine (anySpecs_any _ _ 0 _ hc.out hcb hvb.out (by omega)).mono ?_
  rintro e w4 ⟨vs, X, rfl, hS, hF, hL, hC4, hX4⟩
  obtain ⟨ao1, c1, rfl, _, _⟩ := hS.shape
  have hKS := Lib.hid (show RKeySpecS w4 _ X _ from ⟨hS, rfl⟩)
  have hs4 := hX4.size
  have hst0 := Lib.hid (SWR.start (B := w4.heap.size) (W := w4) (Nat.le_refl _))
  have hB5 : Below w4.heap.size w4 (w4.alloc (.cells #[] 40)) := (Below.refl _ _).alloc (Nat.le_refl _) _
  have hc5 := Lib.hid (hC4.ex (Ex.of_below (F := []) hB5) (by simp) (fun _ _ => by simp))
  have hx5 := Lib.hid (Ex.of_below (F := [w.heap.size]) hB5)
  have hdj : Hid (∀ b, (Value.slice ao1 X.length c1).ownBlock = some b → b ≠ w.heap.size) := Lib.hid (fun b hb => by have := hF b hb; omega)
  replace hX4 := Lib.hid hX4
  replace hW0 := Lib.hid hW0
  clear hS hF hC4 hB5
  go_wp2_with fail
  refine (pick_any _ _ _ 8 _ hc5.out (by omega) (by omega)).mono ?_
  rintro e w6 ⟨⟨N, rfl, hN, _⟩, hc6, hx6⟩
  have hN8 := hN (by omega)
  have hR6 := Lib.hid (hst0.out.exc hx6 (by omega))
  have hX6 := Lib.hid (hx5.out.trans hx6)
  replace hc6 := Lib.hid hc6
  clear hN hx6 hst0 hc5 hx5
  generalize hXl : X.length = xl at *
  replace hXl := Lib.hid hXl
  go_wp2
  go_loopw [6, 7] (fun o iv wr => ∃ (m : Nat) (us : List Value) (out : List (List ByteArray)), iv = .int .i64 (m : Nat) ∧ m + out.length = N ∧ SWR w4.heap.size out us o wr ∧ Cur wr w.heap.size (.slice ao n c) (200 + 20 * out.length) ∧ Ex [w.heap.size] w4 wr) (fun _ iv _ => (intOf iv).toNat)
  case atStart => exact ⟨N, [], [], rfl, by simp, hR6.out, hc6.out.le (by simp), hX6.out⟩
  case round =>
    clear hR6 hc6 hX6
    obtain ⟨m, us, out, rfl, hm, hR, hC, hX⟩ := hrel
    have hsr := hX.size
    have hul := hR.len
    obtain ⟨b, c9, rfl⟩ := hR.nn
    have hul2 : us.length ≤ 1000000000 := by omega
    rw [hul] at hR ⊢
    replace hul := Lib.hid hul
    by_cases hlt : 0 < m
    · obtain ⟨m, rfl⟩ : ∃ m', m = m' + 1 := ⟨m - 1, by omega⟩
      have hrow := Lib.hid (row_any _ _ _ wr hC (by omega) (fun b hb => by have := hvb2.out b hb; omega) (by omega))
      replace hR := Lib.hid hR
      replace hX := Lib.hid hX
      clear hC
      obtain ⟨wo, rfl⟩ : ∃ wo, wo = wr := ⟨_, rfl⟩
      go_wp2_with fail
      refine hrow.out.mono ?_
      rintro e w7 ⟨r, L, rfl, hO, hl1, hl3, hsm, hC7, hx7⟩
      obtain ⟨ra, rc, e7, _⟩ := hO.sl
      subst e7
      rw [strs_length] at hO ⊢
      have hs7 : w4.heap.size ≤ w7.heap.size := by have := hx7.size; omega
      have hR7 := Lib.hid (hR.out.exc hx7 (by omega))
      replace hO := Lib.hid hO
      replace hC7 := Lib.hid hC7
      go_wp2_with (at_builtin; refine append_one_at eltRow rfl _ _ rfl w4.heap.size _ _ rfl hR7.out.own rfl rfl hul2 hs7 ?_)
      intro v8 w8 ho8 hg8 _
      have hR8 := Lib.hid (hR.out.drawn hx7 (by omega) hsr hO.out hsm ho8 hg8)
      have hC8 := Lib.hid (hC7.out.grownOwn hR7.out.own hg8 (by omega) (fun b hb => by have := hvb2.out b hb; omega))
      have hX8 := Lib.hid ((hX.out.trans hx7).grownOwn hR7.out.own (Nat.le_refl _) hg8)
      clear ho8 hg8 hx7
      go_wp2
      go_roundw
      case rel => exact ⟨m, _, _, by go_num, by simp; omega, hR8.out, hC8.out.le (by simp; omega), hX8.out⟩
      case measure => simp [intOf]
    · obtain rfl : m = 0 := by omega
      replace hR := Lib.hid hR
      replace hX := Lib.hid hX
      go_wp2_with fail
      refine (pick_any _ _ _ 24 _ hC (by omega) (by omega)).mono ?_
      rintro e w7 ⟨⟨x, rfl, _, _⟩, hC7, hx7⟩
      have hR7 := Lib.hid (hR.out.exc hx7 (by omega))
      have hX7 := Lib.hid (hX.out.trans hx7)
      have hs7 : w4.heap.size ≤ w7.heap.size := by have := hx7.size; omega
      replace hC7 := Lib.hid hC7
      have hend : Hid (∀ (wf : World) (us : List Value) (out : List (List ByteArray)) (o : Value), SWR w4.heap.size out us o wf → Ex [w.heap.size] w4 wf → RKeySpecS wf (.slice ao1 xl c1) X (Value.slice ao1 xl c1).ownBlock.toList ∧ (∃ F2, RRowS wf o out F2) ∧ Below w.heap.size w wf) := Lib.hid (fun wf us out o hr hx => by
        obtain ⟨F2, f1, _⟩ := hr.made
        refine ⟨hKS.out.ex hx (fun b hb => ?_), ⟨F2, f1⟩, hfin.out _ (hX4.out.trans hx)⟩
        have := hdj.out b (by simpa using hb)
        simpa using this)
      clear hx7 hR hX hC
      by_cases h0 : x = 0
      · subst h0
        have hrow := Lib.hid (anyRow_any _ _ _ w7 hC7.out (by omega) (fun b hb => by have := hvb2.out b hb; omega) (by omega))
        go_wp2_with fail
        refine hrow.out.mono ?_
        rintro e w9 ⟨r, L, rfl, hO, hl9, hsm, hC9, hx9⟩
        obtain ⟨ra, rc, e7, _⟩ := hO.sl
        subst e7
        rw [strs_length] at hO ⊢
        have hs9 : w4.heap.size ≤ w9.heap.size := by have := hx9.size; omega
        have hR9 := Lib.hid (hR7.out.exc hx9 (by omega))
        replace hO := Lib.hid hO
        go_wp2_with (at_builtin; refine append_one_at eltRow rfl _ _ rfl w4.heap.size _ _ rfl hR9.out.own rfl rfl hul2 hs9 ?_)
        intro v8 w8 ho8 hg8 _
        have hR8 := hR7.out.drawn hx9 (by omega) hs7 hO.out hsm ho8 hg8
        have hX8 := (hX7.out.trans hx9).grownOwn hR9.out.own (Nat.le_refl _) hg8
        obtain ⟨g1, ⟨F2, g2⟩, g3⟩ := hend.out _ _ _ _ hR8 hX8
        replace g1 := Lib.hid g1
        replace g2 := Lib.hid g2
        replace g3 := Lib.hid g3
        clear ho8 hg8 hx9 hR8 hX8 hC9
        go_wp2
        go_ret2
        exact ⟨_, X, _, _, _, F2, rfl, g1.out, g2.out, g3.out⟩
      · have g0 : ((x : Int) == 0) = false := by simp; omega
        by_cases h1 : x = 1
        · subst h1
          have hgh : (70 - out.length) + out.length = 70 := by omega
          go_wp2
          go_loopg [6] (70 - out.length) (fun g o wr => ∃ (us : List Value) (out : List (List ByteArray)), g + out.length = 70 ∧ SWR w4.heap.size out us o wr ∧ Cur wr w.heap.size (.slice ao n c) (1000 + 20 * out.length) ∧ Ex [w.heap.size] w4 wr)
          case atStart => exact ⟨us, out, hgh, hR7.out, hC7.out.le (by omega), hX7.out⟩
          case round =>
            clear hR7 hC7 hX7 hgh
            obtain ⟨us, out, hg, hR, hC, hX⟩ := hrel
            have hsr := hX.size
            have hul := hR.len
            obtain ⟨b, c9, rfl⟩ := hR.nn
            have hul2 : us.length ≤ 1000000000 := by omega
            rw [hul] at hR ⊢
            replace hul := Lib.hid hul
            replace hR := Lib.hid hR
            replace hX := Lib.hid hX
            obtain ⟨wo, rfl⟩ : ∃ wo, wo = wr := ⟨_, rfl⟩
            go_wp2_with fail
            refine (pick_any _ _ _ 2 _ hC (by omega) (by omega)).mono ?_
            rintro e w9 ⟨⟨y, rfl, hy, _⟩, hC9, hx9⟩
            have hy2 := hy (by omega)
            have hwr : IntKind.i64.wrap (64 + (y : Int)) = 64 + (y : Int) := IntWalk.i64_in _ (by omega)
            have hR9 := Lib.hid (hR.out.exc hx9 (by omega))
            have hX9 := Lib.hid (hX.out.trans hx9)
            have hs9 : w4.heap.size ≤ w9.heap.size := by have := hx9.size; omega
            replace hC9 := Lib.hid hC9
            clear hx9 hR hX hC
            by_cases hlt2 : (out.length : Int) < 64 + (y : Int)
            · have hrow := Lib.hid (row_any _ _ _ w9 hC9.out (by omega) (fun b hb => by have := hvb2.out b hb; omega) (by omega))
              obtain ⟨g, rfl⟩ : ∃ z, gk = z + 1 := ⟨gk - 1, by omega⟩
              go_wp2_with fail
              refine hrow.out.mono ?_
              rintro e w10 ⟨r, L, rfl, hO, hl1, hl3, hsm, hC10, hx10⟩
              obtain ⟨ra, rc, e7, _⟩ := hO.sl
              subst e7
              rw [strs_length] at hO ⊢
              have hs10 : w4.heap.size ≤ w10.heap.size := by have := hx10.size; omega
              have hR10 := Lib.hid (hR9.out.exc hx10 (by omega))
              replace hO := Lib.hid hO
              replace hC10 := Lib.hid hC10
              go_wp2_with (at_builtin; refine append_one_at eltRow rfl _ _ rfl w4.heap.size _ _ rfl hR10.out.own rfl rfl hul2 hs10 ?_)
              intro v8 w8 ho8 hg8 _
              have hR8 := Lib.hid (hR9.out.drawn hx10 (by omega) hs9 hO.out hsm ho8 hg8)
              have hC8 := Lib.hid (hC10.out.grownOwn hR10.out.own hg8 (by omega) (fun b hb => by have := hvb2.out b hb; omega))
              have hX8 := Lib.hid ((hX9.out.trans hx10).grownOwn hR10.out.own (Nat.le_refl _) hg8)
              clear ho8 hg8 hx10
              go_wp2
              go_roundg g
              case measure => omega
              case rel => exact ⟨_, _, by simp; omega, hR8.out, hC8.out.le (by simp; omega), hX8.out⟩
            · obtain ⟨g1, ⟨F2, g2⟩, g3⟩ := hend.out _ _ _ _ hR9.out hX9.out
              replace g1 := Lib.hid g1
              replace g2 := Lib.hid g2
              replace g3 := Lib.hid g3
              go_wp2
              go_ret2
              exact ⟨_, X, _, _, _, F2, rfl, g1.out, g2.out, g3.out⟩
        · have g1 : ((x : Int) == 1) = false := by simp; omega
          obtain ⟨q1, ⟨F2, q2⟩, q3⟩ := hend.out _ _ _ _ hR7.out hX7.out
          replace q1 := Lib.hid q1
          replace q2 := Lib.hid q2
          replace q3 := Lib.hid q3
          go_wp2
          go_ret2
          exact ⟨_, X, _, _, _, F2, rfl, q1.out, q2.out, q3.out⟩
end Go.Proofs.YtoeonplbgbgjmaaDoor
namespace Go.Proofs.YtoeonplbgbgjmaaDoor
open Go.RowKit
set_option linter.unusedVariables false
set_option linter.unusedSimpArgs false

set_option maxRecDepth 10000 in
set_option maxHeartbeats 4000000 in
theorem DrawCompareRows_law {d : Value} {w : World} (h0 : RdBy w d) (hd0 : ∀ b, d.ownBlock = some b → b < w.heap.size) :
    Calls Tryd.prog 54 #[d] w fun e w' => ∃ vs X F1 va A F2 vb B F3, e = .returned (.tuple #[vs, .agg #[va], .agg #[vb]]) ∧ RKeySpecS w' vs X F1 ∧ RStringS w' va A F2 ∧ RStringS w' vb B F3 ∧ Below w.heap.size w w' := by
  obtain ⟨W2, hW2⟩ : ∃ W2, W2 = (w.alloc (.cells #[.slice none 0 0] 40)).alloc (.cells #[.slice none 0 0] 40) := ⟨_, rfl⟩
  have hB2 : Below w.heap.size w W2 := by rw [hW2]; exact ((Below.refl _ _).alloc (Nat.le_refl _) _).alloc (by simp) _
  have hsz2 : W2.heap.size = w.heap.size + 2 := by rw [hW2]; simp
  have hr1 : Row W2 40 w.heap.size 0 1 [.slice none 0 0] := by rw [hW2]; exact (Row.one1 w 40 (.slice none 0 0)).alloc _
  have hr2 : Row W2 40 (w.heap.size + 1) 0 1 [.slice none 0 0] := by
    have := Row.one1 (w.alloc (.cells #[.slice none 0 0] 40)) 40 (.slice none 0 0)
    rw [hW2]; simpa using this
  have h := h0.next hB2
  have hd : ∀ b, d.ownBlock = some b → b < W2.heap.size := lt_next hd0 hB2
  have hc := Cur.start h hd
  have hdw := Lib.hid hd0
  clear h0
  obtain ⟨ao, n, c, rfl, h1, h2, _⟩ := h
  obtain ⟨W0, hW0⟩ : ∃ W0, W0 = W2.alloc (.cells #[.slice ao n c, .int .i64 0, .int .u64 0] 99) := ⟨_, rfl⟩
  have hsz0 : W0.heap.size = w.heap.size + 3 := by rw [hW0]; simp; omega
  have hB0 : Below w.heap.size w W0 := by rw [hW0]; exact hB2.alloc hB2.size _
  have hvb : Hid (∀ b, (Value.slice ao n c).ownBlock = some b → b < W0.heap.size) := Lib.hid (fun b hb => by have := hd b hb; omega)
  rw [← hW0, hsz2] at hc
  have hq1 : Row W0 40 w.heap.size 0 1 [.slice none 0 0] := by rw [hW0]; exact hr1.alloc _
  have hq2 : Row W0 40 (w.heap.size + 1) 0 1 [.slice none 0 0] := by rw [hW0]; exact hr2.alloc _
  rw [hW2] at hW0
  replace hc := Lib.hid hc
  replace hq1 := Lib.hid hq1
  replace hq2 := Lib.hid hq2
  replace hB0 := Lib.hid hB0
  clear hr1 hr2 hd hB2 hW2 hsz2 hd0
  go_enter Tryd.func54, Tryd.ntmps54
  go_wp2_with fail
  try simp only [World.size_alloc, Nat.add_assoc]
  rw [← hW0]
  refine (anySpecs_any _ _ 0 _ hc.out (by omega) hvb.out (by omega)).mono ?_
  rintro e w4 ⟨vs, X, rfl, hS, hF, hL, hC4, hX4⟩
  obtain ⟨ao1, c1, rfl, _, _⟩ := hS.shape
  have hKS := Lib.hid (show RKeySpecS w4 _ X _ from ⟨hS, rfl⟩)
  have hs4 := hX4.size
  have hp1 := Lib.hid (hq1.out.keptCur hX4 (by omega))
  have hp2 := Lib.hid (hq2.out.keptCur hX4 (by omega))
  have hdj : Hid (∀ b, (Value.slice ao1 X.length c1).ownBlock = some b → w.heap.size + 2 < b) := Lib.hid (fun b hb => by have := hF b hb; omega)
  have har := Lib.hid (anyRow_any _ _ _ w4 hC4 (by omega) (fun b hb => by have := hvb.out b hb; omega) (by omega))
  replace hX4 := Lib.hid hX4
  replace hW0 := Lib.hid hW0
  clear hS hF hC4 hq1 hq2 hc
  generalize X.length = xl at *
  go_wp2_with fail
  refine har.out.mono ?_
  rintro e w5 ⟨va, A, rfl, hO5, hl5, hsm5, hC5, hX5⟩
  have hs5 := hX5.size
  obtain ⟨oa, oc, rfl, _⟩ := hO5.sl
  rw [strs_length] at hO5 ⊢
  have hA5 := hO5.rstr hsm5
  have hdA : Hid (∀ b, (Value.slice oa A.length oc).ownBlock = some b → w.heap.size + 2 < b) := Lib.hid (fun b hb => by have := (hO5.lt b hb).1; omega)
  generalize A.length = al at *
  have hBa : Below w5.heap.size w5 (w5.alloc (.cells #[.slice oa al oc] 40)) := (Below.refl _ _).alloc (Nat.le_refl _) _
  have hA6 := Lib.hid (hA5.next hBa)
  have hK6 := Lib.hid (RKeySpecS.next (hKS.out.ex hX5 (fun b hb => by have := hdj.out b (by simpa using hb); simp; omega)) hBa)
  have hp3 := Lib.hid ((hp1.out.keptCur hX5 (by omega)).alloc (.cells #[.slice oa al oc] 40))
  have hp4 := Lib.hid ((hp2.out.keptCur hX5 (by omega)).alloc (.cells #[.slice oa al oc] 40))
  have hp5 := Lib.hid (Row.one1 w5 40 (.slice oa al oc))
  have hX6 := Lib.hid ((hX4.out.trans hX5).trans (Ex.of_below hBa))
  have hs6 : (w5.alloc (.cells #[.slice oa al oc] 40)).heap.size = w5.heap.size + 1 := by simp
  have hC6 := hC5.ex (Ex.of_below (F := []) hBa) (by simp) (fun _ _ => by simp)
  obtain ⟨W6, hW6⟩ : ∃ W6, W6 = w5.alloc (.cells #[.slice oa al oc] 40) := ⟨_, rfl⟩
  rw [← hW6] at hA6 hK6 hp3 hp4 hp5 hX6 hs6 hC6
  have hal := Lib.hid (anyRow_any _ _ _ W6.drew (hC6.drewN 1) (show w.heap.size + 2 < W6.heap.size by omega) (fun b hb => show b < W6.heap.size by have := hvb.out b hb; omega) (by omega))
  have hcc := hp5.out.cell1
  rw [hW6] at hal
  have hcc2 := hcc
  rw [hW6] at hcc2
  clear hA5 hBa hO5 hC5 hX5 hC6
  replace hW6 := Lib.hid hW6
  have mk := Lib.hid trivial
  go_wp2
  go_region_law (first
    | (go_simp; go_at_call 99; refine hal.out.mono ?_; rintro e w7 ⟨vb, B, rfl, hO7, hl7, hsm7, hC7, hx7⟩; clear mk; obtain ⟨ob, oc7, e7, _⟩ := hO7.sl; rw [strs_length] at e7; subst e7; have hx8 : Ex [w.heap.size + 2] W6 w7 := (by rw [hW6.out]; exact ((Ex.refl _ _).drewN 1).trans hx7); have hp6 := Lib.hid (hp3.out.keptCur hx8 (by omega)); have hp7 := Lib.hid (hp4.out.keptCur hx8 (by omega)); have cc6 := (hp5.out.keptCur hx8 (by omega)).cell1; have c1' := hp6.out.cell1; have c2' := hp7.out.cell1; have f1' := hp6.out.frozen 0; have f2' := hp7.out.frozen 0))
  all_goals
    have hlt7 : ∀ b, (Value.slice ob B.length oc7).ownBlock = some b → W6.heap.size ≤ b := fun b hb => by rw [hW6.out]; exact (hO7.lt b hb).1
    have hB7 : RStringS w7 (.slice ob B.length oc7) B (Value.slice ob B.length oc7).ownBlock.toList := hO7.rstr hsm7
    generalize B.length = bl at *
    have hx9 : Ex [w.heap.size + 2, w.heap.size, w.heap.size + 1] w7 ((w7.setCell ⟨w.heap.size, 0, none⟩ (.slice oa al oc)).setCell ⟨w.heap.size + 1, 0, none⟩ (.slice ob bl oc7)) :=
      Ex.setIn (p := ⟨w.heap.size + 1, 0, none⟩) (Ex.setIn (p := ⟨w.heap.size, 0, none⟩) (Ex.refl _ _) (by simp)) (by simp)
    have hxF := (hx8.mono (G := [w.heap.size + 2, w.heap.size, w.heap.size + 1]) (by simp)).trans hx9
    have hKF := Lib.hid (hK6.out.ex hxF (fun b hb => by have := hdj.out b (by simpa using hb); simp; omega))
    have hAF := Lib.hid (hA6.out.ex hxF (fun b hb => by have := hdA.out b (by simpa using hb); simp; omega))
    have hBF := Lib.hid (hB7.ex hx9 (fun b hb => by have := hlt7 b (by simpa using hb); simp; omega))
    have hBel := Lib.hid (Below.ex hB0.out ((hX6.out.mono (G := [w.heap.size + 2, w.heap.size, w.heap.size + 1]) (by simp)).trans hxF) (fun b hb => by simp at hb; omega))
    have n1 : ¬ w.heap.size = w.heap.size + 1 := by omega
    have n2 : ¬ w.heap.size + 1 = w.heap.size := by omega
    clear hx8 hx9 hxF hO7 hlt7 hB7 hC7 hx7
    go_wp2
    exact bodyPost_ret (v := .tuple #[.slice ao1 xl c1, .agg #[.slice oa al oc], .agg #[.slice ob bl oc7]]) (by simp [results, Tryd.results54, go_sem, c1', c2', f1', f2', n1, n2]) rfl ⟨_, X, _, _, A, _, _, B, _, rfl, hKF.out, hAF.out, hBF.out, hBel.out⟩
end Go.Proofs.YtoeonplbgbgjmaaDoor
