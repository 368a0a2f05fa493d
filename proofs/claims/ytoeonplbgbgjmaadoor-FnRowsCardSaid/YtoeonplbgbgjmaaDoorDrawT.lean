/- The draws of strings: of, any1; DrawSplitString, DrawLessString, DrawJoinStrings. -/
import Derived.Test.YtoeonplbgbgjmaaDoorMg4
import Derived.Test.YtoeonplbgbgjmaaDoorMg5
import Derived.Test.YtoeonplbgbgjmaaDoorSplW
import Derived.Laws.BytesArg
namespace Go.Proofs.YtoeonplbgbgjmaaDoor
open Go.RowKit
set_option linter.unusedVariables false
set_option linter.unusedSimpArgs false

theorem Own.keptCur {w w' : World} {e B cb : Nat} {v : Value} {xs : List Value} (h : Own w e B v xs) (hx : Ex [cb] w w') (hcb : cb < B) : Own w' e B v xs := by
  refine h.kept (r := some cb) ⟨hx.os, hx.tape, hx.output, hx.size, fun k hk hr => hx.block k hk (by simp; rintro rfl; exact hr rfl)⟩ ?_
  cases hv : v.ownBlock with
  | none => exact .inl rfl
  | some k =>
    have := (h.lt k hv).1
    exact .inr (by simp; omega)
theorem Ex.grownOwn {F : List Nat} {w0 w w' : World} {B : Nat} {v : Value} {e : Nat} {xs : List Value} (h : Ex F w0 w) (ho : Own w e B v xs) (hB : w0.heap.size ≤ B) (hg : w.grownBy w' v.ownBlock) : Ex F w0 w' :=
  ⟨hg.os.trans h.os, hg.tape.trans h.tape, hg.output.trans h.output, Nat.le_trans h.size hg.size, fun k hk hr => (hg.block k (Nat.lt_of_lt_of_le hk h.size) (by intro e; have := (ho.lt k e.symm).1; omega)).trans (h.block k hk hr)⟩
theorem Cur.grownOwn {w w' : World} {cb K B e : Nat} {v s : Value} {xs : List Value} (h : Cur w cb v K) (ho : Own w e B s xs) (hg : w.grownBy w' s.ownBlock) (hcb : cb < B) (hvb : ∀ b, v.ownBlock = some b → b < B) : Cur w' cb v K :=
  h.ex (Ex.of_grown hg) (by intro hm; have := (ho.lt cb (by simpa using hm)).1; omega) (fun b hb hm => by have := (ho.lt b (by simpa using hm)).1; have := hvb b hb; omega)
theorem infoU8 : (Tryd.prog.info? 5).map (fun i => (i.zero, i.size, i.bytes)) = some (some (.int .u8 0), 1, 1) := by kernel_rfl
theorem strOfNums_size (xs : List Int) : (strOfNums xs).size = xs.length := by simp [strOfNums, ByteArray.size]
theorem szSTo_bound {x : List ByteArray} {m : Nat} (h : ∀ i, i < x.length → (gs x i).size ≤ m) : ∀ k, k ≤ x.length → szSTo x k ≤ k * m := by
  intro k
  induction k with
  | zero => intro _; simp [szSTo]
  | succ k ih =>
    intro hk
    have h1 := ih (by omega)
    have h2 := h k (by omega)
    rw [szSTo, Nat.add_mul]; omega
theorem RdS.exc {w w' : World} {l : Value} {xs : List ByteArray} {F : List Nat} (h : RdS w l xs) (hb : Ex F w w') (hF : ∀ b, l.ownBlock = some b → ¬ b ∈ F) : RdS w' l xs := by
  obtain ⟨ao, c, rfl, h1, h2, h4, h3⟩ := h
  refine ⟨ao, c, rfl, h1, h2, h4, fun hp => ?_⟩
  obtain ⟨b, off, rfl, hr⟩ := h3 hp
  refine ⟨b, off, rfl, fun i hi => ?_⟩
  have hc := hr i hi
  rw [World.cell?_of_block (w := w) (hb.block b (block_lt_of_cell hc) (hF b rfl))]
  exact hc
theorem RdS.lits (w : World) (xs : List ByteArray) (hl : xs.length ≤ 1000) (hs : ∀ i, i < xs.length → (gs xs i).size ≤ maxLen) : RdS (w.alloc (.cells (strs xs).toArray 9)) (.slice (some ⟨w.heap.size, 0, none⟩) xs.length xs.length) xs := by
  refine ⟨_, xs.length, rfl, Nat.le_refl _, by unfold maxLen; omega, hs, fun _ => ⟨w.heap.size, 0, rfl, fun i hi => ?_⟩⟩
  have hr : Row (w.alloc (.cells (strs xs).toArray 9)) 9 w.heap.size 0 xs.length (strs xs) := by
    refine ⟨(strs xs).toArray, by show (w.heap.push _)[w.heap.size]? = _; simp, by simp, by simp, by unfold maxLen; omega, fun i hi => ?_⟩
    rw [Nat.zero_add, List.getElem?_toArray, List.getElem?_eq_getElem]
  exact hr.cellStr hi
set_option maxHeartbeats 400000 in
theorem of_any (cb : Nat) (v l : Value) (xs : List ByteArray) (K : Nat) (w : World) (h : Cur w cb v K) (hK : K ≤ 100000000) (hl : RdS w l xs) (h1 : 1 ≤ xs.length) (h2 : xs.length ≤ 1000) (hb : ∀ b, l.ownBlock = some b → b ≠ cb) :
    Calls Tryd.prog 83 #[.pointer (some ⟨cb, 0, none⟩), l] w fun e w' => (∃ i : Nat, i < xs.length ∧ e = .returned (.string (gs xs i))) ∧ Cur w' cb v (K + 2) ∧ Ex [cb] w w' := by
  have hc := Lib.hid (fun (n : Int) hn => pick_any cb v K n w h hK hn)
  clear h
  have hl2 := Lib.hid hl
  obtain ⟨ao, c, rfl, q1, q2, _⟩ := hl
  unfold maxLen at q2
  replace hb := Lib.hid hb
  generalize hn : xs.length = n at *
  replace hn := Lib.hid hn
  go_enter Tryd.func83, Tryd.ntmps83
  go_wp2_with fail
  refine (hc.out _ (by omega)).mono ?_
  rintro e w1 ⟨⟨x, rfl, hx, _⟩, hc1, hx1⟩
  have hxn := hx (by omega)
  have hr1 := hl2.out.exc hx1 (fun b hb2 h => hb.out b hb2 (by simpa using h))
  obtain ⟨a9, c9, e9, _, _, _, HR⟩ := hr1
  rw [hn.out] at e9 HR
  simp at e9
  obtain ⟨rfl, rfl⟩ := e9
  obtain ⟨b, off, rfl, hR⟩ := HR (by omega)
  have hc2 := hR x (by omega)
  replace hc1 := Lib.hid hc1
  replace hx1 := Lib.hid hx1
  clear hR HR
  generalize hg : gs xs x = y at *
  replace hg := Lib.hid hg
  have hxn2 : x < n := by omega
  go_wp2
  go_ret
  exact ⟨⟨x, by omega, by rw [hg.out]; rfl⟩, hc1.out, hx1.out⟩
def any1L : List ByteArray := [⟨#[]⟩, ⟨#[97]⟩, ⟨#[97, 44, 98]⟩, ⟨#[115, 111, 109, 101, 32, 119, 111, 114, 100, 115]⟩, ⟨#[120, 35, 121]⟩, ⟨#[45, 49, 50]⟩, ⟨#[0, 255]⟩, ⟨#[44, 44]⟩, ⟨#[48]⟩]
theorem small_all {L : List ByteArray} {m : Nat} (h : (L.all fun s => decide (s.size ≤ m)) = true) : ∀ i, i < L.length → (gs L i).size ≤ m := by
  intro i hi
  rw [gs_eq hi]
  rw [List.all_eq_true] at h
  exact of_decide_eq_true (h _ (List.getElem_mem hi))
theorem any1L_small : ∀ i, i < any1L.length → (gs any1L i).size ≤ 10 := small_all (by decide +kernel)
/-- A text of a literal list. -/
theorem of_lits (cb : Nat) (v : Value) (xs : List ByteArray) (K m : Nat) (w : World) (h : Cur w cb v K) (hcb : cb < w.heap.size) (hvb : ∀ b, v.ownBlock = some b → b < w.heap.size) (hK : K ≤ 100000000) (h1 : 1 ≤ xs.length) (h2 : xs.length ≤ 1000) (hm : m ≤ 1000000) (hs : ∀ i, i < xs.length → (gs xs i).size ≤ m) :
    Calls Tryd.prog 83 #[.pointer (some ⟨cb, 0, none⟩), .slice (some ⟨w.heap.size, 0, none⟩) xs.length xs.length] (w.alloc (.cells (strs xs).toArray 9)) fun e w' => (∃ s, e = .returned (.string s) ∧ s.size ≤ m) ∧ Cur w' cb v (K + 2) ∧ Ex [cb] w w' := by
  have hB : Below w.heap.size w (w.alloc (.cells (strs xs).toArray 9)) := (Below.refl _ _).alloc (Nat.le_refl _) _
  refine (of_any cb v _ xs K _ (h.ex (Ex.of_below (F := []) hB) (by simp) (fun _ _ => by simp)) hK (RdS.lits w xs h2 (fun i hi => by have := hs i hi; unfold maxLen; omega)) h1 h2 (by intro b hb; simp [Value.ownBlock] at hb; omega)).mono ?_
  rintro e w' ⟨⟨i, hi, rfl⟩, h3, h4⟩
  exact ⟨⟨_, rfl, hs i hi⟩, h3, (Ex.of_below (F := [cb]) hB).trans h4⟩
set_option maxHeartbeats 400000 in
theorem any1_any (cb : Nat) (v : Value) (K : Nat) (w : World) (h : Cur w cb v K) (hcb : cb < w.heap.size) (hvb : ∀ b, v.ownBlock = some b → b < w.heap.size) (hK : K ≤ 100000000) :
    Calls Tryd.prog 82 #[.pointer (some ⟨cb, 0, none⟩)] w fun e w' => (∃ s, e = .returned (.string s) ∧ s.size ≤ 10) ∧ Cur w' cb v (K + 2) ∧ Ex [cb] w w' := by
  have hal := Lib.hid (of_lits cb v any1L K 10 w h hcb hvb hK (by decide) (by decide) (by omega) any1L_small)
  clear h hvb
  go_enter Tryd.func82, Tryd.ntmps82
  go_wp2_with fail
  refine hal.out.mono ?_
  rintro e w1 ⟨⟨s, rfl, hs⟩, hc1, hx1⟩
  replace hc1 := Lib.hid hc1
  replace hx1 := Lib.hid hx1
  go_wp2
  go_ret
  exact ⟨⟨_, rfl, hs⟩, hc1.out, hx1.out⟩
theorem newCur {w : World} {o : Obj} {w' : World} (hx : Ex [w.heap.size] (w.alloc o) w') : Below w.heap.size w w' :=
  Below.ex ((Below.refl w.heap.size w).alloc (Nat.le_refl _) o) hx (fun x hx => by simp at hx; omega)
def sepsL : List ByteArray := [⟨#[44]⟩, ⟨#[44]⟩, ⟨#[32]⟩, ⟨#[]⟩, ⟨#[44, 44]⟩]
theorem sepsL_small : ∀ i, i < sepsL.length → (gs sepsL i).size ≤ 10 := small_all (by decide +kernel)
def sepjL : List ByteArray := [⟨#[44]⟩, ⟨#[59]⟩, ⟨#[59]⟩, ⟨#[]⟩, ⟨#[97, 98]⟩]
theorem sepjL_small : ∀ i, i < sepjL.length → (gs sepjL i).size ≤ 10 := small_all (by decide +kernel)
set_option maxRecDepth 10000 in
set_option maxHeartbeats 1000000 in
theorem DrawSplitString_law {d : Value} {w : World} (h : RdBy w d) (hd : ∀ b, d.ownBlock = some b → b < w.heap.size) :
    Calls Tryd.prog 33 #[d] w fun e w' => ∃ s t : ByteArray, e = .returned (.tuple #[.string s, .string t]) ∧ s.size ≤ 10 ∧ t.size ≤ 10 ∧ Below w.heap.size w w' := by
  have hc := Lib.hid (Cur.start h hd)
  obtain ⟨ao, n, c, rfl, h1, h2, _⟩ := h
  have hvb : Hid (∀ b, (Value.slice ao n c).ownBlock = some b → b < (w.alloc (.cells #[.slice ao n c, .int .i64 0, .int .u64 0] 99)).heap.size) := Lib.hid (fun b hb => by have := hd b hb; simp; omega)
  have hcb : w.heap.size < (w.alloc (.cells #[.slice ao n c, .int .i64 0, .int .u64 0] 99)).heap.size := by simp
  have hfin := Lib.hid (fun (w' : World) hx => newCur (w := w) (o := .cells #[.slice ao n c, .int .i64 0, .int .u64 0] 99) (w' := w') hx)
  clear hd
  go_enter Tryd.func33, Tryd.ntmps33
  go_wp2_with fail
  refine (any1_any _ _ 0 _ hc.out hcb hvb.out (by omega)).mono ?_
  rintro e w1 ⟨⟨s, rfl, hs⟩, hc1, hx1⟩
  have hsz := hx1.size
  have hcb1 : w.heap.size < w1.heap.size := by omega
  have hvb1 : Hid (∀ b, (Value.slice ao n c).ownBlock = some b → b < w1.heap.size) := Lib.hid (fun b hb => by have := hvb.out b hb; omega)
  have hal := Lib.hid (of_lits _ _ sepsL _ 10 w1 hc1 hcb1 hvb1.out (by omega) (by decide) (by decide) (by omega) sepsL_small)
  replace hx1 := Lib.hid hx1
  clear hc1 hsz
  go_wp2_with fail
  refine hal.out.mono ?_
  rintro e w2 ⟨⟨t, rfl, ht⟩, hc2, hx2⟩
  have hB := Lib.hid (hfin.out _ (hx1.out.trans hx2))
  clear hc2 hx2
  go_wp2
  go_ret2
  exact ⟨s, t, rfl, hs, ht, hB.out⟩
set_option maxRecDepth 10000 in
set_option maxHeartbeats 1000000 in
theorem DrawLessString_law {d : Value} {w : World} (h : RdBy w d) (hd : ∀ b, d.ownBlock = some b → b < w.heap.size) :
    Calls Tryd.prog 38 #[d] w fun e w' => ∃ s t : ByteArray, e = .returned (.tuple #[.string s, .string t]) ∧ s.size ≤ 10 ∧ t.size ≤ 10 ∧ Below w.heap.size w w' := by
  have hc := Lib.hid (Cur.start h hd)
  obtain ⟨ao, n, c, rfl, h1, h2, _⟩ := h
  have hvb : Hid (∀ b, (Value.slice ao n c).ownBlock = some b → b < (w.alloc (.cells #[.slice ao n c, .int .i64 0, .int .u64 0] 99)).heap.size) := Lib.hid (fun b hb => by have := hd b hb; simp; omega)
  have hcb : w.heap.size < (w.alloc (.cells #[.slice ao n c, .int .i64 0, .int .u64 0] 99)).heap.size := by simp
  have hfin := Lib.hid (fun (w' : World) hx => newCur (w := w) (o := .cells #[.slice ao n c, .int .i64 0, .int .u64 0] 99) (w' := w') hx)
  clear hd
  go_enter Tryd.func38, Tryd.ntmps38
  go_wp2_with fail
  refine (any1_any _ _ 0 _ hc.out hcb hvb.out (by omega)).mono ?_
  rintro e w1 ⟨⟨s, rfl, hs⟩, hc1, hx1⟩
  have hsz := hx1.size
  have hcb1 : w.heap.size < w1.heap.size := by omega
  have hvb1 : Hid (∀ b, (Value.slice ao n c).ownBlock = some b → b < w1.heap.size) := Lib.hid (fun b hb => by have := hvb.out b hb; omega)
  have hal := Lib.hid (any1_any _ _ _ w1 hc1 hcb1 hvb1.out (by omega))
  replace hx1 := Lib.hid hx1
  clear hc1 hsz
  go_wp2_with fail
  refine hal.out.mono ?_
  rintro e w2 ⟨⟨t, rfl, ht⟩, hc2, hx2⟩
  have hB := Lib.hid (hfin.out _ (hx1.out.trans hx2))
  clear hc2 hx2
  go_wp2
  go_ret2
  exact ⟨s, t, rfl, hs, ht, hB.out⟩
theorem gs_snoc_lt {L : List ByteArray} {s : ByteArray} {i : Nat} (h : i < L.length) : gs (L ++ [s]) i = gs L i := by simp [gs, List.getD_eq_getElem?_getD, List.getElem?_append_left h]
theorem gs_snoc_eq {L : List ByteArray} {s : ByteArray} : gs (L ++ [s]) L.length = s := by simp [gs]
theorem snoc_small {L : List ByteArray} {s : ByteArray} {m : Nat} (h : ∀ i, i < L.length → (gs L i).size ≤ m) (hs : s.size ≤ m) : ∀ i, i < (L ++ [s]).length → (gs (L ++ [s]) i).size ≤ m := by
  intro i hi
  by_cases e : i < L.length
  · rw [gs_snoc_lt e]; exact h i e
  · have : i = L.length := by simp at hi; omega
    subst this
    rw [gs_snoc_eq]; exact hs
set_option maxRecDepth 10000 in
set_option maxHeartbeats 4000000 in
theorem DrawJoinStrings_law {d : Value} {w : World} (h : RdBy w d) (hd : ∀ b, d.ownBlock = some b → b < w.heap.size) :
    Calls Tryd.prog 35 #[d] w fun e w' => ∃ (r : Value) (L : List ByteArray) (F : List Nat) (t : ByteArray), e = .returned (.tuple #[r, .string t]) ∧ RStringS w' r L F ∧ Fr w.heap.size F ∧ t.size ≤ 10 ∧ L.length ≤ 4 ∧ szStringS L ≤ 100000 ∧ Below w.heap.size w w' := by
  have hc := Lib.hid (Cur.start h hd)
  obtain ⟨ao, n, c, rfl, h1, h2, _⟩ := h
  obtain ⟨W0, hW0⟩ : ∃ W0, W0 = w.alloc (.cells #[.slice ao n c, .int .i64 0, .int .u64 0] 99) := ⟨_, rfl⟩
  have hsz0 : W0.heap.size = w.heap.size + 1 := by rw [hW0]; simp
  have hvb : Hid (∀ b, (Value.slice ao n c).ownBlock = some b → b < W0.heap.size) := Lib.hid (fun b hb => by have := hd b hb; omega)
  have hcb : w.heap.size < W0.heap.size := by omega
  have hfin := Lib.hid (fun (w' : World) hx => newCur (w := w) (o := .cells #[.slice ao n c, .int .i64 0, .int .u64 0] 99) (w' := w') hx)
  rw [← hW0] at hc hfin
  have hB0 : Below W0.heap.size W0 (W0.alloc (.cells #[] 9)) := (Below.refl _ _).alloc (Nat.le_refl _) _
  have ho0 : Hid (Own (W0.alloc (.cells #[] 9)) 9 (w.heap.size + 1) (.slice (some ⟨w.heap.size + 1, 0, none⟩) 0 0) []) := Lib.hid (by have := Own.empty W0 9; rwa [hsz0] at this)
  have hc0 := Lib.hid (hc.out.ex (Ex.of_below (F := []) hB0) (by simp) (fun _ _ => by simp))
  have hx0 := Lib.hid (Ex.of_below (F := [w.heap.size]) hB0)
  obtain ⟨i8, hi8, hz8, hz1, hz2⟩ := info_parts infoU8
  clear hd hB0 hc
  go_enter Tryd.func35, Tryd.ntmps35
  go_wp2_with fail
  rw [← hW0]
  refine (pick_any _ _ 0 4 _ hc0.out (by omega) (by omega)).mono ?_
  rintro e w1 ⟨⟨N, rfl, hN, _⟩, hc1, hx1⟩
  have hN4 := hN (by omega)
  have ho1 := Lib.hid (ho0.out.keptCur hx1 (by omega))
  have hX1 := Lib.hid (hx0.out.trans hx1)
  replace hc1 := Lib.hid hc1
  replace hW0 := Lib.hid hW0
  clear hN hx1 ho0 hc0 hx0
  go_wp2
  go_loopw [5, 7] (fun o iv wr => ∃ (i : Nat) (L : List ByteArray), (i ≤ N ∨ i = 0) ∧ iv = .int .i64 (i : Nat) ∧ L.length = i ∧ Own wr 9 (w.heap.size + 1) o (strs L) ∧ Hid (∀ j, j < L.length → (gs L j).size ≤ 10) ∧ Cur wr w.heap.size (.slice ao n c) (2 + 2 * i) ∧ Ex [w.heap.size] W0 wr) (fun _ iv _ => N - (intOf iv).toNat)
  case atStart => exact ⟨0, [], .inr rfl, rfl, rfl, ho1.out, Lib.hid (fun j hj => absurd hj (by simp)), hc1.out.le (by omega), hX1.out⟩
  case round =>
    clear ho1 hc1 hX1
    obtain ⟨i, L, hi, rfl, hL, hO, hS, hC, hX⟩ := hrel
    have hszr := hX.size
    have hcbr : w.heap.size < wr.heap.size := by omega
    have hvbr : Hid (∀ b, (Value.slice ao n c).ownBlock = some b → b < wr.heap.size) := Lib.hid (fun b hb => by have := hvb.out b hb; omega)
    by_cases hlt : (i : Int) < (N : Int)
    · have hal := Lib.hid (any1_any _ _ _ wr hC hcbr hvbr.out (by omega))
      replace hO := Lib.hid hO
      replace hX := Lib.hid hX
      clear hC
      go_wp2_with fail
      refine hal.out.mono ?_
      rintro e w2 ⟨⟨s, rfl, hs⟩, hc2, hx2⟩
      have hO2 := Lib.hid (hO.out.keptCur hx2 (by omega))
      have hX2 := Lib.hid (hX.out.trans hx2)
      have hs2 : w.heap.size + 1 ≤ w2.heap.size := by have := hX2.out.size; omega
      have hl2 : (strs L).length ≤ 1000000000 := by simp; omega
      replace hc2 := Lib.hid hc2
      clear hx2 hO hX hal
      go_wp2_with (at_builtin; refine append_one_at eltStr rfl _ _ rfl (w.heap.size + 1) _ _ rfl hO2.out rfl rfl hl2 hs2 ?_)
      intro v3 w3 ho3 hg3 _
      have hX3 := Lib.hid (hX2.out.grownOwn hO2.out (by omega) hg3)
      have hc3 := Lib.hid (hc2.out.grownOwn hO2.out hg3 (by omega) (fun b hb => by have := hvb.out b hb; omega))
      have ho4 : Hid (Own w3 9 (w.heap.size + 1) v3 (strs (L ++ [s]))) := Lib.hid (by rw [strs_snoc]; exact ho3)
      have hS3 := Lib.hid (snoc_small hS.out hs)
      clear ho3 hg3
      go_wp2
      go_roundw
      case rel => exact ⟨i + 1, L ++ [s], by omega, by go_num, by simp [hL], ho4.out, hS3, hc3.out.le (by omega), hX3.out⟩
      case measure => simp [intOf]; omega
    · have hi4 : i ≤ 3 := by omega
      have hal := Lib.hid (one_any w.heap.size (.slice ao n c) _ 20 wr hC (by omega) (by omega))
      replace hO := Lib.hid hO
      replace hX := Lib.hid hX
      clear hC
      go_wp2_with fail
      refine hal.out.mono ?_
      rintro e w2 ⟨⟨b, rfl⟩, hc2, hx2⟩
      have hO2 := Lib.hid (hO.out.keptCur hx2 (by omega))
      have hX2 := Lib.hid (hX.out.trans hx2)
      have hs2 : w.heap.size + 1 ≤ w2.heap.size := by have := hX2.out.size; omega
      have hl2 : (strs L).length ≤ 1000000000 := by simp; omega
      replace hc2 := Lib.hid hc2
      clear hx2 hO hX hal
      cases b
      · have hcb2 : w.heap.size < w2.heap.size := by omega
        have hvb2 : Hid (∀ b, (Value.slice ao n c).ownBlock = some b → b < w2.heap.size) := Lib.hid (fun b hb => by have := hvb.out b hb; omega)
        have hal := Lib.hid (of_lits _ _ sepjL _ 10 w2 hc2.out hcb2 hvb2.out (by omega) (by decide) (by decide) (by omega) sepjL_small)
        have hzL := szSTo_bound hS.out L.length (Nat.le_refl _)
        go_wp2_with fail
        refine hal.out.mono ?_
        rintro e w4 ⟨⟨t, rfl, ht⟩, hc4, hx4⟩
        have hO4 := hO2.out.keptCur hx4 (by omega)
        have hB4 := Lib.hid (hfin.out _ (hX2.out.trans hx4))
        have hR4 : Hid (RStringS w4 _ L _) := Lib.hid ⟨⟨hO4.sl, fun i hi => by have := hS.out i hi; unfold maxLen; omega⟩, rfl⟩
        have hF4 := Lib.hid (fun b hb => Nat.le_trans (show w.heap.size ≤ w.heap.size + 1 by omega) (hO4.lt b hb).1)
        clear hO4 hc4 hx4 hc2 hal
        go_wp2
        go_ret2
        exact ⟨_, L, _, t, rfl, hR4.out, fun b hb => hF4.out b (by simpa using hb), ht, by omega, by unfold szStringS; omega, hB4.out⟩
      · have hal := Lib.hid (pick_any w.heap.size (.slice ao n c) _ 20 w2 hc2.out (by omega) (by omega))
        clear hc2
        go_wp2_with fail
        refine hal.out.mono ?_
        rintro e w3 ⟨⟨m, rfl, hm, _⟩, hc3, hx3⟩
        have hm20 := hm (by omega)
        have hO3 := Lib.hid (hO2.out.keptCur hx3 (by omega))
        have hX3 := Lib.hid (hX2.out.trans hx3)
        replace hc3 := Lib.hid hc3
        clear hx3 hO2 hX2 hs2 hm hal
        obtain ⟨M, hM⟩ : ∃ M : Nat, (M : Int) = 3990 + (m : Int) := ⟨3990 + m, by omega⟩
        have hwM : IntKind.i64.wrap (3990 + (m : Int)) = (M : Int) := by rw [hM]; exact IntWalk.i64_in _ (by omega)
        have hMb : M ≤ 5000 := by omega
        clear hM
        go_wp2_with (at_make; refine wpList_make_full _ rfl _ _ 53 rfl w3.heap.size 5 i8 (.int .u8 0) 1 Tryd.underlying53 hi8 hz8 hz1 _ _ _ _ M rfl rfl rfl rfl (by rw [hz2]; omega) (by unfold maxLen; omega) (Nat.le_refl _) ?_)
        intro w4 hown hgrow
        have hrow := Row.of_owns hown
        rw [toList_madeCells_one] at hrow
        have hX4 := Lib.hid (hX3.out.trans (Ex.of_below (F := [w.heap.size]) (grownBy.below hgrow)))
        have hO4 := Lib.hid (hO3.out.kept hgrow (by cases e : Value.ownBlock _ with
          | none => exact .inl rfl
          | some q => exact .inr (by simp)))
        have hc4 := Lib.hid (hc3.out.ex (Ex.of_below (F := []) (grownBy.below hgrow)) (by simp) (fun _ _ => by simp))
        obtain ⟨S, hSd⟩ : ∃ S, S = strOfNums (List.replicate M 0) := ⟨_, rfl⟩
        have hSz : S.size = M := by rw [hSd, strOfNums_size]; simp
        have hcv : (convert 53 9 (.slice (some ⟨w3.heap.size, 0, none⟩) M M)).run Tryd.prog w4 = .ok (.string S) w4 := by
          rw [hSd]
          exact run_convert_bytes_arg w4 _ _ Tryd.underlying53 Tryd.underlying5 w3.heap.size 0 M M (List.replicate M 0) (by simp) (fun i hi => by
            have := hrow.cell (i := i) (by simp; omega)
            rw [this]
            simp [List.getD_eq_getElem?_getD, hi]) _ Tryd.underlying9
        have hs4 : w.heap.size + 1 ≤ w4.heap.size := by have := hX4.out.size; omega
        replace hSd := Lib.hid hSd
        clear hown hgrow hrow hO3 hX3 hc3
        go_wp2_with (at_builtin; refine append_one_at eltStr rfl _ _ rfl (w.heap.size + 1) _ _ rfl hO4.out rfl rfl hl2 hs4 ?_)
        intro v5 w5 ho5 hg5 _
        have hX5 := Lib.hid (hX4.out.grownOwn hO4.out (by omega) hg5)
        have hc5 := Lib.hid (hc4.out.grownOwn hO4.out hg5 (by omega) (fun b hb => by have := hvb.out b hb; omega))
        have ho6 : Hid (Own w5 9 (w.heap.size + 1) v5 (strs (L ++ [S]))) := Lib.hid (by rw [strs_snoc]; exact ho5)
        have hS5 := Lib.hid (snoc_small (m := 5000) (fun j hj => by have := hS.out j hj; omega) (show S.size ≤ 5000 by omega))
        have hs5 : w.heap.size + 1 ≤ w5.heap.size := by have := hX5.out.size; omega
        clear ho5 hg5 hO4 hX4 hc4
        have hcb2 : w.heap.size < w5.heap.size := by omega
        have hvb2 : Hid (∀ b, (Value.slice ao n c).ownBlock = some b → b < w5.heap.size) := Lib.hid (fun b hb => by have := hvb.out b hb; omega)
        have hal := Lib.hid (of_lits _ _ sepjL _ 10 w5 hc5.out hcb2 hvb2.out (by omega) (by decide) (by decide) (by omega) sepjL_small)
        have hzL := szSTo_bound hS5.out (L ++ [S]).length (Nat.le_refl _)
        have hll : (L ++ [S]).length = i + 1 := by simp [hL]
        rw [hll] at hzL
        replace hzL := Lib.hid hzL
        replace hll := Lib.hid hll
        go_wp2_with fail
        refine hal.out.mono ?_
        rintro e w6 ⟨⟨t, rfl, ht⟩, hc6, hx6⟩
        have hO7 := ho6.out.keptCur hx6 (by omega)
        have hB7 := Lib.hid (hfin.out _ (hX5.out.trans hx6))
        have hR7 : Hid (RStringS w6 _ (L ++ [S]) _) := Lib.hid ⟨⟨hO7.sl, fun i hi => by have := hS5.out i hi; unfold maxLen; omega⟩, rfl⟩
        have hF7 := Lib.hid (fun b hb => Nat.le_trans (show w.heap.size ≤ w.heap.size + 1 by omega) (hO7.lt b hb).1)
        clear hO7 hc6 hx6 hc5 hal
        go_wp2
        go_ret2
        have hzz := hzL.out
        have hl8 := hll.out
        exact ⟨_, L ++ [S], _, t, rfl, hR7.out, fun b hb => hF7.out b (by simpa using hb), ht, by omega, by unfold szStringS; rw [hl8]; omega, hB7.out⟩
end Go.Proofs.YtoeonplbgbgjmaaDoor
