/- The draws: DrawShellSort. -/
import Derived.Test.YtbfffpdcpoejnaaDrawL
namespace Go.Proofs.Ytbfffpdcpoejnaa
open Go.RowKit
set_option linter.unusedVariables false
set_option linter.unusedSimpArgs false

/-- A literal list, owned. -/
theorem Own.lits (w : World) (B : Nat) (xs : List Int) (n : Nat) (hn : xs.length = n) (hl : n ≤ 1000) (hB : B ≤ w.heap.size) : Own (w.alloc (.cells (ints xs).toArray 3)) 3 B (.slice (some ⟨w.heap.size, 0, none⟩) n n) (ints xs) := by
  subst hn
  have h := Row.owns (w := w.alloc (.cells (ints xs).toArray 3)) (e := 3) (g := w.heap.size) (cap := xs.length) (xs := ints xs) (cs := (ints xs).toArray) (by show (w.heap.push _)[w.heap.size]? = _; simp) (by simp) (by simp) (by unfold maxLen; omega) (by show List.take _ _ = _; exact List.take_length)
  rw [ints_length] at h
  have h2 : Own (w.alloc (.cells (ints xs).toArray 3)) 3 w.heap.size (.slice (some ⟨w.heap.size, 0, none⟩) xs.length xs.length) (ints xs) := by
    unfold Own; rw [ints_length]; exact h
  exact h2.base hB
theorem Sl.cutInts {w : World} {e n c k : Nat} {ao : Option Addr} {xs : List Int} (h : Sl w e (.slice ao n c) (ints xs)) (hk : k ≤ n) : Sl w e (.slice ao k c) (ints (xs.take k)) := by
  obtain ⟨ao', c', hv, h⟩ := h
  simp at hv
  obtain ⟨rfl, rfl, rfl⟩ := hv
  rcases h with ⟨rfl, h, rfl⟩ | ⟨b, off, rfl, hr⟩
  · have : xs = [] := by simpa [ints] using h
    subst this
    obtain rfl : k = 0 := by simp at hk; exact hk
    exact Sl.nil _ _
  · have h2 := Sl.of_row (hr.take k)
    have e1 : (ints xs).take k = ints (xs.take k) := by simp [ints, List.map_take]
    rw [e1] at h2
    have e2 : (ints (xs.take k)).length = k := by simp; omega
    rwa [e2] at h2

theorem Own.sep {w : World} {e B : Nat} {v : Value} {xs : List Value} (h : Own w e B v xs) : v.ownBlock = none ∨ v.ownBlock ≠ some w.heap.size := by
  cases hv : v.ownBlock with
  | none => exact .inl rfl
  | some k => have := (h.lt k hv).2; exact .inr (by simp; omega)

set_option maxRecDepth 10000 in
set_option maxHeartbeats 8000000 in
theorem DrawShellSort_law {d : Value} {w : World} (h : RdBy w d) (hd : ∀ b, d.ownBlock = some b → b < w.heap.size) :
    Calls Try.prog 43 #[d] w fun e w' => ∃ (r : Value) (L : List Int) (F : List Nat) (s : Value) (M : List Int) (G : List Nat), e = .returned (.tuple #[r, s]) ∧ RIntS w' r L F ∧ RIntS w' s M G ∧ Below w.heap.size w w' ∧ L.length ≤ 100 ∧ M.length ≤ 100 := by
  have hc := Lib.hid (Cur.start h hd)
  obtain ⟨ao, n, c, rfl, h1, h2, _⟩ := h
  have hvb : Hid (∀ b, (Value.slice ao n c).ownBlock = some b → b < (w.alloc (.cells #[.slice ao n c, .int .i64 0, .int .u64 0] 60)).heap.size) := Lib.hid (fun b hb => by have := hd b hb; simp; omega)
  have hcb : w.heap.size < (w.alloc (.cells #[.slice ao n c, .int .i64 0, .int .u64 0] 60)).heap.size := by simp
  have hfin := Lib.hid (fun (w' : World) (r : Value) (L : List Int) hO hx => drawn (w := w) (o := .cells #[.slice ao n c, .int .i64 0, .int .u64 0] 60) (w' := w') (r := r) (L := L) hO hx)
  clear hd
  go_enter Try.func43, Try.ntmps43
  go_wp2_with fail
  refine (anyInts_any w.heap.size _ 0 _ hc.out hcb hvb.out (by omega)).mono ?_
  rintro e w1 ⟨r, L, rfl, hO, hL, hc1, hx1⟩
  obtain ⟨bo, dc, rfl, _, _, _, _⟩ := hO.sl.openInts
  generalize hw0 : w.alloc (.cells #[.slice ao n c, .int .i64 0, .int .u64 0] 60) = w0 at *
  replace hw0 := Lib.hid hw0
  have hs1 := hx1.size
  clear hc
  have hsep1 := hO.sep
  have hG := Lib.hid (Own.lits w1 w0.heap.size [1] 1 rfl (by omega) hs1)
  have hB : Below w1.heap.size w1 (w1.alloc (.cells (ints [1]).toArray 3)) := (Below.refl _ _).alloc (Nat.le_refl _) _
  have hO1 := Lib.hid (hO.exc (Ex.of_below (F := [w.heap.size]) hB) hcb)
  have hcA := Lib.hid (hc1.ex (Ex.of_below (F := []) hB) (by simp) (fun _ _ => by simp))
  have hxA := Lib.hid (hx1.trans (Ex.of_below hB))
  clear hB hO hc1 hx1
  go_wp2_with fail
  refine (pick_any w.heap.size _ _ 5 _ hcA.out (by omega) (by omega)).mono ?_
  rintro e w2 ⟨⟨x, rfl, hx5, _⟩, hc2, hx2⟩
  have hx3 := Lib.hid (hxA.out.trans hx2)
  have hO2 := Lib.hid (hO1.out.exc hx2 hcb)
  have hG2 := Lib.hid (hG.out.exc hx2 hcb)
  have hs2 := hx3.out.size
  replace hc2 := Lib.hid hc2
  clear hx2 hO1 hG hcA hxA hx5
  by_cases x0 : x = 0
  · subst x0
    have hsep2 := hO2.out.sep
    have hG3 := Lib.hid (Own.lits w2 w0.heap.size [3, 1] 2 rfl (by omega) hs2)
    have hB : Below w2.heap.size w2 (w2.alloc (.cells (ints [3, 1]).toArray 3)) := (Below.refl _ _).alloc (Nat.le_refl _) _
    have hO3 := Lib.hid (hO2.out.exc (Ex.of_below (F := [w.heap.size]) hB) hcb)
    have hc3 := Lib.hid (hc2.out.ex (Ex.of_below (F := []) hB) (by simp) (fun _ _ => by simp))
    have hxB := Lib.hid (hx3.out.trans (Ex.of_below hB))
    clear hB hO2 hG2 hc2 hx3 hsep1
    replace hsep2 := Lib.hid hsep2
    have hs3 := hxB.out.size
    go_wp2_with fail
    refine (pick_any w.heap.size _ _ 12 _ hc3.out (by omega) (by omega)).mono ?_
    rintro e w4 ⟨⟨y, rfl, hy12, _⟩, hc4, hx4⟩
    have hx5 := Lib.hid (hxB.out.trans hx4)
    have hO4 := Lib.hid (hO3.out.exc hx4 hcb)
    have hG4 := Lib.hid (hG3.out.exc hx4 hcb)
    have hs4 := hx5.out.size
    replace hc4 := Lib.hid hc4
    clear hx4 hy12 hO3 hG3 hc3 hxB
    by_cases y0 : y = 0
    · subst y0
      go_wp2_with fail
      refine (pick_any w.heap.size _ _ 70 _ hc4.out (by omega) (by omega)).mono ?_
      rintro e w6 ⟨⟨z, rfl, _, _⟩, hc6, hx6⟩
      have hx7 := hx5.out.trans hx6
      have hs6 := hx7.size
      have hO6 := hO4.out.exc hx6 hcb
      have hG6 := hG4.out.exc hx6 hcb
      have hB : Below w6.heap.size w6 (w6.alloc (.cells (ints [(z : Int)]).toArray 3)) := (Below.refl _ _).alloc (Nat.le_refl _) _
      have hse := Lib.hid hO6.sep
      have hO7 := Lib.hid (hO6.exc (Ex.of_below (F := [w.heap.size]) hB) hcb)
      have hG7 := Lib.hid (RdV.of_sl (hG6.exc (Ex.of_below (F := [w.heap.size]) hB) hcb).sl)
      have hZ := Lib.hid (Own.lits w6 w0.heap.size [(z : Int)] 1 rfl (by omega) hs6)
      have hx8 := Lib.hid (hx7.trans (Ex.of_below hB))
      have hsz := hx8.out.size
      clear hB hG6 hO6 hx7 hx6 hx5 hO4 hG4 hc4 hc6 hsep2
      go_wp2_with (at_builtin; refine wpList_append_all eltInt rfl _ _ rfl w0.heap.size _ _ rfl hZ.out _ _ rfl hG7.out (ints_one _) (by simp) hsz ?_; intro v7 w7 ho7 hg7)
      have hO8 := hO7.out.kept hg7 hse.out
      have hx9 := hx8.out.appended hZ.out hg7
      have hM : Own w7 3 w0.heap.size v7 (ints ([(z : Int)] ++ [3, 1])) := by simpa [ints] using ho7
      go_ret2
      exact ⟨_, L, _, _, _, _, rfl, (hfin.out _ _ _ hO8 hx9).1, (hfin.out _ _ _ hM hx9).1, (hfin.out _ _ _ hO8 hx9).2.2, hL, by simp⟩
    · by_cases y1 : y = 1
      · subst y1
        go_wp2_with fail
        refine (pick_any w.heap.size _ _ 2 _ hc4.out (by omega) (by omega)).mono ?_
        rintro e w6 ⟨⟨z, rfl, _, _⟩, hc6, hx6⟩
        have hx7 := Lib.hid (hx5.out.trans hx6)
        have hs6 := hx7.out.size
        have hO6 := Lib.hid (hO4.out.exc hx6 hcb)
        have hG6 := Lib.hid (hG4.out.exc hx6 hcb)
        have hl6 : (ints [3, 1]).length ≤ 1000000000 := by simp
        clear hx6 hx5 hO4 hG4 hc4 hc6
        go_wp2_with (at_builtin; refine append_one_at eltInt rfl _ _ rfl w0.heap.size _ _ rfl hG6.out rfl rfl hl6 hs6 ?_; intro v7 w7 ho7 hg7 _)
        have hO8 := hO6.out.kept hg7 hsep2.out
        have hx9 := hx7.out.appended hG6.out hg7
        have hM : Own w7 3 w0.heap.size v7 (ints ([3, 1] ++ [(z : Int)])) := by simpa [ints] using ho7
        go_ret2
        exact ⟨_, L, _, _, _, _, rfl, (hfin.out _ _ _ hO8 hx9).1, (hfin.out _ _ _ hM hx9).1, (hfin.out _ _ _ hO8 hx9).2.2, hL, by simp⟩
      · by_cases y2 : y = 2
        · subst y2
          go_wp2_with fail
          refine (pick_any w.heap.size _ _ 2 _ hc4.out (by omega) (by omega)).mono ?_
          rintro e w6 ⟨⟨z, rfl, hz1, hz2⟩, hc6, hx6⟩
          have hz : z < 2 := by have := hz1 (by omega); omega
          have hx7 := Lib.hid (hx5.out.trans hx6)
          have hO6 := Lib.hid (hO4.out.exc hx6 hcb)
          have hG6 := Lib.hid ((hG4.out.exc hx6 hcb).sl.cutInts (k := z) (by omega))
          clear hx6 hx5 hO4 hG4 hc4 hc6 hz1 hz2
          go_wp2
          go_ret2
          exact ⟨_, L, _, _, _, _, rfl, (hfin.out _ _ _ hO6.out hx7.out).1, ⟨hG6.out, rfl⟩, (hfin.out _ _ _ hO6.out hx7.out).2.2, hL, by simp; omega⟩
        · have e0 : ((y : Int) == 0) = false := by simp; omega
          have e1 : ((y : Int) == 1) = false := by simp; omega
          have e2 : ((y : Int) == 2) = false := by simp; omega
          go_wp2
          go_ret2
          exact ⟨_, L, _, _, _, _, rfl, (hfin.out _ _ _ hO4.out hx5.out).1, (hfin.out _ _ _ hG4.out hx5.out).1, (hfin.out _ _ _ hO4.out hx5.out).2.2, hL, by simp⟩
  · skip
    by_cases x1 : x = 1
    · subst x1
      have hsep2 := hO2.out.sep
      have hG3 := Lib.hid (Own.lits w2 w0.heap.size [7, 4, 1] 3 rfl (by omega) hs2)
      have hB : Below w2.heap.size w2 (w2.alloc (.cells (ints [7, 4, 1]).toArray 3)) := (Below.refl _ _).alloc (Nat.le_refl _) _
      have hO3 := Lib.hid (hO2.out.exc (Ex.of_below (F := [w.heap.size]) hB) hcb)
      have hc3 := Lib.hid (hc2.out.ex (Ex.of_below (F := []) hB) (by simp) (fun _ _ => by simp))
      have hxB := Lib.hid (hx3.out.trans (Ex.of_below hB))
      clear hB hO2 hG2 hc2 hx3 hsep1
      replace hsep2 := Lib.hid hsep2
      have hs3 := hxB.out.size
      go_wp2_with fail
      refine (pick_any w.heap.size _ _ 12 _ hc3.out (by omega) (by omega)).mono ?_
      rintro e w4 ⟨⟨y, rfl, hy12, _⟩, hc4, hx4⟩
      have hx5 := Lib.hid (hxB.out.trans hx4)
      have hO4 := Lib.hid (hO3.out.exc hx4 hcb)
      have hG4 := Lib.hid (hG3.out.exc hx4 hcb)
      have hs4 := hx5.out.size
      replace hc4 := Lib.hid hc4
      clear hx4 hy12 hO3 hG3 hc3 hxB
      by_cases y0 : y = 0
      · subst y0
        go_wp2_with fail
        refine (pick_any w.heap.size _ _ 70 _ hc4.out (by omega) (by omega)).mono ?_
        rintro e w6 ⟨⟨z, rfl, _, _⟩, hc6, hx6⟩
        have hx7 := hx5.out.trans hx6
        have hs6 := hx7.size
        have hO6 := hO4.out.exc hx6 hcb
        have hG6 := hG4.out.exc hx6 hcb
        have hB : Below w6.heap.size w6 (w6.alloc (.cells (ints [(z : Int)]).toArray 3)) := (Below.refl _ _).alloc (Nat.le_refl _) _
        have hse := Lib.hid hO6.sep
        have hO7 := Lib.hid (hO6.exc (Ex.of_below (F := [w.heap.size]) hB) hcb)
        have hG7 := Lib.hid (RdV.of_sl (hG6.exc (Ex.of_below (F := [w.heap.size]) hB) hcb).sl)
        have hZ := Lib.hid (Own.lits w6 w0.heap.size [(z : Int)] 1 rfl (by omega) hs6)
        have hx8 := Lib.hid (hx7.trans (Ex.of_below hB))
        have hsz := hx8.out.size
        clear hB hG6 hO6 hx7 hx6 hx5 hO4 hG4 hc4 hc6 hsep2
        go_wp2_with (at_builtin; refine wpList_append_all eltInt rfl _ _ rfl w0.heap.size _ _ rfl hZ.out _ _ rfl hG7.out (ints_one _) (by simp) hsz ?_; intro v7 w7 ho7 hg7)
        have hO8 := hO7.out.kept hg7 hse.out
        have hx9 := hx8.out.appended hZ.out hg7
        have hM : Own w7 3 w0.heap.size v7 (ints ([(z : Int)] ++ [7, 4, 1])) := by simpa [ints] using ho7
        go_ret2
        exact ⟨_, L, _, _, _, _, rfl, (hfin.out _ _ _ hO8 hx9).1, (hfin.out _ _ _ hM hx9).1, (hfin.out _ _ _ hO8 hx9).2.2, hL, by simp⟩
      · by_cases y1 : y = 1
        · subst y1
          go_wp2_with fail
          refine (pick_any w.heap.size _ _ 2 _ hc4.out (by omega) (by omega)).mono ?_
          rintro e w6 ⟨⟨z, rfl, _, _⟩, hc6, hx6⟩
          have hx7 := Lib.hid (hx5.out.trans hx6)
          have hs6 := hx7.out.size
          have hO6 := Lib.hid (hO4.out.exc hx6 hcb)
          have hG6 := Lib.hid (hG4.out.exc hx6 hcb)
          have hl6 : (ints [7, 4, 1]).length ≤ 1000000000 := by simp
          clear hx6 hx5 hO4 hG4 hc4 hc6
          go_wp2_with (at_builtin; refine append_one_at eltInt rfl _ _ rfl w0.heap.size _ _ rfl hG6.out rfl rfl hl6 hs6 ?_; intro v7 w7 ho7 hg7 _)
          have hO8 := hO6.out.kept hg7 hsep2.out
          have hx9 := hx7.out.appended hG6.out hg7
          have hM : Own w7 3 w0.heap.size v7 (ints ([7, 4, 1] ++ [(z : Int)])) := by simpa [ints] using ho7
          go_ret2
          exact ⟨_, L, _, _, _, _, rfl, (hfin.out _ _ _ hO8 hx9).1, (hfin.out _ _ _ hM hx9).1, (hfin.out _ _ _ hO8 hx9).2.2, hL, by simp⟩
        · by_cases y2 : y = 2
          · subst y2
            go_wp2_with fail
            refine (pick_any w.heap.size _ _ 3 _ hc4.out (by omega) (by omega)).mono ?_
            rintro e w6 ⟨⟨z, rfl, hz1, hz2⟩, hc6, hx6⟩
            have hz : z < 3 := by have := hz1 (by omega); omega
            have hx7 := Lib.hid (hx5.out.trans hx6)
            have hO6 := Lib.hid (hO4.out.exc hx6 hcb)
            have hG6 := Lib.hid ((hG4.out.exc hx6 hcb).sl.cutInts (k := z) (by omega))
            clear hx6 hx5 hO4 hG4 hc4 hc6 hz1 hz2
            go_wp2
            go_ret2
            exact ⟨_, L, _, _, _, _, rfl, (hfin.out _ _ _ hO6.out hx7.out).1, ⟨hG6.out, rfl⟩, (hfin.out _ _ _ hO6.out hx7.out).2.2, hL, by simp; omega⟩
          · have e0 : ((y : Int) == 0) = false := by simp; omega
            have e1 : ((y : Int) == 1) = false := by simp; omega
            have e2 : ((y : Int) == 2) = false := by simp; omega
            go_wp2
            go_ret2
            exact ⟨_, L, _, _, _, _, rfl, (hfin.out _ _ _ hO4.out hx5.out).1, (hfin.out _ _ _ hG4.out hx5.out).1, (hfin.out _ _ _ hO4.out hx5.out).2.2, hL, by simp⟩
    · skip
      by_cases x2 : x = 2
      · subst x2
        have hsep2 := hO2.out.sep
        have hG3 := Lib.hid (Own.lits w2 w0.heap.size [64, 5, 2, 1] 4 rfl (by omega) hs2)
        have hB : Below w2.heap.size w2 (w2.alloc (.cells (ints [64, 5, 2, 1]).toArray 3)) := (Below.refl _ _).alloc (Nat.le_refl _) _
        have hO3 := Lib.hid (hO2.out.exc (Ex.of_below (F := [w.heap.size]) hB) hcb)
        have hc3 := Lib.hid (hc2.out.ex (Ex.of_below (F := []) hB) (by simp) (fun _ _ => by simp))
        have hxB := Lib.hid (hx3.out.trans (Ex.of_below hB))
        clear hB hO2 hG2 hc2 hx3 hsep1
        replace hsep2 := Lib.hid hsep2
        have hs3 := hxB.out.size
        go_wp2_with fail
        refine (pick_any w.heap.size _ _ 12 _ hc3.out (by omega) (by omega)).mono ?_
        rintro e w4 ⟨⟨y, rfl, hy12, _⟩, hc4, hx4⟩
        have hx5 := Lib.hid (hxB.out.trans hx4)
        have hO4 := Lib.hid (hO3.out.exc hx4 hcb)
        have hG4 := Lib.hid (hG3.out.exc hx4 hcb)
        have hs4 := hx5.out.size
        replace hc4 := Lib.hid hc4
        clear hx4 hy12 hO3 hG3 hc3 hxB
        by_cases y0 : y = 0
        · subst y0
          go_wp2_with fail
          refine (pick_any w.heap.size _ _ 70 _ hc4.out (by omega) (by omega)).mono ?_
          rintro e w6 ⟨⟨z, rfl, _, _⟩, hc6, hx6⟩
          have hx7 := hx5.out.trans hx6
          have hs6 := hx7.size
          have hO6 := hO4.out.exc hx6 hcb
          have hG6 := hG4.out.exc hx6 hcb
          have hB : Below w6.heap.size w6 (w6.alloc (.cells (ints [(z : Int)]).toArray 3)) := (Below.refl _ _).alloc (Nat.le_refl _) _
          have hse := Lib.hid hO6.sep
          have hO7 := Lib.hid (hO6.exc (Ex.of_below (F := [w.heap.size]) hB) hcb)
          have hG7 := Lib.hid (RdV.of_sl (hG6.exc (Ex.of_below (F := [w.heap.size]) hB) hcb).sl)
          have hZ := Lib.hid (Own.lits w6 w0.heap.size [(z : Int)] 1 rfl (by omega) hs6)
          have hx8 := Lib.hid (hx7.trans (Ex.of_below hB))
          have hsz := hx8.out.size
          clear hB hG6 hO6 hx7 hx6 hx5 hO4 hG4 hc4 hc6 hsep2
          go_wp2_with (at_builtin; refine wpList_append_all eltInt rfl _ _ rfl w0.heap.size _ _ rfl hZ.out _ _ rfl hG7.out (ints_one _) (by simp) hsz ?_; intro v7 w7 ho7 hg7)
          have hO8 := hO7.out.kept hg7 hse.out
          have hx9 := hx8.out.appended hZ.out hg7
          have hM : Own w7 3 w0.heap.size v7 (ints ([(z : Int)] ++ [64, 5, 2, 1])) := by simpa [ints] using ho7
          go_ret2
          exact ⟨_, L, _, _, _, _, rfl, (hfin.out _ _ _ hO8 hx9).1, (hfin.out _ _ _ hM hx9).1, (hfin.out _ _ _ hO8 hx9).2.2, hL, by simp⟩
        · by_cases y1 : y = 1
          · subst y1
            go_wp2_with fail
            refine (pick_any w.heap.size _ _ 2 _ hc4.out (by omega) (by omega)).mono ?_
            rintro e w6 ⟨⟨z, rfl, _, _⟩, hc6, hx6⟩
            have hx7 := Lib.hid (hx5.out.trans hx6)
            have hs6 := hx7.out.size
            have hO6 := Lib.hid (hO4.out.exc hx6 hcb)
            have hG6 := Lib.hid (hG4.out.exc hx6 hcb)
            have hl6 : (ints [64, 5, 2, 1]).length ≤ 1000000000 := by simp
            clear hx6 hx5 hO4 hG4 hc4 hc6
            go_wp2_with (at_builtin; refine append_one_at eltInt rfl _ _ rfl w0.heap.size _ _ rfl hG6.out rfl rfl hl6 hs6 ?_; intro v7 w7 ho7 hg7 _)
            have hO8 := hO6.out.kept hg7 hsep2.out
            have hx9 := hx7.out.appended hG6.out hg7
            have hM : Own w7 3 w0.heap.size v7 (ints ([64, 5, 2, 1] ++ [(z : Int)])) := by simpa [ints] using ho7
            go_ret2
            exact ⟨_, L, _, _, _, _, rfl, (hfin.out _ _ _ hO8 hx9).1, (hfin.out _ _ _ hM hx9).1, (hfin.out _ _ _ hO8 hx9).2.2, hL, by simp⟩
          · by_cases y2 : y = 2
            · subst y2
              go_wp2_with fail
              refine (pick_any w.heap.size _ _ 4 _ hc4.out (by omega) (by omega)).mono ?_
              rintro e w6 ⟨⟨z, rfl, hz1, hz2⟩, hc6, hx6⟩
              have hz : z < 4 := by have := hz1 (by omega); omega
              have hx7 := Lib.hid (hx5.out.trans hx6)
              have hO6 := Lib.hid (hO4.out.exc hx6 hcb)
              have hG6 := Lib.hid ((hG4.out.exc hx6 hcb).sl.cutInts (k := z) (by omega))
              clear hx6 hx5 hO4 hG4 hc4 hc6 hz1 hz2
              go_wp2
              go_ret2
              exact ⟨_, L, _, _, _, _, rfl, (hfin.out _ _ _ hO6.out hx7.out).1, ⟨hG6.out, rfl⟩, (hfin.out _ _ _ hO6.out hx7.out).2.2, hL, by simp; omega⟩
            · have e0 : ((y : Int) == 0) = false := by simp; omega
              have e1 : ((y : Int) == 1) = false := by simp; omega
              have e2 : ((y : Int) == 2) = false := by simp; omega
              go_wp2
              go_ret2
              exact ⟨_, L, _, _, _, _, rfl, (hfin.out _ _ _ hO4.out hx5.out).1, (hfin.out _ _ _ hG4.out hx5.out).1, (hfin.out _ _ _ hO4.out hx5.out).2.2, hL, by simp⟩
      · skip
        have e0 : ((x : Int) == 0) = false := by simp; omega
        have e1 : ((x : Int) == 1) = false := by simp; omega
        have e2 : ((x : Int) == 2) = false := by simp; omega
        replace hsep1 := Lib.hid hsep1
        have hs3 := hx3.out.size
        go_wp2_with fail
        refine (pick_any w.heap.size _ _ 12 _ hc2.out (by omega) (by omega)).mono ?_
        rintro e w4 ⟨⟨y, rfl, hy12, _⟩, hc4, hx4⟩
        have hx5 := Lib.hid (hx3.out.trans hx4)
        have hO4 := Lib.hid (hO2.out.exc hx4 hcb)
        have hG4 := Lib.hid (hG2.out.exc hx4 hcb)
        have hs4 := hx5.out.size
        replace hc4 := Lib.hid hc4
        clear hx4 hy12 hO2 hG2 hc2 hx3
        by_cases y0 : y = 0
        · subst y0
          go_wp2_with fail
          refine (pick_any w.heap.size _ _ 70 _ hc4.out (by omega) (by omega)).mono ?_
          rintro e w6 ⟨⟨z, rfl, _, _⟩, hc6, hx6⟩
          have hx7 := hx5.out.trans hx6
          have hs6 := hx7.size
          have hO6 := hO4.out.exc hx6 hcb
          have hG6 := hG4.out.exc hx6 hcb
          have hB : Below w6.heap.size w6 (w6.alloc (.cells (ints [(z : Int)]).toArray 3)) := (Below.refl _ _).alloc (Nat.le_refl _) _
          have hse := Lib.hid hO6.sep
          have hO7 := Lib.hid (hO6.exc (Ex.of_below (F := [w.heap.size]) hB) hcb)
          have hG7 := Lib.hid (RdV.of_sl (hG6.exc (Ex.of_below (F := [w.heap.size]) hB) hcb).sl)
          have hZ := Lib.hid (Own.lits w6 w0.heap.size [(z : Int)] 1 rfl (by omega) hs6)
          have hx8 := Lib.hid (hx7.trans (Ex.of_below hB))
          have hsz := hx8.out.size
          clear hB hG6 hO6 hx7 hx6 hx5 hO4 hG4 hc4 hc6 hsep1
          go_wp2_with (at_builtin; refine wpList_append_all eltInt rfl _ _ rfl w0.heap.size _ _ rfl hZ.out _ _ rfl hG7.out (ints_one _) (by simp) hsz ?_; intro v7 w7 ho7 hg7)
          have hO8 := hO7.out.kept hg7 hse.out
          have hx9 := hx8.out.appended hZ.out hg7
          have hM : Own w7 3 w0.heap.size v7 (ints ([(z : Int)] ++ [1])) := by simpa [ints] using ho7
          go_ret2
          exact ⟨_, L, _, _, _, _, rfl, (hfin.out _ _ _ hO8 hx9).1, (hfin.out _ _ _ hM hx9).1, (hfin.out _ _ _ hO8 hx9).2.2, hL, by simp⟩
        · by_cases y1 : y = 1
          · subst y1
            go_wp2_with fail
            refine (pick_any w.heap.size _ _ 2 _ hc4.out (by omega) (by omega)).mono ?_
            rintro e w6 ⟨⟨z, rfl, _, _⟩, hc6, hx6⟩
            have hx7 := Lib.hid (hx5.out.trans hx6)
            have hs6 := hx7.out.size
            have hO6 := Lib.hid (hO4.out.exc hx6 hcb)
            have hG6 := Lib.hid (hG4.out.exc hx6 hcb)
            have hl6 : (ints [1]).length ≤ 1000000000 := by simp
            clear hx6 hx5 hO4 hG4 hc4 hc6
            go_wp2_with (at_builtin; refine append_one_at eltInt rfl _ _ rfl w0.heap.size _ _ rfl hG6.out rfl rfl hl6 hs6 ?_; intro v7 w7 ho7 hg7 _)
            have hO8 := hO6.out.kept hg7 hsep1.out
            have hx9 := hx7.out.appended hG6.out hg7
            have hM : Own w7 3 w0.heap.size v7 (ints ([1] ++ [(z : Int)])) := by simpa [ints] using ho7
            go_ret2
            exact ⟨_, L, _, _, _, _, rfl, (hfin.out _ _ _ hO8 hx9).1, (hfin.out _ _ _ hM hx9).1, (hfin.out _ _ _ hO8 hx9).2.2, hL, by simp⟩
          · by_cases y2 : y = 2
            · subst y2
              go_wp2_with fail
              refine (pick_any w.heap.size _ _ 1 _ hc4.out (by omega) (by omega)).mono ?_
              rintro e w6 ⟨⟨z, rfl, hz1, hz2⟩, hc6, hx6⟩
              have hz : z < 1 := by have := hz1 (by omega); omega
              have hx7 := Lib.hid (hx5.out.trans hx6)
              have hO6 := Lib.hid (hO4.out.exc hx6 hcb)
              have hG6 := Lib.hid ((hG4.out.exc hx6 hcb).sl.cutInts (k := z) (by omega))
              clear hx6 hx5 hO4 hG4 hc4 hc6 hz1 hz2
              go_wp2
              go_ret2
              exact ⟨_, L, _, _, _, _, rfl, (hfin.out _ _ _ hO6.out hx7.out).1, ⟨hG6.out, rfl⟩, (hfin.out _ _ _ hO6.out hx7.out).2.2, hL, by simp; omega⟩
            · have e0 : ((y : Int) == 0) = false := by simp; omega
              have e1 : ((y : Int) == 1) = false := by simp; omega
              have e2 : ((y : Int) == 2) = false := by simp; omega
              go_wp2
              go_ret2
              exact ⟨_, L, _, _, _, _, rfl, (hfin.out _ _ _ hO4.out hx5.out).1, (hfin.out _ _ _ hG4.out hx5.out).1, (hfin.out _ _ _ hO4.out hx5.out).2.2, hL, by simp⟩
end Go.Proofs.Ytbfffpdcpoejnaa
