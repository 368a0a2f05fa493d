/- Rows as the laws see them; IsValidRow. -/
import Derived.Test.YtoeonplbgbgjmaaDoorStr
import Derived.Lib.SmallJoins
namespace Go.Proofs.YtoeonplbgbgjmaaDoor
open Go.RowKit Go.ChangeShapes Go.WideShapes Go.ChangeAt Go.Joins
set_option linter.unusedSimpArgs false

/-! Slices of strings in the words of the laws. -/
abbrev TStringS := List ByteArray
def DStringS (w : World) (v : Value) (x : List ByteArray) : Prop := RdS w v x
def RStringS (w : World) (v : Value) (x : List ByteArray) (F : List Nat) : Prop := (Sl w 9 v (strs x) ∧ ∀ i, i < x.length → (gs x i).size ≤ maxLen) ∧ F = v.ownBlock.toList
theorem DStringS.next {w0 w : World} {v : Value} {x : List ByteArray} (h : DStringS w0 v x) (hb : Below w0.heap.size w0 w) : DStringS w v x := RdS.below h hb
theorem DStringS.shape {w : World} {v : Value} {x : List ByteArray} (h : DStringS w v x) : ∃ ao c, v = .slice ao x.length c := RdS.shape h
theorem DStringS.len {w : World} {v : Value} {x : List ByteArray} (h : DStringS w v x) : x.length ≤ 9223372036854775807 := RdS.len h
theorem RStringS.of_block {w w' : World} {v : Value} {x : List ByteArray} {F : List Nat} (h : RStringS w v x F) (hb : ∀ b ∈ F, w'.heap[b]? = w.heap[b]?) : RStringS w' v x F := by
  obtain ⟨⟨h, hs⟩, rfl⟩ := h
  exact ⟨⟨h.of_block fun k hk => hb k (by simp [hk]), hs⟩, rfl⟩
theorem RStringS.lt {w : World} {v : Value} {x : List ByteArray} {F : List Nat} (h : RStringS w v x F) : Lt w F := by
  obtain ⟨⟨h, _⟩, rfl⟩ := h
  intro b hb
  exact h.lt b (by simpa using hb)
theorem RStringS.next {w w' : World} {v : Value} {x : List ByteArray} {F : List Nat} (h : RStringS w v x F) (hb : Below w.heap.size w w') : RStringS w' v x F :=
  h.of_block fun b hf => hb.block b (h.lt b hf)
theorem RStringS.ex {w w' : World} {v : Value} {x : List ByteArray} {F G : List Nat} (h : RStringS w v x F) (k : Ex G w w') (d : Dj F G) : RStringS w' v x F :=
  h.of_block fun b hf => k.block b (h.lt b hf) (d b hf)
theorem RStringS.rd {w : World} {v : Value} {x : List ByteArray} {F : List Nat} (h : RStringS w v x F) : RdS w v x := h.1.1.rdS h.1.2
theorem szStringS_yes {v : Value} {x : List ByteArray} {k : Int} {w : World} (h : DStringS w v x) (hk2 : k ≤ 1048576) (hle : (szStringS x : Int) ≤ k) :
    Calls Tryd.prog 70 #[v, .int .i64 k] w fun e w' => e = .returned (.int .i64 (k - (szStringS x : Int))) ∧ Below w.heap.size w w' :=
  (szStringS_ok v x k w h hk2 hle).mono fun _ _ ⟨he, hb⟩ => ⟨he, Below.quiet hb⟩
theorem szStringS_no {v : Value} {x : List ByteArray} {k : Int} {w : World} (h : DStringS w v x) (hk : 0 ≤ k) (hk2 : k ≤ 1048576) (hle : ¬ (szStringS x : Int) ≤ k) :
    Calls Tryd.prog 70 #[v, .int .i64 k] w fun e w' => e = .returned (.int .i64 (-1)) ∧ Below w.heap.size w w' :=
  (szStringS_not v x k w h hk hk2 hle).mono fun _ _ ⟨he, hb⟩ => ⟨he, Below.quiet hb⟩
theorem toStringS_law {v : Value} {x : List ByteArray} {w : World} (h : DStringS w v x) (hl : szStringS x ≤ 1048576) :
    Calls Tryd.prog 73 #[v] w fun e w' => ∃ u F, e = .returned u ∧ RStringS w' u x F ∧ Fr w.heap.size F ∧ Below w.heap.size w w' := by
  have hs : ∀ i, i < x.length → (gs x i).size ≤ maxLen := by obtain ⟨_, _, _, _, _, h4, _⟩ := h; exact h4
  exact (toStringS_any v x w h (by unfold szStringS at hl; omega)).mono fun _ _ ⟨he, hsl, hb⟩ => ⟨_, _, he, ⟨⟨hsl, hs⟩, rfl⟩, by intro b hb; simp [Value.ownBlock] at hb; omega, hb⟩
theorem eqStringS_law {v u : Value} {x y : List ByteArray} {F G : List Nat} {w : World} (h : RStringS w v x F) (k : RStringS w u y G) :
    Calls Tryd.prog 75 #[v, u] w fun e w' => e = .returned (.bool (decide (x = y))) ∧ Below w.heap.size w w' :=
  (eqStringS_any v u x y w h.rd k.rd).mono fun _ _ ⟨he, hb⟩ => ⟨he, Below.quiet hb⟩
theorem strCell {H : Type} {enc : TypeId × Value → H} {W : World} {fuel : Nat} {u : Value} {x : DataW H × List MemPlace} (hf : DataW.trod enc Tryd.prog W 0 (fun _ => true) true fuel 34 [u] = some x) : ∃ x, DStringS W u x := by
  rcases open_strings Tryd.underlying34 Tryd.underlying9 (by kernel_rfl) hf with ⟨hcs, _⟩ | ⟨a, len, cap, ss, hcs, _, hl, hm, hz, _, hcell, hws⟩
  · simp at hcs
    subst hcs
    exact ⟨[], none, 0, rfl, Nat.le_refl _, Nat.zero_le _, fun i hi => absurd hi (by simp), fun h => absurd h (by simp)⟩
  · simp at hcs
    subst hcs
    have hz' : ss.length = cap := by simpa using hz
    have hln : (ss.take len).length = len := by simp; omega
    have hg : ∀ i, i < len → gs (ss.take len) i = ss.getD i ByteArray.empty := by
      intro i hi
      rw [gs_eq (by omega), List.getElem_take]
      simp [show i < ss.length by omega]
    refine ⟨ss.take len, some a, cap, by rw [hln], by omega, hm, fun i hi => ?_, fun hp => ?_⟩
    · rw [hg i (by omega)]
      apply hws
      have : i < ss.length := by omega
      simp [this]
    · have h0 := hcell 0 (by omega)
      have hs := spot_of_cell h0
      have h1 : (a.add 0).spot = a.spot := by unfold Addr.add; simp
      rw [h1] at hs
      have hxa : a = ⟨a.block, a.off, none⟩ := by cases a; simp_all
      refine ⟨a.block, a.off, by rw [← hxa], fun i hi => ?_⟩
      have := hcell i (by omega)
      rw [hxa, Addr.add_lit] at this
      rw [this, hg i (by omega)]
set_option maxRecDepth 100000 in
/-- A slice of strings among the arguments. -/
theorem argStringS {H : Type} {enc : TypeId × Value → H} {W : World} {base : Nat} {v : Value} {d : DataW H} {p : List MemPlace} (hval : Value.okWide Tryd.prog W .any base 34 v)
    (h : DataW.Trod enc Tryd.prog W 0 (fun _ => true) true 34 v d p) : ∃ x, DStringS W v x := by
  obtain ⟨a0, len0, cap0, rfl⟩ := okWide_slice Tryd.underlying34 hval
  obtain ⟨fuel, hf⟩ := h
  exact strCell (by simpa [Value.cells] using hf)

/-! Rows. -/
abbrev TRow := List ByteArray
def szRow (x : List ByteArray) : Nat := szStringS x
def DRow (w : World) (v : Value) (x : List ByteArray) : Prop := ∃ u, v = .agg #[u] ∧ DStringS w u x
def RRow (w : World) (v : Value) (x : List ByteArray) (F : List Nat) : Prop := ∃ u, v = .agg #[u] ∧ RStringS w u x F
theorem DRow.next {w0 w : World} {v : Value} {x : List ByteArray} (h : DRow w0 v x) (hb : Below w0.heap.size w0 w) : DRow w v x := by
  obtain ⟨u, rfl, h⟩ := h
  exact ⟨u, rfl, h.next hb⟩
theorem RRow.next {w w' : World} {v : Value} {x : List ByteArray} {F : List Nat} (h : RRow w v x F) (hb : Below w.heap.size w w') : RRow w' v x F := by
  obtain ⟨u, rfl, h⟩ := h
  exact ⟨u, rfl, h.next hb⟩
theorem RRow.lt {w : World} {v : Value} {x : List ByteArray} {F : List Nat} (h : RRow w v x F) : Lt w F := by
  obtain ⟨u, rfl, h⟩ := h
  exact h.lt
theorem RRow.ex {w w' : World} {v : Value} {x : List ByteArray} {F G : List Nat} (h : RRow w v x F) (k : Ex G w w') (d : Dj F G) : RRow w' v x F := by
  obtain ⟨u, rfl, h⟩ := h
  exact ⟨u, rfl, h.ex k d⟩
set_option maxRecDepth 100000 in
theorem argRow {H : Type} {enc : TypeId × Value → H} {W : World} {base : Nat} {v : Value} {d : DataW H} {p : List MemPlace} (hval : Value.okWide Tryd.prog W .any base 36 v)
    (h : DataW.Trod enc Tryd.prog W 0 (fun _ => true) true 36 v d p) : ∃ x, DRow W v x := by
  obtain ⟨cs, rfl, hsz⟩ := okWide_struct Tryd.underlying36 hval
  have hC : Tryd.prog.cellsOf 36 = 1 := by kernel_rfl
  obtain ⟨u, rfl⟩ : ∃ u, cs = #[u] := by
    have h1 : cs.size = 1 := hsz.trans hC
    rcases cs with ⟨l⟩
    match l, h1 with
    | [u], _ => exact ⟨u, rfl⟩
  obtain ⟨fuel, hf⟩ := h
  obtain ⟨y0, n, hx, _, h0⟩ := trod_struct1 Tryd.underlying36 hf
  have hC2 : Tryd.prog.cellsOf 34 = 1 := by kernel_rfl
  obtain ⟨x, hx⟩ := strCell (u := u) (by simpa [Value.cells, hC2] using h0)
  exact ⟨x, u, rfl, hx⟩
set_option maxHeartbeats 400000 in
theorem szRow_yes {v : Value} {x : List ByteArray} {k : Int} {w : World} (h : DRow w v x) (hk2 : k ≤ 1048576) (hle : (szRow x : Int) ≤ k) :
    Calls Tryd.prog 20 #[v, .int .i64 k] w fun e w' => e = .returned (.int .i64 (k - (szRow x : Int))) ∧ Below w.heap.size w w' := by
  obtain ⟨u, rfl, h⟩ := h
  obtain ⟨Z, hZ⟩ : ∃ Z, szRow x = Z := ⟨_, rfl⟩
  have hz2 : szStringS x = Z := hZ
  rw [hZ] at hle ⊢
  have hb := Lib.hid ((Below.refl w.heap.size w).alloc (Nat.le_refl _) (.cells #[u] 36))
  replace h := Lib.hid h
  replace hz2 := Lib.hid hz2
  replace hZ := Lib.hid hZ
  have hd : ¬ (k - (Z : Int)) < 0 := by omega
  go_enter Tryd.func20, Tryd.ntmps20
  go_wp2_with fail
  refine (szStringS_yes (h.out.next hb.out) hk2 (by rw [hz2.out]; exact hle)).mono ?_
  rintro e w1 ⟨rfl, hb1⟩
  rw [hz2.out]
  replace hb := Lib.hid (Below.next hb.out hb1)
  go_wp2
  go_ret
  exact ⟨rfl, hb.out⟩
set_option maxHeartbeats 400000 in
theorem szRow_no {v : Value} {x : List ByteArray} {k : Int} {w : World} (h : DRow w v x) (hk : 0 ≤ k) (hk2 : k ≤ 1048576) (hle : ¬ (szRow x : Int) ≤ k) :
    Calls Tryd.prog 20 #[v, .int .i64 k] w fun e w' => e = .returned (.int .i64 (-1)) ∧ Below w.heap.size w w' := by
  obtain ⟨u, rfl, h⟩ := h
  have hb := Lib.hid ((Below.refl w.heap.size w).alloc (Nat.le_refl _) (.cells #[u] 36))
  replace h := Lib.hid h
  replace hle := Lib.hid hle
  go_enter Tryd.func20, Tryd.ntmps20
  go_wp2_with fail
  refine (szStringS_no (h.out.next hb.out) hk hk2 (by have := hle.out; unfold szRow at this; omega)).mono ?_
  rintro e w1 ⟨rfl, hb1⟩
  replace hb := Lib.hid (Below.next hb.out hb1)
  go_wp2
  go_ret
  exact ⟨rfl, hb.out⟩
theorem Row.one1 (w : World) (e : Nat) (v : Value) : Row (w.alloc (.cells #[v] e)) e w.heap.size 0 1 [v] := by
  refine ⟨#[v], by show (w.heap.push _)[w.heap.size]? = _; simp, by simp, by simp, by unfold maxLen; omega, fun i hi => ?_⟩
  simp at hi
  subst hi
  simp
theorem Row.cell1 {w : World} {e b : Nat} {v : Value} (h : Row w e b 0 1 [v]) : w.cell? ⟨b, 0, none⟩ = some v := by
  have := h.cell (i := 0) (by simp)
  simpa using this
theorem Below.setNew1 {B : Nat} {a w : World} (h : Below B a w) {b : Nat} (hb : B ≤ b) (v : Value) : Below B a (w.setCell ⟨b, 0, none⟩ v) :=
  ⟨h.os, h.tape, h.output, by simpa [World.setCell] using h.size, fun k hk => (heap_setCell_other w ⟨b, 0, none⟩ k v (by simp; omega)).trans (h.block k hk)⟩
theorem RStringS.setOther {w : World} {v : Value} {x : List ByteArray} {F : List Nat} (h : RStringS w v x F) {b : Nat} (hb : ∀ k ∈ F, k ≠ b) (u : Value) : RStringS (w.setCell ⟨b, 0, none⟩ u) v x F :=
  h.of_block fun k hk => heap_setCell_other w ⟨b, 0, none⟩ k u (by simpa using hb k hk)
set_option maxHeartbeats 1000000 in
theorem toRow_law {v : Value} {x : List ByteArray} {w : World} (h : DRow w v x) (hl : szRow x ≤ 1048576) :
    Calls Tryd.prog 22 #[v] w fun e w' => ∃ u F, e = .returned u ∧ RRow w' u x F ∧ Fr w.heap.size F ∧ Below w.heap.size w w' := by
  obtain ⟨u, rfl, h⟩ := h
  replace h := Lib.hid h
  replace hl := Lib.hid (show szStringS x ≤ 1048576 from hl)
  have hb0 := Lib.hid ((((Below.refl w.heap.size w).alloc (Nat.le_refl _) (.cells #[u] 36)).alloc (by simp) (.cells #[.slice none 0 0] 40)).alloc (by simp; omega) (.cells #[.slice none 0 0] 40))
  have hr1 : Hid (Row (((w.alloc (.cells #[u] 36)).alloc (.cells #[.slice none 0 0] 40)).alloc (.cells #[.slice none 0 0] 40)) 40 (w.heap.size + 1) 0 1 [.slice none 0 0]) := Lib.hid (by
    have := (Row.one1 (w.alloc (.cells #[u] 36)) 40 (.slice none 0 0)).alloc (.cells #[.slice none 0 0] 40)
    simpa using this)
  have hr2 : Hid (Row (((w.alloc (.cells #[u] 36)).alloc (.cells #[.slice none 0 0] 40)).alloc (.cells #[.slice none 0 0] 40)) 40 (w.heap.size + 1 + 1) 0 1 [.slice none 0 0]) := Lib.hid (by
    have := Row.one1 ((w.alloc (.cells #[u] 36)).alloc (.cells #[.slice none 0 0] 40)) 40 (.slice none 0 0)
    simpa using this)
  go_enter Tryd.func22, Tryd.ntmps22
  go_wp2_with fail
  refine (toStringS_law (h.out.next hb0.out) hl.out).mono ?_
  rintro e w1 ⟨u1, F, rfl, hr, hf, hb⟩
  obtain ⟨ao1, cp1, rfl⟩ := hr.rd.shape
  have q1 := hr1.out.below hb hr1.out.lt
  have q2 := hr2.out.below hb hr2.out.lt
  have c1 := q1.cell1
  have c2 := q2.cell1
  have f1 := q1.frozen 0
  have f2 := q2.frozen 0
  have n1 : ¬ w.heap.size + 1 = w.heap.size + 1 + 1 := by omega
  have hF1 : ∀ k ∈ F, w.heap.size + 3 ≤ k := by
    intro k hk
    have := hf k hk
    simp at this
    omega
  have hfin : RStringS ((w1.setCell ⟨w.heap.size + 1 + 1, 0, none⟩ (.slice ao1 x.length cp1)).setCell ⟨w.heap.size + 1, 0, none⟩ (.slice ao1 x.length cp1)) (.slice ao1 x.length cp1) x F :=
    (hr.setOther (fun k hk => by have := hF1 k hk; omega) _).setOther (fun k hk => by have := hF1 k hk; omega) _
  have hbf := (Below.setNew1 (Below.setNew1 (Below.next hb0.out hb) (b := w.heap.size + 1 + 1) (by omega) (.slice ao1 x.length cp1)) (b := w.heap.size + 1) (by omega) (.slice ao1 x.length cp1))
  have hF2 : Fr w.heap.size F := fun k hk => by have := hF1 k hk; omega
  replace hfin := Lib.hid hfin
  replace hbf := Lib.hid hbf
  replace hF2 := Lib.hid hF2
  replace hr := Lib.hid hr
  clear hf hb hF1 q1 q2
  go_wp2
  exact bodyPost_ret (v := .agg #[(.slice ao1 x.length cp1)]) (by simp [results, Tryd.results22, go_sem, c1, c2, f1, f2, n1]) rfl ⟨_, F, rfl, ⟨(.slice ao1 x.length cp1), rfl, hfin.out⟩, hF2.out, hbf.out⟩
set_option maxHeartbeats 400000 in
theorem eqRow_law {v u : Value} {x y : List ByteArray} {F G : List Nat} {w : World} (h : RRow w v x F) (k : RRow w u y G) :
    Calls Tryd.prog 24 #[v, u] w fun e w' => e = .returned (.bool (decide (x = y))) ∧ Below w.heap.size w w' := by
  obtain ⟨a, rfl, h⟩ := h
  obtain ⟨b, rfl, k⟩ := k
  have hb := Lib.hid (((Below.refl w.heap.size w).alloc (Nat.le_refl _) (.cells #[a] 40)).alloc (by simp) (.cells #[b] 40))
  replace h := Lib.hid h
  replace k := Lib.hid k
  cases ht : decide (x = y)
  · replace ht := Lib.hid ht
    go_enter Tryd.func24, Tryd.ntmps24
    go_wp2_with fail
    refine (eqStringS_law (h.out.next hb.out) (k.out.next hb.out)).mono ?_
    rintro e w1 ⟨rfl, hb1⟩
    rw [ht.out]
    replace hb := Lib.hid (Below.next hb.out hb1)
    go_wp2
    go_ret
    exact ⟨rfl, hb.out⟩
  · replace ht := Lib.hid ht
    go_enter Tryd.func24, Tryd.ntmps24
    go_wp2_with fail
    refine (eqStringS_law (h.out.next hb.out) (k.out.next hb.out)).mono ?_
    rintro e w1 ⟨rfl, hb1⟩
    rw [ht.out]
    replace hb := Lib.hid (Below.next hb.out hb1)
    go_wp2
    go_ret
    exact ⟨rfl, hb.out⟩
end Go.Proofs.YtoeonplbgbgjmaaDoor
