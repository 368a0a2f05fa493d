/- Rows as the laws see them; IsValidRow. IsValidRow. -/
import Derived.Test.YtoeonplbgbgjmaaDoorStr
import Derived.Lib.SmallJoins
import Derived.Test.YtoeonplbgbgjmaaDoorMg2
namespace Go.Proofs.YtoeonplbgbgjmaaDoor
open Go.RowKit Go.ChangeShapes Go.WideShapes Go.ChangeAt Go.Joins
set_option linter.unusedSimpArgs false

/-! Slices of strings in the words of the laws. -/
abbrev TStringS := List ByteArray
def DStringS (w : World) (v : Value) (x : List ByteArray) : Prop := RdS w v x
def RStringS (w : World) (v : Value) (x : List ByteArray) (F : List Nat) : Prop := (Sl w 9 v (strs x) ∧ ∀ i, i < x.length → (gs x i).size ≤ maxLen) ∧ F = v.ownBlock.toList
theorem DStringS.next {w0 w : World} {v : Value} {x : List ByteArray} (h : DStringS w0 v x) (hb : Below w0.heap.size w0 w) : DStringS w v x := RdS.below h hb
theorem DStringS.shape {w : World} {v : Value} {x : List ByteArray} (h : DStringS w v x) : ∃ ao c, v = .slice ao x.length c := RdS.shape h
theorem DStringS.len {w : World} {v : Value} {x : List ByteArray} (h : DStringS w v x) : x.length ≤ 9223372036854775807 := RdS.len h
theorem RStringS.of_block {w w' : World} {v : Value} {x : List ByteArray} {F : List Nat} (h : RStringS w v x F) (hb : ∀ b ∈ F, w'.heap[b]? = w.heap[b]?) : RStringS w' v x F := by
  obtain ⟨⟨h, hs⟩, rfl⟩ := h
  exact ⟨⟨h.of_block fun k hk => hb k (by simp [hk]), hs⟩, rfl⟩
theorem RStringS.lt {w : World} {v : Value} {x : List ByteArray} {F : List Nat} (h : RStringS w v x F) : Lt w F := by
  obtain ⟨⟨h, _⟩, rfl⟩ := h
  intro b hb
  exact h.lt b (by simpa using hb)
theorem RStringS.next {w w' : World} {v : Value} {x : List ByteArray} {F : List Nat} (h : RStringS w v x F) (hb : Below w.heap.size w w') : RStringS w' v x F :=
  h.of_block fun b hf => hb.block b (h.lt b hf)
theorem RStringS.ex {w w' : World} {v : Value} {x : List ByteArray} {F G : List Nat} (h : RStringS w v x F) (k : Ex G w w') (d : Dj F G) : RStringS w' v x F :=
  h.of_block fun b hf => k.block b (h.lt b hf) (d b hf)
theorem RStringS.rd {w : World} {v : Value} {x : List ByteArray} {F : List Nat} (h : RStringS w v x F) : RdS w v x := h.1.1.rdS h.1.2
theorem szStringS_yes {v : Value} {x : List ByteArray} {k : Int} {w : World} (h : DStringS w v x) (hk2 : k ≤ 1048576) (hle : (szStringS x : Int) ≤ k) :
    Calls Tryd.prog 70 #[v, .int .i64 k] w fun e w' => e = .returned (.int .i64 (k - (szStringS x : Int))) ∧ Below w.heap.size w w' :=
  (szStringS_ok v x k w h hk2 hle).mono fun _ _ ⟨he, hb⟩ => ⟨he, Below.quiet hb⟩
theorem szStringS_no {v : Value} {x : List ByteArray} {k : Int} {w : World} (h : DStringS w v x) (hk : 0 ≤ k) (hk2 : k ≤ 1048576) (hle : ¬ (szStringS x : Int) ≤ k) :
    Calls Tryd.prog 70 #[v, .int .i64 k] w fun e w' => e = .returned (.int .i64 (-1)) ∧ Below w.heap.size w w' :=
  (szStringS_not v x k w h hk hk2 hle).mono fun _ _ ⟨he, hb⟩ => ⟨he, Below.quiet hb⟩
theorem toStringS_law {v : Value} {x : List ByteArray} {w : World} (h : DStringS w v x) (hl : szStringS x ≤ 1048576) :
    Calls Tryd.prog 73 #[v] w fun e w' => ∃ u F, e = .returned u ∧ RStringS w' u x F ∧ Fr w.heap.size F ∧ Below w.heap.size w w' := by
  have hs : ∀ i, i < x.length → (gs x i).size ≤ maxLen := by obtain ⟨_, _, _, _, _, h4, _⟩ := h; exact h4
  exact (toStringS_any v x w h (by unfold szStringS at hl; omega)).mono fun _ _ ⟨he, hsl, hb⟩ => ⟨_, _, he, ⟨⟨hsl, hs⟩, rfl⟩, by intro b hb; simp [Value.ownBlock] at hb; omega, hb⟩
theorem eqStringS_law {v u : Value} {x y : List ByteArray} {F G : List Nat} {w : World} (h : RStringS w v x F) (k : RStringS w u y G) :
    Calls Tryd.prog 75 #[v, u] w fun e w' => e = .returned (.bool (decide (x = y))) ∧ Below w.heap.size w w' :=
  (eqStringS_any v u x y w h.rd k.rd).mono fun _ _ ⟨he, hb⟩ => ⟨he, Below.quiet hb⟩
theorem strCell {H : Type} {enc : TypeId × Value → H} {W : World} {fuel : Nat} {u : Value} {x : DataW H × List MemPlace} (hf : DataW.trod enc Tryd.prog W 0 (fun _ => true) true fuel 34 [u] = some x) : ∃ x, DStringS W u x := by
  rcases open_strings Tryd.underlying34 Tryd.underlying9 (by kernel_rfl) hf with ⟨hcs, _⟩ | ⟨a, len, cap, ss, hcs, _, hl, hm, hz, _, hcell, hws⟩
  · simp at hcs
    subst hcs
    exact ⟨[], none, 0, rfl, Nat.le_refl _, Nat.zero_le _, fun i hi => absurd hi (by simp), fun h => absurd h (by simp)⟩
  · simp at hcs
    subst hcs
    have hz' : ss.length = cap := by simpa using hz
    have hln : (ss.take len).length = len := by simp; omega
    have hg : ∀ i, i < len → gs (ss.take len) i = ss.getD i ByteArray.empty := by
      intro i hi
      rw [gs_eq (by omega), List.getElem_take]
      simp [show i < ss.length by omega]
    refine ⟨ss.take len, some a, cap, by rw [hln], by omega, hm, fun i hi => ?_, fun hp => ?_⟩
    · rw [hg i (by omega)]
      apply hws
      have : i < ss.length := by omega
      simp [this]
    · have h0 := hcell 0 (by omega)
      have hs := spot_of_cell h0
      have h1 : (a.add 0).spot = a.spot := by unfold Addr.add; simp
      rw [h1] at hs
      have hxa : a = ⟨a.block, a.off, none⟩ := by cases a; simp_all
      refine ⟨a.block, a.off, by rw [← hxa], fun i hi => ?_⟩
      have := hcell i (by omega)
      rw [hxa, Addr.add_lit] at this
      rw [this, hg i (by omega)]
set_option maxRecDepth 100000 in
/-- A slice of strings among the arguments. -/
theorem argStringS {H : Type} {enc : TypeId × Value → H} {W : World} {base : Nat} {v : Value} {d : DataW H} {p : List MemPlace} (hval : Value.okWide Tryd.prog W .any base 34 v)
    (h : DataW.Trod enc Tryd.prog W 0 (fun _ => true) true 34 v d p) : ∃ x, DStringS W v x := by
  obtain ⟨a0, len0, cap0, rfl⟩ := okWide_slice Tryd.underlying34 hval
  obtain ⟨fuel, hf⟩ := h
  exact strCell (by simpa [Value.cells] using hf)

/-! Rows. -/
abbrev TRow := List ByteArray
def szRow (x : List ByteArray) : Nat := szStringS x
def DRow (w : World) (v : Value) (x : List ByteArray) : Prop := ∃ u, v = .agg #[u] ∧ DStringS w u x
def RRow (w : World) (v : Value) (x : List ByteArray) (F : List Nat) : Prop := ∃ u, v = .agg #[u] ∧ RStringS w u x F
theorem DRow.next {w0 w : World} {v : Value} {x : List ByteArray} (h : DRow w0 v x) (hb : Below w0.heap.size w0 w) : DRow w v x := by
  obtain ⟨u, rfl, h⟩ := h
  exact ⟨u, rfl, h.next hb⟩
theorem RRow.next {w w' : World} {v : Value} {x : List ByteArray} {F : List Nat} (h : RRow w v x F) (hb : Below w.heap.size w w') : RRow w' v x F := by
  obtain ⟨u, rfl, h⟩ := h
  exact ⟨u, rfl, h.next hb⟩
theorem RRow.lt {w : World} {v : Value} {x : List ByteArray} {F : List Nat} (h : RRow w v x F) : Lt w F := by
  obtain ⟨u, rfl, h⟩ := h
  exact h.lt
theorem RRow.ex {w w' : World} {v : Value} {x : List ByteArray} {F G : List Nat} (h : RRow w v x F) (k : Ex G w w') (d : Dj F G) : RRow w' v x F := by
  obtain ⟨u, rfl, h⟩ := h
  exact ⟨u, rfl, h.ex k d⟩
set_option maxRecDepth 100000 in
theorem argRow {H : Type} {enc : TypeId × Value → H} {W : World} {base : Nat} {v : Value} {d : DataW H} {p : List MemPlace} (hval : Value.okWide Tryd.prog W .any base 36 v)
    (h : DataW.Trod enc Tryd.prog W 0 (fun _ => true) true 36 v d p) : ∃ x, DRow W v x := by
  obtain ⟨cs, rfl, hsz⟩ := okWide_struct Tryd.underlying36 hval
  have hC : Tryd.prog.cellsOf 36 = 1 := by kernel_rfl
  obtain ⟨u, rfl⟩ : ∃ u, cs = #[u] := by
    have h1 : cs.size = 1 := hsz.trans hC
    rcases cs with ⟨l⟩
    match l, h1 with
    | [u], _ => exact ⟨u, rfl⟩
  obtain ⟨fuel, hf⟩ := h
  obtain ⟨y0, n, hx, _, h0⟩ := trod_struct1 Tryd.underlying36 hf
  have hC2 : Tryd.prog.cellsOf 34 = 1 := by kernel_rfl
  obtain ⟨x, hx⟩ := strCell (u := u) (by simpa [Value.cells, hC2] using h0)
  exact ⟨x, u, rfl, hx⟩
set_option maxHeartbeats 400000 in
theorem szRow_yes {v : Value} {x : List ByteArray} {k : Int} {w : World} (h : DRow w v x) (hk2 : k ≤ 1048576) (hle : (szRow x : Int) ≤ k) :
    Calls Tryd.prog 20 #[v, .int .i64 k] w fun e w' => e = .returned (.int .i64 (k - (szRow x : Int))) ∧ Below w.heap.size w w' := by
  obtain ⟨u, rfl, h⟩ := h
  obtain ⟨Z, hZ⟩ : ∃ Z, szRow x = Z := ⟨_, rfl⟩
  have hz2 : szStringS x = Z := hZ
  rw [hZ] at hle ⊢
  have hb := Lib.hid ((Below.refl w.heap.size w).alloc (Nat.le_refl _) (.cells #[u] 36))
  replace h := Lib.hid h
  replace hz2 := Lib.hid hz2
  replace hZ := Lib.hid hZ
  have hd : ¬ (k - (Z : Int)) < 0 := by omega
  go_enter Tryd.func20, Tryd.ntmps20
  go_wp2_with fail
  refine (szStringS_yes (h.out.next hb.out) hk2 (by rw [hz2.out]; exact hle)).mono ?_
  rintro e w1 ⟨rfl, hb1⟩
  rw [hz2.out]
  replace hb := Lib.hid (Below.next hb.out hb1)
  go_wp2
  go_ret
  exact ⟨rfl, hb.out⟩
set_option maxHeartbeats 400000 in
theorem szRow_no {v : Value} {x : List ByteArray} {k : Int} {w : World} (h : DRow w v x) (hk : 0 ≤ k) (hk2 : k ≤ 1048576) (hle : ¬ (szRow x : Int) ≤ k) :
    Calls Tryd.prog 20 #[v, .int .i64 k] w fun e w' => e = .returned (.int .i64 (-1)) ∧ Below w.heap.size w w' := by
  obtain ⟨u, rfl, h⟩ := h
  have hb := Lib.hid ((Below.refl w.heap.size w).alloc (Nat.le_refl _) (.cells #[u] 36))
  replace h := Lib.hid h
  replace hle := Lib.hid hle
  go_enter Tryd.func20, Tryd.ntmps20
  go_wp2_with fail
  refine (szStringS_no (h.out.next hb.out) hk hk2 (by have := hle.out; unfold szRow at this; omega)).mono ?_
  rintro e w1 ⟨rfl, hb1⟩
  replace hb := Lib.hid (Below.next hb.out hb1)
  go_wp2
  go_ret
  exact ⟨rfl, hb.out⟩
theorem Row.one1 (w : World) (e : Nat) (v : Value) : Row (w.alloc (.cells #[v] e)) e w.heap.size 0 1 [v] := by
  refine ⟨#[v], by show (w.heap.push _)[w.heap.size]? = _; simp, by simp, by simp, by unfold maxLen; omega, fun i hi => ?_⟩
  simp at hi
  subst hi
  simp
theorem Row.cell1 {w : World} {e b : Nat} {v : Value} (h : Row w e b 0 1 [v]) : w.cell? ⟨b, 0, none⟩ = some v := by
  have := h.cell (i := 0) (by simp)
  simpa using this
theorem Below.setNew1 {B : Nat} {a w : World} (h : Below B a w) {b : Nat} (hb : B ≤ b) (v : Value) : Below B a (w.setCell ⟨b, 0, none⟩ v) :=
  ⟨h.os, h.tape, h.output, by simpa [World.setCell] using h.size, fun k hk => (heap_setCell_other w ⟨b, 0, none⟩ k v (by simp; omega)).trans (h.block k hk)⟩
theorem RStringS.setOther {w : World} {v : Value} {x : List ByteArray} {F : List Nat} (h : RStringS w v x F) {b : Nat} (hb : ∀ k ∈ F, k ≠ b) (u : Value) : RStringS (w.setCell ⟨b, 0, none⟩ u) v x F :=
  h.of_block fun k hk => heap_setCell_other w ⟨b, 0, none⟩ k u (by simpa using hb k hk)
set_option maxHeartbeats 1000000 in
theorem toRow_law {v : Value} {x : List ByteArray} {w : World} (h : DRow w v x) (hl : szRow x ≤ 1048576) :
    Calls Tryd.prog 22 #[v] w fun e w' => ∃ u F, e = .returned u ∧ RRow w' u x F ∧ Fr w.heap.size F ∧ Below w.heap.size w w' := by
  obtain ⟨u, rfl, h⟩ := h
  replace h := Lib.hid h
  replace hl := Lib.hid (show szStringS x ≤ 1048576 from hl)
  have hb0 := Lib.hid ((((Below.refl w.heap.size w).alloc (Nat.le_refl _) (.cells #[u] 36)).alloc (by simp) (.cells #[.slice none 0 0] 40)).alloc (by simp; omega) (.cells #[.slice none 0 0] 40))
  have hr1 : Hid (Row (((w.alloc (.cells #[u] 36)).alloc (.cells #[.slice none 0 0] 40)).alloc (.cells #[.slice none 0 0] 40)) 40 (w.heap.size + 1) 0 1 [.slice none 0 0]) := Lib.hid (by
    have := (Row.one1 (w.alloc (.cells #[u] 36)) 40 (.slice none 0 0)).alloc (.cells #[.slice none 0 0] 40)
    simpa using this)
  have hr2 : Hid (Row (((w.alloc (.cells #[u] 36)).alloc (.cells #[.slice none 0 0] 40)).alloc (.cells #[.slice none 0 0] 40)) 40 (w.heap.size + 1 + 1) 0 1 [.slice none 0 0]) := Lib.hid (by
    have := Row.one1 ((w.alloc (.cells #[u] 36)).alloc (.cells #[.slice none 0 0] 40)) 40 (.slice none 0 0)
    simpa using this)
  go_enter Tryd.func22, Tryd.ntmps22
  go_wp2_with fail
  refine (toStringS_law (h.out.next hb0.out) hl.out).mono ?_
  rintro e w1 ⟨u1, F, rfl, hr, hf, hb⟩
  obtain ⟨ao1, cp1, rfl⟩ := hr.rd.shape
  have q1 := hr1.out.below hb hr1.out.lt
  have q2 := hr2.out.below hb hr2.out.lt
  have c1 := q1.cell1
  have c2 := q2.cell1
  have f1 := q1.frozen 0
  have f2 := q2.frozen 0
  have n1 : ¬ w.heap.size + 1 = w.heap.size + 1 + 1 := by omega
  have hF1 : ∀ k ∈ F, w.heap.size + 3 ≤ k := by
    intro k hk
    have := hf k hk
    simp at this
    omega
  have hfin : RStringS ((w1.setCell ⟨w.heap.size + 1 + 1, 0, none⟩ (.slice ao1 x.length cp1)).setCell ⟨w.heap.size + 1, 0, none⟩ (.slice ao1 x.length cp1)) (.slice ao1 x.length cp1) x F :=
    (hr.setOther (fun k hk => by have := hF1 k hk; omega) _).setOther (fun k hk => by have := hF1 k hk; omega) _
  have hbf := (Below.setNew1 (Below.setNew1 (Below.next hb0.out hb) (b := w.heap.size + 1 + 1) (by omega) (.slice ao1 x.length cp1)) (b := w.heap.size + 1) (by omega) (.slice ao1 x.length cp1))
  have hF2 : Fr w.heap.size F := fun k hk => by have := hF1 k hk; omega
  replace hfin := Lib.hid hfin
  replace hbf := Lib.hid hbf
  replace hF2 := Lib.hid hF2
  replace hr := Lib.hid hr
  clear hf hb hF1 q1 q2
  go_wp2
  exact bodyPost_ret (v := .agg #[(.slice ao1 x.length cp1)]) (by simp [results, Tryd.results22, go_sem, c1, c2, f1, f2, n1]) rfl ⟨_, F, rfl, ⟨(.slice ao1 x.length cp1), rfl, hfin.out⟩, hF2.out, hbf.out⟩
set_option maxHeartbeats 400000 in
theorem eqRow_law {v u : Value} {x y : List ByteArray} {F G : List Nat} {w : World} (h : RRow w v x F) (k : RRow w u y G) :
    Calls Tryd.prog 24 #[v, u] w fun e w' => e = .returned (.bool (decide (x = y))) ∧ Below w.heap.size w w' := by
  obtain ⟨a, rfl, h⟩ := h
  obtain ⟨b, rfl, k⟩ := k
  have hb := Lib.hid (((Below.refl w.heap.size w).alloc (Nat.le_refl _) (.cells #[a] 40)).alloc (by simp) (.cells #[b] 40))
  replace h := Lib.hid h
  replace k := Lib.hid k
  cases ht : decide (x = y)
  · replace ht := Lib.hid ht
    go_enter Tryd.func24, Tryd.ntmps24
    go_wp2_with fail
    refine (eqStringS_law (h.out.next hb.out) (k.out.next hb.out)).mono ?_
    rintro e w1 ⟨rfl, hb1⟩
    rw [ht.out]
    replace hb := Lib.hid (Below.next hb.out hb1)
    go_wp2
    go_ret
    exact ⟨rfl, hb.out⟩
  · replace ht := Lib.hid ht
    go_enter Tryd.func24, Tryd.ntmps24
    go_wp2_with fail
    refine (eqStringS_law (h.out.next hb.out) (k.out.next hb.out)).mono ?_
    rintro e w1 ⟨rfl, hb1⟩
    rw [ht.out]
    replace hb := Lib.hid (Below.next hb.out hb1)
    go_wp2
    go_ret
    exact ⟨rfl, hb.out⟩
end Go.Proofs.YtoeonplbgbgjmaaDoor
namespace Go.Proofs.YtoeonplbgbgjmaaDoor
open Go.RowKit
set_option linter.unusedVariables false
set_option linter.unusedSimpArgs false

def prB (c : UInt8) : Bool := decide (32 ≤ (c.toNat : Int)) && decide ((c.toNat : Int) ≤ 126)
def printB (s : ByteArray) : Bool := s.data.toList.all prB
def fieldB (s : ByteArray) : Bool := decide (s.size ≤ 40) && printB s
/-- A valid row. -/
def rowB (x : List ByteArray) : Bool := inB x.length 1 6 && x.all fieldB
theorem printB_true {s : ByteArray} (h : ∀ k, (hk : k < s.size) → prB s[k] = true) : printB s = true := by
  unfold printB
  rw [List.all_eq_true]
  intro c hc
  obtain ⟨k, hk, rfl⟩ := List.getElem_of_mem hc
  exact h k (by simpa using hk)
theorem printB_false {s : ByteArray} {k : Nat} (hk : k < s.size) (h : prB s[k] = false) : printB s = false := by
  unfold printB
  rw [List.all_eq_false]
  refine ⟨s[k], ?_, by simp [h]⟩
  show s.data[k] ∈ s.data.toList
  simp
set_option maxHeartbeats 400000 in
theorem isPrintable_any (s : ByteArray) (w : World) (hs : s.size ≤ maxLen) :
    Calls Tryd.prog 102 #[.string s] w fun e w' => e = .returned (.bool (printB s)) ∧ w = w' := by
  unfold maxLen at hs
  go_enter Tryd.func102, Tryd.ntmps102
  go_wp2
  go_loop [6] (fun i => ∃ k : Nat, k ≤ s.size ∧ i = .int .i64 k ∧ ∀ j, (hj : j < s.size) → j < k → prB s[j] = true) (fun i => s.size - (intOf i).toNat)
  case atStart => exact ⟨0, Nat.zero_le _, rfl, fun j _ hj => absurd hj (by omega)⟩
  case round =>
    obtain ⟨k, hk, rfl, hq⟩ := hrel
    replace hq := Lib.hid hq
    by_cases hlt : k < s.size
    · have hc : (s[k].toNat : Int) < 256 := by have := s[k].toNat_lt; omega
      have hp : prB s[k] = (decide (32 ≤ (s[k].toNat : Int)) && decide ((s[k].toNat : Int) ≤ 126)) := rfl
      by_cases h1 : (s[k].toNat : Int) < 32
      · have hf : Hid (prB s[k] = false) := Lib.hid (by rw [hp]; simp; omega)
        clear hp
        go_wp2
        go_ret
        exact ⟨ret_bool (printB_false hlt hf.out).symm, rfl⟩
      · by_cases h2 : (s[k].toNat : Int) > 126
        · have hf : Hid (prB s[k] = false) := Lib.hid (by rw [hp]; simp; omega)
          clear hp
          go_wp2
          go_ret
          exact ⟨ret_bool (printB_false hlt hf.out).symm, rfl⟩
        · have hf : Hid (prB s[k] = true) := Lib.hid (by rw [hp]; simp; omega)
          clear hp
          go_wp2
          go_round
          case rel =>
            refine ⟨k + 1, by omega, by go_num, fun j hj hjk => ?_⟩
            by_cases e : j = k
            · subst e; exact hf.out
            · exact hq.out j hj (by omega)
          case measure => simp [intOf]; omega
    · have hall : Hid (printB s = true) := Lib.hid (printB_true fun j hj => hq.out j hj (by omega))
      go_wp2
      go_ret
      exact ⟨ret_bool hall.out.symm, rfl⟩
set_option maxHeartbeats 400000 in
theorem fieldFn_any (s : ByteArray) (w : World) (hs : s.size ≤ maxLen) :
    Calls Tryd.prog 101 #[.string s] w fun e w' => e = .returned (.bool (fieldB s)) ∧ w = w' := by
  have hs' := hs
  unfold maxLen at hs'
  by_cases h : s.size ≤ 40
  · have hd : decide ((s.size : Int) ≤ 40) = true := by simp; omega
    have hr : fieldB s = printB s := by simp [fieldB, h]
    rw [hr]
    clear hr
    go_enter Tryd.func101, Tryd.ntmps101
    go_wp2_with (go_at_call 102; refine (isPrintable_any _ _ hs).mono ?_; rintro e w' ⟨rfl, rfl⟩)
    go_ret
    exact ⟨rfl, rfl⟩
  · have hd : decide ((s.size : Int) ≤ 40) = false := by simp; omega
    have hr : fieldB s = false := by simp [fieldB, h]
    rw [hr]
    clear hr
    go_enter Tryd.func101, Tryd.ntmps101
    go_wp2
    go_ret
    exact ⟨rfl, rfl⟩
set_option maxHeartbeats 400000 in
theorem allFldFn_any (x : ByteArray) (bp : Nat) (w : World) (hs : x.size ≤ maxLen) (hc : w.cell? ⟨bp, 0, none⟩ = some (.func (.func 101) #[] #[])) :
    Calls Tryd.prog 125 #[.string x, .pointer (some ⟨bp, 0, none⟩)] w fun e w' => e = .returned (.bool (!fieldB x)) ∧ w = w' := by
  go_enter Tryd.func125, Tryd.ntmps125
  go_wp2_with (go_at_call 101; refine (fieldFn_any _ _ hs).mono ?_; rintro e w' ⟨rfl, rfl⟩)
  go_ret
  exact ⟨rfl, rfl⟩

set_option maxHeartbeats 400000 in
theorem indexFld_any (v : Value) (xs : List ByteArray) (bp : Nat) (w : World) (hv : RdS w v xs) (hc : w.cell? ⟨bp, 0, none⟩ = some (.func (.func 101) #[] #[])) :
    Calls Tryd.prog 146 #[v, .func (.func 125) #[] #[.pointer (some ⟨bp, 0, none⟩)]] w fun e w' => e = .returned (.int .i64 (ixf (fun x => !fieldB x) xs)) ∧ w = w' := by
  obtain ⟨ao, c, rfl, h1, h2, hsz, HA⟩ := hv
  replace hsz := Lib.hid hsz
  unfold maxLen at h2
  generalize hn : xs.length = n at *
  replace HA := Lib.hid HA
  replace hn := Lib.hid hn
  go_enter Tryd.func146, Tryd.ntmps146
  go_wp2
  go_loop [8] (fun i => ∃ k : Nat, k ≤ n ∧ i = .int .i64 k ∧ ∀ j, j < k → fieldB (gs xs j) = true) (fun i => n - (intOf i).toNat)
  case atStart => exact ⟨0, Nat.zero_le _, rfl, fun j hj => absurd hj (by omega)⟩
  case round =>
    obtain ⟨k, hk, rfl, hq⟩ := hrel
    replace hq := Lib.hid hq
    by_cases hlt : k < n
    · obtain ⟨b, off, rfl, hR⟩ := HA.out (by omega)
      have hc1 := hR k hlt
      have hsk := hsz.out k hlt
      clear hR
      generalize hx : gs xs k = x at *
      replace hx := Lib.hid hx
      replace hsk := Lib.hid hsk
      by_cases hb : fieldB x = true
      · go_wp2_with (go_at_call 125; refine (allFldFn_any _ _ _ hsk.out hc).mono ?_; rintro e w' ⟨rfl, rfl⟩)
        go_round
        case rel =>
          refine ⟨k + 1, by omega, by go_num, fun j hj => ?_⟩
          by_cases hjk : j = k
          · subst hjk; rw [hx.out]; exact hb
          · exact hq.out j (by omega)
        case measure => simp [intOf]; omega
      · replace hb : fieldB x = false := by simpa using hb
        go_wp2_with (go_at_call 125; refine (allFldFn_any _ _ _ hsk.out hc).mono ?_; rintro e w' ⟨rfl, rfl⟩)
        go_ret
        refine ⟨ret_int (ixf_some (by rw [hn.out]; omega) ?_ fun j hj => ?_).symm, rfl⟩
        · rw [← gs_eq, hx.out, hb]; rfl
        · have := hq.out j hj
          rw [← gs_eq, this]; rfl
    · obtain rfl : k = n := by omega
      go_wp2
      go_ret
      refine ⟨ret_int (ixf_none fun j hj => ?_).symm, rfl⟩
      have := hq.out j (by rw [← hn.out]; exact hj)
      rw [← gs_eq, this]; rfl

set_option maxHeartbeats 400000 in
theorem containsFld_any (v : Value) (xs : List ByteArray) (bp : Nat) (w : World) (hv : RdS w v xs) (hc : w.cell? ⟨bp, 0, none⟩ = some (.func (.func 101) #[] #[])) :
    Calls Tryd.prog 124 #[v, .func (.func 125) #[] #[.pointer (some ⟨bp, 0, none⟩)]] w fun e w' => e = .returned (.bool (xs.any fun x => !fieldB x)) ∧ w = w' := by
  rw [← ixf_nonneg]
  go_enter Tryd.func124, Tryd.ntmps124
  go_wp2_with (go_at_call 146; refine (indexFld_any _ _ _ _ hv hc).mono ?_; rintro e w' ⟨rfl, rfl⟩)
  go_ret
  exact ⟨rfl, rfl⟩

set_option maxHeartbeats 400000 in
theorem allFld_any (v : Value) (xs : List ByteArray) (w : World) (hv : RdS w v xs) :
    Calls Tryd.prog 100 #[v, .func (.func 101) #[] #[]] w fun e w' => e = .returned (.bool (xs.all fieldB)) ∧ Below w.heap.size w w' := by
  have hv2 := hv.below (w' := w.alloc (.cells #[.func (.func 101) #[] #[]] 33)) ((Below.refl _ _).alloc (Nat.le_refl _) _)
  replace hv := Lib.hid hv
  replace hv2 := Lib.hid hv2
  go_enter Tryd.func100, Tryd.ntmps100
  go_wp2_with fail
  refine (containsFld_any _ _ _ _ hv2.out (by simp [go_sem])).mono ?_
  rintro e w' ⟨rfl, rfl⟩
  go_wp2
  go_ret
  exact ⟨ret_bool (any_not fieldB xs), (Below.refl _ _).alloc (Nat.le_refl _) _⟩


set_option maxHeartbeats 1000000 in
theorem impl_IsValidRow_law {v : Value} {x : List ByteArray} {F : List Nat} {w : World} (r : RRow w v x F) :
    Calls Tryd.prog 55 #[v] w fun e w' => e = .returned (.bool (rowB x)) ∧ Below w.heap.size w w' := by
  obtain ⟨u, rfl, r⟩ := r
  have hv := r.rd
  clear r
  have hv0 := hv
  obtain ⟨ao, c, rfl, h1, h2, _, _⟩ := hv0
  unfold maxLen at h2
  have hb0 := Lib.hid ((Below.refl w.heap.size w).alloc (Nat.le_refl _) (.cells #[.slice ao x.length c] 40))
  have hr0 := Row.one1 w 40 (.slice ao x.length c)
  replace hr0 := Lib.hid hr0
  replace hv := Lib.hid hv
  have hrow := Lib.hid (show rowB x = (inB x.length 1 6 && x.all fieldB) from rfl)
  cases ha : x.all fieldB
  · have e0 : rowB x = false := by rw [hrow.out, ha]; simp
    rw [e0]
    clear e0
    go_enter Tryd.func55, Tryd.ntmps55
    go_wp2_with fail
    refine (allFld_any _ _ _ (hv.out.below hb0.out)).mono ?_
    rintro e w1 ⟨rfl, hb⟩
    rw [ha]
    have hc := (hr0.out.below hb hr0.out.lt).cell1
    replace hb0 := Lib.hid (Below.next hb0.out hb)
    clear hb
    go_wp2_with (go_at_call 88; refine (in_any _ _ _ _).mono ?_; rintro e w' ⟨rfl, rfl⟩)
    all_goals (try go_ret)
    all_goals exact ⟨ret_bool (by simp), hb0.out⟩
  · have e0 : rowB x = inB x.length 1 6 := by rw [hrow.out, ha]; simp
    rw [e0]
    clear e0
    cases hi : inB (x.length : Int) 1 6
    · replace hi := Lib.hid hi
      go_enter Tryd.func55, Tryd.ntmps55
      go_wp2_with fail
      refine (allFld_any _ _ _ (hv.out.below hb0.out)).mono ?_
      rintro e w1 ⟨rfl, hb⟩
      rw [ha]
      have hc := (hr0.out.below hb hr0.out.lt).cell1
      replace hb0 := Lib.hid (Below.next hb0.out hb)
      clear hb
      go_wp2_with fail
      refine (in_any _ _ _ _).mono ?_
      rintro e w' ⟨rfl, rfl⟩
      rw [hi.out]
      go_wp2
      go_ret
      exact ⟨rfl, hb0.out⟩
    · replace hi := Lib.hid hi
      go_enter Tryd.func55, Tryd.ntmps55
      go_wp2_with fail
      refine (allFld_any _ _ _ (hv.out.below hb0.out)).mono ?_
      rintro e w1 ⟨rfl, hb⟩
      rw [ha]
      have hc := (hr0.out.below hb hr0.out.lt).cell1
      replace hb0 := Lib.hid (Below.next hb0.out hb)
      clear hb
      go_wp2_with fail
      refine (in_any _ _ _ _).mono ?_
      rintro e w' ⟨rfl, rfl⟩
      rw [hi.out]
      go_wp2
      go_ret
      exact ⟨rfl, hb0.out⟩

theorem rowB_false {x : List ByteArray} {k : Nat} (hk : k < x.length) (h : fieldB (gs x k) = false) : rowB x = false := by
  unfold rowB
  have : x.all fieldB = false := by
    rw [List.all_eq_false]
    exact ⟨_, List.getElem_mem hk, by rw [← gs_eq hk, h]; simp⟩
  simp [this]
theorem rowB_true {x : List ByteArray} (hi : inB x.length 1 6 = true) (h : ∀ k, k < x.length → fieldB (gs x k) = true) : rowB x = true := by
  unfold rowB
  have : x.all fieldB = true := by
    rw [List.all_eq_true]
    intro s hs
    obtain ⟨k, hk, rfl⟩ := List.getElem_of_mem hs
    rw [← gs_eq hk]; exact h k hk
  simp [this, hi]
set_option maxHeartbeats 2000000 in
theorem l2Row_any (u : Value) (x : List ByteArray) (w : World) (hv : RdS w u x) :
    Calls Tryd.prog 71 #[.agg #[u]] w fun e w' => e = .returned (.bool (rowB x)) ∧ Below w.heap.size w w' := by
  have hv0 := hv
  obtain ⟨ao, c, rfl, h1, h2, _, _⟩ := hv0
  unfold maxLen at h2
  have hb0 := Lib.hid ((Below.refl w.heap.size w).alloc (Nat.le_refl _) (.cells #[.slice ao x.length c] 40))
  have hv1 := hv.below hb0.out
  obtain ⟨ao', c', he, _, _, hsz, HA⟩ := hv1
  simp only [Value.slice.injEq] at he
  obtain ⟨rfl, he2, rfl⟩ := he
  clear he2 hv
  cases hi : inB (x.length : Int) 1 6
  · have e0 : rowB x = false := by simp [rowB, hi]
    rw [e0]
    clear e0 HA hsz
    replace hi := Lib.hid hi
    go_enter Tryd.func71, Tryd.ntmps71
    go_wp2_with fail
    refine (l1In_any _ _ _ _).mono ?_
    rintro e w' ⟨rfl, rfl⟩
    rw [hi.out]
    go_wp2
    go_ret
    exact ⟨rfl, hb0.out⟩
  · replace hi := Lib.hid hi
    generalize hn : x.length = n at *
    replace hn := Lib.hid hn
    replace HA := Lib.hid HA
    replace hsz := Lib.hid hsz
    have hbad := Lib.hid (fun k (hk : k < n) (h : fieldB (gs x k) = false) => rowB_false (x := x) (by rw [hn.out]; exact hk) h)
    have hgood := Lib.hid (fun (h : ∀ k, k < n → fieldB (gs x k) = true) => rowB_true (x := x) (by rw [hn.out]; exact hi.out) (by rw [hn.out]; exact h))
    generalize hRB : rowB x = RB at *
    replace hRB := Lib.hid hRB
    go_enter Tryd.func71, Tryd.ntmps71
    go_wp2_with fail
    refine (l1In_any _ _ _ _).mono ?_
    rintro e w' ⟨rfl, rfl⟩
    rw [hi.out]
    go_wp2
    go_loop [3] (fun i => ∃ k : Nat, k ≤ n ∧ i = .int .i64 k ∧ Hid (∀ j, j < k → fieldB (gs x j) = true)) (fun i => n - (intOf i).toNat)
    case atStart => exact ⟨0, Nat.zero_le _, rfl, Lib.hid fun j hj => absurd hj (by omega)⟩
    case round =>
      obtain ⟨k, hk, rfl, hq⟩ := hrel
      by_cases hlt : k < n
      · obtain ⟨b, off, rfl, hR⟩ := HA.out (by omega)
        have hc1 := hR k hlt
        have hs := hsz.out k hlt
        unfold maxLen at hs
        clear hR
        have hbk := Lib.hid (hbad.out k hlt)
        generalize hx : gs x k = s at *
        replace hx := Lib.hid hx
        have hfb := Lib.hid (show fieldB s = (decide (s.size ≤ 40) && printB s) from rfl)
        by_cases h40 : s.size ≤ 40
        · have hd : ¬ (40 : Int) < (s.size : Int) := by omega
          go_wp2
          go_loop [4] (fun i => ∃ m : Nat, m ≤ s.size ∧ i = .int .i64 m ∧ Hid (∀ j, (hj : j < s.size) → j < m → prB s[j] = true)) (fun i => s.size - (intOf i).toNat)
          case atStart => exact ⟨0, Nat.zero_le _, rfl, Lib.hid fun j _ hj => absurd hj (by omega)⟩
          case round =>
            obtain ⟨m, hm, rfl, hp⟩ := hrel
            by_cases hlt2 : m < s.size
            · have hcc : (s[m].toNat : Int) < 256 := by have := s[m].toNat_lt; omega
              have hpp : prB s[m] = inB (s[m].toNat : Int) 32 126 := rfl
              cases hin : inB (s[m].toNat : Int) 32 126
              · have hf : Hid (rowB x = false) := Lib.hid (by rw [hRB.out]; exact hbk.out (by rw [hfb.out, printB_false hlt2 (by rw [hpp, hin])]; simp))
                replace hin := Lib.hid hin
                clear hpp
                go_wp2_with fail
                refine (l1In_any _ _ _ _).mono ?_
                rintro e w' ⟨rfl, rfl⟩
                rw [hin.out]
                go_wp2
                go_ret
                exact ⟨ret_bool (by rw [← hRB.out, hf.out]), hb0.out⟩
              · have hf : Hid (prB s[m] = true) := Lib.hid (by rw [hpp, hin])
                replace hin := Lib.hid hin
                clear hpp
                go_wp2_with fail
                refine (l1In_any _ _ _ _).mono ?_
                rintro e w' ⟨rfl, rfl⟩
                rw [hin.out]
                go_wp2
                go_round
                case rel =>
                  refine ⟨m + 1, by omega, by go_num, Lib.hid fun j hj hjm => ?_⟩
                  by_cases e : j = m
                  · subst e; exact hf.out
                  · exact hp.out j hj (by omega)
                case measure => simp [intOf]; omega
            · have hf : Hid (fieldB s = true) := Lib.hid (by rw [hfb.out, printB_true fun j hj => hp.out j hj (by omega)]; simp [h40])
              go_wp2
              go_round
              case rel =>
                refine ⟨k + 1, by omega, by go_num, Lib.hid fun j hj => ?_⟩
                by_cases e : j = k
                · subst e; rw [hx.out]; exact hf.out
                · exact hq.out j (by omega)
              case measure => simp [intOf]; omega
        · have hd : (40 : Int) < (s.size : Int) := by omega
          have hf : Hid (rowB x = false) := Lib.hid (by rw [hRB.out]; exact hbk.out (by rw [hfb.out]; simp [h40]))
          go_wp2
          go_ret
          exact ⟨ret_bool (by rw [← hRB.out, hf.out]), hb0.out⟩
      · have hf : Hid (rowB x = true) := Lib.hid (by rw [hRB.out]; exact hgood.out fun j hj => hq.out j (by omega))
        obtain rfl : k = n := by omega
        go_wp2
        go_ret
        exact ⟨ret_bool (by rw [← hRB.out, hf.out]), hb0.out⟩
set_option maxHeartbeats 1000000 in
theorem spec_IsValidRow_law {v : Value} {x : List ByteArray} {F : List Nat} {w : World} (r : RRow w v x F) :
    Calls Tryd.prog 56 #[v] w fun e w' => e = .returned (.bool (rowB x)) ∧ Below w.heap.size w w' := by
  obtain ⟨u, rfl, r⟩ := r
  have hv := r.rd
  clear r
  have hv0 := hv
  obtain ⟨ao, c, rfl, _⟩ := hv0
  have hb0 := Lib.hid ((Below.refl w.heap.size w).alloc (Nat.le_refl _) (.cells #[.slice ao x.length c] 40))
  replace hv := Lib.hid hv
  go_enter Tryd.func56, Tryd.ntmps56
  go_wp2_with fail
  refine (l2Row_any _ _ _ (hv.out.below hb0.out)).mono ?_
  rintro e w1 ⟨rfl, hb⟩
  replace hb0 := Lib.hid (Below.next hb0.out hb)
  clear hb
  go_wp2
  go_ret
  exact ⟨rfl, hb0.out⟩
end Go.Proofs.YtoeonplbgbgjmaaDoor
