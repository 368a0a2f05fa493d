/- Slices of key specs (four cells an element): how they lie in memory; sz, to, eq; as an argument. Valid key specs: impl.areSpecs, spec.l2Specs. markKeySpecS, heldKeySpecS. -/
import Derived.Test.YtoeonplbgbgjmaaDoorMg2
import Derived.Deep.RegionHeld3
import Derived.Deep.SlicePairs
import Derived.Lib.SmallJoins
namespace Go.Proofs.YtoeonplbgbgjmaaDoor
open Go.RowKit Go.ChangeShapes Go.WideShapes Go.ChangeAt Go.Deep

theorem addr_plainK {w : World} {a : Addr} {v : Value} (h : w.cell? (a.add 0) = some v) : a = ⟨a.block, a.off, none⟩ := by
  have hs := spot_of_cell h
  have h1 : (a.add 0).spot = a.spot := by unfold Addr.add; simp
  rw [h1] at hs
  cases a
  simp_all
/-- A key spec: field, numeric, descending, fold case. -/
abbrev KS := Int × Bool × Bool × Bool
def kss (xs : List KS) : List Value := xs.flatMap fun r => [.int .i64 r.1, .bool r.2.1, .bool r.2.2.1, .bool r.2.2.2]
@[simp] theorem kss_length (xs : List KS) : (kss xs).length = 4 * xs.length := by
  induction xs with
  | nil => rfl
  | cons x xs ih => simp [kss] at ih ⊢; omega
def gk (xs : List KS) (i : Nat) : KS := xs.getD i (0, false, false, false)
theorem gk_eq {xs : List KS} {i : Nat} (h : i < xs.length) : gk xs i = xs[i] := by simp [gk, h]
theorem gk_ext {xs ys : List KS} (hl : xs.length = ys.length) (h : ∀ j, j < xs.length → gk xs j = gk ys j) : xs = ys := by
  apply List.ext_getElem hl
  intro i h1 h2
  have := h i h1
  rwa [gk_eq h1, gk_eq h2] at this
theorem kss_at (xs : List KS) (i : Nat) (h : i < xs.length) : (kss xs)[4 * i]? = some (.int .i64 (gk xs i).1) ∧ (kss xs)[4 * i + 1]? = some (.bool (gk xs i).2.1) ∧ (kss xs)[4 * i + 2]? = some (.bool (gk xs i).2.2.1) ∧ (kss xs)[4 * i + 3]? = some (.bool (gk xs i).2.2.2) := by
  induction xs generalizing i with
  | nil => simp at h
  | cons x xs ih =>
    cases i with
    | zero => simp [kss, gk]
    | succ i =>
      have := ih i (by simpa using h)
      simp only [kss, List.flatMap_cons] at this ⊢
      rw [show 4 * (i + 1) = 4 * i + 1 + 1 + 1 + 1 by omega]
      exact this
/-- The four cells of a key spec. -/
def K4 (w : World) (b o : Nat) (k : KS) : Prop :=
  w.cell? ⟨b, o, none⟩ = some (.int .i64 k.1) ∧ w.cell? ⟨b, o + 1, none⟩ = some (.bool k.2.1) ∧ w.cell? ⟨b, o + 2, none⟩ = some (.bool k.2.2.1) ∧ w.cell? ⟨b, o + 3, none⟩ = some (.bool k.2.2.2)
theorem K4.below {w w' : World} {b o : Nat} {k : KS} (h : K4 w b o k) (hb : Below w.heap.size w w') : K4 w' b o k := by
  have hlt : b < w.heap.size := block_lt_of_cell h.1
  obtain ⟨h1, h2, h3, h4⟩ := h
  exact ⟨(hb.cell (p := ⟨b, o, none⟩) hlt).trans h1, (hb.cell (p := ⟨b, o + 1, none⟩) hlt).trans h2, (hb.cell (p := ⟨b, o + 2, none⟩) hlt).trans h3, (hb.cell (p := ⟨b, o + 3, none⟩) hlt).trans h4⟩
theorem Row.k4 {w : World} {e b off c : Nat} {xs : List KS} (h : Row w e b off c (kss xs)) {i : Nat} (hi : i < xs.length) : K4 w b (off + i * 4) (gk xs i) := by
  obtain ⟨k1, k2, k3, k4⟩ := kss_at xs i hi
  have hl : 4 * i + 3 < (kss xs).length := by rw [kss_length]; omega
  have h1 := h.cell (i := 4 * i) (by omega)
  have h2 := h.cell (i := 4 * i + 1) (by omega)
  have h3 := h.cell (i := 4 * i + 2) (by omega)
  have h4 := h.cell (i := 4 * i + 3) (by omega)
  rw [List.getElem?_eq_getElem (by omega), Option.some.injEq] at k1 k2 k3 k4
  rw [k1] at h1
  rw [k2] at h2
  rw [k3] at h3
  rw [k4] at h4
  have e0 : off + i * 4 = off + 4 * i := by omega
  refine ⟨by rw [e0]; exact h1, ?_, ?_, ?_⟩
  · rw [show off + i * 4 + 1 = off + (4 * i + 1) by omega]; exact h2
  · rw [show off + i * 4 + 2 = off + (4 * i + 2) by omega]; exact h3
  · rw [show off + i * 4 + 3 = off + (4 * i + 3) by omega]; exact h4
theorem kss_set (xs : List KS) (i : Nat) (a : Int) (b c d : Bool) : kss (xs.set i (a, b, c, d)) = ((((kss xs).set (i * 4) (.int .i64 a)).set (i * 4 + 1) (.bool b)).set (i * 4 + 2) (.bool c)).set (i * 4 + 3) (.bool d) := by
  induction xs generalizing i with
  | nil => simp [kss]
  | cons x xs ih =>
    cases i with
    | zero => simp [kss]
    | succ i =>
      have := ih i
      simp only [kss, List.set_cons_succ, List.flatMap_cons] at this ⊢
      rw [this, show (i + 1) * 4 = i * 4 + 1 + 1 + 1 + 1 by omega]
      simp
theorem kss_append (xs ys : List KS) : kss (xs ++ ys) = kss xs ++ kss ys := by simp [kss]
theorem kss_one (xs : List KS) : ∀ u ∈ kss xs, u.oneCell' = true := by
  intro u hu
  unfold kss at hu
  rw [List.mem_flatMap] at hu
  obtain ⟨x, _, h⟩ := hu
  simp only [List.mem_cons, List.not_mem_nil, or_false] at h
  rcases h with rfl | rfl | rfl | rfl <;> rfl
/-- A slice of key specs that can be read. -/
def RdK (w : World) (v : Value) (xs : List KS) : Prop :=
  ∃ ao c, v = .slice ao xs.length c ∧ xs.length ≤ c ∧ c ≤ maxLen ∧ (0 < xs.length → ∃ b off, ao = some ⟨b, off, none⟩ ∧ ∀ i, i < xs.length → K4 w b (off + i * 4) (gk xs i))
theorem RdK.below {w w' : World} {v : Value} {xs : List KS} (h : RdK w v xs) (hb : Below w.heap.size w w') : RdK w' v xs := by
  obtain ⟨ao, c, rfl, h1, h2, h3⟩ := h
  refine ⟨ao, c, rfl, h1, h2, fun hp => ?_⟩
  obtain ⟨b, off, rfl, hr⟩ := h3 hp
  exact ⟨b, off, rfl, fun i hi => (hr i hi).below hb⟩
/-- Key specs that the call's own row holds. -/
def SlK (w : World) (v : Value) (xs : List KS) : Prop :=
  ∃ ao c, v = .slice ao xs.length c ∧ ((ao = none ∧ xs = [] ∧ c = 0) ∨ ∃ b off, ao = some ⟨b, off, none⟩ ∧ (xs.length ≤ c ∧ c ≤ maxLen) ∧ Row w 71 b off (4 * xs.length) (kss xs))
theorem SlK.rd {w : World} {v : Value} {xs : List KS} (h : SlK w v xs) : RdK w v xs := by
  obtain ⟨ao, c, rfl, h⟩ := h
  rcases h with ⟨rfl, rfl, rfl⟩ | ⟨b, off, rfl, hc, hr⟩
  · exact ⟨_, _, rfl, Nat.le_refl _, Nat.zero_le _, fun h => absurd h (by simp)⟩
  · exact ⟨_, _, rfl, hc.1, hc.2, fun _ => ⟨b, off, rfl, fun i hi => hr.k4 hi⟩⟩
theorem SlK.of_block {w w' : World} {v : Value} {x : List KS} (h : SlK w v x) (hb : ∀ k, v.ownBlock = some k → w'.heap[k]? = w.heap[k]?) : SlK w' v x := by
  obtain ⟨ao, c, rfl, h⟩ := h
  refine ⟨ao, c, rfl, ?_⟩
  rcases h with h | ⟨b, off, rfl, hc, hr⟩
  · exact .inl h
  · exact .inr ⟨b, off, rfl, hc, hr.of_block (hb b rfl)⟩
theorem SlK.lt {w : World} {v : Value} {x : List KS} (h : SlK w v x) : ∀ k, v.ownBlock = some k → k < w.heap.size := by
  obtain ⟨ao, c, rfl, h⟩ := h
  intro k hk
  rcases h with ⟨rfl, _⟩ | ⟨b, off, rfl, hc, hr⟩
  · simp [Value.ownBlock] at hk
  · simp [Value.ownBlock] at hk
    subst hk
    exact hr.lt

/-! In the words of the laws. -/
abbrev TKeySpecS := List KS
def szKeySpecS (x : List KS) : Nat := x.length
def DKeySpecS (w : World) (v : Value) (x : List KS) : Prop := RdK w v x
def RKeySpecS (w : World) (v : Value) (x : List KS) (F : List Nat) : Prop := SlK w v x ∧ F = v.ownBlock.toList
theorem DKeySpecS.next {w0 w : World} {v : Value} {x : List KS} (h : DKeySpecS w0 v x) (hb : Below w0.heap.size w0 w) : DKeySpecS w v x := RdK.below h hb
theorem DKeySpecS.shape {w : World} {v : Value} {x : List KS} (h : DKeySpecS w v x) : ∃ ao c, v = .slice ao x.length c := by
  obtain ⟨ao, c, rfl, _⟩ := h
  exact ⟨ao, c, rfl⟩
theorem RKeySpecS.of_block {w w' : World} {v : Value} {x : List KS} {F : List Nat} (h : RKeySpecS w v x F) (hb : ∀ b ∈ F, w'.heap[b]? = w.heap[b]?) : RKeySpecS w' v x F := by
  obtain ⟨h, rfl⟩ := h
  exact ⟨h.of_block fun k hk => hb k (by simp [hk]), rfl⟩
theorem RKeySpecS.lt {w : World} {v : Value} {x : List KS} {F : List Nat} (h : RKeySpecS w v x F) : Lt w F := by
  obtain ⟨h, rfl⟩ := h
  intro b hb
  exact h.lt b (by simpa using hb)
theorem RKeySpecS.next {w w' : World} {v : Value} {x : List KS} {F : List Nat} (h : RKeySpecS w v x F) (hb : Below w.heap.size w w') : RKeySpecS w' v x F :=
  h.of_block fun b hf => hb.block b (h.lt b hf)
theorem RKeySpecS.ex {w w' : World} {v : Value} {x : List KS} {F G : List Nat} (h : RKeySpecS w v x F) (k : Ex G w w') (d : Dj F G) : RKeySpecS w' v x F :=
  h.of_block fun b hf => k.block b (h.lt b hf) (d b hf)
theorem RKeySpecS.rd {w : World} {v : Value} {x : List KS} {F : List Nat} (h : RKeySpecS w v x F) : RdK w v x := h.1.rd

set_option maxHeartbeats 400000 in
theorem szKeySpecS_any (v : Value) (xs : List KS) (k : Int) (w : World) (hv : RdK w v xs) (hk : 0 ≤ k) (hk2 : k ≤ 1048576) :
    Calls Tryd.prog 11 #[v, .int .i64 k] w fun e w' => e = .returned (.int .i64 (if (xs.length : Int) ≤ k then k - xs.length else -1)) ∧ w = w' := by
  obtain ⟨ao, c, rfl, h1, h2, _⟩ := hv
  unfold maxLen at h2
  by_cases h : (xs.length : Int) ≤ k
  · rw [if_pos h]
    have hd : ¬ (k - (xs.length : Int)) < 0 := by omega
    go_enter Tryd.func11, Tryd.ntmps11
    go_wp2
    go_ret
    exact ⟨rfl, rfl⟩
  · rw [if_neg h]
    have hd : (k - (xs.length : Int)) < 0 := by omega
    go_enter Tryd.func11, Tryd.ntmps11
    go_wp2
    go_ret
    exact ⟨rfl, rfl⟩
theorem szKeySpecS_yes {v : Value} {x : List KS} {k : Int} {w : World} (h : DKeySpecS w v x) (hk2 : k ≤ 1048576) (hle : (szKeySpecS x : Int) ≤ k) :
    Calls Tryd.prog 11 #[v, .int .i64 k] w fun e w' => e = .returned (.int .i64 (k - (szKeySpecS x : Int))) ∧ Below w.heap.size w w' :=
  (szKeySpecS_any v x k w h (by omega) hk2).mono fun _ _ ⟨he, hb⟩ => ⟨by rw [he, if_pos (show (x.length : Int) ≤ k from hle)]; rfl, hb ▸ Below.refl _ _⟩
theorem szKeySpecS_no {v : Value} {x : List KS} {k : Int} {w : World} (h : DKeySpecS w v x) (hk : 0 ≤ k) (hk2 : k ≤ 1048576) (hle : ¬ (szKeySpecS x : Int) ≤ k) :
    Calls Tryd.prog 11 #[v, .int .i64 k] w fun e w' => e = .returned (.int .i64 (-1)) ∧ Below w.heap.size w w' :=
  (szKeySpecS_any v x k w h hk hk2).mono fun _ _ ⟨he, hb⟩ => ⟨by rw [he, if_neg (show ¬ (x.length : Int) ≤ k from hle)], hb ▸ Below.refl _ _⟩
set_option maxHeartbeats 1000000 in
theorem eqKeySpec_any (a1 : Int) (b1 c1 d1 : Bool) (a2 : Int) (b2 c2 d2 : Bool) (w : World) :
    Calls Tryd.prog 66 #[.agg #[.int .i64 a1, .bool b1, .bool c1, .bool d1], .agg #[.int .i64 a2, .bool b2, .bool c2, .bool d2]] w fun e w' => e = .returned (.bool (decide ((a1, b1, c1, d1) = (a2, b2, c2, d2)))) ∧ Below w.heap.size w w' := by
  by_cases h1 : a1 = a2
  · subst h1
    by_cases h2 : b1 = b2
    · subst h2
      by_cases h3 : c1 = c2
      · subst h3
        by_cases h4 : d1 = d2
        · subst h4
          rw [show decide ((a1, b1, c1, d1) = (a1, b1, c1, d1)) = true by simp]
          go_enter Tryd.func66, Tryd.ntmps66
          go_wp2
          go_ret
          exact ⟨rfl, ((Below.refl _ _).alloc (Nat.le_refl _) _).alloc (by simp) _⟩
        · rw [show decide ((a1, b1, c1, d1) = (a1, b1, c1, d2)) = false by simp [h4]]
          have h4b : (d1 == d2) = false := by simpa using h4
          go_enter Tryd.func66, Tryd.ntmps66
          go_wp2
          go_ret
          exact ⟨rfl, ((Below.refl _ _).alloc (Nat.le_refl _) _).alloc (by simp) _⟩
      · rw [show decide ((a1, b1, c1, d1) = (a1, b1, c2, d2)) = false by simp [h3]]
        have h4b : (c1 == c2) = false := by simpa using h3
        go_enter Tryd.func66, Tryd.ntmps66
        go_wp2
        go_ret
        exact ⟨rfl, ((Below.refl _ _).alloc (Nat.le_refl _) _).alloc (by simp) _⟩
    · rw [show decide ((a1, b1, c1, d1) = (a1, b2, c2, d2)) = false by simp [h2]]
      have h4b : (b1 == b2) = false := by simpa using h2
      go_enter Tryd.func66, Tryd.ntmps66
      go_wp2
      go_ret
      exact ⟨rfl, ((Below.refl _ _).alloc (Nat.le_refl _) _).alloc (by simp) _⟩
  · rw [show decide ((a1, b1, c1, d1) = (a2, b2, c2, d2)) = false by simp [h1]]
    go_enter Tryd.func66, Tryd.ntmps66
    go_wp2
    go_ret
    exact ⟨rfl, ((Below.refl _ _).alloc (Nat.le_refl _) _).alloc (by simp) _⟩
theorem eqKeySpec_same {x y : KS} (w : World) (h : x = y) :
    Calls Tryd.prog 66 #[.agg #[.int .i64 x.1, .bool x.2.1, .bool x.2.2.1, .bool x.2.2.2], .agg #[.int .i64 y.1, .bool y.2.1, .bool y.2.2.1, .bool y.2.2.2]] w fun e w' => e = .returned (.bool true) ∧ Below w.heap.size w w' := by
  have := eqKeySpec_any x.1 x.2.1 x.2.2.1 x.2.2.2 y.1 y.2.1 y.2.2.1 y.2.2.2 w
  rwa [show decide ((x.1, x.2.1, x.2.2.1, x.2.2.2) = (y.1, y.2.1, y.2.2.1, y.2.2.2)) = true by simp [h]] at this
theorem eqKeySpec_ne {x y : KS} (w : World) (h : ¬ x = y) :
    Calls Tryd.prog 66 #[.agg #[.int .i64 x.1, .bool x.2.1, .bool x.2.2.1, .bool x.2.2.2], .agg #[.int .i64 y.1, .bool y.2.1, .bool y.2.2.1, .bool y.2.2.2]] w fun e w' => e = .returned (.bool false) ∧ Below w.heap.size w w' := by
  have := eqKeySpec_any x.1 x.2.1 x.2.2.1 x.2.2.2 y.1 y.2.1 y.2.2.1 y.2.2.2 w
  rwa [show decide ((x.1, x.2.1, x.2.2.1, x.2.2.2) = (y.1, y.2.1, y.2.2.1, y.2.2.2)) = false from decide_eq_false h] at this
set_option maxHeartbeats 2000000 in
theorem eqKeySpecS_any (v u : Value) (xs ys : List KS) (w : World) (hv : RdK w v xs) (hu : RdK w u ys) :
    Calls Tryd.prog 15 #[v, u] w fun e w' => e = .returned (.bool (decide (xs = ys))) ∧ Below w.heap.size w w' := by
  obtain ⟨ao, c, rfl, _, h1, HA⟩ := hv
  obtain ⟨bo, d, rfl, _, h2, HB⟩ := hu
  replace HA := Lib.hid HA
  replace HB := Lib.hid HB
  unfold maxLen at h1 h2
  by_cases hne : xs.length = ys.length
  · generalize hn : xs.length = n at *
    generalize hm : ys.length = m at *
    subst hne
    replace hn := Lib.hid hn
    replace hm := Lib.hid hm
    go_enter Tryd.func15, Tryd.ntmps15
    go_wp2
    go_loopw [5] (fun i wr => ∃ k : Nat, k ≤ n ∧ i = .int .i64 k ∧ Below w.heap.size w wr ∧ ∀ j, j < k → gk xs j = gk ys j) (fun i _ => n - (intOf i).toNat)
    case atStart => exact ⟨0, Nat.zero_le _, rfl, Below.refl _ _, fun j hj => absurd hj (by omega)⟩
    case round =>
      obtain ⟨k, hk, rfl, hb, heq⟩ := hrel
      replace heq := Lib.hid heq
      by_cases hlt : k < n
      · obtain ⟨b, off, rfl, hR⟩ := HA.out (by omega)
        obtain ⟨b2, off2, rfl, hR2⟩ := HB.out (by omega)
        have h3 := (hR k hlt).below hb
        have h4 := (hR2 k hlt).below hb
        have hB1 : b < wr.heap.size := block_lt_of_cell h3.1
        have hB2 : b2 < wr.heap.size := block_lt_of_cell h4.1
        have hK := Lib.hid h3
        have hK2 := Lib.hid h4
        obtain ⟨hc1, hc2, hc3, hc4⟩ := h3
        obtain ⟨hd1, hd2, hd3, hd4⟩ := h4
        clear hR hR2
        replace hb := Lib.hid hb
        generalize hx : gk xs k = x at *
        generalize hy : gk ys k = y at *
        replace hx := Lib.hid hx
        replace hy := Lib.hid hy
        have hp : (0 : Int) ≤ (k : Int) := by omega
        obtain ⟨o1, ho1⟩ : ∃ o1, o1 = off + k * 4 := ⟨_, rfl⟩
        by_cases hxy : x = y
        · have hxy' := Lib.hid hxy
          clear hxy ho1
          go_wp2
          go_region_held3 (fun w' => w'.cell? ⟨b, off + k * 4, none⟩ = some (.int .i64 x.1) ∧ w'.cell? ⟨b, off + k * 4 + 1, none⟩ = some (.bool x.2.1) ∧ w'.cell? ⟨b, off + k * 4 + 2, none⟩ = some (.bool x.2.2.1) ∧ w'.cell? ⟨b, off + k * 4 + 3, none⟩ = some (.bool x.2.2.2) ∧ w'.cell? ⟨b2, off2 + k * 4, none⟩ = some (.int .i64 y.1) ∧ w'.cell? ⟨b2, off2 + k * 4 + 1, none⟩ = some (.bool y.2.1) ∧ w'.cell? ⟨b2, off2 + k * 4 + 2, none⟩ = some (.bool y.2.2.1) ∧ w'.cell? ⟨b2, off2 + k * 4 + 3, none⟩ = some (.bool y.2.2.2)) ((first | exact ⟨(hbel.cell (p := ⟨b, off + k * 4, none⟩) hB1).trans hc1, (hbel.cell (p := ⟨b, off + k * 4 + 1, none⟩) hB1).trans hc2, (hbel.cell (p := ⟨b, off + k * 4 + 2, none⟩) hB1).trans hc3, (hbel.cell (p := ⟨b, off + k * 4 + 3, none⟩) hB1).trans hc4, (hbel.cell (p := ⟨b2, off2 + k * 4, none⟩) hB2).trans hd1, (hbel.cell (p := ⟨b2, off2 + k * 4 + 1, none⟩) hB2).trans hd2, (hbel.cell (p := ⟨b2, off2 + k * 4 + 2, none⟩) hB2).trans hd3, (hbel.cell (p := ⟨b2, off2 + k * 4 + 3, none⟩) hB2).trans hd4⟩ | go_keep)) ((go_at_call 66; refine (eqKeySpec_same _ hxy'.out).mono ?_; rintro e w' ⟨rfl, hbel⟩))
          go_wp2
          go_roundw
          case rel =>
            refine ⟨k + 1, by omega, by go_num, ?_, fun j hj => ?_⟩
            · refine Below.next (w := wr.drew) (Below.drewN hb.out 1) ?_
              assumption
            · by_cases hjk : j = k
              · subst hjk; rw [hx.out, hy.out, hxy'.out]
              · exact heq.out j (by omega)
          case measure => simp [intOf]; omega
        · have hxy' := Lib.hid hxy
          clear hxy ho1
          go_wp2
          go_region_held3 (fun w' => w'.cell? ⟨b, off + k * 4, none⟩ = some (.int .i64 x.1) ∧ w'.cell? ⟨b, off + k * 4 + 1, none⟩ = some (.bool x.2.1) ∧ w'.cell? ⟨b, off + k * 4 + 2, none⟩ = some (.bool x.2.2.1) ∧ w'.cell? ⟨b, off + k * 4 + 3, none⟩ = some (.bool x.2.2.2) ∧ w'.cell? ⟨b2, off2 + k * 4, none⟩ = some (.int .i64 y.1) ∧ w'.cell? ⟨b2, off2 + k * 4 + 1, none⟩ = some (.bool y.2.1) ∧ w'.cell? ⟨b2, off2 + k * 4 + 2, none⟩ = some (.bool y.2.2.1) ∧ w'.cell? ⟨b2, off2 + k * 4 + 3, none⟩ = some (.bool y.2.2.2)) ((first | exact ⟨(hbel.cell (p := ⟨b, off + k * 4, none⟩) hB1).trans hc1, (hbel.cell (p := ⟨b, off + k * 4 + 1, none⟩) hB1).trans hc2, (hbel.cell (p := ⟨b, off + k * 4 + 2, none⟩) hB1).trans hc3, (hbel.cell (p := ⟨b, off + k * 4 + 3, none⟩) hB1).trans hc4, (hbel.cell (p := ⟨b2, off2 + k * 4, none⟩) hB2).trans hd1, (hbel.cell (p := ⟨b2, off2 + k * 4 + 1, none⟩) hB2).trans hd2, (hbel.cell (p := ⟨b2, off2 + k * 4 + 2, none⟩) hB2).trans hd3, (hbel.cell (p := ⟨b2, off2 + k * 4 + 3, none⟩) hB2).trans hd4⟩ | go_keep)) ((go_at_call 66; refine (eqKeySpec_ne _ hxy'.out).mono ?_; rintro e w' ⟨rfl, hbel⟩))
          go_wp2
          go_ret
          refine ⟨ret_bool ?_, ?_⟩
          · refine (decide_eq_false fun e => hxy'.out ?_).symm
            have : gk xs k = gk ys k := by rw [e]
            rwa [hx.out, hy.out] at this
          · refine Below.next (w := wr.drew) (Below.drewN hb.out 1) ?_
            assumption
      · obtain rfl : k = n := by omega
        have hd : decide (xs = ys) = true := decide_eq_true (gk_ext (by rw [hn.out, hm.out]) (fun j hj => heq.out j (by rw [hn.out] at hj; omega)))
        replace hd := Lib.hid hd
        replace hb := Lib.hid hb
        go_wp2
        go_ret
        exact ⟨ret_bool hd.out.symm, hb.out⟩
  · have hd : decide (xs = ys) = false := decide_eq_false (fun e => hne (by rw [e]))
    rw [hd]
    generalize hn : xs.length = n at *
    generalize hm : ys.length = m at *
    replace hn := Lib.hid hn
    replace hm := Lib.hid hm
    clear hd
    go_enter Tryd.func15, Tryd.ntmps15
    go_wp2
    all_goals go_ret
    all_goals exact ⟨rfl, Below.refl _ _⟩
theorem eqKeySpecS_law {v u : Value} {x y : List KS} {F G : List Nat} {w : World} (h : RKeySpecS w v x F) (k : RKeySpecS w u y G) :
    Calls Tryd.prog 15 #[v, u] w fun e w' => e = .returned (.bool (decide (x = y))) ∧ Below w.heap.size w w' :=
  eqKeySpecS_any v u x y w h.rd k.rd
set_option maxHeartbeats 400000 in
theorem toKeySpec_any (a : Int) (b c d : Bool) (w : World) :
    Calls Tryd.prog 62 #[.agg #[.int .i64 a, .bool b, .bool c, .bool d]] w fun e w' => e = .returned (.agg #[.int .i64 a, .bool b, .bool c, .bool d]) ∧ Below w.heap.size w w' := by
  go_enter Tryd.func62, Tryd.ntmps62
  go_wp2
  exact bodyPost_ret (v := .agg #[.int .i64 a, .bool b, .bool c, .bool d]) (by simp [results, Tryd.results62, go_sem]) rfl ⟨rfl, (((Below.refl _ _).alloc (Nat.le_refl _) _).alloc (by simp) _).alloc (by simp; omega) _⟩
theorem infoKs : (Tryd.prog.info? 71).map (fun i => (i.zero, i.size, i.bytes)) = some (some (.agg #[.int .i64 0, .bool false, .bool false, .bool false]), 4, 16) := by kernel_rfl
/-- A list of n key specs made by make. -/
theorem made_kss (n : Nat) : (madeCells #[Value.int .i64 0, .bool false, .bool false, .bool false] (n * 4)).toList = kss (List.replicate n (0, false, false, false)) := by
  apply List.ext_getElem (by simp [madeCells]; omega)
  intro i h1 h2
  have hi : i / 4 < (List.replicate n ((0 : Int), false, false, false)).length := by simp [madeCells] at h1 ⊢; omega
  obtain ⟨k1, k2, k3, k4⟩ := kss_at (List.replicate n ((0 : Int), false, false, false)) (i / 4) hi
  have hg : gk (List.replicate n ((0 : Int), false, false, false)) (i / 4) = (0, false, false, false) := by rw [gk_eq hi]; simp
  rw [hg] at k1 k2 k3 k4
  have hm : i % 4 = 0 ∨ i % 4 = 1 ∨ i % 4 = 2 ∨ i % 4 = 3 := by omega
  rcases hm with h | h | h | h
  · have hl : (madeCells #[Value.int .i64 0, .bool false, .bool false, .bool false] (n * 4)).toList[i] = .int .i64 0 := by simp [madeCells, h]
    rw [hl]
    rw [show 4 * (i / 4) = i by omega] at k1
    exact (Option.some.inj ((List.getElem?_eq_getElem h2).symm.trans k1)).symm
  · have hl : (madeCells #[Value.int .i64 0, .bool false, .bool false, .bool false] (n * 4)).toList[i] = .bool false := by simp [madeCells, h]
    rw [hl]
    rw [show 4 * (i / 4) + 1 = i by omega] at k2
    exact (Option.some.inj ((List.getElem?_eq_getElem h2).symm.trans k2)).symm
  · have hl : (madeCells #[Value.int .i64 0, .bool false, .bool false, .bool false] (n * 4)).toList[i] = .bool false := by simp [madeCells, h]
    rw [hl]
    rw [show 4 * (i / 4) + 2 = i by omega] at k3
    exact (Option.some.inj ((List.getElem?_eq_getElem h2).symm.trans k3)).symm
  · have hl : (madeCells #[Value.int .i64 0, .bool false, .bool false, .bool false] (n * 4)).toList[i] = .bool false := by simp [madeCells, h]
    rw [hl]
    rw [show 4 * (i / 4) + 3 = i by omega] at k4
    exact (Option.some.inj ((List.getElem?_eq_getElem h2).symm.trans k4)).symm
theorem Row.of_owns4 {w : World} {base e : Nat} {g n : Nat} {xs : List Value} (hn1 : n ≤ 1000000000) (h : w.ownsRow base e 4 (.slice (some ⟨g, 0, none⟩) n n) n xs) : Row w e g 0 (4 * n) xs := by
  obtain ⟨hl, hh⟩ := h
  rcases hh with ⟨h, _⟩ | ⟨g', cap, cur, hv, _, hg, hn, hm, hs, ht⟩
  · simp at h
  · simp at hv
    obtain ⟨rfl, rfl⟩ := hv
    refine ⟨cur, hg, by omega, by omega, ?_, fun i hi => ?_⟩
    · unfold maxLen; omega
    have h2 : xs[i]? = some xs[i] := List.getElem?_eq_getElem hi
    have h3 : i < n * 4 := by omega
    rw [← h2, ← ht, List.getElem?_take]
    simp [h3]
theorem take_setK (xs : List KS) (n k : Nat) (hn : xs.length = n) (hk : k < n) : (xs.take k ++ List.replicate (n - k) ((0 : Int), false, false, false)).set k (gk xs k) = xs.take (k + 1) ++ List.replicate (n - (k + 1)) ((0 : Int), false, false, false) := by
  rw [gk_eq (by omega)]
  apply List.ext_getElem?
  intro i
  rw [List.getElem?_set]
  simp only [List.length_append, List.length_take, List.length_replicate]
  by_cases h : k = i
  · subst h
    rw [if_pos rfl, if_pos (by omega), List.getElem?_append_left (by simp; omega)]
    simp
  · rw [if_neg h]
    by_cases h2 : i < k
    · rw [List.getElem?_append_left (by simp; omega), List.getElem?_append_left (by simp; omega)]
      simp [h2, Nat.lt_succ_of_lt h2]
    · rw [List.getElem?_append_right (by simp; omega), List.getElem?_append_right (by simp; omega)]
      simp only [List.length_take, List.getElem?_replicate]
      have : i - min k xs.length < n - k ↔ i - min (k + 1) xs.length < n - (k + 1) := by omega
      simp [this]
set_option maxHeartbeats 2000000 in
theorem toKeySpecS_any (v : Value) (xs : List KS) (w : World) (hv : RdK w v xs) (hl : xs.length ≤ 1048576) :
    Calls Tryd.prog 13 #[v] w fun e w' => e = .returned (.slice (some ⟨w.heap.size, 0, none⟩) xs.length xs.length) ∧ SlK w' (.slice (some ⟨w.heap.size, 0, none⟩) xs.length xs.length) xs ∧ Below w.heap.size w w' := by
  obtain ⟨i0, hi, hz0, hz1, hz2⟩ := info_parts infoKs
  obtain ⟨ao, c, rfl, _, _, HA⟩ := hv
  generalize hn : xs.length = n at *
  replace HA := Lib.hid HA
  replace hn := Lib.hid hn
  go_enter Tryd.func13, Tryd.ntmps13
  go_wp2_with (at_make; refine wpList_make_full _ rfl _ _ 26 rfl w.heap.size 71 i0 (.agg #[.int .i64 0, .bool false, .bool false, .bool false]) 4 Tryd.underlying26 hi hz0 hz1 _ _ _ _ n rfl rfl rfl rfl (by rw [hz2]; omega) (by unfold maxLen; omega) (Nat.le_refl _) ?_)
  intro w1 hown hgrow
  rw [made_kss] at hown
  have hrow := Row.of_owns4 (by omega) hown
  have HR := Lib.hid hrow
  have HG := Lib.hid hgrow
  clear hown hgrow hi hz0 hz1 hz2 hrow
  go_wp2
  go_loopw [4] (fun i wr => ∃ k : Nat, k ≤ n ∧ i = .int .i64 k ∧ Row wr 71 w.heap.size 0 (4 * n) (kss (xs.take k ++ List.replicate (n - k) (0, false, false, false))) ∧ w.grownBy wr none) (fun i _ => n - (intOf i).toNat)
  case atStart => exact ⟨0, Nat.zero_le _, rfl, by simpa using HR.out, HG.out⟩
  case round =>
    obtain ⟨k, hk, rfl, hrow, hgrow⟩ := hrel
    by_cases hlt : k < n
    · obtain ⟨b, off, rfl, hR⟩ := HA.out (by omega)
      obtain ⟨hc1, hc2, hc3, hc4⟩ := (hR k hlt).below (grownBy.below hgrow)
      clear hR
      generalize hx : gk xs k = x at *
      obtain ⟨x1, x2, x3, x4⟩ := x
      dsimp only at hc1 hc2 hc3 hc4
      replace hx := Lib.hid hx
      replace hrow := Lib.hid hrow
      replace hgrow := Lib.hid hgrow
      go_wp2_with fail
      refine (toKeySpec_any _ _ _ _ _).mono ?_
      rintro e w2 ⟨rfl, hbel⟩
      have hrow2 := hrow.out.below hbel hrow.out.lt
      have hgrow2 := Lib.hid (show w.grownBy w2 none from grownBy.of_below (Below.next (grownBy.below hgrow.out) hbel) none)
      have hlen : (kss (xs.take k ++ List.replicate (n - k) ((0 : Int), false, false, false))).length = 4 * n := by simp [hn.out]; omega
      have hcy : ∀ j, j < 4 * n → ∃ y, w2.cell? ⟨w.heap.size, j, none⟩ = some y := fun j hj => by
        have := hrow2.cell (i := j) (by rw [hlen]; omega)
        rw [Nat.zero_add] at this
        exact ⟨_, this⟩
      obtain ⟨y1, hy1⟩ := hcy (k * 4) (by omega)
      obtain ⟨y2, hy2⟩ := hcy (k * 4 + 1) (by omega)
      obtain ⟨y3, hy3⟩ := hcy (k * 4 + 2) (by omega)
      obtain ⟨y4, hy4⟩ := hcy (k * 4 + 3) (by omega)
      have hf1 := hrow2.frozen (k * 4)
      have hf2 := hrow2.frozen (k * 4 + 1)
      have hf3 := hrow2.frozen (k * 4 + 2)
      have hf4 := hrow2.frozen (k * 4 + 3)
      replace hrow2 := Lib.hid hrow2
      replace hlen := Lib.hid hlen
      clear hbel hcy
      go_wp2
      go_roundw
      case rel =>
        refine ⟨k + 1, by omega, by go_num, ?_, grownBy.setNew (grownBy.setNew (grownBy.setNew (grownBy.setNew hgrow2.out (Nat.le_refl _)) (Nat.le_refl _)) (Nat.le_refl _)) (Nat.le_refl _)⟩
        have hlen := hlen.out
        have h1 := (((hrow2.out.set (i := k * 4) (by rw [hlen]; omega) (.int .i64 x1)).set (i := k * 4 + 1) (by rw [List.length_set, hlen]; omega) (.bool x2)).set (i := k * 4 + 2) (by rw [List.length_set, List.length_set, hlen]; omega) (.bool x3)).set (i := k * 4 + 3) (by rw [List.length_set, List.length_set, List.length_set, hlen]; omega) (.bool x4)
        rw [Nat.zero_add, Nat.zero_add, Nat.zero_add, Nat.zero_add, ← kss_set] at h1
        have h2 := take_setK xs n k hn.out hlt
        rw [hx.out] at h2
        rwa [h2] at h1
      case measure => simp [intOf]; omega
    · obtain rfl : k = n := by omega
      replace hgrow := Lib.hid hgrow
      replace hrow := Lib.hid hrow
      go_wp2
      go_ret
      refine ⟨rfl, ⟨_, _, by rw [hn.out], .inr ⟨_, _, rfl, ⟨by have := hn.out; omega, by unfold maxLen; omega⟩, ?_⟩⟩, grownBy.below hgrow.out⟩
      rw [hn.out]
      have h3 := hrow.out
      rwa [List.take_of_length_le (by rw [hn.out]; omega), Nat.sub_self, List.replicate_zero, List.append_nil] at h3
theorem toKeySpecS_law {v : Value} {x : List KS} {w : World} (h : DKeySpecS w v x) (hl : szKeySpecS x ≤ 1048576) :
    Calls Tryd.prog 13 #[v] w fun e w' => ∃ u F, e = .returned u ∧ RKeySpecS w' u x F ∧ Fr w.heap.size F ∧ Below w.heap.size w w' :=
  (toKeySpecS_any v x w h hl).mono fun _ _ ⟨he, hs, hb⟩ => ⟨_, _, he, ⟨hs, rfl⟩, by intro b hb; simp [Value.ownBlock] at hb; omega, hb⟩
set_option maxRecDepth 100000 in
/-- A slice of key specs among the arguments. -/
theorem argKeySpecS {H : Type} {enc : TypeId × Value → H} {W : World} {base : Nat} {v : Value} {d : DataW H} {p : List MemPlace} (hval : Value.okWide Tryd.prog W .any base 22 v)
    (h : DataW.Trod enc Tryd.prog W 0 (fun _ => true) true 22 v d p) : ∃ x, DKeySpecS W v x := by
  obtain ⟨a0, len0, cap0, rfl⟩ := okWide_slice Tryd.underlying22 hval
  obtain ⟨fuel, hf⟩ := h
  rcases open_slice Tryd.underlying22 hf with ⟨hcs, _⟩ | ⟨a, len, cap, m, n, D, Pl, hcs, _, hl, hm, hmm, _, hx⟩
  · simp [Value.cells] at hcs
    obtain ⟨rfl, rfl, rfl⟩ := hcs
    exact ⟨[], none, 0, rfl, Nat.le_refl _, Nat.zero_le _, fun h => absurd h (by simp)⟩
  · simp [Value.cells] at hcs
    obtain ⟨rfl, rfl, rfl⟩ := hcs
    have hm2 : m = cap0 := by simpa using hmm
    subst hm2
    have each : ∀ i, i < m → ∃ k : KS, W.cell? (a.add (i * 4)) = some (.int .i64 k.1) ∧ W.cell? (a.add (i * 4 + 1)) = some (.bool k.2.1) ∧ W.cell? (a.add (i * 4 + 2)) = some (.bool k.2.2.1) ∧ W.cell? (a.add (i * 4 + 3)) = some (.bool k.2.2.2) := by
      intro i hi
      obtain ⟨cs', h1, h2⟩ := hx i hi
      have ce : Tryd.prog.cellsOf 81 = 4 := by kernel_rfl
      have ci : Tryd.prog.cellsOf 3 = 1 := by kernel_rfl
      have cb : Tryd.prog.cellsOf 4 = 1 := by kernel_rfl
      rw [ce] at h1
      obtain ⟨_, hlen, hcell⟩ := World.cells?_some h1
      obtain ⟨y0, y1, y2, y3, q, _, _, g0, g1, g2, g3⟩ := Joins.trod_struct4 Tryd.underlying81 h2
      match cs', hlen with
      | [v0, v1, v2, v3], _ =>
        simp [ci, cb] at g0 g1 g2 g3
        have e0 := hcell 0 (by omega)
        have e1 := hcell 1 (by omega)
        have e2 := hcell 2 (by omega)
        have e3 := hcell 3 (by omega)
        rw [Deep.add_add] at e0 e1 e2 e3
        obtain ⟨k0, j0, _⟩ := DataW.trod_int Tryd.underlying3 g0
        obtain ⟨k1, j1, _⟩ := DataW.trod_bool Tryd.underlying4 g1
        obtain ⟨k2, j2, _⟩ := DataW.trod_bool Tryd.underlying4 g2
        obtain ⟨k3, j3, _⟩ := DataW.trod_bool Tryd.underlying4 g3
        refine ⟨(k0, k1, k2, k3), ?_, ?_, ?_, ?_⟩
        · rw [← (List.cons.inj j0).1]; simpa using e0
        · rw [← (List.cons.inj j1).1]; simpa using e1
        · rw [← (List.cons.inj j2).1]; simpa using e2
        · rw [← (List.cons.inj j3).1]; simpa using e3
    obtain ⟨q, hq⟩ := choose_lt each
    refine ⟨(List.range len0).map q, some a, m, by simp, by simpa using hl, hm, fun hp => ?_⟩
    have hp' : 0 < len0 := by simpa using hp
    have h0 := hq 0 (by omega)
    have hxa := addr_plainK h0.1
    refine ⟨a.block, a.off, by rw [← hxa], fun i hi => ?_⟩
    have hi' : i < len0 := by simpa using hi
    have hh := hq i (by omega)
    rw [hxa, Addr.add_lit, Addr.add_lit, Addr.add_lit, Addr.add_lit] at hh
    have hg : gk ((List.range len0).map q) i = q i := by rw [gk_eq hi]; simp
    rw [hg]
    exact hh
end Go.Proofs.YtoeonplbgbgjmaaDoor
namespace Go.Proofs.YtoeonplbgbgjmaaDoor
open Go.RowKit
set_option linter.unusedVariables false
set_option linter.unusedSimpArgs false

def fldB (k : KS) : Bool := inB k.1 0 5
/-- A key specification. -/
def okK (xs : List KS) : Bool := inB (xs.length : Int) 1 4 && xs.all fldB
theorem all_bad {xs : List KS} {k : Nat} (hk : k < xs.length) (h : fldB (gk xs k) = false) : xs.all fldB = false := by
  rw [gk_eq hk] at h
  rw [List.all_eq_false]
  exact ⟨_, List.getElem_mem hk, by simp [h]⟩
theorem all_good {xs : List KS} (h : ∀ j, j < xs.length → fldB (gk xs j) = true) : xs.all fldB = true := by
  rw [List.all_eq_true]
  intro x hx
  obtain ⟨j, hj, rfl⟩ := List.getElem_of_mem hx
  have := h j hj
  rwa [gk_eq hj] at this
theorem okK_len {xs : List KS} (h : okK xs = true) : 1 ≤ xs.length ∧ xs.length ≤ 4 := by
  unfold okK at h
  rw [Bool.and_eq_true] at h
  have := inB_iff.1 h.1
  omega
theorem okK_fld {xs : List KS} (h : okK xs = true) {i : Nat} (hi : i < xs.length) : 0 ≤ (gk xs i).1 ∧ (gk xs i).1 ≤ 5 := by
  unfold okK at h
  rw [Bool.and_eq_true, List.all_eq_true] at h
  have := h.2 _ (List.getElem_mem hi)
  rw [← gk_eq hi] at this
  exact inB_iff.1 this

set_option maxHeartbeats 400000 in
theorem specFn_any (a : Int) (p q r : Bool) (w : World) :
    Calls Tryd.prog 105 #[.agg #[.int .i64 a, .bool p, .bool q, .bool r]] w fun e w' => e = .returned (.bool (inB a 0 5)) ∧ Below w.heap.size w w' := by
  go_enter Tryd.func105, Tryd.ntmps105
  go_wp2_with fail
  refine (in_any _ _ _ _).mono ?_
  rintro e w1 ⟨rfl, rfl⟩
  go_wp2
  go_ret
  exact ⟨rfl, (Below.refl _ _).alloc (Nat.le_refl _) _⟩

set_option maxHeartbeats 400000 in
theorem allKsFn_any (a : Int) (p q r : Bool) (bp : Nat) (w : World) (hc : w.cell? ⟨bp, 0, none⟩ = some (.func (.func 105) #[] #[])) :
    Calls Tryd.prog 127 #[.agg #[.int .i64 a, .bool p, .bool q, .bool r], .pointer (some ⟨bp, 0, none⟩)] w fun e w' => e = .returned (.bool (!inB a 0 5)) ∧ Below w.heap.size w w' := by
  have hlt := block_lt_of_cell hc
  have hca : ∀ o, (w.alloc o).cell? ⟨bp, 0, none⟩ = some (.func (.func 105) #[] #[]) := fun o => (((Below.refl w.heap.size w).alloc (Nat.le_refl _) o).cell (p := ⟨bp, 0, none⟩) hlt).trans hc
  go_enter Tryd.func127, Tryd.ntmps127
  go_wp2_with fail
  refine (specFn_any _ _ _ _ _).mono ?_
  rintro e w1 ⟨rfl, hb⟩
  replace hb := Lib.hid hb
  go_wp2
  go_ret
  exact ⟨rfl, Below.next ((Below.refl w.heap.size w).alloc (Nat.le_refl _) _) hb.out⟩

set_option maxHeartbeats 1000000 in
theorem indexKs_any (v : Value) (xs : List KS) (bp : Nat) (w : World) (hv : RdK w v xs) (hc : w.cell? ⟨bp, 0, none⟩ = some (.func (.func 105) #[] #[])) :
    Calls Tryd.prog 147 #[v, .func (.func 127) #[] #[.pointer (some ⟨bp, 0, none⟩)]] w fun e w' => e = .returned (.int .i64 (ixf (fun x => !fldB x) xs)) ∧ Below w.heap.size w w' := by
  obtain ⟨ao, c, rfl, h1, h2, HA⟩ := hv
  unfold maxLen at h2
  have hlt0 := block_lt_of_cell hc
  generalize hn : xs.length = n at *
  replace HA := Lib.hid HA
  replace hn := Lib.hid hn
  replace hc := Lib.hid hc
  go_enter Tryd.func147, Tryd.ntmps147
  go_wp2
  go_loopw [8] (fun i wr => ∃ k : Nat, k ≤ n ∧ i = .int .i64 k ∧ Below w.heap.size w wr ∧ ∀ j, j < k → fldB (gk xs j) = true) (fun i _ => n - (intOf i).toNat)
  case atStart => exact ⟨0, Nat.zero_le _, rfl, Below.refl _ _, fun j hj => absurd hj (by omega)⟩
  case round =>
    obtain ⟨k, hk, rfl, hb, hq⟩ := hrel
    replace hq := Lib.hid hq
    by_cases hlt : k < n
    · obtain ⟨b, off, rfl, hR⟩ := HA.out (by omega)
      obtain ⟨hc1, hc2, hc3, hc4⟩ := (hR k hlt).below hb
      have hcf := Lib.hid ((hb.cell (p := ⟨bp, 0, none⟩) hlt0).trans hc.out)
      clear hR
      generalize hx : gk xs k = x at *
      obtain ⟨x1, x2, x3, x4⟩ := x
      dsimp only at hc1 hc2 hc3 hc4
      replace hx := Lib.hid hx
      replace hb := Lib.hid hb
      have hfe : Hid (fldB (x1, x2, x3, x4) = inB x1 0 5) := Lib.hid rfl
      cases hr : inB x1 0 5
      · replace hr := Lib.hid hr
        go_wp2_with fail
        refine (allKsFn_any _ _ _ _ _ _ hcf.out).mono ?_
        rintro e w2 ⟨rfl, b2⟩
        replace hb := Lib.hid (Below.next hb.out b2)
        clear b2
        rw [hr.out]
        go_wp2
        go_ret
        refine ⟨ret_int (ixf_some (by rw [hn.out]; omega) ?_ fun j hj => ?_).symm, hb.out⟩
        · rw [← gk_eq, hx.out, hfe.out, hr.out]; rfl
        · have := hq.out j hj
          rw [← gk_eq, this]; rfl
      · replace hr := Lib.hid hr
        go_wp2_with fail
        refine (allKsFn_any _ _ _ _ _ _ hcf.out).mono ?_
        rintro e w2 ⟨rfl, b2⟩
        replace hb := Lib.hid (Below.next hb.out b2)
        clear b2
        rw [hr.out]
        go_wp2
        go_roundw
        case rel =>
          refine ⟨k + 1, by omega, by go_num, hb.out, fun j hj => ?_⟩
          by_cases hjk : j = k
          · subst hjk; rw [hx.out, hfe.out]; exact hr.out
          · exact hq.out j (by omega)
        case measure => simp [intOf]; omega
    · obtain rfl : k = n := by omega
      replace hb := Lib.hid hb
      go_wp2
      go_ret
      refine ⟨ret_int (ixf_none fun j hj => ?_).symm, hb.out⟩
      have := hq.out j (by rw [← hn.out]; exact hj)
      rw [← gk_eq, this]; rfl

set_option maxHeartbeats 400000 in
theorem containsKs_any (v : Value) (xs : List KS) (bp : Nat) (w : World) (hv : RdK w v xs) (hc : w.cell? ⟨bp, 0, none⟩ = some (.func (.func 105) #[] #[])) :
    Calls Tryd.prog 126 #[v, .func (.func 127) #[] #[.pointer (some ⟨bp, 0, none⟩)]] w fun e w' => e = .returned (.bool (xs.any fun x => !fldB x)) ∧ Below w.heap.size w w' := by
  rw [← ixf_nonneg]
  replace hv := Lib.hid hv
  replace hc := Lib.hid hc
  go_enter Tryd.func126, Tryd.ntmps126
  go_wp2_with fail
  refine (indexKs_any _ _ _ _ hv.out hc.out).mono ?_
  rintro e w1 ⟨rfl, hb⟩
  replace hb := Lib.hid hb
  go_wp2
  go_ret
  exact ⟨rfl, hb.out⟩

set_option maxHeartbeats 400000 in
theorem allKs_any (v : Value) (xs : List KS) (w : World) (hv : RdK w v xs) :
    Calls Tryd.prog 104 #[v, .func (.func 105) #[] #[]] w fun e w' => e = .returned (.bool (xs.all fldB)) ∧ Below w.heap.size w w' := by
  have hb : Below w.heap.size w (w.alloc (.cells #[.func (.func 105) #[] #[]] 120)) := (Below.refl _ _).alloc (Nat.le_refl _) _
  have hv2 := Lib.hid (hv.below hb)
  clear hv
  replace hb := Lib.hid hb
  go_enter Tryd.func104, Tryd.ntmps104
  go_wp2_with fail
  refine (containsKs_any _ _ _ _ hv2.out (by simp [go_sem])).mono ?_
  rintro e w' ⟨rfl, hb2⟩
  have hb3 := Lib.hid (Below.next hb.out hb2)
  clear hb2
  go_wp2
  go_ret
  exact ⟨ret_bool (any_not _ xs), hb3.out⟩

set_option maxHeartbeats 400000 in
theorem areSpecs_any (v : Value) (xs : List KS) (w : World) (hv : RdK w v xs) :
    Calls Tryd.prog 63 #[v] w fun e w' => e = .returned (.bool (okK xs)) ∧ Below w.heap.size w w' := by
  have hv2 := Lib.hid hv
  obtain ⟨ao, c, rfl, h1, h2, _⟩ := hv
  unfold maxLen at h2
  unfold okK
  cases hi : inB (xs.length : Int) 1 4
  · rw [Bool.false_and]
    replace hi := Lib.hid hi
    generalize hn : xs.length = n at *
    replace hn := Lib.hid hn
    go_enter Tryd.func63, Tryd.ntmps63
    go_wp2_with fail
    refine (in_any _ _ _ _).mono ?_
    rintro e w1 ⟨rfl, rfl⟩
    rw [hi.out]
    go_wp2
    go_ret
    exact ⟨rfl, Below.refl _ _⟩
  · rw [Bool.true_and]
    replace hi := Lib.hid hi
    generalize hn : xs.length = n at *
    replace hn := Lib.hid hn
    have hal := Lib.hid (allKs_any _ xs w hv2.out)
    go_enter Tryd.func63, Tryd.ntmps63
    go_wp2_with fail
    refine (in_any _ _ _ _).mono ?_
    rintro e w1 ⟨rfl, rfl⟩
    rw [hi.out]
    go_wp2_with fail
    refine hal.out.mono ?_
    rintro e w1 ⟨rfl, hb⟩
    replace hb := Lib.hid hb
    go_wp2
    go_ret
    exact ⟨rfl, hb.out⟩

set_option maxHeartbeats 1000000 in
theorem l2Specs_any (v : Value) (xs : List KS) (w : World) (hv : RdK w v xs) :
    Calls Tryd.prog 60 #[v] w fun e w' => e = .returned (.bool (okK xs)) ∧ w = w' := by
  have hno := Lib.hid (fun (k : Nat) (hk : k < xs.length) (h : fldB (gk xs k) = false) => show okK xs = false by unfold okK; rw [all_bad hk h, Bool.and_false])
  have hyes := Lib.hid (fun (h : ∀ j, j < xs.length → fldB (gk xs j) = true) => show okK xs = inB (xs.length : Int) 1 4 by unfold okK; rw [all_good h, Bool.and_true])
  obtain ⟨ao, c, rfl, h1, h2, HA⟩ := hv
  unfold maxLen at h2
  generalize hR : okK xs = R at *
  generalize hn : xs.length = n at *
  replace HA := Lib.hid HA
  replace hn := Lib.hid hn
  replace hR := Lib.hid hR
  go_enter Tryd.func60, Tryd.ntmps60
  go_wp2
  go_loop [3] (fun i => ∃ k : Nat, k ≤ n ∧ i = .int .i64 k ∧ ∀ j, j < k → fldB (gk xs j) = true) (fun i => n - (intOf i).toNat)
  case atStart => exact ⟨0, Nat.zero_le _, rfl, fun j hj => absurd hj (by omega)⟩
  case round =>
    obtain ⟨k, hk, rfl, hq⟩ := hrel
    replace hq := Lib.hid hq
    by_cases hlt : k < n
    · obtain ⟨b, off, rfl, hRd⟩ := HA.out (by omega)
      obtain ⟨hc1, _, _, _⟩ := hRd k hlt
      clear hRd
      have hfe : Hid (fldB (gk xs k) = inB (gk xs k).1 0 5) := Lib.hid rfl
      generalize hX : (gk xs k).1 = X at *
      replace hX := Lib.hid hX
      cases hr : inB X 0 5
      · have hf := Lib.hid (hno.out k hlt (by rw [hfe.out, hr]))
        replace hr := Lib.hid hr
        go_wp2_with fail
        refine (l1In_any _ _ _ _).mono ?_
        rintro e w' ⟨rfl, rfl⟩
        rw [hr.out]
        go_wp2
        go_ret
        exact ⟨by rw [hf.out]; rfl, rfl⟩
      · replace hr := Lib.hid hr
        go_wp2_with fail
        refine (l1In_any _ _ _ _).mono ?_
        rintro e w' ⟨rfl, rfl⟩
        rw [hr.out]
        go_wp2
        go_round
        case rel =>
          refine ⟨k + 1, by omega, by go_num, fun j hj => ?_⟩
          by_cases hjk : j = k
          · subst hjk; rw [hfe.out]; exact hr.out
          · exact hq.out j (by omega)
        case measure => simp [intOf]; omega
    · obtain rfl : k = n := by omega
      have hf := Lib.hid (hyes.out hq.out)
      go_wp2_with fail
      refine (l1In_any _ _ _ _).mono ?_
      rintro e w' ⟨rfl, rfl⟩
      go_wp2
      go_ret
      exact ⟨by rw [hf.out]; rfl, rfl⟩
end Go.Proofs.YtoeonplbgbgjmaaDoor
namespace Go.Proofs.YtoeonplbgbgjmaaDoor
open Go.RowKit Go.Deep

def tm (a : Int) : Bool := a % 3 == 0
def mk1 (k : Int) : KS := (k, tm (k + 1), tm (k + 1 + 1), tm (k + 1 + 1 + 1))
def marksK (k : Int) (n : Nat) : List KS := (List.range n).map fun (j : Nat) => mk1 (k + 4 * (j : Int))
@[simp] theorem marksK_length (k : Int) (n : Nat) : (marksK k n).length = n := by simp [marksK]
theorem marksK_gk (k : Int) (n j : Nat) (h : j < n) : gk (marksK k n) j = mk1 (k + 4 * (j : Int)) := by
  rw [gk_eq (by simpa using h)]; simp [marksK]
theorem marksK_step (xs : List KS) (k : Int) (i n : Nat) (hn : xs.length = n) (hi : i < n) : (marksK k i ++ xs.drop i).set i (mk1 (k + 4 * (i : Int))) = marksK k (i + 1) ++ xs.drop (i + 1) := by
  apply List.ext_getElem?
  intro j
  rw [List.getElem?_set]
  simp only [List.length_append, marksK_length, List.length_drop]
  by_cases h : i = j
  · subst h
    rw [if_pos rfl, if_pos (by omega), List.getElem?_append_left (by simp)]
    simp [marksK]
  · rw [if_neg h]
    by_cases h2 : j < i
    · rw [List.getElem?_append_left (by simp; omega), List.getElem?_append_left (by simp; omega)]
      simp [marksK, h2, Nat.lt_succ_of_lt h2]
    · rw [List.getElem?_append_right (by simp; omega), List.getElem?_append_right (by simp; omega)]
      simp only [marksK_length, List.getElem?_drop]
      congr 1
      omega
theorem SlK.row {w : World} {n c : Nat} {ao : Option Addr} {xs : List KS} (h : SlK w (.slice ao n c) xs) (hp : 0 < n) :
    ∃ b off, ao = some ⟨b, off, none⟩ ∧ xs.length = n ∧ (xs.length ≤ c ∧ c ≤ maxLen) ∧ Row w 71 b off (4 * xs.length) (kss xs) := by
  obtain ⟨ao', c', hv, h⟩ := h
  simp at hv
  obtain ⟨rfl, rfl, rfl⟩ := hv
  rcases h with ⟨_, h, _⟩ | ⟨b, off, rfl, hc, hr⟩
  · rw [h] at hp
    simp at hp
  · exact ⟨b, off, rfl, rfl, hc, hr⟩
theorem SlK.shape {w : World} {v : Value} {xs : List KS} (h : SlK w v xs) : ∃ ao c, v = .slice ao xs.length c ∧ xs.length ≤ c ∧ c ≤ maxLen := by
  obtain ⟨ao, c, rfl, h1, h2, _⟩ := h.rd
  exact ⟨ao, c, rfl, h1, h2⟩
theorem SlK.set {w : World} {n c b off : Nat} {xs : List KS} (h : SlK w (.slice (some ⟨b, off, none⟩) n c) xs) {i : Nat} (hi : i < n) (x : Int) (p q r : Bool) :
    SlK ((((w.setCell ⟨b, off + i * 4, none⟩ (.int .i64 x)).setCell ⟨b, off + i * 4 + 1, none⟩ (.bool p)).setCell ⟨b, off + i * 4 + 2, none⟩ (.bool q)).setCell ⟨b, off + i * 4 + 3, none⟩ (.bool r)) (.slice (some ⟨b, off, none⟩) n c) (xs.set i (x, p, q, r)) := by
  obtain ⟨b', off', hb, hn, hc, hr⟩ := h.row (by omega)
  simp at hb
  obtain ⟨rfl, rfl⟩ := hb
  have h1 := (((hr.set (i := i * 4) (by rw [kss_length]; omega) (.int .i64 x)).set (i := i * 4 + 1) (by rw [List.length_set, kss_length]; omega) (.bool p)).set (i := i * 4 + 2) (by rw [List.length_set, List.length_set, kss_length]; omega) (.bool q)).set (i := i * 4 + 3) (by rw [List.length_set, List.length_set, List.length_set, kss_length]; omega) (.bool r)
  rw [← kss_set, ← Nat.add_assoc, ← Nat.add_assoc, ← Nat.add_assoc] at h1
  exact ⟨_, _, by rw [List.length_set, hn], .inr ⟨_, _, rfl, by rw [List.length_set]; exact hc, by rw [List.length_set]; exact h1⟩⟩
theorem SlK.cells {w : World} {n c b off : Nat} {xs : List KS} (h : SlK w (.slice (some ⟨b, off, none⟩) n c) xs) {i : Nat} (hi : i < n) :
    K4 w b (off + i * 4) (gk xs i) ∧ ∀ j, w.frozen? ⟨b, j, none⟩ = false := by
  obtain ⟨b', off', hb, hn, hc, hr⟩ := h.row (by omega)
  simp at hb
  obtain ⟨rfl, rfl⟩ := hb
  exact ⟨hr.k4 (by omega), fun j => hr.frozen j⟩
theorem mod_lt3 {a : Int} (h : 0 ≤ a) : 0 ≤ a.tmod 3 ∧ a.tmod 3 ≤ 2 := by
  rw [Int.tmod_eq_emod_of_nonneg h]
  omega

set_option maxHeartbeats 4000000 in
theorem markKeySpecS_any (v : Value) (xs : List KS) (k : Int) (w : World) (hv : SlK w v xs) (hl : xs.length ≤ 1000000000000) (hk0 : 0 ≤ k) (hk : k ≤ 1000000000000) :
    Calls Tryd.prog 18 #[v, .int .i64 k] w fun e w' => e = .returned (.int .i64 (k + 4 * (xs.length : Int))) ∧
      SlK w' v (marksK k xs.length) ∧ w.grownBy w' v.ownBlock := by
  obtain ⟨ao, c, rfl, _, hcm⟩ := hv.shape
  unfold maxLen at hcm
  generalize hn : xs.length = n at *
  replace hn := Lib.hid hn
  replace hv := Lib.hid hv
  go_enter Tryd.func18, Tryd.ntmps18
  go_wp2
  go_loopw [1, 5] (fun m i wr => ∃ j : Nat, j ≤ n ∧ i = .int .i64 j ∧ m = .int .i64 (k + 4 * (j : Int)) ∧ SlK wr (.slice ao n c) (marksK k j ++ xs.drop j) ∧ w.grownBy wr (Value.slice ao n c).ownBlock) (fun _ i _ => n - (intOf i).toNat)
  case atStart => exact ⟨0, Nat.zero_le _, rfl, by simp, by simpa [marksK] using hv.out, World.grownBy.refl _ _⟩
  case round =>
    obtain ⟨j, hj, rfl, rfl, hs, hg⟩ := hrel
    by_cases hlt : j < n
    · obtain ⟨b, off, rfl, _, _⟩ := hs.row (by omega)
      obtain ⟨⟨hc1, hc2, hc3, hc4⟩, hf⟩ := hs.cells hlt
      have hf1 := hf (off + j * 4)
      have hf2 := hf (off + j * 4 + 1)
      have hf3 := hf (off + j * 4 + 2)
      have hf4 := hf (off + j * 4 + 3)
      clear hf
      have hst := Lib.hid (marksK_step xs k j n hn.out hlt)
      have hkj : (k + 4 * (j : Int)) + 4 = k + 4 * ((j + 1 : Nat) : Int) := by omega
      replace hkj := Lib.hid hkj
      generalize hK : k + 4 * (j : Int) = K at *
      have hK0 : 0 ≤ K := by omega
      have hK1 : K ≤ 9000000000000 := by omega
      replace hK := Lib.hid hK
      have m1 := mod_lt3 (a := K + 1) (by omega)
      have m2 := mod_lt3 (a := K + 1 + 1) (by omega)
      have m3 := mod_lt3 (a := K + 1 + 1 + 1) (by omega)
      have e1 : tm (K + 1) = ((K + 1) % 3 == 0) := rfl
      have e2 : tm (K + 1 + 1) = ((K + 1 + 1) % 3 == 0) := rfl
      have e3 : tm (K + 1 + 1 + 1) = ((K + 1 + 1 + 1) % 3 == 0) := rfl
      have hmk := Lib.hid (show mk1 K = (K, tm (K + 1), tm (K + 1 + 1), tm (K + 1 + 1 + 1)) from rfl)
      replace e1 := Lib.hid e1
      replace e2 := Lib.hid e2
      replace e3 := Lib.hid e3
      replace hs := Lib.hid hs
      replace hg := Lib.hid hg
      go_wp2
      go_roundw
      case rel =>
        refine ⟨j + 1, by omega, by go_num, ?_, ?_, ?_⟩
        · rw [← hkj.out]; congr 1; omega
        · rw [← hst.out, hmk.out, e1.out, e2.out, e3.out]
          exact hs.out.set hlt _ _ _ _
        · exact grownBy.setIn (p := ⟨b, off + j * 4 + 3, none⟩) (grownBy.setIn (p := ⟨b, off + j * 4 + 2, none⟩) (grownBy.setIn (p := ⟨b, off + j * 4 + 1, none⟩) (grownBy.setIn (p := ⟨b, off + j * 4, none⟩) hg.out rfl) rfl) rfl) rfl
      case measure => simp [intOf]; omega
    · replace hs := Lib.hid hs
      replace hg := Lib.hid hg
      go_wp2
      go_ret
      obtain rfl : j = n := by omega
      refine ⟨rfl, ?_, hg.out⟩
      have := hs.out
      rwa [List.drop_of_length_le (by rw [hn.out]; omega), List.append_nil] at this

set_option maxHeartbeats 4000000 in
theorem heldKeySpecS_any (v : Value) (n : Nat) (k : Int) (w : World) (hv : SlK w v (marksK k n)) (hl : n ≤ 1000000000000) (hk0 : 0 ≤ k) (hk : k ≤ 1000000000000) :
    Calls Tryd.prog 19 #[v, .int .i64 k] w fun e w' => e = .returned (.int .i64 (k + 4 * (n : Int))) ∧ ∃ q, w' = w.drewN q := by
  obtain ⟨ao, c, rfl, _, hcm⟩ := hv.shape
  unfold maxLen at hcm
  rw [marksK_length] at *
  replace hv := Lib.hid hv
  go_enter Tryd.func19, Tryd.ntmps19
  go_wp2
  go_loopw [1, 5] (fun m i wr => ∃ j q : Nat, j ≤ n ∧ i = .int .i64 j ∧ m = .int .i64 (k + 4 * (j : Int)) ∧ wr = w.drewN q) (fun _ i _ => n - (intOf i).toNat)
  case atStart => exact ⟨0, 0, Nat.zero_le _, rfl, by simp, rfl⟩
  case round =>
    obtain ⟨j, q, hj, rfl, rfl, rfl⟩ := hrel
    by_cases hlt : j < n
    · obtain ⟨b, off, rfl, _, _⟩ := hv.out.row (by omega)
      obtain ⟨⟨hc1, hc2, hc3, hc4⟩, _⟩ := hv.out.cells hlt
      rw [marksK_gk k n j hlt] at hc1 hc2 hc3 hc4
      have hkj : (k + 4 * (j : Int)) + 4 = k + 4 * ((j + 1 : Nat) : Int) := by omega
      replace hkj := Lib.hid hkj
      generalize hK : k + 4 * (j : Int) = K at *
      have hK0 : 0 ≤ K := by omega
      have hK1 : K ≤ 9000000000000 := by omega
      replace hK := Lib.hid hK
      have m1 := mod_lt3 (a := K + 1) (by omega)
      have m2 := mod_lt3 (a := K + 1 + 1) (by omega)
      have m3 := mod_lt3 (a := K + 1 + 1 + 1) (by omega)
      dsimp only [mk1, tm] at hc1 hc2 hc3 hc4
      have z1 := bne_self_eq_false' (a := ((K + 1) % 3 == 0))
      have z2 := bne_self_eq_false' (a := ((K + 1 + 1) % 3 == 0))
      have z3 := bne_self_eq_false' (a := ((K + 1 + 1 + 1) % 3 == 0))
      go_wp2
      go_roundw
      case rel => exact ⟨j + 1, _, by omega, by go_num, by rw [← hkj.out]; congr 1; omega, rfl⟩
      case measure => simp [intOf]; omega
    · go_wp2
      go_ret
      obtain rfl : j = n := by omega
      exact ⟨rfl, _, rfl⟩

/-- The slice y bears the marks from k to k'. -/
def MkKeySpecS (k k' : Int) (y : List KS) : Prop := ∃ n : Nat, y = marksK k n ∧ k' = k + 4 * (n : Int) ∧ n ≤ 100000000000
theorem markKeySpecS_law {v : Value} {x : List KS} {F : List Nat} {w : World} {k : Int} (h : RKeySpecS w v x F) (hl : szKeySpecS x ≤ 100000000000) (h0 : 0 ≤ k) (hk : k ≤ 1000000000000) :
    Calls Tryd.prog 18 #[v, .int .i64 k] w fun e w' => ∃ y k', e = .returned (.int .i64 k') ∧ RKeySpecS w' v y F ∧ MkKeySpecS k k' y ∧ k ≤ k' ∧ k' ≤ k + 4 * (szKeySpecS x : Int) ∧ Ex F w w' :=
  (markKeySpecS_any v x k w h.1 (Nat.le_trans (show x.length ≤ 100000000000 from hl) (by omega)) h0 hk).mono fun _ _ ⟨he, hs, hg⟩ => ⟨_, _, he, ⟨hs, h.2⟩, ⟨_, rfl, rfl, hl⟩, by omega, Int.le_refl _, by rw [h.2]; exact Ex.of_grown hg⟩
theorem heldKeySpecS_law {v : Value} {y : List KS} {F : List Nat} {w : World} {k k' : Int} (h : RKeySpecS w v y F) (m : MkKeySpecS k k' y) (h0 : 0 ≤ k) (hk : k ≤ 1000000000000) :
    Calls Tryd.prog 19 #[v, .int .i64 k] w fun e w' => e = .returned (.int .i64 k') ∧ Below w.heap.size w w' := by
  obtain ⟨n, rfl, rfl, hn⟩ := m
  exact (heldKeySpecS_any v n k w h.1 (by omega) h0 hk).mono fun _ _ ⟨he, hb⟩ => ⟨he, Below.quiet hb⟩
end Go.Proofs.YtoeonplbgbgjmaaDoor
