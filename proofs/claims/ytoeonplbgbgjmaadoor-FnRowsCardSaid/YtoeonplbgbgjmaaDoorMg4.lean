/- The draws: anyPermutation, DrawIsValidPermutation. The draw of a permutation, from the code. The helpers of the property laws: vBig, and the draws that pass on. What the walks of the property laws share. A slice of bytes among the arguments. -/
import Derived.Test.YtoeonplbgbgjmaaDoorDrawP
import Derived.Test.YtoeonplbgbgjmaaDoorIntSS
import Derived.Test.YtoeonplbgbgjmaaDoorMg1
namespace Go.Proofs.YtoeonplbgbgjmaaDoor
open Go.RowKit
set_option linter.unusedVariables false
set_option linter.unusedSimpArgs false

/-- New memory that reads as a list of ints. -/
theorem Rd.lits (w : World) (xs : List Int) (hl : xs.length ≤ 1000) : Rd (w.alloc (.cells (ints xs).toArray 3)) (.slice (some ⟨w.heap.size, 0, none⟩) xs.length xs.length) xs := by
  refine ⟨_, xs.length, rfl, Nat.le_refl _, by unfold maxLen; omega, fun _ => ⟨w.heap.size, 0, rfl, fun i hi => ?_⟩⟩
  have hr : Row (w.alloc (.cells (ints xs).toArray 3)) 3 w.heap.size 0 xs.length (ints xs) := by
    refine ⟨(ints xs).toArray, by show (w.heap.push _)[w.heap.size]? = _; simp, by simp, by simp, by unfold maxLen; omega, fun i hi => ?_⟩
    rw [Nat.zero_add, List.getElem?_toArray, List.getElem?_eq_getElem]
  exact hr.cellInt hi

/-- A row of one's own grown: what lay there before stands. -/
theorem Ex.grown {F : List Nat} {w0 w w' : World} {r : Option Nat} {b : Nat} (h : Ex F w0 w) (hg : w.grownBy w' r) (hb : r = some b) (hlt : w0.heap.size ≤ b) : Ex F w0 w' :=
  ⟨hg.os.trans h.os, hg.tape.trans h.tape, hg.output.trans h.output, Nat.le_trans h.size hg.size, fun k hk hr => (hg.block k (Nat.lt_of_lt_of_le hk h.size) (by subst hb; intro e; injection e; omega)).trans (h.block k hk hr)⟩

/-- The cursor stands while a row of one's own grows. -/
theorem Cur.grown {w w' : World} {cb K b B : Nat} {v : Value} {r : Option Nat} (h : Cur w cb v K) (hg : w.grownBy w' r) (hr : r = some b) (hcb : cb < B) (hvb : ∀ b, v.ownBlock = some b → b < B) (hB : B ≤ b) : Cur w' cb v K :=
  h.ex (F := [b]) ⟨hg.os, hg.tape, hg.output, hg.size, fun k hk hr2 => hg.block k hk (by subst hr; intro e; injection e with e; exact hr2 (by simp [e]))⟩ (by simp; omega) (fun b9 h9 => by have := hvb b9 h9; simp; omega)

end Go.Proofs.YtoeonplbgbgjmaaDoor
namespace Go.Proofs.YtoeonplbgbgjmaaDoor
open Go.RowKit
set_option linter.unusedVariables false
set_option linter.unusedSimpArgs false

/-- A new cursor over the code. -/
theorem Cur.start {w : World} {d : Value} (h : RdBy w d) (hd : ∀ b, d.ownBlock = some b → b < w.heap.size) : Cur (w.alloc (.cells #[d, .int .i64 0, .int .u64 0] 99)) w.heap.size d 0 := by
  have hB : Below w.heap.size w (w.alloc (.cells #[d, .int .i64 0, .int .u64 0] 99)) := (Below.refl _ _).alloc (Nat.le_refl _) _
  refine ⟨⟨0, 0, Nat.le_refl _, ?_⟩, h.ex (Ex.of_below (F := []) hB) (fun _ _ => by simp), fun b hb => by have := hd b hb; omega⟩
  refine ⟨#[d, .int .i64 0, .int .u64 0], by show (w.heap.push _)[w.heap.size]? = _; simp, by simp, by simp, by unfold maxLen; omega, fun i hi => ?_⟩
  match i, hi with
  | 0, _ => rfl
  | 1, _ => rfl
  | 2, _ => rfl

end Go.Proofs.YtoeonplbgbgjmaaDoor
namespace Go.Proofs.YtoeonplbgbgjmaaDoor
open Go.RowKit
set_option linter.unusedVariables false
set_option linter.unusedSimpArgs false

set_option maxHeartbeats 1000000 in
theorem vBig_law {ao : Option Addr} {n c : Nat} {w : World} :
    Calls Tryd.prog 32 #[.slice ao n c] w fun e w' => e = .returned (.bool (decide (65536 < (n : Int)))) ∧ w' = w := by
  go_enter Tryd.func32, Tryd.ntmps32
  go_wp2
  go_ret
  exact ⟨rfl, rfl⟩
end Go.Proofs.YtoeonplbgbgjmaaDoor
namespace Go.Proofs.YtoeonplbgbgjmaaDoor
open Go.RowKit
set_option linter.unusedVariables false
set_option linter.unusedSimpArgs false

theorem RdBy.next {w w' : World} {v : Value} (h : RdBy w v) (hb : Below w.heap.size w w') : RdBy w' v := by
  obtain ⟨ao, n, c, rfl, h1, h2, h3⟩ := h
  refine ⟨ao, n, c, rfl, h1, h2, fun hp => ?_⟩
  obtain ⟨b, off, rfl, hr⟩ := h3 hp
  refine ⟨b, off, rfl, fun i hi => ?_⟩
  obtain ⟨x, hx, hc⟩ := hr i hi
  refine ⟨x, hx, ?_⟩
  rw [World.cell?_of_block (w := w) (hb.block b (block_lt_of_cell hc))]
  exact hc
/-- The bytes lie in a block that is there. -/
theorem lt_next {w w' : World} {d : Value} (hd : ∀ b, d.ownBlock = some b → b < w.heap.size) (hb : Below w.heap.size w w') : ∀ b, d.ownBlock = some b → b < w'.heap.size :=
  fun b h => Nat.lt_of_lt_of_le (hd b h) hb.size
/-- A slice of ints that was made, opened: its value, its length, and its cells where there are some. -/
theorem RIntS.opened {w : World} {v : Value} {xs : List Int} {F : List Nat} (r : RIntS w v xs F) :
    ∃ ao c, v = .slice ao xs.length c ∧ xs.length ≤ 9223372036854775807 ∧ (0 < xs.length → ∃ b off, ao = some ⟨b, off, none⟩ ∧ ∀ i, i < xs.length → w.cell? ⟨b, off + i, none⟩ = some (.int .i64 (gi xs i))) := by
  obtain ⟨ao, c, rfl, h1, _, _, h4⟩ := r.1.openInts
  unfold maxLen at h1
  exact ⟨ao, c, rfl, by omega, fun hp => by obtain ⟨b, off, rfl, hr⟩ := h4 hp; exact ⟨b, off, rfl, fun i hi => hr.cellInt hi⟩⟩
end Go.Proofs.YtoeonplbgbgjmaaDoor
namespace Go.Proofs.YtoeonplbgbgjmaaDoor
open Go.ChangeShapes Go.WideShapes Go.ChangeAt Go.RowKit

theorem IsRow.rdBy {w : World} {a : Option Addr} {len cap : Nat} {zs : List Int} (h : IsRow .u8 w a len cap zs) : RdBy w (.slice a len cap) := by
  rcases h with ⟨rfl, rfl, rfl, rfl⟩ | ⟨x, rfl, hl, hm, hz, hc, hw⟩
  · exact ⟨none, 0, 0, rfl, Nat.le_refl _, Nat.zero_le _, fun h => absurd h (by simp)⟩
  · refine ⟨some x, len, cap, rfl, hl, hm, fun hp => ?_⟩
    have hs := spot_of_cell (hc 0 (by omega))
    have hx : x = ⟨x.block, x.off, none⟩ := by
      have : x.spot = none := by
        have h0 : (x.add 0).spot = x.spot := by unfold Addr.add; split <;> simp_all
        rw [← h0]; exact hs
      cases x
      simp_all
    refine ⟨x.block, x.off, by rw [← hx], fun i hi => ?_⟩
    have h1 := hc i (by omega)
    rw [hx, Addr.add_lit] at h1
    have hi2 : i < zs.length := by omega
    have h3 : zs.getD i 0 ∈ zs := by simp [List.getD_eq_getElem?_getD, hi2]
    have h2 := bounds_u8 (hw _ h3)
    obtain ⟨y, hy⟩ := Int.eq_ofNat_of_zero_le h2.1
    exact ⟨y, by omega, by rw [h1, hy]⟩
set_option maxRecDepth 100000 in
theorem argBy {H : Type} {enc : TypeId × Value → H} {W : World} {base : Nat} {v : Value} {d : DataW H} {p : List MemPlace} (hval : Value.okWide Tryd.prog W .any base 53 v)
    (h : DataW.Trod enc Tryd.prog W 0 (fun _ => true) true 53 v d p) : RdBy W v := by
  obtain ⟨a0, len0, cap0, rfl⟩ := okWide_slice Tryd.underlying53 hval
  obtain ⟨z0, w0⟩ : ∃ zs, IsRow .u8 W a0 len0 cap0 zs := by
    obtain ⟨fuel, hf⟩ := h
    rcases open_ints Tryd.underlying53 Tryd.underlying5 (by kernel_rfl) hf with ⟨hcs, _⟩ | ⟨x, l, c, zs, hcs, _, hl, hm, hz, _, hcell, hwz⟩
    · simp [Value.cells] at hcs
      obtain ⟨rfl, rfl, rfl⟩ := hcs
      exact ⟨[], .inl ⟨rfl, rfl, rfl, rfl⟩⟩
    · simp [Value.cells] at hcs
      obtain ⟨rfl, rfl, rfl⟩ := hcs
      exact ⟨zs, .inr ⟨_, rfl, hl, hm, by simpa using hz, hcell, hwz⟩⟩
  exact w0.rdBy
set_option maxRecDepth 100000 in
theorem argBy_lt {H : Type} {enc : TypeId × Value → H} {W : World} {base : Nat} {v : Value} {d : DataW H} {p : List MemPlace} (hval : Value.okWide Tryd.prog W .any base 53 v)
    (h : DataW.Trod enc Tryd.prog W 0 (fun _ => true) true 53 v d p) : ∀ b, v.ownBlock = some b → b < W.heap.size := by
  intro b hb
  obtain ⟨a0, len0, cap0, rfl⟩ := okWide_slice Tryd.underlying53 hval
  simp only [Value.okWide, Tryd.underlying53, Cell.okWide] at hval
  cases a0 with
  | none => simp [Value.ownBlock] at hb
  | some a =>
    simp only [Cell.ok, Tryd.underlying53] at hval
    have h3 := hval.2.2
    unfold World.has at h3
    obtain ⟨_, _, row, cells, hsh, _⟩ := h3
    have e : a.block = b := by
      unfold Value.ownBlock at hb
      simpa using hb
    subst e
    unfold World.shape? at hsh
    by_cases hlt : a.block < W.heap.size
    · exact hlt
    · have hn : W.heap[a.block]? = none := Array.getElem?_eq_none (by omega)
      rw [hn] at hsh
      simp at hsh
end Go.Proofs.YtoeonplbgbgjmaaDoor
