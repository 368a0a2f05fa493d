/- A slice of bytes among the arguments. -/
import Derived.Test.YtdhcpoeopooejaaVHelp
namespace Go.Proofs.Ytdhcpoeopooejaa
open Go.ChangeShapes Go.WideShapes Go.ChangeAt Go.RowKit

theorem IsRow.rdBy {w : World} {a : Option Addr} {len cap : Nat} {zs : List Int} (h : IsRow .u8 w a len cap zs) : RdBy w (.slice a len cap) := by
  rcases h with ⟨rfl, rfl, rfl, rfl⟩ | ⟨x, rfl, hl, hm, hz, hc, hw⟩
  · exact ⟨none, 0, 0, rfl, Nat.le_refl _, Nat.zero_le _, fun h => absurd h (by simp)⟩
  · refine ⟨some x, len, cap, rfl, hl, hm, fun hp => ?_⟩
    have hs := spot_of_cell (hc 0 (by omega))
    have hx : x = ⟨x.block, x.off, none⟩ := by
      have : x.spot = none := by
        have h0 : (x.add 0).spot = x.spot := by unfold Addr.add; split <;> simp_all
        rw [← h0]; exact hs
      cases x
      simp_all
    refine ⟨x.block, x.off, by rw [← hx], fun i hi => ?_⟩
    have h1 := hc i (by omega)
    rw [hx, Addr.add_lit] at h1
    have hi2 : i < zs.length := by omega
    have h3 : zs.getD i 0 ∈ zs := by simp [List.getD_eq_getElem?_getD, hi2]
    have h2 := bounds_u8 (hw _ h3)
    obtain ⟨y, hy⟩ := Int.eq_ofNat_of_zero_le h2.1
    exact ⟨y, by omega, by rw [h1, hy]⟩
set_option maxRecDepth 100000 in
theorem argBy {H : Type} {enc : TypeId × Value → H} {W : World} {base : Nat} {v : Value} {d : DataW H} {p : List MemPlace} (hval : Value.okWide Try.prog W .any base 52 v)
    (h : DataW.Trod enc Try.prog W 0 (fun _ => true) true 52 v d p) : RdBy W v := by
  obtain ⟨a0, len0, cap0, rfl⟩ := okWide_slice Try.underlying52 hval
  obtain ⟨z0, w0⟩ : ∃ zs, IsRow .u8 W a0 len0 cap0 zs := by
    obtain ⟨fuel, hf⟩ := h
    rcases open_ints Try.underlying52 Try.underlying5 (by kernel_rfl) hf with ⟨hcs, _⟩ | ⟨x, l, c, zs, hcs, _, hl, hm, hz, _, hcell, hwz⟩
    · simp [Value.cells] at hcs
      obtain ⟨rfl, rfl, rfl⟩ := hcs
      exact ⟨[], .inl ⟨rfl, rfl, rfl, rfl⟩⟩
    · simp [Value.cells] at hcs
      obtain ⟨rfl, rfl, rfl⟩ := hcs
      exact ⟨zs, .inr ⟨_, rfl, hl, hm, by simpa using hz, hcell, hwz⟩⟩
  exact w0.rdBy
set_option maxRecDepth 100000 in
theorem argBy_lt {H : Type} {enc : TypeId × Value → H} {W : World} {base : Nat} {v : Value} {d : DataW H} {p : List MemPlace} (hval : Value.okWide Try.prog W .any base 52 v)
    (h : DataW.Trod enc Try.prog W 0 (fun _ => true) true 52 v d p) : ∀ b, v.ownBlock = some b → b < W.heap.size := by
  intro b hb
  obtain ⟨a0, len0, cap0, rfl⟩ := okWide_slice Try.underlying52 hval
  simp only [Value.okWide, Try.underlying52, Cell.okWide] at hval
  cases a0 with
  | none => simp [Value.ownBlock] at hb
  | some a =>
    simp only [Cell.ok, Try.underlying52] at hval
    have h3 := hval.2.2
    unfold World.has at h3
    obtain ⟨_, _, row, cells, hsh, _⟩ := h3
    have e : a.block = b := by
      unfold Value.ownBlock at hb
      simpa using hb
    subst e
    unfold World.shape? at hsh
    by_cases hlt : a.block < W.heap.size
    · exact hlt
    · have hn : W.heap[a.block]? = none := Array.getElem?_eq_none (by omega)
      rw [hn] at hsh
      simp at hsh
end Go.Proofs.Ytdhcpoeopooejaa
