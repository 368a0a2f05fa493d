/- slices.Delete at slices of slices of records: one element. -/
import Derived.Test.YtdhcpoeopooejaaBin
import Derived.Test.YtdhcpoeopooejaaRunD
import Derived.Deep.RegionLaw
import Derived.Lib.SliceRun
namespace Go.Proofs.Ytdhcpoeopooejaa
open Go.RowKit
set_option linter.unusedVariables false
set_option linter.unusedSimpArgs false

theorem infoRecS : (Try.prog.info? 43).map (fun i => (i.zero, i.size, i.bytes)) = some (some (.slice none 0 0), 1, 24) := by kernel_rfl
set_option maxRecDepth 100000 in
set_option maxHeartbeats 4000000 in
theorem deleteR_any (b off N c k j C : Nat) (us : List Value) (w : World) (hsz : ∃ cs, w.heap[b]? = some (.cells cs 43 (0, 0)) ∧ cs.size = C) (hR : Row w 43 b off c us) (hl : us.length = N) (hk : k < j) (hj : j ≤ N) (hus : ∀ u ∈ us, u.oneCell' = true) :
    Calls Try.prog 81 #[.slice (some ⟨b, off, none⟩) N c, .int .i64 k, .int .i64 j] w fun e w' => e = .returned (.slice (some ⟨b, off, none⟩) (k + (N - j)) c) ∧ Row w' 43 b off c (us.take k ++ us.drop j) ∧ Ex [b] w w' ∧ ∃ cs, w'.heap[b]? = some (.cells cs 43 (0, 0)) ∧ cs.size = C := by
  obtain ⟨i0, hi0, hz0, hz1, hz2⟩ := info_parts infoRecS
  have hc := hR.le
  have hm := hR.capLe
  unfold maxLen at hm
  rw [hl] at hc
  obtain ⟨news, hnews⟩ : ∃ news, news = us.drop j := ⟨_, rfl⟩
  have hlen : news.length = N - j := by rw [hnews]; simp; omega
  obtain ⟨A, hA, hsrc⟩ : ∃ A : Addr, (if c = j then some (⟨b, off, none⟩ : Addr) else some ⟨b, off + j, none⟩) = some A ∧ Hid (∀ t u, news[t]? = some u → w.drew.cell? (A.add t) = some u) := by
    by_cases h : c = j
    · refine ⟨⟨b, off, none⟩, by simp [h], Lib.hid fun t u hu => ?_⟩
      have h0 : news.length = 0 := by omega
      rw [List.length_eq_zero_iff.1 h0] at hu
      simp at hu
    · refine ⟨⟨b, off + j, none⟩, by simp [h], Lib.hid fun t u hu => ?_⟩
      obtain ⟨ht, rfl⟩ := List.getElem?_eq_some_iff.1 hu
      have h1 := (Row.drew hR).cell (i := j + t) (by omega)
      rw [Addr.add_lit, show off + j + t = off + (j + t) by omega, h1]
      simp [hnews]
  have s1 : Hid (news.length = (N - j) * 1) := Lib.hid (by rw [Nat.mul_one]; exact hlen)
  have s2 : Hid (∀ u ∈ news, u.oneCell' = true) := Lib.hid fun u hu => hus u (List.mem_of_mem_drop (by rw [hnews] at hu; exact hu))
  have s3 : Hid (∀ t, t < news.length → (w.drew.cell? ⟨b, off + k * 1 + t, none⟩).isSome = true ∧ w.drew.frozen? ⟨b, off + k * 1 + t, none⟩ = false) := Lib.hid fun t ht => by
    have h1 := (Row.drew hR).cell (i := k + t) (by omega)
    rw [Nat.mul_one, Nat.add_assoc, h1]
    exact ⟨rfl, (Row.drew hR).frozen _⟩
  obtain ⟨W1, hW1⟩ : ∃ W1, W1 = w.drew.setCells b (off + k * 1) news := ⟨_, rfl⟩
  obtain ⟨r1, x1⟩ := Row_setCells news k w.drew us (Row.drew hR) (by omega)
  rw [← Nat.mul_one k, ← hW1, Nat.mul_one] at r1
  have x1' : Ex [b] w W1 := by rw [hW1, Nat.mul_one]; exact ((Ex.refl _ _).drewN 1).trans x1
  have hsl : (splice us k news).length = N := by simp [splice]; omega
  have hcl : ∀ ty, (Builtin.clear_ #[78] ty #[.slice (some ⟨b, off + (k + (N - j)), none⟩) (N - (k + (N - j))) (c - (k + (N - j)))]).run Try.prog W1 = .ok (.tuple #[]) (W1.setCells b (off + (k + (N - j))) (List.replicate (N - (k + (N - j))) (.slice none 0 0))) :=
    fun ty => Lib.run_clear_slice W1 _ _ ty _ Try.underlying78 Try.zeroValue43 rfl rfl b (off + (k + (N - j))) _ _ (by omega) (fun t ht => by
      have h1 := r1.cell (i := k + (N - j) + t) (by omega)
      rw [show off + (k + (N - j)) + t = off + (k + (N - j) + t) by omega, h1]; rfl) (fun t ht => r1.frozen _)
  obtain ⟨r2, x2⟩ := Row_setCells (List.replicate (N - (k + (N - j))) (.slice none 0 0)) (k + (N - j)) W1 (splice us k news) r1 (by simp; omega)
  have hfin : Hid (Row (W1.setCells b (off + (k + (N - j))) (List.replicate (N - (k + (N - j))) (.slice none 0 0))) 43 b off c (us.take k ++ us.drop j) ∧ Ex [b] w (W1.setCells b (off + (k + (N - j))) (List.replicate (N - (k + (N - j))) (.slice none 0 0))) ∧ ∃ cs, (W1.setCells b (off + (k + (N - j))) (List.replicate (N - (k + (N - j))) (.slice none 0 0))).heap[b]? = some (.cells cs 43 (0, 0)) ∧ cs.size = C) := Lib.hid (by
    refine ⟨?_, x1'.trans x2, setCells_size _ _ _ (by rw [hW1]; exact setCells_size _ _ _ hsz)⟩
    have h9 := r2.take (k + (N - j))
    have he : (splice (splice us k news) (k + (N - j)) (List.replicate (N - (k + (N - j))) (.slice none 0 0))).take (k + (N - j)) = us.take k ++ us.drop j := by
      have e1 : (splice (splice us k news) (k + (N - j)) (List.replicate (N - (k + (N - j))) (.slice none 0 0))).take (k + (N - j)) = (splice us k news).take (k + (N - j)) := by
        show ((splice us k news).take (k + (N - j)) ++ _).take (k + (N - j)) = _
        exact List.take_left' (by rw [List.length_take, hsl]; omega)
      rw [e1]
      show (us.take k ++ (news ++ us.drop (k + news.length))).take (k + (N - j)) = _
      rw [← List.append_assoc, List.take_left' (by rw [List.length_append, List.length_take, hlen]; omega), hnews]
    rw [he] at h9
    exact h9)
  have hW : Hid (W1 = w.drew.setCells b (off + k * 1) news) := Lib.hid hW1
  have hic : k ≤ c := by omega
  have hjc : j ≤ c := by omega
  have hNc : N ≤ c := hc
  clear hW1 r1 x1 x1' r2 x2 hsl hnews hlen hR hus hl hsz
  go_enter Try.func81, Try.ntmps81
  go_wp2_with fail
  go_region_law (refine step_append_room rfl (.tmp 22) (.tmp 25) 78 rfl 43 i0 1 Try.underlying78 hi0 hz1 b off k c (by simp [Act.eval, Act.put]) A (N - j) (c - j) news (by simp [Act.eval, Act.put]) s1.out hsrc.out s2.out (by omega) s3.out ?_; rw [← hW.out])
  go_wp2
  go_ret
  exact ⟨rfl, hfin.out⟩
end Go.Proofs.Ytdhcpoeopooejaa
