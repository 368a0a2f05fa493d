/- laws.vRows at equal rows; laws.vCut. -/
import Derived.Test.YtoeonplbgbgjmaaDoorRowS
import Derived.Test.YtoeonplbgbgjmaaDoorDrawT
import Derived.Test.YtoeonplbgbgjmaaDoorMg4
import Derived.Test.YtoeonplbgbgjmaaDoorCur
namespace Go.Proofs.YtoeonplbgbgjmaaDoor
open Go.RowKit
set_option linter.unusedVariables false
set_option linter.unusedSimpArgs false

set_option maxHeartbeats 2000000 in
theorem vRows_any (v u : Value) (x : List (List ByteArray)) (w : World) (hv : RdRR w v x) (hu : RdRR w u x) :
    Calls Tryd.prog 59 #[v, u] w fun e w' => e = .returned (.bool true) ∧ ∃ q, w' = w.drewN q := by
  obtain ⟨ao, c, us, rfl, h1, h2, _, HA, HR⟩ := hv
  obtain ⟨bo, d, vs, rfl, k1, k2, _, KA, KR⟩ := hu
  unfold maxLen at h2 k2
  replace HA := Lib.hid HA
  replace HR := Lib.hid HR
  replace KA := Lib.hid KA
  replace KR := Lib.hid KR
  generalize hn : x.length = n at *
  replace hn := Lib.hid hn
  go_enter Tryd.func59, Tryd.ntmps59
  go_wp2
  go_loopw [5] (fun iv wr => ∃ k q : Nat, k ≤ n ∧ iv = .int .i64 k ∧ wr = w.drewN q) (fun iv _ => n - (intOf iv).toNat)
  case atStart => exact ⟨0, 0, Nat.zero_le _, rfl, rfl⟩
  case round =>
    obtain ⟨k, q, hk, rfl, rfl⟩ := hrel
    by_cases hlt : k < n
    · obtain ⟨b, off, rfl, hc⟩ := HA.out (by omega)
      obtain ⟨b2, off2, rfl, hc2⟩ := KA.out (by omega)
      have c1 := hc k hlt
      have c2 := hc2 k hlt
      obtain ⟨oa, oc, e1, m1, m2, _, EA⟩ := HR.out k hlt
      obtain ⟨pa, pc, e2, n1, n2, _, EB⟩ := KR.out k hlt
      rw [e1] at c1
      rw [e2] at c2
      unfold maxLen at m2 n2
      clear hc hc2 e1 e2
      generalize gf x k = X at *
      generalize hl : X.length = l at *
      replace EA := Lib.hid EA
      replace EB := Lib.hid EB
      replace hl := Lib.hid hl
      go_wp2
      go_quiet (fail)
      go_wp2
      go_loopw [6] (fun iv wr => ∃ j q : Nat, j ≤ l ∧ iv = .int .i64 j ∧ wr = w.drewN q) (fun iv _ => l - (intOf iv).toNat)
      case atStart => exact ⟨0, _, Nat.zero_le _, rfl, by first | rfl | exact World.drewN_drewN ..⟩
      case round =>
        obtain ⟨j, q2, hj, rfl, rfl⟩ := hrel
        by_cases hlt2 : j < l
        · obtain ⟨b3, off3, rfl, hc3⟩ := EA.out (by omega)
          obtain ⟨b4, off4, rfl, hc4⟩ := EB.out (by omega)
          have c3 := hc3 j hlt2
          have c4 := hc4 j hlt2
          clear hc3 hc4
          generalize gs X j = s at *
          go_wp2
          go_quiet (fail)
          go_wp2
          go_roundw
          case rel => exact ⟨j + 1, _, by omega, by go_num, by first | rfl | exact World.drewN_drewN ..⟩
          case measure => simp [intOf]; omega
        · obtain rfl : l = j := by omega
          go_wp2
          go_roundw
          case rel => exact ⟨k + 1, _, by omega, by go_num, rfl⟩
          case measure => simp [intOf]; omega
    · obtain rfl : n = k := by omega
      go_wp2
      go_ret
      exact ⟨rfl, _, rfl⟩

theorem eltU8 : EltOk 53 5 := by
  obtain ⟨i, h1, h2, h3, h4⟩ := info_parts infoU8
  exact ⟨i, _, 1, Tryd.underlying53, h1, h2, h3, h4, by omega, rfl⟩
def u8s (f : Nat → Nat) (n : Nat) : List Value := (List.range n).map fun i => .int .u8 (f i : Nat)
theorem Own.rdBy {w : World} {B : Nat} {v : Value} {f : Nat → Nat} {n m : Nat} (h : Own w 5 B v (u8s f n ++ [.int .u8 (m : Nat)])) (hf : ∀ i, i < n → f i ≤ 255) (hm : m ≤ 255) : RdBy w v := by
  obtain ⟨ao, c, rfl, h1, h2, h3⟩ := h.sl.opened
  refine ⟨ao, _, c, rfl, h1, h2, fun hp => ?_⟩
  obtain ⟨b, off, rfl, hr⟩ := h3 hp
  refine ⟨b, off, rfl, fun i hi => ?_⟩
  have := hr.cell hi
  by_cases hin : i < n
  · refine ⟨f i, hf i hin, ?_⟩
    rw [this, List.getElem_append_left (by simpa [u8s] using hin)]
    simp [u8s]
  · refine ⟨m, hm, ?_⟩
    have hi2 : i = n := by simp [u8s] at hi; omega
    rw [this, List.getElem_append_right (by simp [u8s]; omega)]
    simp
theorem rdv0 {W : World} {ad : Addr} {c : Nat} {f : Nat → Nat} : RdV W (.slice (some ad) 0 c) (u8s f 0) := ⟨some ad, c, rfl, fun h => by simp at h, fun _ _ j hj => absurd hj (by simp [u8s])⟩
theorem rdvn {W : World} {f : Nat → Nat} : RdV W (.slice none 0 0) (u8s f 0) := ⟨none, 0, rfl, fun _ => ⟨rfl, rfl⟩, fun _ h => by simp at h⟩
set_option maxHeartbeats 2000000 in
theorem vCut_any {d : Value} {w : World} (h : RdBy w d) (hN : ∀ ao n c, d = .slice ao n c → n ≤ 65536) :
    Calls Tryd.prog 57 #[d, .int .i64 2] w fun e w' => ∃ r, e = .returned r ∧ RdBy w' r ∧ (∀ b, r.ownBlock = some b → b < w'.heap.size) ∧ Below w.heap.size w w' := by
  obtain ⟨ao, n, c, rfl, h1, h2, h3⟩ := h
  have hn := hN _ _ _ rfl
  unfold maxLen at h2
  have hB : Below w.heap.size w (w.alloc (.cells #[] 5)) := (Below.refl _ _).alloc (Nat.le_refl _) _
  have ho := Lib.hid (Own.empty w 5)
  clear hN
  by_cases hg : 2 > n
  · have hgi : (2 : Int) > (n : Int) := by omega
    by_cases hn0 : n = 0
    · clear h3
      subst hn0
      cases ao with
      | none =>
        have hz1 := Lib.hid (show w.heap.size + 1 = (w.alloc (.cells #[] 5)).heap.size by simp)
        go_enter Tryd.func57, Tryd.ntmps57
        go_wp2_with (at_builtin; refine append_one_z eltU8 rfl _ _ rfl w.heap.size _ _ rfl ho.out (w.heap.size + 1) hz1.out rfl rfl (Nat.zero_le _) hB.size ?_)
        intro v2 w2 ho3 hg3 _
        have hb2 := Lib.hid (Below.appended hB ho.out hg3 (by simp))
        have hr2 := Lib.hid (Own.rdBy (f := fun _ => 0) (n := 0) (m := 0) ho3 (fun i hi => by omega) (by omega))
        have hl2 : Hid (∀ b, v2.ownBlock = some b → b < w2.heap.size) := Lib.hid (fun b hb => (ho3.lt b hb).2)
        clear ho3 hg3
        go_wp2
        go_ret
        exact ⟨_, rfl, hr2.out, hl2.out, hb2.out⟩
      | some ad =>
        by_cases hc0 : c = 0
        · subst hc0
          have hul : (u8s (fun _ => 0) 0).length = 0 := by simp [u8s]
          have hlen : ([] : List Value).length + (u8s (fun _ => 0) 0).length ≤ 1000000000 := by rw [hul]; simp only [List.length_nil]; omega
          have hlen2 : (u8s (fun _ => 0) 0).length ≤ 1000000000 := by rw [hul]; omega
          have hone : Hid (∀ y ∈ u8s (fun _ => 0) 0, y.oneCell' = true) := Lib.hid (by
            intro y hy
            simp [u8s] at hy
            first | done | (obtain ⟨i, _, rfl⟩ := hy; rfl))
          have hff : Hid (∀ i, i < 0 → (fun _ : Nat => (0 : Nat)) i ≤ 255) := Lib.hid (fun i hi => by omega)
          have hrd : Hid (RdV (w.alloc (.cells #[] 5)) (.slice (some ad) 0 0) (u8s (fun _ => 0) 0)) := Lib.hid rdv0
          go_enter Tryd.func57, Tryd.ntmps57
          go_wp2_with (at_builtin; refine wpList_append_all eltU8 rfl _ _ rfl w.heap.size _ _ rfl ho.out _ _ rfl hrd.out hone.out hlen (by simp) ?_)
          intro v1 w1 ho1 hg1
          have hb1 := Below.appended hB ho.out hg1 (by simp)
          have ho2 : Own w1 5 w.heap.size v1 (u8s (fun _ => 0) 0) := by simpa using ho1
          have hs1 := hb1.size
          replace ho2 := Lib.hid ho2
          replace hb1 := Lib.hid hb1
          clear ho1 hg1
          go_wp2_with (at_builtin; refine append_one_at eltU8 rfl _ _ rfl w.heap.size _ _ rfl ho2.out rfl rfl hlen2 hs1 ?_)
          intro v2 w2 ho3 hg3 _
          have hb2 := Lib.hid (Below.appended hb1.out ho2.out hg3 hs1)
          have hr2 := Lib.hid (Own.rdBy (m := 0) ho3 hff.out (by omega))
          have hl2 : Hid (∀ b, v2.ownBlock = some b → b < w2.heap.size) := Lib.hid (fun b hb => (ho3.lt b hb).2)
          clear ho3 hg3
          go_wp2
          go_ret
          exact ⟨_, rfl, hr2.out, hl2.out, hb2.out⟩
        · skip
          have hul : (u8s (fun _ => 0) 0).length = 0 := by simp [u8s]
          have hlen : ([] : List Value).length + (u8s (fun _ => 0) 0).length ≤ 1000000000 := by rw [hul]; simp only [List.length_nil]; omega
          have hlen2 : (u8s (fun _ => 0) 0).length ≤ 1000000000 := by rw [hul]; omega
          have hone : Hid (∀ y ∈ u8s (fun _ => 0) 0, y.oneCell' = true) := Lib.hid (by
            intro y hy
            simp [u8s] at hy
            first | done | (obtain ⟨i, _, rfl⟩ := hy; rfl))
          have hff : Hid (∀ i, i < 0 → (fun _ : Nat => (0 : Nat)) i ≤ 255) := Lib.hid (fun i hi => by omega)
          have hrd : Hid (RdV (w.alloc (.cells #[] 5)) (.slice (some ad) 0 c) (u8s (fun _ => 0) 0)) := Lib.hid rdv0
          go_enter Tryd.func57, Tryd.ntmps57
          go_wp2_with (at_builtin; refine wpList_append_all eltU8 rfl _ _ rfl w.heap.size _ _ rfl ho.out _ _ rfl hrd.out hone.out hlen (by simp) ?_)
          intro v1 w1 ho1 hg1
          have hb1 := Below.appended hB ho.out hg1 (by simp)
          have ho2 : Own w1 5 w.heap.size v1 (u8s (fun _ => 0) 0) := by simpa using ho1
          have hs1 := hb1.size
          replace ho2 := Lib.hid ho2
          replace hb1 := Lib.hid hb1
          clear ho1 hg1
          go_wp2_with (at_builtin; refine append_one_at eltU8 rfl _ _ rfl w.heap.size _ _ rfl ho2.out rfl rfl hlen2 hs1 ?_)
          intro v2 w2 ho3 hg3 _
          have hb2 := Lib.hid (Below.appended hb1.out ho2.out hg3 hs1)
          have hr2 := Lib.hid (Own.rdBy (m := 0) ho3 hff.out (by omega))
          have hl2 : Hid (∀ b, v2.ownBlock = some b → b < w2.heap.size) := Lib.hid (fun b hb => (ho3.lt b hb).2)
          clear ho3 hg3
          go_wp2
          go_ret
          exact ⟨_, rfl, hr2.out, hl2.out, hb2.out⟩
    · obtain rfl : n = 1 := by omega
      obtain ⟨b, off, rfl, _⟩ := h3 (by omega)
      clear h3
      by_cases hc0 : c = 1
      · subst hc0
        have hul : (u8s (fun _ => 0) 0).length = 0 := by simp [u8s]
        have hlen : ([] : List Value).length + (u8s (fun _ => 0) 0).length ≤ 1000000000 := by rw [hul]; simp only [List.length_nil]; omega
        have hlen2 : (u8s (fun _ => 0) 0).length ≤ 1000000000 := by rw [hul]; omega
        have hone : Hid (∀ y ∈ u8s (fun _ => 0) 0, y.oneCell' = true) := Lib.hid (by
          intro y hy
          simp [u8s] at hy
          first | done | (obtain ⟨i, _, rfl⟩ := hy; rfl))
        have hff : Hid (∀ i, i < 0 → (fun _ : Nat => (0 : Nat)) i ≤ 255) := Lib.hid (fun i hi => by omega)
        have hrd : Hid (RdV (w.alloc (.cells #[] 5)) (.slice (some ⟨b, off, none⟩) 0 0) (u8s (fun _ => 0) 0)) := Lib.hid rdv0
        go_enter Tryd.func57, Tryd.ntmps57
        go_wp2_with (at_builtin; refine wpList_append_all eltU8 rfl _ _ rfl w.heap.size _ _ rfl ho.out _ _ rfl hrd.out hone.out hlen (by simp) ?_)
        intro v1 w1 ho1 hg1
        have hb1 := Below.appended hB ho.out hg1 (by simp)
        have ho2 : Own w1 5 w.heap.size v1 (u8s (fun _ => 0) 0) := by simpa using ho1
        have hs1 := hb1.size
        replace ho2 := Lib.hid ho2
        replace hb1 := Lib.hid hb1
        clear ho1 hg1
        go_wp2_with (at_builtin; refine append_one_at eltU8 rfl _ _ rfl w.heap.size _ _ rfl ho2.out rfl rfl hlen2 hs1 ?_)
        intro v2 w2 ho3 hg3 _
        have hb2 := Lib.hid (Below.appended hb1.out ho2.out hg3 hs1)
        have hr2 := Lib.hid (Own.rdBy (m := 1) ho3 hff.out (by omega))
        have hl2 : Hid (∀ b, v2.ownBlock = some b → b < w2.heap.size) := Lib.hid (fun b hb => (ho3.lt b hb).2)
        clear ho3 hg3
        go_wp2
        go_ret
        exact ⟨_, rfl, hr2.out, hl2.out, hb2.out⟩
      · skip
        have hul : (u8s (fun _ => 0) 0).length = 0 := by simp [u8s]
        have hlen : ([] : List Value).length + (u8s (fun _ => 0) 0).length ≤ 1000000000 := by rw [hul]; simp only [List.length_nil]; omega
        have hlen2 : (u8s (fun _ => 0) 0).length ≤ 1000000000 := by rw [hul]; omega
        have hone : Hid (∀ y ∈ u8s (fun _ => 0) 0, y.oneCell' = true) := Lib.hid (by
          intro y hy
          simp [u8s] at hy
          first | done | (obtain ⟨i, _, rfl⟩ := hy; rfl))
        have hff : Hid (∀ i, i < 0 → (fun _ : Nat => (0 : Nat)) i ≤ 255) := Lib.hid (fun i hi => by omega)
        have hrd : Hid (RdV (w.alloc (.cells #[] 5)) (.slice (some ⟨b, off + 1, none⟩) 0 (c - 1)) (u8s (fun _ => 0) 0)) := Lib.hid rdv0
        go_enter Tryd.func57, Tryd.ntmps57
        go_wp2_with (at_builtin; refine wpList_append_all eltU8 rfl _ _ rfl w.heap.size _ _ rfl ho.out _ _ rfl hrd.out hone.out hlen (by simp) ?_)
        intro v1 w1 ho1 hg1
        have hb1 := Below.appended hB ho.out hg1 (by simp)
        have ho2 : Own w1 5 w.heap.size v1 (u8s (fun _ => 0) 0) := by simpa using ho1
        have hs1 := hb1.size
        replace ho2 := Lib.hid ho2
        replace hb1 := Lib.hid hb1
        clear ho1 hg1
        go_wp2_with (at_builtin; refine append_one_at eltU8 rfl _ _ rfl w.heap.size _ _ rfl ho2.out rfl rfl hlen2 hs1 ?_)
        intro v2 w2 ho3 hg3 _
        have hb2 := Lib.hid (Below.appended hb1.out ho2.out hg3 hs1)
        have hr2 := Lib.hid (Own.rdBy (m := 1) ho3 hff.out (by omega))
        have hl2 : Hid (∀ b, v2.ownBlock = some b → b < w2.heap.size) := Lib.hid (fun b hb => (ho3.lt b hb).2)
        clear ho3 hg3
        go_wp2
        go_ret
        exact ⟨_, rfl, hr2.out, hl2.out, hb2.out⟩
  · have hgi : ¬ (2 : Int) > (n : Int) := by omega
    obtain ⟨b, off, rfl, hc⟩ := h3 (by omega)
    clear h3
    by_cases hc0 : c = 2
    · subst hc0
      obtain rfl : n = 2 := by omega
      clear hc
      have hul : (u8s (fun _ => 0) 0).length = 0 := by simp [u8s]
      have hlen : ([] : List Value).length + (u8s (fun _ => 0) 0).length ≤ 1000000000 := by rw [hul]; simp only [List.length_nil]; omega
      have hlen2 : (u8s (fun _ => 0) 0).length ≤ 1000000000 := by rw [hul]; omega
      have hone : Hid (∀ y ∈ u8s (fun _ => 0) 0, y.oneCell' = true) := Lib.hid (by
        intro y hy
        simp [u8s] at hy
        first | done | (obtain ⟨i, _, rfl⟩ := hy; rfl))
      have hff : Hid (∀ i, i < 0 → (fun _ : Nat => (0 : Nat)) i ≤ 255) := Lib.hid (fun i hi => by omega)
      have hrd : Hid (RdV (w.alloc (.cells #[] 5)) (.slice (some ⟨b, off, none⟩) 0 0) (u8s (fun _ => 0) 0)) := Lib.hid rdv0
      go_enter Tryd.func57, Tryd.ntmps57
      go_wp2_with (at_builtin; refine wpList_append_all eltU8 rfl _ _ rfl w.heap.size _ _ rfl ho.out _ _ rfl hrd.out hone.out hlen (by simp) ?_)
      intro v1 w1 ho1 hg1
      have hb1 := Below.appended hB ho.out hg1 (by simp)
      have ho2 : Own w1 5 w.heap.size v1 (u8s (fun _ => 0) 0) := by simpa using ho1
      have hs1 := hb1.size
      replace ho2 := Lib.hid ho2
      replace hb1 := Lib.hid hb1
      clear ho1 hg1
      go_wp2_with (at_builtin; refine append_one_at eltU8 rfl _ _ rfl w.heap.size _ _ rfl ho2.out rfl rfl hlen2 hs1 ?_)
      intro v2 w2 ho3 hg3 _
      have hb2 := Lib.hid (Below.appended hb1.out ho2.out hg3 hs1)
      have hr2 := Lib.hid (Own.rdBy (m := 2) ho3 hff.out (by omega))
      have hl2 : Hid (∀ b, v2.ownBlock = some b → b < w2.heap.size) := Lib.hid (fun b hb => (ho3.lt b hb).2)
      clear ho3 hg3
      go_wp2
      go_ret
      exact ⟨_, rfl, hr2.out, hl2.out, hb2.out⟩
    · skip
      obtain ⟨f, hf⟩ := Classical.axiomOfChoice (show ∀ i, ∃ y : Nat, i < n → y ≤ 255 ∧ w.cell? ⟨b, off + i, none⟩ = some (.int .u8 (y : Nat)) from fun i => by
        by_cases hi : i < n
        · obtain ⟨y, g1, g2⟩ := hc i hi
          exact ⟨y, fun _ => ⟨g1, g2⟩⟩
        · exact ⟨0, fun h => absurd h hi⟩)
      have hrd : Hid (RdV (w.alloc (.cells #[] 5)) (.slice (some ⟨b, off + 2, none⟩) (n - 2) (c - 2)) (u8s (fun i => f (i + 2)) (n - 2))) := Lib.hid (by
        refine ⟨some ⟨b, off + 2, none⟩, c - 2, by simp [u8s], fun h => by simp at h, fun ad ha i hi => ?_⟩
        simp only [Option.some.injEq] at ha
        subst ha
        have hi' : i + 2 < n := by simp [u8s] at hi; omega
        have hcc := (hf (i + 2) hi').2
        rw [Addr.add_lit, show off + 2 + i = off + (i + 2) by omega, hB.cell (p := ⟨b, off + (i + 2), none⟩) (block_lt_of_cell hcc), hcc]
        simp [u8s])
      have hul : (u8s (fun i => f (i + 2)) (n - 2)).length = n - 2 := by simp [u8s]
      have hlen : ([] : List Value).length + (u8s (fun i => f (i + 2)) (n - 2)).length ≤ 1000000000 := by rw [hul]; simp only [List.length_nil]; omega
      have hlen2 : (u8s (fun i => f (i + 2)) (n - 2)).length ≤ 1000000000 := by rw [hul]; omega
      have hone : Hid (∀ y ∈ u8s (fun i => f (i + 2)) (n - 2), y.oneCell' = true) := Lib.hid (by
        intro y hy
        simp [u8s] at hy
        first | done | (obtain ⟨i, _, rfl⟩ := hy; rfl))
      have hff : Hid (∀ i, i < n - 2 → (fun i => f (i + 2)) i ≤ 255) := Lib.hid (fun i hi => (hf (i + 2) (by omega)).1)
      clear hf hc
      go_enter Tryd.func57, Tryd.ntmps57
      go_wp2_with (at_builtin; refine wpList_append_all eltU8 rfl _ _ rfl w.heap.size _ _ rfl ho.out _ _ rfl hrd.out hone.out hlen (by simp) ?_)
      intro v1 w1 ho1 hg1
      have hb1 := Below.appended hB ho.out hg1 (by simp)
      have ho2 : Own w1 5 w.heap.size v1 (u8s (fun i => f (i + 2)) (n - 2)) := by simpa using ho1
      have hs1 := hb1.size
      replace ho2 := Lib.hid ho2
      replace hb1 := Lib.hid hb1
      clear ho1 hg1
      go_wp2_with (at_builtin; refine append_one_at eltU8 rfl _ _ rfl w.heap.size _ _ rfl ho2.out rfl rfl hlen2 hs1 ?_)
      intro v2 w2 ho3 hg3 _
      have hb2 := Lib.hid (Below.appended hb1.out ho2.out hg3 hs1)
      have hr2 := Lib.hid (Own.rdBy (m := 2) ho3 hff.out (by omega))
      have hl2 : Hid (∀ b, v2.ownBlock = some b → b < w2.heap.size) := Lib.hid (fun b hb => (ho3.lt b hb).2)
      clear ho3 hg3
      go_wp2
      go_ret
      exact ⟨_, rfl, hr2.out, hl2.out, hb2.out⟩
end Go.Proofs.YtoeonplbgbgjmaaDoor
