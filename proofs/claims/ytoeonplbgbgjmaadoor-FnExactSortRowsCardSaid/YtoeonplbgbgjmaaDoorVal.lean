/- The value of a row for a key: (KeySpec).value, spec.l2Value. -/
import Derived.Test.YtoeonplbgbgjmaaDoorLow
namespace Go.Proofs.YtoeonplbgbgjmaaDoor
open Go.RowKit
set_option linter.unusedVariables false
set_option linter.unusedSimpArgs false

def valF (k : KS) (x : List ByteArray) : ByteArray := if (x.length : Int) ≤ k.1 then ByteArray.empty else if k.2.2.2 then lowS (gs x k.1.toNat) else gs x k.1.toNat
def ksV (k : KS) : Value := .agg #[.int .i64 k.1, .bool k.2.1, .bool k.2.2.1, .bool k.2.2.2]
theorem valF_size {k : KS} {x : List ByteArray} (h0 : 0 ≤ k.1) (hs : ∀ i, i < x.length → (gs x i).size ≤ 40) : (valF k x).size ≤ 40 := by
  unfold valF
  split
  · simp
  · rename_i h
    have := hs k.1.toNat (by omega)
    split
    · rw [lowS_size]; exact this
    · exact this

set_option maxRecDepth 10000 in
set_option maxHeartbeats 2000000 in
theorem value_any (k : KS) (u : Value) (x : List ByteArray) (w : World) (hu : RdS w u x) (h0 : 0 ≤ k.1) (h5 : k.1 ≤ 5) (hs : ∀ i, i < x.length → (gs x i).size ≤ 40) :
    Calls Tryd.prog 135 #[ksV k, .agg #[u]] w fun e w' => e = .returned (.string (valF k x)) ∧ Below w.heap.size w w' := by
  have hbb : Hid (∀ A B : Obj, Below w.heap.size w ((w.alloc A).alloc B)) := Lib.hid (fun A B => ((Below.refl _ _).alloc (Nat.le_refl _) A).alloc (by simp) B)
  have hu2 := Lib.hid (fun A B => hu.below (hbb.out A B))
  obtain ⟨a, p, q, r⟩ := k
  unfold ksV
  dsimp only at h0 h5 ⊢
  obtain ⟨f, rfl⟩ := Int.eq_ofNat_of_zero_le h0
  have hvf : Hid (valF ((f : Int), p, q, r) x = if (x.length : Int) ≤ (f : Int) then ByteArray.empty else if r then lowS (gs x f) else gs x f) := Lib.hid (by simp [valF])
  obtain ⟨ao, c, rfl, h1, h2, _, _⟩ := hu
  unfold maxLen at h2
  replace hs := Lib.hid hs
  obtain ⟨n, hn⟩ : ∃ n, x.length = n := ⟨_, rfl⟩
  rw [hn] at hvf h1 hu2 hs ⊢
  replace hn := Lib.hid hn
  by_cases hle : (n : Int) ≤ (f : Int)
  · have hv := hvf.out
    rw [if_pos hle] at hv
    rw [hv]
    clear hv
    go_enter Tryd.func135, Tryd.ntmps135
    go_wp2
    go_ret
    exact ⟨rfl, hbb.out _ _⟩
  · have hv := hvf.out
    rw [if_neg hle] at hv
    have hfn : f < n := by omega
    have hbx := hbb.out (.cells #[.int .i64 (f : Int), .bool p, .bool q, .bool r] 71) (.cells #[.slice ao n c] 40)
    obtain ⟨a9, c9, e9, _, _, _, HA⟩ := hu2.out (.cells #[.int .i64 (f : Int), .bool p, .bool q, .bool r] 71) (.cells #[.slice ao n c] 40)
    rw [hn.out] at e9 HA
    simp at e9
    obtain ⟨rfl, rfl⟩ := e9
    obtain ⟨b, off, rfl, hR⟩ := HA (by omega)
    have hc := hR f hfn
    have hsf := hs.out f hfn
    clear HA hR
    replace hbx := Lib.hid hbx
    generalize hG : gs x f = G at *
    replace hG := Lib.hid hG
    cases r
    · have hv2 : valF ((f : Int), p, q, false) x = G := hv
      rw [hv2]
      clear hv hv2
      go_enter Tryd.func135, Tryd.ntmps135
      go_wp2
      go_ret
      exact ⟨rfl, hbx.out⟩
    · have hv2 : valF ((f : Int), p, q, true) x = lowS G := hv
      rw [hv2]
      clear hv hv2
      go_enter Tryd.func135, Tryd.ntmps135
      go_wp2_with fail
      refine (lower_any G _ (by omega)).mono ?_
      rintro e w5 ⟨rfl, hb5⟩
      have hfin := Lib.hid (Below.next hbx.out hb5)
      clear hb5
      go_wp2
      go_ret
      exact ⟨rfl, hfin.out⟩

set_option maxRecDepth 10000 in
set_option maxHeartbeats 4000000 in
theorem l2Value_any (k : KS) (u : Value) (x : List ByteArray) (w : World) (hu : RdS w u x) (h0 : 0 ≤ k.1) (h5 : k.1 ≤ 5) (hs : ∀ i, i < x.length → (gs x i).size ≤ 40) :
    Calls Tryd.prog 113 #[ksV k, .agg #[u]] w fun e w' => e = .returned (.string (valF k x)) ∧ Below w.heap.size w w' := by
  have hbb : Hid (∀ A B : Obj, Below w.heap.size w ((w.alloc A).alloc B)) := Lib.hid (fun A B => ((Below.refl _ _).alloc (Nat.le_refl _) A).alloc (by simp) B)
  have hu2 := Lib.hid (fun A B => hu.below (hbb.out A B))
  obtain ⟨a, p, q, r⟩ := k
  unfold ksV
  dsimp only at h0 h5 ⊢
  obtain ⟨f, rfl⟩ := Int.eq_ofNat_of_zero_le h0
  have hvf : Hid (valF ((f : Int), p, q, r) x = if (x.length : Int) ≤ (f : Int) then ByteArray.empty else if r then lowS (gs x f) else gs x f) := Lib.hid (by simp [valF])
  obtain ⟨ao, c, rfl, h1, h2, _, _⟩ := hu
  unfold maxLen at h2
  replace hs := Lib.hid hs
  obtain ⟨n, hn⟩ : ∃ n, x.length = n := ⟨_, rfl⟩
  rw [hn] at hvf h1 hu2 hs ⊢
  replace hn := Lib.hid hn
  by_cases hle : (n : Int) ≤ (f : Int)
  · have hv := hvf.out
    rw [if_pos hle] at hv
    rw [hv]
    clear hv
    go_enter Tryd.func113, Tryd.ntmps113
    go_wp2
    go_ret
    exact ⟨rfl, hbb.out _ _⟩
  · have hv := hvf.out
    rw [if_neg hle] at hv
    have hfn : f < n := by omega
    obtain ⟨w2, hw2⟩ : ∃ w2, w2 = (w.alloc (.cells #[.int .i64 (f : Int), .bool p, .bool q, .bool r] 71)).alloc (.cells #[.slice ao n c] 40) := ⟨_, rfl⟩
    have hbx := hbb.out (.cells #[.int .i64 (f : Int), .bool p, .bool q, .bool r] 71) (.cells #[.slice ao n c] 40)
    have hu3 := hu2.out (.cells #[.int .i64 (f : Int), .bool p, .bool q, .bool r] 71) (.cells #[.slice ao n c] 40)
    rw [← hw2] at hbx hu3
    obtain ⟨a9, c9, e9, _, _, _, HA⟩ := hu3
    rw [hn.out] at e9 HA
    simp at e9
    obtain ⟨rfl, rfl⟩ := e9
    obtain ⟨b, off, rfl, hR⟩ := HA (by omega)
    have hc := hR f hfn
    have hsf := hs.out f hfn
    have hk3 : w2.cell? ⟨w.heap.size, 3, none⟩ = some (.bool r) := by rw [hw2]; simp [go_sem]
    have hkl : w.heap.size < w2.heap.size := by rw [hw2]; simp; omega
    have hc' := hc
    rw [hw2] at hc'
    clear HA hR
    generalize hG : gs x f = G at *
    replace hG := Lib.hid hG
    have hcv := Lib.run_convert_string_bytes (P := Tryd.prog) w2 9 53 5 G Tryd.underlying9 Tryd.underlying53 Tryd.underlying5
    have hbr := BR.start hbx G
    have hbw := Lib.bytesWorld_below w2 5 G
    generalize grownCap w2 G.size 0 5 = cap at *
    generalize Lib.bytesWorld w2 5 G = W5 at *
    obtain ⟨R, hR⟩ : ∃ R, R = if r then lowS G else G := ⟨_, rfl⟩
    obtain ⟨g, hg⟩ : ∃ g : Nat → Nat → Nat, g = fun i j => if r then lowAt G i j else byt G j := ⟨_, rfl⟩
    have hg0 : Hid (∀ j, g 0 j = byt G j) := Lib.hid (fun j => by rw [hg]; cases r <;> simp [lowAt])
    have hgd : Hid (∀ i, g i i = byt G i) := Lib.hid (fun j => by rw [hg]; cases r <;> simp [lowAt])
    have hgs : Hid (∀ i j, i < G.size → g (i + 1) j = if j = i then (if r = true ∧ 65 ≤ byt G i ∧ byt G i ≤ 90 then byt G i + 32 else byt G i) else g i j) := Lib.hid (fun i j hi => by
      rw [hg]
      cases r
      · simp
        intro e; rw [e]
      · simpa using lowAt_step (s := G) (i := i) (j := j) hi)
    have hge : Hid (∀ j, j < G.size → byt R j = g G.size j) := Lib.hid (fun j hj => by
      rw [hR, hg]
      cases r
      · simp
      · simp [lowAt, hj])
    have hRs : Hid (R.size = G.size) := Lib.hid (by rw [hR]; cases r <;> simp [lowS_size])
    have hvR : Hid (valF ((f : Int), p, q, r) x = R) := Lib.hid (by rw [hv, hR])
    have hBk : Hid (∀ wr, Below w2.heap.size w2 wr → wr.cell? ⟨w.heap.size, 3, none⟩ = some (.bool r)) := Lib.hid (fun wr hb => (hb.cell (p := ⟨w.heap.size, 3, none⟩) hkl).trans hk3)
    have hbr0 : Hid (BR w2 w2.heap.size G.size (g 0) W5) := Lib.hid ((BR.start (Below.refl w2.heap.size w2) G |> fun _ => ⟨fun j hj => by rw [hg0.out]; exact hbr.cell j hj, hbr.fz, hbw, Nat.le_refl _⟩))
    clear hbr hv hg hR hk3 hbw
    obtain ⟨N, hN⟩ : ∃ N, G.size = N := ⟨_, rfl⟩
    rw [hN] at hcv hbr0 hgs hge hRs hsf
    replace hN := Lib.hid hN
    replace hbx := Lib.hid hbx
    rw [hvR.out]
    replace hw2 := Lib.hid hw2
    rw [hw2.out] at hcv
    have hbr1 : Hid (BR w2 (w.heap.size + 1 + 1) N (g 0) W5) := Lib.hid (by
      have e : w2.heap.size = w.heap.size + 1 + 1 := by rw [hw2.out]; simp
      have q := hbr0.out
      rwa [e] at q)
    have hz2 : (w.alloc (.cells #[.int .i64 (f : Int), .bool p, .bool q, .bool r] 71)).heap.size = w.heap.size + 1 := by simp
    go_enter Tryd.func113, Tryd.ntmps113
    go_wp2
    go_loopw [6] (fun iv wr => ∃ i : Nat, i ≤ N ∧ iv = .int .i64 (i : Nat) ∧ BR w2 (w.heap.size + 1 + 1) N (g i) wr) (fun iv _ => N - (intOf iv).toNat)
    case atStart => exact ⟨0, Nat.zero_le _, rfl, hbr1.out⟩
    case round =>
      clear hbr0 hbr1 hcv
      obtain ⟨i, hi, rfl, hBR⟩ := hrel
      by_cases hlt : i < N
      · have hcb := hBR.cell i hlt
        have hf := hBR.fz i hlt
        have hk3 := hBk.out wr hBR.bel
        have hst := Lib.hid (fun j => hgs.out i j hlt)
        rw [hgd.out i] at hcb
        have hb8 := byt_lt G i
        generalize hbb8 : byt G i = bb at *
        replace hbb8 := Lib.hid hbb8
        have hsame := Lib.hid (fun (h : ¬ (r = true ∧ 65 ≤ bb ∧ bb ≤ 90)) => hBR.ext (g := g (i + 1)) (fun j hj => by
          rw [hst.out j, if_neg h]
          by_cases e : j = i
          · rw [if_pos e, e, hgd.out i, hbb8.out]
          · rw [if_neg e]))
        have hchg := Lib.hid (fun (h : r = true ∧ 65 ≤ bb ∧ bb ≤ 90) => (hBR.set (V := bb + 32) hlt).ext (g := g (i + 1)) (fun j hj => by
          rw [hst.out j, if_pos h]))
        clear hBR
        cases r
        · have hnx := Lib.hid (hsame.out (by simp))
          clear hsame hchg
          go_wp2
          go_roundw
          case rel => exact ⟨i + 1, by omega, by go_num, hnx.out⟩
          case measure => simp [intOf]; omega
        · by_cases h65 : 65 ≤ bb
          · by_cases h90 : bb ≤ 90
            · have h1 : (65 : Int) ≤ (bb : Int) := by omega
              have h2 : (bb : Int) ≤ 90 := by omega
              have h3 := u8add h90
              have hnx := Lib.hid (hchg.out ⟨rfl, h65, h90⟩)
              clear hsame hchg
              go_wp2
              go_roundw
              case rel => exact ⟨i + 1, by omega, by go_num, hnx.out⟩
              case measure => simp [intOf]; omega
            · have h1 : (65 : Int) ≤ (bb : Int) := by omega
              have h2 : ¬ (bb : Int) ≤ 90 := by omega
              have hnx := Lib.hid (hsame.out (fun h => h90 h.2.2))
              clear hsame hchg
              go_wp2
              go_roundw
              case rel => exact ⟨i + 1, by omega, by go_num, hnx.out⟩
              case measure => simp [intOf]; omega
          · have h1 : ¬ (65 : Int) ≤ (bb : Int) := by omega
            have hnx := Lib.hid (hsame.out (fun h => h65 h.2.1))
            clear hsame hchg
            go_wp2
            go_roundw
            case rel => exact ⟨i + 1, by omega, by go_num, hnx.out⟩
            case measure => simp [intOf]; omega
      · obtain rfl : i = N := by omega
        have hcv2 := hBR.conv (cap := cap) R hRs.out (fun j hj => hge.out j hj)
        have hfin := Lib.hid (Below.next hbx.out hBR.bel)
        clear hBR
        go_wp2
        go_ret
        exact ⟨rfl, hfin.out⟩
end Go.Proofs.YtoeonplbgbgjmaaDoor
