/- Small letters; bytes of a string written in place: impl.lower, (KeySpec).value, spec.l2Value. The value of a row for a key: (KeySpec).value, spec.l2Value. -/
import Derived.Test.YtoeonplbgbgjmaaDoorMg6
import Derived.Test.YtoeonplbgbgjmaaDoorMg5
import Derived.Test.YtoeonplbgbgjmaaDoorNumL
import Derived.Lib.ConvBytes
import Derived.Lib.AtoiErrMem
import Derived.Laws.BytesArg
import Derived.Laws.BitsLemmas
namespace Go.Proofs.YtoeonplbgbgjmaaDoor
open Go.RowKit
set_option linter.unusedVariables false
set_option linter.unusedSimpArgs false

def lowB (b : UInt8) : UInt8 := if 65 ≤ b.toNat ∧ b.toNat ≤ 90 then b + 32 else b
theorem lowB_nat (b : UInt8) : (lowB b).toNat = if 65 ≤ b.toNat ∧ b.toNat ≤ 90 then b.toNat + 32 else b.toNat := by
  unfold lowB
  split
  · rename_i h
    rw [UInt8.toNat_add]
    show (b.toNat + 32) % 256 = _
    omega
  · rfl
def lowS (s : ByteArray) : ByteArray := strB (s.data.toList.map lowB)
theorem lowS_size (s : ByteArray) : (lowS s).size = s.size := by unfold lowS; rw [strB_size, List.length_map, size_toList]
/-- The bytes f in block blk of a world behind w. -/
structure BR (w : World) (blk N : Nat) (f : Nat → Nat) (wr : World) : Prop where
  cell : ∀ j, j < N → wr.cell? ⟨blk, j, none⟩ = some (.int .u8 (f j : Int))
  fz : ∀ j, j < N → wr.frozen? ⟨blk, j, none⟩ = false
  bel : Below w.heap.size w wr
  new : w.heap.size ≤ blk
def byt (s : ByteArray) (j : Nat) : Nat := (s.data.toList.getD j 0).toNat
theorem byt_lt (s : ByteArray) (j : Nat) : byt s j < 256 := (s.data.toList.getD j 0).toNat_lt
theorem byt_low (s : ByteArray) {j : Nat} (h : j < s.size) : byt (lowS s) j = if 65 ≤ byt s j ∧ byt s j ≤ 90 then byt s j + 32 else byt s j := by
  unfold byt lowS
  have hl : j < s.data.toList.length := by rw [size_toList]; exact h
  rw [strB_data, List.getD_eq_getElem?_getD, List.getD_eq_getElem?_getD, List.getElem?_map, List.getElem?_eq_getElem hl]
  exact lowB_nat _
theorem BR.start {w w1 : World} (hb : Below w.heap.size w w1) (s : ByteArray) : BR w w1.heap.size s.size (byt s) (Lib.bytesWorld w1 5 s) := by
  refine ⟨fun j hj => Lib.bytesWorld_cell w1 5 s j hj, fun j hj => ?_, Below.next hb (Lib.bytesWorld_below _ _ _), hb.size⟩
  have h := Lib.bytesWorld_at_new w1 5 s
  have hs : s.size ≤ (Lib.bytesCells w1 5 s).size := by
    unfold Lib.bytesCells
    rw [Array.size_append, Array.size_map]
    show s.size ≤ s.data.size + _
    have : s.data.size = s.size := rfl
    omega
  unfold World.frozen?
  simp [h]
  omega
theorem BR.set {w wr : World} {blk N k V : Nat} {f : Nat → Nat} (h : BR w blk N f wr) (hk : k < N) : BR w blk N (fun j => if j = k then V else f j) (wr.setCell ⟨blk, k, none⟩ (.int .u8 (V : Int))) := by
  refine ⟨fun j hj => ?_, fun j hj => by rw [World.frozen?_setCell]; exact h.fz j hj, Below.setCell h.bel (p := ⟨blk, k, none⟩) h.new _, h.new⟩
  by_cases e : j = k
  · subst e
    rw [if_pos rfl]
    apply World.cell?_setCell_same
    exact h.cell j hj
  · rw [if_neg e, ← h.cell j hj]
    apply World.cell?_setCell_other
    intro e2
    exact e (by simpa using e2.symm)
theorem BR.ext {w wr : World} {blk N : Nat} {f g : Nat → Nat} (h : BR w blk N f wr) (e : ∀ j, j < N → g j = f j) : BR w blk N g wr :=
  ⟨fun j hj => by rw [e j hj]; exact h.cell j hj, h.fz, h.bel, h.new⟩
theorem BR.drewN {w wr : World} {blk N : Nat} {f : Nat → Nat} (h : BR w blk N f wr) (n : Nat) : BR w blk N f (wr.drewN n) := ⟨h.cell, h.fz, Below.drewN h.bel n, h.new⟩
theorem strOfNums_bytes' (l : List UInt8) : strOfNums (l.map fun b => (b.toNat : Int)) = strB l := by
  unfold strOfNums strB
  rw [List.map_map]
  congr 1
  congr 1
  conv => rhs; rw [← List.map_id l]
  apply List.map_congr_left
  intro b _
  simp
/-- The bytes read back as a string. -/
theorem BR.conv {w wr : World} {blk N cap : Nat} {f : Nat → Nat} (h : BR w blk N f wr) (S : ByteArray) (hS : S.size = N) (hf : ∀ j, j < N → byt S j = f j) :
    (convert 53 9 (.slice (some ⟨blk, 0, none⟩) N cap)).run Tryd.prog wr = .ok (.string S) wr := by
  have e : S = strOfNums (S.data.toList.map fun b => (b.toNat : Int)) := by rw [strOfNums_bytes', strB_toList]
  have hl : S.data.toList.length = N := by rw [size_toList, hS]
  rw [e]
  refine run_convert_bytes_arg wr _ _ Tryd.underlying53 Tryd.underlying5 blk 0 N cap _ (by rw [List.length_map, hl]) (fun i hi => ?_) _ Tryd.underlying9
  have hil : i < S.data.toList.length := by omega
  rw [Nat.zero_add, h.cell i hi, ← hf i hi]
  unfold byt
  simp only [List.getD_eq_getElem?_getD, List.getElem?_map, List.getElem?_eq_getElem hil]
  rfl
/-- The bytes behind i steps of lowering. -/
def lowAt (s : ByteArray) (i j : Nat) : Nat := if j < i then byt (lowS s) j else byt s j
theorem u8add {b : Nat} (h : b ≤ 90) : IntKind.u8.wrap ((b : Int) + 32) = ((b + 32 : Nat) : Int) := by
  rw [IntKind.wrap_u8]; omega
theorem lowAt_step {s : ByteArray} {i j : Nat} (hi : i < s.size) : lowAt s (i + 1) j = if j = i then (if 65 ≤ byt s i ∧ byt s i ≤ 90 then byt s i + 32 else byt s i) else lowAt s i j := by
  unfold lowAt
  by_cases e : j = i
  · subst e; rw [if_pos (by omega), if_pos rfl, byt_low s hi]
  · rw [if_neg e]
    by_cases l : j < i
    · rw [if_pos (by omega), if_pos l]
    · rw [if_neg (by omega), if_neg l]

set_option maxRecDepth 10000 in
set_option maxHeartbeats 2000000 in
theorem lower_any (s : ByteArray) (w : World) (hs : s.size ≤ 1048576) :
    Calls Tryd.prog 161 #[.string s] w fun e w' => e = .returned (.string (lowS s)) ∧ Below w.heap.size w w' := by
  have hcv := Lib.run_convert_string_bytes (P := Tryd.prog) w 9 53 5 s Tryd.underlying9 Tryd.underlying53 Tryd.underlying5
  have hbr := BR.start (Below.refl w.heap.size w) s
  generalize grownCap w s.size 0 5 = cap at *
  generalize Lib.bytesWorld w 5 s = W5 at *
  have hbr0 := Lib.hid (hbr.ext (g := lowAt s 0) (fun j _ => by simp [lowAt]))
  have hlst := Lib.hid (fun i j (hi : i < s.size) => lowAt_step (s := s) (i := i) (j := j) hi)
  have hlat := Lib.hid (fun j => show lowAt s s.size j = if j < s.size then byt (lowS s) j else byt s j from rfl)
  have hbl := Lib.hid (byt_lt s)
  have hlc := Lib.hid (fun i => show lowAt s i i = byt s i by simp [lowAt])
  obtain ⟨N, hN⟩ : ∃ N, s.size = N := ⟨_, rfl⟩
  rw [hN] at hcv hbr0 hs hlst hlat
  have hls := Lib.hid (lowS_size s)
  rw [hN] at hls
  replace hN := Lib.hid hN
  clear hbr
  go_enter Tryd.func161, Tryd.ntmps161
  go_wp2
  go_loopw [10] (fun iv wr => ∃ i : Nat, i ≤ N ∧ iv = .int .i64 (i : Nat) ∧ BR w w.heap.size N (lowAt s i) wr) (fun iv _ => N - (intOf iv).toNat)
  case atStart => exact ⟨0, Nat.zero_le _, rfl, hbr0.out⟩
  case round =>
    clear hbr0
    obtain ⟨i, hi, rfl, hBR⟩ := hrel
    by_cases hlt : i < N
    · have hc := hBR.cell i hlt
      have hf := hBR.fz i hlt
      have hst := Lib.hid (fun j => hlst.out i j hlt)
      have hb8 := hbl.out i
      rw [hlc.out i] at hc
      generalize hb : byt s i = b at *
      replace hb := Lib.hid hb
      by_cases h65 : 65 ≤ b
      · by_cases h90 : b ≤ 90
        · have h1 : (65 : Int) ≤ (b : Int) := by omega
          have h2 : (b : Int) ≤ 90 := by omega
          have h3 := u8add h90
          have hnx := Lib.hid ((hBR.set (V := b + 32) hlt).ext (g := lowAt s (i + 1)) (fun j hj => by
            rw [hst.out j]
            by_cases e : j = i
            · rw [if_pos e, if_pos ⟨h65, h90⟩, if_pos e]
            · rw [if_neg e, if_neg e]))
          clear hBR
          go_wp2
          go_roundw
          case rel => exact ⟨i + 1, by omega, by go_num, hnx.out⟩
          case measure => simp [intOf]; omega
        · have h1 : (65 : Int) ≤ (b : Int) := by omega
          have h2 : ¬ (b : Int) ≤ 90 := by omega
          have hnx := Lib.hid (hBR.ext (g := lowAt s (i + 1)) (fun j hj => by
            rw [hst.out j]
            by_cases e : j = i
            · rw [if_pos e, if_neg (fun h => h90 h.2), e, hlc.out i, hb.out]
            · rw [if_neg e]))
          clear hBR
          go_wp2
          go_roundw
          case rel => exact ⟨i + 1, by omega, by go_num, hnx.out⟩
          case measure => simp [intOf]; omega
      · have h1 : ¬ (65 : Int) ≤ (b : Int) := by omega
        have hnx := Lib.hid (hBR.ext (g := lowAt s (i + 1)) (fun j hj => by
          rw [hst.out j]
          by_cases e : j = i
          · rw [if_pos e, if_neg (fun h => h65 h.1), e, hlc.out i, hb.out]
          · rw [if_neg e]))
        clear hBR
        go_wp2
        go_roundw
        case rel => exact ⟨i + 1, by omega, by go_num, hnx.out⟩
        case measure => simp [intOf]; omega
    · obtain rfl : i = N := by omega
      have hcv2 := hBR.conv (cap := cap) (lowS s) hls.out (fun j hj => by rw [hlat.out j, if_pos hj])
      have hfin := Lib.hid hBR.bel
      clear hBR
      obtain ⟨LS, hLS⟩ : ∃ LS, LS = lowS s := ⟨_, rfl⟩
      rw [← hLS] at hcv2
      replace hLS := Lib.hid hLS
      go_wp2
      go_ret
      exact ⟨by rw [← hLS.out]; rfl, hfin.out⟩
end Go.Proofs.YtoeonplbgbgjmaaDoor
namespace Go.Proofs.YtoeonplbgbgjmaaDoor
open Go.RowKit
set_option linter.unusedVariables false
set_option linter.unusedSimpArgs false

def valF (k : KS) (x : List ByteArray) : ByteArray := if (x.length : Int) ≤ k.1 then ByteArray.empty else if k.2.2.2 then lowS (gs x k.1.toNat) else gs x k.1.toNat
def ksV (k : KS) : Value := .agg #[.int .i64 k.1, .bool k.2.1, .bool k.2.2.1, .bool k.2.2.2]
theorem valF_size {k : KS} {x : List ByteArray} (h0 : 0 ≤ k.1) (hs : ∀ i, i < x.length → (gs x i).size ≤ 40) : (valF k x).size ≤ 40 := by
  unfold valF
  split
  · simp
  · rename_i h
    have := hs k.1.toNat (by omega)
    split
    · rw [lowS_size]; exact this
    · exact this

set_option maxRecDepth 10000 in
set_option maxHeartbeats 2000000 in
theorem value_any (k : KS) (u : Value) (x : List ByteArray) (w : World) (hu : RdS w u x) (h0 : 0 ≤ k.1) (h5 : k.1 ≤ 5) (hs : ∀ i, i < x.length → (gs x i).size ≤ 40) :
    Calls Tryd.prog 135 #[ksV k, .agg #[u]] w fun e w' => e = .returned (.string (valF k x)) ∧ Below w.heap.size w w' := by
  have hbb : Hid (∀ A B : Obj, Below w.heap.size w ((w.alloc A).alloc B)) := Lib.hid (fun A B => ((Below.refl _ _).alloc (Nat.le_refl _) A).alloc (by simp) B)
  have hu2 := Lib.hid (fun A B => hu.below (hbb.out A B))
  obtain ⟨a, p, q, r⟩ := k
  unfold ksV
  dsimp only at h0 h5 ⊢
  obtain ⟨f, rfl⟩ := Int.eq_ofNat_of_zero_le h0
  have hvf : Hid (valF ((f : Int), p, q, r) x = if (x.length : Int) ≤ (f : Int) then ByteArray.empty else if r then lowS (gs x f) else gs x f) := Lib.hid (by simp [valF])
  obtain ⟨ao, c, rfl, h1, h2, _, _⟩ := hu
  unfold maxLen at h2
  replace hs := Lib.hid hs
  obtain ⟨n, hn⟩ : ∃ n, x.length = n := ⟨_, rfl⟩
  rw [hn] at hvf h1 hu2 hs ⊢
  replace hn := Lib.hid hn
  by_cases hle : (n : Int) ≤ (f : Int)
  · have hv := hvf.out
    rw [if_pos hle] at hv
    rw [hv]
    clear hv
    go_enter Tryd.func135, Tryd.ntmps135
    go_wp2
    go_ret
    exact ⟨rfl, hbb.out _ _⟩
  · have hv := hvf.out
    rw [if_neg hle] at hv
    have hfn : f < n := by omega
    have hbx := hbb.out (.cells #[.int .i64 (f : Int), .bool p, .bool q, .bool r] 71) (.cells #[.slice ao n c] 40)
    obtain ⟨a9, c9, e9, _, _, _, HA⟩ := hu2.out (.cells #[.int .i64 (f : Int), .bool p, .bool q, .bool r] 71) (.cells #[.slice ao n c] 40)
    rw [hn.out] at e9 HA
    simp at e9
    obtain ⟨rfl, rfl⟩ := e9
    obtain ⟨b, off, rfl, hR⟩ := HA (by omega)
    have hc := hR f hfn
    have hsf := hs.out f hfn
    clear HA hR
    replace hbx := Lib.hid hbx
    generalize hG : gs x f = G at *
    replace hG := Lib.hid hG
    cases r
    · have hv2 : valF ((f : Int), p, q, false) x = G := hv
      rw [hv2]
      clear hv hv2
      go_enter Tryd.func135, Tryd.ntmps135
      go_wp2
      go_ret
      exact ⟨rfl, hbx.out⟩
    · have hv2 : valF ((f : Int), p, q, true) x = lowS G := hv
      rw [hv2]
      clear hv hv2
      go_enter Tryd.func135, Tryd.ntmps135
      go_wp2_with fail
      refine (lower_any G _ (by omega)).mono ?_
      rintro e w5 ⟨rfl, hb5⟩
      have hfin := Lib.hid (Below.next hbx.out hb5)
      clear hb5
      go_wp2
      go_ret
      exact ⟨rfl, hfin.out⟩

set_option maxRecDepth 10000 in
set_option maxHeartbeats 4000000 in
theorem l2Value_any (k : KS) (u : Value) (x : List ByteArray) (w : World) (hu : RdS w u x) (h0 : 0 ≤ k.1) (h5 : k.1 ≤ 5) (hs : ∀ i, i < x.length → (gs x i).size ≤ 40) :
    Calls Tryd.prog 113 #[ksV k, .agg #[u]] w fun e w' => e = .returned (.string (valF k x)) ∧ Below w.heap.size w w' := by
  have hbb : Hid (∀ A B : Obj, Below w.heap.size w ((w.alloc A).alloc B)) := Lib.hid (fun A B => ((Below.refl _ _).alloc (Nat.le_refl _) A).alloc (by simp) B)
  have hu2 := Lib.hid (fun A B => hu.below (hbb.out A B))
  obtain ⟨a, p, q, r⟩ := k
  unfold ksV
  dsimp only at h0 h5 ⊢
  obtain ⟨f, rfl⟩ := Int.eq_ofNat_of_zero_le h0
  have hvf : Hid (valF ((f : Int), p, q, r) x = if (x.length : Int) ≤ (f : Int) then ByteArray.empty else if r then lowS (gs x f) else gs x f) := Lib.hid (by simp [valF])
  obtain ⟨ao, c, rfl, h1, h2, _, _⟩ := hu
  unfold maxLen at h2
  replace hs := Lib.hid hs
  obtain ⟨n, hn⟩ : ∃ n, x.length = n := ⟨_, rfl⟩
  rw [hn] at hvf h1 hu2 hs ⊢
  replace hn := Lib.hid hn
  by_cases hle : (n : Int) ≤ (f : Int)
  · have hv := hvf.out
    rw [if_pos hle] at hv
    rw [hv]
    clear hv
    go_enter Tryd.func113, Tryd.ntmps113
    go_wp2
    go_ret
    exact ⟨rfl, hbb.out _ _⟩
  · have hv := hvf.out
    rw [if_neg hle] at hv
    have hfn : f < n := by omega
    obtain ⟨w2, hw2⟩ : ∃ w2, w2 = (w.alloc (.cells #[.int .i64 (f : Int), .bool p, .bool q, .bool r] 71)).alloc (.cells #[.slice ao n c] 40) := ⟨_, rfl⟩
    have hbx := hbb.out (.cells #[.int .i64 (f : Int), .bool p, .bool q, .bool r] 71) (.cells #[.slice ao n c] 40)
    have hu3 := hu2.out (.cells #[.int .i64 (f : Int), .bool p, .bool q, .bool r] 71) (.cells #[.slice ao n c] 40)
    rw [← hw2] at hbx hu3
    obtain ⟨a9, c9, e9, _, _, _, HA⟩ := hu3
    rw [hn.out] at e9 HA
    simp at e9
    obtain ⟨rfl, rfl⟩ := e9
    obtain ⟨b, off, rfl, hR⟩ := HA (by omega)
    have hc := hR f hfn
    have hsf := hs.out f hfn
    have hk3 : w2.cell? ⟨w.heap.size, 3, none⟩ = some (.bool r) := by rw [hw2]; simp [go_sem]
    have hkl : w.heap.size < w2.heap.size := by rw [hw2]; simp; omega
    have hc' := hc
    rw [hw2] at hc'
    clear HA hR
    generalize hG : gs x f = G at *
    replace hG := Lib.hid hG
    have hcv := Lib.run_convert_string_bytes (P := Tryd.prog) w2 9 53 5 G Tryd.underlying9 Tryd.underlying53 Tryd.underlying5
    have hbr := BR.start hbx G
    have hbw := Lib.bytesWorld_below w2 5 G
    generalize grownCap w2 G.size 0 5 = cap at *
    generalize Lib.bytesWorld w2 5 G = W5 at *
    obtain ⟨R, hR⟩ : ∃ R, R = if r then lowS G else G := ⟨_, rfl⟩
    obtain ⟨g, hg⟩ : ∃ g : Nat → Nat → Nat, g = fun i j => if r then lowAt G i j else byt G j := ⟨_, rfl⟩
    have hg0 : Hid (∀ j, g 0 j = byt G j) := Lib.hid (fun j => by rw [hg]; cases r <;> simp [lowAt])
    have hgd : Hid (∀ i, g i i = byt G i) := Lib.hid (fun j => by rw [hg]; cases r <;> simp [lowAt])
    have hgs : Hid (∀ i j, i < G.size → g (i + 1) j = if j = i then (if r = true ∧ 65 ≤ byt G i ∧ byt G i ≤ 90 then byt G i + 32 else byt G i) else g i j) := Lib.hid (fun i j hi => by
      rw [hg]
      cases r
      · simp
        intro e; rw [e]
      · simpa using lowAt_step (s := G) (i := i) (j := j) hi)
    have hge : Hid (∀ j, j < G.size → byt R j = g G.size j) := Lib.hid (fun j hj => by
      rw [hR, hg]
      cases r
      · simp
      · simp [lowAt, hj])
    have hRs : Hid (R.size = G.size) := Lib.hid (by rw [hR]; cases r <;> simp [lowS_size])
    have hvR : Hid (valF ((f : Int), p, q, r) x = R) := Lib.hid (by rw [hv, hR])
    have hBk : Hid (∀ wr, Below w2.heap.size w2 wr → wr.cell? ⟨w.heap.size, 3, none⟩ = some (.bool r)) := Lib.hid (fun wr hb => (hb.cell (p := ⟨w.heap.size, 3, none⟩) hkl).trans hk3)
    have hbr0 : Hid (BR w2 w2.heap.size G.size (g 0) W5) := Lib.hid ((BR.start (Below.refl w2.heap.size w2) G |> fun _ => ⟨fun j hj => by rw [hg0.out]; exact hbr.cell j hj, hbr.fz, hbw, Nat.le_refl _⟩))
    clear hbr hv hg hR hk3 hbw
    obtain ⟨N, hN⟩ : ∃ N, G.size = N := ⟨_, rfl⟩
    rw [hN] at hcv hbr0 hgs hge hRs hsf
    replace hN := Lib.hid hN
    replace hbx := Lib.hid hbx
    rw [hvR.out]
    replace hw2 := Lib.hid hw2
    rw [hw2.out] at hcv
    have hbr1 : Hid (BR w2 (w.heap.size + 1 + 1) N (g 0) W5) := Lib.hid (by
      have e : w2.heap.size = w.heap.size + 1 + 1 := by rw [hw2.out]; simp
      have q := hbr0.out
      rwa [e] at q)
    have hz2 : (w.alloc (.cells #[.int .i64 (f : Int), .bool p, .bool q, .bool r] 71)).heap.size = w.heap.size + 1 := by simp
    go_enter Tryd.func113, Tryd.ntmps113
    go_wp2
    go_loopw [6] (fun iv wr => ∃ i : Nat, i ≤ N ∧ iv = .int .i64 (i : Nat) ∧ BR w2 (w.heap.size + 1 + 1) N (g i) wr) (fun iv _ => N - (intOf iv).toNat)
    case atStart => exact ⟨0, Nat.zero_le _, rfl, hbr1.out⟩
    case round =>
      clear hbr0 hbr1 hcv
      obtain ⟨i, hi, rfl, hBR⟩ := hrel
      by_cases hlt : i < N
      · have hcb := hBR.cell i hlt
        have hf := hBR.fz i hlt
        have hk3 := hBk.out wr hBR.bel
        have hst := Lib.hid (fun j => hgs.out i j hlt)
        rw [hgd.out i] at hcb
        have hb8 := byt_lt G i
        generalize hbb8 : byt G i = bb at *
        replace hbb8 := Lib.hid hbb8
        have hsame := Lib.hid (fun (h : ¬ (r = true ∧ 65 ≤ bb ∧ bb ≤ 90)) => hBR.ext (g := g (i + 1)) (fun j hj => by
          rw [hst.out j, if_neg h]
          by_cases e : j = i
          · rw [if_pos e, e, hgd.out i, hbb8.out]
          · rw [if_neg e]))
        have hchg := Lib.hid (fun (h : r = true ∧ 65 ≤ bb ∧ bb ≤ 90) => (hBR.set (V := bb + 32) hlt).ext (g := g (i + 1)) (fun j hj => by
          rw [hst.out j, if_pos h]))
        clear hBR
        cases r
        · have hnx := Lib.hid (hsame.out (by simp))
          clear hsame hchg
          go_wp2
          go_roundw
          case rel => exact ⟨i + 1, by omega, by go_num, hnx.out⟩
          case measure => simp [intOf]; omega
        · by_cases h65 : 65 ≤ bb
          · by_cases h90 : bb ≤ 90
            · have h1 : (65 : Int) ≤ (bb : Int) := by omega
              have h2 : (bb : Int) ≤ 90 := by omega
              have h3 := u8add h90
              have hnx := Lib.hid (hchg.out ⟨rfl, h65, h90⟩)
              clear hsame hchg
              go_wp2
              go_roundw
              case rel => exact ⟨i + 1, by omega, by go_num, hnx.out⟩
              case measure => simp [intOf]; omega
            · have h1 : (65 : Int) ≤ (bb : Int) := by omega
              have h2 : ¬ (bb : Int) ≤ 90 := by omega
              have hnx := Lib.hid (hsame.out (fun h => h90 h.2.2))
              clear hsame hchg
              go_wp2
              go_roundw
              case rel => exact ⟨i + 1, by omega, by go_num, hnx.out⟩
              case measure => simp [intOf]; omega
          · have h1 : ¬ (65 : Int) ≤ (bb : Int) := by omega
            have hnx := Lib.hid (hsame.out (fun h => h65 h.2.1))
            clear hsame hchg
            go_wp2
            go_roundw
            case rel => exact ⟨i + 1, by omega, by go_num, hnx.out⟩
            case measure => simp [intOf]; omega
      · obtain rfl : i = N := by omega
        have hcv2 := hBR.conv (cap := cap) R hRs.out (fun j hj => hge.out j hj)
        have hfin := Lib.hid (Below.next hbx.out hBR.bel)
        clear hBR
        go_wp2
        go_ret
        exact ⟨rfl, hfin.out⟩
end Go.Proofs.YtoeonplbgbgjmaaDoor
