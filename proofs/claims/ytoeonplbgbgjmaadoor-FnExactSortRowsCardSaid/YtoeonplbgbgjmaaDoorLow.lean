/- Small letters; bytes of a string written in place: impl.lower, (KeySpec).value, spec.l2Value. -/
import Derived.Test.YtoeonplbgbgjmaaDoorVKs
import Derived.Test.YtoeonplbgbgjmaaDoorRow
import Derived.Test.YtoeonplbgbgjmaaDoorNumL
import Derived.Lib.ConvBytes
import Derived.Lib.AtoiErrMem
import Derived.Laws.BytesArg
import Derived.Laws.BitsLemmas
namespace Go.Proofs.YtoeonplbgbgjmaaDoor
open Go.RowKit
set_option linter.unusedVariables false
set_option linter.unusedSimpArgs false

def lowB (b : UInt8) : UInt8 := if 65 ≤ b.toNat ∧ b.toNat ≤ 90 then b + 32 else b
theorem lowB_nat (b : UInt8) : (lowB b).toNat = if 65 ≤ b.toNat ∧ b.toNat ≤ 90 then b.toNat + 32 else b.toNat := by
  unfold lowB
  split
  · rename_i h
    rw [UInt8.toNat_add]
    show (b.toNat + 32) % 256 = _
    omega
  · rfl
def lowS (s : ByteArray) : ByteArray := strB (s.data.toList.map lowB)
theorem lowS_size (s : ByteArray) : (lowS s).size = s.size := by unfold lowS; rw [strB_size, List.length_map, size_toList]
/-- The bytes f in block blk of a world behind w. -/
structure BR (w : World) (blk N : Nat) (f : Nat → Nat) (wr : World) : Prop where
  cell : ∀ j, j < N → wr.cell? ⟨blk, j, none⟩ = some (.int .u8 (f j : Int))
  fz : ∀ j, j < N → wr.frozen? ⟨blk, j, none⟩ = false
  bel : Below w.heap.size w wr
  new : w.heap.size ≤ blk
def byt (s : ByteArray) (j : Nat) : Nat := (s.data.toList.getD j 0).toNat
theorem byt_lt (s : ByteArray) (j : Nat) : byt s j < 256 := (s.data.toList.getD j 0).toNat_lt
theorem byt_low (s : ByteArray) {j : Nat} (h : j < s.size) : byt (lowS s) j = if 65 ≤ byt s j ∧ byt s j ≤ 90 then byt s j + 32 else byt s j := by
  unfold byt lowS
  have hl : j < s.data.toList.length := by rw [size_toList]; exact h
  rw [strB_data, List.getD_eq_getElem?_getD, List.getD_eq_getElem?_getD, List.getElem?_map, List.getElem?_eq_getElem hl]
  exact lowB_nat _
theorem BR.start {w w1 : World} (hb : Below w.heap.size w w1) (s : ByteArray) : BR w w1.heap.size s.size (byt s) (Lib.bytesWorld w1 5 s) := by
  refine ⟨fun j hj => Lib.bytesWorld_cell w1 5 s j hj, fun j hj => ?_, Below.next hb (Lib.bytesWorld_below _ _ _), hb.size⟩
  have h := Lib.bytesWorld_at_new w1 5 s
  have hs : s.size ≤ (Lib.bytesCells w1 5 s).size := by
    unfold Lib.bytesCells
    rw [Array.size_append, Array.size_map]
    show s.size ≤ s.data.size + _
    have : s.data.size = s.size := rfl
    omega
  unfold World.frozen?
  simp [h]
  omega
theorem BR.set {w wr : World} {blk N k V : Nat} {f : Nat → Nat} (h : BR w blk N f wr) (hk : k < N) : BR w blk N (fun j => if j = k then V else f j) (wr.setCell ⟨blk, k, none⟩ (.int .u8 (V : Int))) := by
  refine ⟨fun j hj => ?_, fun j hj => by rw [World.frozen?_setCell]; exact h.fz j hj, Below.setCell h.bel (p := ⟨blk, k, none⟩) h.new _, h.new⟩
  by_cases e : j = k
  · subst e
    rw [if_pos rfl]
    apply World.cell?_setCell_same
    exact h.cell j hj
  · rw [if_neg e, ← h.cell j hj]
    apply World.cell?_setCell_other
    intro e2
    exact e (by simpa using e2.symm)
theorem BR.ext {w wr : World} {blk N : Nat} {f g : Nat → Nat} (h : BR w blk N f wr) (e : ∀ j, j < N → g j = f j) : BR w blk N g wr :=
  ⟨fun j hj => by rw [e j hj]; exact h.cell j hj, h.fz, h.bel, h.new⟩
theorem BR.drewN {w wr : World} {blk N : Nat} {f : Nat → Nat} (h : BR w blk N f wr) (n : Nat) : BR w blk N f (wr.drewN n) := ⟨h.cell, h.fz, Below.drewN h.bel n, h.new⟩
theorem strOfNums_bytes' (l : List UInt8) : strOfNums (l.map fun b => (b.toNat : Int)) = strB l := by
  unfold strOfNums strB
  rw [List.map_map]
  congr 1
  congr 1
  conv => rhs; rw [← List.map_id l]
  apply List.map_congr_left
  intro b _
  simp
/-- The bytes read back as a string. -/
theorem BR.conv {w wr : World} {blk N cap : Nat} {f : Nat → Nat} (h : BR w blk N f wr) (S : ByteArray) (hS : S.size = N) (hf : ∀ j, j < N → byt S j = f j) :
    (convert 53 9 (.slice (some ⟨blk, 0, none⟩) N cap)).run Tryd.prog wr = .ok (.string S) wr := by
  have e : S = strOfNums (S.data.toList.map fun b => (b.toNat : Int)) := by rw [strOfNums_bytes', strB_toList]
  have hl : S.data.toList.length = N := by rw [size_toList, hS]
  rw [e]
  refine run_convert_bytes_arg wr _ _ Tryd.underlying53 Tryd.underlying5 blk 0 N cap _ (by rw [List.length_map, hl]) (fun i hi => ?_) _ Tryd.underlying9
  have hil : i < S.data.toList.length := by omega
  rw [Nat.zero_add, h.cell i hi, ← hf i hi]
  unfold byt
  simp only [List.getD_eq_getElem?_getD, List.getElem?_map, List.getElem?_eq_getElem hil]
  rfl
/-- The bytes behind i steps of lowering. -/
def lowAt (s : ByteArray) (i j : Nat) : Nat := if j < i then byt (lowS s) j else byt s j
theorem u8add {b : Nat} (h : b ≤ 90) : IntKind.u8.wrap ((b : Int) + 32) = ((b + 32 : Nat) : Int) := by
  rw [IntKind.wrap_u8]; omega
theorem lowAt_step {s : ByteArray} {i j : Nat} (hi : i < s.size) : lowAt s (i + 1) j = if j = i then (if 65 ≤ byt s i ∧ byt s i ≤ 90 then byt s i + 32 else byt s i) else lowAt s i j := by
  unfold lowAt
  by_cases e : j = i
  · subst e; rw [if_pos (by omega), if_pos rfl, byt_low s hi]
  · rw [if_neg e]
    by_cases l : j < i
    · rw [if_pos (by omega), if_pos l]
    · rw [if_neg (by omega), if_neg l]

set_option maxRecDepth 10000 in
set_option maxHeartbeats 2000000 in
theorem lower_any (s : ByteArray) (w : World) (hs : s.size ≤ 1048576) :
    Calls Tryd.prog 161 #[.string s] w fun e w' => e = .returned (.string (lowS s)) ∧ Below w.heap.size w w' := by
  have hcv := Lib.run_convert_string_bytes (P := Tryd.prog) w 9 53 5 s Tryd.underlying9 Tryd.underlying53 Tryd.underlying5
  have hbr := BR.start (Below.refl w.heap.size w) s
  generalize grownCap w s.size 0 5 = cap at *
  generalize Lib.bytesWorld w 5 s = W5 at *
  have hbr0 := Lib.hid (hbr.ext (g := lowAt s 0) (fun j _ => by simp [lowAt]))
  have hlst := Lib.hid (fun i j (hi : i < s.size) => lowAt_step (s := s) (i := i) (j := j) hi)
  have hlat := Lib.hid (fun j => show lowAt s s.size j = if j < s.size then byt (lowS s) j else byt s j from rfl)
  have hbl := Lib.hid (byt_lt s)
  have hlc := Lib.hid (fun i => show lowAt s i i = byt s i by simp [lowAt])
  obtain ⟨N, hN⟩ : ∃ N, s.size = N := ⟨_, rfl⟩
  rw [hN] at hcv hbr0 hs hlst hlat
  have hls := Lib.hid (lowS_size s)
  rw [hN] at hls
  replace hN := Lib.hid hN
  clear hbr
  go_enter Tryd.func161, Tryd.ntmps161
  go_wp2
  go_loopw [10] (fun iv wr => ∃ i : Nat, i ≤ N ∧ iv = .int .i64 (i : Nat) ∧ BR w w.heap.size N (lowAt s i) wr) (fun iv _ => N - (intOf iv).toNat)
  case atStart => exact ⟨0, Nat.zero_le _, rfl, hbr0.out⟩
  case round =>
    clear hbr0
    obtain ⟨i, hi, rfl, hBR⟩ := hrel
    by_cases hlt : i < N
    · have hc := hBR.cell i hlt
      have hf := hBR.fz i hlt
      have hst := Lib.hid (fun j => hlst.out i j hlt)
      have hb8 := hbl.out i
      rw [hlc.out i] at hc
      generalize hb : byt s i = b at *
      replace hb := Lib.hid hb
      by_cases h65 : 65 ≤ b
      · by_cases h90 : b ≤ 90
        · have h1 : (65 : Int) ≤ (b : Int) := by omega
          have h2 : (b : Int) ≤ 90 := by omega
          have h3 := u8add h90
          have hnx := Lib.hid ((hBR.set (V := b + 32) hlt).ext (g := lowAt s (i + 1)) (fun j hj => by
            rw [hst.out j]
            by_cases e : j = i
            · rw [if_pos e, if_pos ⟨h65, h90⟩, if_pos e]
            · rw [if_neg e, if_neg e]))
          clear hBR
          go_wp2
          go_roundw
          case rel => exact ⟨i + 1, by omega, by go_num, hnx.out⟩
          case measure => simp [intOf]; omega
        · have h1 : (65 : Int) ≤ (b : Int) := by omega
          have h2 : ¬ (b : Int) ≤ 90 := by omega
          have hnx := Lib.hid (hBR.ext (g := lowAt s (i + 1)) (fun j hj => by
            rw [hst.out j]
            by_cases e : j = i
            · rw [if_pos e, if_neg (fun h => h90 h.2), e, hlc.out i, hb.out]
            · rw [if_neg e]))
          clear hBR
          go_wp2
          go_roundw
          case rel => exact ⟨i + 1, by omega, by go_num, hnx.out⟩
          case measure => simp [intOf]; omega
      · have h1 : ¬ (65 : Int) ≤ (b : Int) := by omega
        have hnx := Lib.hid (hBR.ext (g := lowAt s (i + 1)) (fun j hj => by
          rw [hst.out j]
          by_cases e : j = i
          · rw [if_pos e, if_neg (fun h => h65 h.1), e, hlc.out i, hb.out]
          · rw [if_neg e]))
        clear hBR
        go_wp2
        go_roundw
        case rel => exact ⟨i + 1, by omega, by go_num, hnx.out⟩
        case measure => simp [intOf]; omega
    · obtain rfl : i = N := by omega
      have hcv2 := hBR.conv (cap := cap) (lowS s) hls.out (fun j hj => by rw [hlat.out j, if_pos hj])
      have hfin := Lib.hid hBR.bel
      clear hBR
      obtain ⟨LS, hLS⟩ : ∃ LS, LS = lowS s := ⟨_, rfl⟩
      rw [← hLS] at hcv2
      replace hLS := Lib.hid hLS
      go_wp2
      go_ret
      exact ⟨by rw [← hLS.out]; rfl, hfin.out⟩
end Go.Proofs.YtoeonplbgbgjmaaDoor
