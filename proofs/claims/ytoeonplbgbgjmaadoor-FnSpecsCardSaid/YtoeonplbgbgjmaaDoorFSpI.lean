/- FormatSpecs, impl. -/
import Derived.Test.YtoeonplbgbgjmaaDoorFSpM
import Derived.Test.YtoeonplbgbgjmaaDoorItoa
import Derived.Test.YtoeonplbgbgjmaaDoorSplW
import Derived.Test.YtoeonplbgbgjmaaDoorBin
namespace Go.Proofs.YtoeonplbgbgjmaaDoor
open Go.RowKit
set_option linter.unusedVariables false
set_option linter.unusedSimpArgs false

/-- A key spec's word, behind j flags. -/
def partW (k : KS) : Nat → ByteArray
  | 0 => strB (Lib.itoa k.1)
  | 1 => fl (strB (Lib.itoa k.1)) k.2.1 110
  | 2 => fl (fl (strB (Lib.itoa k.1)) k.2.1 110) k.2.2.1 100
  | _ => wordB k
theorem partW_size {k : KS} (h : 0 ≤ k.1 ∧ k.1 ≤ 5) : ∀ j, (partW k j).size ≤ 10 := by
  intro j
  have h1 := itoa_len7 (n := k.1) (by rw [decB_iff]; omega)
  have h2 := fl_size (strB (Lib.itoa k.1)) k.2.1 110
  have h3 := fl_size (fl (strB (Lib.itoa k.1)) k.2.1 110) k.2.2.1 100
  rw [strB_size] at h2
  match j with
  | 0 => rw [partW, strB_size]; omega
  | 1 => rw [partW]; omega
  | 2 => rw [partW]; omega
  | j + 3 => exact word_size h
theorem words_take {xs : List KS} {i : Nat} (h : i < xs.length) : (wordsB xs).take (i + 1) = (wordsB xs).take i ++ [wordB (gk xs i)] := by
  rw [List.take_succ_eq_append_getElem (by simpa [wordsB] using h), gk_eq h]
  simp [wordsB]

theorem szSTo_bd {x : List ByteArray} {m : Nat} (h : ∀ i, i < x.length → (gs x i).size ≤ m) : ∀ k, k ≤ x.length → szSTo x k ≤ k * m := by
  intro k
  induction k with
  | zero => intro _; simp [szSTo]
  | succ k ih =>
    intro hk
    have h1 := ih (by omega)
    have h2 := h k (by omega)
    rw [szSTo, Nat.add_mul]; omega
set_option maxRecDepth 10000 in
set_option maxHeartbeats 8000000 in
theorem impl_FormatSpecs_any (v : Value) (xs : List KS) (w : World) (hv : RdK w v xs) (hT : Tab w) :
    Calls Tryd.prog 14 #[v] w fun e w' => e = .returned (.tuple #[.string (fsR xs).1, .bool (fsR xs).2]) ∧ Below w.heap.size w w' := by
  have hv0 := Lib.hid hv
  replace hT := Lib.hid hT
  cases h : okK xs
  · have e0 : fsR xs = (ByteArray.empty, false) := by simp [fsR, h]
    rw [e0]
    replace h := Lib.hid h
    clear e0 hv
    go_enter Tryd.func14, Tryd.ntmps14
    go_wp2_with fail
    refine (areSpecs_any _ _ _ hv0.out).mono ?_
    rintro e w1 ⟨rfl, hb⟩
    rw [h.out]
    replace hb := Lib.hid hb
    go_wp2
    go_ret2
    exact ⟨rfl, hb.out⟩
  · have e0 : fsR xs = (tK xs xs.length, true) := by simp [fsR, h]
    rw [e0]
    clear e0
    have hfl := Lib.hid (fun i (hi : i < xs.length) => okK_fld h hi)
    have htk := Lib.hid (fun i (hi : i < xs.length) => words_take hi)
    have hps := Lib.hid (fun i (hi : i < xs.length) j => partW_size (okK_fld h hi) j)
    have hln := okK_len h
    have hwl : Hid ((wordsB xs).length = xs.length) := Lib.hid (by simp [wordsB])
    have hws : Hid (∀ i, i < (wordsB xs).length → (gs (wordsB xs) i).size ≤ 10) := Lib.hid (fun i hi => by
      have hi2 : i < xs.length := by simpa [wordsB] using hi
      rw [gs_words hi2]
      exact word_size (okK_fld h hi2))
    obtain ⟨ao, c, rfl, q1, q2, _⟩ := hv
    unfold maxLen at q2
    generalize hn : xs.length = n at *
    replace hn := Lib.hid hn
    replace h := Lib.hid h
    go_enter Tryd.func14, Tryd.ntmps14
    go_wp2_with fail
    refine (areSpecs_any _ xs _ hv0.out).mono ?_
    rintro e w1 ⟨rfl, hb⟩
    rw [h.out]
    have hB1 := Lib.hid (hb.alloc hb.size (.cells #[] 9))
    have ho1 := Lib.hid ((Own.empty w1 9).base hb.size)
    clear hb
    go_wp2
    go_loopw [4, 16] (fun o iv wr => ∃ i : Nat, i ≤ n ∧ iv = .int .i64 (i : Nat) ∧ Own wr 9 w.heap.size o (strs ((wordsB xs).take i)) ∧ Below w.heap.size w wr) (fun _ iv _ => n - (intOf iv).toNat)
    case atStart => exact ⟨0, Nat.zero_le _, rfl, ho1.out, hB1.out⟩
    case round =>
      clear ho1 hB1
      obtain ⟨i, hi, rfl, hO, hB⟩ := hrel
      by_cases hlt : i < n
      · have hvr := hv0.out.below hB
        obtain ⟨ao2, c2, e2, _, _, HA⟩ := hvr
        rw [hn.out] at e2 HA
        simp at e2
        obtain ⟨rfl, rfl⟩ := e2
        obtain ⟨b, off, rfl, hR⟩ := HA (by omega)
        obtain ⟨hc1, hc2, hc3, hc4⟩ := hR i hlt
        clear hR HA
        obtain ⟨hf0, hf5⟩ := hfl.out i hlt
        have hpx := hps.out i hlt
        have htx := htk.out i hlt
        generalize hx : gk xs i = x at *
        obtain ⟨x1, x2, x3, x4⟩ := x
        dsimp only at hc1 hc2 hc3 hc4 hf0 hf5
        have hpx := Lib.hid hpx
        replace htx := Lib.hid htx
        replace hx := Lib.hid hx
        replace hO := Lib.hid hO
        replace hB := Lib.hid hB
        have hBk : Hid (Below wr.heap.size wr (wr.alloc (.cells #[.int .i64 x1, .bool x2, .bool x3, .bool x4] 71))) := Lib.hid ((Below.refl _ _).alloc (Nat.le_refl _) _)
        go_wp2_with fail
        refine (itoa_any x1 _ (by omega) (hT.out.next (Below.next hB.out hBk.out))).mono ?_
        rintro e w2 ⟨rfl, hb2⟩
        have hk1 : w2.cell? ⟨wr.heap.size, 0, none⟩ = some (.int .i64 x1) := (hb2.cell (p := ⟨wr.heap.size, 0, none⟩) (by simp)).trans (by simp [go_sem])
        have hk2 : w2.cell? ⟨wr.heap.size, 1, none⟩ = some (.bool x2) := (hb2.cell (p := ⟨wr.heap.size, 1, none⟩) (by simp)).trans (by simp [go_sem])
        have hk3 : w2.cell? ⟨wr.heap.size, 2, none⟩ = some (.bool x3) := (hb2.cell (p := ⟨wr.heap.size, 2, none⟩) (by simp)).trans (by simp [go_sem])
        have hk4 : w2.cell? ⟨wr.heap.size, 3, none⟩ = some (.bool x4) := (hb2.cell (p := ⟨wr.heap.size, 3, none⟩) (by simp)).trans (by simp [go_sem])
        have hB2 := Lib.hid (Below.next (Below.next hB.out hBk.out) hb2)
        have hO2 := Lib.hid (hO.out.below (Below.next hBk.out hb2))
        clear hb2 hc1 hc2 hc3 hc4
        have hB3 : Hid (Below w2.heap.size w2 (w2.alloc (.cells #[.string ⟨#[110]⟩, .bool x2, .string ⟨#[100]⟩, .bool x3, .string ⟨#[102]⟩, .bool x4] 83))) := Lib.hid ((Below.refl _ _).alloc (Nat.le_refl _) _)
        have hO3 := Lib.hid (hO2.out.below hB3.out)
        have hB4 := Lib.hid (Below.next hB2.out hB3.out)
        obtain ⟨w3, hw3⟩ : ∃ w3, w3 = w2.alloc (.cells #[.string ⟨#[110]⟩, .bool x2, .string ⟨#[100]⟩, .bool x3, .string ⟨#[102]⟩, .bool x4] 83) := ⟨_, rfl⟩
        have hz3 : w3.heap.size = w2.heap.size + 1 := by rw [hw3]; simp
        have hl0 : w3.cell? ⟨w2.heap.size, 0, none⟩ = some (.string ⟨#[110]⟩) := by rw [hw3]; simp [go_sem]
        have hl1 : w3.cell? ⟨w2.heap.size, 1, none⟩ = some (.bool x2) := by rw [hw3]; simp [go_sem]
        have hl2 : w3.cell? ⟨w2.heap.size, 2, none⟩ = some (.string ⟨#[100]⟩) := by rw [hw3]; simp [go_sem]
        have hl3 : w3.cell? ⟨w2.heap.size, 3, none⟩ = some (.bool x3) := by rw [hw3]; simp [go_sem]
        have hl4 : w3.cell? ⟨w2.heap.size, 4, none⟩ = some (.string ⟨#[102]⟩) := by rw [hw3]; simp [go_sem]
        have hl5 : w3.cell? ⟨w2.heap.size, 5, none⟩ = some (.bool x4) := by rw [hw3]; simp [go_sem]
        have hLc : Hid (∀ wq, Below w3.heap.size w3 wq → wq.cell? ⟨w2.heap.size, 0, none⟩ = some (.string ⟨#[110]⟩) ∧ wq.cell? ⟨w2.heap.size, 1, none⟩ = some (.bool x2) ∧ wq.cell? ⟨w2.heap.size, 2, none⟩ = some (.string ⟨#[100]⟩) ∧ wq.cell? ⟨w2.heap.size, 3, none⟩ = some (.bool x3) ∧ wq.cell? ⟨w2.heap.size, 4, none⟩ = some (.string ⟨#[102]⟩) ∧ wq.cell? ⟨w2.heap.size, 5, none⟩ = some (.bool x4)) := Lib.hid (fun wq hq =>
          ⟨(hq.cell (p := ⟨w2.heap.size, 0, none⟩) (by simp; omega)).trans hl0, (hq.cell (p := ⟨w2.heap.size, 1, none⟩) (by simp; omega)).trans hl1, (hq.cell (p := ⟨w2.heap.size, 2, none⟩) (by simp; omega)).trans hl2, (hq.cell (p := ⟨w2.heap.size, 3, none⟩) (by simp; omega)).trans hl3, (hq.cell (p := ⟨w2.heap.size, 4, none⟩) (by simp; omega)).trans hl4, (hq.cell (p := ⟨w2.heap.size, 5, none⟩) (by simp; omega)).trans hl5⟩)
        have hp0 : Hid (partW (x1, x2, x3, x4) 0 = strB (Lib.itoa x1)) := Lib.hid rfl
        have hp1 : Hid (partW (x1, x2, x3, x4) 1 = fl (partW (x1, x2, x3, x4) 0) x2 110) := Lib.hid rfl
        have hp2 : Hid (partW (x1, x2, x3, x4) 2 = fl (partW (x1, x2, x3, x4) 1) x3 100) := Lib.hid rfl
        have hp3 : Hid (partW (x1, x2, x3, x4) 3 = fl (partW (x1, x2, x3, x4) 2) x4 102) := Lib.hid rfl
        have hpw : Hid (partW (x1, x2, x3, x4) 3 = wordB (x1, x2, x3, x4)) := Lib.hid rfl
        rw [← hp0.out]
        rw [← hw3] at hO3 hB4
        generalize partW (x1, x2, x3, x4) = PW at *
        replace hw3 := Lib.hid hw3
        replace hz3 := Lib.hid hz3
        clear hl0 hl1 hl2 hl3 hl4 hl5 hB3
        go_wp2
        rw [← hw3.out]
        go_loopw [7, 34] (fun wd iv wq => ∃ j : Nat, j ≤ 3 ∧ iv = .int .i64 (j : Nat) ∧ wd = .string (PW j) ∧ Below w3.heap.size w3 wq) (fun _ iv _ => 3 - (intOf iv).toNat)
        case atStart => exact ⟨0, by omega, rfl, rfl, Below.refl _ _⟩
        case round =>
          obtain ⟨j, hj, rfl, rfl, hBj⟩ := hrel
          obtain ⟨hm0, hm1, hm2, hm3, hm4, hm5⟩ := hLc.out wr hBj
          have hPs := hpx.out j
          have hPa : Hid (∀ o, Below w3.heap.size w3 (wr.alloc o)) := Lib.hid (fun o => hBj.alloc hBj.size o)
          replace hBj := Lib.hid hBj
          match j, hj with
          | 0, _ =>
            clear hm2 hm3 hm4 hm5
            have e1 := hp1.out
            cases x2
            · go_wp2
              go_roundw
              case rel => exact ⟨1, by omega, rfl, by rw [e1]; rfl, hPa.out _⟩
              case measure => simp [intOf]
            · go_wp2
              go_roundw
              case rel => exact ⟨1, by omega, rfl, by rw [e1]; rfl, hPa.out _⟩
              case measure => simp [intOf]
          | 1, _ =>
            clear hm0 hm1 hm4 hm5
            have e1 := hp2.out
            cases x3
            · go_wp2
              go_roundw
              case rel => exact ⟨2, by omega, rfl, by rw [e1]; rfl, hPa.out _⟩
              case measure => simp [intOf]
            · go_wp2
              go_roundw
              case rel => exact ⟨2, by omega, rfl, by rw [e1]; rfl, hPa.out _⟩
              case measure => simp [intOf]
          | 2, _ =>
            clear hm0 hm1 hm2 hm3
            have e1 := hp3.out
            cases x4
            · go_wp2
              go_roundw
              case rel => exact ⟨3, by omega, rfl, by rw [e1]; rfl, hPa.out _⟩
              case measure => simp [intOf]
            · go_wp2
              go_roundw
              case rel => exact ⟨3, by omega, rfl, by rw [e1]; rfl, hPa.out _⟩
              case measure => simp [intOf]
          | 3, _ =>
            have hO5 := Lib.hid (hO3.out.below hBj.out)
            have hB5 := Lib.hid (Below.next hB4.out hBj.out)
            have hs5 := hB5.out.size
            have hl5 : (strs ((wordsB xs).take i)).length ≤ 1000000000 := by simp; omega
            clear hm0 hm1 hm2 hm3 hm4 hm5
            go_wp2_with (at_builtin; refine append_one_at eltStr rfl _ _ rfl w.heap.size _ _ rfl hO5.out rfl rfl hl5 hs5 ?_)
            intro v6 w6 ho6 hg6 _
            have hB6 := Lib.hid (Below.appended hB5.out hO5.out hg6 hs5)
            have ho7 : Hid (Own w6 9 w.heap.size v6 (strs ((wordsB xs).take (i + 1)))) := Lib.hid (by rw [htx.out, strs_snoc, ← hpw.out]; exact ho6)
            clear ho6 hg6
            go_wp2
            go_roundw
            case rel => exact ⟨i + 1, by omega, by go_num, ho7.out, hB6.out⟩
            case measure => simp [intOf]; omega
          | j + 4, h4 => omega
      · obtain rfl : i = n := by omega
        have hwl2 := hwl.out
        have hOw : Own wr 9 w.heap.size u4 (strs (wordsB xs)) := by rwa [List.take_of_length_le (by omega)] at hO
        obtain ⟨hl, hh⟩ := id hOw
        rcases hh with ⟨_, h2⟩ | ⟨g, cap, cur, hv9, hgB, _⟩
        · rw [strs_length, hwl2] at h2; omega
        · rw [strs_length, hwl2] at hv9
          have hrow := hOw
          rw [hv9] at hrow
          unfold Own at hrow
          rw [strs_length, hwl2] at hrow
          have hR := Row.of_owns hrow
          have hcap := hR.le
          rw [strs_length, hwl2] at hcap
          have hjn := Lib.hid (join_any g 0 i cap (wordsB xs) comma wr hwl2 (by omega) hcap (by omega) (by
            have := szSTo_bd hws.out i (by omega)
            omega) rfl (fun q hq => hR.cellStr (by omega)))
          have hjt : Hid (jK (wordsB xs) comma i = tK xs i) := Lib.hid rfl
          rw [hjt.out] at hjn
          subst hv9
          replace hB := Lib.hid hB
          clear hO hOw hrow hR hl hwl2
          go_wp2_with fail
          refine hjn.out.mono ?_
          rintro e w9 ⟨rfl, hb9⟩
          have hB9 := Lib.hid (Below.next hB.out hb9)
          clear hb9
          go_wp2
          go_ret2
          exact ⟨rfl, hB9.out⟩
theorem impl_FormatSpecs_law {v : Value} {x : List KS} {F : List Nat} {w : World} (r : RKeySpecS w v x F) (hT : Tab w) :
    Calls Tryd.prog 14 #[v] w fun e w' => e = .returned (.tuple #[.string (fsR x).1, .bool (fsR x).2]) ∧ Below w.heap.size w w' :=
  impl_FormatSpecs_any v x w r.rd hT
end Go.Proofs.YtoeonplbgbgjmaaDoor
