/- ParseInt: both sides. -/
import Derived.Test.YtoeonplbgbgjmaaDoorFInt
import Derived.Lib.AtoiErrMem
import Derived.LaidLaws
namespace Go.Proofs.YtoeonplbgbgjmaaDoor
open Go.RowKit
set_option linter.unusedVariables false
set_option linter.unusedSimpArgs false

/-! strconv.ErrSyntax holds an error. -/
def Syn (w : World) : Prop := ∃ tp p, w.var? Tryd.prog "strconv.ErrSyntax" = some #[.iface tp p]
theorem gSyn : ∃ g, Tryd.prog.globalNamed "strconv.ErrSyntax" = some g := by
  refine Option.isSome_iff_exists.1 ?_
  kernel_rfl
theorem Syn.next {w w' : World} (h : Syn w) (hb : Below w.heap.size w w') : Syn w' := by
  obtain ⟨g, hg⟩ := gSyn
  obtain ⟨tp, p, h⟩ := h
  exact ⟨tp, p, Joins.var_stays hg h hb (Nat.le_refl _)⟩
/-- Both facts. -/
def TabS (w : World) : Prop := Tab w ∧ Syn w
theorem TabS.next {w w' : World} (h : TabS w) (hb : Below w.heap.size w w') : TabS w' := ⟨h.1.next hb, h.2.next hb⟩
def laidErr : List (String × DataW Unit) := [("math/bits.deBruijn32tab", Rows.laid_math_bits_deBruijn32tab), ("math/bits.deBruijn64tab", Rows.laid_math_bits_deBruijn64tab), ("internal/strconv.uint64pow10", Rows.laid_internal_strconv_uint64pow10), ("strconv.ErrRange", Rows.laid_strconv_ErrRange), ("strconv.ErrSyntax", Rows.laid_strconv_ErrSyntax)]
theorem door_err (os : Os) (args : Array Value) : laidMetH Tryd.prog laidErr ((World.doorLaid Tryd.prog 72 os).forCall (fun _ _ => 0) ⟨#[], args, []⟩).memory :=
  laidMetH_of_parts3 (fuel := 8) (laidMet_of_run' 8 (by kernel_rfl) (by kernel_rfl)) (by kernel_rfl) (by kernel_rfl)
theorem star_err : "*" ++ "errors.errorString" = "*errors.errorString" := by decide
theorem rowErr (u : TypeId) (h : Tryd.prog.typeName? 3 u = some "*errors.errorString") : u = 174 :=
  typeName_ptr_named (nm := "errors.errorString") (by rw [star_err]; kernel_rfl) (by kernel_rfl) (by decide) u (by rw [star_err]; exact h)
theorem syn_of_laid {W : World} (h : laidMet Tryd.prog laidErr W) : Syn W := by
  have h5 := h.tail.tail.tail.tail
  have hb : (Tryd.prog.globalNamed "strconv.ErrSyntax").bind (fun g => (Tryd.prog.globals[g]?).map (·.type)) = some 109 := by kernel_rfl
  rw [Option.bind_eq_some_iff] at hb
  obtain ⟨g, hg1, hg2⟩ := hb
  unfold Rows.laid_strconv_ErrSyntax at h5
  obtain ⟨a0, s0, hv0, -, -, -⟩ := laid_sentinel h5 hg1 hg2 Tryd.underlying109 rowErr Tryd.underlying174 Tryd.underlying176 rfl rfl Tryd.underlying9 (by kernel_rfl) (by kernel_rfl)
  exact ⟨_, _, hv0⟩
theorem tabs_of_laidH {W : World} (h : laidMetH Tryd.prog laidErr W) : TabS W := by
  rw [MakeChecks.laidMetH_plain _ _ _ (by kernel_rfl)] at h
  refine ⟨?_, syn_of_laid h⟩
  have h3 := h.tail.tail
  rw [pow_data] at h3
  have hb : (Tryd.prog.globalNamed "internal/strconv.uint64pow10").bind (fun g => (Tryd.prog.globals[g]?).map (·.type)) = some 167 := by kernel_rfl
  rw [Option.bind_eq_some_iff] at hb
  obtain ⟨g, hg1, hg2⟩ := hb
  exact Lib.tabIs_of_head hg1 hg2 Tryd.underlying167 Tryd.underlying97 (by kernel_rfl) (by kernel_rfl) h3

/-! strconv.Atoi at a short string. -/
theorem atoi_ok (s : ByteArray) (v : Int) (w : World) (hl : s.size ≤ 7) (h : Lib.atoi s.data.toList = some v) :
    Calls Tryd.prog 91 #[.string s] w fun e w' => e = .returned (.tuple #[.int .i64 v, .nilIface]) ∧ Below w.heap.size w w' := by
  have h2 : Lib.atoiAll s.data.toList = .ok v := by rw [Lib.atoiAll_short _ (by rw [size_toList]; omega), h]; rfl
  refine (Any.strconv_Atoi_ok lays172 s (by omega) v h2 w).mono ?_
  rintro e w' ⟨he, hw⟩
  refine ⟨he, ?_⟩
  rcases hw with rfl | ⟨t, rfl⟩
  · exact Below.refl _ _
  · exact Lib.bytesWorld_below _ _ _
theorem atoi_bad (s : ByteArray) (w : World) (hl : s.size ≤ 7) (h : Lib.atoi s.data.toList = none) (hs : Syn w) :
    Calls Tryd.prog 91 #[.string s] w fun e w' => (∃ t a, e = .returned (.tuple #[.int .i64 0, .iface t (.pointer (some a))])) ∧ Below w.heap.size w w' := by
  have h2 : Lib.atoiAll s.data.toList = Lib.NumEnd.ofOption (none : Option Int) := by rw [Lib.atoiAll_short _ (by rw [size_toList]; omega), h]
  obtain ⟨tp, p, hv⟩ := hs
  refine (Any.strconv_Atoi_syntax_var lays172 s (by omega) h2 tp p w hv).mono ?_
  rintro e w' ⟨N, he, _, _, hb⟩
  exact ⟨⟨_, _, he⟩, hb⟩
theorem atoi_bd {s : ByteArray} {v : Int} (hl : s.size ≤ 7) (h : Lib.atoi s.data.toList = some v) : -9223372036854775808 ≤ v ∧ v ≤ 9223372036854775807 := by
  have h2 : Lib.atoiAll s.data.toList = .ok v := by rw [Lib.atoiAll_short _ (by rw [size_toList]; omega), h]; rfl
  exact Lib.atoiAll_bounds h2
theorem piR_big {s : ByteArray} (h : ¬ s.size ≤ 7) : piR s = (0, false) := by
  unfold piR
  split
  · rename_i v hv
    split
    · rename_i h2
      have := itoa_len7 h2.1
      rw [h2.2, size_toList] at this
      omega
    · rfl
  · rfl

set_option maxHeartbeats 1000000 in
theorem impl_ParseInt_law {s : ByteArray} {w : World} (hs : s.size ≤ 1048576) (hT : TabS w) :
    Calls Tryd.prog 45 #[.string s] w fun e w' => e = .returned (.tuple #[.int .i64 (piR s).1, .bool (piR s).2]) ∧ Below w.heap.size w w' := by
  by_cases h7 : s.size ≤ 7
  · have h7i : decide (7 < (s.size : Int)) = false := by simp; omega
    cases ha : Lib.atoi s.data.toList with
    | none =>
      have e0 : piR s = (0, false) := by simp [piR, ha]
      rw [e0]
      have hc := Lib.hid (atoi_bad s w h7 ha hT.2)
      replace hT := Lib.hid hT
      go_enter Tryd.func45, Tryd.ntmps45
      go_wp2_with fail
      refine hc.out.mono ?_
      rintro e w1 ⟨⟨t, a, rfl⟩, hb⟩
      have hT1 := hT.out.1.next hb
      replace hb := Lib.hid hb
      have hf := Lib.hid (impl_FormatInt_law (n := 0) (w := w1) (by omega) hT1)
      clear hT1
      go_wp2_with fail
      refine hf.out.mono ?_
      rintro e w2 ⟨rfl, hb2⟩
      have hb3 := Lib.hid (Below.next hb.out hb2)
      clear hb2
      go_wp2
      go_ret2
      exact ⟨rfl, hb3.out⟩
    | some v =>
      have hc := Lib.hid (atoi_ok s v w h7 ha)
      have hbd := atoi_bd h7 ha
      have hpi : piR s = if decB v = true ∧ Lib.itoa v = s.data.toList then (v, true) else (0, false) := by simp [piR, ha]
      have hfi := Lib.hid (fun w1 (h : Tab w1) => impl_FormatInt_law (n := v) (w := w1) hbd h)
      cases hd : decB v
      · have e0 : piR s = (0, false) := by rw [hpi, hd]; simp
        have ef : fiR v = (ByteArray.empty, false) := by simp [fiR, hd]
        rw [e0]
        rw [ef] at hfi
        replace hT := Lib.hid hT
        clear hpi e0 ef
        go_enter Tryd.func45, Tryd.ntmps45
        go_wp2_with fail
        refine hc.out.mono ?_
        rintro e w1 ⟨rfl, hb⟩
        have hf := Lib.hid (hfi.out w1 (hT.out.1.next hb))
        replace hb := Lib.hid hb
        go_wp2_with fail
        refine hf.out.mono ?_
        rintro e w2 ⟨rfl, hb2⟩
        have hb3 := Lib.hid (Below.next hb.out hb2)
        clear hb2
        go_wp2
        go_ret2
        exact ⟨rfl, hb3.out⟩
      · have ef : fiR v = (strB (Lib.itoa v), true) := by simp [fiR, hd]
        rw [ef] at hfi
        by_cases he : Lib.itoa v = s.data.toList
        · have e0 : piR s = (v, true) := by rw [hpi, hd, if_pos ⟨rfl, he⟩]
          rw [e0]
          rw [he, strB_toList] at hfi
          replace hT := Lib.hid hT
          clear hpi e0 ef
          replace he := Lib.hid he
          go_enter Tryd.func45, Tryd.ntmps45
          go_wp2_with fail
          refine hc.out.mono ?_
          rintro e w1 ⟨rfl, hb⟩
          have hf := Lib.hid (hfi.out w1 (hT.out.1.next hb))
          replace hb := Lib.hid hb
          go_wp2_with fail
          refine hf.out.mono ?_
          rintro e w2 ⟨rfl, hb2⟩
          have hb3 := Lib.hid (Below.next hb.out hb2)
          clear hb2
          go_wp2
          go_ret2
          exact ⟨rfl, hb3.out⟩
        · have e0 : piR s = (0, false) := by rw [hpi, if_neg (fun h => he h.2)]
          rw [e0]
          obtain ⟨T, hT0⟩ : ∃ T, strB (Lib.itoa v) = T := ⟨_, rfl⟩
          have hne : ¬ T = s := fun h => he (strB_inj.1 (hT0.trans h))
          rw [hT0] at hfi
          have hnb : (T.toList == s.toList) = false := ne_toList hne
          replace hT := Lib.hid hT
          clear hpi e0 ef
          replace he := Lib.hid he
          replace hT0 := Lib.hid hT0
          go_enter Tryd.func45, Tryd.ntmps45
          go_wp2_with fail
          refine hc.out.mono ?_
          rintro e w1 ⟨rfl, hb⟩
          have hf := Lib.hid (hfi.out w1 (hT.out.1.next hb))
          replace hb := Lib.hid hb
          go_wp2_with fail
          refine hf.out.mono ?_
          rintro e w2 ⟨rfl, hb2⟩
          have hb3 := Lib.hid (Below.next hb.out hb2)
          clear hb2
          go_wp2
          go_ret2
          exact ⟨rfl, hb3.out⟩
  · rw [piR_big h7]
    have h7i : decide (7 < (s.size : Int)) = true := by simp; omega
    clear hT
    go_enter Tryd.func45, Tryd.ntmps45
    go_wp2
    go_ret2
    exact ⟨rfl, Below.refl _ _⟩
end Go.Proofs.YtoeonplbgbgjmaaDoor
