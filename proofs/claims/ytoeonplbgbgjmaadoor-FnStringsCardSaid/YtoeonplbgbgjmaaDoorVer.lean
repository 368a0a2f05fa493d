/- VerifyChecksum: both sides. -/
import Derived.Test.YtoeonplbgbgjmaaDoorSplW
import Derived.Test.YtoeonplbgbgjmaaDoorSeal
namespace Go.Proofs.YtoeonplbgbgjmaaDoor
open Go.RowKit
set_option linter.unusedVariables false
set_option linter.unusedSimpArgs false

/-- internal/bytealg.MaxLen holds some number. -/
def Mx (w : World) : Prop := ∃ m, w.cell? ⟨lays145_ren.g 1, 0, none⟩ = some (.int .i64 m)
theorem Mx.next {w w' : World} (h : Mx w) (hb : Below w.heap.size w w') : Mx w' := by
  obtain ⟨m, hm⟩ := h
  exact ⟨m, (hb.cell (p := ⟨lays145_ren.g 1, 0, none⟩) (block_lt_of_cell hm)).trans hm⟩
theorem mx_of_shape {w : World} (h : w.ShapedOpen Tryd.prog) : Mx w := lays145.s1_3 w h
def TabM (w : World) : Prop := Tab w ∧ Mx w
theorem TabM.next {w w' : World} (h : TabM w) (hb : Below w.heap.size w w') : TabM w' := ⟨h.1.next hb, h.2.next hb⟩

/-- What stands ahead of the first '#'. -/
def headB (s : ByteArray) : ByteArray := strB (s.data.toList.takeWhile (· != 35))
theorem headB_parts (s : ByteArray) : ∃ r, parts 35 s = headB s :: r := by
  obtain ⟨r, hr⟩ := spl_head 35 s.data.toList []
  exact ⟨r.map strB, by unfold parts headB; rw [hr]; rfl⟩
theorem headB_size (s : ByteArray) : (headB s).size ≤ s.size := by
  unfold headB
  rw [strB_size, ← size_toList s]
  exact (List.takeWhile_prefix _).length_le
theorem headB_has (s : ByteArray) : hasC (headB s) 35 = false := by
  refine hasC_false fun k hk e => ?_
  have h1 : (headB s).data.toList[k]'(by rw [size_toList]; exact hk) = 35 := e
  have h2 : (headB s).data.toList = s.data.toList.takeWhile (· != 35) := strB_data _
  have h3 : (35 : UInt8) ∈ s.data.toList.takeWhile (· != 35) := by rw [← h2, ← h1]; exact List.getElem_mem _
  have := tw_mem h3
  simp at this
theorem headB_cut (s : ByteArray) : (⟨(Lib.cut s.data.toList [35]).1.toArray⟩ : ByteArray) = headB s := by
  rw [cut_first]; rfl
/-- The result of VerifyChecksum. -/
def vcR (s : ByteArray) : ByteArray × Bool := if s.size ≤ 4000 ∧ (sealB (headB s)).data.toList = s.data.toList then (headB s, true) else (ByteArray.empty, false)
theorem vcR_yes {s : ByteArray} (h1 : s.size ≤ 4000) (h2 : sealB (headB s) = s) : vcR s = (headB s, true) := by
  unfold vcR; rw [if_pos ⟨h1, by rw [h2]⟩]
theorem vcR_no {s : ByteArray} (h : ¬ (s.size ≤ 4000 ∧ sealB (headB s) = s)) : vcR s = (ByteArray.empty, false) := by
  unfold vcR
  rw [if_neg]
  rintro ⟨h1, h2⟩
  exact h ⟨h1, by rw [← strB_toList (sealB (headB s)), h2, strB_toList]⟩
theorem seal_size (t : ByteArray) : t.size < (sealB t).size := by
  unfold sealB
  rw [ByteArray.size_append, ByteArray.size_append, size_hash]; omega
/-- AppendChecksum at what stands ahead of the first '#'. -/
theorem acR_head (s : ByteArray) : acR (headB s) = if (sealB (headB s)).size ≤ 4000 then (sealB (headB s), true) else (ByteArray.empty, false) := by
  have h1 := seal_size (headB s)
  unfold acR
  rw [headB_has]
  by_cases h : (sealB (headB s)).size ≤ 4000
  · rw [if_pos (by omega)]; simp
  · rw [if_neg h]
    split <;> simp


theorem cut_any (s : ByteArray) (w : World) (hs : s.size ≤ 1048576) (hm : Mx w) :
    Calls Tryd.prog 95 #[.string s, .string ⟨#[35]⟩] w fun e w' => (∃ x b, e = .returned (.tuple #[.string (headB s), .string x, .bool b])) ∧ ∃ n, w' = w.drewN n := by
  obtain ⟨m, hm⟩ := hm
  refine (Any.strings_Cut { lays145 with } s ⟨#[35]⟩ m w (by omega) hm).mono ?_
  rintro e w' ⟨he, hw⟩
  have h4 : ((⟨#[35]⟩ : ByteArray).data.toList) = [35] := rfl
  rw [h4, headB_cut] at he
  exact ⟨⟨_, _, he⟩, hw⟩

set_option maxHeartbeats 1000000 in
theorem impl_VerifyChecksum_law {s : ByteArray} {w : World} (hs : s.size ≤ 1048576) (hT : TabM w) :
    Calls Tryd.prog 50 #[.string s] w fun e w' => e = .returned (.tuple #[.string (vcR s).1, .bool (vcR s).2]) ∧ Below w.heap.size w w' := by
  have hc := Lib.hid (cut_any s w hs hT.2)
  have hts := headB_size s
  have hap := Lib.hid (fun n => impl_AppendChecksum_law (s := headB s) (w := w.drewN n) (by omega) (hT.1.next (Below.drewN (Below.refl _ _) n)))
  have hac := acR_head s
  by_cases h1 : (sealB (headB s)).size ≤ 4000
  · rw [if_pos h1] at hac
    rw [hac] at hap
    have hyes := fun h2 h => vcR_yes (s := s) h2 h
    have hno := fun (h : ¬ sealB (headB s) = s) => vcR_no (s := s) (fun k => h k.2)
    generalize headB s = t at *
    generalize sealB t = S at *
    clear hac
    by_cases heq : S = s
    · have e0 := Lib.hid (hyes (by rw [← heq]; exact h1) heq)
      clear hyes hno hT
      subst heq
      go_enter Tryd.func50, Tryd.ntmps50
      go_wp2_with fail
      refine hc.out.mono ?_
      rintro e w' ⟨⟨x, b, rfl⟩, n, rfl⟩
      go_wp2_with fail
      refine (hap.out n).mono ?_
      rintro e w2 ⟨rfl, hb2⟩
      have hb3 := Lib.hid (Below.next (Below.drewN (Below.refl w.heap.size w) n) hb2)
      clear hb2
      go_wp2
      go_ret2
      exact ⟨by rw [e0.out]; try rfl, hb3.out⟩
    · have e0 := Lib.hid (hno heq)
      have hnb := ne_toList heq
      clear hyes hno hT
      replace heq := Lib.hid heq
      go_enter Tryd.func50, Tryd.ntmps50
      go_wp2_with fail
      refine hc.out.mono ?_
      rintro e w' ⟨⟨x, b, rfl⟩, n, rfl⟩
      go_wp2_with fail
      refine (hap.out n).mono ?_
      rintro e w2 ⟨rfl, hb2⟩
      have hb3 := Lib.hid (Below.next (Below.drewN (Below.refl w.heap.size w) n) hb2)
      clear hb2
      go_wp2
      go_ret2
      exact ⟨by rw [e0.out]; try rfl, hb3.out⟩
  · rw [if_neg h1] at hac
    rw [hac] at hap
    have e0 := Lib.hid (vcR_no (s := s) (fun k => h1 (by rw [k.2]; exact k.1)))
    generalize headB s = t at *
    clear hac hT
    go_enter Tryd.func50, Tryd.ntmps50
    go_wp2_with fail
    refine hc.out.mono ?_
    rintro e w' ⟨⟨x, b, rfl⟩, n, rfl⟩
    go_wp2_with fail
    refine (hap.out n).mono ?_
    rintro e w2 ⟨rfl, hb2⟩
    have hb3 := Lib.hid (Below.next (Below.drewN (Below.refl w.heap.size w) n) hb2)
    clear hb2
    go_wp2
    go_ret2
    exact ⟨by rw [e0.out]; try rfl, hb3.out⟩
end Go.Proofs.YtoeonplbgbgjmaaDoor
