/- MergeSort: impl.mergeSort, spec.l5Sort. -/
import Derived.Test.YtagelajlpfmpfaaMerge
import Derived.Test.YtagelajlpfmpfaaValidR
namespace Go.Proofs.Ytagelajlpfmpfaa
open Go.RowKit
set_option linter.unusedVariables false
set_option linter.unusedSimpArgs false

def msF : Nat → List (Int × Int) → List (Int × Int) × Nat
  | 0, xs => (xs, 0)
  | n + 1, xs => if xs.length < 2 then (xs, 0) else
    ((mergeF (msF n (xs.take (xs.length / 2))).1 (msF n (xs.drop (xs.length / 2))).1).1,
      (msF n (xs.take (xs.length / 2))).2 + (msF n (xs.drop (xs.length / 2))).2 + (mergeF (msF n (xs.take (xs.length / 2))).1 (msF n (xs.drop (xs.length / 2))).1).2)
theorem msF_len : ∀ n xs, (msF n xs).1.length = xs.length ∧ (msF n xs).2 ≤ n * xs.length := by
  intro n
  induction n with
  | zero => intro xs; simp [msF]
  | succ n ih =>
    intro xs
    rw [msF]
    split
    · simp
    · have h1 := ih (xs.take (xs.length / 2))
      have h2 := ih (xs.drop (xs.length / 2))
      have h3 := mergeF_len _ (msF n (xs.take (xs.length / 2))).1 (msF n (xs.drop (xs.length / 2))).1 rfl
      rw [List.length_take] at h1
      rw [List.length_drop] at h2
      have e : min (xs.length / 2) xs.length = xs.length / 2 := by omega
      rw [e] at h1
      have h4 : n * (xs.length / 2) + n * (xs.length - xs.length / 2) = n * xs.length := by
        rw [← Nat.mul_add]; congr 1; omega
      have h5 : (n + 1) * xs.length = n * xs.length + xs.length := by rw [Nat.add_mul, Nat.one_mul]
      dsimp only
      omega
theorem RdP.take {w : World} {ao : Option Addr} {n c k : Nat} {xs : List (Int × Int)} (h : RdP w (.slice ao n c) xs) (hk : k ≤ n) : RdP w (.slice ao k c) (xs.take k) := by
  obtain ⟨ao', c', hv, h1, h2, hn, h3⟩ := h
  simp only [Value.slice.injEq] at hv
  obtain ⟨rfl, rfl, rfl⟩ := hv
  have hl : (xs.take k).length = k := by simp; omega
  refine ⟨_, _, by rw [hl], by omega, h2, fun e => by have := hn e; omega, fun hp => ?_⟩
  obtain ⟨b, off, e, hc⟩ := h3 (by omega)
  refine ⟨b, off, e, fun i hi => ?_⟩
  have hg : gr (xs.take k) i = gr xs i := by
    rw [gr_eq hi, gr_eq (by omega), List.getElem_take]
  rw [hg]
  exact hc i (by omega)
theorem RdP.drop {w : World} {b off n c k : Nat} {xs : List (Int × Int)} (h : RdP w (.slice (some ⟨b, off, none⟩) n c) xs) (hk : k ≤ n) : RdP w (.slice (some ⟨b, off + k * 2, none⟩) (n - k) (c - k)) (xs.drop k) := by
  obtain ⟨ao', c', hv, h1, h2, hn, h3⟩ := h
  simp only [Value.slice.injEq] at hv
  obtain ⟨rfl, rfl, rfl⟩ := hv
  have hl : (xs.drop k).length = xs.length - k := by simp
  refine ⟨_, _, by rw [hl], by omega, by omega, by simp, fun hp => ?_⟩
  obtain ⟨b', off', e, hc⟩ := h3 (by omega)
  simp only [Option.some.injEq, Addr.mk.injEq, and_true] at e
  obtain ⟨rfl, rfl⟩ := e
  refine ⟨b, off + k * 2, rfl, fun i hi => ?_⟩
  have hi' : k + i < xs.length := by omega
  have hg : gr (xs.drop k) i = gr xs (k + i) := by
    rw [gr_eq hi, gr_eq hi', List.getElem_drop]
  rw [hg, show off + k * 2 + i * 2 = off + (k + i) * 2 by omega]
  exact hc (k + i) hi'
/-- The result of MergeSort. -/
def msR (x : List (Int × Int)) : List (Int × Int) × Nat × Bool := if vrecs x then ((msF (x.length + 1) x).1, (msF (x.length + 1) x).2, true) else ([], 0, false)
theorem msR_sz (x : List (Int × Int)) : szRecordS (msR x).1 ≤ 100000000000 := by
  unfold msR
  split
  · rename_i h
    have h1 := (vrecs_iff.1 h).1
    have h2 := (msF_len (x.length + 1) x).1
    unfold szRecordS
    dsimp only
    omega
  · simp [szRecordS]

set_option maxHeartbeats 400000 in
theorem copyRec_any (v : Value) (xs : List (Int × Int)) (w : World) (hv : RdP w v xs) (hl : xs.length ≤ 1000000000) :
    Calls Try.prog 96 #[v] w fun e w' => ∃ r, e = .returned r ∧ OwnQ 77 w' w.heap.size r xs ∧ Below w.heap.size w w' := by
  have hr := Lib.hid (hv.below (w' := w.alloc (.cells #[] 77)) ((Below.refl _ _).alloc (Nat.le_refl _) _))
  have ho := Lib.hid (OwnQ.empty 77 w)
  clear hv
  go_enter Try.func96, Try.ntmps96
  go_wp2_with (at_builtin; refine append_recs eltRec rfl _ _ rfl w.heap.size _ _ rfl ho.out _ _ rfl hr.out (by simp; omega) (by simp) ?_)
  intro v' w1 ho1 hg
  have hb := Lib.hid (Below.appendedQ ((Below.refl w.heap.size w).alloc (Nat.le_refl _) (.cells #[] 77)) ho.out hg (by simp))
  replace ho1 := Lib.hid ho1
  clear hg
  go_wp2
  go_ret
  exact ⟨_, rfl, by have := ho1.out; simpa using this, hb.out⟩

set_option maxHeartbeats 1000000 in
theorem impl_mergeSort_base (v : Value) (xs : List (Int × Int)) (w : World) (hv : RdP w v xs) (h2 : xs.length < 2) :
    Calls Try.prog 87 #[v] w fun e w' => ∃ o, e = .returned (.tuple #[o, .int .i64 0]) ∧ OwnQ 77 w' w.heap.size o xs ∧ Below w.heap.size w w' := by
  obtain ⟨ao, c, rfl, _, _⟩ := hv.shape
  replace hv := Lib.hid hv
  generalize hn : xs.length = n at *
  have hz : (n : Int) < 2 := by omega
  replace hn := Lib.hid hn
  go_enter Try.func87, Try.ntmps87
  go_wp2_with fail
  refine (copyRec_any _ _ _ hv.out (by rw [hn.out]; omega)).mono ?_
  rintro e w1 ⟨o, rfl, ho, hb⟩
  replace ho := Lib.hid ho
  replace hb := Lib.hid hb
  go_wp2
  go_ret2
  exact ⟨_, rfl, ho.out, hb.out⟩
set_option maxHeartbeats 1000000 in
theorem impl_mergeSort_any : ∀ (n : Nat) (v : Value) (xs : List (Int × Int)) (w : World), RdP w v xs → xs.length ≤ n + 1 → xs.length ≤ 1000 → n ≤ 1000 →
    Calls Try.prog 87 #[v] w fun e w' => ∃ o, e = .returned (.tuple #[o, .int .i64 ((msF (n + 1) xs).2 : Nat)]) ∧ OwnQ 77 w' w.heap.size o (msF (n + 1) xs).1 ∧ Below w.heap.size w w' := by
  intro n
  induction n with
  | zero =>
    intro v xs w hv hn _ _
    have he : msF (0 + 1) xs = (xs, 0) := by rw [msF, if_pos (by omega)]
    rw [he]
    exact impl_mergeSort_base v xs w hv (by omega)
  | succ n ih =>
    intro v xs w hv hn hl hnn
    by_cases h2 : xs.length < 2
    · have he : msF (n + 1 + 1) xs = (xs, 0) := by rw [msF, if_pos h2]
      rw [he]
      exact impl_mergeSort_base v xs w hv h2
    · have he : msF (n + 1 + 1) xs = ((mergeF (msF (n + 1) (xs.take (xs.length / 2))).1 (msF (n + 1) (xs.drop (xs.length / 2))).1).1,
        (msF (n + 1) (xs.take (xs.length / 2))).2 + (msF (n + 1) (xs.drop (xs.length / 2))).2 + (mergeF (msF (n + 1) (xs.take (xs.length / 2))).1 (msF (n + 1) (xs.drop (xs.length / 2))).1).2) := by rw [msF, if_neg h2]
      rw [he]
      clear he
      have hv0 := hv
      obtain ⟨ao, c, rfl, hc, hm, _, h3⟩ := hv0
      obtain ⟨b, off, rfl, _⟩ := h3 (by omega)
      unfold maxLen at hm
      have hlt : xs.length / 2 < xs.length := by omega
      have h1h : 1 ≤ xs.length / 2 := by omega
      have iha := fun w' (hb : Below w.heap.size w w') => ih _ _ w' ((hv.take (k := xs.length / 2) (by omega)).below hb) (by simp; omega) (by simp; omega) (by omega)
      have ihb := fun w' (hb : Below w.heap.size w w') => ih _ _ w' ((hv.drop (k := xs.length / 2) (by omega)).below hb) (by simp; omega) (by simp; omega) (by omega)
      have la := msF_len (n + 1) (xs.take (xs.length / 2))
      have lb := msF_len (n + 1) (xs.drop (xs.length / 2))
      rw [List.length_take] at la
      rw [List.length_drop] at lb
      have lm := mergeF_len _ (msF (n + 1) (xs.take (xs.length / 2))).1 (msF (n + 1) (xs.drop (xs.length / 2))).1 rfl
      have hdv : ((xs.length : Nat) : Int).tdiv 2 = ((xs.length / 2 : Nat) : Int) := by
        rw [Int.tdiv_eq_ediv_of_nonneg (by omega)]; exact (Int.natCast_ediv xs.length 2).symm
      have hdv2 : ((xs.length : Nat) : Int) / 2 = ((xs.length / 2 : Nat) : Int) := (Int.natCast_ediv xs.length 2).symm
      generalize hA : msF (n + 1) (xs.take (xs.length / 2)) = A at *
      generalize hB : msF (n + 1) (xs.drop (xs.length / 2)) = Bq at *
      generalize hM : mergeF A.1 Bq.1 = M at *
      have l1 : A.1.length ≤ 1000 := by omega
      have l2 : Bq.1.length ≤ 1000 := by omega
      have l3 : A.2 ≤ 1001 * 1000 := Nat.le_trans la.2 (Nat.mul_le_mul (by omega) (by omega))
      have l4 : Bq.2 ≤ 1001 * 1000 := Nat.le_trans lb.2 (Nat.mul_le_mul (by omega) (by omega))
      have l5 : M.2 ≤ 2000 := by omega
      generalize hln : xs.length = m at *
      generalize hh : m / 2 = h at *
      have hM' := Lib.hid hM
      obtain ⟨Al, Ac⟩ := A
      obtain ⟨Bl, Bc⟩ := Bq
      obtain ⟨Ml, Mc⟩ := M
      dsimp only at l1 l2 l3 l4 l5 hM' ⊢
      clear la lb lm hA hB hM ih
      replace iha := Lib.hid iha
      replace ihb := Lib.hid ihb
      replace hv := Lib.hid hv
      replace hln := Lib.hid hln
      replace hh := Lib.hid hh
      replace h3 := True.intro
      have hz : ¬ (m : Int) < 2 := by omega
      have s1 : (h : Int) ≤ (m : Int) := by omega
      have s2 : (h : Int) ≤ (c : Int) := by omega
      have s3 : h ≤ c := by omega
      have s4 : ¬ c = h := by omega
      have s5 : (m : Int) ≤ (c : Int) := by omega
      go_enter Try.func87, Try.ntmps87
      go_wp2_with fail
      refine (iha.out _ (Below.refl _ _)).mono ?_
      rintro e w1 ⟨oa, rfl, hoa, hba⟩
      have ra := Lib.hid ((hoa.sl (by omega)).rdP)
      replace hoa := Lib.hid hoa
      replace hba := Lib.hid hba
      go_wp2_with fail
      refine (ihb.out _ hba.out).mono ?_
      rintro e w2 ⟨ob, rfl, hob, hbb⟩
      have rb := Lib.hid ((hob.sl (by omega)).rdP)
      have ra2 := Lib.hid (ra.out.below hbb)
      have hb2 := Lib.hid (Below.next hba.out hbb)
      clear hob hbb ra
      go_wp2_with fail
      refine (impl_merge_any _ _ _ _ _ ra2.out rb.out (by omega)).mono ?_
      rintro e w3 ⟨oc, rfl, hoc, hbc⟩
      rw [hM'.out] at hoc ⊢
      have ho := Lib.hid (hoc.base (B' := w.heap.size) hb2.out.size)
      have hb3 := Lib.hid (Below.next hb2.out hbc)
      clear hoc hbc
      go_wp2
      go_ret2
      exact ⟨_, rfl, ho.out, hb3.out⟩

set_option maxHeartbeats 1000000 in
theorem impl_MergeSort_law {v : Value} {x : List (Int × Int)} {F : List Nat} {w : World} (r : RRecordS w v x F) :
    Calls Try.prog 43 #[v] w fun e w' => ∃ r F, e = .returned (.tuple #[r, .int .i64 ((msR x).2.1 : Nat), .bool (msR x).2.2]) ∧ RRecordS w' r (msR x).1 F ∧ Fr w.heap.size F ∧ Below w.heap.size w w' ∧ szRecordS (msR x).1 ≤ 100000000000 := by
  have hv := Lib.hid r.rd
  have hp := Lib.hid r.rdP
  clear r
  have hsz := Lib.hid (msR_sz x)
  cases h : vrecs x
  · have e0 : msR x = ([], 0, false) := by simp [msR, h]
    rw [e0] at hsz ⊢
    clear e0
    go_enter Try.func43, Try.ntmps43
    go_wp2_with fail
    refine (isValidRecords_any _ _ _ hv.out).mono ?_
    rintro e w1 ⟨rfl, hb⟩
    replace hb := Lib.hid hb
    go_wp2
    go_ret3
    exact ⟨_, [], rfl, ⟨SlQ.nil _ _, rfl⟩, by intro b hb; simp at hb, hb.out, hsz.out⟩
  · have hl := (vrecs_iff.1 h).1
    have e0 : msR x = ((msF (x.length + 1) x).1, (msF (x.length + 1) x).2, true) := by simp [msR, h]
    rw [e0] at hsz ⊢
    clear e0
    have hlen := Lib.hid (msF_len (x.length + 1) x).1
    go_enter Try.func43, Try.ntmps43
    go_wp2_with fail
    refine (isValidRecords_any _ _ _ hv.out).mono ?_
    rintro e w1 ⟨rfl, hb⟩
    replace hb := Lib.hid hb
    go_wp2_with fail
    refine (impl_mergeSort_any x.length _ _ _ (hp.out.below hb.out) (by omega) (by omega) (by omega)).mono ?_
    rintro e w2 ⟨o, rfl, ho, hb2⟩
    have hlw := ho.law (by rw [hlen.out]; omega)
    have h1 := Lib.hid hlw.1
    have h2 := Lib.hid (Fr.of hb.out hlw.2)
    have h3 := Lib.hid (Below.next hb.out hb2)
    clear ho hb2 hlw
    go_wp2
    go_ret3
    exact ⟨_, _, rfl, h1.out, h2.out, h3.out, hsz.out⟩

set_option maxHeartbeats 1000000 in
theorem l5Sort_base (v : Value) (xs : List (Int × Int)) (w : World) (hv : RdP w v xs) (h2 : xs.length < 2) :
    Calls Try.prog 86 #[v] w fun e w' => ∃ o, e = .returned (.tuple #[o, .int .i64 0]) ∧ OwnQ 77 w' w.heap.size o xs ∧ Below w.heap.size w w' := by
  obtain ⟨ao, c, rfl, _, _⟩ := hv.shape
  replace hv := Lib.hid hv
  generalize hn : xs.length = n at *
  have hz : (n : Int) < 2 := by omega
  replace hn := Lib.hid hn
  go_enter Try.func86, Try.ntmps86
  have hr := Lib.hid (hv.out.below (w' := w.alloc (.cells #[] 77)) ((Below.refl _ _).alloc (Nat.le_refl _) _))
  have ho := Lib.hid (OwnQ.empty 77 w)
  go_wp2_with (at_builtin; refine append_recs eltRec rfl _ _ rfl w.heap.size _ _ rfl ho.out _ _ rfl hr.out (by simp; have := hn.out; omega) (by simp) ?_)
  intro v' w1 ho1 hg
  have hb := Lib.hid (Below.appendedQ ((Below.refl w.heap.size w).alloc (Nat.le_refl _) (.cells #[] 77)) ho.out hg (by simp))
  replace ho1 := Lib.hid ho1
  clear hg
  go_wp2
  go_ret2
  exact ⟨_, rfl, by have := ho1.out; simpa using this, hb.out⟩
set_option maxHeartbeats 1000000 in
theorem l5Sort_any : ∀ (n : Nat) (v : Value) (xs : List (Int × Int)) (w : World), RdP w v xs → xs.length ≤ n + 1 → xs.length ≤ 1000 → n ≤ 1000 →
    Calls Try.prog 86 #[v] w fun e w' => ∃ o, e = .returned (.tuple #[o, .int .i64 ((msF (n + 1) xs).2 : Nat)]) ∧ OwnQ 77 w' w.heap.size o (msF (n + 1) xs).1 ∧ Below w.heap.size w w' := by
  intro n
  induction n with
  | zero =>
    intro v xs w hv hn _ _
    have he : msF (0 + 1) xs = (xs, 0) := by rw [msF, if_pos (by omega)]
    rw [he]
    exact l5Sort_base v xs w hv (by omega)
  | succ n ih =>
    intro v xs w hv hn hl hnn
    by_cases h2 : xs.length < 2
    · have he : msF (n + 1 + 1) xs = (xs, 0) := by rw [msF, if_pos h2]
      rw [he]
      exact l5Sort_base v xs w hv h2
    · have he : msF (n + 1 + 1) xs = ((mergeF (msF (n + 1) (xs.take (xs.length / 2))).1 (msF (n + 1) (xs.drop (xs.length / 2))).1).1,
        (msF (n + 1) (xs.take (xs.length / 2))).2 + (msF (n + 1) (xs.drop (xs.length / 2))).2 + (mergeF (msF (n + 1) (xs.take (xs.length / 2))).1 (msF (n + 1) (xs.drop (xs.length / 2))).1).2) := by rw [msF, if_neg h2]
      rw [he]
      clear he
      have hv0 := hv
      obtain ⟨ao, c, rfl, hc, hm, _, h3⟩ := hv0
      obtain ⟨b, off, rfl, _⟩ := h3 (by omega)
      unfold maxLen at hm
      have hlt : xs.length / 2 < xs.length := by omega
      have h1h : 1 ≤ xs.length / 2 := by omega
      have iha := fun w' (hb : Below w.heap.size w w') => ih _ _ w' ((hv.take (k := xs.length / 2) (by omega)).below hb) (by simp; omega) (by simp; omega) (by omega)
      have ihb := fun w' (hb : Below w.heap.size w w') => ih _ _ w' ((hv.drop (k := xs.length / 2) (by omega)).below hb) (by simp; omega) (by simp; omega) (by omega)
      have la := msF_len (n + 1) (xs.take (xs.length / 2))
      have lb := msF_len (n + 1) (xs.drop (xs.length / 2))
      rw [List.length_take] at la
      rw [List.length_drop] at lb
      have lm := mergeF_len _ (msF (n + 1) (xs.take (xs.length / 2))).1 (msF (n + 1) (xs.drop (xs.length / 2))).1 rfl
      have hdv : ((xs.length : Nat) : Int).tdiv 2 = ((xs.length / 2 : Nat) : Int) := by
        rw [Int.tdiv_eq_ediv_of_nonneg (by omega)]; exact (Int.natCast_ediv xs.length 2).symm
      have hdv2 : ((xs.length : Nat) : Int) / 2 = ((xs.length / 2 : Nat) : Int) := (Int.natCast_ediv xs.length 2).symm
      generalize hA : msF (n + 1) (xs.take (xs.length / 2)) = A at *
      generalize hB : msF (n + 1) (xs.drop (xs.length / 2)) = Bq at *
      generalize hM : mergeF A.1 Bq.1 = M at *
      have l1 : A.1.length ≤ 1000 := by omega
      have l2 : Bq.1.length ≤ 1000 := by omega
      have l3 : A.2 ≤ 1001 * 1000 := Nat.le_trans la.2 (Nat.mul_le_mul (by omega) (by omega))
      have l4 : Bq.2 ≤ 1001 * 1000 := Nat.le_trans lb.2 (Nat.mul_le_mul (by omega) (by omega))
      have l5 : M.2 ≤ 2000 := by omega
      generalize hln : xs.length = m at *
      generalize hh : m / 2 = h at *
      have hM' := Lib.hid hM
      obtain ⟨Al, Ac⟩ := A
      obtain ⟨Bl, Bc⟩ := Bq
      obtain ⟨Ml, Mc⟩ := M
      dsimp only at l1 l2 l3 l4 l5 hM' ⊢
      clear la lb lm hA hB hM ih
      replace iha := Lib.hid iha
      replace ihb := Lib.hid ihb
      replace hv := Lib.hid hv
      replace hln := Lib.hid hln
      replace hh := Lib.hid hh
      replace h3 := True.intro
      have hz : ¬ (m : Int) < 2 := by omega
      have s1 : (h : Int) ≤ (m : Int) := by omega
      have s2 : (h : Int) ≤ (c : Int) := by omega
      have s3 : h ≤ c := by omega
      have s4 : ¬ c = h := by omega
      have s5 : (m : Int) ≤ (c : Int) := by omega
      go_enter Try.func86, Try.ntmps86
      go_wp2_with fail
      refine (iha.out _ (Below.refl _ _)).mono ?_
      rintro e w1 ⟨oa, rfl, hoa, hba⟩
      have ra := Lib.hid ((hoa.sl (by omega)).rdP)
      replace hoa := Lib.hid hoa
      replace hba := Lib.hid hba
      go_wp2_with fail
      refine (ihb.out _ hba.out).mono ?_
      rintro e w2 ⟨ob, rfl, hob, hbb⟩
      have rb := Lib.hid ((hob.sl (by omega)).rdP)
      have ra2 := Lib.hid (ra.out.below hbb)
      have hb2 := Lib.hid (Below.next hba.out hbb)
      clear hob hbb ra
      go_wp2_with fail
      refine (l5Merge_any _ _ _ _ _ ra2.out rb.out (by omega)).mono ?_
      rintro e w3 ⟨oc, rfl, hoc, hbc⟩
      rw [hM'.out] at hoc ⊢
      have ho := Lib.hid (hoc.base (B' := w.heap.size) hb2.out.size)
      have hb3 := Lib.hid (Below.next hb2.out hbc)
      clear hoc hbc
      go_wp2
      go_ret2
      exact ⟨_, rfl, ho.out, hb3.out⟩

set_option maxHeartbeats 1000000 in
theorem spec_MergeSort_law {v : Value} {x : List (Int × Int)} {F : List Nat} {w : World} (r : RRecordS w v x F) :
    Calls Try.prog 42 #[v] w fun e w' => ∃ r F, e = .returned (.tuple #[r, .int .i64 ((msR x).2.1 : Nat), .bool (msR x).2.2]) ∧ RRecordS w' r (msR x).1 F ∧ Fr w.heap.size F ∧ Below w.heap.size w w' ∧ szRecordS (msR x).1 ≤ 100000000000 := by
  have hv := Lib.hid r.rd
  have hp := Lib.hid r.rdP
  clear r
  have hsz := Lib.hid (msR_sz x)
  cases h : vrecs x
  · have e0 : msR x = ([], 0, false) := by simp [msR, h]
    rw [e0] at hsz ⊢
    clear e0
    go_enter Try.func42, Try.ntmps42
    go_wp2_with fail
    refine (l2Records_any _ _ _ hv.out).mono ?_
    rintro e w1 ⟨rfl, rfl⟩
    skip
    go_wp2
    go_ret3
    exact ⟨_, [w.heap.size], rfl, ⟨(OwnQ.empty 77 w).sl (by simp), rfl⟩, by intro b hb; simp at hb; omega, (Below.refl _ _).alloc (Nat.le_refl _) _, hsz.out⟩
  · have hl := (vrecs_iff.1 h).1
    have e0 : msR x = ((msF (x.length + 1) x).1, (msF (x.length + 1) x).2, true) := by simp [msR, h]
    rw [e0] at hsz ⊢
    clear e0
    have hlen := Lib.hid (msF_len (x.length + 1) x).1
    go_enter Try.func42, Try.ntmps42
    go_wp2_with fail
    refine (l2Records_any _ _ _ hv.out).mono ?_
    rintro e w1 ⟨rfl, rfl⟩
    have hb := Lib.hid (Below.refl w.heap.size w)
    go_wp2_with fail
    refine (l5Sort_any x.length _ _ _ (hp.out.below hb.out) (by omega) (by omega) (by omega)).mono ?_
    rintro e w2 ⟨o, rfl, ho, hb2⟩
    have hlw := ho.law (by rw [hlen.out]; omega)
    have h1 := Lib.hid hlw.1
    have h2 := Lib.hid (Fr.of hb.out hlw.2)
    have h3 := Lib.hid (Below.next hb.out hb2)
    clear ho hb2 hlw
    go_wp2
    go_ret3
    exact ⟨_, _, rfl, h1.out, h2.out, h3.out, hsz.out⟩
end Go.Proofs.Ytagelajlpfmpfaa
