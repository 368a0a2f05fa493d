/- What FnStrings asks, without a program: a number's text reads as the number; a sealed string opens; a byte changed is told. -/
import Derived.Test.YtoeonplbgbgjmaaDoorVer
namespace Go.Proofs.YtoeonplbgbgjmaaDoor
open Go.RowKit
set_option linter.unusedVariables false
set_option linter.unusedSimpArgs false

theorem decFrom_snoc : ∀ (l : List UInt8) (acc m : Nat) (b : UInt8) (d : Nat), Lib.decFrom acc l = some m → Lib.digitVal b = some d → Lib.decFrom acc (l ++ [b]) = some (m * 10 + d) := by
  intro l
  induction l with
  | nil =>
    intro acc m b d h1 h2
    simp [Lib.decFrom] at h1
    subst h1
    simp [Lib.decFrom, h2]
  | cons c r ih =>
    intro acc m b d h1 h2
    rw [List.cons_append, Lib.decFrom]
    rw [Lib.decFrom] at h1
    cases hc : Lib.digitVal c with
    | none => rw [hc] at h1; cases h1
    | some e => rw [hc] at h1; exact ih _ _ _ _ h1 h2
theorem dec_back : ∀ (f u : Nat), u < f → Lib.decFrom 0 (Lib.decDigits u) = some u := by
  intro f
  induction f with
  | zero => intro u h; omega
  | succ f ih =>
    intro u hu
    rw [Lib.decDigits]
    by_cases h : u < 10
    · rw [dif_pos h]
      unfold Lib.decFrom
      rw [digit_byte u h]
      simp [Lib.decFrom]
    · rw [dif_neg h, decFrom_snoc _ _ _ _ _ (ih (u / 10) (by omega)) (digit_byte (u % 10) (by omega))]
      congr 1; omega
theorem atoi_itoa (n : Int) : Lib.atoi (Lib.itoa n) = some n := by
  unfold Lib.itoa
  split
  · rename_i hn
    have h1 : Lib.decFrom 0 (Lib.decDigits n.natAbs) = some n.natAbs := dec_back _ _ (Nat.lt_succ_self _)
    unfold Lib.atoi
    simp only [beq_self_eq_true, if_true]
    rw [decNat_pos (decDigits_ne _), h1]
    simp; omega
  · rename_i hn
    have h1 : Lib.decFrom 0 (Lib.decDigits n.toNat) = some n.toNat := dec_back _ _ (Nat.lt_succ_self _)
    have hd := decDigits_digits (n.toNat + 1) n.toNat (by omega)
    have hp := decDigits_ne n.toNat
    generalize Lib.decDigits n.toNat = D at *
    cases D with
    | nil => simp at hp
    | cons b r =>
      have hbd := hd b (by simp)
      have e1 : (b == 45) = false := by rw [beq_eq_false_iff_ne]; rintro rfl; revert hbd; simp
      have e2 : (b == 43) = false := by rw [beq_eq_false_iff_ne]; rintro rfl; revert hbd; simp
      unfold Lib.atoi
      simp only [e1, e2, Bool.false_eq_true, if_false]
      rw [decNat_pos hp, h1]
      simp; omega
theorem itoa_inj {a b : Int} (h : Lib.itoa a = Lib.itoa b) : a = b := by
  have h1 := atoi_itoa a
  rw [h, atoi_itoa b] at h1
  exact (Option.some.inj h1).symm
theorem piR_fiR {n : Int} (h : (fiR n).2 = true) : piR (fiR n).1 = (n, true) := by
  unfold fiR at h ⊢
  split at h
  · rename_i hd
    rw [if_pos hd]
    unfold piR
    rw [strB_data, atoi_itoa]
    simp [hd]
  · cases h
/-- No sign of a number's text is '#'. -/
theorem itoa_hash (n : Int) : ∀ b ∈ Lib.itoa n, b ≠ 35 := by
  intro b hb
  unfold Lib.itoa at hb
  split at hb
  · rw [List.mem_cons] at hb
    rcases hb with rfl | hb
    · decide
    · have := decDigits_digits _ _ (Nat.lt_succ_self _) b hb
      rintro rfl; revert this; simp
  · have := decDigits_digits _ _ (Nat.lt_succ_self _) b hb
    rintro rfl; revert this; simp

/-! Sealing. -/
def sealL (l : List UInt8) : List UInt8 := l ++ 35 :: Lib.itoa (ckSum l)
theorem sealB_data (s : ByteArray) : (sealB s).data.toList = sealL s.data.toList := by
  unfold sealB sealL
  simp [strB]
theorem acR_yes {x : ByteArray} (h : (acR x).2 = true) : (acR x).1 = sealB x ∧ hasC x 35 = false ∧ x.size ≤ 4000 ∧ (sealB x).size ≤ 4000 := by
  unfold acR at h ⊢
  split at h
  · rename_i h1
    rw [if_pos h1]
    split at h
    · cases h
    · rename_i h2
      rw [if_neg h2]
      split at h
      · rename_i h3
        rw [if_pos h3]
        exact ⟨rfl, by simpa using h2, h1, h3⟩
      · cases h
  · cases h
theorem acR_none {x : ByteArray} (h : (acR x).2 = false) : (acR x).1 = ByteArray.empty := by
  unfold acR at h ⊢
  split
  · rename_i h1
    rw [if_pos h1] at h
    split
    · rfl
    · rename_i h2
      rw [if_neg h2] at h
      split
      · rename_i h3; rw [if_pos h3] at h; cases h
      · rfl
  · rfl
theorem hasC_none {x : ByteArray} {c : UInt8} (h : hasC x c = false) : ∀ b ∈ x.data.toList, b ≠ c := by
  intro b hb e
  obtain ⟨k, hk, he⟩ := List.getElem_of_mem hb
  have hk2 : k < x.size := by rw [← size_toList]; exact hk
  have := hasC_true (s := x) (c := c) hk2 (by show x.data[k] = c; rw [← e, ← he]; simp)
  rw [h] at this; cases this
theorem takeWhile_seal (l r : List UInt8) (h : ∀ b ∈ l, b ≠ 35) : (l ++ 35 :: r).takeWhile (· != 35) = l := by
  induction l with
  | nil => simp
  | cons b l ih =>
    have h1 : (b != 35) = true := by simpa using h b (by simp)
    rw [List.cons_append, List.takeWhile_cons, if_pos h1, ih (fun x hx => h x (by simp [hx]))]
/-- A sealed string opens. -/
theorem vcR_seal {x : ByteArray} (h : hasC x 35 = false) (h4 : (sealB x).size ≤ 4000) : vcR (sealB x) = (x, true) := by
  have hh : headB (sealB x) = x := by
    unfold headB
    rw [sealB_data, sealL, takeWhile_seal _ _ (hasC_none h), strB_toList]
  have := vcR_yes (s := sealB x) h4 (by rw [hh])
  rw [this, hh]
theorem ck_fold_ne : ∀ (l : List UInt8) (h k : Int), 0 ≤ h → h < 999979 → 0 ≤ k → k < 999979 → h ≠ k → l.foldl ckStep h ≠ l.foldl ckStep k := by
  intro l
  induction l with
  | nil => intro h k _ _ _ _ hne; exact hne
  | cons c l ih =>
    intro h k h1 h2 h3 h4 hne
    rw [List.foldl_cons, List.foldl_cons]
    have a := ckStep_bd h c
    have b := ckStep_bd k c
    refine ih _ _ a.1 a.2 b.1 b.2 ?_
    unfold ckStep
    omega
theorem ck_change {l : List UInt8} {k : Nat} {c : UInt8} (hk : k < l.length) (hc : c ≠ l[k]) : ckSum (l.set k c) ≠ ckSum l := by
  have hl : l = l.take k ++ l[k] :: l.drop (k + 1) := by
    rw [← List.drop_eq_getElem_cons hk]; exact (List.take_append_drop k l).symm
  have hs : l.set k c = l.take k ++ c :: l.drop (k + 1) := List.set_eq_take_append_cons_drop .. ▸ (by rw [if_pos hk])
  have e1 : ckSum l = (l.drop (k + 1)).foldl ckStep (ckStep (ckSum (l.take k)) l[k]) := by
    conv => lhs; rw [hl]
    unfold ckSum
    rw [List.foldl_append, List.foldl_cons]
  have e2 : ckSum (l.set k c) = (l.drop (k + 1)).foldl ckStep (ckStep (ckSum (l.take k)) c) := by
    rw [hs]
    unfold ckSum
    rw [List.foldl_append, List.foldl_cons]
  rw [e1, e2]
  have a := ckStep_bd (ckSum (l.take k)) c
  have b := ckStep_bd (ckSum (l.take k)) l[k]
  refine ck_fold_ne _ _ _ a.1 a.2 b.1 b.2 ?_
  have hne : c.toNat ≠ l[k].toNat := fun e => hc (UInt8.toNat_inj.1 e)
  have h1 := c.toNat_lt
  have h2 := l[k].toNat_lt
  unfold ckStep
  omega
/-- A byte of a sealed string changed: it no longer is sealed. -/
theorem seal_change {x t : List UInt8} (hx : ∀ b ∈ x, b ≠ 35) (ht : ∀ b ∈ t, b ≠ 35) {k : Nat} {c : UInt8} (hk : k < (sealL x).length) (hc : c ≠ (sealL x)[k]) : (sealL x).set k c ≠ sealL t := by
  intro he
  have hat : ∀ i : Nat, ((sealL x).set k c)[i]? = (sealL t)[i]? := fun i => by rw [he]
  have hX : ∀ {y : List UInt8}, (sealL y)[y.length]? = some 35 := by intro y; simp [sealL]
  have hlt : ∀ {y : List UInt8} (_ : ∀ b ∈ y, b ≠ 35) {i : Nat}, i < y.length → (sealL y)[i]? ≠ some 35 := by
    intro y hy i hi e
    rw [sealL, List.getElem?_append_left hi, List.getElem?_eq_getElem hi] at e
    exact hy _ (List.getElem_mem hi) (Option.some.inj e)
  have hgt : ∀ {y : List UInt8} {i : Nat}, y.length < i → (sealL y)[i]? ≠ some 35 := by
    intro y i hi e
    rw [sealL, List.getElem?_append_right (by omega), List.getElem?_cons] at e
    rw [if_neg (by omega)] at e
    exact itoa_hash _ _ (List.mem_of_getElem? e) rfl
  have hset : ∀ i : Nat, i ≠ k → ((sealL x).set k c)[i]? = (sealL x)[i]? := fun i hi => by rw [List.getElem?_set_ne (fun e => hi e.symm)]
  rcases Nat.lt_trichotomy t.length x.length with hl | hl | hl
  · have h1 : t.length = k := by
      by_cases e : t.length = k
      · exact e
      · exfalso
        have := hat t.length
        rw [hset _ e, hX] at this
        exact hlt hx hl this
    have h2 := hat x.length
    rw [hset _ (by omega), hX] at h2
    exact hgt hl h2.symm
  · have hkx : k ≠ x.length := by
      intro e
      have := hat k
      rw [List.getElem?_set_self hk, e, ← hl, hX] at this
      have h3 : (sealL x)[k] = 35 := by
        have := hX (y := x)
        rw [← e, List.getElem?_eq_getElem hk] at this
        exact Option.some.inj this
      exact hc (by rw [h3]; exact Option.some.inj this)
    have htl : Lib.itoa (ckSum t) = (((sealL x).set k c).drop (x.length + 1)) := by
      rw [he, sealL, ← hl, List.drop_append]
      simp
    by_cases hkl : k < x.length
    · have e1 : t = x.set k c := by
        have h5 : t = ((sealL x).set k c).take x.length := by rw [he, sealL, ← hl]; simp
        rw [h5, sealL, List.set_append_left _ _ hkl, List.take_append_of_le_length (by simp), List.take_of_length_le (by simp)]
      have hck : c ≠ x[k] := by
        intro e; apply hc; rw [e]; simp [sealL, List.getElem_append_left hkl]
      have hne := ck_change hkl hck
      rw [← e1] at hne
      apply hne
      apply itoa_inj
      rw [htl, sealL, List.set_append_left _ _ hkl, List.drop_append]
      simp
    · have e1 : t = x := by
        have h5 : t = ((sealL x).set k c).take x.length := by rw [he, sealL, ← hl]; simp
        rw [h5, sealL, List.set_append_right _ _ (by omega), List.take_append_of_le_length (by simp), List.take_of_length_le (by simp)]
      rw [e1] at he
      have h6 := congrArg (fun l => l[k]?) he
      simp only [List.getElem?_set_self hk] at h6
      rw [List.getElem?_eq_getElem hk] at h6
      exact hc (Option.some.inj h6)
  · have h1 : x.length = k := by
      by_cases e : x.length = k
      · exact e
      · exfalso
        have := hat x.length
        rw [hset _ e, hX] at this
        exact hlt ht hl this.symm
    have h2 := hat t.length
    rw [hset _ (by omega), hX] at h2
    exact hgt hl h2
theorem vcR_change {x s : ByteArray} (hx : hasC x 35 = false) {k : Nat} {c : UInt8} (hk : k < (sealB x).size) (hc : c ≠ (sealB x).data.toList[k]'(by rw [size_toList]; exact hk)) (hs : s.data.toList = (sealB x).data.toList.set k c) : (vcR s).2 = false := by
  rw [vcR_no]
  rintro ⟨_, h⟩
  have h1 := sealB_data (headB s)
  rw [h, hs] at h1
  have hd := sealB_data x
  refine seal_change (hasC_none hx) (t := (headB s).data.toList) ?_ (k := k) (c := c) (by rw [← hd, size_toList]; exact hk) ?_ (by rw [← hd]; exact h1)
  · intro b hb
    unfold headB at hb
    rw [strB_data] at hb
    have := List.all_takeWhile (p := (· != 35)) (l := s.data.toList)
    rw [List.all_eq_true] at this
    simpa using this b hb
  · simpa only [hd] using hc
end Go.Proofs.YtoeonplbgbgjmaaDoor
