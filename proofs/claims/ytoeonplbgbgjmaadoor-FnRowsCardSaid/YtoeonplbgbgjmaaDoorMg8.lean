/- Comparing rows under a key specification (without a program). The order of rows is a total preorder; rows in stable order (without a program). -/
import Derived.Test.YtoeonplbgbgjmaaDoorMg7
import Derived.Test.YtoeonplbgbgjmaaDoorMg5
import Derived.Lib.Bytealg
import Derived.Lib.Small
import Derived.Test.YtoeonplbgbgjmaaDoorMg2
namespace Go.Proofs.YtoeonplbgbgjmaaDoor
open Go.RowKit
set_option linter.unusedVariables false
set_option linter.unusedSimpArgs false

def cmpB (a b : ByteArray) : Int := Lib.compareBytes a.data.toList b.data.toList
theorem less_cmp : ∀ a b : List UInt8, Lib.compareBytes a b = if Op.bytesLess a b then -1 else if Op.bytesLess b a then 1 else 0 := by
  intro a
  induction a with
  | nil => intro b; cases b <;> simp [Lib.compareBytes, Op.bytesLess]
  | cons x a ih =>
    intro b
    cases b with
    | nil => simp [Lib.compareBytes, Op.bytesLess]
    | cons y b =>
      rw [Lib.compareBytes, Op.bytesLess, Op.bytesLess, ih b]
      by_cases h1 : x < y
      · simp [h1]
      · by_cases h2 : y < x
        · have h3 : (x == y) = false := by rw [beq_eq_false_iff_ne]; rintro rfl; exact h1 h2
          simp [h1, h2, h3]
        · have h3 : x = y := by
            have a1 : ¬ x.toNat < y.toNat := fun k => h1 (UInt8.lt_iff_toNat_lt.2 k)
            have a2 : ¬ y.toNat < x.toNat := fun k => h2 (UInt8.lt_iff_toNat_lt.2 k)
            exact UInt8.toNat_inj.1 (by omega)
          subst h3
          simp [h1]
theorem cmpB_less (a b : ByteArray) : cmpB a b = if Op.bytesLess a.toList b.toList then -1 else if Op.bytesLess b.toList a.toList then 1 else 0 := by
  unfold cmpB
  rw [less_cmp, ByteArray.toList_eq, ByteArray.toList_eq]
theorem cmpB_bd (a b : ByteArray) : -1 ≤ cmpB a b ∧ cmpB a b ≤ 1 := by
  rw [cmpB_less]; split
  · omega
  · split <;> omega
def keyC (num : Bool) (x y : ByteArray) : Int :=
  if num then
    if (piR x).2 then (if (piR y).2 then Lib.compareInt (piR x).1 (piR y).1 else 1)
    else (if (piR y).2 then -1 else cmpB x y)
  else cmpB x y
theorem compareInt_bd (x y : Int) : -1 ≤ Lib.compareInt x y ∧ Lib.compareInt x y ≤ 1 := by
  unfold Lib.compareInt; split
  · omega
  · split <;> omega
theorem keyC_bd (num : Bool) (x y : ByteArray) : -1 ≤ keyC num x y ∧ keyC num x y ≤ 1 := by
  have h1 := cmpB_bd x y
  have h2 := compareInt_bd (piR x).1 (piR y).1
  unfold keyC
  split
  · split
    · split
      · exact h2
      · omega
    · split
      · omega
      · exact h1
  · exact h1
def cmpK (k : KS) (a b : List ByteArray) : Int := if k.2.2.1 then -(keyC k.2.1 (valF k a) (valF k b)) else keyC k.2.1 (valF k a) (valF k b)
theorem cmpK_bd (k : KS) (a b : List ByteArray) : -1 ≤ cmpK k a b ∧ cmpK k a b ≤ 1 := by
  have := keyC_bd k.2.1 (valF k a) (valF k b)
  unfold cmpK; split <;> omega
def cmpRs (a b : List ByteArray) : List KS → Int
  | [] => 0
  | k :: r => if cmpK k a b = 0 then cmpRs a b r else cmpK k a b
theorem cmpRs_bd (a b : List ByteArray) : ∀ l, -1 ≤ cmpRs a b l ∧ cmpRs a b l ≤ 1 := by
  intro l
  induction l with
  | nil => simp [cmpRs]
  | cons k r ih =>
    rw [cmpRs]; split
    · exact ih
    · exact cmpK_bd k a b
theorem cmpRs_step {a b : List ByteArray} {xs : List KS} {i : Nat} (h : i < xs.length) : cmpRs a b (xs.drop i) = if cmpK (gk xs i) a b = 0 then cmpRs a b (xs.drop (i + 1)) else cmpK (gk xs i) a b := by
  rw [List.drop_eq_getElem_cons h, cmpRs, gk_eq h]
theorem cmpRs_end {a b : List ByteArray} {xs : List KS} {i : Nat} (h : xs.length ≤ i) : cmpRs a b (xs.drop i) = 0 := by
  rw [List.drop_eq_nil_of_le h]; rfl
def okC2 (xs : List KS) (a b : List ByteArray) : Bool := okK xs && rowB a && rowB b
def crR (xs : List KS) (a b : List ByteArray) : Int × Bool := if okC2 xs a b then (cmpRs a b xs, true) else (0, false)
end Go.Proofs.YtoeonplbgbgjmaaDoor
namespace Go.Proofs.YtoeonplbgbgjmaaDoor
open Go.RowKit
set_option linter.unusedVariables false
set_option linter.unusedSimpArgs false

structure PreG {α : Type} (c : α → α → Int) : Prop where
  anti : ∀ x y, c y x = - c x y
  tr : ∀ x y z, c x y ≤ 0 → c y z ≤ 0 → c x z ≤ 0
theorem PreG.lt_left {α : Type} {c : α → α → Int} (h : PreG c) {x y z : α} (h1 : c x y < 0) (h2 : c y z ≤ 0) : c x z < 0 := by
  rcases Int.lt_or_le (c x z) 0 with g | g
  · exact g
  · have h3 := h.anti x z
    have h4 := h.tr y z x h2 (by omega)
    have h5 := h.anti x y
    omega
theorem PreG.lt_right {α : Type} {c : α → α → Int} (h : PreG c) {x y z : α} (h1 : c x y ≤ 0) (h2 : c y z < 0) : c x z < 0 := by
  rcases Int.lt_or_le (c x z) 0 with g | g
  · exact g
  · have h3 := h.anti x z
    have h4 := h.tr z x y (by omega) h1
    have h5 := h.anti y z
    omega
theorem PreG.neg {α : Type} {c : α → α → Int} (h : PreG c) : PreG fun x y => - c x y :=
  ⟨fun x y => by rw [h.anti x y], fun x y z h1 h2 => by
    have := h.tr z y x (by rw [h.anti y z]; omega) (by rw [h.anti x y]; omega)
    rw [h.anti x z] at this; omega⟩
theorem PreG.comap {α β : Type} {c : α → α → Int} (h : PreG c) (f : β → α) : PreG fun x y => c (f x) (f y) := ⟨fun x y => h.anti _ _, fun x y z => h.tr _ _ _⟩
theorem PreG.lex {α : Type} {c d : α → α → Int} (h : PreG c) (k : PreG d) : PreG fun x y => if c x y = 0 then d x y else c x y := by
  refine ⟨fun x y => ?_, fun x y z h1 h2 => ?_⟩
  · have := h.anti x y
    by_cases e : c x y = 0
    · rw [if_pos (by omega), if_pos e, k.anti]
    · rw [if_neg (by omega), if_neg e, this]
  · by_cases e1 : c x y = 0
    · rw [if_pos e1] at h1
      by_cases e2 : c y z = 0
      · rw [if_pos e2] at h2
        have a1 := h.tr x y z (by omega) (by omega)
        have a2 := h.tr z y x (by rw [h.anti y z]; omega) (by rw [h.anti x y]; omega)
        have a3 := h.anti x z
        rw [if_pos (by omega)]
        exact k.tr x y z h1 h2
      · rw [if_neg e2] at h2
        have := h.lt_right (x := x) (y := y) (z := z) (by omega) (by omega)
        rw [if_neg (by omega)]; omega
    · rw [if_neg e1] at h1
      have h3 : c y z ≤ 0 := by
        by_cases e2 : c y z = 0
        · omega
        · rw [if_neg e2] at h2; exact h2
      have := h.lt_left (x := x) (y := y) (z := z) (by omega) h3
      rw [if_neg (by omega)]; omega
theorem pre_bytes : PreG Lib.compareBytes := by
  refine ⟨fun x => ?_, fun x => ?_⟩
  · induction x with
    | nil => intro y; cases y <;> simp [Lib.compareBytes]
    | cons a x ih =>
      intro y
      cases y with
      | nil => simp [Lib.compareBytes]
      | cons b y =>
        rw [Lib.compareBytes, Lib.compareBytes, ih y]
        have e1 : a < b ↔ a.toNat < b.toNat := UInt8.lt_iff_toNat_lt
        have e2 : b < a ↔ b.toNat < a.toNat := UInt8.lt_iff_toNat_lt
        by_cases h1 : a < b
        · have h2 : ¬ b < a := by rw [e2]; rw [e1] at h1; omega
          simp [h1, h2]
        · by_cases h2 : b < a
          · simp [h1, h2]
          · simp [h1, h2]
  · induction x with
    | nil => intro y z _ _; cases z <;> simp [Lib.compareBytes]
    | cons a x ih =>
      intro y z h1 h2
      cases y with
      | nil => simp [Lib.compareBytes] at h1
      | cons b y =>
        cases z with
        | nil => simp [Lib.compareBytes] at h2
        | cons c z =>
          have e1 : a < b ↔ a.toNat < b.toNat := UInt8.lt_iff_toNat_lt
          have e2 : b < a ↔ b.toNat < a.toNat := UInt8.lt_iff_toNat_lt
          have e3 : b < c ↔ b.toNat < c.toNat := UInt8.lt_iff_toNat_lt
          have e4 : c < b ↔ c.toNat < b.toNat := UInt8.lt_iff_toNat_lt
          have e5 : a < c ↔ a.toNat < c.toNat := UInt8.lt_iff_toNat_lt
          have e6 : c < a ↔ c.toNat < a.toNat := UInt8.lt_iff_toNat_lt
          rw [Lib.compareBytes] at h1 h2 ⊢
          simp only [e1, e2, e3, e4, e5, e6] at h1 h2 ⊢
          by_cases g1 : a.toNat < b.toNat
          · by_cases g2 : b.toNat < c.toNat
            · rw [if_pos (by omega)]; omega
            · rw [if_neg g2] at h2
              by_cases g3 : c.toNat < b.toNat
              · rw [if_pos g3] at h2; omega
              · rw [if_pos (by omega)]; omega
          · rw [if_neg g1] at h1
            by_cases g2 : b.toNat < a.toNat
            · rw [if_pos g2] at h1; omega
            · rw [if_neg g2] at h1
              by_cases g3 : b.toNat < c.toNat
              · rw [if_pos (by omega)]; omega
              · rw [if_neg g3] at h2
                by_cases g4 : c.toNat < b.toNat
                · rw [if_pos g4] at h2; omega
                · rw [if_neg g4] at h2
                  rw [if_neg (by omega), if_neg (by omega)]
                  exact ih y z h1 h2
theorem pre_int : PreG Lib.compareInt := by
  refine ⟨fun x y => ?_, fun x y z => ?_⟩
  · unfold Lib.compareInt; split <;> split <;> (try split) <;> omega
  · unfold Lib.compareInt; intro h1 h2; split at h1 <;> split at h2 <;> (try split at h1) <;> (try split at h2) <;> split <;> (try split) <;> omega
theorem pre_cmpB : PreG cmpB := pre_bytes.comap fun (b : ByteArray) => b.data.toList
theorem pre_key (num : Bool) : PreG (keyC num) := by
  cases num
  · have : keyC false = cmpB := by funext x y; simp [keyC]
    rw [this]; exact pre_cmpB
  · have e : keyC true = fun x y => if (piR x).2 then (if (piR y).2 then Lib.compareInt (piR x).1 (piR y).1 else 1) else (if (piR y).2 then -1 else cmpB x y) := by
      funext x y; simp [keyC]
    rw [e]
    refine ⟨fun x y => ?_, fun x y z => ?_⟩
    · cases (piR x).2 <;> cases (piR y).2 <;> simp
      · exact pre_cmpB.anti x y
      · exact pre_int.anti _ _
    · cases (piR x).2 <;> cases (piR y).2 <;> cases (piR z).2 <;> simp
      · exact pre_cmpB.tr x y z
      · exact pre_int.tr _ _ _
theorem pre_cmpK (k : KS) : PreG (cmpK k) := by
  have h := (pre_key k.2.1).comap (valF k)
  cases e : k.2.2.1
  · have : cmpK k = fun a b => keyC k.2.1 (valF k a) (valF k b) := by funext a b; simp [cmpK, e]
    rw [this]; exact h
  · have : cmpK k = fun a b => - keyC k.2.1 (valF k a) (valF k b) := by funext a b; simp [cmpK, e]
    rw [this]; exact h.neg
theorem pre_rows : ∀ xs : List KS, PreG fun a b => cmpRs a b xs
  | [] => ⟨fun _ _ => rfl, fun _ _ _ _ _ => Int.le_refl _⟩
  | k :: r => (pre_cmpK k).lex (pre_rows r)
/-- The fields of row i. -/
def gf (Fs : List (List ByteArray)) (i : Nat) : List ByteArray := Fs.getD i []
theorem gf_eq {Fs : List (List ByteArray)} {i : Nat} (h : i < Fs.length) : gf Fs i = Fs[i] := by simp [gf, h]
def cvV (xs : List KS) (Fs : List (List ByteArray)) (x y : Int) : Int := cmpRs (gf Fs x.toNat) (gf Fs y.toNat) xs
theorem cvV_pre (xs : List KS) (Fs : List (List ByteArray)) : Pre (cvV xs Fs) := by
  have h := (pre_rows xs).comap fun (i : Int) => gf Fs i.toNat
  refine ⟨fun x y => ?_, fun x y z => h.tr x y z⟩
  have := h.anti x y
  unfold cvV
  omega
/-- The places 0 .. n - 1. -/
def pv (n : Nat) : List Int := (List.range n).map Int.ofNat
theorem pv_length (n : Nat) : (pv n).length = n := by simp [pv]
theorem gi_pv {n i : Nat} (h : i < n) : gi (pv n) i = (i : Int) := by rw [gi_eq (by rw [pv_length]; exact h)]; simp [pv]
theorem pv_nodup (n : Nat) : (pv n).Nodup := List.Pairwise.map _ (fun a b (h : a ≠ b) e => h (Int.ofNat.inj e)) (List.nodup_range (n := n))
def leV (cv : Int → Int → Int) (a b : Int) : Bool := decide (cv a b < 0) || (decide (cv a b = 0) && decide (a ≤ b))
theorem leV_iff {cv : Int → Int → Int} {a b : Int} (hc : Pre cv) : leV cv a b = true ↔ ll cv a b ∨ a = b := by
  unfold leV ll
  simp only [Bool.or_eq_true, Bool.and_eq_true, decide_eq_true_eq]
  constructor
  · rintro (h | ⟨h, g⟩)
    · exact .inl (.inl h)
    · by_cases e : a = b
      · exact .inr e
      · exact .inl (.inr ⟨h, by omega⟩)
  · rintro ((h | ⟨h, g⟩) | rfl)
    · exact .inl h
    · exact .inr ⟨h, by omega⟩
    · have := hc.anti a a
      exact .inr ⟨by omega, Int.le_refl _⟩
def stP (cv : Int → Int → Int) (n : Nat) : List Int := (pv n).mergeSort (leV cv)
theorem stP_perm (cv : Int → Int → Int) (n : Nat) : (stP cv n).Perm (pv n) := List.mergeSort_perm _ _
theorem stP_length (cv : Int → Int → Int) (n : Nat) : (stP cv n).length = n := by rw [(stP_perm cv n).length_eq, pv_length]
theorem stP_srt {cv : Int → Int → Int} (hc : Pre cv) (n : Nat) : Srt cv (stP cv n) 0 n := by
  have h1 : (stP cv n).Pairwise (fun a b => leV cv a b = true) := List.pairwise_mergeSort (fun a b c h1 h2 => by
    rw [leV_iff hc] at h1 h2 ⊢
    rcases h1 with h1 | rfl
    · rcases h2 with h2 | rfl
      · exact .inl (hc.trans h1 h2)
      · exact .inl h1
    · exact h2) (fun a b => by
    rw [Bool.or_eq_true, leV_iff hc, leV_iff hc]
    by_cases e : a = b
    · exact .inl (.inr e)
    · rcases hc.tri e with h | h
      · exact .inl (.inl h)
      · exact .inr (.inl h)) (pv n)
  have h2 : (stP cv n).Nodup := (stP_perm cv n).nodup_iff.2 (pv_nodup n)
  have hl := stP_length cv n
  intro i j _ hij hj
  have g1 := List.pairwise_iff_getElem.1 h1 i j (by omega) (by omega) hij
  have g2 := List.pairwise_iff_getElem.1 h2 i j (by omega) (by omega) hij
  rw [gi_eq (by omega), gi_eq (by omega)]
  rcases (leV_iff hc).1 g1 with g | g
  · exact g
  · exact absurd g g2
theorem stP_unique {cv : Int → Int → Int} (hc : Pre cv) {n : Nat} {D : List Int} (hp : D.Perm (pv n)) (hs : Srt cv D 0 n) : D = stP cv n := by
  have hl : D.length = n := by rw [hp.length_eq, pv_length]
  exact srt_unique hc (by rw [hl]; exact hs) (by rw [stP_length]; exact stP_srt hc n) (hp.trans (stP_perm cv n).symm)
/-- The rows in stable order. -/
def stV (xs : List KS) (Fs : List (List ByteArray)) : List (List ByteArray) := (stP (cvV xs Fs) Fs.length).map fun i => gf Fs i.toNat
theorem stV_length (xs : List KS) (Fs : List (List ByteArray)) : (stV xs Fs).length = Fs.length := by unfold stV; rw [List.length_map, stP_length]
theorem pv_map (Fs : List (List ByteArray)) : ((pv Fs.length).map fun i => gf Fs i.toNat) = Fs := by
  apply List.ext_getElem (by simp [pv])
  intro i h1 h2
  rw [List.getElem_map, ← gi_eq (by simpa using h1), gi_pv h2, Int.toNat_natCast, gf_eq h2]
theorem stV_perm (xs : List KS) (Fs : List (List ByteArray)) : (stV xs Fs).Perm Fs := by
  have := (stP_perm (cvV xs Fs) Fs.length).map (fun i => gf Fs i.toNat)
  rw [pv_map] at this
  exact this
/-- The result of SortRows. -/
def okV (xs : List KS) (Fs : List (List ByteArray)) : Bool := okK xs && decide (Fs.length ≤ 64) && Fs.all rowB
def svR (xs : List KS) (Fs : List (List ByteArray)) : List (List ByteArray) × Bool := if okV xs Fs then (stV xs Fs, true) else ([], false)
theorem stV_sorted {xs : List KS} {Fs : List (List ByteArray)} {i : Nat} (h : i + 1 < Fs.length) : cmpRs (gf (stV xs Fs) i) (gf (stV xs Fs) (i + 1)) xs ≤ 0 := by
  have hs := stP_srt (cvV_pre xs Fs) Fs.length i (i + 1) (Nat.zero_le _) (by omega) h
  have hl := stP_length (cvV xs Fs) Fs.length
  have e : ∀ j, j < Fs.length → gf (stV xs Fs) j = gf Fs (gi (stP (cvV xs Fs) Fs.length) j).toNat := fun j hj => by
    rw [gf_eq (by rw [stV_length]; exact hj)]
    unfold stV
    rw [List.getElem_map, gi_eq (by omega)]
  rw [e i (by omega), e (i + 1) h]
  have h2 : cvV xs Fs (gi (stP (cvV xs Fs) Fs.length) i) (gi (stP (cvV xs Fs) Fs.length) (i + 1)) ≤ 0 := by unfold ll at hs; omega
  exact h2
end Go.Proofs.YtoeonplbgbgjmaaDoor
