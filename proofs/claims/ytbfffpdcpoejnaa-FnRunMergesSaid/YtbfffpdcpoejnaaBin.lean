/- BinaryInsertionSort. -/
import Derived.Test.YtbfffpdcpoejnaaStep
import Derived.Test.YtbfffpdcpoejnaaCopy
namespace Go.Proofs.Ytbfffpdcpoejnaa
open Go.RowKit
set_option linter.unusedVariables false
set_option linter.unusedSimpArgs false

/-- The inner loop: the place of x among l's cells lo .. hi. -/
def binW (x : Int) (l : List Int) : Nat → Nat → Nat → Nat → Nat × Nat
  | 0, lo, _, c => (lo, c)
  | f + 1, lo, hi, c => if lo < hi then (if x < gi l ((lo + hi) / 2) then binW x l f lo ((lo + hi) / 2) (c + 1) else binW x l f ((lo + hi) / 2 + 1) hi (c + 1)) else (lo, c)
/-- Element x laid into l at place p. -/
def insAt (l : List Int) (p : Nat) (x : Int) : List Int := l.take p ++ (x :: l.drop p)
def binK (l : List Int) : Nat → List Int × Nat
  | 0 => ([], 0)
  | j + 1 => (insAt (binK l j).1 (binW (gi l j) (binK l j).1 (j + 1) 0 j (binK l j).2).1 (gi l j), (binW (gi l j) (binK l j).1 (j + 1) 0 j (binK l j).2).2)
theorem binW_stop {x : Int} {l : List Int} {f lo hi c : Nat} (h : ¬ lo < hi) : binW x l f lo hi c = (lo, c) := by
  cases f with
  | zero => rfl
  | succ f => rw [binW, if_neg h]
theorem binW_low {x : Int} {l : List Int} {f lo hi c : Nat} (h : lo < hi) (h2 : x < gi l ((lo + hi) / 2)) : binW x l (f + 1) lo hi c = binW x l f lo ((lo + hi) / 2) (c + 1) := by
  rw [binW, if_pos h, if_pos h2]
theorem binW_high {x : Int} {l : List Int} {f lo hi c : Nat} (h : lo < hi) (h2 : ¬ x < gi l ((lo + hi) / 2)) : binW x l (f + 1) lo hi c = binW x l f ((lo + hi) / 2 + 1) hi (c + 1) := by
  rw [binW, if_pos h, if_neg h2]
theorem binW_bound (x : Int) (l : List Int) : ∀ (f lo hi c : Nat), lo ≤ hi → (binW x l f lo hi c).1 ≤ hi ∧ (binW x l f lo hi c).2 ≤ c + (hi - lo) := by
  intro f
  induction f with
  | zero => intro lo hi c h; exact ⟨h, by simp [binW]⟩
  | succ f ih =>
    intro lo hi c h
    rw [binW]
    split
    · split
      · have := ih lo ((lo + hi) / 2) (c + 1) (by omega); omega
      · have := ih ((lo + hi) / 2 + 1) hi (c + 1) (by omega); omega
    · exact ⟨h, by omega⟩
theorem binK_length (l : List Int) (j : Nat) : (binK l j).1.length = j := by
  induction j with
  | zero => rfl
  | succ j ih =>
    have := (binW_bound (gi l j) (binK l j).1 (j + 1) 0 j (binK l j).2 (by omega)).1
    rw [binK, insAt]
    simp [ih]; omega
theorem binK_count (l : List Int) (j : Nat) : (binK l j).2 ≤ j * j := by
  induction j with
  | zero => exact Nat.le_refl _
  | succ j ih =>
    have := (binW_bound (gi l j) (binK l j).1 (j + 1) 0 j (binK l j).2 (by omega)).2
    rw [binK]
    have e : (j + 1) * (j + 1) = j * j + j + j + 1 := by rw [Nat.add_mul, Nat.mul_add]; omega
    dsimp only
    omega
theorem insAt_splice (S R : List Int) (j p : Nat) (x : Int) (hS : S.length = j) (hp : p ≤ j) :
    (splice (S ++ (x :: R)) (p + 1) (((S ++ (x :: R)).drop p).take (j - p))).set p x = insAt S p x ++ R := by
  subst hS
  apply List.ext_getElem?
  intro i
  simp only [splice, insAt, List.getElem?_set, List.getElem?_append, List.getElem?_take, List.getElem?_drop, List.length_take, List.length_drop, List.length_append, List.length_cons, List.getElem?_cons]
  have m1 : min (p + 1) (S.length + (R.length + 1)) = p + 1 := by omega
  have m2 : min (S.length - p) (S.length + (R.length + 1) - p) = S.length - p := by omega
  have m3 : min p S.length = p := by omega
  simp only [m1, m2, m3]
  rcases Nat.lt_trichotomy i p with h | h | h
  · simp [show ¬ p = i by omega, show i < p + 1 by omega, show i < S.length by omega, h, show i < p + (S.length - p + 1) by omega]
  · subst h
    simp [show i < i + 1 + (S.length - i + (S.length + (R.length + 1) - (i + 1 + (S.length - i)))) by omega, show i < i + (S.length - i + 1) by omega]
  · by_cases h2 : i ≤ S.length
    · have e1 : i - (p + 1) < S.length - p := by omega
      have e2 : p + (i - (p + 1)) < S.length := by omega
      simp [show ¬ p = i by omega, show ¬ i < p + 1 by omega, e1, e2, show ¬ i < p by omega, show i < p + (S.length - p + 1) by omega, show ¬ i - p = 0 by omega]
      rw [← List.getElem?_eq_getElem]
      congr 1
    · have e1 : ¬ i - (p + 1) < S.length - p := by omega
      have e4 : p + 1 + (S.length - p) + (i - (p + 1) - (S.length - p)) = i := by omega
      simp [show ¬ p = i by omega, show ¬ i < p + 1 by omega, e1, e4, show ¬ i < S.length by omega, show ¬ i < p + (S.length - p + 1) by omega, show ¬ i - S.length = 0 by omega]
      congr 1
      omega
theorem gi_app {S R : List Int} {k : Nat} (h : k < S.length) : gi (S ++ R) k = gi S k := by
  simp [gi, List.getD, List.getElem?_append, h]
theorem drop_gi {l : List Int} {j : Nat} (h : j < l.length) : l.drop j = gi l j :: l.drop (j + 1) := by
  rw [gi_eq h]; exact List.drop_eq_getElem_cons h
theorem drop_end {l : List Int} {j : Nat} (h : l.length ≤ j) : l.drop j = [] := List.drop_eq_nil_of_le h

theorem Sl.set_splice {w : World} {e b off c i n : Nat} {x : Int} {M L : List Int} (h : Row w e b off c (ints M)) (hi : i < M.length) (hM : M.set i x = L) (hn : L.length = n) :
    Sl (w.setCell ⟨b, off + i, none⟩ (.int .i64 x)) e (.slice (some ⟨b, off, none⟩) n c) (ints L) := by
  have h1 := Sl.of_row (h.setInt hi x)
  rw [hM, ints_length, hn] at h1
  exact h1
theorem length_splice_i (L : List Int) (p q m : Nat) (h : p + m ≤ L.length) : (splice L p ((L.drop q).take m)).length = L.length := by
  refine length_splice _ _ _ ?_
  simp; omega

/-- The result of BinaryInsertionSort. -/
def binR (x : List Int) : List Int × Nat × Bool := if vlist x then ((binK x x.length).1, (binK x x.length).2, true) else ([], 0, false)
theorem binR_len (x : List Int) : (binR x).1.length ≤ 100000000000 := by
  unfold binR
  split
  · rename_i h
    have := (vlist_iff.1 h).1
    dsimp only
    rw [binK_length]; omega
  · simp

set_option maxHeartbeats 4000000 in
theorem impl_BinaryInsertionSort_law {v : Value} {x : List Int} {F : List Nat} {w : World} (r : RIntS w v x F) :
    Calls Try.prog 37 #[v] w fun e w' => ∃ r F, e = .returned (.tuple #[r, .int .i64 (binR x).2.1, .bool (binR x).2.2]) ∧ RIntS w' r (binR x).1 F ∧ Fr w.heap.size F ∧ Below w.heap.size w w' ∧ (binR x).1.length ≤ 100000000000 := by
  have hv := Lib.hid r.1
  have hlen := Lib.hid (binR_len x)
  clear r
  cases h : vlist x
  · have e0 : binR x = ([], 0, false) := by simp [binR, h]
    rw [e0] at hlen ⊢
    clear e0
    go_enter Try.func37, Try.ntmps37
    go_wp2_with fail
    refine (isValidList_any _ _ _ (Sl.rd hv.out)).mono ?_
    rintro e w1 ⟨rfl, hb⟩
    replace hb := Lib.hid hb
    go_wp2
    go_ret3
    exact ⟨_, _, rfl, (Fresh.nil hb.out).law.1, (Fresh.nil hb.out).law.2.1, (Fresh.nil hb.out).law.2.2, hlen.out⟩
  · have e0 : binR x = ((binK x x.length).1, (binK x x.length).2, true) := by simp [binR, h]
    have hl := (vlist_iff.1 h).1
    rw [e0] at hlen ⊢
    clear e0
    go_enter Try.func37, Try.ntmps37
    go_wp2_with fail
    refine (isValidList_any _ _ _ (Sl.rd hv.out)).mono ?_
    rintro e w1 ⟨rfl, hb⟩
    replace hv := Lib.hid (hv.out.below hb hv.out.lt)
    replace hb := Lib.hid hb
    go_wp2_with fail
    refine (copyInt_any _ _ _ hv.out (by omega)).mono ?_
    rintro e w2 ⟨r, rfl, hf⟩
    obtain ⟨ao, c0, rfl, _⟩ := hf.shape
    have hs := Lib.hid hf.sl
    have hbl : Hid (∀ k, (Value.slice ao x.length c0).ownBlock = some k → w.heap.size ≤ k) := Lib.hid fun k hk => Nat.le_trans hb.out.size (hf.1.lt k hk).1
    have hb2 := Lib.hid (hb.out.trans (hf.2.mono hb.out.size))
    clear hf hv hb h
    generalize hn : x.length = n at *
    replace hn := Lib.hid hn
    go_wp2
    go_loopw [6, 7] (fun c i wr => ∃ j : Nat, (1 ≤ j) ∧ (j ≤ n ∨ j = 1) ∧ i = .int .i64 (j : Nat) ∧ c = .int .i64 (binK x (min j n)).2 ∧
      Sl wr 3 (.slice ao n c0) (ints ((binK x (min j n)).1 ++ x.drop (min j n))) ∧ Below w.heap.size w wr) (fun _ i _ => 200 - (intOf i).toNat)
    case atStart =>
      refine ⟨1, Nat.le_refl _, .inr rfl, rfl, ?_, ?_, hb2.out⟩
      · rcases Nat.eq_zero_or_pos n with h | h
        · rw [h]; rfl
        · rw [Nat.min_eq_left h]; rfl
      · have he : (binK x (min 1 n)).1 ++ x.drop (min 1 n) = x := by
          rcases Nat.eq_zero_or_pos n with h | h
          · rw [h]; rfl
          · rw [Nat.min_eq_left h]
            have h' := hn.out
            cases x with
            | nil => simp at h'; omega
            | cons a l => rfl
        rw [he]; exact hs.out
    case round =>
      obtain ⟨wo, rfl⟩ : ∃ wo : World, wo = wr := ⟨_, rfl⟩
      obtain ⟨j, hj1, hj2, rfl, rfl, hsl, hbel⟩ := hrel
      clear hs hb2
      have hlj := binK_length x j
      have hcc := binK_count x j
      have hsq : j * j ≤ 64 * 64 := Nat.mul_le_mul (by omega) (by omega)
      by_cases hlt : j < n
      · have hmin : min j n = j := by omega
        rw [hmin] at hsl ⊢
        clear hmin
        have hstep : binK x (j + 1) = (insAt (binK x j).1 (binW (gi x j) (binK x j).1 (j + 1) 0 j (binK x j).2).1 (gi x j), (binW (gi x j) (binK x j).1 (j + 1) 0 j (binK x j).2).2) := rfl
        rw [drop_gi (by rw [hn.out]; exact hlt)] at hsl
        generalize hK1 : binK x (j + 1) = K1 at *
        generalize hKj : binK x j = Kj at *
        obtain ⟨S, c⟩ := Kj
        dsimp only at hcc hsl hstep hlj ⊢
        generalize hX : gi x j = X at *
        generalize hT : x.drop (j + 1) = T at *
        have hTl : T.length = n - (j + 1) := by rw [← hT]; simp [hn.out]
        replace hK1 := Lib.hid hK1
        replace hKj := Lib.hid hKj
        replace hX := Lib.hid hX
        replace hT := Lib.hid hT
        obtain ⟨b, off, rfl, hcap, hR⟩ := hsl.rowInts (by omega)
        have hbb := hbl.out b rfl
        have hc1 : wo.cell? ⟨b, off + j, none⟩ = some (.int .i64 X) := by
          have := hR.cellInt (i := j) (by simp; omega)
          rw [this]
          simp [gi, ← hlj]
        have hcells : ∀ k, k < j → wo.cell? ⟨b, off + k, none⟩ = some (.int .i64 (gi S k)) := fun k hk => by
          have := hR.cellInt (i := k) (by simp; omega)
          rw [this, gi_app (by omega)]
        replace hR := Lib.hid hR
        replace hcells := Lib.hid hcells
        replace hbel := Lib.hid hbel
        replace hbb := Lib.hid hbb
        replace hTl := Lib.hid hTl
        replace hlj := Lib.hid hlj
        replace hstep := Lib.hid hstep
        clear hsl hbl
        go_wp2
        go_loopw [6, 9, 10] (fun cc ll hh wq => ∃ (f lo hi c' : Nat), ll = .int .i64 (lo : Nat) ∧ hh = .int .i64 (hi : Nat) ∧ cc = .int .i64 (c' : Nat) ∧ lo ≤ hi ∧ hi ≤ j ∧ hi < f + lo ∧ c' + hi ≤ c + j + lo ∧ binW X S f lo hi c' = binW X S (j + 1) 0 j c ∧ wq = wo) (fun _ ll hh _ => (intOf hh).toNat - (intOf ll).toNat)
        case atStart => exact ⟨j + 1, 0, j, c, rfl, rfl, rfl, by omega, Nat.le_refl _, by omega, by omega, rfl, rfl⟩
        case round =>
          obtain ⟨f, lo, hi, c', rfl, rfl, rfl, hlh, hhj, hf, hcb, hw, rfl⟩ := hrel
          clear hc1
          by_cases hlo : lo < hi
          · cases f with
            | zero => omega
            | succ f =>
            obtain ⟨mid, hmid⟩ : ∃ m, m = (lo + hi) / 2 := ⟨_, rfl⟩
            have hm1 : lo ≤ mid := by omega
            have hm2 : mid < hi := by omega
            have hcm := hcells.out mid (by omega)
            have e0 := fun h => binW_low (f := f) (c := c') (x := X) (l := S) hlo h
            have e1 := fun h => binW_high (f := f) (c := c') (x := X) (l := S) hlo h
            rw [← hmid] at e0 e1
            have hdv : (((lo : Int) + (hi : Int)).tdiv 2) = (mid : Int) := by
              rw [hmid]; rw [Int.tdiv_eq_ediv_of_nonneg (by omega)]; omega
            have hdv2 : (((lo : Int) + (hi : Int)) / 2) = (mid : Int) := by rw [hmid]; omega
            generalize hy : gi S mid = Y at *
            replace hmid := Lib.hid hmid
            by_cases hxy : X < Y
            · have hw2 := Lib.hid ((e0 hxy).symm.trans hw)
              clear e0 e1 hw
              replace hy := Lib.hid hy
              go_wp2
              go_roundw
              case rel => exact ⟨f, lo, mid, c' + 1, by go_num, by go_num, by go_num, by omega, by omega, by omega, by omega, hw2.out, by first | rfl | trivial⟩
              case measure => simp [intOf]; omega
            · have hw2 := Lib.hid ((e1 hxy).symm.trans hw)
              clear e0 e1 hw
              replace hy := Lib.hid hy
              go_wp2
              go_roundw
              case rel => exact ⟨f, mid + 1, hi, c' + 1, by go_num, by go_num, by go_num, by omega, by omega, by omega, by omega, hw2.out, by first | rfl | trivial⟩
              case measure => simp [intOf]; omega
          · have hr : binW X S (j + 1) 0 j c = (lo, c') := by rw [← hw, binW_stop hlo]
            obtain rfl : lo = hi := by omega
            have hst := hstep.out
            rw [hr] at hst
            replace hst := Lib.hid hst
            clear hw hr hcells
            have hle := Lib.hid (show (insAt S lo X ++ T).length = n by have := hTl.out; have := hlj.out; simp [insAt]; omega)
            have hwj0 : IntKind.i64.wrap ((j : Int) + 1) = (j : Int) + 1 := IntWalk.i64_in _ (by omega)
            have hwl0 : IntKind.i64.wrap ((lo : Int) + 1) = (lo : Int) + 1 := IntWalk.i64_in _ (by omega)
            obtain ⟨j1, hj1'⟩ : ∃ k, k = j + 1 := ⟨_, rfl⟩
            have hwj : IntKind.i64.wrap ((j : Int) + 1) = (j1 : Int) := by rw [hwj0, hj1']; simp
            clear hwj0
            have hp2 : (0 : Int) ≤ (j : Int) := by omega
            have hp4 : (0 : Int) ≤ (j1 : Int) := by omega
            have hp6 : (j1 : Int) ≤ (c0 : Int) := by omega
            have hcj : ¬ c0 = j := by omega
            have hsp := Lib.hid (insAt_splice S T j lo X hlj.out hhj)
            by_cases hlj2 : lo = j
            · subst hlj2
              clear hwl0
              have hq1 : lo ≤ j1 := by omega
              have hq2 : lo ≤ c0 := by omega
              have hq3 : ¬ j1 = lo := by omega
              have hq4 : j1 ≤ c0 := by omega
              have hp8 : (j1 : Int) ≤ max (j1 : Int) 0 := by omega
              have hp9 : (lo : Int) ≤ max (lo : Int) 0 := by omega
              by_cases hcj1 : j1 = c0
              · have hp7 : (c0 : Int) ≤ max (c0 : Int) 0 := by omega
                replace hj1' := Lib.hid hj1'
                go_wp2
                go_region_law (refine step_copy_ints rfl (.tmp 51) (.tmp 55) 24 24 rfl 3 (by kernel_rfl) (by kernel_rfl) _ _ _ _ _ _ (by simp [Act.eval, Act.put]; exact ⟨rfl, rfl, rfl⟩) (by simp [Act.eval, Act.put]; exact ⟨rfl, rfl, rfl⟩) 3 b off c0 _ hR.out (lo + 1) lo (lo - lo) (by have := hj1'.out; simp) (by intro h; omega) (by have := hTl.out; have := hlj.out; have := hj1'.out; simp; omega) (by have := hTl.out; have := hlj.out; have := hj1'.out; simp; omega) w.heap.size w (Below.drewN hbel.out 1) hbb.out ?_; intro w5 hr5 hb5)
                have hset := Lib.hid (Sl.set_splice hr5 (i := lo) (x := X) (by have := hTl.out; have := hlj.out; rw [length_splice_i _ _ _ _ (by simp; omega)]; simp; omega) hsp.out hle.out)
                have hfr5 := hr5.frozen (off + lo)
                have hc5 := hr5.cellInt (i := lo) (by have := hTl.out; have := hlj.out; rw [length_splice_i _ _ _ _ (by simp; omega)]; simp; omega)
                generalize gi (splice _ _ _) lo = G at hc5
                clear hr5 hsp
                replace hb5 := Lib.hid hb5
                go_wp2
                go_roundw
                case rel =>
                  have hmn : min (lo + 1) n = lo + 1 := by omega
                  have hK := hK1.out.trans hst.out
                  exact ⟨lo + 1, by omega, by omega, by rw [← hj1'.out]; first | done | rfl | rw [hcj1], by rw [hmn, hK]; first | done | rfl, by rw [hmn, hK, hT.out]; exact hset.out, Below.setCell hb5.out hbb.out _⟩
                case measure => have hjo := hj1'.out; simp [intOf]; omega
              · replace hj1' := Lib.hid hj1'
                go_wp2
                go_region_law (refine step_copy_ints rfl (.tmp 51) (.tmp 55) 24 24 rfl 3 (by kernel_rfl) (by kernel_rfl) _ _ _ _ _ _ (by simp [Act.eval, Act.put]; exact ⟨rfl, rfl, rfl⟩) (by simp [Act.eval, Act.put]; exact ⟨rfl, rfl, rfl⟩) 3 b off c0 _ hR.out (lo + 1) lo (lo - lo) (by have := hj1'.out; simp) (by intro h; omega) (by have := hTl.out; have := hlj.out; have := hj1'.out; simp; omega) (by have := hTl.out; have := hlj.out; have := hj1'.out; simp; omega) w.heap.size w (Below.drewN hbel.out 1) hbb.out ?_; intro w5 hr5 hb5)
                have hset := Lib.hid (Sl.set_splice hr5 (i := lo) (x := X) (by have := hTl.out; have := hlj.out; rw [length_splice_i _ _ _ _ (by simp; omega)]; simp; omega) hsp.out hle.out)
                have hfr5 := hr5.frozen (off + lo)
                have hc5 := hr5.cellInt (i := lo) (by have := hTl.out; have := hlj.out; rw [length_splice_i _ _ _ _ (by simp; omega)]; simp; omega)
                generalize gi (splice _ _ _) lo = G at hc5
                clear hr5 hsp
                replace hb5 := Lib.hid hb5
                go_wp2
                go_roundw
                case rel =>
                  have hmn : min (lo + 1) n = lo + 1 := by omega
                  have hK := hK1.out.trans hst.out
                  exact ⟨lo + 1, by omega, by omega, by rw [← hj1'.out]; first | done | rfl | rw [hcj1], by rw [hmn, hK]; first | done | rfl, by rw [hmn, hK, hT.out]; exact hset.out, Below.setCell hb5.out hbb.out _⟩
                case measure => have hjo := hj1'.out; simp [intOf]; omega
            · obtain ⟨lo1, hlo1⟩ : ∃ k, k = lo + 1 := ⟨_, rfl⟩
              have hwl : IntKind.i64.wrap ((lo : Int) + 1) = (lo1 : Int) := by rw [hwl0, hlo1]; simp
              clear hwl0
              have hq1 : lo1 ≤ j1 := by omega
              have hq2 : lo ≤ j := by omega
              have hq3 : j ≤ c0 := by omega
              have hq4 : j1 ≤ c0 := by omega
              have hp1 : (0 : Int) ≤ (lo : Int) := by omega
              have hp3 : (0 : Int) ≤ (lo1 : Int) := by omega
              have hp5 : (lo1 : Int) ≤ max (j1 : Int) 0 := by omega
              have hp9 : (lo : Int) ≤ max (j : Int) 0 := by omega
              have hcl : ¬ c0 = lo1 := by omega
              have hcl2 : ¬ c0 = lo := by omega
              replace hj1' := Lib.hid hj1'
              replace hlo1 := Lib.hid hlo1
              go_wp2
              go_region_law (refine step_copy_ints rfl (.tmp 51) (.tmp 55) 24 24 rfl 3 (by kernel_rfl) (by kernel_rfl) _ _ _ _ _ _ (by simp [Act.eval, Act.put]; exact ⟨rfl, rfl, rfl⟩) (by simp [Act.eval, Act.put]; exact ⟨rfl, rfl, rfl⟩) 3 b off c0 _ hR.out (lo + 1) lo (j - lo) (by have := hj1'.out; have := hlo1.out; show min _ _ = _; omega) (by intro _; exact ⟨by rw [hlo1.out], rfl⟩) (by have := hTl.out; have := hlj.out; have := hj1'.out; simp; omega) (by have := hTl.out; have := hlj.out; have := hj1'.out; simp; omega) w.heap.size w (Below.drewN hbel.out 1) hbb.out ?_; intro w5 hr5 hb5)
              have hset := Lib.hid (Sl.set_splice hr5 (i := lo) (x := X) (by have := hTl.out; have := hlj.out; rw [length_splice_i _ _ _ _ (by simp; omega)]; simp; omega) hsp.out hle.out)
              have hfr5 := hr5.frozen (off + lo)
              have hc5 := hr5.cellInt (i := lo) (by have := hTl.out; have := hlj.out; rw [length_splice_i _ _ _ _ (by simp; omega)]; simp; omega)
              generalize gi (splice _ _ _) lo = G at hc5
              clear hr5 hsp
              replace hb5 := Lib.hid hb5
              go_wp2
              go_roundw
              case rel =>
                have hmn : min (j + 1) n = j + 1 := by omega
                have hK := hK1.out.trans hst.out
                exact ⟨j + 1, by omega, by omega, by rw [← hj1'.out]; first | done | rfl | rw [hcj1], by rw [hmn, hK]; first | done | rfl, by rw [hmn, hK, hT.out]; exact hset.out, Below.setCell hb5.out hbb.out _⟩
              case measure => have hjo := hj1'.out; simp [intOf]; omega
      · have hmin : min j n = n := by omega
        rw [hmin] at hsl ⊢
        rw [drop_end (by rw [hn.out]; exact Nat.le_refl _), List.append_nil] at hsl
        replace hsl := Lib.hid hsl
        replace hbel := Lib.hid hbel
        go_wp2
        go_ret3
        have hfr : Fresh w wo (.slice ao n c0) (binK x n).1 := ⟨hsl.out, hbl.out, hbel.out⟩
        rw [hn.out]
        exact ⟨_, _, rfl, hfr.law.1, hfr.law.2.1, hfr.law.2.2, hlen.out⟩

theorem Row.rdTake {w : World} {e b off c lo : Nat} {S : List Int} (h : Row w e b off c (ints S)) (hl : lo ≤ S.length) : RdV w (.slice (some ⟨b, off, none⟩) lo c) (ints (S.take lo)) := by
  have := RdV.of_sl (Sl.of_row (h.take lo))
  simp only [List.length_take, ints_length, Nat.min_eq_left hl] at this
  simpa [ints, List.map_take] using this
theorem Row.rdDrop {w : World} {e b off c lo n : Nat} {S : List Int} (h : Row w e b off c (ints S)) (hl : lo ≤ S.length) (hn : S.length - lo = n) : RdV w (.slice (some ⟨b, off + lo, none⟩) n (c - lo)) (ints (S.drop lo)) := by
  have hc := h.le
  rw [ints_length] at hc
  have := RdV.of_sl (Sl.of_row (h.drop (k := lo) (by omega)))
  simp only [List.length_drop, ints_length, hn] at this
  simpa [ints, List.map_drop] using this
theorem RdV.none0 {w : World} {ad : Addr} {c : Nat} : RdV w (.slice (some ad) 0 c) (ints []) := ⟨some ad, c, rfl, fun h => by simp at h, fun _ _ j hj => absurd hj (by simp [ints])⟩

theorem RdV.new {w : World} {e : Nat} {y : Value} : RdV (w.alloc (.cells #[y] e)) (.slice (some ⟨w.heap.size, 0, none⟩) 1 1) [y] := by
  refine ⟨_, _, rfl, fun h => by simp at h, fun ad ha j hj => ?_⟩
  simp only [Option.some.injEq] at ha
  subst ha
  have : j = 0 := by simp at hj; omega
  subst this
  rw [Addr.add_lit]
  simp [go_sem]
theorem RdV.kept {w w' : World} {b o n c : Nat} {ys : List Value} (h : RdV w (.slice (some ⟨b, o, none⟩) n c) ys) (hb : w'.heap[b]? = w.heap[b]?) : RdV w' (.slice (some ⟨b, o, none⟩) n c) ys := by
  obtain ⟨ao, c', he, hn, hc⟩ := h
  refine ⟨ao, c', he, hn, fun ad ha j hj => ?_⟩
  rw [← hc ad ha j hj]
  simp only [Value.slice.injEq] at he
  obtain ⟨rfl, _⟩ := he
  simp only [Option.some.injEq] at ha
  subst ha
  have hadd : (⟨b, o, none⟩ : Addr).add j = ⟨b, o + j, none⟩ := by unfold Addr.add; split <;> simp_all
  rw [hadd]
  simp only [World.cell?, hb]
theorem Own.base {w : World} {e B B' : Nat} {v : Value} {xs : List Value} (h : Own w e B v xs) (hB : B' ≤ B) : Own w e B' v xs := by
  obtain ⟨h1, h2⟩ := h
  refine ⟨h1, ?_⟩
  rcases h2 with h2 | ⟨g, cap, cur, a, b, c⟩
  · exact .inl h2
  · exact .inr ⟨g, cap, cur, a, Nat.le_trans hB b, c⟩
theorem Own_insAt {w : World} {B j lo : Nat} {v : Value} {S : List Int} {X : Int} (h : Own w 3 B v ((([] ++ ints (S.take lo)) ++ [.int .i64 X]) ++ ints (S.drop lo))) (hS : S.length = j) (hl : lo ≤ j) :
    ∃ g cap, v = .slice (some ⟨g, 0, none⟩) (j + 1) cap ∧ Hid (Row w 3 g 0 cap (ints (insAt S lo X))) ∧ Hid (B ≤ g) := by
  have he : ((([] ++ ints (S.take lo)) ++ [.int .i64 X]) ++ ints (S.drop lo)) = ints (insAt S lo X) := by simp [ints, insAt]
  rw [he] at h
  have hn : (ints (insAt S lo X)).length = j + 1 := by simp [insAt]; omega
  unfold Own at h
  rw [hn] at h
  obtain ⟨g, cap, rfl, hg, _⟩ := World.ownsRow.form h (by omega)
  exact ⟨g, cap, rfl, Lib.hid (Row.of_owns h), Lib.hid hg⟩
theorem grownBy.rdNew {w w' : World} {k : Option Nat} {b o n c : Nat} {ys : List Value} (h : w.grownBy w' k) (hb : b < w.heap.size) (hk : k ≠ some b) (hr : RdV w (.slice (some ⟨b, o, none⟩) n c) ys) : RdV w' (.slice (some ⟨b, o, none⟩) n c) ys :=
  hr.kept (h.block b hb hk.symm)

set_option maxHeartbeats 4000000 in
theorem spec_BinaryInsertionSort_law {v : Value} {x : List Int} {F : List Nat} {w : World} (r : RIntS w v x F) :
    Calls Try.prog 38 #[v] w fun e w' => ∃ r F, e = .returned (.tuple #[r, .int .i64 (binR x).2.1, .bool (binR x).2.2]) ∧ RIntS w' r (binR x).1 F ∧ Fr w.heap.size F ∧ Below w.heap.size w w' ∧ (binR x).1.length ≤ 100000000000 := by
  have hv := Lib.hid r.1
  have hlen := Lib.hid (binR_len x)
  clear r
  cases h : vlist x
  · have e0 : binR x = ([], 0, false) := by simp [binR, h]
    rw [e0] at hlen ⊢
    clear e0
    replace hv := Lib.hid (hv.out.below (w' := w.alloc (.cells #[] 3)) ((Below.refl _ _).alloc (Nat.le_refl _) _) hv.out.lt)
    go_enter Try.func38, Try.ntmps38
    go_wp2_with fail
    refine (l2List_any _ _ _ (Sl.rd hv.out)).mono ?_
    rintro e w1 ⟨rfl, hb0⟩
    have hb : Below w.heap.size w w1 := by rw [← hb0]; exact (Below.refl _ _).alloc (Nat.le_refl _) _
    replace hb := Lib.hid hb
    replace hb0 := Lib.hid hb0
    go_wp2
    go_ret3
    have hfr : Fresh w w1 (.slice (some ⟨w.heap.size, 0, none⟩) 0 0) [] := by
      have := Fresh.empty (Below.refl w.heap.size w)
      rw [hb0.out] at this
      exact this
    exact ⟨_, _, rfl, hfr.law.1, hfr.law.2.1, hfr.law.2.2, hlen.out⟩
  · have e0 : binR x = ((binK x x.length).1, (binK x x.length).2, true) := by simp [binR, h]
    have hl := (vlist_iff.1 h).1
    rw [e0] at hlen ⊢
    clear e0
    replace hv := Lib.hid (hv.out.below (w' := w.alloc (.cells #[] 3)) ((Below.refl _ _).alloc (Nat.le_refl _) _) hv.out.lt)
    have hrow : Hid (Row (w.alloc (.cells #[] 3)) 3 w.heap.size 0 0 (ints [])) := Lib.hid (Row.of_owns (base := w.heap.size) (n := 0) (xs := ints []) (Own.empty w 3))
    obtain ⟨ao, c0, rfl, _⟩ := hv.out
    rw [ints_length] at hv ⊢
    go_enter Try.func38, Try.ntmps38
    go_wp2_with fail
    refine (l2List_any _ _ _ (Sl.rd hv.out)).mono ?_
    rintro e w1 ⟨rfl, hb0⟩
    have hb : Below w.heap.size w w1 := by rw [← hb0]; exact (Below.refl _ _).alloc (Nat.le_refl _) _
    rw [hb0] at hv hrow
    replace hb := Lib.hid hb
    clear hb0
    generalize hn : x.length = n at *
    replace hn := Lib.hid hn
    go_wp2
    go_loopw [5, 6, 7] (fun o c i wr => ∃ (j b2 c2 : Nat), j ≤ n ∧ i = .int .i64 (j : Nat) ∧ o = .slice (some ⟨b2, 0, none⟩) j c2 ∧ c = .int .i64 (binK x j).2 ∧
      Row wr 3 b2 0 c2 (ints (binK x j).1) ∧ w.heap.size ≤ b2 ∧ Below w1.heap.size w1 wr) (fun _ _ i _ => 200 - (intOf i).toNat)
    case atStart => exact ⟨0, _, _, Nat.zero_le _, rfl, rfl, rfl, hrow.out, Nat.le_refl _, Below.refl _ _⟩
    case round =>
      obtain ⟨wo, rfl⟩ : ∃ wo : World, wo = wr := ⟨_, rfl⟩
      obtain ⟨j, b2, c2, hjn, rfl, rfl, rfl, hR, hbb, hbel⟩ := hrel
      clear hrow
      have hlj := binK_length x j
      have hcc := binK_count x j
      have hsq : j * j ≤ 64 * 64 := Nat.mul_le_mul (by omega) (by omega)
      by_cases hlt : j < n
      · have hstep : binK x (j + 1) = (insAt (binK x j).1 (binW (gi x j) (binK x j).1 (j + 1) 0 j (binK x j).2).1 (gi x j), (binW (gi x j) (binK x j).1 (j + 1) 0 j (binK x j).2).2) := rfl
        generalize hK1 : binK x (j + 1) = K1 at *
        generalize hKj : binK x j = Kj at *
        obtain ⟨S, c⟩ := Kj
        dsimp only at hcc hR hstep hlj ⊢
        have hvo : Sl wo 3 (.slice ao n c0) (ints x) := hv.out.below hbel hv.out.lt
        obtain ⟨bl, ofl, rfl, hcap, hRl⟩ := hvo.rowInts (by omega)
        have hc1 : wo.cell? ⟨bl, ofl + j, none⟩ = some (.int .i64 (gi x j)) := hRl.cellInt (by omega)
        generalize hX : gi x j = X at *
        have hblo : Hid (bl < wo.heap.size) := Lib.hid hRl.lt
        clear hRl hvo hv
        have hcells : ∀ k, k < j → wo.cell? ⟨b2, 0 + k, none⟩ = some (.int .i64 (gi S k)) := fun k hk => hR.cellInt (i := k) (by omega)
        simp only [Nat.zero_add] at hcells
        have hcj : j ≤ c2 := by have := hR.le; rw [ints_length] at this; omega
        replace hK1 := Lib.hid hK1
        replace hKj := Lib.hid hKj
        replace hX := Lib.hid hX
        replace hR := Lib.hid hR
        replace hcells := Lib.hid hcells
        replace hbel := Lib.hid hbel
        replace hbb := Lib.hid hbb
        replace hlj := Lib.hid hlj
        replace hstep := Lib.hid hstep
        go_wp2
        go_loopw [6, 8, 9] (fun cc ll hh wq => ∃ (f lo hi c' k : Nat), ll = .int .i64 (lo : Nat) ∧ hh = .int .i64 (hi : Nat) ∧ cc = .int .i64 (c' : Nat) ∧ lo ≤ hi ∧ hi ≤ j ∧ hi < f + lo ∧ c' + hi ≤ c + j + lo ∧ binW X S f lo hi c' = binW X S (j + 1) 0 j c ∧ wq = wo.drewN k) (fun _ ll hh _ => (intOf hh).toNat - (intOf ll).toNat)
        case atStart => exact ⟨j + 1, 0, j, c, 0, rfl, rfl, rfl, by omega, Nat.le_refl _, by omega, by omega, rfl, rfl⟩
        case round =>
          obtain ⟨f, lo, hi, c', kk, rfl, rfl, rfl, hlh, hhj, hf, hcb, hw, rfl⟩ := hrel
          by_cases hlo : lo < hi
          · cases f with
            | zero => omega
            | succ f =>
            obtain ⟨mid, hmid⟩ : ∃ m, m = (lo + hi) / 2 := ⟨_, rfl⟩
            have hm1 : lo ≤ mid := by omega
            have hm2 : mid < hi := by omega
            have hm3 : mid < j := by omega
            have hcm := hcells.out mid (by omega)
            have e0 := fun h => binW_low (f := f) (c := c') (x := X) (l := S) hlo h
            have e1 := fun h => binW_high (f := f) (c := c') (x := X) (l := S) hlo h
            rw [← hmid] at e0 e1
            have hdv : (((lo : Int) + (hi : Int)).tdiv 2) = (mid : Int) := by
              rw [hmid]; rw [Int.tdiv_eq_ediv_of_nonneg (by omega)]; omega
            have hdv2 : (((lo : Int) + (hi : Int)) / 2) = (mid : Int) := by rw [hmid]; omega
            generalize hy : gi S mid = Y at *
            replace hmid := Lib.hid hmid
            have hp1 : (0 : Int) ≤ (mid : Int) := by omega
            have hp2 : (0 : Int) ≤ (j : Int) := by omega
            by_cases hxy : X < Y
            · have hw2 := Lib.hid ((e0 hxy).symm.trans hw)
              clear e0 e1 hw
              replace hy := Lib.hid hy
              go_wp2
              go_quiet (fail)
              go_wp2
              go_roundw
              case rel => exact ⟨f, lo, mid, c' + 1, _, by go_num, by go_num, by go_num, by omega, by omega, by omega, by omega, hw2.out, by first | exact World.drewN_drewN .. | rfl⟩
              case measure => simp [intOf]; omega
            · have hw2 := Lib.hid ((e1 hxy).symm.trans hw)
              clear e0 e1 hw
              replace hy := Lib.hid hy
              go_wp2
              go_quiet (fail)
              go_wp2
              go_roundw
              case rel => exact ⟨f, mid + 1, hi, c' + 1, _, by go_num, by go_num, by go_num, by omega, by omega, by omega, by omega, hw2.out, by first | exact World.drewN_drewN .. | rfl⟩
              case measure => simp [intOf]; omega
          · have hr : binW X S (j + 1) 0 j c = (lo, c') := by rw [← hw, binW_stop hlo]
            obtain rfl : lo = hi := by omega
            have hst := hstep.out
            rw [hr] at hst
            replace hst := Lib.hid hst
            clear hw hr hcells
            have hp1 : (0 : Int) ≤ (lo : Int) := by omega
            have hp2 : (0 : Int) ≤ (j : Int) := by omega
            have hq1 : lo ≤ j := by omega
            have hq2 : lo ≤ c2 := by omega
            have hn0 := Nat.le_refl wo.heap.size
            have hbW : Hid (Below wo.heap.size wo (wo.drewN (kk + 1))) := Lib.hid (Below.drewN (Below.refl _ _) _)
            have ho : Hid (Own ((wo.drewN (kk + 1)).alloc (.cells #[] 3)) 3 wo.heap.size (.slice (some ⟨wo.heap.size, 0, none⟩) 0 0) []) := Lib.hid (Own.empty (wo.drewN (kk + 1)) 3)
            have hoC : Hid (Own (((wo.drewN (kk + 1)).alloc (.cells #[.int .i64 X] 3)).alloc (.cells #[] 3)) 3 wo.heap.size (.slice (some ⟨wo.heap.size + 1, 0, none⟩) 0 0) []) :=
              Lib.hid ((show Own _ _ (wo.heap.size + 1) (.slice (some ⟨wo.heap.size + 1, 0, none⟩) 0 0) [] by simpa using Own.empty ((wo.drewN (kk + 1)).alloc (.cells #[.int .i64 X] 3)) 3).base (by omega))
            have hxC : Hid (RdV (((wo.drewN (kk + 1)).alloc (.cells #[.int .i64 X] 3)).alloc (.cells #[] 3)) (.slice (some ⟨wo.heap.size, 0, none⟩) 1 1) [.int .i64 X]) := Lib.hid ((RdV.new (w := wo.drewN (kk + 1)) (e := 3) (y := .int .i64 X)).kept (Below.heap_alloc _ _ _ (by simp)))
            have hbC : Hid (Below wo.heap.size wo (((wo.drewN (kk + 1)).alloc (.cells #[.int .i64 X] 3)).alloc (.cells #[] 3))) := Lib.hid (Below.alloc (Below.alloc hbW.out hn0 _) (by simp) _)
            have hsC : Hid (wo.heap.size ≤ (((wo.drewN (kk + 1)).alloc (.cells #[.int .i64 X] 3)).alloc (.cells #[] 3)).heap.size) := Lib.hid hbC.out.size
            have hkC : Hid (wo.heap.size < (((wo.drewN (kk + 1)).alloc (.cells #[.int .i64 X] 3)).alloc (.cells #[] 3)).heap.size) := Lib.hid (by simp; try omega)
            have hb2 := hR.out.lt
            have hcA := (Below.cell (Below.alloc hbW.out hn0 (.cells #[] 3)) (p := ⟨bl, ofl + j, none⟩) hblo.out).trans hc1
            have hT : Hid (∀ w', Below wo.heap.size wo w' → RdV w' (.slice (some ⟨b2, 0, none⟩) lo c2) (ints (S.take lo))) := Lib.hid fun w' hw' => (hR.out.below hw' hb2).rdTake (by have := hlj.out; omega)
            have hl1 : Hid (lo ≤ 64) := Lib.hid (by omega)
            have hl2 : Hid (j ≤ 64) := Lib.hid (by omega)
            by_cases hlc : c2 = lo
            · have hD : Hid (∀ w', Below wo.heap.size wo w' → RdV w' (.slice (some ⟨b2, 0, none⟩) 0 0) (ints (S.drop lo))) := Lib.hid fun w' hw' => by
                rw [List.drop_eq_nil_of_le (by have := hlj.out; omega)]; exact RdV.none0
              obtain rfl : lo = j := by omega
              go_wp2
              go_region_law (first
                | (refine step_append_all eltInt rfl (.tmp 44) (.tmp 47) rfl wo.heap.size (.slice (some ⟨wo.heap.size, 0, none⟩) 0 0) [] (by simp [Act.eval, Act.put]) ho.out (.slice (some ⟨b2, 0, none⟩) lo c2) (ints (S.take lo)) (by simp [Act.eval, Act.put]; try omega) (hT.out _ (Below.alloc hbW.out hn0 _)) (ints_one _) (by have := hl1.out; simp; omega) (by simp) ?_; intro v1 w3 ho1 hg1; have hb3 := Lib.hid (Below.appended (Below.alloc hbW.out hn0 _) ho.out hg1 (by simp)); clear hg1; replace ho1 := Lib.hid ho1; have hc3 := (Below.cell hb3.out (p := ⟨bl, ofl + lo, none⟩) hblo.out).trans hc1)
                | (refine step_append_all eltInt rfl (.tmp 44) (.tmp 47) rfl wo.heap.size (.slice (some ⟨wo.heap.size, 0, none⟩) 0 0) [] (by simp [Act.eval, Act.put]) (ho.out.alloc (.cells #[.int .i64 X] 3)) (.slice (some ⟨b2, 0, none⟩) lo c2) (ints (S.take lo)) (by simp [Act.eval, Act.put]; try omega) (hT.out _ (Below.alloc (Below.alloc hbW.out hn0 _) (by simp) _)) (ints_one _) (by have := hl1.out; simp; omega) (by simp; try omega) ?_; intro v1 w3 ho1 hg1; have hx3 := Lib.hid (grownBy.rdNew hg1 (b := wo.heap.size + 1) (by simp) (by simp [Value.ownBlock]) (by simpa using RdV.new (w := (wo.drewN (kk + 1)).alloc (.cells #[] 3)) (y := .int .i64 X))); have hb3 := Lib.hid (Below.appended (Below.alloc (Below.alloc hbW.out hn0 _) (by simp) _) (ho.out.alloc (.cells #[.int .i64 X] 3)) hg1 (by simp; try omega)); clear hg1; replace ho1 := Lib.hid ho1; have hc3 := (Below.cell hb3.out (p := ⟨bl, ofl + lo, none⟩) hblo.out).trans hc1)
                | (refine step_append_all eltInt rfl (.tmp 44) (.tmp 47) rfl wo.heap.size (.slice (some ⟨wo.heap.size + 1, 0, none⟩) 0 0) [] (by simp [Act.eval, Act.put]) hoC.out (.slice (some ⟨b2, 0, none⟩) lo c2) (ints (S.take lo)) (by simp [Act.eval, Act.put]; try omega) (hT.out _ hbC.out) (ints_one _) (by have := hl1.out; simp; omega) hsC.out ?_; intro v1 w3 ho1 hg1; have hx3 := Lib.hid (grownBy.rdNew hg1 (b := wo.heap.size) hkC.out (by simp [Value.ownBlock]) hxC.out); have hb3 := Lib.hid (Below.appended hbC.out hoC.out hg1 hsC.out); clear hg1; replace ho1 := Lib.hid ho1; have hc3 := (Below.cell hb3.out (p := ⟨bl, ofl + lo, none⟩) hblo.out).trans hc1)
                | (refine step_append_all eltInt rfl (.tmp 48) (.tmp 53) rfl wo.heap.size v1 _ (by simp [Act.eval, Act.put]) (ho1.out.alloc _) (.slice (some ⟨w3.heap.size, 0, none⟩) 1 1) [.int .i64 X] (by simp [Act.eval, Act.put]) RdV.new (ints_one [X]) (by have := hl1.out; simp; omega) (by have := hb3.out.size; simp; omega) ?_; intro v2 w4 ho2 hg2; have hb4 := Lib.hid (Below.appended (Below.alloc hb3.out hb3.out.size _) (ho1.out.alloc _) hg2 (by have := hb3.out.size; simp; omega)); clear hg2; replace ho2 := Lib.hid ho2)
                | (refine step_append_all eltInt rfl (.tmp 48) (.tmp 53) rfl wo.heap.size v1 _ (by simp [Act.eval, Act.put]) ho1.out (.slice (some ⟨wo.heap.size + 1, 0, none⟩) 1 1) [.int .i64 X] (by simp [Act.eval, Act.put]) hx3.out (ints_one [X]) (by have := hl1.out; simp; omega) (by have := hb3.out.size; simp; omega) ?_; intro v2 w4 ho2 hg2; have hb4 := Lib.hid (Below.appended hb3.out ho1.out hg2 hb3.out.size); clear hg2; replace ho2 := Lib.hid ho2)
                | (refine step_append_all eltInt rfl (.tmp 48) (.tmp 53) rfl wo.heap.size v1 _ (by simp [Act.eval, Act.put]) ho1.out (.slice (some ⟨wo.heap.size, 0, none⟩) 1 1) [.int .i64 X] (by simp [Act.eval, Act.put]) hx3.out (ints_one [X]) (by have := hl1.out; simp; omega) (by have := hb3.out.size; simp; omega) ?_; intro v2 w4 ho2 hg2; have hb4 := Lib.hid (Below.appended hb3.out ho1.out hg2 hb3.out.size); clear hg2; replace ho2 := Lib.hid ho2)
                | (refine step_append_all eltInt rfl (.tmp 54) (.tmp 57) rfl wo.heap.size v2 _ (by simp [Act.eval, Act.put]) ho2.out (.slice (some ⟨b2, 0, none⟩) 0 0) (ints (S.drop lo)) (by simp [Act.eval, Act.put]) (hD.out _ hb4.out) (ints_one _) (by have := hl1.out; have := hl2.out; have := hlj.out; simp; omega) (by have := hb4.out.size; simp; omega) ?_; intro v3 w5 ho3 hg3; have hb5 := Lib.hid (Below.appended hb4.out ho2.out hg3 hb4.out.size); clear hg3; obtain ⟨g, cap, rfl, hR5, hg5⟩ := Own_insAt ho3 hlj.out hq1; clear ho3))
              all_goals
                go_wp2
                go_roundw
                case rel => exact ⟨lo + 1, g, cap, by omega, by go_num, rfl, by rw [hK1.out, hst.out], by rw [hK1.out, hst.out]; exact hR5.out, Nat.le_trans (Nat.le_trans hb.out.size hbel.out.size) hg5.out, hbel.out.trans (hb5.out.mono hbel.out.size)⟩
                case measure => simp [intOf]; omega
            · have hD : Hid (∀ w', Below wo.heap.size wo w' → RdV w' (.slice (some ⟨b2, lo, none⟩) (j - lo) (c2 - lo)) (ints (S.drop lo))) := Lib.hid fun w' hw' => by
                have := (hR.out.below hw' hb2).rdDrop (lo := lo) (n := j - lo) (by have := hlj.out; omega) (by rw [hlj.out])
                simpa using this
              go_wp2
              go_region_law (first
                | (refine step_append_all eltInt rfl (.tmp 44) (.tmp 47) rfl wo.heap.size (.slice (some ⟨wo.heap.size, 0, none⟩) 0 0) [] (by simp [Act.eval, Act.put]) ho.out (.slice (some ⟨b2, 0, none⟩) lo c2) (ints (S.take lo)) (by simp [Act.eval, Act.put]; try omega) (hT.out _ (Below.alloc hbW.out hn0 _)) (ints_one _) (by have := hl1.out; simp; omega) (by simp) ?_; intro v1 w3 ho1 hg1; have hb3 := Lib.hid (Below.appended (Below.alloc hbW.out hn0 _) ho.out hg1 (by simp)); clear hg1; replace ho1 := Lib.hid ho1; have hc3 := (Below.cell hb3.out (p := ⟨bl, ofl + j, none⟩) hblo.out).trans hc1)
                | (refine step_append_all eltInt rfl (.tmp 44) (.tmp 47) rfl wo.heap.size (.slice (some ⟨wo.heap.size, 0, none⟩) 0 0) [] (by simp [Act.eval, Act.put]) (ho.out.alloc (.cells #[.int .i64 X] 3)) (.slice (some ⟨b2, 0, none⟩) lo c2) (ints (S.take lo)) (by simp [Act.eval, Act.put]; try omega) (hT.out _ (Below.alloc (Below.alloc hbW.out hn0 _) (by simp) _)) (ints_one _) (by have := hl1.out; simp; omega) (by simp; try omega) ?_; intro v1 w3 ho1 hg1; have hx3 := Lib.hid (grownBy.rdNew hg1 (b := wo.heap.size + 1) (by simp) (by simp [Value.ownBlock]) (by simpa using RdV.new (w := (wo.drewN (kk + 1)).alloc (.cells #[] 3)) (y := .int .i64 X))); have hb3 := Lib.hid (Below.appended (Below.alloc (Below.alloc hbW.out hn0 _) (by simp) _) (ho.out.alloc (.cells #[.int .i64 X] 3)) hg1 (by simp; try omega)); clear hg1; replace ho1 := Lib.hid ho1; have hc3 := (Below.cell hb3.out (p := ⟨bl, ofl + j, none⟩) hblo.out).trans hc1)
                | (refine step_append_all eltInt rfl (.tmp 44) (.tmp 47) rfl wo.heap.size (.slice (some ⟨wo.heap.size + 1, 0, none⟩) 0 0) [] (by simp [Act.eval, Act.put]) hoC.out (.slice (some ⟨b2, 0, none⟩) lo c2) (ints (S.take lo)) (by simp [Act.eval, Act.put]; try omega) (hT.out _ hbC.out) (ints_one _) (by have := hl1.out; simp; omega) hsC.out ?_; intro v1 w3 ho1 hg1; have hx3 := Lib.hid (grownBy.rdNew hg1 (b := wo.heap.size) hkC.out (by simp [Value.ownBlock]) hxC.out); have hb3 := Lib.hid (Below.appended hbC.out hoC.out hg1 hsC.out); clear hg1; replace ho1 := Lib.hid ho1; have hc3 := (Below.cell hb3.out (p := ⟨bl, ofl + j, none⟩) hblo.out).trans hc1)
                | (refine step_append_all eltInt rfl (.tmp 48) (.tmp 53) rfl wo.heap.size v1 _ (by simp [Act.eval, Act.put]) (ho1.out.alloc _) (.slice (some ⟨w3.heap.size, 0, none⟩) 1 1) [.int .i64 X] (by simp [Act.eval, Act.put]) RdV.new (ints_one [X]) (by have := hl1.out; simp; omega) (by have := hb3.out.size; simp; omega) ?_; intro v2 w4 ho2 hg2; have hb4 := Lib.hid (Below.appended (Below.alloc hb3.out hb3.out.size _) (ho1.out.alloc _) hg2 (by have := hb3.out.size; simp; omega)); clear hg2; replace ho2 := Lib.hid ho2)
                | (refine step_append_all eltInt rfl (.tmp 48) (.tmp 53) rfl wo.heap.size v1 _ (by simp [Act.eval, Act.put]) ho1.out (.slice (some ⟨wo.heap.size + 1, 0, none⟩) 1 1) [.int .i64 X] (by simp [Act.eval, Act.put]) hx3.out (ints_one [X]) (by have := hl1.out; simp; omega) (by have := hb3.out.size; simp; omega) ?_; intro v2 w4 ho2 hg2; have hb4 := Lib.hid (Below.appended hb3.out ho1.out hg2 hb3.out.size); clear hg2; replace ho2 := Lib.hid ho2)
                | (refine step_append_all eltInt rfl (.tmp 48) (.tmp 53) rfl wo.heap.size v1 _ (by simp [Act.eval, Act.put]) ho1.out (.slice (some ⟨wo.heap.size, 0, none⟩) 1 1) [.int .i64 X] (by simp [Act.eval, Act.put]) hx3.out (ints_one [X]) (by have := hl1.out; simp; omega) (by have := hb3.out.size; simp; omega) ?_; intro v2 w4 ho2 hg2; have hb4 := Lib.hid (Below.appended hb3.out ho1.out hg2 hb3.out.size); clear hg2; replace ho2 := Lib.hid ho2)
                | (refine step_append_all eltInt rfl (.tmp 54) (.tmp 57) rfl wo.heap.size v2 _ (by simp [Act.eval, Act.put]) ho2.out (.slice (some ⟨b2, lo, none⟩) (j - lo) (c2 - lo)) (ints (S.drop lo)) (by simp [Act.eval, Act.put]) (hD.out _ hb4.out) (ints_one _) (by have := hl1.out; have := hl2.out; have := hlj.out; simp; omega) (by have := hb4.out.size; simp; omega) ?_; intro v3 w5 ho3 hg3; have hb5 := Lib.hid (Below.appended hb4.out ho2.out hg3 hb4.out.size); clear hg3; obtain ⟨g, cap, rfl, hR5, hg5⟩ := Own_insAt ho3 hlj.out hq1; clear ho3))
              all_goals
                go_wp2
                go_roundw
                case rel => exact ⟨j + 1, g, cap, by omega, by go_num, rfl, by rw [hK1.out, hst.out], by rw [hK1.out, hst.out]; exact hR5.out, Nat.le_trans (Nat.le_trans hb.out.size hbel.out.size) hg5.out, hbel.out.trans (hb5.out.mono hbel.out.size)⟩
                case measure => simp [intOf]; omega
      · have hjn2 : j = n := by omega
        subst hjn2
        replace hR := Lib.hid hR
        replace hbel := Lib.hid hbel
        go_wp2
        go_ret3
        have hs := Sl.of_row hR.out
        rw [ints_length, hlj] at hs
        have hfr : Fresh w wo (.slice (some ⟨b2, 0, none⟩) j c2) (binK x j).1 := ⟨hs, fun k hk => by simp [Value.ownBlock] at hk; omega, hb.out.trans (hbel.out.mono hb.out.size)⟩
        rw [hn.out]
        exact ⟨_, _, rfl, hfr.law.1, hfr.law.2.1, hfr.law.2.2, hlen.out⟩
end Go.Proofs.Ytbfffpdcpoejnaa
