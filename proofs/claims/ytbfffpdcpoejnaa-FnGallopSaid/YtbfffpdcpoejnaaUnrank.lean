/- UnrankPermutation. -/
import Derived.Test.YtbfffpdcpoejnaaDel
import Derived.Test.YtbfffpdcpoejnaaRank
import Derived.Maps.AppendAt
namespace Go.Proofs.Ytbfffpdcpoejnaa
open Go.RowKit
set_option linter.unusedVariables false
set_option linter.unusedSimpArgs false

def iotaI : Nat → List Int
  | 0 => []
  | n + 1 => iotaI n ++ [(n : Int)]
theorem iotaI_length (n : Nat) : (iotaI n).length = n := by
  induction n with
  | zero => rfl
  | succ n ih => simp [iotaI, ih]
/-- List l without its element at place k. -/
def dropAt (l : List Int) (k : Nat) : List Int := l.take k ++ l.drop (k + 1)
/-- Out, the rest and the rank behind j rounds. -/
def unK (n r : Nat) : Nat → List Int × List Int × Nat
  | 0 => ([], iotaI n, r)
  | j + 1 => ((unK n r j).1 ++ [gi (unK n r j).2.1 ((unK n r j).2.2 / fct (n - j - 1))], dropAt (unK n r j).2.1 ((unK n r j).2.2 / fct (n - j - 1)), (unK n r j).2.2 % fct (n - j - 1))
theorem unK_facts {n r : Nat} (hr : r < fct n) : ∀ j, j ≤ n → (unK n r j).1.length = j ∧ (unK n r j).2.1.length = n - j ∧ (unK n r j).2.2 < fct (n - j) := by
  intro j
  induction j with
  | zero => intro _; exact ⟨rfl, iotaI_length n, hr⟩
  | succ j ih =>
    intro hj
    obtain ⟨h1, h2, h3⟩ := ih (by omega)
    have hp := fct_pos (n - j - 1)
    have hk : (unK n r j).2.2 / fct (n - j - 1) < n - j := by
      rw [Nat.div_lt_iff_lt_mul hp]
      have := fct_next (n - j) (by omega)
      rw [Nat.mul_comm] at this
      omega
    refine ⟨by simp [unK, h1], by simp [unK, dropAt, h2]; omega, ?_⟩
    rw [unK]
    have := Nat.mod_lt (unK n r j).2.2 hp
    rw [show n - (j + 1) = n - j - 1 by omega]
    exact this
theorem unK_place {n r j : Nat} (hr : r < fct n) (hj : j < n) : (unK n r j).2.2 / fct (n - j - 1) < n - j := by
  obtain ⟨h1, h2, h3⟩ := unK_facts hr j (by omega)
  rw [Nat.div_lt_iff_lt_mul (fct_pos _)]
  have := fct_next (n - j) (by omega)
  rw [Nat.mul_comm] at this
  omega
/-- The result of UnrankPermutation. -/
def unR (n r : Int) : List Int × Bool := if inB n 0 10 then (if inB r 0 ((fct n.toNat : Nat) - 1) then ((unK n.toNat r.toNat n.toNat).1, true) else ([], false)) else ([], false)
theorem unR_len (n r : Int) : (unR n r).1.length ≤ 100000000000 := by
  unfold unR
  split
  · rename_i h
    split
    · rename_i h2
      have h' := inB_iff.1 h
      have h2' := inB_iff.1 h2
      have := (unK_facts (n := n.toNat) (r := r.toNat) (by omega) n.toNat (Nat.le_refl _)).1
      dsimp only
      omega
    · simp
  · simp

def slLen : Value → Nat
  | .slice _ n _ => n
  | _ => 0
theorem Sl.apart {w w' : World} {e : Nat} {v : Value} {xs : List Value} {k : Option Nat} (h : Sl w e v xs) (hg : w.grownBy w' k) (hne : ∀ b, v.ownBlock = some b → k ≠ some b) : Sl w' e v xs :=
  h.of_block fun b hb => hg.block b (h.lt b hb) (hne b hb).symm

theorem Own_dropAt {w : World} {B m k : Nat} {v : Value} {L : List Int} (h : Own w 3 B v (([] ++ ints (L.take k)) ++ ints (L.drop (k + 1)))) (hL : L.length = m + 1) (hk : k < m + 1) :
    ∃ ao c, v = .slice ao m c ∧ Hid (Own w 3 B (.slice ao m c) (ints (dropAt L k))) := by
  have he : (([] ++ ints (L.take k)) ++ ints (L.drop (k + 1))) = ints (dropAt L k) := by simp [ints, dropAt]
  rw [he] at h
  obtain ⟨ao, c, rfl, _⟩ := h.sl
  have hn : (ints (dropAt L k)).length = m := by simp [dropAt]; omega
  rw [hn] at h ⊢
  exact ⟨ao, c, rfl, Lib.hid h⟩

set_option maxHeartbeats 4000000 in
theorem spec_UnrankPermutation_law {n r : Int} {w : World} (hn0 : -9223372036854775808 ≤ n ∧ n ≤ 9223372036854775807) (hr0 : -9223372036854775808 ≤ r ∧ r ≤ 9223372036854775807) :
    Calls Try.prog 33 #[.int .i64 n, .int .i64 r] w fun e w' => ∃ v F, e = .returned (.tuple #[v, .bool (unR n r).2]) ∧ RIntS w' v (unR n r).1 F ∧ Fr w.heap.size F ∧ Below w.heap.size w w' ∧ (unR n r).1.length ≤ 100000000000 := by
  have hlen := Lib.hid (unR_len n r)
  have hfe := Lib.hid (Fresh.empty (Below.refl w.heap.size w))
  cases h1 : inB n 0 10
  · have e0 : unR n r = ([], false) := by simp [unR, h1]
    rw [e0] at hlen ⊢
    clear e0
    go_enter Try.func33, Try.ntmps33
    go_wp2_with (go_at_call 80; refine (l1In_any _ _ _ _).mono ?_; rintro e w' ⟨rfl, rfl⟩)
    go_ret2
    exact ⟨_, _, rfl, hfe.out.law.1, hfe.out.law.2.1, hfe.out.law.2.2, hlen.out⟩
  have hn' := inB_iff.1 h1
  obtain ⟨N, rfl⟩ := Int.eq_ofNat_of_zero_le hn'.1
  have hN : N ≤ 10 := by omega
  have hfb := fct_bd N hN
  have hfp := fct_pos N
  cases h2 : inB r 0 ((fct N : Nat) - 1)
  · have e0 : unR N r = ([], false) := by simp [unR, h1, h2]
    rw [e0] at hlen ⊢
    clear e0 hn0
    generalize hK : fct N = K at *
    replace hK := Lib.hid hK
    go_enter Try.func33, Try.ntmps33
    go_wp2_with (first | (go_at_call 80; refine (l1In_any _ _ _ _).mono ?_; rintro e w' ⟨rfl, rfl⟩) | (go_at_call 72; refine (l3Factorial_any N _ hN).mono ?_; rintro e w' ⟨rfl, rfl⟩; rw [hK.out]))
    go_ret2
    exact ⟨_, _, rfl, hfe.out.law.1, hfe.out.law.2.1, hfe.out.law.2.2, hlen.out⟩
  have hr' := inB_iff.1 h2
  obtain ⟨R, rfl⟩ := Int.eq_ofNat_of_zero_le hr'.1
  have hR : R < fct N := by omega
  have e0 : unR N R = ((unK N R N).1, true) := by simp [unR, h1, h2]
  rw [e0] at hlen ⊢
  clear e0 hn0 hr0 hn' hr'
  replace hR := Lib.hid hR
  generalize hK : fct N = K at *
  replace hK := Lib.hid hK
  go_enter Try.func33, Try.ntmps33
  go_wp2_with (first | (go_at_call 80; refine (l1In_any _ _ _ _).mono ?_; rintro e w' ⟨rfl, rfl⟩) | (go_at_call 72; refine (l3Factorial_any N _ hN).mono ?_; rintro e w' ⟨rfl, rfl⟩; rw [hK.out]))
  have hfN := hK.out
  obtain ⟨B1, hB1⟩ : ∃ B1, B1 = w.heap.size + 1 := ⟨_, rfl⟩
  have hsz1 : (w.alloc (.cells #[] 3)).heap.size = B1 := by rw [hB1]; simp
  have hown0 := Lib.hid (Own.empty (w.alloc (.cells #[] 3)) 3)
  rw [hsz1, hB1] at hown0
  have hb0 : Hid (Below B1 (w.alloc (.cells #[] 3)) ((w.alloc (.cells #[] 3)).alloc (.cells #[] 3))) := Lib.hid ((Below.refl _ _).alloc (by rw [hsz1]; exact Nat.le_refl _) _)
  have hout0 := Lib.hid (Own.empty w 3)
  replace hsz1 := Lib.hid hsz1
  replace hB1 := Lib.hid hB1
  clear hfN
  go_loopw [7, 8] (fun l i wr => ∃ j : Nat, j ≤ N ∧ i = .int .i64 (j : Nat) ∧ Own wr 3 (w.heap.size + 1) l (ints (iotaI j)) ∧ Below B1 (w.alloc (.cells #[] 3)) wr) (fun _ i _ => 12 - (intOf i).toNat)
  case atStart => exact ⟨0, Nat.zero_le _, rfl, hown0.out, hb0.out⟩
  case round =>
    obtain ⟨j, hj, rfl, hown, hbel⟩ := hrel
    by_cases hlt : j < N
    · have hs : B1 ≤ wr.heap.size := by have := hbel.size; rw [hsz1.out] at this; exact this
      have hs' : w.heap.size + 1 ≤ wr.heap.size := by have := hB1.out; omega
      replace hown := Lib.hid hown
      replace hbel := Lib.hid hbel
      go_wp2_with (at_builtin; refine wpList_append_one eltInt rfl _ _ rfl (w.heap.size + 1) _ _ rfl hown.out rfl rfl (by rw [ints_length, iotaI_length]; omega) hs' ?_)
      intro v' w1 ho hg
      have hb1 := Lib.hid (Below.appended hbel.out (hown.out.base (B' := B1) (by have := hB1.out; omega)) hg hs)
      replace ho := Lib.hid ho
      clear hg
      go_wp2
      go_roundw
      case rel => exact ⟨j + 1, by omega, by go_num, by have := ho.out; simpa [iotaI, ints] using this, hb1.out⟩
      case measure => simp [intOf]; omega
    · have hjN : j = N := by omega
      subst hjN
      have houtj := Lib.hid (hout0.out.below (w' := wr) (by rw [hsz1.out]; exact hbel))
      have hbw := Lib.hid (((Below.refl w.heap.size w).alloc (Nat.le_refl _) (.cells #[] 3)).trans (hbel.mono (by have := hB1.out; omega)))
      have hsl0 := hown.sl
      have hlt0 := hown.lt
      obtain ⟨ao, c0, rfl, _⟩ := hsl0
      rw [ints_length, iotaI_length] at hown hlt0 ⊢
      have hown' := Lib.hid hown
      have hlt' := Lib.hid hlt0
      clear hown hlt0 hbel hown0 hb0 hout0
      go_wp2
      go_loopw [1, 6, 7] (fun rk o l wr => ∃ (i : Nat) (ao : Option Addr) (c0 : Nat), i ≤ j ∧ rk = .int .i64 ((unK j R i).2.2 : Nat) ∧ l = .slice ao (j - i) c0 ∧ Own wr 3 w.heap.size o (ints (unK j R i).1) ∧
        Sl wr 3 (.slice ao (j - i) c0) (ints (unK j R i).2.1) ∧ (∀ b, (Value.slice ao (j - i) c0).ownBlock = some b → o.ownBlock ≠ some b) ∧ Below w.heap.size w wr) (fun _ _ l _ => slLen l)
      case atStart =>
        exact ⟨0, ao, c0, Nat.zero_le _, rfl, rfl, houtj.out, hown'.out.sl, fun b hb h => by have := hlt'.out b hb; simp [Value.ownBlock] at h; omega, hbw.out⟩
      case round =>
        clear hbw houtj hlt' hown'
        obtain ⟨i, ao, c0, hij, rfl, rfl, hown, hsl, hne, hbel⟩ := hrel
        obtain ⟨f1, f2, f3⟩ := unK_facts (n := j) (r := R) (by rw [hK.out]; exact hR.out) i hij
        by_cases hlt2 : i < j
        · have hpl := unK_place (n := j) (r := R) (j := i) (by rw [hK.out]; exact hR.out) hlt2
          have hstep : unK j R (i + 1) = ((unK j R i).1 ++ [gi (unK j R i).2.1 ((unK j R i).2.2 / fct (j - i - 1))], dropAt (unK j R i).2.1 ((unK j R i).2.2 / fct (j - i - 1)), (unK j R i).2.2 % fct (j - i - 1)) := rfl
          have hbd1 := fct_bd (j - i) (by omega)
          have hbd2 := fct_bd (j - i - 1) (by omega)
          have hpos := fct_pos (j - i - 1)
          have hj11 : j - i - 1 ≤ 10 := by omega
          generalize hK1 : unK j R (i + 1) = K1 at *
          generalize hKi : unK j R i = Ki at *
          obtain ⟨O, L, rk⟩ := Ki
          dsimp only at f1 f2 f3 hpl hstep hown hsl hne ⊢
          obtain ⟨m, hm⟩ : ∃ m, m = j - i - 1 := ⟨_, rfl⟩
          have hm1 : j - i = m + 1 := by omega
          rw [← hm] at hpl hstep hbd2 hpos hj11
          rw [hm1] at hpl hsl hne f2 f3 hbd1 ⊢
          have hfct := l3Factorial_any m
          generalize hf : fct m = f at *
          have hdv : ((rk : Int)).tdiv (f : Int) = ((rk / f : Nat) : Int) := by
            rw [Int.tdiv_eq_ediv_of_nonneg (by omega)]; exact (Int.natCast_ediv rk f).symm
          have hdv2 : ((rk : Int)) / (f : Int) = ((rk / f : Nat) : Int) := (Int.natCast_ediv rk f).symm
          have hmd : ((rk : Int)).tmod (f : Int) = ((rk % f : Nat) : Int) := by
            rw [Int.tmod_eq_emod_of_nonneg (by omega)]; exact (Int.natCast_emod rk f).symm
          have hmd2 : ((rk : Int)) % (f : Int) = ((rk % f : Nat) : Int) := (Int.natCast_emod rk f).symm
          have hmlt : rk % f < f := Nat.mod_lt _ hpos
          generalize rk / f = k at *
          generalize rk % f = rm at *
          obtain ⟨b, off, rfl, hcap, hRow⟩ := hsl.rowInts (by omega)
          have hc1 : wr.cell? ⟨b, off + k, none⟩ = some (.int .i64 (gi L k)) := hRow.cellInt (by omega)
          have hcc : m + 1 ≤ c0 := by have := hRow.le; rw [ints_length] at this; omega
          have hneb := hne b rfl
          have hsz : w.heap.size ≤ wr.heap.size := hbel.size
          have hol : (ints O).length ≤ 1000000000 := by rw [ints_length]; omega
          generalize hX : gi L k = X at *
          replace hX := Lib.hid hX
          replace hK1 := Lib.hid hK1
          replace hKi := Lib.hid hKi
          replace hstep := Lib.hid hstep
          replace hown := Lib.hid hown
          replace hRow := Lib.hid hRow
          replace hbel := Lib.hid hbel
          replace hf := Lib.hid hf
          replace hm := Lib.hid hm
          replace hm1 := Lib.hid hm1
          replace hneb := Lib.hid hneb
          replace hfct := Lib.hid hfct
          clear hsl hne
          have hfne : ¬ (f : Int) = 0 := by omega
          have hp1 : (0 : Int) ≤ (k : Int) := by omega
          go_wp2_with (first | (at_builtin; refine wpList_append_one eltInt rfl _ _ rfl w.heap.size _ _ rfl hown.out rfl rfl hol hsz ?_) | (go_at_call 72; refine (hfct.out _ hj11).mono ?_; rintro e w' ⟨rfl, rfl⟩))
          intro v2 w3 ho2 hg2
          have hb3 := Lib.hid (Below.appended hbel.out hown.out hg2 hsz)
          have hRow3 := Lib.hid (hRow.out.grown hg2 (fun h => hneb.out h.symm))
          have ho2s : Own w3 3 w.heap.size v2 (ints (O ++ [X])) := by simpa [ints] using ho2
          have hlt3 := ho2.lt
          replace hlt3 := Lib.hid hlt3
          replace ho2s := Lib.hid ho2s
          clear hg2 ho2 hown hbel hRow hneb hc1 hfct hdv hdv2 hmd hmd2 hfne
          have hn0 := Nat.le_refl w3.heap.size
          have hbW : Hid (Below w3.heap.size w3 w3.drew) := Lib.hid (Below.drewN (Below.refl _ _) 1)
          have ho : Hid (Own (w3.drew.alloc (.cells #[] 3)) 3 w3.heap.size (.slice (some ⟨w3.heap.size, 0, none⟩) 0 0) []) := Lib.hid (Own.empty w3.drew 3)
          have hb2 := hRow3.out.lt
          have hT : Hid (∀ w', Below w3.heap.size w3 w' → RdV w' (.slice (some ⟨b, off, none⟩) k c0) (ints (L.take k))) := Lib.hid fun w' hw' => (hRow3.out.below hw' hb2).rdTake (by omega)
          have hL1 : Hid ((ints (L.take k)).length ≤ 1000) := Lib.hid (by simp; omega)
          have hL2 : Hid ((ints (L.drop (k + 1))).length ≤ 1000) := Lib.hid (by simp; omega)
          have hwk : IntKind.i64.wrap ((k : Int) + 1) = (k : Int) + 1 := IntWalk.i64_in _ (by omega)
          obtain ⟨k1, hk1⟩ : ∃ k1, k1 = k + 1 := ⟨_, rfl⟩
          have hwk1 : IntKind.i64.wrap ((k : Int) + 1) = (k1 : Int) := by rw [hwk, hk1]; simp
          clear hwk
          have hq1 : k1 ≤ m + 1 := by omega
          have hq2 : (k1 : Int) ≤ (m : Int) + 1 := by omega
          have hq3 : (k : Int) ≤ (c0 : Int) := by omega
          have hq4 : k ≤ c0 := by omega
          have hq5 : ¬ c0 = k := by omega
          have hq6 : (0 : Int) ≤ (k1 : Int) := by omega
          by_cases hck : k1 = c0
          · have hD : Hid (∀ w', Below w3.heap.size w3 w' → RdV w' (.slice (some ⟨b, off, none⟩) 0 0) (ints (L.drop (k + 1)))) := Lib.hid fun w' hw' => by
              rw [List.drop_eq_nil_of_le (by omega)]; exact RdV.none0
            obtain rfl : k = m := by omega
            obtain rfl : c0 = k + 1 := by omega
            have hwm : IntKind.i64.wrap ((k : Int) + 1) = (k : Int) + 1 := IntWalk.i64_in _ (by omega)
            have hz1 : (0 : Int) ≤ (k : Int) + 1 := by omega
            have hz3 : (k : Int) ≤ (k : Int) + 1 := by omega
            have hz2 : ((k : Int) + 1).toNat = k + 1 := by omega
            clear hwk1 hq1 hq2 hq3 hq4 hq5 hq6 hk1 hck
            clear k1
            go_wp2
            go_region_law? (first
              | (refine step_append_all eltInt rfl (.tmp 54) (.tmp 57) rfl w3.heap.size (.slice (some ⟨w3.heap.size, 0, none⟩) 0 0) [] (by simp [Act.eval, Act.put]) ho.out (.slice (some ⟨b, off, none⟩) k (k + 1)) (ints (L.take k)) (by simp [Act.eval, Act.put]; try omega) (hT.out _ (Below.alloc hbW.out hn0 _)) (ints_one _) (by have := hL1.out; simp only [List.length_nil]; omega) (by simp) ?_; intro v3 w4 ho3 hg3; have hb4 := Lib.hid (Below.appended (Below.alloc hbW.out hn0 _) ho.out hg3 (by simp)); clear hg3; replace ho3 := Lib.hid ho3)
              | (refine step_append_all eltInt rfl (.tmp 58) (.tmp 62) rfl w3.heap.size v3 ([] ++ ints (L.take k)) (by simp [Act.eval, Act.put]) ho3.out (.slice (some ⟨b, off, none⟩) 0 0) (ints (L.drop (k + 1))) (by simp [Act.eval, Act.put]; try omega) (hD.out _ hb4.out) (ints_one _) (by have := hL1.out; have := hL2.out; simp only [List.nil_append]; omega) hb4.out.size ?_; intro v4 w5 ho4 hg4; have hb5 := Lib.hid (Below.appended hb4.out ho3.out hg4 hb4.out.size); clear hg4; obtain ⟨ao4, c4, rfl, ho5⟩ := Own_dropAt ho4 f2 hpl; clear ho4))
            go_simp
            go_wp2
            go_roundw
            case rel =>
              have hm2 : j - (i + 1) = k := by have := hm1.out; omega
              have hK := hK1.out.trans hstep.out
              refine ⟨i + 1, ao4, c4, by omega, by rw [hK], by rw [hm2], ?_, ?_, ?_, ?_⟩
              · rw [hK]; exact ho2s.out.below hb5.out
              · rw [hK, hm2]; exact ho5.out.sl
              · intro q hq h
                rw [hm2] at hq
                have t1 := ho5.out.lt q hq
                have t2 := hlt3.out q h
                omega
              · exact hb3.out.trans (hb5.out.mono hb3.out.size)
            case measure => simp [slLen]
          · have hD : Hid (∀ w', Below w3.heap.size w3 w' → RdV w' (.slice (some ⟨b, off + k1, none⟩) (m + 1 - k1) (c0 - k1)) (ints (L.drop (k + 1)))) := Lib.hid fun w' hw' => by
              have := (hRow3.out.below hw' hb2).rdDrop (lo := k1) (n := m + 1 - k1) (by omega) (by omega)
              rwa [hk1] at this ⊢
            have hck2 : ¬ c0 = k1 := fun h => hck h.symm
            have hq7 : k1 ≤ c0 := by omega
            have hq8 : (k1 : Int) ≤ (c0 : Int) := by omega
            replace hk1 := Lib.hid hk1
            go_wp2
            go_region_law? (first
              | (refine step_append_all eltInt rfl (.tmp 54) (.tmp 57) rfl w3.heap.size (.slice (some ⟨w3.heap.size, 0, none⟩) 0 0) [] (by simp [Act.eval, Act.put]) ho.out (.slice (some ⟨b, off, none⟩) k c0) (ints (L.take k)) (by simp [Act.eval, Act.put]; try omega) (hT.out _ (Below.alloc hbW.out hn0 _)) (ints_one _) (by have := hL1.out; simp only [List.length_nil]; omega) (by simp) ?_; intro v3 w4 ho3 hg3; have hb4 := Lib.hid (Below.appended (Below.alloc hbW.out hn0 _) ho.out hg3 (by simp)); clear hg3; replace ho3 := Lib.hid ho3)
              | (refine step_append_all eltInt rfl (.tmp 58) (.tmp 62) rfl w3.heap.size v3 ([] ++ ints (L.take k)) (by simp [Act.eval, Act.put]) ho3.out (.slice (some ⟨b, off + k1, none⟩) (m + 1 - k1) (c0 - k1)) (ints (L.drop (k + 1))) (by simp [Act.eval, Act.put]; try omega) (hD.out _ hb4.out) (ints_one _) (by have := hL1.out; have := hL2.out; simp only [List.nil_append]; omega) hb4.out.size ?_; intro v4 w5 ho4 hg4; have hb5 := Lib.hid (Below.appended hb4.out ho3.out hg4 hb4.out.size); clear hg4; obtain ⟨ao4, c4, rfl, ho5⟩ := Own_dropAt ho4 f2 hpl; clear ho4))
            go_simp
            go_wp2
            go_roundw
            case rel =>
              have hm2 : j - (i + 1) = m := by have := hm1.out; omega
              have hK := hK1.out.trans hstep.out
              refine ⟨i + 1, ao4, c4, by omega, by rw [hK], by rw [hm2], ?_, ?_, ?_, ?_⟩
              · rw [hK]; exact ho2s.out.below hb5.out
              · rw [hK, hm2]; exact ho5.out.sl
              · intro q hq h
                rw [hm2] at hq
                have t1 := ho5.out.lt q hq
                have t2 := hlt3.out q h
                omega
              · exact hb3.out.trans (hb5.out.mono hb3.out.size)
            case measure => simp [slLen]
        · have hij2 : i = j := by omega
          subst hij2
          have hfr := Lib.hid (Fresh.of_own hown hbel)
          have hz : i - i = 0 := Nat.sub_self i
          rw [hz] at hsl hne ⊢
          go_wp2
          go_ret2
          exact ⟨_, _, rfl, hfr.out.law.1, hfr.out.law.2.1, hfr.out.law.2.2, hlen.out⟩

/-- 'append(s, x)', x one value in a new cell; where the new row lies. -/
theorem wpList_append_one_at {ops : Array Oper} {rest : List Oper} {o : Oper} {a : Act} {Q : Exit → Act → World → Prop} {w : World} {y : Value} {e T : TypeId} (E : EltOk T e) (hgd : o.guard = none) (s x : Operand)
    (ho : o.op = .call { callee := .builtin .append, args := #[s, x], argTypes := #[T, T] }) (B : Nat) (v : Value) (xs : List Value) (hs : a.eval s = v) (hown : Own w e B v xs)
    (hx : a.eval x = .slice (some ⟨w.heap.size, 0, none⟩) 1 1) (hy : y.oneCell' = true) (hl : xs.length ≤ 1000000000) (hB : B ≤ w.heap.size)
    (h : ∀ v' w', Own w' e B v' (xs ++ [y]) → w.grownBy w' v.ownBlock → (v'.ownBlock = v.ownBlock ∨ v'.ownBlock = some (w.heap.size + 1)) → wpList Try.prog ops Q rest (a.put o.dst v') w') : wpList Try.prog ops Q (o :: rest) a (w.alloc (.cells #[y] e)) := by
  obtain ⟨i, z, bytes, ht, hi, hz, hsz, hby, hb64, hzs⟩ := E
  refine wpList_append_own_at _ hgd s x T ho B e i z 1 bytes ht hi hz hsz hby hzs (by decide) v xs.length xs hs (hown.alloc _) ⟨w.heap.size, 0, none⟩ 1 1 [y] hx rfl ?_ ?_ ?_ ?_ ?_ ?_
  · intro j u hj
    match j, hj with
    | 0, hj =>
      simp at hj
      subst hj
      rw [Addr.add_lit]
      simp [go_sem]
    | n + 1, hj => simp at hj
  · intro u hu
    simp at hu
    subst hu
    exact hy
  · unfold maxLen; omega
  · have : (xs.length + 1) * bytes ≤ 1000000001 * 64 := Nat.mul_le_mul (by omega) hb64
    omega
  · have : (w.alloc (.cells #[y] e)).heap.size = w.heap.size + 1 := by simp
    omega
  · intro v' w' ho' hg _ hat
    refine h v' w' ?_ ?_ (by simpa using hat)
    · unfold Own
      rw [List.length_append]
      exact ho'
    · have h1 := World.grownBy_alloc w (.cells #[y] e) v.ownBlock
      exact ⟨hg.os.trans h1.os, hg.tape.trans h1.tape, hg.output.trans h1.output, Nat.le_trans h1.size hg.size, fun k hk hr => (hg.block k (Nat.lt_of_lt_of_le hk h1.size) hr).trans (h1.block k hk hr)⟩

theorem Own_ex {w w' : World} {e B b : Nat} {v : Value} {xs : List Value} (h : Own w e B v xs) (hx : Ex [b] w w') (hne : v.ownBlock ≠ some b) : Own w' e B v xs :=
  h.kept (r := some b) ⟨hx.os, hx.tape, hx.output, hx.size, fun k hk hr => hx.block k hk (by simp; rintro rfl; exact hr rfl)⟩ (.inr hne)
theorem Sl_of_rowN {w : World} {e b off c n : Nat} {L : List Int} (h : Row w e b off c (ints L)) (hn : L.length = n) : Sl w e (.slice (some ⟨b, off, none⟩) n c) (ints L) := by
  have := Sl.of_row h
  rwa [ints_length, hn] at this

set_option maxHeartbeats 4000000 in
theorem impl_UnrankPermutation_law {n r : Int} {w : World} (hn0 : -9223372036854775808 ≤ n ∧ n ≤ 9223372036854775807) (hr0 : -9223372036854775808 ≤ r ∧ r ≤ 9223372036854775807) :
    Calls Try.prog 32 #[.int .i64 n, .int .i64 r] w fun e w' => ∃ v F, e = .returned (.tuple #[v, .bool (unR n r).2]) ∧ RIntS w' v (unR n r).1 F ∧ Fr w.heap.size F ∧ Below w.heap.size w w' ∧ (unR n r).1.length ≤ 100000000000 := by
  have hlen := Lib.hid (unR_len n r)
  have hfe := Lib.hid (Fresh.nil (Below.refl w.heap.size w))
  cases h1 : inB n 0 10
  · have e0 : unR n r = ([], false) := by simp [unR, h1]
    rw [e0] at hlen ⊢
    clear e0
    go_enter Try.func32, Try.ntmps32
    go_wp2_with (go_at_call 61; refine (in_any _ _ _ _).mono ?_; rintro e w' ⟨rfl, rfl⟩)
    go_ret2
    exact ⟨_, _, rfl, hfe.out.law.1, hfe.out.law.2.1, hfe.out.law.2.2, hlen.out⟩
  have hn' := inB_iff.1 h1
  obtain ⟨N, rfl⟩ := Int.eq_ofNat_of_zero_le hn'.1
  have hN : N ≤ 10 := by omega
  have hfb := fct_bd N hN
  have hfp := fct_pos N
  cases h2 : inB r 0 ((fct N : Nat) - 1)
  · have e0 : unR N r = ([], false) := by simp [unR, h1, h2]
    rw [e0] at hlen ⊢
    clear e0 hn0
    generalize hK : fct N = K at *
    replace hK := Lib.hid hK
    go_enter Try.func32, Try.ntmps32
    go_wp2_with (first | (go_at_call 61; refine (in_any _ _ _ _).mono ?_; rintro e w' ⟨rfl, rfl⟩) | (go_at_call 71; refine (impl_factorial_any N _ hN).mono ?_; rintro e w' ⟨rfl, rfl⟩; rw [hK.out]))
    go_ret2
    exact ⟨_, _, rfl, hfe.out.law.1, hfe.out.law.2.1, hfe.out.law.2.2, hlen.out⟩
  have hr' := inB_iff.1 h2
  obtain ⟨R, rfl⟩ := Int.eq_ofNat_of_zero_le hr'.1
  have hR : R < fct N := by omega
  have e0 : unR N R = ((unK N R N).1, true) := by simp [unR, h1, h2]
  rw [e0] at hlen ⊢
  clear e0 hn0 hr0 hn' hr'
  replace hR := Lib.hid hR
  generalize hK : fct N = K at *
  replace hK := Lib.hid hK
  go_enter Try.func32, Try.ntmps32
  go_wp2_with (first | (go_at_call 61; refine (in_any _ _ _ _).mono ?_; rintro e w' ⟨rfl, rfl⟩) | (go_at_call 71; refine (impl_factorial_any N _ hN).mono ?_; rintro e w' ⟨rfl, rfl⟩; rw [hK.out]))
  have hrest0 : Hid (Own ((w.alloc (.cells #[] 3)).alloc (.cells #[] 3)) 3 w.heap.size (.slice (some ⟨w.heap.size, 0, none⟩) 0 0) []) := Lib.hid ((Own.empty w 3).alloc _)
  have hout0 : Hid (Own ((w.alloc (.cells #[] 3)).alloc (.cells #[] 3)) 3 w.heap.size (.slice (some ⟨w.heap.size + 1, 0, none⟩) 0 0) []) :=
    Lib.hid ((show Own _ _ (w.heap.size + 1) (.slice (some ⟨w.heap.size + 1, 0, none⟩) 0 0) [] by simpa using Own.empty (w.alloc (.cells #[] 3)) 3).base (by omega))
  have hb0 : Hid (Below w.heap.size w ((w.alloc (.cells #[] 3)).alloc (.cells #[] 3))) := Lib.hid (Below.alloc (Below.alloc (Below.refl _ _) (Nat.le_refl _) _) (by simp) _)
  have hs0 : Hid (w.heap.size + 2 ≤ ((w.alloc (.cells #[] 3)).alloc (.cells #[] 3)).heap.size) := Lib.hid (by simp)
  have hne0 : Hid (w.heap.size ≠ w.heap.size + 1) := Lib.hid (by omega)
  go_loopw [6, 24] (fun l i wr => ∃ j : Nat, j ≤ N ∧ i = .int .i64 (j : Nat) ∧ Own wr 3 w.heap.size l (ints (iotaI j)) ∧ Own wr 3 w.heap.size (.slice (some ⟨w.heap.size + 1, 0, none⟩) 0 0) [] ∧
    l.ownBlock ≠ some (w.heap.size + 1) ∧ w.heap.size + 2 ≤ wr.heap.size ∧ Below w.heap.size w wr) (fun _ i _ => 12 - (intOf i).toNat)
  case atStart => exact ⟨0, Nat.zero_le _, rfl, hrest0.out, hout0.out, by simp [Value.ownBlock], hs0.out, hb0.out⟩
  case round =>
    obtain ⟨j, hj, rfl, hown, hout, hnb, hsz, hbel⟩ := hrel
    clear hrest0 hout0 hb0 hs0
    by_cases hlt : j < N
    · have hs' : w.heap.size ≤ wr.heap.size := by omega
      replace hown := Lib.hid hown
      replace hout := Lib.hid hout
      replace hnb := Lib.hid hnb
      replace hsz := Lib.hid hsz
      replace hbel := Lib.hid hbel
      go_wp2_with (at_builtin; refine wpList_append_one_at eltInt rfl _ _ rfl w.heap.size _ _ rfl hown.out rfl rfl (by rw [ints_length, iotaI_length]; omega) hs' ?_)
      intro v' w1 ho hg hat
      have hb1 := Lib.hid (Below.appended hbel.out hown.out hg hs')
      have hout1 := Lib.hid (hout.out.kept hg (.inr (fun h => hnb.out h.symm)))
      have hs1 := Lib.hid (Nat.le_trans hsz.out hg.size)
      have hnb1 : Hid (v'.ownBlock ≠ some (w.heap.size + 1)) := Lib.hid (by
        rcases hat with h | h
        · rw [h]; exact hnb.out
        · rw [h]; have := hsz.out; simp; omega)
      replace ho := Lib.hid ho
      clear hg hat
      go_wp2
      go_roundw
      case rel => exact ⟨j + 1, by omega, by go_num, by have := ho.out; simpa [iotaI, ints] using this, hout1.out, hnb1.out, hs1.out, hb1.out⟩
      case measure => simp [intOf]; omega
    · have hjN : j = N := by omega
      subst hjN
      have hsl0 := hown.sl
      obtain ⟨ao, c0, rfl, _⟩ := hsl0
      rw [ints_length, iotaI_length] at hown hnb ⊢
      have hown' := Lib.hid hown
      have hout' := Lib.hid hout
      have hnb' := Lib.hid hnb
      have hbw := Lib.hid hbel
      clear hown hout hnb hbel
      go_wp2
      go_loopw [0, 1, 6, 7] (fun nn rk l o wr => ∃ (i : Nat) (ao : Option Addr) (c0 : Nat), i ≤ j ∧ nn = .int .i64 ((j - i : Nat) : Int) ∧ rk = .int .i64 ((unK j R i).2.2 : Nat) ∧ l = .slice ao (j - i) c0 ∧ Own wr 3 w.heap.size o (ints (unK j R i).1) ∧
        Sl wr 3 (.slice ao (j - i) c0) (ints (unK j R i).2.1) ∧ (∀ b, (Value.slice ao (j - i) c0).ownBlock = some b → o.ownBlock ≠ some b ∧ w.heap.size ≤ b) ∧ Below w.heap.size w wr) (fun nn _ _ _ _ => (intOf nn).toNat)
      case atStart =>
        exact ⟨0, ao, c0, Nat.zero_le _, rfl, rfl, rfl, hout'.out, hown'.out.sl, fun b hb => ⟨fun h => by simp [Value.ownBlock] at h; subst h; exact hnb'.out hb, (hown'.out.lt b hb).1⟩, hbw.out⟩
      case round =>
        clear hbw hout' hnb' hown'
        obtain ⟨i, ao, c0, hij, rfl, rfl, rfl, hown, hsl, hne, hbel⟩ := hrel
        obtain ⟨f1, f2, f3⟩ := unK_facts (n := j) (r := R) (by rw [hK.out]; exact hR.out) i hij
        by_cases hlt2 : i < j
        · have hpl := unK_place (n := j) (r := R) (j := i) (by rw [hK.out]; exact hR.out) hlt2
          have hstep : unK j R (i + 1) = ((unK j R i).1 ++ [gi (unK j R i).2.1 ((unK j R i).2.2 / fct (j - i - 1))], dropAt (unK j R i).2.1 ((unK j R i).2.2 / fct (j - i - 1)), (unK j R i).2.2 % fct (j - i - 1)) := rfl
          have hbd1 := fct_bd (j - i) (by omega)
          have hbd2 := fct_bd (j - i - 1) (by omega)
          have hpos := fct_pos (j - i - 1)
          have hj11 : j - i - 1 ≤ 10 := by omega
          generalize hK1 : unK j R (i + 1) = K1 at *
          generalize hKi : unK j R i = Ki at *
          obtain ⟨O, L, rk⟩ := Ki
          dsimp only at f1 f2 f3 hpl hstep hown hsl hne ⊢
          obtain ⟨m, hm⟩ : ∃ m, m = j - i - 1 := ⟨_, rfl⟩
          have hm1 : j - i = m + 1 := by omega
          rw [← hm] at hpl hstep hbd2 hpos hj11
          rw [hm1] at hpl hsl hne f2 f3 hbd1 ⊢
          have hfct := impl_factorial_any m
          generalize hf : fct m = f at *
          have hdv : ((rk : Int)).tdiv (f : Int) = ((rk / f : Nat) : Int) := by
            rw [Int.tdiv_eq_ediv_of_nonneg (by omega)]; exact (Int.natCast_ediv rk f).symm
          have hdv2 : ((rk : Int)) / (f : Int) = ((rk / f : Nat) : Int) := (Int.natCast_ediv rk f).symm
          have hmd : ((rk : Int)).tmod (f : Int) = ((rk % f : Nat) : Int) := by
            rw [Int.tmod_eq_emod_of_nonneg (by omega)]; exact (Int.natCast_emod rk f).symm
          have hmd2 : ((rk : Int)) % (f : Int) = ((rk % f : Nat) : Int) := (Int.natCast_emod rk f).symm
          have hmlt : rk % f < f := Nat.mod_lt _ hpos
          generalize rk / f = k at *
          generalize rk % f = rm at *
          obtain ⟨b, off, rfl, hcap, hRow⟩ := hsl.rowInts (by omega)
          have hc1 : wr.cell? ⟨b, off + k, none⟩ = some (.int .i64 (gi L k)) := hRow.cellInt (by omega)
          have hcc : m + 1 ≤ c0 := by have := hRow.le; rw [ints_length] at this; omega
          have hneb := (hne b rfl).1
          have hbB := Lib.hid (hne b rfl).2
          have hblt := hRow.lt
          have hsz : w.heap.size ≤ wr.heap.size := hbel.size
          have hol : (ints O).length ≤ 1000000000 := by rw [ints_length]; omega
          have hbw : w.heap.size ≤ b ∨ True := .inr trivial
          generalize hX : gi L k = X at *
          replace hX := Lib.hid hX
          replace hK1 := Lib.hid hK1
          replace hKi := Lib.hid hKi
          replace hstep := Lib.hid hstep
          replace hown := Lib.hid hown
          replace hRow := Lib.hid hRow
          replace hbel := Lib.hid hbel
          replace hf := Lib.hid hf
          replace hm := Lib.hid hm
          replace hm1 := Lib.hid hm1
          replace hneb := Lib.hid hneb
          replace hfct := Lib.hid hfct
          clear hsl hne hbw
          have hfne : ¬ (f : Int) = 0 := by omega
          have hp1 : (0 : Int) ≤ (k : Int) := by omega
          have hwk : IntKind.i64.wrap ((k : Int) + 1) = (k : Int) + 1 := IntWalk.i64_in _ (by omega)
          go_wp2_with (first | (at_builtin; refine wpList_append_one_at eltInt rfl _ _ rfl w.heap.size _ _ rfl hown.out rfl rfl hol hsz ?_) | (go_at_call 71; refine (hfct.out _ hj11).mono ?_; rintro e w' ⟨rfl, rfl⟩))
          intro v2 w3 ho2 hg2 hat
          have hb3 := Lib.hid (Below.appended hbel.out hown.out hg2 hsz)
          have hRow3 := Lib.hid (hRow.out.grown hg2 (fun h => hneb.out h.symm))
          have ho2s : Own w3 3 w.heap.size v2 (ints (O ++ [X])) := by simpa [ints] using ho2
          have hne3 : Hid (v2.ownBlock ≠ some b) := Lib.hid (by
            rcases hat with h | h
            · rw [h]; exact hneb.out
            · rw [h]; simp; omega)
          replace ho2s := Lib.hid ho2s
          clear hg2 ho2 hown hbel hRow hneb hc1 hfct hdv hdv2 hmd hmd2 hfne hat
          have hdl : Hid ((L.take k ++ L.drop (k + 1)).length = m) := Lib.hid (by simp only [List.length_append, List.length_take, List.length_drop, f2]; omega)
          have hdel := delete_any b off m c0 k L w3 hRow3.out f2 (by omega)
          have hk1 : ((k + 1 : Nat) : Int) = (k : Int) + 1 := by omega
          rw [hk1] at hdel
          clear hk1
          replace hdel := Lib.hid hdel
          go_wp2_with fail
          refine hdel.out.mono ?_
          rintro e w4 ⟨rfl, hRow4, hex⟩
          replace hRow4 := Lib.hid hRow4
          replace hex := Lib.hid hex
          go_wp2
          go_roundw
          case rel =>
            have hm2 : j - (i + 1) = m := by have := hm1.out; omega
            have hK := hK1.out.trans hstep.out
            refine ⟨i + 1, some ⟨b, off, none⟩, c0, by omega, by rw [hm2]; first | done | rfl | go_num, by rw [hK], by rw [hm2], ?_, ?_, ?_, ?_⟩
            · rw [hK]; exact Own_ex ho2s.out hex.out hne3.out
            · rw [hK, hm2]; exact Sl_of_rowN hRow4.out hdl.out
            · intro q hq
              simp [Value.ownBlock] at hq
              subst hq
              exact ⟨hne3.out, hbB.out⟩
            · exact Below.ex hb3.out hex.out (fun q hq => by simp at hq; subst hq; exact hbB.out)
          case measure => simp [intOf]; try omega
        · have hij2 : i = j := by omega
          subst hij2
          have hfr := Lib.hid (Fresh.of_own hown hbel)
          have hz : i - i = 0 := Nat.sub_self i
          rw [hz] at hsl hne ⊢
          go_wp2
          go_ret2
          exact ⟨_, _, rfl, hfr.out.law.1, hfr.out.law.2.1, hfr.out.law.2.2, hlen.out⟩
end Go.Proofs.Ytbfffpdcpoejnaa
