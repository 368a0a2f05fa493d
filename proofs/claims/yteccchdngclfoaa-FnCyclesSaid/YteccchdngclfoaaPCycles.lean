/- PermutationCycles: impl's and the spec's. -/
import Derived.Test.YteccchdngclfoaaCycW
import Derived.Test.YteccchdngclfoaaHIntSS
namespace Go.Proofs.Yteccchdngclfoaa
open Go.RowKit
set_option linter.unusedVariables false
set_option linter.unusedSimpArgs false

set_option maxHeartbeats 1000000 in
theorem impl_PermutationCycles_law {v : Value} {p : List Int} {F : List Nat} {w : World} (r : RIntS w v p F) :
    Calls Try.prog 7 #[v] w fun e w' => ∃ r F, e = .returned (.tuple #[r, .bool (cycR p).2]) ∧ RIntSS w' r (cycR p).1 F ∧ Fr w.heap.size F ∧ Below w.heap.size w w' ∧ szIntSS (cycR p).1 ≤ 100000000000 := by
  have hv := Lib.hid r.rd
  clear r
  have hlen := Lib.hid (cycR_sz p)
  cases h : goodP p
  · have e0 : cycR p = ([], false) := by simp [cycR, h]
    rw [e0] at hlen ⊢
    clear e0
    go_enter Try.func7, Try.ntmps7
    go_wp2_with (go_at_call 14; refine (impl_permOk_any _ _ _ hv.out).mono ?_; rintro e w' ⟨rfl, hb⟩; replace hb := Lib.hid hb)
    go_ret2
    exact ⟨_, [], rfl, ⟨[], Sl.nil _ _, Inn.nil _ _ _, rfl⟩, fun b hb => by simp at hb, hb.out, hlen.out⟩
  · have e0 : cycR p = ((cycK p p.length).2, true) := by simp [cycR, h]
    rw [e0] at hlen ⊢
    clear e0
    have hl := (goodP_iff.1 h).1
    have hin := Lib.hid (goodP_inP h)
    go_enter Try.func7, Try.ntmps7
    go_wp2_with fail
    refine (impl_permOk_any _ _ _ hv.out).mono ?_
    rintro e w1 ⟨rfl, hb⟩
    replace hb := Lib.hid hb
    go_wp2_with fail
    refine (impl_cycles_any _ _ _ (hv.out.below hb.out) hin.out hl).mono ?_
    rintro e w2 ⟨o, us, rfl, ho, hi, hb2⟩
    obtain ⟨F, h1, h2, h3⟩ := RIntSS.made ho hi hb2
    have hF := Lib.hid h1
    have hF2 := Lib.hid (Fr.of hb.out h2)
    have hF3 := Lib.hid (Below.next hb.out h3)
    clear ho hi hb2 h1 h2 h3
    go_wp2
    go_ret2
    exact ⟨_, F, rfl, hF.out, hF2.out, hF3.out, hlen.out⟩
set_option maxHeartbeats 4000000 in
theorem spec_PermutationCycles_law {v : Value} {p : List Int} {F : List Nat} {w : World} (r : RIntS w v p F) :
    Calls Try.prog 8 #[v] w fun e w' => ∃ r F, e = .returned (.tuple #[r, .bool (cycR p).2]) ∧ RIntSS w' r (cycR p).1 F ∧ Fr w.heap.size F ∧ Below w.heap.size w w' ∧ szIntSS (cycR p).1 ≤ 100000000000 := by
  obtain ⟨i0, hi0, hz0, hz1, hz2⟩ := info_parts info4
  have hv := r.rd
  clear r
  have hv0 := hv
  obtain ⟨ao, c, rfl, h1, h2, HA⟩ := hv0
  unfold maxLen at h2
  have hlen := Lib.hid (cycR_sz p)
  have hba := Lib.hid ((Below.refl w.heap.size w).alloc (Nat.le_refl _) (.cells #[] 24))
  replace hv := Lib.hid hv
  replace HA := Lib.hid HA
  cases h : goodP p
  · have e0 : cycR p = ([], false) := by simp [cycR, h]
    rw [e0] at hlen ⊢
    clear e0 hi0 hz0 hz1 hz2
    go_enter Try.func8, Try.ntmps8
    go_wp2_with fail
    refine (l3Good_any _ _ _ (hv.out.below hba.out)).mono ?_
    rintro e w1 ⟨rfl, hb⟩
    obtain ⟨k1, k2⟩ := Own.keepEmpty hb
    obtain ⟨F, f1, f2, f3⟩ := RIntSS.made k1 (Inn.nil _ _ _) k2
    have hF := Lib.hid f1
    replace f2 := Lib.hid f2
    replace f3 := Lib.hid f3
    clear hb k1 k2 f1
    go_wp2
    go_ret2
    exact ⟨_, F, rfl, hF.out, f2.out, f3.out, hlen.out⟩
  · have e0 : cycR p = ((cycK p p.length).2, true) := by simp [cycR, h]
    rw [e0] at hlen ⊢
    clear e0
    have hl := (goodP_iff.1 h).1
    have hp := Lib.hid (goodP_inP h)
    have hz := Lib.hid (show bools (cycK p 0).1 = bools (List.replicate p.length false) from rfl)
    generalize hn : p.length = n at *
    replace hn := Lib.hid hn
    go_enter Try.func8, Try.ntmps8
    go_wp2_with fail
    refine (l3Good_any _ _ _ (hv.out.below hba.out)).mono ?_
    rintro e w1 ⟨rfl, hb⟩
    obtain ⟨k1, k2⟩ := Own.keepEmpty hb
    have hs1 : w.heap.size + 1 ≤ w1.heap.size := by have := hb.size; simpa using this
    replace k1 := Lib.hid k1
    replace k2 := Lib.hid k2
    clear hb
    go_wp2_with (at_make; refine wpList_make_full _ rfl _ _ 39 rfl w1.heap.size 4 i0 (.bool false) 1 Try.underlying39 hi0 hz0 hz1 _ _ _ _ n rfl rfl rfl rfl (by rw [hz2]; omega) (by unfold maxLen; omega) (Nat.le_refl _) ?_)
    intro w2 hown hgrow
    have hrow := Row.of_owns hown
    rw [made_bools] at hrow
    have HC : Hid (CycO w (w1.heap.size) n (cycK p 0).1 (cycK p 0).2 [] (.slice (some ⟨w.heap.size, 0, none⟩) 0 0) w2) := Lib.hid (by
      refine ⟨?_, ?_, Inn.nil _ _ _, fun _ h => absurd h (by simp [cycK]), by simp [Value.ownBlock]; omega, by omega, ?_⟩
      · rw [hz.out]; exact hrow
      · exact k1.out.kept hgrow (.inr (by simp [Value.ownBlock]))
      · exact Below.next k2.out (grownBy.below hgrow))
    clear hrow hown hgrow k1 k2 hi0 hz0 hz1 hz2
    go_wp2
    go_loopw [4, 6] (fun o i wr => ∃ (j : Nat) (us : List Value), j ≤ n ∧ i = .int .i64 j ∧ CycO w (w1.heap.size) n (cycK p j).1 (cycK p j).2 us o wr) (fun _ i _ => n - (intOf i).toNat)
    case atStart => exact ⟨0, [], Nat.zero_le _, rfl, HC.out⟩
    case round =>
      clear HC
      obtain ⟨j, us, hj, rfl, hC⟩ := hrel
      by_cases hlt : j < n
      · have hst := CycI.start (p := p) (i := j) hC.row (by rw [(cycK_sz p j).2.1, hn.out])
        have hus : us.length ≤ 1000 := by have := hC.inn.len; have := (cycK_sz p j).2.2; omega
        have hWs : w.heap.size ≤ wr.heap.size := hC.bel.size
        have hnext : cycK p (j + 1) = ((cycIn p n (cycK p j).1 j []).1, if (cycIn p n (cycK p j).1 j []).2.length = 0 then (cycK p j).2 else (cycK p j).2 ++ [(cycIn p n (cycK p j).1 j []).2]) := by rw [← hn.out]; rfl
        obtain ⟨W, rfl⟩ : ∃ W, W = wr := ⟨_, rfl⟩
        generalize hr : cycIn p n (cycK p j).1 j [] = r at *
        generalize hS : cycK p j = S at *
        replace hnext := Lib.hid hnext
        replace hr := Lib.hid hr
        replace hS := Lib.hid hS
        replace hC := Lib.hid hC
        replace hst := Lib.hid hst
        go_wp2
        go_loopw [7, 8] (fun cv k wq => ∃ (K : Nat) (s : List Bool) (c : List Int) (m : Nat), K < n ∧ k = .int .i64 K ∧ CycI p (w1.heap.size) n W r K s c m cv wq) (fun cv _ _ => n - slN cv)
        case atStart => exact ⟨j, _, _, _, hlt, rfl, hst.out⟩
        case round =>
          clear hst
          obtain ⟨K, s, c, m, hK, rfl, hI⟩ := hrel
          obtain ⟨ac, cc, rfl, _⟩ := hI.own.sl
          rw [ints_length] at *
          have hbd := hI.bd
          have hCq := Lib.hid (hC.out.ex hI.ex hI.row)
          have hws := hI.ex.size
          have hcell : wr.cell? ⟨(w1.heap.size), K, none⟩ = some (.bool (gb s K)) := by
            have := hI.row.cellBool (i := K) (by rw [hI.sl]; exact hK)
            rwa [Nat.zero_add] at this
          have hf := hI.row.frozen K
          cases hb : gb s K
          · obtain ⟨m, rfl⟩ : ∃ q, m = q + 1 := ⟨m - 1, by
              have := unseen_set (s := s) (i := K) (by rw [hI.sl]; exact hK) hb
              have := hI.un
              omega⟩
            rw [hb] at hcell
            have hset := unseen_set (s := s) (i := K) (by rw [hI.sl]; exact hK) hb
            have hx := hp.out K (by rw [hn.out]; exact hK)
            rw [hn.out] at hx
            obtain ⟨Y, hY⟩ := Int.eq_ofNat_of_zero_le hx.1
            have hYn : Y < n := by omega
            obtain ⟨b, off, rfl, hR⟩ := HA.out (by omega)
            have hpc := hR K hK
            rw [hY] at hpc
            have hblt : b < w.heap.size := block_lt_of_cell hpc
            have hnx := cycIn_next p m s K c (by simpa using hb)
            simp only [Int.toNat_natCast] at hnx
            rw [hI.eq, hY] at hnx
            have hown' : Hid (Own (wr.setCell ⟨(w1.heap.size), K, none⟩ (.bool true)) 3 W.heap.size (.slice ac c.length cc) (ints c)) :=
              Lib.hid (hI.own.kept (grownBy.setIn (World.grownBy.refl wr (some ((w1.heap.size)))) (p := ⟨(w1.heap.size), K, none⟩) rfl) (.inr (fun e => by have h1 := (hI.own.lt _ e).1; have h2 := hC.out.row.lt; omega)))
            have hrow' := hI.row.setBool (i := K) (by rw [hI.sl]; exact hK) true
            rw [Nat.zero_add] at hrow'
            replace hrow' := Lib.hid hrow'
            have hex' := Lib.hid (hI.ex.setIn (p := ⟨(w1.heap.size), K, none⟩) (by simp) (v := .bool true))
            have hsz' : W.heap.size ≤ (wr.setCell ⟨(w1.heap.size), K, none⟩ (.bool true)).heap.size := by simpa [World.setCell] using hws
            have hzq : Hid (wr.heap.size = (wr.setCell ⟨(w1.heap.size), K, none⟩ (.bool true)).heap.size) := Lib.hid (by simp [World.setCell])
            have hcl : (ints c).length ≤ 1000000000 := by rw [ints_length]; omega
            have hun := hI.un
            have hsl := hI.sl
            replace hI := Lib.hid hI
            replace hnx := Lib.hid hnx
            replace hb := Lib.hid hb
            replace hY := Lib.hid hY
            replace hsl := Lib.hid hsl
            replace hpc := Lib.hid hpc
            clear hR hCq
            go_wp2_with (at_builtin; refine append_one_z eltInt rfl _ _ rfl W.heap.size _ _ rfl hown'.out _ hzq.out rfl rfl hcl hsz' ?_)
            intro v' w3 ho hg hat
            clear hat
            have hgb : (wr.setCell ⟨(w1.heap.size), K, none⟩ (.bool true)).grownBy w3 (Value.slice ac c.length cc).ownBlock := hg
            have hex3 : Ex [(w1.heap.size)] W w3 := by
              refine ⟨hg.os.trans hex'.out.os, hg.tape.trans hex'.out.tape, hg.output.trans hex'.out.output, Nat.le_trans hex'.out.size hg.size, fun q hq hqn => ?_⟩
              rw [hg.block q (Nat.lt_of_lt_of_le hq hex'.out.size) (fun e => by have h1 := (hown'.out.lt _ e.symm).1; omega)]
              exact hex'.out.block q hq hqn
            have hrow3 := Lib.hid (hrow'.out.grown hg (fun e => by have h1 := (hown'.out.lt _ e.symm).1; have h2 := hC.out.row.lt; omega))
            have hc3 : w3.cell? ⟨b, off + K, none⟩ = some (.int .i64 (Y : Int)) := by
              have hb3 := Below.ex hC.out.bel hex3 (by intro q hq; simp at hq; subst hq; exact hC.out.sbl)
              rw [hb3.cell (p := ⟨b, off + K, none⟩) hblt]
              exact hpc.out
            replace hex3 := Lib.hid hex3
            replace ho := Lib.hid ho
            clear hg hgb hown' hrow' hex' hI
            go_wp2
            go_roundw
            case rel =>
              refine ⟨Y, s.set K true, c ++ [(K : Int)], m, hYn, by first | rfl | go_num, hrow3.out, by rw [List.length_set]; exact hsl.out, ?_, hex3.out, hnx.out.symm, by omega, by simp; omega⟩
              have := ho.out
              simpa [ints] using this
            case measure =>
              have := ho.out.sl
              obtain ⟨_, _, rfl, _⟩ := this
              simp [slN]; omega
          · have hst := cycIn_stop p m s K c (by simpa using hb)
            rw [hI.eq] at hst
            rw [hb] at hcell
            replace hb := Lib.hid hb
            have hown := Lib.hid hI.own
            replace hI := Lib.hid hI
            have hnx := hnext.out
            rw [hst] at hnx
            dsimp only at hnx
            by_cases hc0 : c.length = 0
            · rw [if_pos hc0] at hnx
              have hc1 : ¬ (0 : Int) < (c.length : Int) := by omega
              replace hnx := Lib.hid hnx
              replace hst := Lib.hid hst
              replace hc0 := Lib.hid hc0
              go_wp2
              go_roundw
              case rel => exact ⟨j + 1, us, by omega, by go_num, by rw [hnx.out]; exact hCq.out⟩
              case measure => simp [intOf]; omega
            · rw [if_neg hc0] at hnx
              have hc1 : (0 : Int) < (c.length : Int) := by omega
              have hul : us.length ≤ 1000000000 := by omega
              have hqs : w.heap.size ≤ wr.heap.size := by omega
              replace hnx := Lib.hid hnx
              replace hst := Lib.hid hst
              replace hc0 := Lib.hid hc0
              go_wp2_with (at_builtin; refine append_one_at eltIntS rfl _ _ rfl w.heap.size _ _ rfl hCq.out.own rfl rfl hul hqs ?_)
              intro v' w3 ho hg hat
              have hfin := Lib.hid (CycO.append hC.out hCq.out hws hown.out ho hg hat)
              clear ho hg hat
              go_wp2
              go_roundw
              case rel => exact ⟨j + 1, _, by omega, by go_num, by rw [hnx.out]; exact hfin.out⟩
              case measure => simp [intOf]; omega
      · obtain rfl : j = n := by omega
        replace hC := Lib.hid hC
        go_wp2
        obtain ⟨F, f1, f2, f3⟩ := RIntSS.made hC.out.own hC.out.inn hC.out.bel
        have hF := Lib.hid f1
        replace f2 := Lib.hid f2
        replace f3 := Lib.hid f3
        clear f1
        go_ret2
        exact ⟨_, F, rfl, hF.out, f2.out, f3.out, hlen.out⟩
end Go.Proofs.Yteccchdngclfoaa
