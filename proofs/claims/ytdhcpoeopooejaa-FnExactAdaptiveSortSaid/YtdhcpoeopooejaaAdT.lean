/- AdaptiveSort, spec: the walk. -/
import Derived.Test.YtdhcpoeopooejaaAdTm
import Derived.BigRegion
import Derived.RegionTactic
import Derived.Deep.LoopGhost
import Derived.Deep.CutRange
import Derived.Deep.CutBlock
namespace Go.Proofs.Ytdhcpoeopooejaa
open Go.RowKit
set_option linter.unusedVariables false
set_option linter.unusedSimpArgs false

set_option maxRecDepth 10000 in
set_option maxHeartbeats 8000000 in
theorem spec_AdaptiveSort_law {v : Value} {x : List (Int × Int)} {F : List Nat} {w : World} (r : RRecordS w v x F) :
    Calls Try.prog 35 #[v] w fun e w' => ∃ r F, e = .returned (.tuple #[r, .int .i64 ((adR x).2.1 : Nat), .bool (adR x).2.2]) ∧ RRecordS w' r (adR x).1 F ∧ Fr w.heap.size F ∧ Below w.heap.size w w' ∧ szRecordS (adR x).1 ≤ 100000000000 := by
  have hv := Lib.hid r.rd
  have hp := Lib.hid r.rdP
  clear r
  cases h : vrecs x
  · have e0 : adR x = ([], 0, false) := by simp [adR, h]
    rw [e0]
    clear e0
    go_enter Try.func35, Try.ntmps35
    go_wp2_with fail
    refine (l2Records_any _ _ _ hv.out).mono ?_
    rintro e w1 ⟨rfl, rfl⟩
    rw [h]
    go_wp2
    go_ret3
    exact ⟨_, [w.heap.size], rfl, ⟨(OwnQ.empty 72 w).sl (by simp), rfl⟩, by intro b hb; simp at hb; omega, (Below.refl _ _).alloc (Nat.le_refl _) _, by simp [szRecordS]⟩
  · have hl := (vrecs_iff.1 h).1
    have e0 : adR x = ((adF x).1, (adF x).2, true) := by simp [adR, h]
    rw [e0]
    clear e0
    have hap := Lib.hid (fun i hi => ap_facts hl (i := i) hi)
    have hrok := runsF_ok x
    have hps : (partsF x).length = (runsF x).length := by simp [partsF]
    have hcp := cnt_ok hl
    have hK40 : (runsF x).length ≤ 40 := by have := hcp.1; unfold cntF at this; rw [List.length_map] at this; exact this
    have hsz9 : Hid (szRecordS (adF x).1 ≤ 100000000000 ∧ (adF x).1.length ≤ 1000) := Lib.hid (by
      have h1 := repl_settle true (partsF x).length (pushP (partsF x) (partsF x).length)
      have h2 := (ap_facts hl (i := (partsF x).length) (Nat.le_refl _)).2.1
      rw [AP_le (Nat.le_refl _)] at h2
      have h3 : Gd 1000 (lens (endP (partsF x)).1) := by
        unfold endP
        rw [h1.2]
        exact (settle_facts true 1000 _ _ [] h2).1
      have h4 : (gp (endP (partsF x)).1 0).length ≤ 1000 := by
        by_cases h0 : 0 < (endP (partsF x)).1.length
        · have h3 := h3.at_ (i := 0) (by rw [lens_length]; exact h0)
          rw [gi_lens] at h3
          omega
        · have : gp (endP (partsF x)).1 0 = [] := by simp [gp, List.getElem?_eq_none (Nat.le_of_not_lt h0)]
          rw [this]; simp
      unfold adF szRecordS
      dsimp only
      omega)
    obtain ⟨K, hK⟩ : ∃ K, (runsF x).length = K := ⟨_, rfl⟩
    have hAF : Hid (AP (partsF x) (K + 1) = ((endP (partsF x)).1, (endP (partsF x)).2)) := Lib.hid (by rw [← hK, ← hps, AP_fin])
    have hAE : Hid (AP (partsF x) (K + 1) = stl true K (AP (partsF x) K)) := Lib.hid (by rw [← hK, ← hps]; exact AP_end _)
    have hAP : Hid (∀ i, i < K → AP (partsF x) (i + 1) = stl false (i + 1) ((AP (partsF x) i).1 ++ [partF x (gr (runsF x) i)], (AP (partsF x) i).2)) := Lib.hid (fun i hi => by
      rw [AP_push (by omega)]
      have : gp (partsF x) i = partF x (gr (runsF x) i) := by
        rw [gp_eq (by omega), gr_eq (by omega)]; simp [partsF]
      rw [this])
    have hA0 : Hid (AP (partsF x) 0 = ([], 0)) := Lib.hid (AP_zero _)
    have hgpp : Hid (∀ i, i < K → gp (partsF x) i = partF x (gr (runsF x) i)) := Lib.hid (fun i hi => by
      rw [gp_eq (by omega), gr_eq (by omega)]; simp [partsF])
    rw [hps, hK] at hap
    rw [hK] at hK40
    have hadf : Hid (adF x = (gp (endP (partsF x)).1 0, (endP (partsF x)).2)) := Lib.hid rfl
    have hend1 : Hid (1 ≤ K → 1 ≤ (endP (partsF x)).1.length) := Lib.hid (fun h => end_pos (by omega))
    have hend0 : Hid (K = 0 → endP (partsF x) = ([], 0)) := Lib.hid (fun h => end_nil (by omega))
    generalize hAD : adF x = AD at *
    replace hAD := Lib.hid hAD
    have hat := Lib.hid hrok.at_
    clear hrok hcp hps
    replace h := Lib.hid h
    go_enter Try.func35, Try.ntmps35
    go_wp2_with fail
    refine (l2Records_any _ _ _ hv.out).mono ?_
    rintro e w1 ⟨rfl, rfl⟩
    rw [h.out]
    go_wp2_with fail
    refine (l5Runs_any _ _ _ hv.out (by omega)).mono ?_
    rintro e w1 ⟨ro, rfl, hro, hb1⟩
    have hrs1 := hro.sl (by omega)
    obtain ⟨ra, rc, rfl, hrc1, hrc2⟩ := hrs1.shape
    rw [hK] at hrs1 hrc1 ⊢
    have hz1 := hb1.size
    obtain ⟨z, hz⟩ : ∃ z, w1.heap.size = z := ⟨_, rfl⟩
    obtain ⟨W2, hW2⟩ : ∃ W2, W2 = (w1.alloc (.cells #[] 43)).alloc (.cells #[] 3) := ⟨_, rfl⟩
    have z1 : (w1.alloc (.cells #[] 43)).heap.size = z + 1 := by simp [hz]
    have hT0 : Hid (TS w (.slice ra K rc) (runsF x) [] [] [] (.slice (some ⟨z, 0, none⟩) 0 0) (.slice (some ⟨z + 1, 0, none⟩) 0 0) W2) := Lib.hid (by
      have o2 := (PS.start (B := w.heap.size) (W := w1) hz1).below (show Below _ _ ((w1.alloc (.cells #[] 43)).alloc (.cells #[] 3)) from (Below.refl _ _).alloc (Nat.le_refl _) _)
      have o1 := (Own.empty (w1.alloc (.cells #[] 43)) 3).base (B' := w.heap.size) (by omega)
      rw [z1] at o1
      rw [hz] at o2
      rw [hW2]
      exact ⟨o2, o1, hrs1.of_block (fun k hk => (((Below.refl w1.heap.size w1).alloc (Nat.le_refl _) (.cells #[] 43)).alloc (by omega) (.cells #[] 3)).block k (hrs1.lt k hk)), (hb1.alloc hz1 _).alloc (by omega) _⟩)
    replace hz := Lib.hid hz
    replace hK := Lib.hid hK
    unfold maxLen at hrc2
    clear hro hrs1 hb1 z1
    obtain ⟨xa, xc, rfl, hx1, hx2, _, hx4⟩ := hp.out
    unfold maxLen at hx2
    obtain ⟨n, hn⟩ : ∃ n, x.length = n := ⟨_, rfl⟩
    rw [hn] at hp hl hx1 ⊢
    rw [hn] at hv hat
    replace hn := Lib.hid hn
    clear hx4
    go_wp2
    rw [hz.out, ← hW2]
    replace hW2 := Lib.hid hW2
    go_loopw [6, 7, 8, 9] (fun o sz cm iv wr => ∃ (i : Nat) (us : List Value) (ao : Option Addr) (c0 : Nat), i ≤ K + 1 ∧ iv = .int .i64 (i : Nat) ∧ sz = .slice ao (AP (partsF x) i).1.length c0 ∧ cm = .int .i64 ((AP (partsF x) i).2 : Nat) ∧ TS w (.slice ra K rc) (runsF x) (AP (partsF x) i).1 (lens (AP (partsF x) i).1) us o sz wr ∧ (AP (partsF x) i).2 ≤ 200000 * i) (fun _ _ _ iv _ => 60 - (intOf iv).toNat)
    case atStart =>
      refine ⟨0, [], _, _, by omega, rfl, by rw [hA0.out]; rfl, by rw [hA0.out]; rfl, by rw [hA0.out]; exact hT0.out, by rw [hA0.out]; simp⟩
    case round =>
      clear hT0 hA0
      obtain ⟨i, us, ao, c0, hi, rfl, rfl, rfl, hT, hnb⟩ := hrel
      by_cases hle : i ≤ K
      · have hi1 : (i : Int) ≤ (K : Int) := by omega
        obtain ⟨f1, f2, f3⟩ := hap.out i hle
        obtain ⟨e, hie⟩ : ∃ e : Bool, ((i : Int) == (K : Int)) = e := ⟨_, rfl⟩
        have hPl : Hid (∀ h : i < K, AP (partsF x) (i + 1) = stl false (i + 1) ((AP (partsF x) i).1 ++ [partF x (gr (runsF x) i)], (AP (partsF x) i).2)) := Lib.hid (hAP.out i)
        have hPe : Hid (i = K → AP (partsF x) (i + 1) = stl true K (AP (partsF x) i)) := Lib.hid (fun h => by rw [h]; exact hAE.out)
        generalize hP1 : AP (partsF x) (i + 1) = P1 at *
        generalize hPi : AP (partsF x) i = Pi at *
        obtain ⟨S, nc⟩ := Pi
        dsimp only at hT hnb f1 f2 f3 hPl hPe ⊢
        replace hP1 := Lib.hid hP1
        replace hPi := Lib.hid hPi
        replace f2 := Lib.hid f2
        replace f3 := Lib.hid f3
        obtain ⟨ob, oc, rfl⟩ := hT.sk.nn
        have hul := Lib.hid hT.sk.len
        replace hT := Lib.hid hT
        go_upto_if 32 with (fail)
        go_cut [6, 7] from 29 to 107 (fun o sz wq => ∃ (S1 : List (List (Int × Int))) (us1 : List Value) (a1 : Option Addr) (c1 G : Nat), sz = .slice a1 S1.length c1 ∧ TS w (.slice ra K rc) (runsF x) S1 (lens S1) us1 o sz wq ∧ P1 = stl e G (S1, nc) ∧ S1.length ≤ G ∧ G ≤ 41 ∧ Gd 1000 (lens S1))
        case first =>
          -- BEGIN E
          by_cases hlt : i < K
          · have hi2 : (i : Int) < (K : Int) := by omega
            have hi20 : decide ((i : Int) < (K : Int)) = true := by simp; omega
            have hfe : e = false := by rw [← hie]; simp; omega
            have hC := hPl.out hlt
            rw [← hfe] at hC
            replace hC := Lib.hid hC
            replace f3 := Lib.hid (f3.out hlt)
            rw [hgpp.out i hlt] at f3
            have hmem := hat.out (gr (runsF x) i) (by rw [gr_eq (by rw [hK.out]; exact hlt)]; exact List.getElem_mem _)
            obtain ⟨rb, rf, rfl, _⟩ := hT.out.rs.row (by omega)
            obtain ⟨q1, q2, _⟩ := hT.out.rs.cells (i := i) (by omega)
            clear hPl hPe hie
            generalize hR0 : gr (runsF x) i = R0 at *
            obtain ⟨f0, k0⟩ := R0
            dsimp only at hmem q1 q2
            obtain ⟨fn, rfl⟩ : ∃ fn : Nat, f0 = (fn : Int) := ⟨f0.toNat, by omega⟩
            obtain ⟨kn, rfl⟩ : ∃ kn : Nat, k0 = (kn : Int) := ⟨k0.toNat, by omega⟩
            obtain ⟨en, hen⟩ : ∃ en, fn + kn = en := ⟨_, rfl⟩
            have hk1 : 1 ≤ kn := by omega
            have hek : en - fn = kn := by omega
            have hen1 : (fn : Int) + (kn : Int) = (en : Int) := by omega
            have hen2 : IntKind.i64.wrap ((fn : Int) + (kn : Int)) = (en : Int) := by rw [hen1]; exact IntWalk.i64_in _ (by omega)
            have hen9 : IntKind.i64.wrap (en : Int) = (en : Int) := IntWalk.i64_in _ (by omega)
            have hen3 : fn ≤ en := by omega
            have hen4 : en ≤ n := by omega
            have hen5 : en ≤ xc := by omega
            have hen6 : ¬ xc = fn := by omega
            have hen7 : (0 : Int) ≤ (fn : Int) := by omega
            have hen8 : (fn : Int) ≤ (en : Int) := by omega
            have hcl : (cutF x ((fn : Int), (kn : Int))).length = kn := by rw [cut_len (by rw [hn.out]; exact hmem)]; simp
            obtain ⟨xa', xc', ev, _, _, _, hx4⟩ := hp.out
            have hn9 := hn.out
            simp only [Value.slice.injEq] at ev
            obtain ⟨rfl, h99, rfl⟩ := ev
            clear h99
            obtain ⟨lb, lo, rfl, _⟩ := hx4 (by omega)
            have hxw := Lib.hid (hp.out.below hT.out.bel)
            clear hx4
            have hbW := Lib.hid (show Below wr.heap.size wr (wr.alloc (.cells #[] 72)) from (Below.refl _ _).alloc (Nat.le_refl _) _)
            have hcuV : Hid (∀ w', Below wr.heap.size wr w' → RdP w' (.slice (some ⟨lb, lo + fn * 2, none⟩) kn (xc - fn)) (cutF x ((fn : Int), (kn : Int)))) := Lib.hid (fun w' hw' => by
              have h1 := ((hxw.out.below hw').drop (k := fn) (by omega)).take (k := kn) (by omega)
              simpa [cutF] using h1)
            have hem := Lib.hid (OwnQ.empty 72 wr)
            have hrbl : rb < wr.heap.size := hT.out.rs.lt rb rfl
            replace hmem := Lib.hid hmem
            replace hR0 := Lib.hid hR0
            replace hcl := Lib.hid hcl
            replace hen := Lib.hid hen
            clear hn9
            go_upto_region 11 with (fail)
            go_cut [10] from 29 to 52 (fun p wq => ∃ (pg pc : Nat), p = .slice (some ⟨pg, 0, none⟩) kn pc ∧ SlQ 72 wq (.slice (some ⟨pg, 0, none⟩) kn pc) (cutF x ((fn : Int), (kn : Int))) ∧ wr.heap.size ≤ pg ∧ Below wr.heap.size wr wq)
            case first =>
              -- BEGIN A
              go_region_law (first | (refine step_append_recs eltRec rfl (.tmp 33) (.tmp 51) rfl wr.heap.size (.slice (some ⟨wr.heap.size, 0, none⟩) 0 0) [] (by simp [Act.eval, Act.put]) (hem.out.drewN 1) (.slice (some ⟨lb, lo + fn * 2, none⟩) kn (xc - fn)) (cutF x ((fn : Int), (kn : Int))) (by simp [Act.eval, Act.put]; try omega) (hcuV.out _ (Below.drewN hbW.out 1)) (by have := hcl.out; simp only [List.length_nil]; omega) (by first | (simp; done) | exact hbW.out.size) ?_; intro v5 w5 ho5 hg5; have hb5 := Lib.hid (Below.appendedQ (Below.drewN hbW.out 1) (hem.out.drewN 1) hg5 (by first | (simp; done) | exact Nat.le_succ _)); clear hg5; replace ho5 := Lib.hid ho5))
              all_goals
                obtain ⟨pg, pc, rfl, hpB, hps⟩ := ho5.out.open (by have := hcl.out; simp only [List.nil_append]; omega) (by have := hcl.out; simp only [List.nil_append]; omega)
                rw [List.nil_append, hcl.out] at hps
                rw [List.nil_append, hcl.out]
                replace hps := Lib.hid hps
                clear ho5
                go_simp
                go_wp2_with fail
                go_meet
                case rel => exact ⟨pg, pc, rfl, hps.out, hpB, hb5.out⟩
              -- END A
            case rest =>
              obtain ⟨pg, pc, rfl, hps, hpB, hbw⟩ := hcut
              clear hem hbW hcuV
              obtain ⟨w4, hw4⟩ : ∃ w4, w4 = wc := ⟨_, rfl⟩
              subst hw4
              obtain ⟨T, hT0⟩ : ∃ T : Bool, decide (1 < kn ∧ (gr (cutF x ((fn : Int), (kn : Int))) 1).1 < (gr (cutF x ((fn : Int), (kn : Int))) 0).1) = T := ⟨_, rfl⟩
              have hbw0 := Lib.hid hbw
              have hps0 := Lib.hid hps
              clear hbw
              go_upto_region 12 with (fail)
              go_cut [66] from 53 to 66 (fun c wq => c = .bool T ∧ SlQ 72 wq (.slice (some ⟨pg, 0, none⟩) kn pc) (cutF x ((fn : Int), (kn : Int))) ∧ Below wr.heap.size wr wq)
              case first =>
                -- BEGIN B
                by_cases hk2 : kn > 1
                · have hk2i : (kn : Int) > 1 := by omega
                  obtain ⟨a0, b0, _⟩ := hps.cells (i := 0) (by omega)
                  obtain ⟨a1, b1, _⟩ := hps.cells (i := 1) (by omega)
                  simp only [Nat.zero_add, Nat.zero_mul, Nat.one_mul] at a0 a1 b0 b1
                  by_cases hlt2 : (gr (cutF x ((fn : Int), (kn : Int))) 1).1 < (gr (cutF x ((fn : Int), (kn : Int))) 0).1
                  · have hTt : Hid (T = true) := Lib.hid (by rw [← hT0]; simp; exact ⟨hk2, hlt2⟩)
                    clear hT0 hps
                    generalize (gr (cutF x ((fn : Int), (kn : Int))) 1).1 = y1 at *
                    generalize (gr (cutF x ((fn : Int), (kn : Int))) 0).1 = y0 at *
                    go_wp2_with fail
                    go_quiet (fail)
                    go_wp2_with fail
                    go_meet
                    case rel => exact ⟨by rw [hTt.out]; first | done | rfl | (congr 1; simp; omega), SlQ.of_block hps0.out (fun k hk => rfl), Below.drewN hbw0.out _⟩
                  · have hTt : Hid (T = false) := Lib.hid (by rw [← hT0]; simp; omega)
                    clear hT0 hps
                    generalize (gr (cutF x ((fn : Int), (kn : Int))) 1).1 = y1 at *
                    generalize (gr (cutF x ((fn : Int), (kn : Int))) 0).1 = y0 at *
                    go_wp2_with fail
                    go_quiet (fail)
                    go_wp2_with fail
                    go_meet
                    case rel => exact ⟨by rw [hTt.out]; first | done | rfl | (congr 1; simp; omega), SlQ.of_block hps0.out (fun k hk => rfl), Below.drewN hbw0.out _⟩
                · have hk2i : ¬ (kn : Int) > 1 := by omega
                  have hk2d : decide ((1 : Int) < (kn : Int)) = false := by simp; omega
                  have hk2e : decide ((kn : Int) > 1) = false := by simp; omega
                  have hTt : Hid (T = false) := Lib.hid (by rw [← hT0]; simp; omega)
                  clear hT0 hps
                  go_wp2_with fail
                  go_quiet (fail)
                  go_wp2_with fail
                  go_meet
                  case rel => exact ⟨by rw [hTt.out]; first | done | rfl | (congr 1; simp; omega), SlQ.of_block hps0.out (fun k hk => rfl), Below.drewN hbw0.out _⟩
                -- END B
              case rest =>
                obtain ⟨rfl, hps1, hbw1⟩ := hcut
                clear hps hps0 hbw0
                have hpz := hbw1.size
                replace hps1 := Lib.hid hps1
                replace hbw1 := Lib.hid hbw1
                have hpsz := hps1.out.lt pg rfl
                obtain ⟨w5, hw5⟩ : ∃ w5, w5 = wc := ⟨_, rfl⟩
                subst hw5
                go_upto_if 66 with (fail)
                go_cut [] from 53 to 92 (fun wq => SlQ 72 wq (.slice (some ⟨pg, 0, none⟩) kn pc) (partF x ((fn : Int), (kn : Int))) ∧ Below wr.heap.size wr wq)
                case first =>
                  cases T
                  · have hpe : partF x ((fn : Int), (kn : Int)) = cutF x ((fn : Int), (kn : Int)) := by
                      unfold partF
                      rw [if_neg (fun hh => by rw [decide_eq_false_iff_not] at hT0; exact hT0 ⟨by have := hh.1; dsimp only at this; omega, hh.2⟩)]
                    go_wp2_with fail
                    go_meet
                    case rel => exact ⟨by rw [hpe]; exact hps1.out, hbw1.out⟩
                  · -- BEGIN C
                    have hpe : partF x ((fn : Int), (kn : Int)) = (cutF x ((fn : Int), (kn : Int))).reverse := by
                      unfold partF
                      rw [decide_eq_true_eq] at hT0
                      rw [if_pos ⟨by dsimp only; omega, hT0.2⟩]
                    have hC9 : Hid (∀ t, t < kn → gr (cutF x ((fn : Int), (kn : Int))) t = gr x (fn + t)) := Lib.hid (fun t ht => by
                      have := cutF_gr (xs := x) (r := ((fn : Int), (kn : Int))) (t := t) (by rw [hcl.out]; exact ht)
                      simpa using this)
                    have hpE := Lib.hid hpe
                    have hxc : Hid (∀ t, t < n → ∀ w', Below wr.heap.size wr w' → w'.cell? ⟨lb, lo + t * 2, none⟩ = some (.int .i64 (gr x t).1) ∧ w'.cell? ⟨lb, lo + t * 2 + 1, none⟩ = some (.int .i64 (gr x t).2)) := Lib.hid (fun t ht w' hw' => by
                      obtain ⟨ao', c', ev, _, _, _, h4⟩ := hxw.out.below hw'
                      simp only [Value.slice.injEq] at ev
                      obtain ⟨ev, _, _⟩ := ev
                      obtain ⟨b', off', e', h5⟩ := h4 (by rw [hn.out]; omega)
                      rw [← ev] at e'
                      simp only [Option.some.injEq, Addr.mk.injEq, and_true] at e'
                      obtain ⟨rfl, rfl⟩ := e'
                      exact h5 t (by rw [hn.out]; exact ht))
                    have hrc9 : Hid (∀ w', Below wr.heap.size wr w' → w'.cell? ⟨rb, rf + i * 2, none⟩ = some (.int .i64 (fn : Int)) ∧ w'.cell? ⟨rb, rf + i * 2 + 1, none⟩ = some (.int .i64 (kn : Int))) := Lib.hid (fun w' hw' =>
                      ⟨(World.cell?_of_block (w := wr) (hw'.block rb hrbl)).trans q1, (World.cell?_of_block (w := wr) (hw'.block rb hrbl)).trans q2⟩)
                    clear hpe hT0 q1 q2
                    obtain ⟨wo, hwo⟩ : ∃ wo, wo = wr := ⟨_, rfl⟩
                    subst hwo
                    obtain ⟨ep, hep⟩ : ∃ ep, en = ep + 1 := ⟨en - 1, by have := hen.out; omega⟩
                    have hep1 : (en : Int) - 1 = (ep : Int) := by omega
                    have hep2 : IntKind.i64.wrap (ep : Int) = (ep : Int) := IntWalk.i64_in _ (by omega)
                    replace hep := Lib.hid hep
                    go_wp2_with fail
                    go_loopw [11] (fun kv wq => ∃ k : Nat, k ≤ kn ∧ kv = .int .i64 (k : Nat) ∧ SlQ 72 wq (.slice (some ⟨pg, 0, none⟩) kn pc) (rvk (cutF x ((fn : Int), (kn : Int))) k) ∧ Below wo.heap.size wo wq) (fun kv _ => kn - (intOf kv).toNat)
                    case atStart => exact ⟨0, Nat.zero_le _, rfl, by rw [rvk_zero]; exact hps1.out, hbw1.out⟩
                    case round =>
                      clear hps1 hbw1
                      obtain ⟨k, hk, rfl, hs, hB⟩ := hrel
                      by_cases hlt : k < kn
                      · obtain ⟨r1, r2⟩ := hrc9.out wr hB
                        obtain ⟨m, hm⟩ : ∃ m, fn + (kn - 1 - k) = m := ⟨_, rfl⟩
                        have hmn : m < n := by have := hen.out; omega
                        obtain ⟨x1, x2⟩ := hxc.out m hmn wr hB
                        have hgm := hC9.out (kn - 1 - k) (by omega)
                        rw [hm] at hgm
                        have hset := hs.set (i := k) hlt (gr x m).1 (gr x m).2
                        have hrv := rvk_set (C := cutF x ((fn : Int), (kn : Int))) (k := k) hcl.out hlt
                        rw [hgm] at hrv
                        rw [show ((gr x m).1, (gr x m).2) = gr x m from rfl, hrv] at hset
                        obtain ⟨p1, p2, hfz⟩ := hs.cells (i := k) hlt
                        have hf1 := hfz (0 + k * 2)
                        have hf2 := hfz (0 + k * 2 + 1)
                        have hB2 := Lib.hid (Below.set2 (i := k * 2) (j := k * 2 + 1) (x := .int .i64 (gr x m).1) (y := .int .i64 (gr x m).2) hB hpB)
                        simp only [Nat.zero_add] at hf1 hf2 hset p1 p2
                        generalize (gr (rvk (cutF x ((fn : Int), (kn : Int))) k) k).1 = o1 at *
                        generalize (gr (rvk (cutF x ((fn : Int), (kn : Int))) k) k).2 = o2 at *
                        replace hset := Lib.hid hset
                        have hm1 : (ep : Int) - (k : Int) = (m : Int) := by have := hen.out; have := hep.out; omega
                        have hm2 : IntKind.i64.wrap (m : Int) = (m : Int) := IntWalk.i64_in _ (by omega)
                        have hm3 : (0 : Int) ≤ (m : Int) := by omega
                        have hm4 : (m : Int) < (n : Int) := by omega
                        have hk3 : (0 : Int) ≤ (k : Int) := by omega
                        have hk4 : (k : Int) < (kn : Int) := by omega
                        generalize gr x m = Y at *
                        obtain ⟨y1, y2⟩ := Y
                        dsimp only at x1 x2 hset hB2
                        replace hm := Lib.hid hm
                        clear hfz hrv hgm
                        replace hs := Lib.hid hs
                        replace hB := Lib.hid hB
                        go_wp2_with fail
                        go_region
                        go_wp2_with fail
                        go_roundw
                        case rel => exact ⟨k + 1, by omega, by go_num, hset.out, Below.set2 (Below.drewN hB.out _) hpB⟩
                        case measure => simp [intOf]; omega
                      · obtain rfl : kn = k := by omega
                        have hfull := rvk_full (cutF x ((fn : Int), (kn : Int)))
                        rw [hcl.out] at hfull
                        rw [hfull] at hs
                        replace hs := Lib.hid hs
                        replace hB := Lib.hid hB
                        clear hfull
                        go_wp2_with fail
                        go_meet
                        case rel => exact ⟨by rw [hpE.out]; exact hs.out, hB.out⟩
                    -- END C
                case rest =>
                  obtain ⟨hps2, hbw2⟩ := hcut
                  -- BEGIN D
                  clear hps1 hbw1 hT0
                  have hz2 := hbw2.size
                  have hEl2 : El w.heap.size wc (.slice (some ⟨pg, 0, none⟩) kn pc) (partF x ((fn : Int), (kn : Int))) := ⟨hps2, fun b hb => by
                    have h9 : pg = b := Option.some.inj hb
                    have := hT.out.bel.size
                    omega⟩
                  have hT2 := Lib.hid (hT.out.below hbw2)
                  have hul2 : us.length ≤ 1000000000 := by have := hul.out; omega
                  have hs2 : w.heap.size ≤ wc.heap.size := hT2.out.bel.size
                  have hSz : (ints (lens S)).length ≤ 1000000000 := by rw [ints_length, lens_length]; omega
                  have hpl : ((partF x ((fn : Int), (kn : Int))).length : Int) = (kn : Int) := by rw [part_len (by rw [hn.out]; exact hmem.out)]; simp
                  have hLs : Hid (ints (lens S) ++ [.int .i64 (kn : Int)] = ints (lens (S ++ [partF x ((fn : Int), (kn : Int))]))) := Lib.hid (by
                    rw [lens_snoc, hpl]; simp [ints])
                  obtain ⟨w6, hw6⟩ : ∃ w6, w6 = wc := ⟨_, rfl⟩
                  subst hw6
                  replace hEl2 := Lib.hid hEl2
                  clear hbw2 hpl hps2
                  go_wp2_with (at_builtin; refine append_one_at eltRecS rfl _ _ rfl w.heap.size _ _ rfl hT2.out.sk.own rfl rfl hul2 hs2 ?_)
                  intro o7 w7 ho7 hg7 _
                  have hT3 := Lib.hid (hT2.out.push hEl2.out ho7 hg7)
                  have hs3 : w.heap.size ≤ w7.heap.size := hT3.out.bel.size
                  clear ho7 hg7
                  go_wp2_with (at_builtin; refine append_one_at eltInt rfl _ _ rfl w.heap.size _ _ rfl hT3.out.so rfl rfl hSz hs3 ?_)
                  intro z8 w8 ho8 hg8 _
                  rw [hLs.out] at ho8
                  have hT4 := hT3.out.grow ho8 hg8
                  clear ho8 hg8
                  have hl9 : (lens (S ++ [partF x ((fn : Int), (kn : Int))])).length = (S ++ [partF x ((fn : Int), (kn : Int))]).length := lens_length _
                  obtain ⟨az, cz, rfl, _⟩ := hT4.so.sl
                  rw [ints_length, hl9] at hT4 ⊢
                  replace hT4 := Lib.hid hT4
                  clear hl9
                  go_wp2_with fail
                  go_meet
                  case rel => exact ⟨_, _, _, _, i + 1, rfl, hT4.out, hC.out, by simp; omega, by omega, f3.out⟩
                  -- END D
          · have hi2 : ¬ (i : Int) < (K : Int) := by omega
            have hi20 : decide ((i : Int) < (K : Int)) = false := by simp; omega
            have he : i = K := by omega
            have hfe : Hid (e = true) := Lib.hid (by rw [← hie, he]; simp)
            have hC := hPe.out he
            clear hie hPl hPe
            replace he := Lib.hid he
            replace hC := Lib.hid hC
            go_wp2_with fail
            go_meet
            case rel => exact ⟨S, us, _, _, K, rfl, hT.out, by rw [hfe.out]; exact hC.out, by have := he.out; omega, by omega, f2.out⟩
          -- END E
        case rest =>
          obtain ⟨S1, us1, a1, c1, G, rfl, hT1, hC1, g1, g2, g3⟩ := hcut
          clear hT hul f2 f3 hPl hPe hPi
          have hn1 := Lib.hid hC1
          have hT1h := Lib.hid hT1
          have hg3 := Lib.hid g3
          clear hC1 hT1 g3
          have hie2 := Lib.hid hie
          go_wp2_with fail
          refine (l5Next_any _ (lens S1) e _ (Sl.rd (xs := lens S1) (by have := hT1h.out.so.sl; exact this)) (by rw [lens_length]; omega) (fun q hq => by have := hg3.out.at_ hq; omega)).mono ?_
          rintro e1 w8 ⟨rfl, q8, rfl⟩
          go_wp2
          go_loopg [6, 7, 8, 12] G (fun g o sz cm at_ wq => ∃ (S2 : List (List (Int × Int))) (us2 : List Value) (a2 : Option Addr) (c2 n2 : Nat), sz = .slice a2 S2.length c2 ∧ cm = .int .i64 (n2 : Nat) ∧ at_ = .int .i64 (nextF (lens S2) e) ∧ TS w (.slice ra K rc) (runsF x) S2 (lens S2) us2 o sz wq ∧ Hid (stl e g (S2, n2) = P1) ∧ S2.length ≤ g ∧ g ≤ 41 ∧ Hid (Gd 1000 (lens S2)) ∧ n2 + 2000 * g ≤ 200000 * (i + 1))
          case atStart => exact ⟨S1, us1, _, _, nc, rfl, rfl, rfl, hT1h.out.below (Below.drewN (Below.refl _ _) _), Lib.hid hn1.out.symm, g1, g2, hg3, by omega⟩
          case round =>
            clear hT1h hn1 hg3 g1 g2
            obtain ⟨S2, us2, a2, c2, n2, rfl, rfl, rfl, hT, hR, b1, b2, hG, hnb2⟩ := hrel
            obtain ⟨wl, rfl⟩ : ∃ z : World, z = wr := ⟨_, rfl⟩
            by_cases hnx : 0 ≤ nextF (lens S2) e
            · -- BEGIN F
              have hbd := nextF_bd hnx
              rw [lens_length] at hbd
              obtain ⟨g, rfl⟩ : ∃ z, gk = z + 1 := ⟨gk - 1, by omega⟩
              obtain ⟨k, hk⟩ := Int.eq_ofNat_of_zero_le hnx
              obtain ⟨m, hm⟩ : ∃ m, S2.length = m + 2 := ⟨S2.length - 2, by omega⟩
              have hst := stl_next (e := e) (m := g) (s := (S2, n2)) hnx
              dsimp only at hst
              rw [hk, Int.toNat_natCast, hR.out] at hst
              rw [hk] at hbd ⊢
              rw [hm] at hbd b1 ⊢
              clear hR hnx
              have hk2m : k + 2 ≤ m + 2 := by omega
              have hul := hT.sk.len
              rw [hm] at hul
              obtain ⟨ob, oc, rfl⟩ := hT.sk.nn
              rw [hul] at hT ⊢
              rw [hm] at hT
              have hgr := hT.sk.own.opened'.2.1
              have hoc : m + 2 ≤ oc := by have := hgr.le; omega
              have e1 := hgr.cell (i := k) (by omega)
              have e2 := hgr.cell (i := k + 1) (by omega)
              rw [← gv_eq, Nat.zero_add] at e1 e2
              have hobl : ob < wl.heap.size := hgr.lt
              have A1 := hT.sk.el k (by omega)
              have A2 := hT.sk.el (k + 1) (by omega)
              have l1 := hG.out.at_ (i := k) (by rw [lens_length]; omega)
              have l2 := hG.out.at_ (i := k + 1) (by rw [lens_length]; omega)
              rw [gi_lens] at l1 l2
              have hg9 : Hid (Gd 1000 (lens (mgP S2 k))) := Lib.hid (by rw [lens_mgP]; exact hG.out.mg (by rw [lens_length]; omega))
              have hlq : (mgP S2 k).length = m + 1 := by
                have h1 := mgAt_length (st := lens S2) (k := k) (by rw [lens_length]; omega)
                rw [← lens_mgP, lens_length, lens_length] at h1
                omega
              have hml2 := mergeF_len _ (gp S2 k) (gp S2 (k + 1)) rfl
              have hmerge := Lib.hid (l5Merge_any (gv us2 k) (gv us2 (k + 1)) (gp S2 k) (gp S2 (k + 1)) wl.drew (A1.1.rdP.below (Below.drewN (Below.refl _ _) 1)) (A2.1.rdP.below (Below.drewN (Below.refl _ _) 1)) (by omega))
              obtain ⟨xa, xc, ex, _⟩ := A1.1.shape
              obtain ⟨ya, yc, ey, _⟩ := A2.1.shape
              rw [ex] at e1 hmerge
              rw [ey] at e2 hmerge
              have hone : Hid (∀ y ∈ us2, y.oneCell' = true) := Lib.hid (fun y hy => by
                obtain ⟨i9, hi9, rfl⟩ := List.getElem_of_mem hy
                obtain ⟨za, zc, ez, _⟩ := (hT.sk.el i9 (by omega)).1.shape
                rw [← gv_eq, ez]; rfl)
              have hsS : Hid (mgS (S2, n2) k = (S2.take k ++ ((mergeF (gp S2 k) (gp S2 (k + 1))).1 :: S2.drop (k + 2)), n2 + (mergeF (gp S2 k) (gp S2 (k + 1))).2)) := Lib.hid rfl
              have hsP : Hid (mgP S2 k = S2.take k ++ ((mergeF (gp S2 k) (gp S2 (k + 1))).1 :: S2.drop (k + 2))) := Lib.hid rfl
              rw [hsS.out] at hst
              clear hsS
              generalize (gp S2 k).length = xl at *
              generalize (gp S2 (k + 1)).length = yl at *
              generalize hMM : mergeF (gp S2 k) (gp S2 (k + 1)) = MM at *
              obtain ⟨M, t⟩ := MM
              dsimp only at hml2 hst hsP
              obtain ⟨k1, hk1⟩ : ∃ k1, k + 1 = k1 := ⟨_, rfl⟩
              rw [hk1] at e2
              have i1 : (0 : Int) ≤ (k : Int) := by omega
              have i2 : (k : Int) < ((m : Int) + 2) := by omega
              have i7 : (k : Int) + 1 = (k1 : Int) := by omega
              have i3 : IntKind.i64.wrap ((k : Int) + 1) = (k1 : Int) := by rw [i7]; exact IntWalk.i64_in _ (by omega)
              have i4 : (0 : Int) ≤ (k1 : Int) := by omega
              have i5 : (k1 : Int) < ((m : Int) + 2) := by omega
              have i6 : IntKind.i64.wrap (k1 : Int) = (k1 : Int) := IntWalk.i64_in _ (by omega)
              have i8 : k < m + 2 := by omega
              have i9 : k1 < m + 2 := by omega
              obtain ⟨Z, hZ⟩ : ∃ Z, n2 + t = Z := ⟨_, rfl⟩
              have hw0 : (n2 : Int) + (t : Int) = (Z : Int) := by omega
              have hw1 : IntKind.i64.wrap ((n2 : Int) + (t : Int)) = (Z : Int) := by rw [hw0]; exact IntWalk.i64_in _ (by omega)
              have hw2 : IntKind.i64.wrap (Z : Int) = (Z : Int) := IntWalk.i64_in _ (by omega)
              have hZb : Hid (Z + 2000 * g ≤ 200000 * (i + 1)) := Lib.hid (by omega)
              obtain ⟨ML, hML⟩ : ∃ ML, M.length = ML := ⟨_, rfl⟩
              have hMb : Hid (ML ≤ 2000) := Lib.hid (by omega)
              rw [hZ] at hst
              replace hZ := Lib.hid hZ
              replace hst := Lib.hid hst
              replace hk1 := Lib.hid hk1
              replace hMM := Lib.hid hMM
              replace hml2 := Lib.hid hml2
              replace hm := Lib.hid hm
              replace hul := Lib.hid hul
              replace hk := Lib.hid hk
              replace hlq := Lib.hid hlq
              replace hML := Lib.hid hML
              replace hG := Lib.hid hG
              replace hT := Lib.hid hT
              have hBl := Lib.hid (Below.refl wl.heap.size wl)
              have hwsz := hT.out.bel.size
              clear A1 A2 ex ey hgr
              go_upto_block 5 with (fail)
              go_cut [6, 7, 8] from 113 to 158 (fun o sz cm wq => ∃ (us3 : List Value) (a7 : Option Addr) (c7 : Nat), sz = .slice a7 (m + 1) c7 ∧ cm = .int .i64 (Z : Nat) ∧ TS w (.slice ra K rc) (runsF x) (mgP S2 k) (lens (mgP S2 k)) us3 o sz wq)
              case first =>
                -- BEGIN L
                go_upto_region 22 with (fail)
                go_cut [13, 14] from 113 to 128 (fun mv nv wq => ∃ (ma : Option Addr) (mc : Nat), mv = .slice ma ML mc ∧ nv = .int .i64 (t : Nat) ∧ El w.heap.size wq (.slice ma ML mc) M ∧ Below wl.heap.size wl wq)
                case first =>
                  -- BEGIN J
                  have j2 : (k : Int) < ((m + 2 : Nat) : Int) := by omega
                  have j5 : (k1 : Int) < ((m + 2 : Nat) : Int) := by omega
                  clear i2 i5 i8 i9 hbd hk2m hoc
                  generalize m + 2 = nn at *
                  go_region_held3 (fun w' => w'.cell? ⟨ob, k, none⟩ = some (.slice xa xl xc) ∧ w'.cell? ⟨ob, k1, none⟩ = some (.slice ya yl yc)) ((first | exact ⟨(hbel.cell (p := ⟨ob, k, none⟩) hobl).trans e1, (hbel.cell (p := ⟨ob, k1, none⟩) hobl).trans e2⟩ | go_keep)) ((go_at_call 75; refine hmerge.out.mono ?_; rintro e w' ⟨out, rfl, hout, hbel⟩))
                  have hv2 : El w.heap.size w' out M := ⟨hout.sl (by have := hMb.out; have := hML.out; omega), fun b hb => by have h1 : wl.heap.size ≤ b := (hout.lt b hb).1; omega⟩
                  obtain ⟨oa, oc9, eo, _⟩ := hv2.1.shape
                  subst eo
                  rw [hML.out] at hv2 ⊢
                  have hB9 : Below wl.heap.size wl w' := (show Below wl.heap.size wl wl.drew from Below.drewN (Below.refl _ _) 1).trans hbel
                  replace hv2 := Lib.hid hv2
                  replace hB9 := Lib.hid hB9
                  clear hout hbel
                  go_wp2_with fail
                  go_meet
                  case rel => exact ⟨oa, oc9, rfl, rfl, hv2.out, hB9.out⟩
                  -- END J
                case rest =>
                  -- BEGIN K
                  clear hmerge e1 e2 hBl
                  obtain ⟨ma, mc, rfl, rfl, hv2, hB9⟩ := hcut
                  obtain ⟨w3, rfl⟩ : ∃ z : World, z = wc := ⟨_, rfl⟩
                  have hT3 := Lib.hid (hT.out.below hB9)
                  replace hv2 := Lib.hid hv2
                  clear hT hB9
                  have hob3 := hT3.out.sk.own.opened'.2.1.lt
                  have hyo : Hid ((Value.slice ma ML mc).oneCell' = true) := Lib.hid rfl
                  go_upto_region 24 with (fail)
                  go_cut [6] from 129 to 144 (fun o wq => ∃ us3, TS w (.slice ra K rc) (runsF x) (mgP S2 k) (lens S2) us3 o (.slice a2 (m + 2) c2) wq)
                  case first =>
                    -- BEGIN G
                    have hn0 := Nat.le_refl w3.heap.size
                    have hbW : Hid (Below w3.heap.size w3 w3.drew) := Lib.hid (Below.drewN (Below.refl _ _) 1)
                    have ho : Hid (Own (w3.drew.alloc (.cells #[] 43)) 43 w3.heap.size (.slice (some ⟨w3.heap.size, 0, none⟩) 0 0) []) := Lib.hid (Own.empty w3.drew 43)
                    have hoC : Hid (Own ((w3.drew.alloc (.cells #[.slice ma ML mc] 43)).alloc (.cells #[] 43)) 43 w3.heap.size (.slice (some ⟨w3.heap.size + 1, 0, none⟩) 0 0) []) :=
                      Lib.hid ((show Own _ _ (w3.heap.size + 1) (.slice (some ⟨w3.heap.size + 1, 0, none⟩) 0 0) [] by simpa using Own.empty (w3.drew.alloc (.cells #[.slice ma ML mc] 43)) 43).base (by omega))
                    have hxA : Hid (RdV ((w3.drew.alloc (.cells #[] 43)).alloc (.cells #[.slice ma ML mc] 43)) (.slice (some ⟨w3.heap.size + 1, 0, none⟩) 1 1) [.slice ma ML mc]) := Lib.hid (by simpa using RdV.new (w := w3.drew.alloc (.cells #[] 43)) (e := 43) (y := .slice ma ML mc))
                    have hxC : Hid (RdV ((w3.drew.alloc (.cells #[.slice ma ML mc] 43)).alloc (.cells #[] 43)) (.slice (some ⟨w3.heap.size, 0, none⟩) 1 1) [.slice ma ML mc]) := Lib.hid ((RdV.new (w := w3.drew) (e := 43) (y := .slice ma ML mc)).kept (Below.heap_alloc _ _ _ (by simp)))
                    have hbC : Hid (Below w3.heap.size w3 ((w3.drew.alloc (.cells #[.slice ma ML mc] 43)).alloc (.cells #[] 43))) := Lib.hid (Below.alloc (Below.alloc hbW.out hn0 _) (by simp) _)
                    have hsC : Hid (w3.heap.size ≤ ((w3.drew.alloc (.cells #[.slice ma ML mc] 43)).alloc (.cells #[] 43)).heap.size) := Lib.hid hbC.out.size
                    have hkC : Hid (w3.heap.size < ((w3.drew.alloc (.cells #[.slice ma ML mc] 43)).alloc (.cells #[] 43)).heap.size) := Lib.hid (by simp; try omega)
                    have hTk : Hid (∀ w', Below w3.heap.size w3 w' → RdV w' (.slice (some ⟨ob, 0, none⟩) k oc) (us2.take k)) := Lib.hid fun w' hw' => (hT3.out.sk.own.opened'.2.1.below hw' hob3).rdTakeV (by have := hul.out; omega)
                    have hL1 : Hid ((us2.take k).length ≤ 1000) := Lib.hid (by have := hul.out; rw [List.length_take]; omega)
                    have hL2 : Hid ((us2.drop (k + 2)).length ≤ 1000) := Lib.hid (by have := hul.out; rw [List.length_drop]; omega)
                    have hp1 : (0 : Int) ≤ (k : Int) := by omega
                    obtain ⟨k2, hk2⟩ : ∃ k2, k2 = k + 2 := ⟨_, rfl⟩
                    have hwk : IntKind.i64.wrap ((k : Int) + 2) = (k2 : Int) := by rw [hk2]; exact IntWalk.i64_in _ (by omega)
                    have hq1 : k2 ≤ m + 2 := by omega
                    have hq1i : (k2 : Int) ≤ (m : Int) + 2 := by omega
                    have hq2 : (k : Int) ≤ (oc : Int) := by omega
                    have hq3 : k ≤ oc := by omega
                    have hq4 : ¬ oc = k := by omega
                    have hq5 : (0 : Int) ≤ (k2 : Int) := by omega
                    have hq8 : k2 ≤ oc := by omega
                    have hq9 : (k2 : Int) ≤ (oc : Int) := by omega
                    by_cases hck : oc = k2
                    · have hDr : Hid (∀ w', Below w3.heap.size w3 w' → RdV w' (.slice (some ⟨ob, 0, none⟩) 0 0) (us2.drop (k + 2))) := Lib.hid fun w' hw' => by
                        rw [List.drop_eq_nil_of_le (by have := hul.out; omega)]; exact RdV.noneV
                      have hmk : m = k := by omega
                      subst hmk
                      subst hck
                      obtain rfl : oc = m + 2 := hk2
                      have hz1 : (m : Int) ≤ (m : Int) + 2 := by omega
                      have hz2 : m ≤ m + 2 := by omega
                      have hz3 : ¬ m + 2 = m := by omega
                      have hz6 : (0 : Int) ≤ (m : Int) + 2 := by omega
                      have hz7 : ((m : Int) + 2).toNat = m + 2 := by omega
                      have hz8 : IntKind.i64.wrap ((m : Int) + 2) = (m : Int) + 2 := IntWalk.i64_in _ (by omega)
                      clear hwk hq1 hq1i hq2 hq3 hq4 hq5 hq8 hq9
                      -- BEGIN G0
                      go_wp2_with fail
                      go_region_law (first
                        | (refine step_append_all eltRecS rfl (.tmp 132) (.tmp 135) rfl w3.heap.size (.slice (some ⟨w3.heap.size, 0, none⟩) 0 0) [] (by simp [Act.eval, Act.put]) ho.out (.slice (some ⟨ob, 0, none⟩) m (m + 2)) (us2.take m) (by simp [Act.eval, Act.put]; try omega) (hTk.out _ (Below.alloc hbW.out hn0 _)) (fun y hy => hone.out y (List.mem_of_mem_take hy)) (by have := hL1.out; simp only [List.length_nil]; omega) (by simp) ?_; intro v3 w4 ho3 hg3; have hb4 := Lib.hid (Below.appended (Below.alloc hbW.out hn0 _) ho.out hg3 (by simp)); clear hg3; replace ho3 := Lib.hid ho3)
                        | (refine step_append_all eltRecS rfl (.tmp 132) (.tmp 135) rfl w3.heap.size (.slice (some ⟨w3.heap.size, 0, none⟩) 0 0) [] (by simp [Act.eval, Act.put]) (ho.out.alloc (.cells #[.slice ma ML mc] 43)) (.slice (some ⟨ob, 0, none⟩) m (m + 2)) (us2.take m) (by simp [Act.eval, Act.put]; try omega) (hTk.out _ (Below.alloc (Below.alloc hbW.out hn0 _) (by simp) _)) (fun y hy => hone.out y (List.mem_of_mem_take hy)) (by have := hL1.out; simp only [List.length_nil]; omega) (by simp; try omega) ?_; intro v3 w4 ho3 hg3; have hx4 := Lib.hid (grownBy.rdNew hg3 (b := w3.heap.size + 1) (by simp) (by simp [Value.ownBlock]) hxA.out); have hb4 := Lib.hid (Below.appended (Below.alloc (Below.alloc hbW.out hn0 _) (by simp) _) (ho.out.alloc (.cells #[.slice ma ML mc] 43)) hg3 (by simp; try omega)); clear hg3; replace ho3 := Lib.hid ho3)
                        | (refine step_append_all eltRecS rfl (.tmp 132) (.tmp 135) rfl w3.heap.size (.slice (some ⟨w3.heap.size + 1, 0, none⟩) 0 0) [] (by simp [Act.eval, Act.put]) hoC.out (.slice (some ⟨ob, 0, none⟩) m (m + 2)) (us2.take m) (by simp [Act.eval, Act.put]; try omega) (hTk.out _ hbC.out) (fun y hy => hone.out y (List.mem_of_mem_take hy)) (by have := hL1.out; simp only [List.length_nil]; omega) hsC.out ?_; intro v3 w4 ho3 hg3; have hx4 := Lib.hid (grownBy.rdNew hg3 (b := w3.heap.size) hkC.out (by simp [Value.ownBlock]) hxC.out); have hb4 := Lib.hid (Below.appended hbC.out hoC.out hg3 hsC.out); clear hg3; replace ho3 := Lib.hid ho3)
                        | (refine step_append_all eltRecS rfl (.tmp 136) (.tmp 138) rfl w3.heap.size v3 _ (by simp [Act.eval, Act.put]) (ho3.out.alloc _) (.slice (some ⟨w4.heap.size, 0, none⟩) 1 1) [.slice ma ML mc] (by simp [Act.eval, Act.put]) RdV.new (fun y hy => by rw [List.mem_singleton] at hy; subst hy; rfl) (by have := hL1.out; simp only [List.nil_append, List.length_singleton]; omega) (by have := hb4.out.size; simp; omega) ?_; intro v4 w5 ho4 hg4; have hb5 := Lib.hid (Below.appended (Below.alloc hb4.out hb4.out.size _) (ho3.out.alloc _) hg4 (by have := hb4.out.size; simp; omega)); clear hg4; replace ho4 := Lib.hid ho4)
                        | (refine step_append_all eltRecS rfl (.tmp 136) (.tmp 138) rfl w3.heap.size v3 _ (by simp [Act.eval, Act.put]) ho3.out (.slice (some ⟨w3.heap.size + 1, 0, none⟩) 1 1) [.slice ma ML mc] (by simp [Act.eval, Act.put]) hx4.out (fun y hy => by rw [List.mem_singleton] at hy; subst hy; rfl) (by have := hL1.out; simp only [List.nil_append, List.length_singleton]; omega) (by have := hb4.out.size; simp; omega) ?_; intro v4 w5 ho4 hg4; have hb5 := Lib.hid (Below.appended hb4.out ho3.out hg4 hb4.out.size); clear hg4; replace ho4 := Lib.hid ho4)
                        | (refine step_append_all eltRecS rfl (.tmp 136) (.tmp 138) rfl w3.heap.size v3 _ (by simp [Act.eval, Act.put]) ho3.out (.slice (some ⟨w3.heap.size, 0, none⟩) 1 1) [.slice ma ML mc] (by simp [Act.eval, Act.put]) hx4.out (fun y hy => by rw [List.mem_singleton] at hy; subst hy; rfl) (by have := hL1.out; simp only [List.nil_append, List.length_singleton]; omega) (by have := hb4.out.size; simp; omega) ?_; intro v4 w5 ho4 hg4; have hb5 := Lib.hid (Below.appended hb4.out ho3.out hg4 hb4.out.size); clear hg4; replace ho4 := Lib.hid ho4)
                        | (refine step_append_all eltRecS rfl (.tmp 139) (.tmp 143) rfl w3.heap.size v4 _ (by simp [Act.eval, Act.put]) ho4.out (.slice (some ⟨ob, 0, none⟩) 0 0) (us2.drop (m + 2)) (by simp [Act.eval, Act.put]; try omega) (hDr.out _ hb5.out) (fun y hy => hone.out y (List.mem_of_mem_drop hy)) (by have := hL1.out; have := hL2.out; simp only [List.nil_append, List.length_append, List.length_singleton]; omega) (by have := hb5.out.size; simp; omega) ?_; intro v5 w6 ho5 hg5; have hb6 := Lib.hid (Below.appended hb5.out ho4.out hg5 hb5.out.size); clear hg5; have hT6 := Lib.hid (hT3.out.stack (k := m) (by have := hm.out; omega) hv2.out ho5 (Nat.le_refl _) hb6.out); rw [← hsP.out] at hT6; clear ho5 hb6))
                      all_goals
                        go_wp2_with fail
                        go_meet
                        case rel => exact ⟨_, hT6.out⟩
                      -- END G0
                    · have hDr : Hid (∀ w', Below w3.heap.size w3 w' → RdV w' (.slice (some ⟨ob, k2, none⟩) (m + 2 - k2) (oc - k2)) (us2.drop (k + 2))) := Lib.hid fun w' hw' => by
                        have := (hT3.out.sk.own.opened'.2.1.below hw' hob3).rdDropV (lo := k2) (n := m + 2 - k2) (by have := hul.out; omega) (by have := hul.out; omega)
                        rw [hk2] at this ⊢
                        simpa using this
                      have hck2 : ¬ k2 = oc := fun h => hck h.symm
                      replace hk2 := Lib.hid hk2
                      -- BEGIN G1
                      go_wp2_with fail
                      go_region_law (first
                        | (refine step_append_all eltRecS rfl (.tmp 132) (.tmp 135) rfl w3.heap.size (.slice (some ⟨w3.heap.size, 0, none⟩) 0 0) [] (by simp [Act.eval, Act.put]) ho.out (.slice (some ⟨ob, 0, none⟩) k oc) (us2.take k) (by simp [Act.eval, Act.put]; try omega) (hTk.out _ (Below.alloc hbW.out hn0 _)) (fun y hy => hone.out y (List.mem_of_mem_take hy)) (by have := hL1.out; simp only [List.length_nil]; omega) (by simp) ?_; intro v3 w4 ho3 hg3; have hb4 := Lib.hid (Below.appended (Below.alloc hbW.out hn0 _) ho.out hg3 (by simp)); clear hg3; replace ho3 := Lib.hid ho3)
                        | (refine step_append_all eltRecS rfl (.tmp 132) (.tmp 135) rfl w3.heap.size (.slice (some ⟨w3.heap.size, 0, none⟩) 0 0) [] (by simp [Act.eval, Act.put]) (ho.out.alloc (.cells #[.slice ma ML mc] 43)) (.slice (some ⟨ob, 0, none⟩) k oc) (us2.take k) (by simp [Act.eval, Act.put]; try omega) (hTk.out _ (Below.alloc (Below.alloc hbW.out hn0 _) (by simp) _)) (fun y hy => hone.out y (List.mem_of_mem_take hy)) (by have := hL1.out; simp only [List.length_nil]; omega) (by simp; try omega) ?_; intro v3 w4 ho3 hg3; have hx4 := Lib.hid (grownBy.rdNew hg3 (b := w3.heap.size + 1) (by simp) (by simp [Value.ownBlock]) hxA.out); have hb4 := Lib.hid (Below.appended (Below.alloc (Below.alloc hbW.out hn0 _) (by simp) _) (ho.out.alloc (.cells #[.slice ma ML mc] 43)) hg3 (by simp; try omega)); clear hg3; replace ho3 := Lib.hid ho3)
                        | (refine step_append_all eltRecS rfl (.tmp 132) (.tmp 135) rfl w3.heap.size (.slice (some ⟨w3.heap.size + 1, 0, none⟩) 0 0) [] (by simp [Act.eval, Act.put]) hoC.out (.slice (some ⟨ob, 0, none⟩) k oc) (us2.take k) (by simp [Act.eval, Act.put]; try omega) (hTk.out _ hbC.out) (fun y hy => hone.out y (List.mem_of_mem_take hy)) (by have := hL1.out; simp only [List.length_nil]; omega) hsC.out ?_; intro v3 w4 ho3 hg3; have hx4 := Lib.hid (grownBy.rdNew hg3 (b := w3.heap.size) hkC.out (by simp [Value.ownBlock]) hxC.out); have hb4 := Lib.hid (Below.appended hbC.out hoC.out hg3 hsC.out); clear hg3; replace ho3 := Lib.hid ho3)
                        | (refine step_append_all eltRecS rfl (.tmp 136) (.tmp 138) rfl w3.heap.size v3 _ (by simp [Act.eval, Act.put]) (ho3.out.alloc _) (.slice (some ⟨w4.heap.size, 0, none⟩) 1 1) [.slice ma ML mc] (by simp [Act.eval, Act.put]) RdV.new (fun y hy => by rw [List.mem_singleton] at hy; subst hy; rfl) (by have := hL1.out; simp only [List.nil_append, List.length_singleton]; omega) (by have := hb4.out.size; simp; omega) ?_; intro v4 w5 ho4 hg4; have hb5 := Lib.hid (Below.appended (Below.alloc hb4.out hb4.out.size _) (ho3.out.alloc _) hg4 (by have := hb4.out.size; simp; omega)); clear hg4; replace ho4 := Lib.hid ho4)
                        | (refine step_append_all eltRecS rfl (.tmp 136) (.tmp 138) rfl w3.heap.size v3 _ (by simp [Act.eval, Act.put]) ho3.out (.slice (some ⟨w3.heap.size + 1, 0, none⟩) 1 1) [.slice ma ML mc] (by simp [Act.eval, Act.put]) hx4.out (fun y hy => by rw [List.mem_singleton] at hy; subst hy; rfl) (by have := hL1.out; simp only [List.nil_append, List.length_singleton]; omega) (by have := hb4.out.size; simp; omega) ?_; intro v4 w5 ho4 hg4; have hb5 := Lib.hid (Below.appended hb4.out ho3.out hg4 hb4.out.size); clear hg4; replace ho4 := Lib.hid ho4)
                        | (refine step_append_all eltRecS rfl (.tmp 136) (.tmp 138) rfl w3.heap.size v3 _ (by simp [Act.eval, Act.put]) ho3.out (.slice (some ⟨w3.heap.size, 0, none⟩) 1 1) [.slice ma ML mc] (by simp [Act.eval, Act.put]) hx4.out (fun y hy => by rw [List.mem_singleton] at hy; subst hy; rfl) (by have := hL1.out; simp only [List.nil_append, List.length_singleton]; omega) (by have := hb4.out.size; simp; omega) ?_; intro v4 w5 ho4 hg4; have hb5 := Lib.hid (Below.appended hb4.out ho3.out hg4 hb4.out.size); clear hg4; replace ho4 := Lib.hid ho4)
                        | (refine step_append_all eltRecS rfl (.tmp 139) (.tmp 143) rfl w3.heap.size v4 _ (by simp [Act.eval, Act.put]) ho4.out (.slice (some ⟨ob, k2, none⟩) (m + 2 - k2) (oc - k2)) (us2.drop (k + 2)) (by simp [Act.eval, Act.put]; try omega) (hDr.out _ hb5.out) (fun y hy => hone.out y (List.mem_of_mem_drop hy)) (by have := hL1.out; have := hL2.out; simp only [List.nil_append, List.length_append, List.length_singleton]; omega) (by have := hb5.out.size; simp; omega) ?_; intro v5 w6 ho5 hg5; have hb6 := Lib.hid (Below.appended hb5.out ho4.out hg5 hb5.out.size); clear hg5; have hT6 := Lib.hid (hT3.out.stack (k := k) (by have := hm.out; omega) hv2.out ho5 (Nat.le_refl _) hb6.out); rw [← hsP.out] at hT6; clear ho5 hb6))
                      all_goals
                        go_wp2_with fail
                        go_meet
                        case rel => exact ⟨_, hT6.out⟩
                      -- END G1
                    -- END G
                  case rest =>
                    -- BEGIN H
                    obtain ⟨us3, hT6⟩ := hcut
                    clear hT3 hone hyo hv2 hob3
                    obtain ⟨w3, rfl⟩ : ∃ z : World, z = wc := ⟨_, rfl⟩
                    have hT6h := Lib.hid hT6
                    obtain ⟨b, rfl, hbB, hRow, _⟩ := hT6.so.form1 (by omega)
                    have hbl := hRow.lt
                    have hcc : m + 2 ≤ c2 := by have := hRow.le; rw [ints_length, lens_length, hm.out] at this; omega
                    replace hRow := Lib.hid hRow
                    replace hbB := Lib.hid hbB
                    clear hT6
                    have hlm : Hid (lens (mgP S2 k) = (lens S2).take k ++ ((ML : Int) :: (lens S2).drop (k + 2))) := Lib.hid (by rw [hsP.out, lens_mg, hML.out])
                    have hll : Hid ((lens S2).length = m + 2) := Lib.hid (by rw [lens_length, hm.out])
                    obtain ⟨o3, ho3e⟩ : ∃ o3, o3 = u6 := ⟨_, rfl⟩
                    subst ho3e
                    have hn0 := Nat.le_refl w3.heap.size
                    have hbW : Hid (Below w3.heap.size w3 w3.drew) := Lib.hid (Below.drewN (Below.refl _ _) 1)
                    have ho : Hid (Own (w3.drew.alloc (.cells #[] 3)) 3 w3.heap.size (.slice (some ⟨w3.heap.size, 0, none⟩) 0 0) []) := Lib.hid (Own.empty w3.drew 3)
                    have hoC : Hid (Own ((w3.drew.alloc (.cells #[.int .i64 (ML : Int)] 3)).alloc (.cells #[] 3)) 3 w3.heap.size (.slice (some ⟨w3.heap.size + 1, 0, none⟩) 0 0) []) :=
                      Lib.hid ((show Own _ _ (w3.heap.size + 1) (.slice (some ⟨w3.heap.size + 1, 0, none⟩) 0 0) [] by simpa using Own.empty (w3.drew.alloc (.cells #[.int .i64 (ML : Int)] 3)) 3).base (by omega))
                    have hxA : Hid (RdV ((w3.drew.alloc (.cells #[] 3)).alloc (.cells #[.int .i64 (ML : Int)] 3)) (.slice (some ⟨w3.heap.size + 1, 0, none⟩) 1 1) [.int .i64 (ML : Int)]) := Lib.hid (by simpa using RdV.new (w := w3.drew.alloc (.cells #[] 3)) (e := 3) (y := .int .i64 (ML : Int)))
                    have hxC : Hid (RdV ((w3.drew.alloc (.cells #[.int .i64 (ML : Int)] 3)).alloc (.cells #[] 3)) (.slice (some ⟨w3.heap.size, 0, none⟩) 1 1) [.int .i64 (ML : Int)]) := Lib.hid ((RdV.new (w := w3.drew) (e := 3) (y := .int .i64 (ML : Int))).kept (Below.heap_alloc _ _ _ (by simp)))
                    have hbC : Hid (Below w3.heap.size w3 ((w3.drew.alloc (.cells #[.int .i64 (ML : Int)] 3)).alloc (.cells #[] 3))) := Lib.hid (Below.alloc (Below.alloc hbW.out hn0 _) (by simp) _)
                    have hsC : Hid (w3.heap.size ≤ ((w3.drew.alloc (.cells #[.int .i64 (ML : Int)] 3)).alloc (.cells #[] 3)).heap.size) := Lib.hid hbC.out.size
                    have hkC : Hid (w3.heap.size < ((w3.drew.alloc (.cells #[.int .i64 (ML : Int)] 3)).alloc (.cells #[] 3)).heap.size) := Lib.hid (by simp; try omega)
                    have hTk : Hid (∀ w', Below w3.heap.size w3 w' → RdV w' (.slice (some ⟨b, 0, none⟩) k c2) (ints ((lens S2).take k))) := Lib.hid fun w' hw' => (hRow.out.below hw' hbl).rdTake (by have := hll.out; omega)
                    have hL1 : Hid ((ints ((lens S2).take k)).length ≤ 1000) := Lib.hid (by have := hll.out; rw [ints_length, List.length_take]; omega)
                    have hL2 : Hid ((ints ((lens S2).drop (k + 2))).length ≤ 1000) := Lib.hid (by have := hll.out; rw [ints_length, List.length_drop]; omega)
                    have hp1 : (0 : Int) ≤ (k : Int) := by omega
                    obtain ⟨k2, hk2⟩ : ∃ k2, k2 = k + 2 := ⟨_, rfl⟩
                    have hwk : IntKind.i64.wrap ((k : Int) + 2) = (k2 : Int) := by rw [hk2]; exact IntWalk.i64_in _ (by omega)
                    have hq1 : k2 ≤ m + 2 := by omega
                    have hq1i : (k2 : Int) ≤ (m : Int) + 2 := by omega
                    have hq2 : (k : Int) ≤ (c2 : Int) := by omega
                    have hq3 : k ≤ c2 := by omega
                    have hq4 : ¬ c2 = k := by omega
                    have hq5 : (0 : Int) ≤ (k2 : Int) := by omega
                    have hq8 : k2 ≤ c2 := by omega
                    have hq9 : (k2 : Int) ≤ (c2 : Int) := by omega
                    by_cases hck : c2 = k2
                    · have hDr : Hid (∀ w', Below w3.heap.size w3 w' → RdV w' (.slice (some ⟨b, 0, none⟩) 0 0) (ints ((lens S2).drop (k + 2)))) := Lib.hid fun w' hw' => by
                        rw [List.drop_eq_nil_of_le (by have := hll.out; omega)]; exact RdV.none0
                      have hmk : m = k := by omega
                      subst hmk
                      subst hck
                      obtain rfl : c2 = m + 2 := hk2
                      have hz1 : (m : Int) ≤ (m : Int) + 2 := by omega
                      have hz2 : m ≤ m + 2 := by omega
                      have hz3 : ¬ m + 2 = m := by omega
                      have hz6 : (0 : Int) ≤ (m : Int) + 2 := by omega
                      have hz7 : ((m : Int) + 2).toNat = m + 2 := by omega
                      have hz8 : IntKind.i64.wrap ((m : Int) + 2) = (m : Int) + 2 := IntWalk.i64_in _ (by omega)
                      clear hwk hq1 hq1i hq2 hq3 hq4 hq5 hq8 hq9
                      -- BEGIN H0
                      go_wp2_with fail
                      go_region_law (first
                        | (refine step_append_all eltInt rfl (.tmp 145) (.tmp 148) rfl w3.heap.size (.slice (some ⟨w3.heap.size, 0, none⟩) 0 0) [] (by simp [Act.eval, Act.put]) ho.out (.slice (some ⟨b, 0, none⟩) m (m + 2)) (ints ((lens S2).take m)) (by simp [Act.eval, Act.put]; try omega) (hTk.out _ (Below.alloc hbW.out hn0 _)) (ints_one _) (by have := hL1.out; simp only [List.length_nil]; omega) (by simp) ?_; intro v3 w4 ho3 hg3; have hb4 := Lib.hid (Below.appended (Below.alloc hbW.out hn0 _) ho.out hg3 (by simp)); clear hg3; replace ho3 := Lib.hid ho3)
                        | (refine step_append_all eltInt rfl (.tmp 145) (.tmp 148) rfl w3.heap.size (.slice (some ⟨w3.heap.size, 0, none⟩) 0 0) [] (by simp [Act.eval, Act.put]) (ho.out.alloc (.cells #[.int .i64 (ML : Int)] 3)) (.slice (some ⟨b, 0, none⟩) m (m + 2)) (ints ((lens S2).take m)) (by simp [Act.eval, Act.put]; try omega) (hTk.out _ (Below.alloc (Below.alloc hbW.out hn0 _) (by simp) _)) (ints_one _) (by have := hL1.out; simp only [List.length_nil]; omega) (by simp; try omega) ?_; intro v3 w4 ho3 hg3; have hx4 := Lib.hid (grownBy.rdNew hg3 (b := w3.heap.size + 1) (by simp) (by simp [Value.ownBlock]) hxA.out); have hb4 := Lib.hid (Below.appended (Below.alloc (Below.alloc hbW.out hn0 _) (by simp) _) (ho.out.alloc (.cells #[.int .i64 (ML : Int)] 3)) hg3 (by simp; try omega)); clear hg3; replace ho3 := Lib.hid ho3)
                        | (refine step_append_all eltInt rfl (.tmp 145) (.tmp 148) rfl w3.heap.size (.slice (some ⟨w3.heap.size + 1, 0, none⟩) 0 0) [] (by simp [Act.eval, Act.put]) hoC.out (.slice (some ⟨b, 0, none⟩) m (m + 2)) (ints ((lens S2).take m)) (by simp [Act.eval, Act.put]; try omega) (hTk.out _ hbC.out) (ints_one _) (by have := hL1.out; simp only [List.length_nil]; omega) hsC.out ?_; intro v3 w4 ho3 hg3; have hx4 := Lib.hid (grownBy.rdNew hg3 (b := w3.heap.size) hkC.out (by simp [Value.ownBlock]) hxC.out); have hb4 := Lib.hid (Below.appended hbC.out hoC.out hg3 hsC.out); clear hg3; replace ho3 := Lib.hid ho3)
                        | (refine step_append_all eltInt rfl (.tmp 149) (.tmp 152) rfl w3.heap.size v3 _ (by simp [Act.eval, Act.put]) (ho3.out.alloc _) (.slice (some ⟨w4.heap.size, 0, none⟩) 1 1) [.int .i64 (ML : Int)] (by simp [Act.eval, Act.put]) RdV.new (ints_one [(ML : Int)]) (by have := hL1.out; simp only [List.nil_append, List.length_singleton]; omega) (by have := hb4.out.size; simp; omega) ?_; intro v4 w5 ho4 hg4; have hb5 := Lib.hid (Below.appended (Below.alloc hb4.out hb4.out.size _) (ho3.out.alloc _) hg4 (by have := hb4.out.size; simp; omega)); clear hg4; replace ho4 := Lib.hid ho4)
                        | (refine step_append_all eltInt rfl (.tmp 149) (.tmp 152) rfl w3.heap.size v3 _ (by simp [Act.eval, Act.put]) ho3.out (.slice (some ⟨w3.heap.size + 1, 0, none⟩) 1 1) [.int .i64 (ML : Int)] (by simp [Act.eval, Act.put]) hx4.out (ints_one [(ML : Int)]) (by have := hL1.out; simp only [List.nil_append, List.length_singleton]; omega) (by have := hb4.out.size; simp; omega) ?_; intro v4 w5 ho4 hg4; have hb5 := Lib.hid (Below.appended hb4.out ho3.out hg4 hb4.out.size); clear hg4; replace ho4 := Lib.hid ho4)
                        | (refine step_append_all eltInt rfl (.tmp 149) (.tmp 152) rfl w3.heap.size v3 _ (by simp [Act.eval, Act.put]) ho3.out (.slice (some ⟨w3.heap.size, 0, none⟩) 1 1) [.int .i64 (ML : Int)] (by simp [Act.eval, Act.put]) hx4.out (ints_one [(ML : Int)]) (by have := hL1.out; simp only [List.nil_append, List.length_singleton]; omega) (by have := hb4.out.size; simp; omega) ?_; intro v4 w5 ho4 hg4; have hb5 := Lib.hid (Below.appended hb4.out ho3.out hg4 hb4.out.size); clear hg4; replace ho4 := Lib.hid ho4)
                        | (refine step_append_all eltInt rfl (.tmp 153) (.tmp 157) rfl w3.heap.size v4 _ (by simp [Act.eval, Act.put]) ho4.out (.slice (some ⟨b, 0, none⟩) 0 0) (ints ((lens S2).drop (m + 2))) (by simp [Act.eval, Act.put]; try omega) (hDr.out _ hb5.out) (ints_one _) (by have := hL1.out; have := hL2.out; simp only [List.nil_append, List.length_append, List.length_singleton]; omega) (by have := hb5.out.size; simp; omega) ?_; intro v5 w6 ho5 hg5; have hb6 := Lib.hid (Below.appended hb5.out ho4.out hg5 hb5.out.size); clear hg5; have hT8 := Lib.hid (hT6h.out.sizes (k := m) (z := (ML : Int)) ho5 (Nat.le_refl _) hb6.out); rw [← hlm.out] at hT8; obtain ⟨a7, c7, rfl, _⟩ := hT8.out.so.sl; rw [ints_length, lens_length, hlq.out] at hT8 ⊢; clear ho5 hb6))
                      all_goals
                        go_wp2_with fail
                        go_meet
                        case rel => exact ⟨us3, a7, c7, rfl, rfl, hT8.out⟩
                      -- END H0
                    · have hDr : Hid (∀ w', Below w3.heap.size w3 w' → RdV w' (.slice (some ⟨b, k2, none⟩) (m + 2 - k2) (c2 - k2)) (ints ((lens S2).drop (k + 2)))) := Lib.hid fun w' hw' => by
                        have := (hRow.out.below hw' hbl).rdDrop (lo := k2) (n := m + 2 - k2) (by have := hll.out; omega) (by have := hll.out; omega)
                        rw [hk2] at this ⊢
                        simpa using this
                      have hck2 : ¬ k2 = c2 := fun h => hck h.symm
                      replace hk2 := Lib.hid hk2
                      -- BEGIN H1
                      go_wp2_with fail
                      go_region_law (first
                        | (refine step_append_all eltInt rfl (.tmp 145) (.tmp 148) rfl w3.heap.size (.slice (some ⟨w3.heap.size, 0, none⟩) 0 0) [] (by simp [Act.eval, Act.put]) ho.out (.slice (some ⟨b, 0, none⟩) k c2) (ints ((lens S2).take k)) (by simp [Act.eval, Act.put]; try omega) (hTk.out _ (Below.alloc hbW.out hn0 _)) (ints_one _) (by have := hL1.out; simp only [List.length_nil]; omega) (by simp) ?_; intro v3 w4 ho3 hg3; have hb4 := Lib.hid (Below.appended (Below.alloc hbW.out hn0 _) ho.out hg3 (by simp)); clear hg3; replace ho3 := Lib.hid ho3)
                        | (refine step_append_all eltInt rfl (.tmp 145) (.tmp 148) rfl w3.heap.size (.slice (some ⟨w3.heap.size, 0, none⟩) 0 0) [] (by simp [Act.eval, Act.put]) (ho.out.alloc (.cells #[.int .i64 (ML : Int)] 3)) (.slice (some ⟨b, 0, none⟩) k c2) (ints ((lens S2).take k)) (by simp [Act.eval, Act.put]; try omega) (hTk.out _ (Below.alloc (Below.alloc hbW.out hn0 _) (by simp) _)) (ints_one _) (by have := hL1.out; simp only [List.length_nil]; omega) (by simp; try omega) ?_; intro v3 w4 ho3 hg3; have hx4 := Lib.hid (grownBy.rdNew hg3 (b := w3.heap.size + 1) (by simp) (by simp [Value.ownBlock]) hxA.out); have hb4 := Lib.hid (Below.appended (Below.alloc (Below.alloc hbW.out hn0 _) (by simp) _) (ho.out.alloc (.cells #[.int .i64 (ML : Int)] 3)) hg3 (by simp; try omega)); clear hg3; replace ho3 := Lib.hid ho3)
                        | (refine step_append_all eltInt rfl (.tmp 145) (.tmp 148) rfl w3.heap.size (.slice (some ⟨w3.heap.size + 1, 0, none⟩) 0 0) [] (by simp [Act.eval, Act.put]) hoC.out (.slice (some ⟨b, 0, none⟩) k c2) (ints ((lens S2).take k)) (by simp [Act.eval, Act.put]; try omega) (hTk.out _ hbC.out) (ints_one _) (by have := hL1.out; simp only [List.length_nil]; omega) hsC.out ?_; intro v3 w4 ho3 hg3; have hx4 := Lib.hid (grownBy.rdNew hg3 (b := w3.heap.size) hkC.out (by simp [Value.ownBlock]) hxC.out); have hb4 := Lib.hid (Below.appended hbC.out hoC.out hg3 hsC.out); clear hg3; replace ho3 := Lib.hid ho3)
                        | (refine step_append_all eltInt rfl (.tmp 149) (.tmp 152) rfl w3.heap.size v3 _ (by simp [Act.eval, Act.put]) (ho3.out.alloc _) (.slice (some ⟨w4.heap.size, 0, none⟩) 1 1) [.int .i64 (ML : Int)] (by simp [Act.eval, Act.put]) RdV.new (ints_one [(ML : Int)]) (by have := hL1.out; simp only [List.nil_append, List.length_singleton]; omega) (by have := hb4.out.size; simp; omega) ?_; intro v4 w5 ho4 hg4; have hb5 := Lib.hid (Below.appended (Below.alloc hb4.out hb4.out.size _) (ho3.out.alloc _) hg4 (by have := hb4.out.size; simp; omega)); clear hg4; replace ho4 := Lib.hid ho4)
                        | (refine step_append_all eltInt rfl (.tmp 149) (.tmp 152) rfl w3.heap.size v3 _ (by simp [Act.eval, Act.put]) ho3.out (.slice (some ⟨w3.heap.size + 1, 0, none⟩) 1 1) [.int .i64 (ML : Int)] (by simp [Act.eval, Act.put]) hx4.out (ints_one [(ML : Int)]) (by have := hL1.out; simp only [List.nil_append, List.length_singleton]; omega) (by have := hb4.out.size; simp; omega) ?_; intro v4 w5 ho4 hg4; have hb5 := Lib.hid (Below.appended hb4.out ho3.out hg4 hb4.out.size); clear hg4; replace ho4 := Lib.hid ho4)
                        | (refine step_append_all eltInt rfl (.tmp 149) (.tmp 152) rfl w3.heap.size v3 _ (by simp [Act.eval, Act.put]) ho3.out (.slice (some ⟨w3.heap.size, 0, none⟩) 1 1) [.int .i64 (ML : Int)] (by simp [Act.eval, Act.put]) hx4.out (ints_one [(ML : Int)]) (by have := hL1.out; simp only [List.nil_append, List.length_singleton]; omega) (by have := hb4.out.size; simp; omega) ?_; intro v4 w5 ho4 hg4; have hb5 := Lib.hid (Below.appended hb4.out ho3.out hg4 hb4.out.size); clear hg4; replace ho4 := Lib.hid ho4)
                        | (refine step_append_all eltInt rfl (.tmp 153) (.tmp 157) rfl w3.heap.size v4 _ (by simp [Act.eval, Act.put]) ho4.out (.slice (some ⟨b, k2, none⟩) (m + 2 - k2) (c2 - k2)) (ints ((lens S2).drop (k + 2))) (by simp [Act.eval, Act.put]; try omega) (hDr.out _ hb5.out) (ints_one _) (by have := hL1.out; have := hL2.out; simp only [List.nil_append, List.length_append, List.length_singleton]; omega) (by have := hb5.out.size; simp; omega) ?_; intro v5 w6 ho5 hg5; have hb6 := Lib.hid (Below.appended hb5.out ho4.out hg5 hb5.out.size); clear hg5; have hT8 := Lib.hid (hT6h.out.sizes (k := k) (z := (ML : Int)) ho5 (Nat.le_refl _) hb6.out); rw [← hlm.out] at hT8; obtain ⟨a7, c7, rfl, _⟩ := hT8.out.so.sl; rw [ints_length, lens_length, hlq.out] at hT8 ⊢; clear ho5 hb6))
                      all_goals
                        go_wp2_with fail
                        go_meet
                        case rel => exact ⟨us3, a7, c7, rfl, rfl, hT8.out⟩
                      -- END H1
                    -- END H
                    -- END K
                -- END L
              case rest =>
                obtain ⟨us3, a7, c7, rfl, rfl, hT8⟩ := hcut
                replace hT8 := Lib.hid hT8
                clear hT hmerge e1 e2
                go_wp2_with fail
                refine (l5Next_any _ (lens (mgP S2 k)) e _ (Sl.rd (xs := lens (mgP S2 k)) (by have := hT8.out.so.sl; exact this)) (by rw [lens_length, hlq.out]; omega) (fun q hq => by have := hg9.out.at_ hq; omega)).mono ?_
                rintro e1 w9 ⟨rfl, q9, rfl⟩
                go_wp2
                go_roundg g
                case measure => omega
                case rel => exact ⟨mgP S2 k, us3, a7, c7, Z, by rw [hlq.out], rfl, rfl, hT8.out.below (Below.drewN (Below.refl _ _) _), Lib.hid (by rw [hsP.out]; exact hst.out.symm), by rw [hlq.out]; omega, by omega, hg9, hZb.out⟩
                -- END F
            · -- BEGIN I
              have hstl : Hid (P1 = (S2, n2)) := Lib.hid (by rw [← hR.out, stl_stop (by exact hnx)])
              replace hT := Lib.hid hT
              clear hG hR
              go_wp2
              go_roundw
              case rel =>
                have hAP1 := hP1.out
                rw [hstl.out] at hAP1
                refine ⟨i + 1, us2, a2, c2, by omega, by go_num, ?_, ?_, ?_, ?_⟩
                all_goals rw [hAP1]
                · exact hT.out
                · dsimp only; omega
              case measure => simp [intOf]; omega
              -- END I
      · obtain rfl : i = K + 1 := by omega
        rw [hAF.out] at hT hnb ⊢
        dsimp only at hT hnb ⊢
        have hAe := hadf.out
        subst hAe
        have hBf := Lib.hid hT.bel
        have hul := hT.sk.len
        obtain ⟨ob, oc, eo⟩ := hT.sk.nn
        have hel0 : Hid (0 < (endP (partsF x)).1.length → El w.heap.size wr (gv us 0) (gp (endP (partsF x)).1 0)) := Lib.hid (fun h => hT.sk.el 0 h)
        have e1 : 0 < us.length → wr.cell? ⟨ob, 0, none⟩ = some (gv us 0) := fun h9 => by
          have h8 := hT.sk.own
          rw [eo] at h8
          have h7 := h8.opened'.2.1.cell (i := 0) h9
          rw [← gv_eq, Nat.zero_add] at h7
          exact h7
        subst eo
        replace hT := Lib.hid hT
        have hin : ¬ ((K : Int) + 1 ≤ (K : Int)) := by omega
        by_cases hK0 : K = 0
        · have h0 := hend0.out hK0
          have hul0 : us.length = 0 := by rw [hul, h0]; rfl
          clear e1
          rw [hul0]
          replace h0 := Lib.hid h0
          replace hul0 := Lib.hid hul0
          replace hul := Lib.hid hul
          go_wp2
          go_ret3
          have hsz0 := hsz9.out.1
          rw [h0.out] at hsz0 ⊢
          exact ⟨_, rfl, [wr.heap.size], ⟨(OwnQ.empty 72 wr).sl (by simp), rfl⟩, by intro b hb; simp at hb; have := hBf.out.size; omega, Below.alloc hBf.out hBf.out.size _, hsz0⟩
        · have h1 := hend1.out (by omega)
          obtain ⟨u, hu⟩ : ∃ u, us.length = u + 1 := ⟨us.length - 1, by omega⟩
          have hE := hel0.out (by omega)
          have e2 := e1 (by omega)
          obtain ⟨va, vc9, ev, _⟩ := hE.1.shape
          have hgl := hsz9.out.2
          dsimp only at hgl
          rw [ev] at e2
          rw [hu]
          have hE2 := hE
          rw [ev] at hE2
          have hob : ob < wr.heap.size := (hT.out.sk.own.lt ob rfl).2
          have e3 : (wr.alloc (.cells #[] 72)).cell? ⟨ob, 0, none⟩ = some (.slice va (gp (endP (partsF x)).1 0).length vc9) := by
            rw [World.cell?_of_block (w := wr) (((Below.refl wr.heap.size wr).alloc (Nat.le_refl _) (.cells #[] 72)).block ob hob)]; exact e2
          have hrd := Lib.hid ((SlQ.of_block hE2.1 (fun k hk => ((Below.refl wr.heap.size wr).alloc (Nat.le_refl _) (.cells #[] 72)).block k (hE2.1.lt k hk))).rdP)
          have hemp := Lib.hid (OwnQ.empty 72 wr)
          replace ev := Lib.hid ev
          replace hE2 := Lib.hid hE2
          replace hu := Lib.hid hu
          replace hul := Lib.hid hul
          have hu0 : ¬ ((u : Int) + 1 = 0) := by omega
          have hu1 : (((u : Int) + 1) == 0) = false := by simp; omega
          clear e1 hE
          go_wp2_with (at_builtin; refine append_recs eltRec rfl _ _ rfl wr.heap.size _ [] rfl hemp.out _ (gp (endP (partsF x)).1 0) rfl hrd.out (by simp; omega) (by simp) ?_)
          intro v5 w5 ho5 hg5
          have hb5 := Lib.hid (Below.appendedQ ((Below.refl wr.heap.size wr).alloc (Nat.le_refl _) (.cells #[] 72)) hemp.out hg5 (by simp))
          replace ho5 := Lib.hid ho5
          clear hg5
          go_wp2
          go_ret3
          exact ⟨_, rfl, _, ⟨ho5.out.sl (by omega), rfl⟩, fun b hb => by have h9 := ho5.out.lt b (by simpa using hb); have := hBf.out.size; omega, Below.next hBf.out hb5.out, hsz9.out.1⟩
end Go.Proofs.Ytdhcpoeopooejaa
