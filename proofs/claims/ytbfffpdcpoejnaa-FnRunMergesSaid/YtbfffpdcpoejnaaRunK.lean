/- RunMerges, spec: l5Plan. -/
import Derived.Test.YtbfffpdcpoejnaaRunN
import Derived.Test.YtbfffpdcpoejnaaRunG
import Derived.Test.YtbfffpdcpoejnaaBin
import Derived.Deep.LoopGhost
import Derived.Deep.CutRange
import Derived.Deep.CutBlock
namespace Go.Proofs.Ytbfffpdcpoejnaa
open Go.RowKit
set_option linter.unusedVariables false
set_option linter.unusedSimpArgs false

theorem l1Most_any (a b : Int) (w : World) :
    Calls Try.prog 109 #[.int .i64 a, .int .i64 b] w fun e w' => e = .returned (.int .i64 (max a b)) ∧ w = w' := by
  by_cases h : b < a
  · go_enter Try.func109, Try.ntmps109
    go_wp2
    go_ret
    exact ⟨ret_int (by omega), rfl⟩
  · go_enter Try.func109, Try.ntmps109
    go_wp2
    go_ret
    exact ⟨ret_int (by omega), rfl⟩
/-- Stack, out and height ahead of round i of spec.l5Plan. -/
def PK (cs : List Int) (i : Nat) : List Int × List Int × Nat :=
  if i ≤ cs.length then planK cs i else ((settle true cs.length (planK cs cs.length).1 (planK cs cs.length).2.1).1, (settle true cs.length (planK cs cs.length).1 (planK cs cs.length).2.1).2, (planK cs cs.length).2.2)
theorem Own_mgAt {w : World} {B m k : Nat} {v : Value} {L : List Int} {S : Int} (h : Own w 3 B v ((([] ++ ints (L.take k)) ++ [.int .i64 S]) ++ ints (L.drop (k + 2)))) (hS : gi L k + gi L (k + 1) = S) (hL : L.length = m + 2) (hk : k + 2 ≤ m + 2) :
    ∃ ao c, v = .slice ao (m + 1) c ∧ Hid (Own w 3 B (.slice ao (m + 1) c) (ints (mgAt L k))) := by
  have he : ((([] ++ ints (L.take k)) ++ [.int .i64 S]) ++ ints (L.drop (k + 2))) = ints (mgAt L k) := by simp [ints, mgAt, hS]
  rw [he] at h
  obtain ⟨ao, c, rfl, _⟩ := h.sl
  have hn : (ints (mgAt L k)).length = m + 1 := by have := mgAt_length (st := L) (k := k) (by omega); simp; omega
  rw [hn] at h ⊢
  exact ⟨ao, c, rfl, Lib.hid h⟩
theorem Own.form0 {w : World} {e B n c : Nat} {ao : Option Addr} {xs : List Value} (h : Own w e B (.slice ao n c) xs) (hn : 0 < n) : ∃ b, ao = some ⟨b, 0, none⟩ ∧ B ≤ b ∧ Row w e b 0 c xs ∧ xs.length = n := by
  have h' := h
  obtain ⟨hl, hh⟩ := h
  rcases hh with ⟨hv, _⟩ | ⟨g, cap, cur, hv, hg, _⟩
  · simp at hv; omega
  · simp at hv
    obtain ⟨rfl, rfl, rfl⟩ := hv
    exact ⟨g, rfl, hg, Row.of_owns h', rfl⟩

set_option maxRecDepth 10000 in
set_option maxHeartbeats 8000000 in
theorem l5Plan_any (v : Value) (x : List Int) (w : World) (hv : Rd w v x) (h1 : x.length ≤ 40) (h3 : ∀ c ∈ x, 1 ≤ c ∧ c ≤ 100000) :
    Calls Try.prog 93 #[v] w fun e w' => ∃ r, e = .returned (.tuple #[r, .int .i64 ((rmF x).2 : Nat)]) ∧ Own w' 3 w.heap.size r (ints (rmF x).1) ∧ Below w.heap.size w w' := by
  have hP := Lib.hid (planK_facts h3)
  have hC3 : Hid (∀ i, i < x.length → 1 ≤ gi x i ∧ gi x i ≤ 100000) := Lib.hid fun i hi => by rw [gi_eq hi]; exact h3 _ (List.getElem_mem hi)
  have hv0 := Lib.hid hv
  obtain ⟨ax, cx, rfl, q1, q2, HA⟩ := hv
  have hPK0 : Hid (PK x 0 = ([], [], 0)) := Lib.hid (by simp [PK, planK])
  have hPKf : Hid (PK x (x.length + 1) = ((settle true x.length (planK x x.length).1 (planK x x.length).2.1).1, (rmF x).1, (rmF x).2)) := Lib.hid (by unfold PK; rw [if_neg (by omega)]; rfl)
  have hPKi : Hid (∀ i, i ≤ x.length → PK x i = planK x i) := Lib.hid (fun i hi => by unfold PK; rw [if_pos hi])
  unfold maxLen at q2
  clear q1 h3
  generalize hn : x.length = n at *
  replace hn := Lib.hid hn
  replace HA := Lib.hid HA
  have ho0 := Lib.hid ((Own.empty w 3).alloc (.cells #[] 3))
  have hs0 : Hid (Own ((w.alloc (.cells #[] 3)).alloc (.cells #[] 3)) 3 w.heap.size (.slice (some ⟨w.heap.size + 1, 0, none⟩) 0 0) []) :=
    Lib.hid ((show Own _ _ (w.heap.size + 1) (.slice (some ⟨w.heap.size + 1, 0, none⟩) 0 0) [] by simpa using Own.empty (w.alloc (.cells #[] 3)) 3).base (by omega))
  have hb0 : Hid (Below w.heap.size w ((w.alloc (.cells #[] 3)).alloc (.cells #[] 3))) := Lib.hid (Below.alloc (Below.alloc (Below.refl _ _) (Nat.le_refl _) _) (by simp) _)
  go_enter Try.func93, Try.ntmps93
  go_wp2
  go_loopw [4, 5, 6, 7] (fun o mo s iv wr => ∃ (i : Nat) (ao : Option Addr) (c0 : Nat), i ≤ n + 1 ∧ iv = .int .i64 (i : Nat) ∧ s = .slice ao (PK x i).1.length c0 ∧ Own wr 3 w.heap.size o (ints (PK x i).2.1) ∧ mo = .int .i64 ((PK x i).2.2 : Nat) ∧ Own wr 3 w.heap.size s (ints (PK x i).1) ∧ (∀ b, s.ownBlock = some b → o.ownBlock ≠ some b) ∧ Below w.heap.size w wr) (fun _ _ _ iv _ => 60 - (intOf iv).toNat)
  case atStart =>
    refine ⟨0, _, _, by omega, rfl, by rw [hPK0.out]; rfl, by rw [hPK0.out]; exact ho0.out, by rw [hPK0.out]; rfl, by rw [hPK0.out]; exact hs0.out, ?_, hb0.out⟩
    intro b hb h
    simp [Value.ownBlock] at hb h
    omega
  case round =>
    clear ho0 hs0 hb0 hPK0
    obtain ⟨i, ao, c0, hi, rfl, rfl, hO, rfl, hS, hA, hB⟩ := hrel
    by_cases hle : i ≤ n
    · have hi1 : (i : Int) ≤ (n : Int) := by omega
      rw [hPKi.out i hle] at hO hS hA ⊢
      obtain ⟨p1, p2, p3⟩ := hP.out i hle
      have hg0 : Gd 100000000 (planK x i).1 := ⟨p1.pos, Int.le_trans p1.sum (by omega)⟩
      obtain ⟨e, hie⟩ : ∃ e : Bool, ((i : Int) == (n : Int)) = e := ⟨_, rfl⟩
      obtain ⟨hCl, hCe⟩ : (i < n → PK x (i + 1) = ((settle false (i + 1) ((planK x i).1 ++ [gi x i]) (planK x i).2.1).1, (settle false (i + 1) ((planK x i).1 ++ [gi x i]) (planK x i).2.1).2, max (planK x i).2.2 ((planK x i).1.length + 1))) ∧
          (i = n → PK x (i + 1) = ((settle true (i + 1) (planK x i).1 (planK x i).2.1).1, (settle true (i + 1) (planK x i).1 (planK x i).2.1).2, (planK x i).2.2)) := by
        refine ⟨fun hlt => ?_, fun he => ?_⟩
        · rw [hPKi.out (i + 1) (by omega)]; rfl
        · rw [he, hPKf.out, rmF, hn.out, settle_fuel true n (n + 1) (planK x n).1 (planK x n).2.1 (by rw [he] at p2; omega) (by rw [he] at p2; omega)]
      have hgp := fun (h : i < n) => (show Gd (100000 * (i : Int)) (planK x i).1 from p1).push (x := gi x i) (y := 100000) (by have := hC3.out i h; omega) (hC3.out i h).2
      generalize hPK1 : PK x (i + 1) = P1 at *
      generalize hPi : planK x i = Pi at *
      obtain ⟨st, out, most⟩ := Pi
      dsimp only at hO hS hA hg0 hgp p2 p3 hCl hCe ⊢
      replace hPK1 := Lib.hid hPK1
      replace hPi := Lib.hid hPi
      replace hCl := Lib.hid hCl
      replace hCe := Lib.hid hCe
      replace hgp := Lib.hid hgp
      replace hg0 := Lib.hid hg0
      have hvr := Lib.hid (hv0.out.below hB)
      have hsz : w.heap.size ≤ wr.heap.size := hB.size
      have hsl : (ints st).length ≤ 1000000000 := by rw [ints_length]; omega
      replace hO := Lib.hid hO
      replace hS := Lib.hid hS
      replace hA := Lib.hid hA
      replace hB := Lib.hid hB
      clear p1
      go_upto_if 20 with (fail)
      go_cut [4, 5, 6] from 11 to 71 (fun o mo s wq => ∃ (st1 : List Int) (M : Nat) (a1 : Option Addr) (c1 : Nat), o = u4 ∧ mo = .int .i64 (M : Nat) ∧ s = .slice a1 st1.length c1 ∧ Own wq 3 w.heap.size o (ints out) ∧ Own wq 3 w.heap.size s (ints st1) ∧ (∀ b, s.ownBlock = some b → o.ownBlock ≠ some b) ∧ Below w.heap.size w wq ∧
        st1.length ≤ i + 1 ∧ st1.length + out.length ≤ 90 ∧ Gd 100000000 st1 ∧ P1 = ((settle e (i + 1) st1 out).1, (settle e (i + 1) st1 out).2, M))
      case first =>
        by_cases hlt : i < n
        · have hi2 : (i : Int) < (n : Int) := by omega
          have hi20 : decide ((i : Int) < (n : Int)) = true := by simp; omega
          have hfe : e = false := by rw [← hie]; simp; omega
          obtain ⟨a9, c9, e9, _, _, HR⟩ := hvr.out
          rw [hn.out] at e9 HR
          simp at e9
          obtain ⟨rfl, rfl⟩ := e9
          obtain ⟨bx, ox, rfl, hRx⟩ := HR (by omega)
          have hcx := hRx i hlt
          have hC := Lib.hid (hCl.out hlt)
          have hgq := Lib.hid (hgp.out hlt)
          generalize hXi : gi x i = c at *
          clear HR hRx hv0 hie
          replace hXi := Lib.hid hXi
          go_wp2_with (at_builtin; refine append_one_at eltInt rfl _ _ rfl w.heap.size _ _ rfl hS.out rfl rfl hsl hsz ?_)
          intro s1 w1 hs1 hg1 hat1
          have hB1 := Lib.hid (Below.appended hB.out hS.out hg1 hsz)
          have hO1 := Lib.hid (hO.out.kept hg1 (by
            cases eo : u4.ownBlock with
            | none => exact .inl rfl
            | some q => exact .inr (fun h => hA.out q h.symm eo)))
          have hA1 : ∀ b, s1.ownBlock = some b → u4.ownBlock ≠ some b := by
            intro b hb
            rcases hat1 with h | h
            · exact hA.out b (by rw [← h]; exact hb)
            · intro ho
              rw [h] at hb
              have := (hO.out.lt b ho).2
              simp at hb
              omega
          have hs1' : Own w1 3 w.heap.size s1 (ints (st ++ [c])) := by simpa [ints] using hs1
          obtain ⟨as1, cs1, rfl, _⟩ := hs1'.sl
          have hl1 : (ints (st ++ [c])).length = st.length + 1 := by simp
          rw [hl1] at hs1' hA1 ⊢
          clear hs1 hg1 hat1 hS hO hA hB
          obtain ⟨N, hN⟩ : ∃ N, N = st.length + 1 := ⟨_, rfl⟩
          rw [← hN] at hs1' hA1 hC ⊢
          obtain ⟨M, hM⟩ : ∃ M : Nat, M = max most N := ⟨_, rfl⟩
          have hmx : max (most : Int) (N : Int) = (M : Int) := by omega
          rw [← hM] at hC
          have hS2 := Lib.hid hs1'
          have hA2 := Lib.hid hA1
          replace hmx := Lib.hid hmx
          replace hN := Lib.hid hN
          replace hM := Lib.hid hM
          clear hs1' hA1 hl1 hcx
          go_wp2_with fail
          refine (l1Most_any _ _ _).mono ?_
          rintro e1 w2 ⟨rfl, rfl⟩
          rw [hmx.out]
          go_wp2_with fail
          go_meet
          case rel =>
            have hl2 : (st ++ [c]).length = N := by rw [hN.out]; simp
            have hNN := hN.out
            refine ⟨st ++ [c], M, as1, cs1, rfl, rfl, by rw [hl2], hO1.out, hS2.out, hA2.out, hB1.out, by rw [hl2]; omega, by rw [hl2]; omega, ⟨hgq.out.pos, Int.le_trans hgq.out.sum (by omega)⟩, ?_⟩
            rw [hfe]
            exact hC.out
        · have hi2 : ¬ (i : Int) < (n : Int) := by omega
          have hi20 : decide ((i : Int) < (n : Int)) = false := by simp; omega
          have he : i = n := by omega
          have hfe : Hid (e = true) := Lib.hid (by rw [← hie, he]; simp)
          have hC := Lib.hid (hCe.out he)
          clear hie
          replace he := Lib.hid he
          go_wp2_with fail
          go_meet
          case rel =>
            refine ⟨st, most, _, _, rfl, rfl, rfl, hO.out, hS.out, hA.out, hB.out, by omega, by omega, hg0.out, ?_⟩
            rw [hfe.out]
            exact hC.out
      case rest =>
        obtain ⟨st1, M, a1, c1, rfl, rfl, rfl, hO1, hS1, hA1, hB1, hl1, hl2, hG1, hC1⟩ := hcut
        replace hO1 := Lib.hid hO1
        replace hS1 := Lib.hid hS1
        replace hA1 := Lib.hid hA1
        replace hB1 := Lib.hid hB1
        replace hG1 := Lib.hid hG1
        generalize hR : settle e (i + 1) st1 out = R at *
        replace hR := Lib.hid hR
        have hC := Lib.hid hC1
        clear hC1 hO hS hA hB hg0 hgp hCl hCe hvr hv0 hsz hsl hPi p2 p3
        go_wp2_with fail
        refine (l5Next_any _ st1 e _ (Sl.rd (xs := st1) hS1.out.sl) (by omega) (fun q hq => hG1.out.at_ hq)).mono ?_
        rintro e1 w8 ⟨rfl, q8, rfl⟩
        go_wp2
        have hO := hO1
        have hS := hS1
        have hA := hA1
        have hB := hB1
        have hG := hG1
        have hM : Hid (True) := Lib.hid trivial
        clear hO1 hS1 hA1 hB1 hG1
        have hCn := hC
        replace hl1 := Lib.hid hl1
        replace hl2 := Lib.hid hl2
        go_loopg [4, 6, 8] (i + 1) (fun g o s at_ wq => ∃ (st out : List Int) (ao : Option Addr) (c0 : Nat), s = .slice ao st.length c0 ∧ at_ = .int .i64 (nextF st e) ∧ Own wq 3 w.heap.size o (ints out) ∧ Own wq 3 w.heap.size s (ints st) ∧ (∀ b, s.ownBlock = some b → o.ownBlock ≠ some b) ∧
          Hid (settle e g st out = R) ∧ st.length ≤ g ∧ g ≤ 50 ∧ st.length + out.length ≤ 100 ∧ Hid (Gd 100000000 st) ∧ Below w.heap.size w wq)
        case atStart => exact ⟨_, _, _, _, rfl, rfl, hO.out.drewN _, hS.out.drewN _, hA.out, hR, hl1.out, by omega, by have := hl2.out; omega, hG, Below.drewN hB.out _⟩
        case round =>
          clear hO hS hA hR hG hB hC
          obtain ⟨L, out, ao, c0, rfl, rfl, hO, hS, hA, hR, b1, b2, b3, hG, hB⟩ := hrel
          by_cases hnx : 0 ≤ nextF L e
          · have hbd := nextF_bd hnx
            obtain ⟨g, rfl⟩ : ∃ z, gk = z + 1 := ⟨gk - 1, by omega⟩
            obtain ⟨k, hk⟩ := Int.eq_ofNat_of_zero_le hnx
            obtain ⟨m, hm⟩ : ∃ m, L.length = m + 2 := ⟨L.length - 2, by omega⟩
            have hst := settle_next (e := e) (m := g) (st := L) (out := out) hnx
            rw [hk, Int.toNat_natCast, hR.out] at hst
            rw [hk] at hbd ⊢
            rw [hm] at hS hA hbd b1 b3 ⊢
            clear hR hnx
            have hk2m : k + 2 ≤ m + 2 := by omega
            have hg9 := Lib.hid (hG.out.mg (k := k) (by omega))
            obtain ⟨b, rfl, hbB, hRow, _⟩ := hS.form0 (by omega)
            have hgk := hG.out.at_ (i := k) (by omega)
            have hgk1 := hG.out.at_ (i := k + 1) (by omega)
            have hcc : m + 2 ≤ c0 := by have := hRow.le; rw [ints_length] at this; omega
            have hneb := Lib.hid (hA b rfl)
            have hbB2 := Lib.hid hbB
            have hsz : w.heap.size ≤ wr.heap.size := hB.size
            have hol : (ints out).length ≤ 1000000000 := by rw [ints_length]; omega
            obtain ⟨S, hSS⟩ : ∃ S, gi L k + gi L (k + 1) = S := ⟨_, rfl⟩
            have hwS : IntKind.i64.wrap (gi L k + gi L (k + 1)) = S := by rw [← hSS]; exact IntWalk.i64_in _ (by omega)
            generalize hX : gi L k = X at *
            generalize hY : gi L (k + 1) = Y at *
            replace hX := Lib.hid hX
            replace hY := Lib.hid hY
            replace hSS := Lib.hid hSS
            replace hm := Lib.hid hm
            replace hst := Lib.hid hst
            replace hk := Lib.hid hk
            replace hRow := Lib.hid hRow
            replace hB := Lib.hid hB
            replace hO := Lib.hid hO
            replace hbd := Lib.hid hbd
            clear hS hA hG hbB hgk hgk1
            have hp1 : (0 : Int) ≤ (k : Int) := by omega
            go_upto_block 3 with (fail)
            go_cut [4, 6] from 38 to 71 (fun o s wq => ∃ (ao4 : Option Addr) (c4 : Nat), s = .slice ao4 (m + 1) c4 ∧ Own wq 3 w.heap.size o (ints (out ++ [(k : Int)])) ∧ Own wq 3 w.heap.size s (ints (mgAt L k)) ∧ (∀ b, s.ownBlock = some b → o.ownBlock ≠ some b) ∧ Below w.heap.size w wq)
            case first =>
              go_wp2_with (at_builtin; refine append_one_at eltInt rfl _ _ rfl w.heap.size _ _ rfl hO.out rfl rfl hol hsz ?_)
              intro v2 w3 ho2 hg2 hat2
              have hb3 := Lib.hid (Below.appended hB.out hO.out hg2 hsz)
              have hRow3 := Lib.hid (hRow.out.grown hg2 (fun h => hneb.out h.symm))
              have ho2s : Own w3 3 w.heap.size v2 (ints (out ++ [(k : Int)])) := by simpa [ints] using ho2
              have hlt3 := Lib.hid ho2.lt
              replace ho2s := Lib.hid ho2s
              have hc1 : w3.cell? ⟨b, k, none⟩ = some (.int .i64 X) := by have := hRow3.out.cellInt (i := k) (by rw [hm.out]; omega); rw [hX.out, Nat.zero_add] at this; exact this
              have hc2 : w3.cell? ⟨b, k + 1, none⟩ = some (.int .i64 Y) := by have := hRow3.out.cellInt (i := k + 1) (by rw [hm.out]; omega); rw [hY.out, Nat.zero_add] at this; exact this
              clear hg2 hat2 ho2 hO hB hRow hneb
              have hn0 := Nat.le_refl w3.heap.size
              have hbW : Hid (Below w3.heap.size w3 w3.drew) := Lib.hid (Below.drewN (Below.refl _ _) 1)
              have ho : Hid (Own (w3.drew.alloc (.cells #[] 3)) 3 w3.heap.size (.slice (some ⟨w3.heap.size, 0, none⟩) 0 0) []) := Lib.hid (Own.empty w3.drew 3)
              have hb2 := hRow3.out.lt
              have hoC : Hid (Own ((w3.drew.alloc (.cells #[.int .i64 S] 3)).alloc (.cells #[] 3)) 3 w3.heap.size (.slice (some ⟨w3.heap.size + 1, 0, none⟩) 0 0) []) :=
                Lib.hid ((show Own _ _ (w3.heap.size + 1) (.slice (some ⟨w3.heap.size + 1, 0, none⟩) 0 0) [] by simpa using Own.empty (w3.drew.alloc (.cells #[.int .i64 S] 3)) 3).base (by omega))
              have hxA : Hid (RdV ((w3.drew.alloc (.cells #[] 3)).alloc (.cells #[.int .i64 S] 3)) (.slice (some ⟨w3.heap.size + 1, 0, none⟩) 1 1) [.int .i64 S]) := Lib.hid (by simpa using RdV.new (w := w3.drew.alloc (.cells #[] 3)) (y := .int .i64 S))
              have hxC : Hid (RdV ((w3.drew.alloc (.cells #[.int .i64 S] 3)).alloc (.cells #[] 3)) (.slice (some ⟨w3.heap.size, 0, none⟩) 1 1) [.int .i64 S]) := Lib.hid ((RdV.new (w := w3.drew) (e := 3) (y := .int .i64 S)).kept (Below.heap_alloc _ _ _ (by simp)))
              have hbC : Hid (Below w3.heap.size w3 ((w3.drew.alloc (.cells #[.int .i64 S] 3)).alloc (.cells #[] 3))) := Lib.hid (Below.alloc (Below.alloc hbW.out hn0 _) (by simp) _)
              have hsC : Hid (w3.heap.size ≤ ((w3.drew.alloc (.cells #[.int .i64 S] 3)).alloc (.cells #[] 3)).heap.size) := Lib.hid hbC.out.size
              have hkC : Hid (w3.heap.size < ((w3.drew.alloc (.cells #[.int .i64 S] 3)).alloc (.cells #[] 3)).heap.size) := Lib.hid (by simp; try omega)
              have hcA := (Below.cell (Below.alloc hbW.out hn0 (.cells #[] 3)) (p := ⟨b, k, none⟩) hb2).trans hc1
              have hcB := (Below.cell (Below.alloc hbW.out hn0 (.cells #[] 3)) (p := ⟨b, k + 1, none⟩) hb2).trans hc2
              have hT : Hid (∀ w', Below w3.heap.size w3 w' → RdV w' (.slice (some ⟨b, 0, none⟩) k c0) (ints (L.take k))) := Lib.hid fun w' hw' => (hRow3.out.below hw' hb2).rdTake (by have := hm.out; omega)
              have hL1 : Hid ((ints (L.take k)).length ≤ 1000) := Lib.hid (by simp; omega)
              have hL2 : Hid ((ints (L.drop (k + 2))).length ≤ 1000) := Lib.hid (by have := hm.out; simp; omega)
              obtain ⟨k2, hk2⟩ : ∃ k2, k2 = k + 2 := ⟨_, rfl⟩
              have hwk : IntKind.i64.wrap ((k : Int) + 2) = (k2 : Int) := by rw [hk2]; exact IntWalk.i64_in _ (by omega)
              have hwk1 : IntKind.i64.wrap ((k : Int) + 1) = (k : Int) + 1 := IntWalk.i64_in _ (by omega)
              have hq1 : k2 ≤ m + 2 := by omega
              have hq1i : (k2 : Int) ≤ (m : Int) + 2 := by omega
              have hq2 : (k : Int) ≤ (c0 : Int) := by omega
              have hq3 : k ≤ c0 := by omega
              have hq4 : ¬ c0 = k := by omega
              have hq5 : (0 : Int) ≤ (k2 : Int) := by omega
              have hq6 : (k : Int) < (m : Int) + 2 := by omega
              have hq7 : (k : Int) + 1 < (m : Int) + 2 := by omega
              have hq8 : k2 ≤ c0 := by omega
              have hq9 : (k2 : Int) ≤ (c0 : Int) := by omega
              have hq10 : (0 : Int) ≤ (k : Int) + 1 := by omega
              have hq11 : ((k : Int) + 1).toNat = k + 1 := by omega
              have hq12 : k < m + 2 := by omega
              have hq13 : k + 1 < m + 2 := by omega
              by_cases hck : c0 = k2
              · have hD : Hid (∀ w', Below w3.heap.size w3 w' → RdV w' (.slice (some ⟨b, 0, none⟩) 0 0) (ints (L.drop (k + 2)))) := Lib.hid fun w' hw' => by
                  rw [List.drop_eq_nil_of_le (by have := hm.out; omega)]; exact RdV.none0
                have hmk : m = k := by omega
                subst hmk
                subst hck
                obtain rfl : c0 = m + 2 := hk2
                have hz1 : (m : Int) ≤ (m : Int) + 2 := by omega
                have hz2 : m ≤ m + 2 := by omega
                have hz3 : ¬ m + 2 = m := by omega
                have hz4 : (m : Int) + 1 < (m : Int) + 2 := by omega
                have hz5 : (m : Int) < (m : Int) + 2 := by omega
                have hz6 : (0 : Int) ≤ (m : Int) + 2 := by omega
                have hz7 : ((m : Int) + 2).toNat = m + 2 := by omega
                have hz8 : IntKind.i64.wrap ((m : Int) + 2) = (m : Int) + 2 := IntWalk.i64_in _ (by omega)
                clear hwk hq1 hq1i hq2 hq3 hq4 hq5 hq6 hq7 hq8 hq9 hq12 hq13
                go_wp2
                go_region_law (first
                  | (refine step_append_all eltInt rfl (.tmp 50) (.tmp 53) rfl w3.heap.size (.slice (some ⟨w3.heap.size, 0, none⟩) 0 0) [] (by simp [Act.eval, Act.put]) ho.out (.slice (some ⟨b, 0, none⟩) m (m + 2)) (ints (L.take m)) (by simp [Act.eval, Act.put]; try omega) (hT.out _ (Below.alloc hbW.out hn0 _)) (ints_one _) (by have := hL1.out; simp only [List.length_nil]; omega) (by simp) ?_; intro v3 w4 ho3 hg3; have hb4 := Lib.hid (Below.appended (Below.alloc hbW.out hn0 _) ho.out hg3 (by simp)); clear hg3; replace ho3 := Lib.hid ho3; have hc3 := (Below.cell hb4.out (p := ⟨b, m, none⟩) hb2).trans hc1; have hc4 := (Below.cell hb4.out (p := ⟨b, m + 1, none⟩) hb2).trans hc2)
                  | (refine step_append_all eltInt rfl (.tmp 50) (.tmp 53) rfl w3.heap.size (.slice (some ⟨w3.heap.size, 0, none⟩) 0 0) [] (by simp [Act.eval, Act.put]) (ho.out.alloc (.cells #[.int .i64 S] 3)) (.slice (some ⟨b, 0, none⟩) m (m + 2)) (ints (L.take m)) (by simp [Act.eval, Act.put]; try omega) (hT.out _ (Below.alloc (Below.alloc hbW.out hn0 _) (by simp) _)) (ints_one _) (by have := hL1.out; simp only [List.length_nil]; omega) (by simp; try omega) ?_; intro v3 w4 ho3 hg3; have hx4 := Lib.hid (grownBy.rdNew hg3 (b := w3.heap.size + 1) (by simp) (by simp [Value.ownBlock]) hxA.out); have hb4 := Lib.hid (Below.appended (Below.alloc (Below.alloc hbW.out hn0 _) (by simp) _) (ho.out.alloc (.cells #[.int .i64 S] 3)) hg3 (by simp; try omega)); clear hg3; replace ho3 := Lib.hid ho3; have hc3 := (Below.cell hb4.out (p := ⟨b, m, none⟩) hb2).trans hc1; have hc4 := (Below.cell hb4.out (p := ⟨b, m + 1, none⟩) hb2).trans hc2)
                  | (refine step_append_all eltInt rfl (.tmp 50) (.tmp 53) rfl w3.heap.size (.slice (some ⟨w3.heap.size + 1, 0, none⟩) 0 0) [] (by simp [Act.eval, Act.put]) hoC.out (.slice (some ⟨b, 0, none⟩) m (m + 2)) (ints (L.take m)) (by simp [Act.eval, Act.put]; try omega) (hT.out _ hbC.out) (ints_one _) (by have := hL1.out; simp only [List.length_nil]; omega) hsC.out ?_; intro v3 w4 ho3 hg3; have hx4 := Lib.hid (grownBy.rdNew hg3 (b := w3.heap.size) hkC.out (by simp [Value.ownBlock]) hxC.out); have hb4 := Lib.hid (Below.appended hbC.out hoC.out hg3 hsC.out); clear hg3; replace ho3 := Lib.hid ho3; have hc3 := (Below.cell hb4.out (p := ⟨b, m, none⟩) hb2).trans hc1; have hc4 := (Below.cell hb4.out (p := ⟨b, m + 1, none⟩) hb2).trans hc2)
                  | (refine step_append_all eltInt rfl (.tmp 54) (.tmp 65) rfl w3.heap.size v3 _ (by simp [Act.eval, Act.put]) (ho3.out.alloc _) (.slice (some ⟨w4.heap.size, 0, none⟩) 1 1) [.int .i64 S] (by simp [Act.eval, Act.put]) RdV.new (ints_one [S]) (by have := hL1.out; simp only [List.nil_append, List.length_singleton]; omega) (by have := hb4.out.size; simp; omega) ?_; intro v4 w5 ho4 hg4; have hb5 := Lib.hid (Below.appended (Below.alloc hb4.out hb4.out.size _) (ho3.out.alloc _) hg4 (by have := hb4.out.size; simp; omega)); clear hg4; replace ho4 := Lib.hid ho4)
                  | (refine step_append_all eltInt rfl (.tmp 54) (.tmp 65) rfl w3.heap.size v3 _ (by simp [Act.eval, Act.put]) ho3.out (.slice (some ⟨w3.heap.size + 1, 0, none⟩) 1 1) [.int .i64 S] (by simp [Act.eval, Act.put]) hx4.out (ints_one [S]) (by have := hL1.out; simp only [List.nil_append, List.length_singleton]; omega) (by have := hb4.out.size; simp; omega) ?_; intro v4 w5 ho4 hg4; have hb5 := Lib.hid (Below.appended hb4.out ho3.out hg4 hb4.out.size); clear hg4; replace ho4 := Lib.hid ho4)
                  | (refine step_append_all eltInt rfl (.tmp 54) (.tmp 65) rfl w3.heap.size v3 _ (by simp [Act.eval, Act.put]) ho3.out (.slice (some ⟨w3.heap.size, 0, none⟩) 1 1) [.int .i64 S] (by simp [Act.eval, Act.put]) hx4.out (ints_one [S]) (by have := hL1.out; simp only [List.nil_append, List.length_singleton]; omega) (by have := hb4.out.size; simp; omega) ?_; intro v4 w5 ho4 hg4; have hb5 := Lib.hid (Below.appended hb4.out ho3.out hg4 hb4.out.size); clear hg4; replace ho4 := Lib.hid ho4)
                  | (refine step_append_all eltInt rfl (.tmp 66) (.tmp 70) rfl w3.heap.size v4 _ (by simp [Act.eval, Act.put]) ho4.out (.slice (some ⟨b, 0, none⟩) 0 0) (ints (L.drop (m + 2))) (by simp [Act.eval, Act.put]; try omega) (hD.out _ hb5.out) (ints_one _) (by have := hL1.out; have := hL2.out; simp only [List.nil_append, List.length_append, List.length_singleton]; omega) (by have := hb5.out.size; simp; omega) ?_; intro v5 w6 ho5 hg5; have hb6 := Lib.hid (Below.appended hb5.out ho4.out hg5 hb5.out.size); clear hg5; obtain ⟨ao4, c4, rfl, ho6⟩ := Own_mgAt (m := m) ho5 (by rw [hX.out, hY.out]; exact hSS.out) hm.out (by omega); clear ho5))
                all_goals
                  have hlt6 := Lib.hid ho6.out.lt
                  have hbb := Lib.hid (hb3.out.trans (hb6.out.mono hb3.out.size))
                  have hout6 := Lib.hid (ho2s.out.below hb6.out)
                  have hs6 := Lib.hid (ho6.out.base hb3.out.size)
                  have ha6 : Hid (∀ q, (Value.slice ao4 (m + 1) c4).ownBlock = some q → v2.ownBlock ≠ some q) := Lib.hid (fun q hq h => by have := hlt6.out q hq; have := hlt3.out q h; omega)
                  clear ho6 hlt6 hlt3 hb6 hb3 ho2s hc1 hc2 hcA hcB
                  go_wp2_with fail
                  go_meet
                  case rel => exact ⟨ao4, c4, rfl, hout6.out, hs6.out, ha6.out, hbb.out⟩
              · have hD : Hid (∀ w', Below w3.heap.size w3 w' → RdV w' (.slice (some ⟨b, k2, none⟩) (m + 2 - k2) (c0 - k2)) (ints (L.drop (k + 2)))) := Lib.hid fun w' hw' => by
                  have := (hRow3.out.below hw' hb2).rdDrop (lo := k2) (n := m + 2 - k2) (by have := hm.out; omega) (by have := hm.out; omega)
                  rw [hk2] at this ⊢
                  simpa using this
                have hck2 : ¬ k2 = c0 := fun h => hck h.symm
                replace hk2 := Lib.hid hk2
                go_wp2
                go_region_law (first
                  | (refine step_append_all eltInt rfl (.tmp 50) (.tmp 53) rfl w3.heap.size (.slice (some ⟨w3.heap.size, 0, none⟩) 0 0) [] (by simp [Act.eval, Act.put]) ho.out (.slice (some ⟨b, 0, none⟩) k c0) (ints (L.take k)) (by simp [Act.eval, Act.put]; try omega) (hT.out _ (Below.alloc hbW.out hn0 _)) (ints_one _) (by have := hL1.out; simp only [List.length_nil]; omega) (by simp) ?_; intro v3 w4 ho3 hg3; have hb4 := Lib.hid (Below.appended (Below.alloc hbW.out hn0 _) ho.out hg3 (by simp)); clear hg3; replace ho3 := Lib.hid ho3; have hc3 := (Below.cell hb4.out (p := ⟨b, k, none⟩) hb2).trans hc1; have hc4 := (Below.cell hb4.out (p := ⟨b, k + 1, none⟩) hb2).trans hc2)
                  | (refine step_append_all eltInt rfl (.tmp 50) (.tmp 53) rfl w3.heap.size (.slice (some ⟨w3.heap.size, 0, none⟩) 0 0) [] (by simp [Act.eval, Act.put]) (ho.out.alloc (.cells #[.int .i64 S] 3)) (.slice (some ⟨b, 0, none⟩) k c0) (ints (L.take k)) (by simp [Act.eval, Act.put]; try omega) (hT.out _ (Below.alloc (Below.alloc hbW.out hn0 _) (by simp) _)) (ints_one _) (by have := hL1.out; simp only [List.length_nil]; omega) (by simp; try omega) ?_; intro v3 w4 ho3 hg3; have hx4 := Lib.hid (grownBy.rdNew hg3 (b := w3.heap.size + 1) (by simp) (by simp [Value.ownBlock]) hxA.out); have hb4 := Lib.hid (Below.appended (Below.alloc (Below.alloc hbW.out hn0 _) (by simp) _) (ho.out.alloc (.cells #[.int .i64 S] 3)) hg3 (by simp; try omega)); clear hg3; replace ho3 := Lib.hid ho3; have hc3 := (Below.cell hb4.out (p := ⟨b, k, none⟩) hb2).trans hc1; have hc4 := (Below.cell hb4.out (p := ⟨b, k + 1, none⟩) hb2).trans hc2)
                  | (refine step_append_all eltInt rfl (.tmp 50) (.tmp 53) rfl w3.heap.size (.slice (some ⟨w3.heap.size + 1, 0, none⟩) 0 0) [] (by simp [Act.eval, Act.put]) hoC.out (.slice (some ⟨b, 0, none⟩) k c0) (ints (L.take k)) (by simp [Act.eval, Act.put]; try omega) (hT.out _ hbC.out) (ints_one _) (by have := hL1.out; simp only [List.length_nil]; omega) hsC.out ?_; intro v3 w4 ho3 hg3; have hx4 := Lib.hid (grownBy.rdNew hg3 (b := w3.heap.size) hkC.out (by simp [Value.ownBlock]) hxC.out); have hb4 := Lib.hid (Below.appended hbC.out hoC.out hg3 hsC.out); clear hg3; replace ho3 := Lib.hid ho3; have hc3 := (Below.cell hb4.out (p := ⟨b, k, none⟩) hb2).trans hc1; have hc4 := (Below.cell hb4.out (p := ⟨b, k + 1, none⟩) hb2).trans hc2)
                  | (refine step_append_all eltInt rfl (.tmp 54) (.tmp 65) rfl w3.heap.size v3 _ (by simp [Act.eval, Act.put]) (ho3.out.alloc _) (.slice (some ⟨w4.heap.size, 0, none⟩) 1 1) [.int .i64 S] (by simp [Act.eval, Act.put]) RdV.new (ints_one [S]) (by have := hL1.out; simp only [List.nil_append, List.length_singleton]; omega) (by have := hb4.out.size; simp; omega) ?_; intro v4 w5 ho4 hg4; have hb5 := Lib.hid (Below.appended (Below.alloc hb4.out hb4.out.size _) (ho3.out.alloc _) hg4 (by have := hb4.out.size; simp; omega)); clear hg4; replace ho4 := Lib.hid ho4)
                  | (refine step_append_all eltInt rfl (.tmp 54) (.tmp 65) rfl w3.heap.size v3 _ (by simp [Act.eval, Act.put]) ho3.out (.slice (some ⟨w3.heap.size + 1, 0, none⟩) 1 1) [.int .i64 S] (by simp [Act.eval, Act.put]) hx4.out (ints_one [S]) (by have := hL1.out; simp only [List.nil_append, List.length_singleton]; omega) (by have := hb4.out.size; simp; omega) ?_; intro v4 w5 ho4 hg4; have hb5 := Lib.hid (Below.appended hb4.out ho3.out hg4 hb4.out.size); clear hg4; replace ho4 := Lib.hid ho4)
                  | (refine step_append_all eltInt rfl (.tmp 54) (.tmp 65) rfl w3.heap.size v3 _ (by simp [Act.eval, Act.put]) ho3.out (.slice (some ⟨w3.heap.size, 0, none⟩) 1 1) [.int .i64 S] (by simp [Act.eval, Act.put]) hx4.out (ints_one [S]) (by have := hL1.out; simp only [List.nil_append, List.length_singleton]; omega) (by have := hb4.out.size; simp; omega) ?_; intro v4 w5 ho4 hg4; have hb5 := Lib.hid (Below.appended hb4.out ho3.out hg4 hb4.out.size); clear hg4; replace ho4 := Lib.hid ho4)
                  | (refine step_append_all eltInt rfl (.tmp 66) (.tmp 70) rfl w3.heap.size v4 _ (by simp [Act.eval, Act.put]) ho4.out (.slice (some ⟨b, k2, none⟩) (m + 2 - k2) (c0 - k2)) (ints (L.drop (k + 2))) (by simp [Act.eval, Act.put]; try omega) (hD.out _ hb5.out) (ints_one _) (by have := hL1.out; have := hL2.out; simp only [List.nil_append, List.length_append, List.length_singleton]; omega) (by have := hb5.out.size; simp; omega) ?_; intro v5 w6 ho5 hg5; have hb6 := Lib.hid (Below.appended hb5.out ho4.out hg5 hb5.out.size); clear hg5; obtain ⟨ao4, c4, rfl, ho6⟩ := Own_mgAt (m := m) ho5 (by rw [hX.out, hY.out]; exact hSS.out) hm.out (by omega); clear ho5))
                all_goals
                  have hlt6 := Lib.hid ho6.out.lt
                  have hbb := Lib.hid (hb3.out.trans (hb6.out.mono hb3.out.size))
                  have hout6 := Lib.hid (ho2s.out.below hb6.out)
                  have hs6 := Lib.hid (ho6.out.base hb3.out.size)
                  have ha6 : Hid (∀ q, (Value.slice ao4 (m + 1) c4).ownBlock = some q → v2.ownBlock ≠ some q) := Lib.hid (fun q hq h => by have := hlt6.out q hq; have := hlt3.out q h; omega)
                  clear ho6 hlt6 hlt3 hb6 hb3 ho2s hc1 hc2 hcA hcB
                  go_wp2_with fail
                  go_meet
                  case rel => exact ⟨ao4, c4, rfl, hout6.out, hs6.out, ha6.out, hbb.out⟩
            case rest =>
              clear hRow hO hB hneb hbB2 hwS hsz hol hcc
              obtain ⟨ao4, c4, rfl, hO6, hS6, hA6, hB6⟩ := hcut
              have hln := mgAt_length (st := L) (k := k) (by have := hm.out; omega)
              rw [hm.out] at hln
              have hl5 : (mgAt L k).length = m + 1 := by omega
              replace hl5 := Lib.hid hl5
              replace hO6 := Lib.hid hO6
              replace hS6 := Lib.hid hS6
              replace hA6 := Lib.hid hA6
              replace hB6 := Lib.hid hB6
              clear hln
              go_wp2_with fail
              refine (l5Next_any _ (mgAt L k) e _ (Sl.rd (xs := mgAt L k) hS6.out.sl) (by rw [hl5.out]; omega) (fun q hq => hg9.out.at_ hq)).mono ?_
              rintro e1 w8 ⟨rfl, q8, rfl⟩
              go_wp2
              go_roundg g
              case measure => omega
              case rel => exact ⟨mgAt L k, out ++ [(k : Int)], ao4, c4, by rw [hl5.out], rfl, hO6.out.drewN _, hS6.out.drewN _, hA6.out, Lib.hid hst.out.symm, by rw [hl5.out]; omega, by omega, by rw [hl5.out]; simp; omega, hg9, Below.drewN hB6.out _⟩
          · have hstl : Hid (R = (L, out)) := Lib.hid (by rw [← hR.out, settle_stop hnx])
            replace hO := Lib.hid hO
            replace hS := Lib.hid hS
            replace hA := Lib.hid hA
            replace hB := Lib.hid hB
            clear hG hR
            go_wp2
            go_roundw
            case rel =>
              refine ⟨i + 1, ao, c0, by omega, by go_num, ?_, ?_, ?_, ?_, hA.out, hB.out⟩
              all_goals (have hC2 := hCn.out; rw [hstl.out] at hC2; rw [hPK1.out, hC2])
              · exact hO.out
              · exact hS.out
            case measure => simp [intOf]; omega
    · obtain rfl : i = n + 1 := by omega
      rw [hPKf.out] at hO hS hA ⊢
      dsimp only at hO hS hA ⊢
      replace hO := Lib.hid hO
      replace hB := Lib.hid hB
      generalize (settle true n (planK x n).1 (planK x n).2.1).1.length = LL at *
      have hin : ¬ ((n : Int) + 1 ≤ (n : Int)) := by omega
      clear hS hA
      go_wp2
      go_ret2
      exact ⟨_, rfl, hO.out, hB.out⟩
end Go.Proofs.Ytbfffpdcpoejnaa
