/- AdaptiveSort, impl: the whole. -/
import Derived.Test.YtdhcpoeopooejaaAdL
import Derived.Test.YtdhcpoeopooejaaAdRev
import Derived.Test.YtdhcpoeopooejaaRunI
import Derived.Test.YtdhcpoeopooejaaValidR
import Derived.Test.YtdhcpoeopooejaaCopyT
import Derived.Test.YtdhcpoeopooejaaSrtM
namespace Go.Proofs.Ytdhcpoeopooejaa
open Go.RowKit
set_option linter.unusedVariables false
set_option linter.unusedSimpArgs false

theorem RdP.take {w : World} {ao : Option Addr} {n c k : Nat} {xs : List (Int × Int)} (h : RdP w (.slice ao n c) xs) (hk : k ≤ n) : RdP w (.slice ao k c) (xs.take k) := by
  obtain ⟨ao', c', hv, h1, h2, hn, h3⟩ := h
  simp only [Value.slice.injEq] at hv
  obtain ⟨rfl, rfl, rfl⟩ := hv
  have hl : (xs.take k).length = k := by simp; omega
  refine ⟨_, _, by rw [hl], by omega, h2, fun e => by have := hn e; omega, fun hp => ?_⟩
  obtain ⟨b, off, e, hc⟩ := h3 (by omega)
  refine ⟨b, off, e, fun i hi => ?_⟩
  have hg : gr (xs.take k) i = gr xs i := by
    rw [gr_eq hi, gr_eq (by omega), List.getElem_take]
  rw [hg]
  exact hc i (by omega)
theorem RdP.drop {w : World} {b off n c k : Nat} {xs : List (Int × Int)} (h : RdP w (.slice (some ⟨b, off, none⟩) n c) xs) (hk : k ≤ n) : RdP w (.slice (some ⟨b, off + k * 2, none⟩) (n - k) (c - k)) (xs.drop k) := by
  obtain ⟨ao', c', hv, h1, h2, hn, h3⟩ := h
  simp only [Value.slice.injEq] at hv
  obtain ⟨rfl, rfl, rfl⟩ := hv
  have hl : (xs.drop k).length = xs.length - k := by simp
  refine ⟨_, _, by rw [hl], by omega, by omega, by simp, fun hp => ?_⟩
  obtain ⟨b', off', e, hc⟩ := h3 (by omega)
  simp only [Option.some.injEq, Addr.mk.injEq, and_true] at e
  obtain ⟨rfl, rfl⟩ := e
  refine ⟨b, off + k * 2, rfl, fun i hi => ?_⟩
  have hi' : k + i < xs.length := by omega
  have hg : gr (xs.drop k) i = gr xs (k + i) := by
    rw [gr_eq hi, gr_eq hi', List.getElem_drop]
  rw [hg, show off + k * 2 + i * 2 = off + (k + i) * 2 by omega]
  exact hc (k + i) hi'
/-- A part as it is cut, and as it is turned. -/
theorem El.own {B : Nat} {w : World} {v : Value} {xs : List (Int × Int)} {B' : Nat} (h : OwnQ 72 w B' v xs) (hx : xs.length ≤ 1000000000) (hB : B ≤ B') : El B w v xs := ⟨h.sl hx, fun b hb => Nat.le_trans hB (h.lt b hb).1⟩
theorem plr_map (X : List (Int × Int)) : ((pl X.length).map fun i => gr X i.toNat) = X := by
  apply List.ext_getElem (by simp)
  intro i h1 h2
  rw [List.getElem_map, ← gi_eq (by simpa using h2), gi_pl h2, Int.toNat_natCast, gr_eq h2]
theorem rev_map {X : List (Int × Int)} {D' : List Int} (hl : D'.length = X.length) (h : ∀ t, t < X.length → gi D' t = gi (pl X.length) (X.length - 1 - t)) : (D'.map fun i => gr X i.toNat) = X.reverse := by
  apply List.ext_getElem (by simp [hl])
  intro i h1 h2
  have hi : i < X.length := by simpa using h2
  rw [List.getElem_map, ← gi_eq (by omega), h i hi, gi_pl (by omega), Int.toNat_natCast, List.getElem_reverse, gr_eq (by omega)]
theorem cutF_gr {xs : List (Int × Int)} {r : Int × Int} {t : Nat} (h : t < (cutF xs r).length) : gr (cutF xs r) t = gr xs (r.1.toNat + t) := by
  have h2 := h
  unfold cutF at h2
  rw [List.length_take, List.length_drop] at h2
  rw [gr_eq h, gr_eq (by omega)]
  simp [cutF]
theorem PS.gr {B : Nat} {S : List (List (Int × Int))} {us : List Value} {o : Value} {wr w1 : World} {q : Option Nat} (h : PS B S us o wr) (hg : wr.grownBy w1 q) (h1 : o.ownBlock ≠ q) (h2 : ∀ b, q = some b → NR wr b) : PS B S us o w1 :=
  h.of_block (fun k hk => hg.block k (h.own.lt k hk).2 (fun e => h1 (hk.trans e))) (fun k cs hk => hg.block k (Array.getElem?_eq_some_iff.1 hk).1 fun e => by
    obtain ⟨cs', e', k1, k2⟩ := h2 k e.symm
    rw [hk] at k1
    simp only [Option.some.injEq, Obj.cells.injEq] at k1
    exact k2 k1.2.1.symm)
theorem Own.neq {w : World} {e e' B B' : Nat} {v v' : Value} {xs xs' : List Value} (h : Own w e B v xs) (k : Own w e' B' v' xs') (hne : e ≠ e') (hn : ∃ b, v.ownBlock = some b) : v.ownBlock ≠ v'.ownBlock := fun h9 => by
  obtain ⟨b, hb⟩ := hn
  exact h.ne k hne b hb (by rw [← h9]; exact hb)
theorem SlQ.typed {e b : Nat} {w : World} {v : Value} {xs : List (Int × Int)} (h : SlQ e w v xs) (hb : v.ownBlock = some b) : ∃ cs, w.heap[b]? = some (.cells cs e (0, 0)) := by
  obtain ⟨ao, c, rfl, h1⟩ := h
  rcases h1 with ⟨rfl, _⟩ | ⟨b', off, rfl, _, cs, h2, _⟩
  · simp [Value.ownBlock] at hb
  · simp [Value.ownBlock] at hb
    subst hb
    exact ⟨cs, h2⟩
theorem SlQ.gr {e : Nat} {w w1 : World} {v : Value} {xs : List (Int × Int)} {q : Option Nat} (h : SlQ e w v xs) (hg : w.grownBy w1 q) (h2 : ∀ b, q = some b → ∃ cs e', w.heap[b]? = some (.cells cs e' (0, 0)) ∧ e' ≠ e) : SlQ e w1 v xs :=
  h.of_block fun k hk => hg.block k (h.lt k hk) fun e9 => by
    obtain ⟨cs, k1⟩ := h.typed hk
    obtain ⟨cs', e', k2, k3⟩ := h2 k e9.symm
    rw [k1] at k2
    simp only [Option.some.injEq, Obj.cells.injEq] at k2
    exact k3 k2.2.1.symm
theorem Row.gr {e b off c : Nat} {w w1 : World} {xs : List Value} {q : Option Nat} (h : Row w e b off c xs) (hg : w.grownBy w1 q) (h2 : ∀ b, q = some b → ∃ cs e', w.heap[b]? = some (.cells cs e' (0, 0)) ∧ e' ≠ e) : Row w1 e b off c xs :=
  h.of_block (hg.block b h.lt fun e9 => by
    obtain ⟨cs, k1, _⟩ := h
    obtain ⟨cs', e', k2, k3⟩ := h2 b e9.symm
    rw [k1] at k2
    simp only [Option.some.injEq, Obj.cells.injEq] at k2
    exact k3 k2.2.1.symm)
theorem Row.two1 (w : World) (e : Nat) (a b : Value) : Row (w.alloc (.cells #[a, b] e)) e w.heap.size 0 2 [a, b] := by
  refine ⟨#[a, b], by show (w.heap.push _)[w.heap.size]? = _; simp, by simp, by simp, by unfold maxLen; omega, fun i hi => ?_⟩
  match i, hi with
  | 0, _ => rfl
  | 1, _ => rfl
set_option maxRecDepth 10000 in
set_option maxHeartbeats 8000000 in
theorem impl_AdaptiveSort_law {v : Value} {x : List (Int × Int)} {F : List Nat} {w : World} (r : RRecordS w v x F) :
    Calls Try.prog 36 #[v] w fun e w' => ∃ r F, e = .returned (.tuple #[r, .int .i64 ((adR x).2.1 : Nat), .bool (adR x).2.2]) ∧ RRecordS w' r (adR x).1 F ∧ Fr w.heap.size F ∧ Below w.heap.size w w' ∧ szRecordS (adR x).1 ≤ 100000000000 := by
  have hv := Lib.hid r.rd
  have hp := Lib.hid r.rdP
  clear r
  cases h : vrecs x
  · have e0 : adR x = ([], 0, false) := by simp [adR, h]
    rw [e0]
    clear e0
    go_enter Try.func36, Try.ntmps36
    go_wp2_with fail
    refine (isValidRecords_any _ _ _ hv.out).mono ?_
    rintro e w1 ⟨rfl, hb⟩
    replace hb := Lib.hid hb
    go_wp2
    go_ret3
    exact ⟨_, [], rfl, ⟨SlQ.nil _ _, rfl⟩, by intro b hb; simp at hb, hb.out, by simp [szRecordS]⟩
  · have hl := (vrecs_iff.1 h).1
    have e0 : adR x = ((adF x).1, (adF x).2, true) := by simp [adR, h]
    rw [e0]
    clear e0
    have hrok := runsF_ok x
    obtain ⟨hc40, hcpos, hcsum⟩ := cnt_ok hl
    have hlp := lens_parts x
    generalize hAD : adF x = AD at *
    replace hAD := Lib.hid hAD
    go_enter Try.func36, Try.ntmps36
    go_wp2_with fail
    refine (isValidRecords_any _ _ _ hv.out).mono ?_
    rintro e w1 ⟨rfl, hb⟩
    have hs1 := hb.size
    obtain ⟨z, hz⟩ : ∃ z, w1.heap.size = z := ⟨_, rfl⟩
    obtain ⟨W2, hW2⟩ : ∃ W2, W2 = (((w1.alloc (.cells #[] 3)).alloc (.cells #[] 43)).alloc (.cells #[] 43)).alloc (.cells #[.slice (some ⟨w1.heap.size + 1 + 1, 0, none⟩) 0 0] 78) := ⟨_, rfl⟩
    have z1 : (w1.alloc (.cells #[] 3)).heap.size = z + 1 := by simp [hz]
    have z2 : ((w1.alloc (.cells #[] 3)).alloc (.cells #[] 43)).heap.size = z + 1 + 1 := by simp [hz]
    have z3 : (((w1.alloc (.cells #[] 3)).alloc (.cells #[] 43)).alloc (.cells #[] 43)).heap.size = z + 1 + 1 + 1 := by simp [hz]
    have hzs : W2.heap.size = z + 4 := by rw [hW2]; simp [hz]
    have hB2 : Below w.heap.size w W2 := by rw [hW2]; exact (((hb.alloc hs1 _).alloc (by omega) _).alloc (by omega) _).alloc (by omega) _
    have o1 : Own W2 3 w.heap.size (.slice (some ⟨z, 0, none⟩) 0 0) (ints []) := by rw [hW2, ← hz]; exact ((((Own.empty w1 3).base hs1).alloc _).alloc _).alloc _
    have hba : ∀ (W : World) (o : Obj), Below W.heap.size W (W.alloc o) := fun W o => (Below.refl _ _).alloc (Nat.le_refl _) o
    have o2 : PS w.heap.size [] [] (.slice (some ⟨z + 1, 0, none⟩) 0 0) W2 := by
      have := ((PS.start (B := w.heap.size) (W := w1.alloc (.cells #[] 3)) (by omega)).below (hba _ (.cells #[] 43))).below (hba _ (.cells #[.slice (some ⟨w1.heap.size + 1 + 1, 0, none⟩) 0 0] 78))
      rw [z1] at this
      rw [hW2]; exact this
    have o3 : PS w.heap.size [] [] (.slice (some ⟨z + 1 + 1, 0, none⟩) 0 0) W2 := by
      have := (PS.start (B := w.heap.size) (W := (w1.alloc (.cells #[] 3)).alloc (.cells #[] 43)) (by omega)).below (hba _ (.cells #[.slice (some ⟨w1.heap.size + 1 + 1, 0, none⟩) 0 0] 78))
      rw [z2] at this
      rw [hW2]; exact this
    have o4 : Row W2 78 (z + 1 + 1 + 1) 0 1 [.slice (some ⟨z + 1 + 1, 0, none⟩) 0 0] := by
      have := Row.one1 (((w1.alloc (.cells #[] 3)).alloc (.cells #[] 43)).alloc (.cells #[] 43)) 78 (.slice (some ⟨w1.heap.size + 1 + 1, 0, none⟩) 0 0)
      rw [z3] at this
      rw [hW2, ← hz] at *
      exact this
    rw [hz] at hW2
    replace hba := Lib.hid hba
    replace hz := Lib.hid hz
    clear z1 z2 z3
    go_wp2_with fail
    rw [hz.out, ← hW2]
    refine (impl_naturalRuns_any _ _ _ (hv.out.below hB2) (by omega)).mono ?_
    rintro e w3 ⟨ro, rfl, hro, hb3⟩
    have hB3 := Lib.hid (Below.next hB2 hb3)
    have hrl : (runsF x).length ≤ 33 := by have := hrok.len; omega
    have hrs := hro.sl (by omega)
    have p1 := Lib.hid (o1.below hb3)
    have p2 := Lib.hid (o2.below hb3)
    have p3 := Lib.hid (o3.below hb3)
    have p4 := Lib.hid (o4.below hb3 o4.lt)
    have hz3 : z + 4 ≤ w3.heap.size := by have := hb3.size; omega
    obtain ⟨ra, rc, rfl, _⟩ := hrs.shape
    obtain ⟨K, hK⟩ : ∃ K, (runsF x).length = K := ⟨_, rfl⟩
    rw [hK] at hrs hrl ⊢
    replace hrs := Lib.hid hrs
    replace hW2 := Lib.hid hW2
    replace hK := Lib.hid hK
    replace hlp := Lib.hid hlp
    replace hrok := Lib.hid hrok
    replace hcpos := Lib.hid hcpos
    obtain ⟨xa, xc, rfl, hx1, hx2, _, hx4⟩ := hp.out
    unfold maxLen at hx2
    obtain ⟨n, hn⟩ : ∃ n, x.length = n := ⟨_, rfl⟩
    rw [hn] at hp hl hx1 hcsum ⊢
    rw [hn] at hv
    replace hn := Lib.hid hn
    clear hb3 o1 o2 o3 o4 hro hb hB2 hx4
    go_wp2
    go_loopw [5, 6, 28] (fun vc op iv wr => ∃ (j : Nat) (usp : List Value), j ≤ K ∧ iv = .int .i64 (j : Nat) ∧ Own wr 3 w.heap.size vc (ints ((cntF x).take j)) ∧ PS w.heap.size ((partsF x).take j) usp op wr ∧ PS w.heap.size [] [] (.slice (some ⟨z + 1 + 1, 0, none⟩) 0 0) wr ∧ Row wr 78 (z + 1 + 1 + 1) 0 1 [.slice (some ⟨z + 1 + 1, 0, none⟩) 0 0] ∧ SlQ 80 wr (.slice ra K rc) (runsF x) ∧ Below w.heap.size w wr ∧ op.ownBlock ≠ some (z + 1 + 1)) (fun _ _ iv _ => K - (intOf iv).toNat)
    case atStart => exact ⟨0, [], Nat.zero_le _, rfl, p1.out, p2.out, p3.out, p4.out, hrs.out, hB3.out, by simp [Value.ownBlock]⟩
    case round =>
      clear p1 p2 p3 p4 hrs hB3
      obtain ⟨j, usp, hj, rfl, hO, hP, hQ, hpr, hrs, hB, hne⟩ := hrel
      by_cases hlt : j < K
      · have hmem := hrok.out.at_ (gr (runsF x) j) (by rw [gr_eq (by rw [hK.out]; exact hlt)]; exact List.getElem_mem _)
        rw [hn.out] at hmem
        have hct : (cntF x).take j ++ [(gr (runsF x) j).2] = (cntF x).take (j + 1) := by
          unfold cntF
          rw [List.take_succ_eq_append_getElem (i := j) (by rw [List.length_map, hK.out]; exact hlt), List.getElem_map, gr_eq (by rw [hK.out]; exact hlt)]
        have hpt : (partsF x).take j ++ [partF x (gr (runsF x) j)] = (partsF x).take (j + 1) := by
          unfold partsF
          rw [List.take_succ_eq_append_getElem (i := j) (by rw [List.length_map, hK.out]; exact hlt), List.getElem_map, gr_eq (by rw [hK.out]; exact hlt)]
        obtain ⟨rb, rf, rfl, _⟩ := hrs.row (by omega)
        obtain ⟨c1, c2, _⟩ := hrs.cells (i := j) (by omega)
        obtain ⟨R0, hR0⟩ : ∃ R0, gr (runsF x) j = R0 := ⟨_, rfl⟩
        rw [hR0] at hmem hct hpt c1 c2
        obtain ⟨f0, k0⟩ := R0
        dsimp only at hmem hct c1 c2
        obtain ⟨fn, rfl⟩ : ∃ fn : Nat, f0 = (fn : Int) := ⟨f0.toNat, by omega⟩
        obtain ⟨kn, rfl⟩ : ∃ kn : Nat, k0 = (kn : Int) := ⟨k0.toNat, by omega⟩
        obtain ⟨en, hen⟩ : ∃ en, fn + kn = en := ⟨_, rfl⟩
        have hk1 : 1 ≤ kn := by omega
        have hek : en - fn = kn := by omega
        have hen1 : (fn : Int) + (kn : Int) = (en : Int) := by omega
        have hen2 : IntKind.i64.wrap ((fn : Int) + (kn : Int)) = (en : Int) := by rw [hen1]; exact IntWalk.i64_in _ (by omega)
        have hen3 : fn ≤ en := by omega
        have hen4 : en ≤ n := by omega
        have hen5 : en ≤ xc := by omega
        have hen6 : ¬ xc = fn := by omega
        have hen7 : (0 : Int) ≤ (fn : Int) := by omega
        have hen8 : (fn : Int) ≤ (en : Int) := by omega
        have hcl : (cutF x ((fn : Int), (kn : Int))).length = kn := by rw [cut_len (by rw [hn.out]; exact hmem)]; simp
        obtain ⟨xa', xc', ev, _, _, _, hx4⟩ := hp.out
        have hn9 := hn.out
        simp only [Value.slice.injEq] at ev
        obtain ⟨rfl, h99, rfl⟩ := ev
        clear h99
        obtain ⟨lb, lo, rfl, _⟩ := hx4 (by omega)
        clear hx4
        have hbW := Lib.hid (show Below wr.heap.size wr (wr.alloc (.cells #[.int .i64 (fn : Int), .int .i64 (kn : Int)] 80)) from (Below.refl _ _).alloc (Nat.le_refl _) _)
        have hcut : RdP (wr.alloc (.cells #[.int .i64 (fn : Int), .int .i64 (kn : Int)] 80)) (.slice (some ⟨lb, lo + fn * 2, none⟩) kn (xc - fn)) (cutF x ((fn : Int), (kn : Int))) := by
          have h1 := ((hp.out.below (Below.next hB hbW.out)).drop (k := fn) (by omega)).take (k := kn) (by omega)
          simpa [cutF] using h1
        have hcopy := Lib.hid (copyRecT_any _ _ _ hcut (by omega))
        have hrw := Row.two1 wr 80 (.int .i64 (fn : Int)) (.int .i64 (kn : Int))
        replace hO := Lib.hid hO
        replace hP := Lib.hid hP
        replace hQ := Lib.hid hQ
        replace hpr := Lib.hid hpr
        replace hrs := Lib.hid hrs
        replace hB := Lib.hid hB
        replace hct := Lib.hid hct
        replace hpt := Lib.hid hpt
        replace hrw := Lib.hid hrw
        replace hmem := Lib.hid hmem
        replace hR0 := Lib.hid hR0
        clear hcut hn9
        replace hen := Lib.hid hen
        go_wp2_with fail
        refine hcopy.out.mono ?_
        rintro e w4 ⟨part, rfl, hpo, hb4⟩
        obtain ⟨pg, pc, rfl, hpB, hps⟩ := hpo.open (by omega) (by omega)
        rw [hcl] at hps hpo ⊢
        have hB4 := Lib.hid (Below.next hbW.out hb4)
        have hrw4 := Lib.hid (hrw.out.below hb4 hrw.out.lt)
        have t1 := hrw4.out.cell (i := 1) (by simp)
        simp only [Nat.zero_add, List.getElem_cons_succ, List.getElem_cons_zero] at t1
        have hEl0 : Hid (El w.heap.size w4 (.slice (some ⟨pg, 0, none⟩) kn pc) (cutF x ((fn : Int), (kn : Int)))) := Lib.hid ⟨hps, fun b hb => by
          have h1 := (hpo.lt b hb).1
          have h2 := hbW.out.size
          have h3 := hB.out.size
          omega⟩
        have hpS : wr.heap.size < pg := by
          have h1 := (hpo.lt pg rfl).1
          simp at h1; omega
        clear hpo hb4
        by_cases hk2 : kn > 1
        · have hk2i : (kn : Int) > 1 := by omega
          obtain ⟨a0, b0, _⟩ := hps.cells (i := 0) (by omega)
          obtain ⟨a1, b1, _⟩ := hps.cells (i := 1) (by omega)
          simp only [Nat.zero_add, Nat.zero_mul, Nat.one_mul] at a0 a1 b0 b1
          by_cases hlt2 : (gr (cutF x ((fn : Int), (kn : Int))) 1).1 < (gr (cutF x ((fn : Int), (kn : Int))) 0).1
          · have hpe : partF x ((fn : Int), (kn : Int)) = (cutF x ((fn : Int), (kn : Int))).reverse := by unfold partF; rw [if_pos ⟨by dsimp only; omega, hlt2⟩]
            have hRQ : RQ w4 pg 0 pc kn (cutF x ((fn : Int), (kn : Int))) (pl kn) := by
              have h8 := plr_map (cutF x ((fn : Int), (kn : Int)))
              rw [hcl] at h8
              unfold RQ
              rw [h8]; exact hps
            have hrev := Lib.hid (fun q => reverse_any pg 0 pc kn (cutF x ((fn : Int), (kn : Int))) (pl kn) (w4.drewN q) (hRQ.drewN q) (pl_length _) (by omega))
            generalize (gr (cutF x ((fn : Int), (kn : Int))) 1).1 = y1 at *
            generalize (gr (cutF x ((fn : Int), (kn : Int))) 0).1 = y0 at *
            replace hps := Lib.hid hps
            clear hRQ
            go_wp2_with fail
            go_quiet (fail)
            go_wp2_with fail
            refine (hrev.out nq).mono ?_
            rintro e w5 ⟨rfl, D', hRQ5, hx5, hl5, hD5⟩
            have hEl : Hid (El w.heap.size w5 (.slice (some ⟨pg, 0, none⟩) kn pc) (partF x ((fn : Int), (kn : Int)))) := Lib.hid (by
              rw [hpe]
              have e9 := rev_map (X := cutF x ((fn : Int), (kn : Int))) (D' := D') (by rw [hcl]; exact hl5) (by rw [hcl]; exact hD5)
              unfold RQ at hRQ5
              rw [e9] at hRQ5
              exact ⟨hRQ5, hEl0.out.2⟩)
            have hB5 := Lib.hid (show Below wr.heap.size wr w5 from ⟨hx5.os.trans hB4.out.os, hx5.tape.trans hB4.out.tape, hx5.output.trans hB4.out.output, Nat.le_trans hB4.out.size hx5.size, fun k hk => (hx5.block k (Nat.lt_of_lt_of_le hk hB4.out.size) (by simp; omega)).trans (hB4.out.block k hk)⟩)
            have hrw5 := Lib.hid (hrw4.out.of_block (w' := w5) (hx5.block _ hrw4.out.lt (by simp; omega)))
            clear hEl0 t1 a0 a1 b0 b1 hRQ5 hx5 hl5 hD5 hrev
            have hul5 : ((ints ((cntF x).take j)) : List Value).length ≤ 1000000000 := by rw [ints_length, List.length_take]; omega
            have hO5 := Lib.hid (hO.out.below hB5.out)
            have hs5 : w.heap.size ≤ w5.heap.size := by have := hB.out.size; have := hB5.out.size; omega
            have r5 := hrw5.out.cell (i := 1) (by simp)
            simp only [Nat.zero_add, List.getElem_cons_succ, List.getElem_cons_zero] at r5
            go_wp2_with (at_builtin; refine append_one_at eltInt rfl _ _ rfl w.heap.size _ _ rfl hO5.out rfl rfl hul5 hs5 ?_)
            intro vc6 w6 ho6 hg6 _
            have htyp : ∀ b, u5.ownBlock = some b → ∃ cs, w5.heap[b]? = some (.cells cs 3 (0, 0)) := fun b hb => hO5.out.typed hb
            have hP5 := hP.out.below hB5.out
            have hQ5 := hQ.out.below hB5.out
            have nP : u6.ownBlock ≠ u5.ownBlock := hP5.own.neq hO5.out (by decide) (by obtain ⟨b, hb, _⟩ := hP5.block; exact ⟨b, hb⟩)
            have nQ : (Value.slice (some ⟨z + 1 + 1, 0, none⟩) 0 0).ownBlock ≠ u5.ownBlock := hQ5.own.neq hO5.out (by decide) ⟨_, rfl⟩
            have hNR : ∀ b, u5.ownBlock = some b → NR w5 b := fun b hb => hO5.out.nr (by decide) hb
            have hP6 := Lib.hid (hP5.gr hg6 nP hNR)
            have hQ6 := Lib.hid (hQ5.gr hg6 nQ hNR)
            have hT6 : ∀ {e' : Nat}, 3 ≠ e' → ∀ b, u5.ownBlock = some b → ∃ cs e'', w5.heap[b]? = some (.cells cs e'' (0, 0)) ∧ e'' ≠ e' := fun he b hb => by
              obtain ⟨cs, h1⟩ := htyp b hb
              exact ⟨cs, _, h1, he⟩
            have hpr6 := Lib.hid ((hpr.out.below hB5.out hpr.out.lt).gr hg6 (hT6 (by decide)))
            have hrs6 := Lib.hid ((hrs.out.of_block (w' := w5) (fun k hk => hB5.out.block k (hrs.out.lt k hk))).gr hg6 (hT6 (by decide)))
            have hEl6 : Hid (El w.heap.size w6 _ _) := Lib.hid ⟨hEl.out.1.gr hg6 (hT6 (by decide)), hEl.out.2⟩
            have hB6 := Lib.hid (Below.appended (Below.next hB.out hB5.out) hO5.out hg6 hs5)
            have ho6' : Hid (Own w6 3 w.heap.size vc6 (ints ((cntF x).take (j + 1)))) := Lib.hid (by rw [← hct.out]; simpa [ints] using ho6)
            have hul6 : usp.length ≤ 1000000000 := by have := hP.out.len; rw [List.length_take] at this; omega
            have hs6 : w.heap.size ≤ w6.heap.size := hB6.out.size
            clear ho6 hg6 htyp hP5 hQ5 nP nQ hNR hT6 r5
            go_wp2_with (at_builtin; refine append_one_at eltRecS rfl _ _ rfl w.heap.size _ _ rfl hP6.out.own rfl rfl hul6 hs6 ?_)
            intro op7 w7 ho7 hg7 hat7
            have hP7 := hP6.out.push hEl6.out ho7 hg7
            rw [hpt.out] at hP7
            replace hP7 := Lib.hid hP7
            have hNR7 : ∀ b, u6.ownBlock = some b → NR w6 b := fun b hb => hP6.out.own.nr (by decide) hb
            have hQ7 := Lib.hid (hQ6.out.gr hg7 (fun e => hne e.symm) hNR7)
            have hT7 : ∀ {e' : Nat}, 43 ≠ e' → ∀ b, u6.ownBlock = some b → ∃ cs e'', w6.heap[b]? = some (.cells cs e'' (0, 0)) ∧ e'' ≠ e' := fun he b hb => by
              obtain ⟨cs, h1⟩ := hP6.out.own.typed hb
              exact ⟨cs, _, h1, he⟩
            have hpr7 := Lib.hid (hpr6.out.gr hg7 (hT7 (by decide)))
            have hrs7 := Lib.hid (hrs6.out.gr hg7 (hT7 (by decide)))
            have ho8 := Lib.hid (ho6'.out.keptOf hP6.out.own (by decide) hg7)
            have hB7 := Lib.hid (Below.appended hB6.out hP6.out.own hg7 hs6)
            have hne7 : Hid (op7.ownBlock ≠ some (z + 1 + 1)) := Lib.hid (by
              rcases hat7 with e | e
              · rw [e]; exact hne
              · rw [e]; have h9 : z + 1 + 1 < w6.heap.size := (hQ6.out.own.lt _ rfl).2; simp; omega)
            clear ho7 hg7 hat7 hNR7 hT7
            go_wp2
            go_roundw
            case rel => exact ⟨j + 1, _, by omega, by go_num, ho8.out, hP7.out, hQ7.out, hpr7.out, hrs7.out, hB7.out, hne7.out⟩
            case measure => simp [intOf]; omega
          · have hpe : partF x ((fn : Int), (kn : Int)) = cutF x ((fn : Int), (kn : Int)) := by unfold partF; rw [if_neg (fun h => hlt2 h.2)]
            have hEl : Hid (El w.heap.size (w4.drew) (.slice (some ⟨pg, 0, none⟩) kn pc) (partF x ((fn : Int), (kn : Int)))) := Lib.hid (by rw [hpe]; exact hEl0.out.below (Below.drewN (Below.refl _ _) 1))
            generalize (gr (cutF x ((fn : Int), (kn : Int))) 1).1 = y1 at *
            generalize (gr (cutF x ((fn : Int), (kn : Int))) 0).1 = y0 at *
            replace hps := Lib.hid hps
            go_wp2_with fail
            go_quiet (fail)
            obtain ⟨w5, hw5⟩ : ∃ w5, w5 = w4.drewN nq := ⟨_, rfl⟩
            have hEl : Hid (El w.heap.size w5 (.slice (some ⟨pg, 0, none⟩) kn pc) (partF x ((fn : Int), (kn : Int)))) := Lib.hid (by rw [hpe, hw5]; exact hEl0.out.below (Below.drewN (Below.refl _ _) nq))
            have hB5 := Lib.hid (show Below wr.heap.size wr w5 by rw [hw5]; exact Below.drewN hB4.out nq)
            have hrw5 := Lib.hid (show Row w5 80 wr.heap.size 0 2 _ by rw [hw5]; exact hrw4.out.drewN nq)
            rw [← hw5]
            replace hw5 := Lib.hid hw5
            clear hEl0 t1 a0 a1 b0 b1
            have hul5 : ((ints ((cntF x).take j)) : List Value).length ≤ 1000000000 := by rw [ints_length, List.length_take]; omega
            have hO5 := Lib.hid (hO.out.below hB5.out)
            have hs5 : w.heap.size ≤ w5.heap.size := by have := hB.out.size; have := hB5.out.size; omega
            have r5 := hrw5.out.cell (i := 1) (by simp)
            simp only [Nat.zero_add, List.getElem_cons_succ, List.getElem_cons_zero] at r5
            go_wp2_with (at_builtin; refine append_one_at eltInt rfl _ _ rfl w.heap.size _ _ rfl hO5.out rfl rfl hul5 hs5 ?_)
            intro vc6 w6 ho6 hg6 _
            have htyp : ∀ b, u5.ownBlock = some b → ∃ cs, w5.heap[b]? = some (.cells cs 3 (0, 0)) := fun b hb => hO5.out.typed hb
            have hP5 := hP.out.below hB5.out
            have hQ5 := hQ.out.below hB5.out
            have nP : u6.ownBlock ≠ u5.ownBlock := hP5.own.neq hO5.out (by decide) (by obtain ⟨b, hb, _⟩ := hP5.block; exact ⟨b, hb⟩)
            have nQ : (Value.slice (some ⟨z + 1 + 1, 0, none⟩) 0 0).ownBlock ≠ u5.ownBlock := hQ5.own.neq hO5.out (by decide) ⟨_, rfl⟩
            have hNR : ∀ b, u5.ownBlock = some b → NR w5 b := fun b hb => hO5.out.nr (by decide) hb
            have hP6 := Lib.hid (hP5.gr hg6 nP hNR)
            have hQ6 := Lib.hid (hQ5.gr hg6 nQ hNR)
            have hT6 : ∀ {e' : Nat}, 3 ≠ e' → ∀ b, u5.ownBlock = some b → ∃ cs e'', w5.heap[b]? = some (.cells cs e'' (0, 0)) ∧ e'' ≠ e' := fun he b hb => by
              obtain ⟨cs, h1⟩ := htyp b hb
              exact ⟨cs, _, h1, he⟩
            have hpr6 := Lib.hid ((hpr.out.below hB5.out hpr.out.lt).gr hg6 (hT6 (by decide)))
            have hrs6 := Lib.hid ((hrs.out.of_block (w' := w5) (fun k hk => hB5.out.block k (hrs.out.lt k hk))).gr hg6 (hT6 (by decide)))
            have hEl6 : Hid (El w.heap.size w6 _ _) := Lib.hid ⟨hEl.out.1.gr hg6 (hT6 (by decide)), hEl.out.2⟩
            have hB6 := Lib.hid (Below.appended (Below.next hB.out hB5.out) hO5.out hg6 hs5)
            have ho6' : Hid (Own w6 3 w.heap.size vc6 (ints ((cntF x).take (j + 1)))) := Lib.hid (by rw [← hct.out]; simpa [ints] using ho6)
            have hul6 : usp.length ≤ 1000000000 := by have := hP.out.len; rw [List.length_take] at this; omega
            have hs6 : w.heap.size ≤ w6.heap.size := hB6.out.size
            clear ho6 hg6 htyp hP5 hQ5 nP nQ hNR hT6 r5
            go_wp2_with (at_builtin; refine append_one_at eltRecS rfl _ _ rfl w.heap.size _ _ rfl hP6.out.own rfl rfl hul6 hs6 ?_)
            intro op7 w7 ho7 hg7 hat7
            have hP7 := hP6.out.push hEl6.out ho7 hg7
            rw [hpt.out] at hP7
            replace hP7 := Lib.hid hP7
            have hNR7 : ∀ b, u6.ownBlock = some b → NR w6 b := fun b hb => hP6.out.own.nr (by decide) hb
            have hQ7 := Lib.hid (hQ6.out.gr hg7 (fun e => hne e.symm) hNR7)
            have hT7 : ∀ {e' : Nat}, 43 ≠ e' → ∀ b, u6.ownBlock = some b → ∃ cs e'', w6.heap[b]? = some (.cells cs e'' (0, 0)) ∧ e'' ≠ e' := fun he b hb => by
              obtain ⟨cs, h1⟩ := hP6.out.own.typed hb
              exact ⟨cs, _, h1, he⟩
            have hpr7 := Lib.hid (hpr6.out.gr hg7 (hT7 (by decide)))
            have hrs7 := Lib.hid (hrs6.out.gr hg7 (hT7 (by decide)))
            have ho8 := Lib.hid (ho6'.out.keptOf hP6.out.own (by decide) hg7)
            have hB7 := Lib.hid (Below.appended hB6.out hP6.out.own hg7 hs6)
            have hne7 : Hid (op7.ownBlock ≠ some (z + 1 + 1)) := Lib.hid (by
              rcases hat7 with e | e
              · rw [e]; exact hne
              · rw [e]; have h9 : z + 1 + 1 < w6.heap.size := (hQ6.out.own.lt _ rfl).2; simp; omega)
            clear ho7 hg7 hat7 hNR7 hT7
            go_wp2
            go_roundw
            case rel => exact ⟨j + 1, _, by omega, by go_num, ho8.out, hP7.out, hQ7.out, hpr7.out, hrs7.out, hB7.out, hne7.out⟩
            case measure => simp [intOf]; omega
        · have hk2i : ¬ (kn : Int) > 1 := by omega
          have hk2d : decide ((1 : Int) < (kn : Int)) = false := by simp; omega
          have hk2e : decide ((kn : Int) > 1) = false := by simp; omega
          have hpe : partF x ((fn : Int), (kn : Int)) = cutF x ((fn : Int), (kn : Int)) := by unfold partF; rw [if_neg (fun h => by have := h.1; dsimp only at this; omega)]
          replace hps := Lib.hid hps
          go_wp2_with fail
          go_quiet (fail)
          obtain ⟨w5, hw5⟩ : ∃ w5, w5 = w4.drewN nq := ⟨_, rfl⟩
          have hEl : Hid (El w.heap.size w5 (.slice (some ⟨pg, 0, none⟩) kn pc) (partF x ((fn : Int), (kn : Int)))) := Lib.hid (by rw [hpe, hw5]; exact hEl0.out.below (Below.drewN (Below.refl _ _) nq))
          have hB5 := Lib.hid (show Below wr.heap.size wr w5 by rw [hw5]; exact Below.drewN hB4.out nq)
          have hrw5 := Lib.hid (show Row w5 80 wr.heap.size 0 2 _ by rw [hw5]; exact hrw4.out.drewN nq)
          rw [← hw5]
          replace hw5 := Lib.hid hw5
          clear hEl0 t1
          have hul5 : ((ints ((cntF x).take j)) : List Value).length ≤ 1000000000 := by rw [ints_length, List.length_take]; omega
          have hO5 := Lib.hid (hO.out.below hB5.out)
          have hs5 : w.heap.size ≤ w5.heap.size := by have := hB.out.size; have := hB5.out.size; omega
          have r5 := hrw5.out.cell (i := 1) (by simp)
          simp only [Nat.zero_add, List.getElem_cons_succ, List.getElem_cons_zero] at r5
          go_wp2_with (at_builtin; refine append_one_at eltInt rfl _ _ rfl w.heap.size _ _ rfl hO5.out rfl rfl hul5 hs5 ?_)
          intro vc6 w6 ho6 hg6 _
          have htyp : ∀ b, u5.ownBlock = some b → ∃ cs, w5.heap[b]? = some (.cells cs 3 (0, 0)) := fun b hb => hO5.out.typed hb
          have hP5 := hP.out.below hB5.out
          have hQ5 := hQ.out.below hB5.out
          have nP : u6.ownBlock ≠ u5.ownBlock := hP5.own.neq hO5.out (by decide) (by obtain ⟨b, hb, _⟩ := hP5.block; exact ⟨b, hb⟩)
          have nQ : (Value.slice (some ⟨z + 1 + 1, 0, none⟩) 0 0).ownBlock ≠ u5.ownBlock := hQ5.own.neq hO5.out (by decide) ⟨_, rfl⟩
          have hNR : ∀ b, u5.ownBlock = some b → NR w5 b := fun b hb => hO5.out.nr (by decide) hb
          have hP6 := Lib.hid (hP5.gr hg6 nP hNR)
          have hQ6 := Lib.hid (hQ5.gr hg6 nQ hNR)
          have hT6 : ∀ {e' : Nat}, 3 ≠ e' → ∀ b, u5.ownBlock = some b → ∃ cs e'', w5.heap[b]? = some (.cells cs e'' (0, 0)) ∧ e'' ≠ e' := fun he b hb => by
            obtain ⟨cs, h1⟩ := htyp b hb
            exact ⟨cs, _, h1, he⟩
          have hpr6 := Lib.hid ((hpr.out.below hB5.out hpr.out.lt).gr hg6 (hT6 (by decide)))
          have hrs6 := Lib.hid ((hrs.out.of_block (w' := w5) (fun k hk => hB5.out.block k (hrs.out.lt k hk))).gr hg6 (hT6 (by decide)))
          have hEl6 : Hid (El w.heap.size w6 _ _) := Lib.hid ⟨hEl.out.1.gr hg6 (hT6 (by decide)), hEl.out.2⟩
          have hB6 := Lib.hid (Below.appended (Below.next hB.out hB5.out) hO5.out hg6 hs5)
          have ho6' : Hid (Own w6 3 w.heap.size vc6 (ints ((cntF x).take (j + 1)))) := Lib.hid (by rw [← hct.out]; simpa [ints] using ho6)
          have hul6 : usp.length ≤ 1000000000 := by have := hP.out.len; rw [List.length_take] at this; omega
          have hs6 : w.heap.size ≤ w6.heap.size := hB6.out.size
          clear ho6 hg6 htyp hP5 hQ5 nP nQ hNR hT6 r5
          go_wp2_with (at_builtin; refine append_one_at eltRecS rfl _ _ rfl w.heap.size _ _ rfl hP6.out.own rfl rfl hul6 hs6 ?_)
          intro op7 w7 ho7 hg7 hat7
          have hP7 := hP6.out.push hEl6.out ho7 hg7
          rw [hpt.out] at hP7
          replace hP7 := Lib.hid hP7
          have hNR7 : ∀ b, u6.ownBlock = some b → NR w6 b := fun b hb => hP6.out.own.nr (by decide) hb
          have hQ7 := Lib.hid (hQ6.out.gr hg7 (fun e => hne e.symm) hNR7)
          have hT7 : ∀ {e' : Nat}, 43 ≠ e' → ∀ b, u6.ownBlock = some b → ∃ cs e'', w6.heap[b]? = some (.cells cs e'' (0, 0)) ∧ e'' ≠ e' := fun he b hb => by
            obtain ⟨cs, h1⟩ := hP6.out.own.typed hb
            exact ⟨cs, _, h1, he⟩
          have hpr7 := Lib.hid (hpr6.out.gr hg7 (hT7 (by decide)))
          have hrs7 := Lib.hid (hrs6.out.gr hg7 (hT7 (by decide)))
          have ho8 := Lib.hid (ho6'.out.keptOf hP6.out.own (by decide) hg7)
          have hB7 := Lib.hid (Below.appended hB6.out hP6.out.own hg7 hs6)
          have hne7 : Hid (op7.ownBlock ≠ some (z + 1 + 1)) := Lib.hid (by
            rcases hat7 with e | e
            · rw [e]; exact hne
            · rw [e]; have h9 : z + 1 + 1 < w6.heap.size := (hQ6.out.own.lt _ rfl).2; simp; omega)
          clear ho7 hg7 hat7 hNR7 hT7
          go_wp2
          go_roundw
          case rel => exact ⟨j + 1, _, by omega, by go_num, ho8.out, hP7.out, hQ7.out, hpr7.out, hrs7.out, hB7.out, hne7.out⟩
          case measure => simp [intOf]; omega
      · obtain rfl : K = j := by omega
        have htc : (cntF x).take K = cntF x := List.take_of_length_le (by unfold cntF; rw [List.length_map, hK.out]; exact Nat.le_refl _)
        have htp : (partsF x).take K = partsF x := List.take_of_length_le (by unfold partsF; rw [List.length_map, hK.out]; exact Nat.le_refl _)
        have hpl : (partsF x).length = K := by unfold partsF; rw [List.length_map, hK.out]
        have hclK : (cntF x).length = K := by unfold cntF; rw [List.length_map, hK.out]
        rw [htc] at hO
        rw [htp] at hP
        clear htc htp hrs
        obtain ⟨ca, cc, rfl, _, _, _, hcO⟩ := hO.sl.openInts
        rw [hclK] at hO ⊢
        obtain ⟨s0, hs0⟩ : ∃ s0, wr.heap.size = s0 := ⟨_, rfl⟩
        have hS0 : w.heap.size ≤ wr.heap.size := hB.size
        have hbz : z + 1 + 1 + 1 < s0 := by rw [← hs0]; exact hpr.lt
        have hzw : w.heap.size ≤ z := by rw [← hz.out]; exact hs1
        obtain ⟨W4, hW4⟩ : ∃ W4, W4 = (((wr.alloc (Obj.cells #[.slice none 0 0, .slice none 0 0, .int .i64 0] 87)).alloc (Obj.cells #[.pointer (some ⟨wr.heap.size, 0, none⟩)] 85)).alloc (Obj.cells #[.int .i64 0] 3)).alloc (Obj.cells #[.int .i64 0] 3) := ⟨_, rfl⟩
        have y1 : (wr.alloc (Obj.cells #[.slice none 0 0, .slice none 0 0, .int .i64 0] 87)).heap.size = s0 + 1 := by simp [hs0]
        have y2 : ((wr.alloc (Obj.cells #[.slice none 0 0, .slice none 0 0, .int .i64 0] 87)).alloc (Obj.cells #[.pointer (some ⟨wr.heap.size, 0, none⟩)] 85)).heap.size = s0 + 1 + 1 := by simp [hs0]
        have y3 : (((wr.alloc (Obj.cells #[.slice none 0 0, .slice none 0 0, .int .i64 0] 87)).alloc (Obj.cells #[.pointer (some ⟨wr.heap.size, 0, none⟩)] 85)).alloc (Obj.cells #[.int .i64 0] 3)).heap.size = s0 + 1 + 1 + 1 := by simp [hs0]
        have q0 : Row W4 87 s0 0 3 [.slice none 0 0, .slice none 0 0, .int .i64 0] := by
          rw [hW4, ← hs0]; exact (((Row.three wr 87 _ _ _).alloc _).alloc _).alloc _
        have q1 : Row W4 85 (s0 + 1) 0 1 [.pointer (some ⟨s0, 0, none⟩)] := by
          have := ((Row.one1 (wr.alloc (Obj.cells #[.slice none 0 0, .slice none 0 0, .int .i64 0] 87)) 85 (.pointer (some ⟨wr.heap.size, 0, none⟩))).alloc (Obj.cells #[.int .i64 0] 3)).alloc (Obj.cells #[.int .i64 0] 3)
          rw [y1, hs0] at this
          rw [hW4, hs0]; exact this
        have q2 : Row W4 3 (s0 + 1 + 1) 0 1 [.int .i64 0] := by
          have := (Row.one1 ((wr.alloc (Obj.cells #[.slice none 0 0, .slice none 0 0, .int .i64 0] 87)).alloc (Obj.cells #[.pointer (some ⟨wr.heap.size, 0, none⟩)] 85)) 3 (.int .i64 0)).alloc (Obj.cells #[.int .i64 0] 3)
          rw [y2] at this
          rw [hW4]; exact this
        have q3 : Row W4 3 (s0 + 1 + 1 + 1) 0 1 [.int .i64 0] := by
          have := Row.one1 (((wr.alloc (Obj.cells #[.slice none 0 0, .slice none 0 0, .int .i64 0] 87)).alloc (Obj.cells #[.pointer (some ⟨wr.heap.size, 0, none⟩)] 85)).alloc (Obj.cells #[.int .i64 0] 3)) 3 (.int .i64 0)
          rw [y3] at this
          rw [hW4]; exact this
        have hb4 : Below wr.heap.size wr W4 := by rw [hW4]; exact ((((Below.refl _ _).alloc (Nat.le_refl _) _).alloc (by omega) _).alloc (by omega) _).alloc (by omega) _
        have hbW : Below w.heap.size w W4 := Below.next hB hb4
        have hL0 : LS w (z + 1 + 1 + 1) s0 (s0 + 1) (s0 + 1 + 1) (s0 + 1 + 1 + 1) (cntF x) (partsF x) (.slice ca K cc) u6 usp [] [] 0 [] 0 0 [] (.slice (some ⟨z + 1 + 1, 0, none⟩) 0 0) (.slice none 0 0) (.slice none 0 0) W4 := by
          refine ⟨⟨q0, Own.nil _ _ _, Own.nil _ _ _, by simp [Value.ownBlock], by simp [Value.ownBlock], fun b hb => by simp [Value.ownBlock] at hb, by omega, hbW⟩, hQ.below hb4, hpr.below hb4 hpr.lt, q2, q3, ⟨hO.below hb4, hP.below hb4, q1⟩, fun b _ => ⟨by simp [Value.ownBlock], by simp [Value.ownBlock]⟩, hne, ⟨by omega, fun e => ?_, fun e => ?_⟩, by omega, by omega, by omega⟩
          · have := (hO.lt _ e).2; omega
          · have := (hO.lt _ e).2; omega
        have hcl4 : Hid (∀ wq, ST w.heap.size (s0 + 1) s0 (cntF x) (partsF x) (.slice ca K cc) u6 usp wq → ∀ j, j < K → ∃ b off, ca = some ⟨b, off, none⟩ ∧ wq.cell? ⟨b, off + j, none⟩ = some (.int .i64 (gi (cntF x) j))) := Lib.hid (fun wq hst j hj => by
          obtain ⟨b, off, rfl, _, hr9⟩ := hst.ct.sl.rowInts (by omega)
          exact ⟨b, off, rfl, hr9.cellInt (by omega)⟩)
        replace hL0 := Lib.hid hL0
        rw [hs0] at hW4
        replace hW4 := Lib.hid hW4
        replace hs0 := Lib.hid hs0
        replace hpl := Lib.hid hpl
        replace hclK := Lib.hid hclK
        replace hcO := Lib.hid hcO
        clear hO hP hQ hpr hB q0 q1 q2 q3 hb4 y1 y2 y3 hne
        obtain ⟨wi, rfl⟩ : ∃ wi, wi = wr := ⟨_, rfl⟩
        have hcs : lens (partsF x) = cntF x := hlp.out
        have hpk := Lib.hid (planK_facts (cs := cntF x) hcpos.out)
        have hpg := Lib.hid (plan_gd (cs := cntF x) hcpos.out)
        have hst1 := Lib.hid (sum_take_le (cs := cntF x) hcpos.out)
        have hpll := Lib.hid (fun j => by have := push_lens (partsF x) j; rw [hcs] at this; exact this)
        have hprp := Lib.hid (fun j => by have := push_repl (partsF x) j; rw [hcs] at this; exact this)
        have hcle : Hid (∀ j, j < K → ((gp (partsF x) j).length : Int) = gi (cntF x) j) := Lib.hid (fun j _ => by rw [← hcs, gi_lens])
        replace hcs := Lib.hid hcs
        go_wp2
        rw [hs0.out, ← hW4.out]
        go_loopw [73] (fun iv wr => ∃ (j : Nat) (us : List Value) (o sv mv : Value), j ≤ K ∧ iv = .int .i64 (j : Nat) ∧ LS w (z + 1 + 1 + 1) s0 (s0 + 1) (s0 + 1 + 1) (s0 + 1 + 1 + 1) (cntF x) (partsF x) (.slice ca K cc) u6 usp (planK (cntF x) j).1 (planK (cntF x) j).2.1 (planK (cntF x) j).2.2 (pushP (partsF x) j).1 (pushP (partsF x) j).2 (planK (cntF x) j).2.1.length us o sv mv wr ∧ (pushP (partsF x) j).2 ≤ 2000 * (planK (cntF x) j).2.1.length) (fun iv _ => K - (intOf iv).toNat)
        case atStart => exact ⟨0, [], _, _, _, Nat.zero_le _, rfl, hL0.out, Nat.zero_le _⟩
        case round =>
          clear hL0
          obtain ⟨j, us, o, sv, mv, hj, rfl, hL, hcb⟩ := hrel
          by_cases hlt : j < K
          · obtain ⟨kb, ko, rfl, hcc⟩ := hcl4.out _ hL.st j hlt
            have hul := hL.sk.len
            have huP := hL.st.pt.len
            have pc0 := hL.pr.cell1
            have pf0 := hL.pr.frozen 0
            obtain ⟨pb9, pc9, epn⟩ := hL.st.pt.nn
            rw [huP, hpl.out] at epn
            subst epn
            obtain ⟨ob9, oc9, rfl⟩ := hL.sk.nn
            have e1 := hL.st.pt.own.opened'.2.1.cell (i := j) (by rw [huP, hpl.out]; exact hlt)
            rw [← gv_eq, Nat.zero_add] at e1
            have hElj := hL.st.pt.el j (by rw [hpl.out]; exact hlt)
            obtain ⟨va, vc9, ev, _⟩ := hElj.1.shape
            have hplk := (hpk.out j (by rw [hclK.out]; exact hj))
            have hSlen : (pushP (partsF x) j).1.length = (planK (cntF x) j).1.length := by
              have := congrArg List.length (hpll.out j)
              rwa [lens_length] at this
            have hul2 : us.length ≤ 1000000000 := by omega
            have hBw : w.heap.size ≤ wr.heap.size := hL.rs.bel.size
            have hcj := hcle.out j hlt
            have hgj := hpg.out j (by rw [hclK.out]; exact hj)
            have hsj := hst1.out j
            have hxj : 1 ≤ gi (cntF x) j ∧ gi (cntF x) j ≤ 100000 := by rw [gi_eq (by rw [hclK.out]; exact hlt)]; exact hcpos.out _ (List.getElem_mem _)
            have hG1 := Lib.hid ((hgj.push (x := gi (cntF x) j) (y := gi (cntF x) j) (by omega) (Int.le_refl _)))
            have hsn := Lib.hid (sum_take (cs := cntF x) hcpos.out (i := j) (by rw [hclK.out]; exact hlt))
            have hsj1 := Lib.hid (hst1.out (j + 1))
            have hpl5 : z + 1 + 1 + 1 < wr.heap.size := hL.pr.lt
            have hpl6 : pb9 < wr.heap.size := (hL.st.pt.own.lt pb9 rfl).2
            have hL1 := Lib.hid hL
            rw [ev] at e1
            generalize hgx : gi (cntF x) j = X at *
            replace hgx := Lib.hid hgx
            have hlpj := Lib.hid (show j < (partsF x).length by rw [hpl.out]; exact hlt)
            generalize hul9 : us.length = ul at *
            replace hul9 := Lib.hid hul9
            generalize (gp (partsF x) j).length = gl9 at *
            clear hL hElj
            replace hul := Lib.hid hul
            replace huP := Lib.hid huP
            replace hcj := Lib.hid hcj
            replace hplk := Lib.hid hplk
            replace hSlen := Lib.hid hSlen
            go_wp2
            go_region_law (first | (refine step_append_1at eltRecS rfl (.tmp 78) (.tmp 83) rfl w.heap.size (.slice (some ⟨ob9, 0, none⟩) ul oc9) us (by simp [Act.eval, Act.put]) (by first | exact (hL1.out.sk.own.alloc _).drewN 1 | exact (hL1.out.sk.own.drewN 1).alloc _) (.slice va gl9 vc9) wr.heap.size (by simp [Act.eval, Act.put]) (by simp [go_sem]) rfl (by rw [hul9.out]; exact hul2) (by simp; omega) (wr.heap.size + 1) (by simp) ?_; intro g5 cap5 w5 ho5 hg5 hat5; have hgr5 : wr.grownBy w5 (Value.slice (some ⟨ob9, 0, none⟩) ul oc9).ownBlock := grownBy.trans (grownBy.of_below (Below.drewN ((Below.refl wr.heap.size wr).alloc (Nat.le_refl _) (.cells #[.slice va gl9 vc9] 43)) 1) _) hg5; obtain ⟨hL5, cc5, ff5⟩ := hL1.out.append (j := j) (o' := .slice (some ⟨g5, 0, none⟩) (us.length + 1) cap5) hlpj.out (by rw [ev]; exact ho5) hgr5 (hat5.elim (fun h => .inl h.symm) (fun h => .inr ⟨g5, rfl, by omega⟩)); replace hL5 := Lib.hid hL5; rw [hul9.out] at hL5 ⊢))
            all_goals
              obtain ⟨W6, hW6⟩ : ∃ W6, W6 = w5.setCell ⟨z + 1 + 1 + 1, 0, none⟩ (.slice (some ⟨g5, 0, none⟩) (ul + 1) cap5) := ⟨_, rfl⟩
              rw [← hW6] at hL5 ⊢
              replace hW6 := Lib.hid hW6
              clear ho5 hg5 hat5 hgr5 cc5 ff5 pc0 pf0 e1 hcc
              have c11 := hL5.out.st.qr.cell1
              obtain ⟨m, hm⟩ : ∃ m, (planK (cntF x) j).1.length + 1 = m := ⟨_, rfl⟩
              have hpush := pushT_any W6 _ w s0 m sv mv (planK (cntF x) j).1 (planK (cntF x) j).2.1 (planK (cntF x) j).2.2 X W6 hL5.out.rt (by have := hplk.out; omega) (by have := hplk.out; omega) (hG1.out.le (by omega)) hm
              replace hpush := Lib.hid hpush
              replace hm := Lib.hid hm
              go_wp2_with fail
              refine hpush.out.mono ?_
              rintro e w7 ⟨rfl, sv7, mv7, hr7⟩
              have hst7 : settle false m ((planK (cntF x) j).1 ++ [X]) (planK (cntF x) j).2.1 = settle false (j + 1) ((planK (cntF x) j).1 ++ [X]) (planK (cntF x) j).2.1 := settle_fuel false m (j + 1) _ _ (by rw [List.length_append, List.length_singleton]; have := hm.out; omega) (by rw [List.length_append, List.length_singleton]; have := hplk.out; omega)
              have hmx : max (planK (cntF x) j).2.2 m = (planK (cntF x) (j + 1)).2.2 := by rw [← hm.out]; rfl
              rw [hst7, hmx] at hr7
              have hk1 : (settle false (j + 1) ((planK (cntF x) j).1 ++ [X]) (planK (cntF x) j).2.1).1 = (planK (cntF x) (j + 1)).1 := by rw [← hgx.out]; rfl
              have hk2 : (settle false (j + 1) ((planK (cntF x) j).1 ++ [X]) (planK (cntF x) j).2.1).2 = (planK (cntF x) (j + 1)).2.1 := by rw [← hgx.out]; rfl
              rw [hk1, hk2] at hr7
              have hL7 := Lib.hid (hL5.out.pushed hr7)
              clear hr7 hst7 hmx hk1 hk2 c11
              have hpn := plan_next (cntF x) j
              have hdrop : (planK (cntF x) (j + 1)).2.1.drop (planK (cntF x) j).2.1.length = newM (cntF x) j := by rw [hpn]; exact List.drop_left
              obtain ⟨hre, hvr⟩ := hprp.out j
              have hvr2 : VR (newM (cntF x) j) ((pushP (partsF x) j).1 ++ [gp (partsF x) j]).length := by rw [List.length_append, List.length_singleton]; exact hvr
              have hgd2 : Gd 1000 (lens ((pushP (partsF x) j).1 ++ [gp (partsF x) j])) := by
                rw [lens_snoc, hpll.out, hcle.out j hlt, hgx.out]
                refine hG1.out.le ?_
                have h1 := hsn.out
                have h2 := hsj1.out
                omega
              have hpk1 := (hpk.out (j + 1) (by rw [hclK.out]; omega)).2.1
              have hnl : (planK (cntF x) (j + 1)).2.1.length = (planK (cntF x) j).2.1.length + (newM (cntF x) j).length := by rw [hpn, List.length_append]
              have hSL : (pushP (partsF x) j).1.length ≤ 40 := by have := hSlen.out; have := hplk.out; omega
              have hfol := Lib.hid (follow_any w.heap.size (z + 1 + 1 + 1) s0 (s0 + 1) (s0 + 1 + 1) (s0 + 1 + 1 + 1) (planK (cntF x) j).2.1.length ((pushP (partsF x) j).1 ++ [gp (partsF x) j]) (pushP (partsF x) j).2 _ _ mv7 (planK (cntF x) (j + 1)).2.1 w7 hL7.out.pr hL7.out.sk hL7.out.st.qr hL7.out.rs.cells.2.1 hL7.out.rs.row.ty hL7.out.rs.mo.sl hL7.out.cr hL7.out.dr hL7.out.vn.1 (hL7.out.kv _ (.inl rfl)).2 (hL7.out.kv _ (.inr (.inl rfl))).2 (by omega) (by omega) (by rw [hdrop]; exact hvr2) (by rw [List.length_append, List.length_singleton]; omega) hgd2 (by omega))
              rw [hdrop, hre] at hfol
              have hbn : Hid ((pushP (partsF x) (j + 1)).2 ≤ 2000 * (planK (cntF x) (j + 1)).2.1.length) := Lib.hid (by
                have h1 := repl_bound _ _ (pushP (partsF x) j).2 hvr2 hgd2
                rw [hre] at h1
                omega)
              clear hpn hdrop hre hvr hvr2 hgd2 hpk1 hnl hSL
              go_wp2_with fail
              refine hfol.out.mono ?_
              rintro e w8 ⟨rfl, us8, o8, a1, a2, a3, a4, a5, a6⟩
              have hL8 := Lib.hid (hL7.out.followed a1 a2 a3 a4 a5 a6)
              clear a1 a2 a3 a4 a5 a6 hfol
              go_wp2
              go_roundw
              case rel => exact ⟨j + 1, us8, o8, sv7, mv7, by omega, by go_num, hL8.out, hbn.out⟩
              case measure => simp [intOf]; omega
          · obtain rfl : K = j := by omega
            have hVR := last_repl (partsF x)
            have hAM := all_merges (partsF x)
            have hgdK := hpg.out K (by rw [hclK.out]; exact Nat.le_refl _)
            have hsK := hst1.out K
            have hpkK := hpk.out K (by rw [hclK.out]; exact Nat.le_refl _)
            rw [hcs.out, hpl.out] at hAM
            rw [hpl.out] at hVR
            have hgdL : Gd 1000 (lens (pushP (partsF x) K).1) := by rw [hpll.out]; exact hgdK.le (by omega)
            have hSl : (pushP (partsF x) K).1.length ≤ 40 := by
              have := congrArg List.length (hpll.out K)
              rw [lens_length] at this
              omega
            have hall := hL.st.ct.sl.rd
            have hrm := Lib.hid (runMerges_any wr (.slice ca K cc) (cntF x) hall (by rw [hclK.out]; omega) hcpos.out)
            have hlm : (lastM (partsF x)).length ≤ 40 := by
              have h1 := (settle_facts true _ K (lens (pushP (partsF x) K).1) [] hgdL).2
              unfold lastM
              rw [hpl.out]
              rw [lens_length] at h1
              simp only [List.length_nil] at h1
              omega
            have hml : (rmF (cntF x)).1.length = (planK (cntF x) K).2.1.length + (lastM (partsF x)).length := by rw [hAM, List.length_append]
            have hdrop : (rmF (cntF x)).1.drop (planK (cntF x) K).2.1.length = lastM (partsF x) := by rw [hAM]; exact List.drop_left
            have hbw := hL.rs.bel.size
            have hL1 := Lib.hid hL
            clear hL hAM
            replace hVR := Lib.hid hVR
            replace hgdL := Lib.hid hgdL
            replace hml := Lib.hid hml
            replace hdrop := Lib.hid hdrop
            replace hpkK := Lib.hid hpkK
            obtain ⟨wj, rfl⟩ : ∃ wj, wj = wr := ⟨_, rfl⟩
            go_wp2_with fail
            refine hrm.out.mono ?_
            rintro e w8 ⟨mv8, rfl, hmo8, hb8⟩
            have hL8 := Lib.hid (hL1.out.below hb8)
            have hA : s0 < wj.heap.size ∧ s0 + 1 + 1 < wj.heap.size ∧ s0 + 1 + 1 + 1 < wj.heap.size ∧ (∀ b, sv.ownBlock = some b → b < wj.heap.size) ∧ ∀ b, (Value.slice ca K cc).ownBlock = some b → b < wj.heap.size :=
              ⟨hL1.out.rs.row.lt, hL1.out.cr.lt, hL1.out.dr.lt, fun b hb => (hL1.out.rs.so.lt b hb).2, fun b hb => (hL1.out.st.ct.lt b hb).2⟩
            have hL9 := Lib.hid (hL8.out.remerge hA hbw hmo8)
            have c11 := hL8.out.st.qr.cell1
            obtain ⟨_, c12, _, c13⟩ := hL8.out.rs.cells
            have c14 := c13 1
            obtain ⟨ma8, mc8, em8, _⟩ := hmo8.sl
            subst em8
            obtain ⟨W9, hW9⟩ : ∃ W9, W9 = w8.setCell ⟨s0, 1, none⟩ (.slice ma8 (ints (rmF (cntF x)).1).length mc8) := ⟨_, rfl⟩
            rw [← hW9] at hL9
            rw [ints_length] at hW9
            rw [ints_length] at hL9 ⊢
            have hfol := Lib.hid (follow_any w.heap.size (z + 1 + 1 + 1) s0 (s0 + 1) (s0 + 1 + 1) (s0 + 1 + 1 + 1) (planK (cntF x) K).2.1.length (pushP (partsF x) K).1 (pushP (partsF x) K).2 _ _ _ (rmF (cntF x)).1 W9 hL9.out.pr hL9.out.sk hL9.out.st.qr hL9.out.rs.cells.2.1 hL9.out.rs.row.ty hL9.out.rs.mo.sl hL9.out.cr hL9.out.dr hL9.out.vn.1 (hL9.out.kv _ (.inl rfl)).2 (hL9.out.kv _ (.inr (.inl rfl))).2 (by have := hml.out; omega) (by have := hml.out; have := hpkK.out; omega) (by rw [hdrop.out]; exact hVR.out.2) (by omega) hgdL.out (by have := hpkK.out; omega))
            rw [hdrop.out, hVR.out.1] at hfol
            replace hW9 := Lib.hid hW9
            generalize (rmF (cntF x)).1.length = ml8 at *
            clear hmo8 hb8 hA c13
            go_wp2_with fail
            rw [← hW9.out]
            refine hfol.out.mono ?_
            rintro e w10 ⟨rfl, us10, o10, a1, a2, a3, a4, a5, a6⟩
            have hL10 := Lib.hid (hL9.out.followed a1 a2 a3 a4 a5 a6)
            clear a1 a2 a3 a4 a5 a6 hfol c11 c12 c14
            have hgdE : Gd 1000 (lens (endP (partsF x)).1) := by
              have h1 := (repl_settle true (partsF x).length (pushP (partsF x) (partsF x).length)).2
              show Gd 1000 (lens (stl true (partsF x).length (pushP (partsF x) (partsF x).length)).1)
              rw [h1, hpl.out]
              exact (settle_facts true 1000 K _ [] hgdL.out).1
            have hsz9 : szRecordS (gp (endP (partsF x)).1 0) ≤ 100000000000 := by
              have h2 : (gp (endP (partsF x)).1 0).length ≤ 1000 := by
                by_cases h0 : 0 < (endP (partsF x)).1.length
                · have h3 := hgdE.at_ (i := 0) (by rw [lens_length]; exact h0)
                  rw [gi_lens] at h3
                  omega
                · have : gp (endP (partsF x)).1 0 = [] := by simp [gp, List.getElem?_eq_none (Nat.le_of_not_lt h0)]
                  rw [this]; simp
              unfold szRecordS
              omega
            have hAe := hAD.out
            unfold adF at hAe
            subst hAe
            have hBf := Lib.hid hL10.out.rs.bel
            have cp := hL10.out.pr.cell1
            have cc0 := hL10.out.cr.cell1
            have hul := hL10.out.sk.len
            have hel0 : Hid (0 < (endP (partsF x)).1.length → El w.heap.size w10 (gv us10 0) (gp (endP (partsF x)).1 0)) := Lib.hid (fun h => hL10.out.sk.el 0 h)
            have hen0 := Lib.hid (fun (h : K = 0) => end_nil (ps := partsF x) (by rw [hpl.out]; exact h))
            have hep0 := Lib.hid (fun (h : 1 ≤ K) => end_pos (ps := partsF x) (by rw [hpl.out]; exact h))
            obtain ⟨ob, oc, eo⟩ := hL10.out.sk.nn
            have e1 : 0 < us10.length → w10.cell? ⟨ob, 0, none⟩ = some (gv us10 0) := fun h9 => by
              have h8 := hL10.out.sk.own
              rw [eo] at h8
              have h7 := h8.opened'.2.1.cell (i := 0) h9
              rw [← gv_eq, Nat.zero_add] at h7
              exact h7
            subst eo
            replace hL10 := Lib.hid hL10
            replace hgdE := Lib.hid hgdE
            replace hsz9 := Lib.hid hsz9
            by_cases hK0 : K = 0
            · have h0 := hen0.out hK0
              have hul0 : us10.length = 0 := by rw [hul, h0]; rfl
              have hsz0 : szRecordS (gp ([] : List (List (Int × Int))) 0) ≤ 100000000000 := by have h9 := hsz9.out; rw [h0] at h9; exact h9
              clear e1
              rw [hul0] at cp
              replace h0 := Lib.hid h0
              replace hul0 := Lib.hid hul0
              replace hul := Lib.hid hul
              go_wp2
              go_ret3
              rw [h0.out]
              exact ⟨_, rfl, [w10.heap.size], ⟨(OwnQ.empty 72 w10).sl (by simp), rfl⟩, by intro b hb; simp at hb; have := hBf.out.size; omega, Below.alloc hBf.out hBf.out.size _, hsz0⟩
            · have h1 := hep0.out (by omega)
              obtain ⟨u, hu⟩ : ∃ u, us10.length = u + 1 := ⟨us10.length - 1, by omega⟩
              have hE := hel0.out (by omega)
              have e2 := e1 (by omega)
              obtain ⟨va, vc9, ev, _⟩ := hE.1.shape
              rw [ev] at e2
              rw [hu] at cp
              have hE2 := Lib.hid hE
              rw [ev] at hE2
              replace ev := Lib.hid ev
              replace hu := Lib.hid hu
              replace hul := Lib.hid hul
              have hu0 : ¬ ((u : Int) + 1 = 0) := by omega
              have hu1 : (((u : Int) + 1) == 0) = false := by simp; omega
              clear e1 hE
              go_wp2
              go_quiet (fail)
              go_wp2
              go_ret3
              exact ⟨_, rfl, _, ⟨SlQ.of_block hE2.out.1 (fun k hk => rfl), rfl⟩, by intro b hb; have := hE2.out.2 b (by simpa using hb); omega, Below.drewN hBf.out _, hsz9.out⟩
end Go.Proofs.Ytdhcpoeopooejaa
