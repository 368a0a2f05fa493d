/- AdaptiveSort, impl: the closure that follows the merges. -/
import Derived.Test.YtdhcpoeopooejaaAdS
import Derived.Deep.RegionHeld3
namespace Go.Proofs.Ytdhcpoeopooejaa
open Go.RowKit
set_option linter.unusedVariables false
set_option linter.unusedSimpArgs false

theorem vr_drop {m : Int} {r : List Int} {n : Nat} (h : VR (m :: r) n) : 0 ≤ m ∧ m.toNat + 2 ≤ n ∧ VR r (n - 1) := h
theorem drop_step {mg : List Int} {k : Nat} (h : k < mg.length) : mg.drop k = gi mg k :: mg.drop (k + 1) := by rw [List.drop_eq_getElem_cons h, gi_eq h]
theorem Own.size_c {w : World} {e B g n c : Nat} {xs : List Value} (h : Own w e B (.slice (some ⟨g, 0, none⟩) n c) xs) : ∃ cs, w.heap[g]? = some (.cells cs e (0, 0)) ∧ cs.size = c := h.opened'.2.2.2
set_option maxRecDepth 10000 in
set_option maxHeartbeats 8000000 in
/-- From the loop on: the merges mg behind the first dn. -/
theorem follow_any (B pb sb qb cb db dn : Nat) (S : List (List (Int × Int))) (cnt : Nat) (us : List Value) (o mv : Value) (mg : List Int) (wi : World)
    (hpc : Row wi 78 pb 0 1 [o]) (hps : PS B S us o wi) (hq : Row wi 85 qb 0 1 [.pointer (some ⟨sb, 0, none⟩)])
    (hs1 : wi.cell? ⟨sb, 1, none⟩ = some mv) (hsn : ∃ cs, wi.heap[sb]? = some (.cells cs 87 (0, 0))) (hmg : Sl wi 3 mv (ints mg))
    (hc : Row wi 3 cb 0 1 [.int .i64 (cnt : Nat)]) (hd : Row wi 3 db 0 1 [.int .i64 (dn : Nat)]) (hcd : cb ≠ db) (hmc : mv.ownBlock ≠ some cb) (hmd : mv.ownBlock ≠ some db)
    (hdn : dn ≤ mg.length) (hmgl : mg.length ≤ 100) (hvr : VR (mg.drop dn) S.length) (hSl : S.length ≤ 100) (hgd : Gd 1000 (lens S)) (hcnt : cnt ≤ 1000000) :
    Calls Try.prog 79 #[.pointer (some ⟨qb, 0, none⟩), .pointer (some ⟨db, 0, none⟩), .pointer (some ⟨pb, 0, none⟩), .pointer (some ⟨cb, 0, none⟩)] wi fun e w' => e = .returned (.tuple #[]) ∧ ∃ us' o',
      PS B (repl (mg.drop dn) (S, cnt)).1 us' o' w' ∧ Row w' 78 pb 0 1 [o'] ∧ Row w' 3 cb 0 1 [.int .i64 ((repl (mg.drop dn) (S, cnt)).2 : Nat)] ∧ Row w' 3 db 0 1 [.int .i64 (mg.length : Nat)] ∧ Ex ([pb, cb, db] ++ o.ownBlock.toList) wi w' ∧ o'.ownBlock = o.ownBlock := by
  obtain ⟨g, c, ho⟩ := hps.nn
  subst ho
  have hul := hps.len
  have hgB := hps.own.lt g rfl
  have cq := hq.cell1
  have cd := hd.cell1
  have fd := hd.frozen 0
  have hml : (ints mg).length = mg.length := by simp
  have hz : Hid (dn = mg.length → ∀ q, PS B (repl (mg.drop dn) (S, cnt)).1 us (.slice (some ⟨g, 0, none⟩) us.length c) ((wi.drewN q).setCell ⟨db, 0, none⟩ (.int .i64 (mg.length : Nat))) ∧ Row ((wi.drewN q).setCell ⟨db, 0, none⟩ (.int .i64 (mg.length : Nat))) 78 pb 0 1 [.slice (some ⟨g, 0, none⟩) us.length c] ∧ Row ((wi.drewN q).setCell ⟨db, 0, none⟩ (.int .i64 (mg.length : Nat))) 3 cb 0 1 [.int .i64 ((repl (mg.drop dn) (S, cnt)).2 : Nat)] ∧ Row ((wi.drewN q).setCell ⟨db, 0, none⟩ (.int .i64 (mg.length : Nat))) 3 db 0 1 [.int .i64 (mg.length : Nat)] ∧ Ex ([pb, cb, db] ++ (Value.slice (some ⟨g, 0, none⟩) us.length c).ownBlock.toList) wi ((wi.drewN q).setCell ⟨db, 0, none⟩ (.int .i64 (mg.length : Nat))) ∧ (Value.slice (some ⟨g, 0, none⟩) us.length c).ownBlock = (Value.slice (some ⟨g, 0, none⟩) us.length c).ownBlock) := Lib.hid (fun he q => by
    rw [List.drop_of_length_le (by omega)]
    have hx : Ex [db] wi ((wi.drewN q).setCell ⟨db, 0, none⟩ (.int .i64 (mg.length : Nat))) := Ex.setIn (p := ⟨db, 0, none⟩) ((Ex.refl _ _).drewN q) (by simp)
    have hdr := (hd.drewN q).set (i := 0) (by simp) (.int .i64 (mg.length : Nat))
    simp only [Nat.zero_add, List.set_cons_zero] at hdr
    have hne : ∀ {e : Nat} {b c : Nat} {ys : List Value}, Row wi e b 0 c ys → e ≠ 3 → ¬ b = db := fun {e b c ys} hr he e9 => by
      subst e9
      obtain ⟨cs, h1, _⟩ := hr
      obtain ⟨cs', h2, _⟩ := hd
      rw [h1] at h2
      simp only [Option.some.injEq, Obj.cells.injEq] at h2
      exact he h2.2.1
    obtain ⟨_, hgr, _⟩ := hps.own.opened'
    exact ⟨hps.ex hx (fun b hb => by rw [List.mem_singleton] at hb; subst hb; exact hd.nr (by decide)) (fun b hb => by rw [List.mem_singleton] at hb; subst hb; intro e; simp [Value.ownBlock] at e; exact hne hgr (by decide) e),
      (hpc.drewN q).setOther (a := ⟨db, 0, none⟩) (hne hpc (by decide)) _, (hc.drewN q).setOther (a := ⟨db, 0, none⟩) hcd _, hdr, hx.mono (by simp), rfl⟩)
  by_cases hlt : dn < mg.length
  · obtain ⟨mo, mc, rfl, hm1, hm2, hm3, hm4⟩ := hmg.openInts
    unfold maxLen at hm3
    obtain ⟨mb, mf, rfl, hmr⟩ := hm4 (by omega)
    obtain ⟨N, hN⟩ : ∃ N, mg.length - dn = N := ⟨_, rfl⟩
    obtain ⟨R, hR⟩ : ∃ R, repl (mg.drop dn) (S, cnt) = R := ⟨_, rfl⟩
    rw [hR]
    obtain ⟨hl9, hgr, _, _⟩ := hps.own.opened'
    have hneT : ∀ {e e' : Nat} {b b' o o' c c' : Nat} {xs ys : List Value}, Row wi e b o c xs → Row wi e' b' o' c' ys → e ≠ e' → ¬ b = b' := fun h1 h2 he e9 => by
      subst e9
      obtain ⟨cs, k1, _⟩ := h1
      obtain ⟨cs', k2, _⟩ := h2
      rw [k1] at k2
      simp only [Option.some.injEq, Obj.cells.injEq] at k2
      exact he k2.2.1
    have npg := hneT hpc hgr (by decide)
    have npc := hneT hpc hc (by decide)
    have npd := hneT hpc hd (by decide)
    have npm := hneT hpc hmr (by decide)
    have ngc := hneT hgr hc (by decide)
    have ngd := hneT hgr hd (by decide)
    have ngm := hneT hgr hmr (by decide)
    have nmc : ¬ mb = cb := fun e => hmc (by rw [e]; rfl)
    have nmd : ¬ mb = db := fun e => hmd (by rw [e]; rfl)
    have nqp := hneT hq hpc (by decide)
    have nqc := hneT hq hc (by decide)
    have nqd := hneT hq hd (by decide)
    have nqg := hneT hq hgr (by decide)
    have hsb : ∀ b ∈ [pb, cb, db, g], ¬ sb = b := by
      obtain ⟨cs, hs⟩ := hsn
      intro b hb e
      subst e
      simp only [List.mem_cons, List.mem_nil_iff, or_false] at hb
      rcases hb with rfl | rfl | rfl | rfl
      · obtain ⟨cs', k1, _⟩ := hpc; rw [hs] at k1; simp at k1
      · obtain ⟨cs', k1, _⟩ := hc; rw [hs] at k1; simp at k1
      · obtain ⟨cs', k1, _⟩ := hd; rw [hs] at k1; simp at k1
      · obtain ⟨cs', k1, _⟩ := hgr; rw [hs] at k1; simp at k1
    have hBs : B ≤ wi.heap.size := by omega
    have hmcl : Hid (∀ wq, Ex [pb, cb, db, g] wi wq → (∀ j, j < mg.length → wq.cell? ⟨mb, mf + j, none⟩ = some (.int .i64 (gi mg j))) ∧ wq.cell? ⟨qb, 0, none⟩ = some (.pointer (some ⟨sb, 0, none⟩)) ∧ wq.cell? ⟨sb, 1, none⟩ = some (.slice (some ⟨mb, mf, none⟩) mg.length mc) ∧ Row wq 3 db 0 1 [.int .i64 (dn : Nat)] → True) := Lib.hid (fun _ _ _ => trivial)
    clear hmcl
    have hmcl : Hid (∀ wq, Ex [pb, cb, db, g] wi wq → (∀ j, j < mg.length → wq.cell? ⟨mb, mf + j, none⟩ = some (.int .i64 (gi mg j))) ∧ wq.cell? ⟨qb, 0, none⟩ = some (.pointer (some ⟨sb, 0, none⟩)) ∧ wq.cell? ⟨sb, 1, none⟩ = some (.slice (some ⟨mb, mf, none⟩) mg.length mc)) := Lib.hid (fun wq hx => by
      refine ⟨fun j hj => ?_, ?_, ?_⟩
      · have h1 := hmr.of_block (w' := wq) (hx.block mb hmr.lt (by simp; exact ⟨fun e => npm e.symm, nmc, nmd, fun e => ngm e.symm⟩))
        exact h1.cellInt hj
      · exact (hq.of_block (w' := wq) (hx.block qb hq.lt (by simp; exact ⟨nqp, nqc, nqd, nqg⟩))).cell1
      · rw [World.cell?_of_block (w := wi) (hx.block sb (block_lt_of_cell hs1) (fun hm => hsb sb hm rfl))]; exact hs1)
    obtain ⟨m1, m2, m3⟩ := hmcl.out wi (Ex.refl _ _)
    have hN1 : (mg.length : Int) - (dn : Int) = (N : Int) := by omega
    have hg0 : (0 : Int) ≤ (dn : Int) := by omega
    have hg1 : (dn : Int) ≤ (mg.length : Int) := by omega
    have hmcn : ¬ mc = dn := by omega
    have hF : (Value.slice (some ⟨g, 0, none⟩) us.length c).ownBlock.toList = [g] := rfl
    rw [hF]
    generalize hL : mg.length = l at *
    obtain ⟨n0, hn0⟩ : ∃ n0, us.length = n0 := ⟨_, rfl⟩
    rw [hn0] at hps hpc ⊢
    have hinv0 := Lib.hid hps
    have hpc0 := Lib.hid hpc
    have hc0 := Lib.hid hc
    have hd0 := Lib.hid hd
    have hvr0 := Lib.hid hvr
    have hgd0 := Lib.hid hgd
    have hR0 := Lib.hid hR
    replace hL := Lib.hid hL
    have hN2 : l - dn = N := hN
    clear hneT
    clear hsb hmr hm4 hgr hl9 hps hpc hc hd hvr hgd hR m1 hq hmg hsn hF hz hN hm1
    go_enter Try.func79, Try.ntmps79
    go_wp2_with fail
    go_quiet (fail)
    go_wp2
    go_loopw [15] (fun iv wq => ∃ (i n : Nat) (S' : List (List (Int × Int))) (cnt' : Nat) (us' : List Value), i ≤ N ∧ iv = .int .i64 (i : Nat) ∧ PS B S' us' (.slice (some ⟨g, 0, none⟩) n c) wq ∧ Row wq 78 pb 0 1 [.slice (some ⟨g, 0, none⟩) n c] ∧ Row wq 3 cb 0 1 [.int .i64 (cnt' : Nat)] ∧ Row wq 3 db 0 1 [.int .i64 (dn : Nat)] ∧ Ex [pb, cb, db, g] wi wq ∧ repl (mg.drop (dn + i)) (S', cnt') = R ∧ VR (mg.drop (dn + i)) S'.length ∧ S'.length ≤ 100 ∧ Gd 1000 (lens S') ∧ cnt' ≤ 1000000 + 2000 * i) (fun iv _ => N - (intOf iv).toNat)
    case atStart => exact ⟨0, n0, S, cnt, us, Nat.zero_le _, rfl, hinv0.out.ex (F := []) ((Ex.refl _ _).drewN _) (fun _ h => by simp at h) (fun _ h => by simp at h), hpc0.out.drewN _, hc0.out.drewN _, hd0.out.drewN _, (Ex.refl _ _).drewN _, hR0.out, hvr0.out, hSl, hgd0.out, by omega⟩
    case round =>
      clear hinv0 hpc0 hc0 hd0 hR0 hvr0 hgd0 m2 m3 cq cd fd hs1
      obtain ⟨i, n, S', cnt', us', hi, rfl, hP, hpc, hc, hd, hx, hR, hvr, hSl', hgd, hcnt'⟩ := hrel
      obtain ⟨m1, m2, m3⟩ := hmcl.out wr hx
      by_cases hlt : i < N
      · have hst := drop_step (mg := mg) (k := dn + i) (by have := hL.out; omega)
        rw [hst] at hR hvr
        obtain ⟨v1, v2, v3⟩ := vr_drop hvr
        have m4 := m1 (dn + i) (by omega)
        rw [← Nat.add_assoc] at m4
        obtain ⟨m, hm⟩ : ∃ m : Nat, gi mg (dn + i) = (m : Int) := ⟨(gi mg (dn + i)).toNat, by omega⟩
        rw [hm] at hR v2 m4
        rw [Int.toNat_natCast] at v2
        rw [repl, Int.toNat_natCast] at hR
        have hul' := hP.len
        obtain ⟨hl9, hgr, _, hgs⟩ := hP.own.opened'
        obtain ⟨n', hn'⟩ : ∃ n', n = n' + 1 := ⟨n - 1, by omega⟩
        obtain ⟨p, hp⟩ : ∃ p, m + 1 = p := ⟨_, rfl⟩
        obtain ⟨q, hq⟩ : ∃ q, m + 2 = q := ⟨_, rfl⟩
        have e1 := hgr.cell (i := m) (by omega)
        have e2 := hgr.cell (i := m + 1) (by omega)
        rw [← gv_eq, Nat.zero_add] at e1 e2
        have A1 := hP.el m (by omega)
        have A2 := hP.el (m + 1) (by omega)
        have g1 := hgd.at_ (i := m) (by simp; omega)
        have g2 := hgd.at_ (i := m + 1) (by simp; omega)
        rw [gi_lens] at g1 g2
        have hml2 := (mergeF_len _ (gp S' m) (gp S' (m + 1)) rfl)
        have hgd2 := Lib.hid (show Gd 1000 (lens (mgP S' m)) by rw [lens_mgP]; exact hgd.mg (by simp; omega))
        have hl2 : Hid ((mgP S' m).length ≤ 100 ∧ (mgP S' m).length = S'.length - 1) := Lib.hid (by
          have h1 := mgAt_length (st := lens S') (k := m) (by simp; omega)
          rw [← lens_mgP, lens_length, lens_length] at h1
          omega)
        have hmerge := Lib.hid (impl_merge_any (gv us' m) (gv us' (m + 1)) (gp S' m) (gp S' (m + 1)) wr.drew (A1.1.rdP.below (Below.drewN (Below.refl _ _) 1)) (A2.1.rdP.below (Below.drewN (Below.refl _ _) 1)) (by omega))
        obtain ⟨xa, xc, ex, _⟩ := A1.1.shape
        obtain ⟨ya, yc, ey, _⟩ := A2.1.shape
        rw [ex] at e1 hmerge
        rw [ey] at e2 hmerge
        have cp := hpc.cell1
        have i1 : (0 : Int) ≤ (m : Int) := by omega
        have i2 : (m : Int) < (n : Int) := by omega
        have i7 : (m : Int) + 1 = (p : Int) := by omega
        have i8 : (m : Int) + 2 = (q : Int) := by omega
        have i3 : IntKind.i64.wrap ((m : Int) + 1) = (p : Int) := by rw [i7]; exact IntWalk.i64_in _ (by omega)
        have i9 : IntKind.i64.wrap ((m : Int) + 2) = (q : Int) := by rw [i8]; exact IntWalk.i64_in _ (by omega)
        have i4 : (0 : Int) ≤ (p : Int) := by omega
        have i5 : (p : Int) < (n : Int) := by omega
        have i6 : IntKind.i64.wrap (p : Int) = (p : Int) := IntWalk.i64_in _ (by omega)
        have i10 : IntKind.i64.wrap (m : Int) = (m : Int) := IntWalk.i64_in _ (by omega)
        replace hq := Lib.hid hq
        replace hn' := Lib.hid hn'
        replace hl9 := Lib.hid hl9
        replace hul' := Lib.hid hul'
        have hpl : pb < wr.heap.size := hpc.lt
        have hgl : g < wr.heap.size := hgr.lt
        generalize (gp S' m).length = xl at *
        generalize (gp S' (m + 1)).length = yl at *
        rw [hp] at e2
        replace hp := Lib.hid hp
        generalize hMM : mergeF (gp S' m) (gp S' (m + 1)) = MM at *
        replace hMM := Lib.hid hMM
        replace hR := Lib.hid hR
        replace v3 := Lib.hid v3
        replace hst := Lib.hid hst
        replace hm := Lib.hid hm
        replace hP := Lib.hid hP
        replace hx := Lib.hid hx
        replace hpc := Lib.hid hpc
        replace hc := Lib.hid hc
        replace hd := Lib.hid hd
        replace hgs := Lib.hid hgs
        clear hvr m1 m2 m3 hgr A1 A2 hgd ex ey
        go_wp2
        go_region_held3 (fun w' => w'.cell? ⟨pb, 0, none⟩ = some (.slice (some ⟨g, 0, none⟩) n c) ∧ w'.cell? ⟨g, m, none⟩ = some (.slice xa xl xc) ∧ w'.cell? ⟨g, p, none⟩ = some (.slice ya yl yc)) ((first | exact ⟨(hbel.cell (p := ⟨pb, 0, none⟩) hpl).trans cp, (hbel.cell (p := ⟨g, m, none⟩) hgl).trans e1, (hbel.cell (p := ⟨g, p, none⟩) hgl).trans e2⟩ | go_keep)) ((go_at_call 80; refine hmerge.out.mono ?_; rintro e w' ⟨out, rfl, hout, hbel⟩))
        obtain ⟨d1, d2, _⟩ : _ ∧ _ ∧ _ := ‹w'.cell? ⟨pb, 0, none⟩ = some (.slice (some ⟨g, 0, none⟩) n c) ∧ w'.cell? ⟨g, m, none⟩ = some (.slice xa xl xc) ∧ w'.cell? ⟨g, p, none⟩ = some (.slice ya yl yc)›
        have hx2 := Lib.hid ((show Ex [pb, cb, db, g] wi wr.drew from hx.out.drewN 1).trans (Ex.of_below hbel))
        have hP2 : PS B S' us' (.slice (some ⟨g, 0, none⟩) n c) w' := (show PS B S' us' (.slice (some ⟨g, 0, none⟩) n c) wr.drew from hP.out.ex (F := []) ((Ex.refl _ _).drewN 1) (fun _ h => by simp at h) (fun _ h => by simp at h)).below hbel
        have hpc2 := (Row.drew hpc.out).below hbel hpc.out.lt
        have hc2 := (Row.drew hc.out).below hbel hc.out.lt
        have hd2 := (Row.drew hd.out).below hbel hd.out.lt
        have hMl : MM.1.length ≤ 2000 ∧ MM.2 ≤ 2000 := by omega
        have hv2 : El B w' out MM.1 := ⟨hout.sl (by omega), fun b hb => by have h1 : wr.heap.size ≤ b := (hout.lt b hb).1; omega⟩
        obtain ⟨oa, oc, eo, _⟩ := hv2.1.shape
        subst eo
        have cc2 := hc2.cell1
        have fc2 := hc2.frozen 0
        have hgr2 := hP2.own.opened'.2.1
        have fg2 := hgr2.frozen m
        obtain ⟨Z, hZ⟩ : ∃ Z, cnt' + MM.2 = Z := ⟨_, rfl⟩
        have hw0 : (cnt' : Int) + ((MM.2 : Nat) : Int) = (Z : Int) := by omega
        have hw1 : IntKind.i64.wrap ((cnt' : Int) + ((MM.2 : Nat) : Int)) = (Z : Int) := by rw [hw0]; exact IntWalk.i64_in _ (by omega)
        have hw2 : IntKind.i64.wrap (Z : Int) = (Z : Int) := IntWalk.i64_in _ (by omega)
        have hZb : Hid (Z ≤ 1000000 + 2000 * (i + 1)) := Lib.hid (by omega)
        replace hZ := Lib.hid hZ
        replace hml2 := Lib.hid hml2
        clear hMl
        obtain ⟨W3, hW3⟩ : ∃ W3, W3 = w'.setCell ⟨cb, 0, none⟩ (.int .i64 (Z : Int)) := ⟨_, rfl⟩
        have hx3 : Ex [cb] w' W3 := by rw [hW3]; exact Ex.setIn (p := ⟨cb, 0, none⟩) (Ex.refl _ _) (by simp)
        have hncb : ∀ b ∈ [cb], NR w' b := fun b hb => by rw [List.mem_singleton] at hb; subst hb; exact hc2.nr (by decide)
        have hP3 : PS B S' us' (.slice (some ⟨g, 0, none⟩) n c) W3 := hP2.ex hx3 hncb (fun b hb e => by rw [List.mem_singleton] at hb; subst hb; simp [Value.ownBlock] at e; exact ngc e)
        have hv3 := hv2.ex hx3 hncb
        have hc3 : Row W3 3 cb 0 1 [.int .i64 (Z : Int)] := by
          have := hc2.set (i := 0) (by simp) (.int .i64 (Z : Int))
          rw [hW3]; simpa using this
        have hpc3 : Row W3 78 pb 0 1 [.slice (some ⟨g, 0, none⟩) n c] := by rw [hW3]; exact hpc2.setOther (a := ⟨cb, 0, none⟩) npc _
        have hd3 : Row W3 3 db 0 1 [.int .i64 (dn : Nat)] := by rw [hW3]; exact hd2.setOther (a := ⟨cb, 0, none⟩) (fun e => hcd e.symm) _
        obtain ⟨W4, hW4⟩ : ∃ W4, W4 = W3.setCell ⟨g, m, none⟩ (.slice oa MM.1.length oc) := ⟨_, rfl⟩
        have hO4 := hP3.own.setAt (i := m) (y := .slice oa MM.1.length oc) (by have := hn'.out; have := hl9.out; have := hul'.out; omega)
        rw [← hW4] at hO4
        obtain ⟨hl4, hr4, _, hs4⟩ := hO4.opened'
        have hx4 : Ex [g] W3 W4 := by rw [hW4]; exact Ex.setIn (p := ⟨g, m, none⟩) (Ex.refl _ _) (by simp)
        have hone : ∀ u ∈ us'.set m (.slice oa MM.1.length oc), u.oneCell' = true := fun u hu => by
          rcases List.mem_or_eq_of_mem_set hu with h | h
          · obtain ⟨j, hj, rfl⟩ := List.getElem_of_mem h
            obtain ⟨za, zc, ez, _⟩ := (hP3.el j (by have := hul'.out; omega)).1.shape
            rw [← gv_eq hj, ez]; rfl
          · subst h; rfl
        have hdel := Lib.hid (deleteR_any g 0 n c p q c (us'.set m (.slice oa MM.1.length oc)) W4 hs4 hr4 hl4.symm (by have := hp.out; have := hq.out; omega) (by have := hq.out; have := hl9.out; have := hul'.out; omega) hone)
        have hpc4 : Row W4 78 pb 0 1 [.slice (some ⟨g, 0, none⟩) n c] := by rw [hW4]; exact hpc3.setOther (a := ⟨g, m, none⟩) npg _
        have hc4 : Row W4 3 cb 0 1 [.int .i64 (Z : Int)] := by rw [hW4]; exact hc3.setOther (a := ⟨g, m, none⟩) (fun e => ngc e.symm) _
        have hd4 : Row W4 3 db 0 1 [.int .i64 (dn : Nat)] := by rw [hW4]; exact hd3.setOther (a := ⟨g, m, none⟩) (fun e => ngd e.symm) _
        rw [hW3] at hW4
        replace hx3 := Lib.hid hx3
        replace hx4 := Lib.hid hx4
        replace hP3 := Lib.hid hP3
        replace hv3 := Lib.hid hv3
        replace hpc4 := Lib.hid hpc4
        replace hc4 := Lib.hid hc4
        replace hd4 := Lib.hid hd4
        replace hW4 := Lib.hid hW4
        replace hW3 := Lib.hid hW3
        clear hbel hP2 hpc2 hc2 hd2 hv2 hgr2 hncb hc3 hpc3 hd3 hO4 hl4 hr4 hs4 hone hout hmerge e1 e2 cp
        generalize hMl1 : MM.1.length = ml at *
        replace hMl1 := Lib.hid hMl1
        go_wp2_with fail
        rw [← hW4.out]
        refine hdel.out.mono ?_
        rintro e w5 ⟨rfl, hr5, hx5, hs5⟩
        rw [← hp.out, ← hq.out] at hr5
        have hx45 : Ex [g] W3 w5 := hx4.out.trans hx5
        have hml9 := hMl1.out
        have hPm := PS.merged (n := n') (M := MM.1) (v := .slice oa ml oc) (by rw [← hn'.out]; exact hP3.out) (by have := hn'.out; have := hl9.out; have := hul'.out; omega) hv3.out hr5 hx45 hs5
        have hSe : S'.take m ++ (MM.1 :: S'.drop (m + 2)) = mgP S' m := by unfold mgP; rw [hMM.out]
        rw [hSe] at hPm
        have hpc5 := hpc4.out.of_block (hx5.block pb hpc4.out.lt (by simp; exact npg))
        have hc5 := hc4.out.of_block (hx5.block cb hc4.out.lt (by simp; exact fun e => ngc e.symm))
        have hd5 := hd4.out.of_block (hx5.block db hd4.out.lt (by simp; exact fun e => ngd e.symm))
        have cp5 := hpc5.cell1
        have fp5 := hpc5.frozen 0
        have hpn : p + (n - q) = n' := by have := hp.out; have := hq.out; have := hn'.out; omega
        rw [hpn]
        have hx6 : Ex [pb] w5 (w5.setCell ⟨pb, 0, none⟩ (.slice (some ⟨g, 0, none⟩) n' c)) := Ex.setIn (p := ⟨pb, 0, none⟩) (Ex.refl _ _) (by simp)
        have hP6 := Lib.hid (hPm.ex hx6 (fun b hb => by rw [List.mem_singleton] at hb; subst hb; exact hpc5.nr (by decide)) (fun b hb e => by rw [List.mem_singleton] at hb; subst hb; simp [Value.ownBlock] at e; exact npg e.symm))
        have hpc6 := hpc5.set (i := 0) (by simp) (.slice (some ⟨g, 0, none⟩) n' c)
        simp only [Nat.zero_add, List.set_cons_zero] at hpc6
        have hc6 := Lib.hid (hc5.setOther (a := ⟨pb, 0, none⟩) (fun e => npc e.symm) (.slice (some ⟨g, 0, none⟩) n' c))
        have hd6 := Lib.hid (hd5.setOther (a := ⟨pb, 0, none⟩) (fun e => npd e.symm) (.slice (some ⟨g, 0, none⟩) n' c))
        have hxf := Lib.hid (((hx2.out.trans (hx3.out.mono (G := [pb, cb, db, g]) (by simp))).trans (hx45.mono (G := [pb, cb, db, g]) (by simp))).trans (hx6.mono (G := [pb, cb, db, g]) (by simp)))
        have hRf : Hid (repl (mg.drop (dn + (i + 1))) (mgP S' m, Z) = R) := Lib.hid (by
          have h9 := hR.out
          unfold mgS at h9
          dsimp only at h9
          rw [hMM.out, hZ.out] at h9
          exact h9)
        have hVf : Hid (VR (mg.drop (dn + (i + 1))) (mgP S' m).length) := Lib.hid (by rw [hl2.out.2]; exact v3.out)
        replace hpc6 := Lib.hid hpc6
        clear hr5 hx5 hs5 hx45 hPm hSe hpc5 hc5 hd5 hpn hx6 hml9
        go_wp2
        go_roundw
        case rel => exact ⟨i + 1, n', mgP S' m, Z, _, by omega, by go_num, hP6.out, hpc6.out, hc6.out, hd6.out, hxf.out, hRf.out, hVf.out, hl2.out.1, hgd2.out, hZb.out⟩
        case measure => simp [intOf]; omega
      · obtain rfl : N = i := by omega
        have c3 := hd.cell1
        have f3 := hd.frozen 0
        rw [List.drop_of_length_le (by have := hL.out; omega)] at hR
        have hR' : R = (S', cnt') := hR.symm
        have hx6 : Ex [db] wr (wr.setCell ⟨db, 0, none⟩ (.int .i64 (l : Nat))) := Ex.setIn (p := ⟨db, 0, none⟩) (Ex.refl _ _) (by simp)
        have hP6 := Lib.hid (hP.ex hx6 (fun b hb => by rw [List.mem_singleton] at hb; subst hb; exact hd.nr (by decide)) (fun b hb e => by rw [List.mem_singleton] at hb; subst hb; simp [Value.ownBlock] at e; exact ngd e))
        have hpc6 := Lib.hid (hpc.setOther (a := ⟨db, 0, none⟩) npd (.int .i64 (l : Nat)))
        have hc6 := Lib.hid (hc.setOther (a := ⟨db, 0, none⟩) hcd (.int .i64 (l : Nat)))
        have hd6 := hd.set (i := 0) (by simp) (.int .i64 (l : Nat))
        simp only [Nat.zero_add, List.set_cons_zero] at hd6
        have hxf := Lib.hid (hx.trans (hx6.mono (G := [pb, cb, db, g]) (by simp)))
        replace hd6 := Lib.hid hd6
        replace hR' := Lib.hid hR'
        clear hP hpc hc hd hx hR hvr hgd hx6 m1
        go_wp2
        go_end0
        exact ⟨rfl, us', .slice (some ⟨g, 0, none⟩) n c, by rw [hR'.out]; exact hP6.out, hpc6.out, by rw [hR'.out]; exact hc6.out, hd6.out, hxf.out, rfl⟩
  · have hde : dn = mg.length := by omega
    have hzf := Lib.hid (hz.out hde)
    have hmlI : Hid (mg.length = dn) := Lib.hid hde.symm
    obtain ⟨mo, mc, e, hh⟩ := hmg
    subst e
    rw [ints_length] at hs1 hmc hmd
    clear hz hps hpc hc hd hq hvr hgd hmlI
    rcases hh with ⟨rfl, hnil, rfl⟩ | ⟨mb, mf, rfl, hrow⟩
    · have hmn : mg = [] := by simpa [ints] using hnil
      subst hmn
      simp only [List.length_nil] at hde hs1 hzf
      subst hde
      go_enter Try.func79, Try.ntmps79
      go_wp2_with fail
      go_quiet (fail)
      go_wp2
      go_loopw [15] (fun iv wq => iv = .int .i64 0 ∧ wq = wi.drewN nq) (fun _ _ => 0)
      case atStart => exact ⟨rfl, by first | rfl | exact World.drewN_drewN ..⟩
      case round =>
        obtain ⟨rfl, rfl⟩ := hrel
        go_wp2
        go_end0
        obtain ⟨z1, z2, z3, z4, z5, _⟩ := hzf.out nq
        exact ⟨rfl, us, .slice (some ⟨g, 0, none⟩) us.length c, z1, z2, z3, z4, z5, rfl⟩
    · have hm2 := hrow.le
      have hm3 := hrow.capLe
      rw [ints_length] at hm2
      unfold maxLen at hm3
      clear hrow
      generalize hL : mg.length = l at *
      replace hL := Lib.hid hL
      subst hde
      have hl0 : (0 : Int) ≤ (dn : Int) := by omega
      have hl1 : dn ≤ dn := Nat.le_refl _
      have hl2 : (dn : Int) ≤ (dn : Int) := Int.le_refl _
      by_cases hc0 : mc = dn
      · subst hc0
        go_enter Try.func79, Try.ntmps79
        go_wp2_with fail
        go_quiet (fail)
        go_wp2
        go_loopw [15] (fun iv wq => iv = .int .i64 0 ∧ wq = wi.drewN nq) (fun _ _ => 0)
        case atStart => exact ⟨rfl, by first | rfl | exact World.drewN_drewN ..⟩
        case round =>
          obtain ⟨rfl, rfl⟩ := hrel
          go_wp2
          go_end0
          obtain ⟨z1, z2, z3, z4, z5, _⟩ := hzf.out nq
          exact ⟨rfl, us, .slice (some ⟨g, 0, none⟩) us.length c, z1, z2, z3, z4, z5, rfl⟩
      · have hc1 : ¬ mc = dn := hc0
        go_enter Try.func79, Try.ntmps79
        go_wp2_with fail
        go_quiet (fail)
        go_wp2
        go_loopw [15] (fun iv wq => iv = .int .i64 0 ∧ wq = wi.drewN nq) (fun _ _ => 0)
        case atStart => exact ⟨rfl, by first | rfl | exact World.drewN_drewN ..⟩
        case round =>
          obtain ⟨rfl, rfl⟩ := hrel
          go_wp2
          go_end0
          obtain ⟨z1, z2, z3, z4, z5, _⟩ := hzf.out nq
          exact ⟨rfl, us, .slice (some ⟨g, 0, none⟩) us.length c, z1, z2, z3, z4, z5, rfl⟩
end Go.Proofs.Ytdhcpoeopooejaa
