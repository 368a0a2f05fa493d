/- The run stack's push, with what it leaves as it was. -/
import Derived.Test.YtdhcpoeopooejaaRunF
import Derived.Test.YtdhcpoeopooejaaRunH
import Derived.Test.YtdhcpoeopooejaaSsw
namespace Go.Proofs.Ytdhcpoeopooejaa
open Go.RowKit
set_option linter.unusedVariables false
set_option linter.unusedSimpArgs false

/-- Rows of other elements than ints, and the blocks K, stay as they were, but for the stack's own. -/
def Kp (Z : World) (K : List Nat) (sb : Nat) (wr : World) : Prop := ∀ q, q < Z.heap.size → (q ∈ K ∨ ∃ cs e, Z.heap[q]? = some (.cells cs e (0, 0)) ∧ e ≠ 3) → q ≠ sb → wr.heap[q]? = Z.heap[q]?
theorem Kp.refl (Z : World) (K : List Nat) (sb : Nat) : Kp Z K sb Z := fun _ _ _ _ => rfl
theorem Kp.drewN {Z : World} {K : List Nat} {sb : Nat} {wr : World} (h : Kp Z K sb wr) (n : Nat) : Kp Z K sb (wr.drewN n) := h
theorem Kp.ex {Z : World} {K : List Nat} {sb g : Nat} {wr w1 : World} (h : Kp Z K sb wr) (hz : Z.heap.size ≤ wr.heap.size) (hg : ∃ cs, wr.heap[g]? = some (.cells cs 3 (0, 0))) (hk : ¬ g ∈ K) (hx : Ex [g] wr w1) : Kp Z K sb w1 := by
  intro q h0 h1 h3
  have h4 := h q h0 h1 h3
  obtain ⟨cs', h5⟩ := hg
  have hne : ¬ q = g := fun e9 => by
    subst e9
    rcases h1 with h1 | ⟨cs, e, h1, h2⟩
    · exact hk h1
    · rw [h5, h1] at h4
      simp only [Option.some.injEq, Obj.cells.injEq] at h4
      exact h2 h4.2.1.symm
  rw [← h4]
  exact hx.block q (by omega) (by simpa using hne)
theorem Kp.grown {Z : World} {K : List Nat} {sb B : Nat} {wr w1 : World} {v : Value} {xs : List Value} (h : Kp Z K sb wr) (hz : Z.heap.size ≤ wr.heap.size) (ho : Own wr 3 B v xs) (hk : ∀ b ∈ K, v.ownBlock ≠ some b) (hg : wr.grownBy w1 v.ownBlock) : Kp Z K sb w1 := by
  cases hv : v.ownBlock with
  | none =>
    intro q h0 h1 h3
    rw [← h q h0 h1 h3]
    exact hg.block q (by omega) (by rw [hv]; simp)
  | some g =>
    refine h.ex hz (ho.typed hv) (fun hm => hk g hm hv) ⟨hg.os, hg.tape, hg.output, hg.size, fun k hk hn => hg.block k hk (by rw [hv]; exact fun e => hn (by cases e; simp))⟩
theorem Kp.setSb {Z : World} {K : List Nat} {sb j : Nat} {wr : World} {v : Value} (h : Kp Z K sb wr) : Kp Z K sb (wr.setCell ⟨sb, j, none⟩ v) := fun q h0 h1 h3 =>
  (heap_setCell_other wr ⟨sb, j, none⟩ q v (by simpa using h3)).trans (h q h0 h1 h3)
structure RT (Z : World) (K : List Nat) (w0 : World) (sb : Nat) (sv mv : Value) (st mg : List Int) (most : Int) (wr : World) : Prop extends RS w0 sb sv mv st mg most wr where
  kp : Kp Z K sb wr
  ks : ∀ b ∈ K, sv.ownBlock ≠ some b
  km : ∀ b ∈ K, mv.ownBlock ≠ some b
  kz : ∀ b ∈ K, b < Z.heap.size
  zs : Z.heap.size ≤ wr.heap.size
theorem size_set {w : World} {p : Addr} {v : Value} : (w.setCell p v).heap.size = w.heap.size := by simp [World.setCell]
theorem RT.drewN {Z : World} {K : List Nat} {w0 : World} {sb : Nat} {sv mv : Value} {st mg : List Int} {most : Int} {wr : World} (h : RT Z K w0 sb sv mv st mg most wr) (n : Nat) : RT Z K w0 sb sv mv st mg most (wr.drewN n) := ⟨h.toRS.drewN n, h.kp.drewN n, h.ks, h.km, h.kz, h.zs⟩
theorem RT.from_ {Z : World} {K : List Nat} {w0 : World} {sb : Nat} {sv mv : Value} {st mg : List Int} {most : Int} {wr : World} (h : RT Z K w0 sb sv mv st mg most wr) (k : Nat) (J : Int) (hJ : J = k) (hk : 1 ≤ k) (hl : k ≤ st.length) (hm : st.length ≤ 1000) :
    Calls Try.prog 110 #[.pointer (some ⟨sb, 0, none⟩), .int .i64 J] wr fun e w' => e = .returned (.int .i64 (fromT st k)) ∧ RT Z K w0 sb sv mv st mg most w' := by
  subst hJ
  exact (from_any w0 sb k sv mv st mg most wr h.toRS hk hl hm).mono fun _ _ ⟨he, q, hq⟩ => ⟨he, hq ▸ h.drewN q⟩
theorem RT.merged {Z : World} {K : List Nat} {w0 : World} {sb : Nat} {sv mv mv' : Value} {st mg : List Int} {most x : Int} {wr w1 : World} (h : RT Z K w0 sb sv mv st mg most wr) (ho : Own w1 3 w0.heap.size mv' (ints mg ++ [.int .i64 x])) (hg : wr.grownBy w1 mv.ownBlock)
    (hat : mv'.ownBlock = mv.ownBlock ∨ mv'.ownBlock = some (wr.heap.size + 1)) : RT Z K w0 sb sv mv' st (mg ++ [x]) most (w1.setCell ⟨sb, 1, none⟩ mv') :=
  ⟨h.toRS.merged ho hg hat, (h.kp.grown h.zs h.mo h.km hg).setSb, h.ks, fun b hb => by
    have := h.kz b hb
    have := h.zs
    rcases hat with e | e
    · rw [e]; exact h.km b hb
    · rw [e]; simp; omega, h.kz, by rw [size_set]; exact Nat.le_trans h.zs hg.size⟩
theorem RT.setAt {Z : World} {K : List Nat} {w0 : World} {sb g n c : Nat} {mv : Value} {st mg : List Int} {most : Int} {wr : World} (h : RT Z K w0 sb (.slice (some ⟨g, 0, none⟩) n c) mv st mg most wr) (k : Nat) (hk : k < st.length) (x : Int) :
    RT Z K w0 sb (.slice (some ⟨g, 0, none⟩) n c) mv (st.set k x) mg most (wr.setCell ⟨g, k, none⟩ (.int .i64 x)) :=
  ⟨h.toRS.setAt k hk x, h.kp.ex h.zs (h.so.typed rfl) (fun hm => h.ks g hm rfl) (Ex.setIn (p := ⟨g, k, none⟩) (Ex.refl _ _) (by simp)), h.ks, h.km, h.kz, by rw [size_set]; exact h.zs⟩
theorem RT.shrunk {Z : World} {K : List Nat} {w0 : World} {sb g n c m : Nat} {mv : Value} {st st' mg : List Int} {most : Int} {wr w1 : World} (h : RT Z K w0 sb (.slice (some ⟨g, 0, none⟩) n c) mv st mg most wr) (ho : Own w1 3 w0.heap.size (.slice (some ⟨g, 0, none⟩) m c) (ints st')) (hx : Ex [g] wr w1) :
    RT Z K w0 sb (.slice (some ⟨g, 0, none⟩) m c) mv st' mg most (w1.setCell ⟨sb, 0, none⟩ (.slice (some ⟨g, 0, none⟩) m c)) :=
  ⟨h.toRS.shrunk ho hx, (h.kp.ex h.zs (h.so.typed rfl) (fun hm => h.ks g hm rfl) hx).setSb, h.ks, h.km, h.kz, by rw [size_set]; exact Nat.le_trans h.zs hx.size⟩
theorem RT.pushed {Z : World} {K : List Nat} {w0 : World} {sb : Nat} {sv mv sv' : Value} {st mg : List Int} {most x : Int} {wr w1 : World} (h : RT Z K w0 sb sv mv st mg most wr) (ho : Own w1 3 w0.heap.size sv' (ints st ++ [.int .i64 x])) (hg : wr.grownBy w1 sv.ownBlock)
    (hat : sv'.ownBlock = sv.ownBlock ∨ sv'.ownBlock = some (wr.heap.size + 1)) : RT Z K w0 sb sv' mv (st ++ [x]) mg most (w1.setCell ⟨sb, 0, none⟩ sv') :=
  ⟨h.toRS.pushed ho hg hat, (h.kp.grown h.zs h.so h.ks hg).setSb, fun b hb => by
    have := h.kz b hb
    have := h.zs
    rcases hat with e | e
    · rw [e]; exact h.ks b hb
    · rw [e]; simp; omega, h.km, h.kz, by rw [size_set]; exact Nat.le_trans h.zs hg.size⟩
theorem RT.setMost {Z : World} {K : List Nat} {w0 : World} {sb : Nat} {sv mv : Value} {st mg : List Int} {most x : Int} {wr : World} (h : RT Z K w0 sb sv mv st mg most wr) : RT Z K w0 sb sv mv st mg x (wr.setCell ⟨sb, 2, none⟩ (.int .i64 x)) := ⟨h.toRS.setMost, h.kp.setSb, h.ks, h.km, h.kz, by rw [size_set]; exact h.zs⟩
set_option maxRecDepth 10000 in
set_option maxHeartbeats 4000000 in
theorem mergeAtT_any (Z : World) (KK : List Nat) (w0 : World) (sb k : Nat) (K : Int) (hK : K = k) (sv mv : Value) (st mg : List Int) (most : Int) (wr : World) (h : RT Z KK w0 sb sv mv st mg most wr) (hk : k + 2 ≤ st.length) (hm : st.length ≤ 1000) (hmg : mg.length ≤ 1000) (hG : Gd 100000000 st) :
    Calls Try.prog 111 #[.pointer (some ⟨sb, 0, none⟩), .int .i64 K] wr fun e w' => e = .returned (.tuple #[]) ∧ ∃ sv' mv', RT Z KK w0 sb sv' mv' (mgAt st k) (mg ++ [(k : Int)]) most w' := by
  subst hK
  obtain ⟨g, c, rfl⟩ := h.so.shape0 (by omega)
  obtain ⟨_, c1, _, hfz⟩ := h.cells
  have f1 := hfz 1
  have hml : (ints mg).length ≤ 1000000000 := by rw [ints_length]; omega
  have hB : w0.heap.size ≤ wr.heap.size := h.bel.size
  have hmo := Lib.hid h.mo
  have hgk := hG.at_ (i := k) (by omega)
  have hgk1 := hG.at_ (i := k + 1) (by omega)
  generalize hn : st.length = n at *
  replace hn := Lib.hid hn
  replace h := Lib.hid h
  clear hfz
  go_enter Try.func111, Try.ntmps111
  go_wp2_with (at_builtin; refine append_one_at eltInt rfl _ _ rfl w0.heap.size _ _ rfl hmo.out rfl rfl hml hB ?_)
  intro mv' w1 ho hg hat
  have h2 := h.out.merged ho hg hat
  have c1' : w1.cell? ⟨sb, 1, none⟩ = some mv := by
    have := (h.out.row.grown hg (fun e => h.out.mn e.symm)).cell (i := 1) (by simp)
    simpa using this
  have f1' : w1.frozen? ⟨sb, 1, none⟩ = false := (h.out.row.grown hg (fun e => h.out.mn e.symm)).frozen 1
  obtain ⟨am, cm, rfl, _⟩ := ho.sl
  rw [List.length_append, ints_length, List.length_singleton] at *
  obtain ⟨W, hW⟩ : ∃ W, W = w1.setCell ⟨sb, 1, none⟩ (.slice am (mg.length + 1) cm) := ⟨_, rfl⟩
  rw [← hW] at h2
  obtain ⟨d0, _, _, dz⟩ := h2.cells
  obtain ⟨hl9, hR, hb9, hs9⟩ := h2.so.cellsOf
  clear hl9 hb9 hs9
  have e1 := hR.cellInt (i := k) (by have := hn.out; omega)
  have e2 := hR.cellInt (i := k + 1) (by have := hn.out; omega)
  rw [Nat.zero_add] at e1 e2
  have fg := hR.frozen k
  have fz := dz 0
  have hgs : ¬ g = sb := fun e => h2.sn (by rw [e]; rfl)
  have hgs2 : ¬ sb = g := fun e => hgs e.symm
  obtain ⟨m, rfl⟩ : ∃ m, n = m + 1 := ⟨n - 1, by omega⟩
  have hdl := mgAt_del st k (m + 1) hn.out hk
  generalize hx : gi st k = x at *
  generalize hy : gi st (k + 1) = y at *
  have h3 := (h2.setAt k (by rw [hn.out]; omega) (x + y)).drewN 1
  have hdc := deleteOwn_any (k := k + 1) h3.so (by omega)
  have q1 : ((k + 1 : Nat) : Int) = (k : Int) + 1 := by omega
  have q2 : ((k + 1 + 1 : Nat) : Int) = (k : Int) + 2 := by omega
  rw [q2, q1, hdl] at hdc
  obtain ⟨W2, hW2⟩ : ∃ W2, W2 = (W.setCell ⟨g, k, none⟩ (.int .i64 (x + y))).drew := ⟨_, rfl⟩
  have h3' : RT Z KK w0 sb (.slice (some ⟨g, 0, none⟩) (m + 1) c) (.slice am (mg.length + 1) cm) (st.set k (x + y)) (mg ++ [(k : Int)]) most W2 := by rw [hW2]; exact h3
  have hdc' : Calls Try.prog 126 #[.slice (some ⟨g, 0, none⟩) (m + 1) c, .int .i64 ((k : Int) + 1), .int .i64 ((k : Int) + 2)] W2 fun e w' => e = .returned (.slice (some ⟨g, 0, none⟩) m c) ∧ Own w' 3 w0.heap.size (.slice (some ⟨g, 0, none⟩) m c) (ints (mgAt st k)) ∧ Ex [g] W2 w' := by rw [hW2]; exact hdc
  have s0 := h3'.cells.1
  have sz := h3'.cells.2.2.2 0
  have hWd := Lib.hid hW
  have hW2d := Lib.hid hW2
  have i1 : IntKind.i64.wrap ((k : Int) + 1) = (k : Int) + 1 := IntWalk.i64_in _ (by omega)
  have i2 : IntKind.i64.wrap (x + y) = x + y := IntWalk.i64_in _ (by omega)
  have i3 : ((k : Int) + 1).toNat = k + 1 := by omega
  have i4 : (k : Int) + 1 < ((m : Int) + 1) := by omega
  have i5 : (0 : Int) ≤ (k : Int) + 1 := by omega
  have i6 : (k : Int) < ((m : Int) + 1) := by omega
  replace hx := Lib.hid hx
  replace hy := Lib.hid hy
  replace h2 := Lib.hid h2
  replace h3' := Lib.hid h3'
  replace hdc' := Lib.hid hdc'
  replace hdl := Lib.hid hdl
  clear h3 hdc hR ho hg hat dz hW hW2 q1 q2 hmo
  go_wp2
  rw [← hWd.out]
  go_region
  rw [← hW2d.out]
  clear i1 i2 i3 i4 i5 i6 e1 e2
  go_wp2_with fail
  refine hdc'.out.mono ?_
  rintro e w5 ⟨rfl, ho5, hx5⟩
  have h5 := h3'.out.shrunk ho5 hx5
  have hg5 : W2.grownBy w5 (some g) := ⟨hx5.os, hx5.tape, hx5.output, hx5.size, fun k hk hn => hx5.block k hk (by simp; rintro rfl; exact hn rfl)⟩
  have s5 : w5.cell? ⟨sb, 0, none⟩ = some (.slice (some ⟨g, 0, none⟩) (m + 1) c) := by
    have := (h3'.out.row.grown hg5 (by simpa using hgs2)).cell (i := 0) (by simp)
    simpa using this
  have z5 : w5.frozen? ⟨sb, 0, none⟩ = false := (h3'.out.row.grown hg5 (by simpa using hgs2)).frozen 0
  replace h5 := Lib.hid h5
  clear ho5 hx5 hg5 s0 sz
  go_wp2
  go_end0
  exact ⟨rfl, _, _, h5.out⟩
set_option maxRecDepth 10000 in
set_option maxHeartbeats 8000000 in
theorem pushT_any (Z : World) (KK : List Nat) (w0 : World) (sb m : Nat) (sv mv : Value) (st mg : List Int) (most : Nat) (x : Int) (wr : World) (h : RT Z KK w0 sb sv mv st mg (most : Nat) wr) (hl : st.length + mg.length ≤ 100) (hmost : most ≤ 1000) (hG : Gd 100000000 (st ++ [x])) (hm : st.length + 1 = m) :
    Calls Try.prog 82 #[.pointer (some ⟨sb, 0, none⟩), .int .i64 x] wr fun e w' => e = .returned (.tuple #[]) ∧ ∃ sv' mv', RT Z KK w0 sb sv' mv' (settle false m (st ++ [x]) mg).1 (settle false m (st ++ [x]) mg).2 ((max most m : Nat) : Int) w' := by
  obtain ⟨c0, _, c2, hfz⟩ := h.cells
  have f0 := hfz 0
  have hsl : (ints st).length ≤ 1000000000 := by rw [ints_length]; omega
  have hB : w0.heap.size ≤ wr.heap.size := h.bel.size
  have hso := Lib.hid h.so
  generalize hRR : settle false m (st ++ [x]) mg = R at *
  obtain ⟨M, hM⟩ : ∃ M : Int, M = ((max most m : Nat) : Int) := ⟨_, rfl⟩
  rw [← hM]
  replace h := Lib.hid h
  replace hRR := Lib.hid hRR
  replace hG := Lib.hid hG
  clear hfz
  go_enter Try.func82, Try.ntmps82
  go_wp2_with (at_builtin; refine append_one_at eltInt rfl _ _ rfl w0.heap.size _ _ rfl hso.out rfl rfl hsl hB ?_)
  intro sv' w1 ho hg hat
  have h2 := h.out.pushed ho hg hat
  have hrow1 := h.out.row.grown hg (fun e => h.out.sn e.symm)
  have c0' : w1.cell? ⟨sb, 0, none⟩ = some sv := by
    have := hrow1.cell (i := 0) (by simp)
    simpa using this
  have f0' : w1.frozen? ⟨sb, 0, none⟩ = false := hrow1.frozen 0
  obtain ⟨ah, ch, rfl, _⟩ := ho.sl
  have hm9 := Lib.hid (show st.length = m - 1 ∧ 1 ≤ m by omega)
  rw [List.length_append, ints_length, List.length_singleton, hm] at *
  obtain ⟨W, hW⟩ : ∃ W, W = w1.setCell ⟨sb, 0, none⟩ (.slice ah m ch) := ⟨_, rfl⟩
  rw [← hW] at h2
  obtain ⟨d0, _, d2, dz⟩ := h2.cells
  have z2 := dz 2
  replace hW := Lib.hid hW
  clear ho hg hat hrow1 dz c0 c2 f0 hso
  have main : ∀ W', RT Z KK w0 sb (.slice ah m ch) mv (st ++ [x]) mg M W' → Hid (RT Z KK w0 sb (.slice ah m ch) mv (st ++ [x]) mg M W') := fun _ h => Lib.hid h
  go_upto_region 1 with (fail)
  go_cut [] from 5 (fun wq => RT Z KK w0 sb (.slice ah m ch) mv (st ++ [x]) mg M wq)
  case first =>
    rw [← hW.out]
    have hS : Hid (RT Z KK w0 sb (.slice ah m ch) mv (st ++ [x]) mg M ((W.setCell ⟨sb, 2, none⟩ (.int .i64 (max (most : Int) (m : Int)))).drew)) := Lib.hid (by
      have : M = max (most : Int) (m : Int) := by rw [hM]; omega
      rw [this]; exact (h2.setMost).drewN 1)
    clear h2 main
    go_region
    go_wp2_with fail
    go_meet
    case rel => exact hS.out
  case rest =>
    have hS := Lib.hid hcut
    clear hcut h2 d0 d2 z2 main
    replace hM := Lib.hid hM
    go_wp2
    go_loopg [] m (fun g wq => ∃ (sv mv : Value) (st' mg' : List Int), RT Z KK w0 sb sv mv st' mg' M wq ∧ Hid (settle false g st' mg' = R) ∧ st'.length ≤ g ∧ g ≤ 101 ∧ st'.length + mg'.length ≤ 101 ∧ Hid (Gd 100000000 st'))
    case atStart => exact ⟨_, _, _, _, hS.out, hRR, by have := hm9.out; simp; omega, by have := hm9.out; omega, by have := hm9.out; simp; omega, hG⟩
    case round =>
      clear hS
      obtain ⟨sv, mv, st', mg', hS, hR, b1, b2, b3, hGd⟩ := hrel
      obtain ⟨a9, c9, rfl, q1, q2, q3, _⟩ := hS.so.sl.openInts
      have d0 := hS.cells.1
      generalize hn : st'.length = n at *
      replace hn := Lib.hid hn
      replace hS := Lib.hid hS
      clear q1 q2 q3
      by_cases hn2 : 2 ≤ n
      · obtain ⟨g, rfl⟩ : ∃ z, gk = z + 1 := ⟨gk - 1, by omega⟩
        obtain ⟨p2, hp2⟩ : ∃ p, p + 2 = n := ⟨n - 2, by omega⟩
        have i2 : (n : Int) - 2 = (p2 : Int) := by omega
        have g1 := hGd.out.from_ (k := 1) (by omega) (by rw [hn.out]; omega)
        have g2 := hGd.out.from_ (k := 2) (by omega) (by rw [hn.out]; omega)
        obtain ⟨z1, hz1⟩ : ∃ z, fromT st' 1 = z := ⟨_, rfl⟩
        obtain ⟨z2, hz2⟩ : ∃ z, fromT st' 2 = z := ⟨_, rfl⟩
        obtain ⟨z3, hz3⟩ : ∃ z, fromT st' 3 = z := ⟨_, rfl⟩
        obtain ⟨z4, hz4⟩ : ∃ z, fromT st' 4 = z := ⟨_, rfl⟩
        rw [hz1] at g1
        rw [hz2] at g2
        replace hz1 := Lib.hid hz1
        replace hz2 := Lib.hid hz2
        replace hz4 := Lib.hid hz4
        replace hp2 := Lib.hid hp2
        have k2 : (2 : Int) ≤ (n : Int) := by omega
        by_cases hn3 : 3 ≤ n
        · obtain ⟨p3, hp3⟩ : ∃ p, p + 3 = n := ⟨n - 3, by omega⟩
          have i3 : (n : Int) - 3 = (p3 : Int) := by omega
          have g3 := hGd.out.from_ (k := 3) (by omega) (by rw [hn.out]; omega)
          rw [hz3] at g3
          replace hz3 := Lib.hid hz3
          replace hp3 := Lib.hid hp3
          have k3 : (3 : Int) ≤ (n : Int) := by omega
          by_cases hA : z3 ≤ z1 + z2
          · by_cases ht : z3 < z1
            · have hnx : Hid (nextF st' false = (p3 : Int)) := Lib.hid (by rw [nextF_no hn.out hn2 hz1.out hz2.out hz3.out hz4.out, if_pos (.inl ⟨hn3, hA⟩), if_pos ht, i3])
              go_wp2_with fail
              refine (hS.out.from_ 3 _ rfl (by omega) (by rw [hn.out]; omega) (by rw [hn.out]; omega)).mono ?_
              rintro e w3 ⟨rfl, hS'⟩
              rw [hz3.out]
              replace hS := Lib.hid hS'
              clear hS'
              go_wp2_with fail
              refine (hS.out.from_ 1 _ rfl (by omega) (by rw [hn.out]; omega) (by rw [hn.out]; omega)).mono ?_
              rintro e w1 ⟨rfl, hS'⟩
              rw [hz1.out]
              replace hS := Lib.hid hS'
              clear hS'
              go_wp2_with fail
              refine (hS.out.from_ 2 _ rfl (by omega) (by rw [hn.out]; omega) (by rw [hn.out]; omega)).mono ?_
              rintro e w2 ⟨rfl, hS'⟩
              rw [hz2.out]
              replace hS := Lib.hid hS'
              clear hS'
              go_wp2_with fail
              refine (hS.out.from_ 3 _ rfl (by omega) (by rw [hn.out]; omega) (by rw [hn.out]; omega)).mono ?_
              rintro e w3 ⟨rfl, hS'⟩
              rw [hz3.out]
              replace hS := Lib.hid hS'
              clear hS'
              go_wp2_with fail
              refine (hS.out.from_ 1 _ rfl (by omega) (by rw [hn.out]; omega) (by rw [hn.out]; omega)).mono ?_
              rintro e w1 ⟨rfl, hS'⟩
              rw [hz1.out]
              replace hS := Lib.hid hS'
              clear hS'
              go_wp2_with fail
              refine (mergeAtT_any Z KK w0 sb p3 _ (by first | rfl | omega) _ _ st' mg' M _ hS.out (by rw [hn.out]; omega) (by rw [hn.out]; omega) (by omega) hGd.out).mono ?_
              rintro e w9 ⟨rfl, sv9, mv9, hS9⟩
              replace hS9 := Lib.hid hS9
              have hst := settle_next (e := false) (m := g) (st := st') (out := mg') (by rw [hnx.out]; omega)
              rw [hnx.out, Int.toNat_natCast, hR.out] at hst
              have hml := mgAt_length (st := st') (k := p3) (by rw [hn.out]; omega)
              have hg9 := hGd.out.mg (k := p3) (by rw [hn.out]; omega)
              have hln := hn.out
              replace hst := Lib.hid hst
              replace hg9 := Lib.hid hg9
              clear hS
              go_wp2
              go_roundg g
              case measure => omega
              case rel => exact ⟨_, _, _, _, hS9.out, Lib.hid hst.out.symm, by omega, by omega, by simp; omega, hg9⟩
            · have hnx : Hid (nextF st' false = (p2 : Int)) := Lib.hid (by rw [nextF_no hn.out hn2 hz1.out hz2.out hz3.out hz4.out, if_pos (.inl ⟨hn3, hA⟩), if_neg ht, i2])
              go_wp2_with fail
              refine (hS.out.from_ 3 _ rfl (by omega) (by rw [hn.out]; omega) (by rw [hn.out]; omega)).mono ?_
              rintro e w3 ⟨rfl, hS'⟩
              rw [hz3.out]
              replace hS := Lib.hid hS'
              clear hS'
              go_wp2_with fail
              refine (hS.out.from_ 1 _ rfl (by omega) (by rw [hn.out]; omega) (by rw [hn.out]; omega)).mono ?_
              rintro e w1 ⟨rfl, hS'⟩
              rw [hz1.out]
              replace hS := Lib.hid hS'
              clear hS'
              go_wp2_with fail
              refine (hS.out.from_ 2 _ rfl (by omega) (by rw [hn.out]; omega) (by rw [hn.out]; omega)).mono ?_
              rintro e w2 ⟨rfl, hS'⟩
              rw [hz2.out]
              replace hS := Lib.hid hS'
              clear hS'
              go_wp2_with fail
              refine (hS.out.from_ 3 _ rfl (by omega) (by rw [hn.out]; omega) (by rw [hn.out]; omega)).mono ?_
              rintro e w3 ⟨rfl, hS'⟩
              rw [hz3.out]
              replace hS := Lib.hid hS'
              clear hS'
              go_wp2_with fail
              refine (hS.out.from_ 1 _ rfl (by omega) (by rw [hn.out]; omega) (by rw [hn.out]; omega)).mono ?_
              rintro e w1 ⟨rfl, hS'⟩
              rw [hz1.out]
              replace hS := Lib.hid hS'
              clear hS'
              go_wp2_with fail
              refine (mergeAtT_any Z KK w0 sb p2 _ (by first | rfl | omega) _ _ st' mg' M _ hS.out (by rw [hn.out]; omega) (by rw [hn.out]; omega) (by omega) hGd.out).mono ?_
              rintro e w9 ⟨rfl, sv9, mv9, hS9⟩
              replace hS9 := Lib.hid hS9
              have hst := settle_next (e := false) (m := g) (st := st') (out := mg') (by rw [hnx.out]; omega)
              rw [hnx.out, Int.toNat_natCast, hR.out] at hst
              have hml := mgAt_length (st := st') (k := p2) (by rw [hn.out]; omega)
              have hg9 := hGd.out.mg (k := p2) (by rw [hn.out]; omega)
              have hln := hn.out
              replace hst := Lib.hid hst
              replace hg9 := Lib.hid hg9
              clear hS
              go_wp2
              go_roundg g
              case measure => omega
              case rel => exact ⟨_, _, _, _, hS9.out, Lib.hid hst.out.symm, by omega, by omega, by simp; omega, hg9⟩
          · by_cases hn4 : 4 ≤ n
            · have g4 := hGd.out.from_ (k := 4) (by omega) (by rw [hn.out]; omega)
              rw [hz4.out] at g4
              have k4 : (4 : Int) ≤ (n : Int) := by omega
              by_cases hBB : z4 ≤ z3 + z2
              · by_cases ht : z3 < z1
                · exfalso; omega
                · have hnx : Hid (nextF st' false = (p2 : Int)) := Lib.hid (by rw [nextF_no hn.out hn2 hz1.out hz2.out hz3.out hz4.out, if_pos (.inr ⟨hn4, hBB⟩), if_neg ht, i2])
                  go_wp2_with fail
                  refine (hS.out.from_ 3 _ rfl (by omega) (by rw [hn.out]; omega) (by rw [hn.out]; omega)).mono ?_
                  rintro e w3 ⟨rfl, hS'⟩
                  rw [hz3.out]
                  replace hS := Lib.hid hS'
                  clear hS'
                  go_wp2_with fail
                  refine (hS.out.from_ 1 _ rfl (by omega) (by rw [hn.out]; omega) (by rw [hn.out]; omega)).mono ?_
                  rintro e w1 ⟨rfl, hS'⟩
                  rw [hz1.out]
                  replace hS := Lib.hid hS'
                  clear hS'
                  go_wp2_with fail
                  refine (hS.out.from_ 2 _ rfl (by omega) (by rw [hn.out]; omega) (by rw [hn.out]; omega)).mono ?_
                  rintro e w2 ⟨rfl, hS'⟩
                  rw [hz2.out]
                  replace hS := Lib.hid hS'
                  clear hS'
                  go_wp2_with fail
                  refine (hS.out.from_ 4 _ rfl (by omega) (by rw [hn.out]; omega) (by rw [hn.out]; omega)).mono ?_
                  rintro e w4 ⟨rfl, hS'⟩
                  rw [hz4.out]
                  replace hS := Lib.hid hS'
                  clear hS'
                  go_wp2_with fail
                  refine (hS.out.from_ 3 _ rfl (by omega) (by rw [hn.out]; omega) (by rw [hn.out]; omega)).mono ?_
                  rintro e w3 ⟨rfl, hS'⟩
                  rw [hz3.out]
                  replace hS := Lib.hid hS'
                  clear hS'
                  go_wp2_with fail
                  refine (hS.out.from_ 2 _ rfl (by omega) (by rw [hn.out]; omega) (by rw [hn.out]; omega)).mono ?_
                  rintro e w2 ⟨rfl, hS'⟩
                  rw [hz2.out]
                  replace hS := Lib.hid hS'
                  clear hS'
                  go_wp2_with fail
                  refine (hS.out.from_ 3 _ rfl (by omega) (by rw [hn.out]; omega) (by rw [hn.out]; omega)).mono ?_
                  rintro e w3 ⟨rfl, hS'⟩
                  rw [hz3.out]
                  replace hS := Lib.hid hS'
                  clear hS'
                  go_wp2_with fail
                  refine (hS.out.from_ 1 _ rfl (by omega) (by rw [hn.out]; omega) (by rw [hn.out]; omega)).mono ?_
                  rintro e w1 ⟨rfl, hS'⟩
                  rw [hz1.out]
                  replace hS := Lib.hid hS'
                  clear hS'
                  go_wp2_with fail
                  refine (mergeAtT_any Z KK w0 sb p2 _ (by first | rfl | omega) _ _ st' mg' M _ hS.out (by rw [hn.out]; omega) (by rw [hn.out]; omega) (by omega) hGd.out).mono ?_
                  rintro e w9 ⟨rfl, sv9, mv9, hS9⟩
                  replace hS9 := Lib.hid hS9
                  have hst := settle_next (e := false) (m := g) (st := st') (out := mg') (by rw [hnx.out]; omega)
                  rw [hnx.out, Int.toNat_natCast, hR.out] at hst
                  have hml := mgAt_length (st := st') (k := p2) (by rw [hn.out]; omega)
                  have hg9 := hGd.out.mg (k := p2) (by rw [hn.out]; omega)
                  have hln := hn.out
                  replace hst := Lib.hid hst
                  replace hg9 := Lib.hid hg9
                  clear hS
                  go_wp2
                  go_roundg g
                  case measure => omega
                  case rel => exact ⟨_, _, _, _, hS9.out, Lib.hid hst.out.symm, by omega, by omega, by simp; omega, hg9⟩
              · by_cases ht : z2 ≤ z1
                · have hnx : Hid (nextF st' false = (p2 : Int)) := Lib.hid (by rw [nextF_no hn.out hn2 hz1.out hz2.out hz3.out hz4.out, if_neg (by omega), if_pos ht, i2])
                  go_wp2_with fail
                  refine (hS.out.from_ 3 _ rfl (by omega) (by rw [hn.out]; omega) (by rw [hn.out]; omega)).mono ?_
                  rintro e w3 ⟨rfl, hS'⟩
                  rw [hz3.out]
                  replace hS := Lib.hid hS'
                  clear hS'
                  go_wp2_with fail
                  refine (hS.out.from_ 1 _ rfl (by omega) (by rw [hn.out]; omega) (by rw [hn.out]; omega)).mono ?_
                  rintro e w1 ⟨rfl, hS'⟩
                  rw [hz1.out]
                  replace hS := Lib.hid hS'
                  clear hS'
                  go_wp2_with fail
                  refine (hS.out.from_ 2 _ rfl (by omega) (by rw [hn.out]; omega) (by rw [hn.out]; omega)).mono ?_
                  rintro e w2 ⟨rfl, hS'⟩
                  rw [hz2.out]
                  replace hS := Lib.hid hS'
                  clear hS'
                  go_wp2_with fail
                  refine (hS.out.from_ 4 _ rfl (by omega) (by rw [hn.out]; omega) (by rw [hn.out]; omega)).mono ?_
                  rintro e w4 ⟨rfl, hS'⟩
                  rw [hz4.out]
                  replace hS := Lib.hid hS'
                  clear hS'
                  go_wp2_with fail
                  refine (hS.out.from_ 3 _ rfl (by omega) (by rw [hn.out]; omega) (by rw [hn.out]; omega)).mono ?_
                  rintro e w3 ⟨rfl, hS'⟩
                  rw [hz3.out]
                  replace hS := Lib.hid hS'
                  clear hS'
                  go_wp2_with fail
                  refine (hS.out.from_ 2 _ rfl (by omega) (by rw [hn.out]; omega) (by rw [hn.out]; omega)).mono ?_
                  rintro e w2 ⟨rfl, hS'⟩
                  rw [hz2.out]
                  replace hS := Lib.hid hS'
                  clear hS'
                  go_wp2_with fail
                  refine (hS.out.from_ 2 _ rfl (by omega) (by rw [hn.out]; omega) (by rw [hn.out]; omega)).mono ?_
                  rintro e w2 ⟨rfl, hS'⟩
                  rw [hz2.out]
                  replace hS := Lib.hid hS'
                  clear hS'
                  go_wp2_with fail
                  refine (hS.out.from_ 1 _ rfl (by omega) (by rw [hn.out]; omega) (by rw [hn.out]; omega)).mono ?_
                  rintro e w1 ⟨rfl, hS'⟩
                  rw [hz1.out]
                  replace hS := Lib.hid hS'
                  clear hS'
                  go_wp2_with fail
                  refine (mergeAtT_any Z KK w0 sb p2 _ (by first | rfl | omega) _ _ st' mg' M _ hS.out (by rw [hn.out]; omega) (by rw [hn.out]; omega) (by omega) hGd.out).mono ?_
                  rintro e w9 ⟨rfl, sv9, mv9, hS9⟩
                  replace hS9 := Lib.hid hS9
                  have hst := settle_next (e := false) (m := g) (st := st') (out := mg') (by rw [hnx.out]; omega)
                  rw [hnx.out, Int.toNat_natCast, hR.out] at hst
                  have hml := mgAt_length (st := st') (k := p2) (by rw [hn.out]; omega)
                  have hg9 := hGd.out.mg (k := p2) (by rw [hn.out]; omega)
                  have hln := hn.out
                  replace hst := Lib.hid hst
                  replace hg9 := Lib.hid hg9
                  clear hS
                  go_wp2
                  go_roundg g
                  case measure => omega
                  case rel => exact ⟨_, _, _, _, hS9.out, Lib.hid hst.out.symm, by omega, by omega, by simp; omega, hg9⟩
                · have hnx : Hid (nextF st' false = -1) := Lib.hid (by rw [nextF_no hn.out hn2 hz1.out hz2.out hz3.out hz4.out, if_neg (by omega), if_neg ht])
                  have hst := settle_stop (e := false) (m := g + 1) (st := st') (out := mg') (by rw [hnx.out]; omega)
                  rw [hR.out] at hst
                  replace hst := Lib.hid hst
                  go_wp2_with fail
                  refine (hS.out.from_ 3 _ rfl (by omega) (by rw [hn.out]; omega) (by rw [hn.out]; omega)).mono ?_
                  rintro e w3 ⟨rfl, hS'⟩
                  rw [hz3.out]
                  replace hS := Lib.hid hS'
                  clear hS'
                  go_wp2_with fail
                  refine (hS.out.from_ 1 _ rfl (by omega) (by rw [hn.out]; omega) (by rw [hn.out]; omega)).mono ?_
                  rintro e w1 ⟨rfl, hS'⟩
                  rw [hz1.out]
                  replace hS := Lib.hid hS'
                  clear hS'
                  go_wp2_with fail
                  refine (hS.out.from_ 2 _ rfl (by omega) (by rw [hn.out]; omega) (by rw [hn.out]; omega)).mono ?_
                  rintro e w2 ⟨rfl, hS'⟩
                  rw [hz2.out]
                  replace hS := Lib.hid hS'
                  clear hS'
                  go_wp2_with fail
                  refine (hS.out.from_ 4 _ rfl (by omega) (by rw [hn.out]; omega) (by rw [hn.out]; omega)).mono ?_
                  rintro e w4 ⟨rfl, hS'⟩
                  rw [hz4.out]
                  replace hS := Lib.hid hS'
                  clear hS'
                  go_wp2_with fail
                  refine (hS.out.from_ 3 _ rfl (by omega) (by rw [hn.out]; omega) (by rw [hn.out]; omega)).mono ?_
                  rintro e w3 ⟨rfl, hS'⟩
                  rw [hz3.out]
                  replace hS := Lib.hid hS'
                  clear hS'
                  go_wp2_with fail
                  refine (hS.out.from_ 2 _ rfl (by omega) (by rw [hn.out]; omega) (by rw [hn.out]; omega)).mono ?_
                  rintro e w2 ⟨rfl, hS'⟩
                  rw [hz2.out]
                  replace hS := Lib.hid hS'
                  clear hS'
                  go_wp2_with fail
                  refine (hS.out.from_ 2 _ rfl (by omega) (by rw [hn.out]; omega) (by rw [hn.out]; omega)).mono ?_
                  rintro e w2 ⟨rfl, hS'⟩
                  rw [hz2.out]
                  replace hS := Lib.hid hS'
                  clear hS'
                  go_wp2_with fail
                  refine (hS.out.from_ 1 _ rfl (by omega) (by rw [hn.out]; omega) (by rw [hn.out]; omega)).mono ?_
                  rintro e w1 ⟨rfl, hS'⟩
                  rw [hz1.out]
                  replace hS := Lib.hid hS'
                  clear hS'
                  go_wp2
                  (try simp only [Exit.inBlock, Exit.then])
                  refine bodyPost_ret (results_none rfl _ _ _) rfl ?_
                  exact ⟨rfl, _, _, by rw [hst.out]; exact hS.out⟩
            · have k4 : ¬ (4 : Int) ≤ (n : Int) := by omega
              by_cases ht : z2 ≤ z1
              · have hnx : Hid (nextF st' false = (p2 : Int)) := Lib.hid (by rw [nextF_no hn.out hn2 hz1.out hz2.out hz3.out hz4.out, if_neg (by omega), if_pos ht, i2])
                go_wp2_with fail
                refine (hS.out.from_ 3 _ rfl (by omega) (by rw [hn.out]; omega) (by rw [hn.out]; omega)).mono ?_
                rintro e w3 ⟨rfl, hS'⟩
                rw [hz3.out]
                replace hS := Lib.hid hS'
                clear hS'
                go_wp2_with fail
                refine (hS.out.from_ 1 _ rfl (by omega) (by rw [hn.out]; omega) (by rw [hn.out]; omega)).mono ?_
                rintro e w1 ⟨rfl, hS'⟩
                rw [hz1.out]
                replace hS := Lib.hid hS'
                clear hS'
                go_wp2_with fail
                refine (hS.out.from_ 2 _ rfl (by omega) (by rw [hn.out]; omega) (by rw [hn.out]; omega)).mono ?_
                rintro e w2 ⟨rfl, hS'⟩
                rw [hz2.out]
                replace hS := Lib.hid hS'
                clear hS'
                go_wp2_with fail
                refine (hS.out.from_ 2 _ rfl (by omega) (by rw [hn.out]; omega) (by rw [hn.out]; omega)).mono ?_
                rintro e w2 ⟨rfl, hS'⟩
                rw [hz2.out]
                replace hS := Lib.hid hS'
                clear hS'
                go_wp2_with fail
                refine (hS.out.from_ 1 _ rfl (by omega) (by rw [hn.out]; omega) (by rw [hn.out]; omega)).mono ?_
                rintro e w1 ⟨rfl, hS'⟩
                rw [hz1.out]
                replace hS := Lib.hid hS'
                clear hS'
                go_wp2_with fail
                refine (mergeAtT_any Z KK w0 sb p2 _ (by first | rfl | omega) _ _ st' mg' M _ hS.out (by rw [hn.out]; omega) (by rw [hn.out]; omega) (by omega) hGd.out).mono ?_
                rintro e w9 ⟨rfl, sv9, mv9, hS9⟩
                replace hS9 := Lib.hid hS9
                have hst := settle_next (e := false) (m := g) (st := st') (out := mg') (by rw [hnx.out]; omega)
                rw [hnx.out, Int.toNat_natCast, hR.out] at hst
                have hml := mgAt_length (st := st') (k := p2) (by rw [hn.out]; omega)
                have hg9 := hGd.out.mg (k := p2) (by rw [hn.out]; omega)
                have hln := hn.out
                replace hst := Lib.hid hst
                replace hg9 := Lib.hid hg9
                clear hS
                go_wp2
                go_roundg g
                case measure => omega
                case rel => exact ⟨_, _, _, _, hS9.out, Lib.hid hst.out.symm, by omega, by omega, by simp; omega, hg9⟩
              · have hnx : Hid (nextF st' false = -1) := Lib.hid (by rw [nextF_no hn.out hn2 hz1.out hz2.out hz3.out hz4.out, if_neg (by omega), if_neg ht])
                have hst := settle_stop (e := false) (m := g + 1) (st := st') (out := mg') (by rw [hnx.out]; omega)
                rw [hR.out] at hst
                replace hst := Lib.hid hst
                go_wp2_with fail
                refine (hS.out.from_ 3 _ rfl (by omega) (by rw [hn.out]; omega) (by rw [hn.out]; omega)).mono ?_
                rintro e w3 ⟨rfl, hS'⟩
                rw [hz3.out]
                replace hS := Lib.hid hS'
                clear hS'
                go_wp2_with fail
                refine (hS.out.from_ 1 _ rfl (by omega) (by rw [hn.out]; omega) (by rw [hn.out]; omega)).mono ?_
                rintro e w1 ⟨rfl, hS'⟩
                rw [hz1.out]
                replace hS := Lib.hid hS'
                clear hS'
                go_wp2_with fail
                refine (hS.out.from_ 2 _ rfl (by omega) (by rw [hn.out]; omega) (by rw [hn.out]; omega)).mono ?_
                rintro e w2 ⟨rfl, hS'⟩
                rw [hz2.out]
                replace hS := Lib.hid hS'
                clear hS'
                go_wp2_with fail
                refine (hS.out.from_ 2 _ rfl (by omega) (by rw [hn.out]; omega) (by rw [hn.out]; omega)).mono ?_
                rintro e w2 ⟨rfl, hS'⟩
                rw [hz2.out]
                replace hS := Lib.hid hS'
                clear hS'
                go_wp2_with fail
                refine (hS.out.from_ 1 _ rfl (by omega) (by rw [hn.out]; omega) (by rw [hn.out]; omega)).mono ?_
                rintro e w1 ⟨rfl, hS'⟩
                rw [hz1.out]
                replace hS := Lib.hid hS'
                clear hS'
                go_wp2
                (try simp only [Exit.inBlock, Exit.then])
                refine bodyPost_ret (results_none rfl _ _ _) rfl ?_
                exact ⟨rfl, _, _, by rw [hst.out]; exact hS.out⟩
        · have k3 : ¬ (3 : Int) ≤ (n : Int) := by omega
          have k4 : ¬ (4 : Int) ≤ (n : Int) := by omega
          replace hz3 := Lib.hid hz3
          by_cases ht : z2 ≤ z1
          · have hnx : Hid (nextF st' false = (p2 : Int)) := Lib.hid (by rw [nextF_no hn.out hn2 hz1.out hz2.out hz3.out hz4.out, if_neg (by omega), if_pos ht, i2])
            go_wp2_with fail
            refine (hS.out.from_ 2 _ rfl (by omega) (by rw [hn.out]; omega) (by rw [hn.out]; omega)).mono ?_
            rintro e w2 ⟨rfl, hS'⟩
            rw [hz2.out]
            replace hS := Lib.hid hS'
            clear hS'
            go_wp2_with fail
            refine (hS.out.from_ 1 _ rfl (by omega) (by rw [hn.out]; omega) (by rw [hn.out]; omega)).mono ?_
            rintro e w1 ⟨rfl, hS'⟩
            rw [hz1.out]
            replace hS := Lib.hid hS'
            clear hS'
            go_wp2_with fail
            refine (mergeAtT_any Z KK w0 sb p2 _ (by first | rfl | omega) _ _ st' mg' M _ hS.out (by rw [hn.out]; omega) (by rw [hn.out]; omega) (by omega) hGd.out).mono ?_
            rintro e w9 ⟨rfl, sv9, mv9, hS9⟩
            replace hS9 := Lib.hid hS9
            have hst := settle_next (e := false) (m := g) (st := st') (out := mg') (by rw [hnx.out]; omega)
            rw [hnx.out, Int.toNat_natCast, hR.out] at hst
            have hml := mgAt_length (st := st') (k := p2) (by rw [hn.out]; omega)
            have hg9 := hGd.out.mg (k := p2) (by rw [hn.out]; omega)
            have hln := hn.out
            replace hst := Lib.hid hst
            replace hg9 := Lib.hid hg9
            clear hS
            go_wp2
            go_roundg g
            case measure => omega
            case rel => exact ⟨_, _, _, _, hS9.out, Lib.hid hst.out.symm, by omega, by omega, by simp; omega, hg9⟩
          · have hnx : Hid (nextF st' false = -1) := Lib.hid (by rw [nextF_no hn.out hn2 hz1.out hz2.out hz3.out hz4.out, if_neg (by omega), if_neg ht])
            have hst := settle_stop (e := false) (m := g + 1) (st := st') (out := mg') (by rw [hnx.out]; omega)
            rw [hR.out] at hst
            replace hst := Lib.hid hst
            go_wp2_with fail
            refine (hS.out.from_ 2 _ rfl (by omega) (by rw [hn.out]; omega) (by rw [hn.out]; omega)).mono ?_
            rintro e w2 ⟨rfl, hS'⟩
            rw [hz2.out]
            replace hS := Lib.hid hS'
            clear hS'
            go_wp2_with fail
            refine (hS.out.from_ 1 _ rfl (by omega) (by rw [hn.out]; omega) (by rw [hn.out]; omega)).mono ?_
            rintro e w1 ⟨rfl, hS'⟩
            rw [hz1.out]
            replace hS := Lib.hid hS'
            clear hS'
            go_wp2
            (try simp only [Exit.inBlock, Exit.then])
            refine bodyPost_ret (results_none rfl _ _ _) rfl ?_
            exact ⟨rfl, _, _, by rw [hst.out]; exact hS.out⟩
      · have k2 : ¬ (2 : Int) ≤ (n : Int) := by omega
        have hst := settle_stop (e := false) (m := gk) (st := st') (out := mg') (nextF_small (by rw [hn.out]; omega))
        rw [hR.out] at hst
        replace hst := Lib.hid hst
        go_wp2
        go_end0
        exact ⟨rfl, _, _, by rw [hst.out]; exact hS.out⟩
end Go.Proofs.Ytdhcpoeopooejaa
