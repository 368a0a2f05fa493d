/- RunMerges, impl: mergeAt. -/
import Derived.Test.YtdhcpoeopooejaaRunD
namespace Go.Proofs.Ytdhcpoeopooejaa
open Go.RowKit
set_option linter.unusedVariables false
set_option linter.unusedSimpArgs false

theorem Own.shape0 {w : World} {e B : Nat} {v : Value} {xs : List Int} (h : Own w e B v (ints xs)) (hp : 0 < xs.length) : ∃ g c, v = .slice (some ⟨g, 0, none⟩) xs.length c := by
  obtain ⟨hl, hh⟩ := h
  rcases hh with ⟨_, h⟩ | ⟨g, cap, cur, hv, _⟩
  · rw [ints_length] at h; omega
  · rw [ints_length] at hv
    exact ⟨g, cap, hv⟩
theorem mgAt_del (st : List Int) (k n : Nat) (hn : st.length = n) (h : k + 2 ≤ n) : (st.set k (gi st k + gi st (k + 1))).take (k + 1) ++ (st.set k (gi st k + gi st (k + 1))).drop (k + 1 + 1) = mgAt st k := by
  unfold mgAt
  rw [List.take_set, List.drop_set_of_lt (by omega)]
  rw [List.take_succ_eq_append_getElem (by omega), List.set_append_right _ _ (by simp; omega)]
  simp [show min k st.length = k by omega]
theorem RS.from_ {w0 : World} {sb : Nat} {sv mv : Value} {st mg : List Int} {most : Int} {wr : World} (h : RS w0 sb sv mv st mg most wr) (k : Nat) (K : Int) (hK : K = k) (hk : 1 ≤ k) (hl : k ≤ st.length) (hm : st.length ≤ 1000) :
    Calls Try.prog 110 #[.pointer (some ⟨sb, 0, none⟩), .int .i64 K] wr fun e w' => e = .returned (.int .i64 (fromT st k)) ∧ RS w0 sb sv mv st mg most w' := by
  subst hK
  exact (from_any w0 sb k sv mv st mg most wr h hk hl hm).mono fun _ _ ⟨he, q, hq⟩ => ⟨he, hq ▸ h.drewN q⟩
theorem Below.setCellNew {B : Nat} {a w : World} (h : Below B a w) {b j : Nat} (hb : B ≤ b) {v : Value} : Below B a (w.setCell ⟨b, j, none⟩ v) :=
  ⟨h.os, h.tape, h.output, by simpa [World.setCell] using h.size, fun k hk => (heap_setCell_other w ⟨b, j, none⟩ k v (by simp; omega)).trans (h.block k hk)⟩
/-- The merges behind an append. -/
theorem RS.merged {w0 : World} {sb : Nat} {sv mv mv' : Value} {st mg : List Int} {most x : Int} {wr w1 : World} (h : RS w0 sb sv mv st mg most wr) (ho : Own w1 3 w0.heap.size mv' (ints mg ++ [.int .i64 x])) (hg : wr.grownBy w1 mv.ownBlock)
    (hat : mv'.ownBlock = mv.ownBlock ∨ mv'.ownBlock = some (wr.heap.size + 1)) : RS w0 sb sv mv' st (mg ++ [x]) most (w1.setCell ⟨sb, 1, none⟩ mv') := by
  have hsb := h.row.lt
  have hnb : mv'.ownBlock ≠ some sb := by
    rcases hat with e | e
    · rw [e]; exact h.mn
    · rw [e]; simp; omega
  have hr := (h.row.grown hg (fun e => h.mn e.symm)).set (i := 1) (by simp) mv'
  have hso := h.so.kept hg (by
    cases e : sv.ownBlock with
    | none => exact .inl rfl
    | some b => exact .inr (fun e2 => h.sm b e e2.symm))
  refine ⟨by simpa using hr, ?_, ?_, h.sn, hnb, ?_, h.sbl, Below.setCellNew (Below.appended h.bel h.mo hg h.bel.size) h.sbl⟩
  · exact hso.kept (grownBy.setIn (World.grownBy.refl w1 (some sb)) (p := ⟨sb, 1, none⟩) rfl) (.inr h.sn)
  · have := ho.kept (grownBy.setIn (World.grownBy.refl w1 (some sb)) (p := ⟨sb, 1, none⟩) (v := mv') rfl) (.inr hnb)
    simpa [ints] using this
  · intro b hb
    rcases hat with e | e
    · rw [e]; exact h.sm b hb
    · rw [e]
      have := (h.so.lt b hb).2
      simp; omega
/-- An entry of the stack turned. -/
theorem RS.setAt {w0 : World} {sb g n c : Nat} {mv : Value} {st mg : List Int} {most : Int} {wr : World} (h : RS w0 sb (.slice (some ⟨g, 0, none⟩) n c) mv st mg most wr) (k : Nat) (hk : k < st.length) (x : Int) :
    RS w0 sb (.slice (some ⟨g, 0, none⟩) n c) mv (st.set k x) mg most (wr.setCell ⟨g, k, none⟩ (.int .i64 x)) := by
  obtain ⟨hn, hR, hB, cs, hcs, hsz⟩ := h.so.cellsOf
  have hgs : sb ≠ g := fun e => h.sn (by rw [e]; rfl)
  have h1 := hR.setInt hk x
  rw [Nat.zero_add] at h1
  have h2 := Own.of_row (B := w0.heap.size) h1 ⟨_, heap_setCell_same wr g k cs 3 (.int .i64 x) hcs, by simpa using hsz⟩ hB
  have hn' : n = st.length := by rw [hn]; simp
  rw [ints_length, List.length_set, ← hn'] at h2
  refine ⟨h.row.setOther (by simpa using hgs) _, h2, ?_, h.sn, h.mn, h.sm, h.sbl, Below.setCellNew h.bel hB⟩
  exact h.mo.kept (grownBy.setIn (World.grownBy.refl wr (some g)) (p := ⟨g, k, none⟩) rfl) (.inr (h.sm g rfl))
/-- The stack shortened, and stored back. -/
theorem RS.shrunk {w0 : World} {sb g n c m : Nat} {mv : Value} {st st' mg : List Int} {most : Int} {wr w1 : World} (h : RS w0 sb (.slice (some ⟨g, 0, none⟩) n c) mv st mg most wr) (ho : Own w1 3 w0.heap.size (.slice (some ⟨g, 0, none⟩) m c) (ints st')) (hx : Ex [g] wr w1) :
    RS w0 sb (.slice (some ⟨g, 0, none⟩) m c) mv st' mg most (w1.setCell ⟨sb, 0, none⟩ (.slice (some ⟨g, 0, none⟩) m c)) := by
  have hg : wr.grownBy w1 (some g) := ⟨hx.os, hx.tape, hx.output, hx.size, fun k hk hn => hx.block k hk (by simp; rintro rfl; exact hn rfl)⟩
  have hgs : sb ≠ g := fun e => h.sn (by rw [e]; rfl)
  have hr := (h.row.grown hg (by simpa using hgs)).set (i := 0) (by simp) (.slice (some ⟨g, 0, none⟩) m c)
  have hB := (h.so.lt g rfl).1
  refine ⟨by simpa using hr, ?_, ?_, h.sn, h.mn, h.sm, h.sbl, Below.setCellNew (Below.ex h.bel hx (by intro b hb; simp at hb; omega)) h.sbl⟩
  · exact ho.kept (grownBy.setIn (World.grownBy.refl w1 (some sb)) (p := ⟨sb, 0, none⟩) rfl) (.inr h.sn)
  · exact (h.mo.kept hg (.inr (h.sm g rfl))).kept (grownBy.setIn (World.grownBy.refl w1 (some sb)) (p := ⟨sb, 0, none⟩) rfl) (.inr h.mn)
set_option maxRecDepth 10000 in
set_option maxHeartbeats 4000000 in
theorem mergeAt_any (w0 : World) (sb k : Nat) (K : Int) (hK : K = k) (sv mv : Value) (st mg : List Int) (most : Int) (wr : World) (h : RS w0 sb sv mv st mg most wr) (hk : k + 2 ≤ st.length) (hm : st.length ≤ 1000) (hmg : mg.length ≤ 1000) (hG : Gd 100000000 st) :
    Calls Try.prog 111 #[.pointer (some ⟨sb, 0, none⟩), .int .i64 K] wr fun e w' => e = .returned (.tuple #[]) ∧ ∃ sv' mv', RS w0 sb sv' mv' (mgAt st k) (mg ++ [(k : Int)]) most w' := by
  subst hK
  obtain ⟨g, c, rfl⟩ := h.so.shape0 (by omega)
  obtain ⟨_, c1, _, hfz⟩ := h.cells
  have f1 := hfz 1
  have hml : (ints mg).length ≤ 1000000000 := by rw [ints_length]; omega
  have hB : w0.heap.size ≤ wr.heap.size := h.bel.size
  have hmo := Lib.hid h.mo
  have hgk := hG.at_ (i := k) (by omega)
  have hgk1 := hG.at_ (i := k + 1) (by omega)
  generalize hn : st.length = n at *
  replace hn := Lib.hid hn
  replace h := Lib.hid h
  clear hfz
  go_enter Try.func111, Try.ntmps111
  go_wp2_with (at_builtin; refine append_one_at eltInt rfl _ _ rfl w0.heap.size _ _ rfl hmo.out rfl rfl hml hB ?_)
  intro mv' w1 ho hg hat
  have h2 := h.out.merged ho hg hat
  have c1' : w1.cell? ⟨sb, 1, none⟩ = some mv := by
    have := (h.out.row.grown hg (fun e => h.out.mn e.symm)).cell (i := 1) (by simp)
    simpa using this
  have f1' : w1.frozen? ⟨sb, 1, none⟩ = false := (h.out.row.grown hg (fun e => h.out.mn e.symm)).frozen 1
  obtain ⟨am, cm, rfl, _⟩ := ho.sl
  rw [List.length_append, ints_length, List.length_singleton] at *
  obtain ⟨W, hW⟩ : ∃ W, W = w1.setCell ⟨sb, 1, none⟩ (.slice am (mg.length + 1) cm) := ⟨_, rfl⟩
  rw [← hW] at h2
  obtain ⟨d0, _, _, dz⟩ := h2.cells
  obtain ⟨hl9, hR, hb9, hs9⟩ := h2.so.cellsOf
  clear hl9 hb9 hs9
  have e1 := hR.cellInt (i := k) (by have := hn.out; omega)
  have e2 := hR.cellInt (i := k + 1) (by have := hn.out; omega)
  rw [Nat.zero_add] at e1 e2
  have fg := hR.frozen k
  have fz := dz 0
  have hgs : ¬ g = sb := fun e => h2.sn (by rw [e]; rfl)
  have hgs2 : ¬ sb = g := fun e => hgs e.symm
  obtain ⟨m, rfl⟩ : ∃ m, n = m + 1 := ⟨n - 1, by omega⟩
  have hdl := mgAt_del st k (m + 1) hn.out hk
  generalize hx : gi st k = x at *
  generalize hy : gi st (k + 1) = y at *
  have h3 := (h2.setAt k (by rw [hn.out]; omega) (x + y)).drewN 1
  have hdc := deleteOwn_any (k := k + 1) h3.so (by omega)
  have q1 : ((k + 1 : Nat) : Int) = (k : Int) + 1 := by omega
  have q2 : ((k + 1 + 1 : Nat) : Int) = (k : Int) + 2 := by omega
  rw [q2, q1, hdl] at hdc
  obtain ⟨W2, hW2⟩ : ∃ W2, W2 = (W.setCell ⟨g, k, none⟩ (.int .i64 (x + y))).drew := ⟨_, rfl⟩
  have h3' : RS w0 sb (.slice (some ⟨g, 0, none⟩) (m + 1) c) (.slice am (mg.length + 1) cm) (st.set k (x + y)) (mg ++ [(k : Int)]) most W2 := by rw [hW2]; exact h3
  have hdc' : Calls Try.prog 126 #[.slice (some ⟨g, 0, none⟩) (m + 1) c, .int .i64 ((k : Int) + 1), .int .i64 ((k : Int) + 2)] W2 fun e w' => e = .returned (.slice (some ⟨g, 0, none⟩) m c) ∧ Own w' 3 w0.heap.size (.slice (some ⟨g, 0, none⟩) m c) (ints (mgAt st k)) ∧ Ex [g] W2 w' := by rw [hW2]; exact hdc
  have s0 := h3'.cells.1
  have sz := h3'.cells.2.2.2 0
  have hWd := Lib.hid hW
  have hW2d := Lib.hid hW2
  have i1 : IntKind.i64.wrap ((k : Int) + 1) = (k : Int) + 1 := IntWalk.i64_in _ (by omega)
  have i2 : IntKind.i64.wrap (x + y) = x + y := IntWalk.i64_in _ (by omega)
  have i3 : ((k : Int) + 1).toNat = k + 1 := by omega
  have i4 : (k : Int) + 1 < ((m : Int) + 1) := by omega
  have i5 : (0 : Int) ≤ (k : Int) + 1 := by omega
  have i6 : (k : Int) < ((m : Int) + 1) := by omega
  replace hx := Lib.hid hx
  replace hy := Lib.hid hy
  replace h2 := Lib.hid h2
  replace h3' := Lib.hid h3'
  replace hdc' := Lib.hid hdc'
  replace hdl := Lib.hid hdl
  clear h3 hdc hR ho hg hat dz hW hW2 q1 q2 hmo
  go_wp2
  rw [← hWd.out]
  go_region
  rw [← hW2d.out]
  clear i1 i2 i3 i4 i5 i6 e1 e2
  go_wp2_with fail
  refine hdc'.out.mono ?_
  rintro e w5 ⟨rfl, ho5, hx5⟩
  have h5 := h3'.out.shrunk ho5 hx5
  have hg5 : W2.grownBy w5 (some g) := ⟨hx5.os, hx5.tape, hx5.output, hx5.size, fun k hk hn => hx5.block k hk (by simp; rintro rfl; exact hn rfl)⟩
  have s5 : w5.cell? ⟨sb, 0, none⟩ = some (.slice (some ⟨g, 0, none⟩) (m + 1) c) := by
    have := (h3'.out.row.grown hg5 (by simpa using hgs2)).cell (i := 0) (by simp)
    simpa using this
  have z5 : w5.frozen? ⟨sb, 0, none⟩ = false := (h3'.out.row.grown hg5 (by simpa using hgs2)).frozen 0
  replace h5 := Lib.hid h5
  clear ho5 hx5 hg5 s0 sz
  go_wp2
  go_end0
  exact ⟨rfl, _, _, h5.out⟩
end Go.Proofs.Ytdhcpoeopooejaa
