/- Rows of strings under way: each row's fields in an owned slice; rows sorted in place. SortRows, impl: the parts: copyOf at strings, all at rows, the comparison. SortRows, impl: the whole. -/
import Derived.Test.YtoeonplbgbgjmaaDoorMg9
import Derived.Test.YtoeonplbgbgjmaaDoorRowS
import Derived.Test.YtoeonplbgbgjmaaDoorMg11
import Derived.Test.YtoeonplbgbgjmaaDoorMg10
namespace Go.Proofs.YtoeonplbgbgjmaaDoor
open Go.RowKit
set_option linter.unusedVariables false
set_option linter.unusedSimpArgs false

structure SWR (B : Nat) (out : List (List ByteArray)) (us : List Value) (o : Value) (wr : World) : Prop where
  own : Own wr 40 B o us
  nn : ∃ b c, o = .slice (some ⟨b, 0, none⟩) us.length c
  len : us.length = out.length
  el : ∀ q, q < out.length → Own wr 9 B (gv us q) (strs (gf out q))
  sz : ∀ q, q < out.length → ∀ i, i < (gf out q).length → (gs (gf out q) i).size ≤ maxLen
  dj : ∀ i j, i < out.length → j < out.length → i ≠ j → ∀ b, (gv us i).ownBlock = some b → (gv us j).ownBlock ≠ some b
theorem eltRow : EltOk 46 40 := by
  obtain ⟨i, h1, h2, h3, h4⟩ := info_parts infoRow
  exact ⟨i, _, 24, Tryd.underlying46, h1, h2, h3, h4, by omega, rfl⟩
theorem eltStrO : EltOk 34 9 := by
  obtain ⟨i, h1, h2, h3, h4⟩ := info_parts infoStr
  exact ⟨i, _, 16, Tryd.underlying34, h1, h2, h3, h4, by omega, rfl⟩
theorem SWR.start {B : Nat} {W : World} (hB : B ≤ W.heap.size) : SWR B [] [] (.slice (some ⟨W.heap.size, 0, none⟩) 0 0) (W.alloc (.cells #[] 40)) :=
  ⟨(Own.empty W 40).base hB, ⟨_, _, rfl⟩, rfl, fun _ h => absurd h (by simp), fun _ h => absurd h (by simp), fun _ _ h => absurd h (by simp)⟩
theorem SWR.below {B : Nat} {W wr : World} {out : List (List ByteArray)} {us : List Value} {o : Value} (h : SWR B out us o W) (hb : Below W.heap.size W wr) : SWR B out us o wr :=
  ⟨h.own.below hb, h.nn, h.len, fun q hq => (h.el q hq).below hb, h.sz, h.dj⟩
theorem SWR.snoc {B : Nat} {W wr w2 : World} {out : List (List ByteArray)} {us : List Value} {o v' cv : Value} {c : List ByteArray} (h0 : SWR B out us o W) (hb0 : Below W.heap.size W wr) (hBW : B ≤ W.heap.size)
    (hc : Own wr 9 W.heap.size cv (strs c)) (hcs : ∀ i, i < c.length → (gs c i).size ≤ maxLen) (ho : Own w2 40 B v' (us ++ [cv])) (hg : wr.grownBy w2 o.ownBlock) : SWR B (out ++ [c]) (us ++ [cv]) v' w2 := by
  have h := h0.below hb0
  have hlen := h.len
  have key : ∀ i, i < (out ++ [c]).length → (i < out.length ∧ gv (us ++ [cv]) i = gv us i ∧ gf (out ++ [c]) i = gf out i) ∨ (i = out.length ∧ gv (us ++ [cv]) i = cv ∧ gf (out ++ [c]) i = c) := by
    intro i hi
    simp at hi
    by_cases e : i < out.length
    · exact .inl ⟨e, gv_snoc_lt (by omega), gf_snoc_lt e⟩
    · have : i = out.length := by omega
      subst this
      exact .inr ⟨rfl, by rw [← hlen]; exact gv_snoc_eq, gf_snoc_eq⟩
  refine ⟨ho, ?_, by simp [hlen], ?_, ?_, ?_⟩
  · obtain ⟨hl, hh⟩ := ho
    rcases hh with ⟨_, h2⟩ | ⟨g, cap, cur, hv, _⟩
    · simp at h2
    · exact ⟨g, cap, hv⟩
  · intro q hq
    rcases key q hq with ⟨a, e1, e2⟩ | ⟨a, e1, e2⟩
    · rw [e1, e2]; exact (h.el q a).keptOf h.own (by decide) hg
    · rw [e1, e2]; exact (hc.keptOf h.own (by decide) hg).base hBW
  · intro q hq
    rcases key q hq with ⟨a, _, e2⟩ | ⟨a, _, e2⟩
    · rw [e2]; exact h.sz q a
    · rw [e2]; exact hcs
  · intro i j hi hj hij b hb
    rcases key i hi with ⟨a, e1, _⟩ | ⟨a, e1, _⟩ <;> rcases key j hj with ⟨a', e1', _⟩ | ⟨a', e1', _⟩
    · rw [e1] at hb; rw [e1']; exact h.dj i j a a' hij b hb
    · rw [e1] at hb; rw [e1']; intro e
      have := ((h0.el i a).lt b hb).2
      have := (hc.lt b e).1
      omega
    · rw [e1] at hb; rw [e1']; intro e
      have := ((h0.el j a').lt b e).2
      have := (hc.lt b hb).1
      omega
    · omega
theorem SWR.inr {B : Nat} {W : World} {out : List (List ByteArray)} {us : List Value} {o : Value} (h : SWR B out us o W) : InR W B o us out :=
  ⟨h.len, fun q hq => ⟨⟨(h.el q hq).sl, h.sz q hq⟩, rfl⟩, fun q hq b hb => ((h.el q hq).lt b hb).1, fun q hq => (h.el q hq).ne h.own (by decide), h.dj⟩
theorem SWR.made {B : Nat} {W : World} {out : List (List ByteArray)} {us : List Value} {o : Value} (h : SWR B out us o W) : ∃ F, RRowS W o out F ∧ Fr B F := by
  have hi := h.inr
  refine ⟨_, ⟨us, h.own.sl, ⟨hi.len, hi.sl, fun _ _ _ _ => Nat.zero_le _, hi.hd, hi.dj⟩, rfl⟩, ?_⟩
  intro b hb
  rcases List.mem_append.1 hb with hb | hb
  · exact (h.own.lt b (by simpa using hb)).1
  · obtain ⟨i, hi', hb⟩ := mem_fbl.1 hb
    exact hi.low i (by rw [← h.len]; exact hi') b hb
/-- Each header reads as a row, also the ones that are not there. -/
theorem SWR.rd {B b n c : Nat} {W w' : World} {out : List (List ByteArray)} {us : List Value} (h : SWR B out us (.slice (some ⟨b, 0, none⟩) n c) W) (hx : Ex [b] W w') (q : Nat) : RdS w' (gv us q) (gf out q) := by
  by_cases hq : q < out.length
  · have hs : RStringS W (gv us q) (gf out q) (gv us q).ownBlock.toList := ⟨⟨(h.el q hq).sl, h.sz q hq⟩, rfl⟩
    refine (hs.of_block (w' := w') fun k hk => ?_).rd
    have hk' : (gv us q).ownBlock = some k := by simpa using hk
    have hne : ¬ k = b := fun e => by
      subst e
      exact (h.el q hq).ne h.own (by decide) k hk' rfl
    exact hx.block k ((h.el q hq).lt k hk').2 (by simpa using hne)
  · have e1 : gf out q = [] := by simp [gf, List.getElem?_eq_none (Nat.le_of_not_lt hq)]
    have e2 : gv us q = .slice none 0 0 := by
      have : us.length ≤ q := by rw [h.len]; omega
      simp [gv, List.getElem?_eq_none this]
    rw [e1, e2]
    exact ⟨none, 0, rfl, Nat.le_refl _, Nat.zero_le _, fun i hi => absurd hi (by simp), fun h => absurd h (by simp)⟩
theorem SWR.hd {B b n c : Nat} {W : World} {out : List (List ByteArray)} {us : List Value} (h : SWR B out us (.slice (some ⟨b, 0, none⟩) n c) W) : HdV us := fun i => by
  obtain ⟨a, c, e⟩ := (h.rd (Ex.refl _ _) i).shape
  exact ⟨a, _, c, e⟩
theorem SWR.rv {B b n c : Nat} {W : World} {out : List (List ByteArray)} {us : List Value} (h : SWR B out us (.slice (some ⟨b, 0, none⟩) n c) W) : RV W b 0 c n us (pv n) ∧ out.length = n ∧ n ≤ c := by
  obtain ⟨h1, hR, _, _⟩ := h.own.opened'
  have e : ((pv n).map fun i => gv us i.toNat) = us := by
    apply List.ext_getElem (by simp [pv, h1])
    intro i a b
    rw [List.getElem_map, ← gi_eq (by simpa using a), gi_pv (by omega), Int.toNat_natCast, gv_eq b]
  have hl := hR.le
  refine ⟨⟨by rw [e]; exact hR, by omega, (pv_length n).symm⟩, by rw [← h.len, h1], by omega⟩
/-- The rows, sorted in place. -/
theorem SWR.sorted {B b n c : Nat} {W w : World} {out : List (List ByteArray)} {us : List Value} {D : List Int} (h : SWR B out us (.slice (some ⟨b, 0, none⟩) n c) W) (hx : Ex [b] W w) (hR : RV w b 0 c n us D) (hp : D.Perm (pv n)) :
    ∃ F, RRowS w (.slice (some ⟨b, 0, none⟩) n c) (D.map fun i => gf out i.toNat) F ∧ Fr B F := by
  obtain ⟨_, hl, _⟩ := h.rv
  have hn : n = D.length := hR.2.2
  have hsl : Sl w 40 (.slice (some ⟨b, 0, none⟩) n c) (D.map fun i => gv us i.toNat) := by
    have := Sl.of_row hR.1
    rwa [List.length_map, ← hn] at this
  have hnd : D.Nodup := hp.nodup_iff.2 (pv_nodup n)
  have key : ∀ i, i < D.length → (gi D i).toNat < n ∧ (((gi D i).toNat : Nat) : Int) = gi D i ∧ gv (D.map fun i => gv us i.toNat) i = gv us (gi D i).toNat ∧ gf (D.map fun i => gf out i.toNat) i = gf out (gi D i).toNat := by
    intro i hi
    have hm : gi D i ∈ pv n := hp.mem_iff.1 (by rw [gi_eq hi]; exact List.getElem_mem hi)
    simp only [pv, List.mem_map, List.mem_range] at hm
    obtain ⟨j, hj, he⟩ := hm
    have e2 : (gi D i).toNat = j := by rw [← he]; rfl
    refine ⟨by rw [e2]; exact hj, by rw [e2, ← he]; rfl, ?_, ?_⟩
    · rw [gv_eq (by simpa using hi), List.getElem_map, gi_eq hi]
    · rw [gf_eq (by simpa using hi), List.getElem_map, gi_eq hi]
  have hin : InR w B (.slice (some ⟨b, 0, none⟩) n c) (D.map fun i => gv us i.toNat) (D.map fun i => gf out i.toNat) := by
    refine ⟨by simp, ?_, ?_, ?_, ?_⟩
    · intro i hi
      rw [List.length_map] at hi
      obtain ⟨k1, _, k3, k4⟩ := key i hi
      rw [k3, k4]
      have hq : (gi D i).toNat < out.length := by omega
      have hs : RStringS W (gv us (gi D i).toNat) (gf out (gi D i).toNat) (gv us (gi D i).toNat).ownBlock.toList := ⟨⟨(h.el _ hq).sl, h.sz _ hq⟩, rfl⟩
      refine hs.of_block fun k hk => ?_
      have hk' : (gv us (gi D i).toNat).ownBlock = some k := by simpa using hk
      have hne : ¬ k = b := fun e => by
        subst e
        exact (h.el _ hq).ne h.own (by decide) k hk' rfl
      exact hx.block k ((h.el _ hq).lt k hk').2 (by simpa using hne)
    · intro i hi k hk
      rw [List.length_map] at hi
      obtain ⟨k1, _, k3, k4⟩ := key i hi
      rw [k3] at hk
      exact ((h.el _ (by omega)).lt k hk).1
    · intro i hi k hk
      rw [List.length_map] at hi
      obtain ⟨k1, _, k3, k4⟩ := key i hi
      rw [k3] at hk
      exact (h.el _ (by omega)).ne h.own (by decide) k hk
    · intro i j hi hj hij k hk
      rw [List.length_map] at hi hj
      obtain ⟨k1, k2, k3, _⟩ := key i hi
      obtain ⟨l1, l2, l3, _⟩ := key j hj
      rw [k3] at hk
      rw [l3]
      refine h.dj _ _ (by omega) (by omega) (fun e => ?_) k hk
      have : gi D i = gi D j := by rw [← k2, ← l2, e]
      rw [gi_eq hi, gi_eq hj] at this
      rcases Nat.lt_or_gt_of_ne hij with g | g
      · exact (List.pairwise_iff_getElem.1 hnd) i j hi hj g this
      · exact (List.pairwise_iff_getElem.1 hnd) j i hj hi g this.symm
  refine ⟨_, ⟨_, hsl, ⟨hin.len, hin.sl, fun _ _ _ _ => Nat.zero_le _, hin.hd, hin.dj⟩, rfl⟩, ?_⟩
  intro k hk
  rcases List.mem_append.1 hk with hk | hk
  · have : k = b := by simpa [Value.ownBlock] using hk
    subst this
    exact (h.own.lt k rfl).1
  · obtain ⟨i, hi, hk⟩ := mem_fbl.1 hk
    exact hin.low i (by simpa using hi) k hk
end Go.Proofs.YtoeonplbgbgjmaaDoor
namespace Go.Proofs.YtoeonplbgbgjmaaDoor
open Go.RowKit
set_option linter.unusedVariables false
set_option linter.unusedSimpArgs false

theorem okV_facts {xs : List KS} {Fs : List (List ByteArray)} (h : okV xs Fs = true) : okK xs = true ∧ Fs.length ≤ 64 ∧ Fs.all rowB = true ∧ ∀ i, rowB (gf Fs i) = true ∨ gf Fs i = [] := by
  simp only [okV, Bool.and_eq_true, decide_eq_true_eq] at h
  refine ⟨h.1.1, h.1.2, h.2, fun i => ?_⟩
  by_cases hi : i < Fs.length
  · rw [gf_eq hi]; exact .inl (List.all_eq_true.1 h.2 _ (List.getElem_mem hi))
  · exact .inr (by simp [gf, List.getElem?_eq_none (Nat.le_of_not_lt hi)])
theorem fld_le {Fs : List (List ByteArray)} (h : Fs.all rowB = true) (q i : Nat) (hi : i < (gf Fs q).length) : (gs (gf Fs q) i).size ≤ 40 := by
  by_cases hq : q < Fs.length
  · have hr : rowB (gf Fs q) = true := by rw [gf_eq hq]; exact List.all_eq_true.1 h _ (List.getElem_mem hq)
    exact (row_facts hr).2 i hi
  · have : gf Fs q = [] := by simp [gf, List.getElem?_eq_none (Nat.le_of_not_lt hq)]
    rw [this] at hi; simp at hi
theorem szSTo_bd (x : List ByteArray) (h : ∀ i, i < x.length → (gs x i).size ≤ 40) : ∀ k, k ≤ x.length → szSTo x k ≤ 40 * k := by
  intro k
  induction k with
  | zero => intro _; exact Nat.le_refl _
  | succ k ih =>
    intro hk
    have h1 := ih (by omega)
    have h2 := h k (by omega)
    rw [szSTo]; omega
theorem szToR_bd (x : List (List ByteArray)) (h : ∀ i, i < x.length → szRow (gf x i) ≤ 1000) : ∀ k, k ≤ x.length → szToR x k ≤ 1000 * k := by
  intro k
  induction k with
  | zero => intro _; exact Nat.le_refl _
  | succ k ih =>
    intro hk
    have h1 := ih (by omega)
    have h2 := h k (by omega)
    rw [szToR]; omega
theorem svR_sz (xs : List KS) (Fs : List (List ByteArray)) : szRowS (svR xs Fs).1 ≤ 100000000000 := by
  unfold svR
  split
  · rename_i h
    obtain ⟨_, h2, h3, _⟩ := okV_facts h
    have hl := stV_length xs Fs
    dsimp only
    have hall : (stV xs Fs).all rowB = true := by
      rw [List.all_eq_true] at h3 ⊢
      exact fun r hr => h3 r ((stV_perm xs Fs).mem_iff.1 hr)
    have hb := szToR_bd (stV xs Fs) (fun i hi => by
      have hr : rowB (gf (stV xs Fs) i) = true := by rw [gf_eq hi]; exact List.all_eq_true.1 hall _ (List.getElem_mem hi)
      obtain ⟨f1, f2⟩ := row_facts hr
      have := szSTo_bd _ f2 _ (Nat.le_refl _)
      unfold szRow szStringS
      omega) _ (Nat.le_refl _)
    unfold szRowS
    omega
  · simp [szRowS, szToR]

set_option maxHeartbeats 400000 in
theorem copyStr_any (v : Value) (xs : List ByteArray) (w : World) (hv : Sl w 9 v (strs xs)) (hl : xs.length ≤ 1000000000) :
    Calls Tryd.prog 77 #[v] w fun e w' => ∃ r, e = .returned r ∧ Own w' 9 w.heap.size r (strs xs) ∧ Below w.heap.size w w' := by
  have hr := Lib.hid (RdV.of_sl (hv.below (w' := w.alloc (.cells #[] 9)) ((Below.refl _ _).alloc (Nat.le_refl _) _) hv.lt))
  have ho := Lib.hid (Own.empty w 9)
  clear hv
  go_enter Tryd.func77, Tryd.ntmps77
  go_wp2_with (at_builtin; refine wpList_append_all eltStrO rfl _ _ rfl w.heap.size _ _ rfl ho.out _ _ rfl hr.out (strs_one _) (by simp; omega) (by simp) ?_)
  intro v' w1 ho1 hg
  have hb := Lib.hid (Below.appended ((Below.refl w.heap.size w).alloc (Nat.le_refl _) (.cells #[] 9)) ho.out hg (by simp))
  replace ho1 := Lib.hid ho1
  clear hg
  go_wp2
  go_ret
  exact ⟨_, rfl, by simpa using ho1.out, hb.out⟩

set_option maxHeartbeats 1000000 in
theorem allRowFn_any (u : Value) (x : List ByteArray) (F : List Nat) (bp : Nat) (w : World) (hu : RStringS w u x F) (hc : w.cell? ⟨bp, 0, none⟩ = some (.func (.func 55) #[] #[])) :
    Calls Tryd.prog 116 #[.agg #[u], .pointer (some ⟨bp, 0, none⟩)] w fun e w' => e = .returned (.bool (!rowB x)) ∧ Below w.heap.size w w' := by
  have hbel := (Below.refl w.heap.size w).alloc (Nat.le_refl _) (.cells #[u] 40)
  have hu2 := Lib.hid (hu.next hbel)
  have hc1 : (w.alloc (.cells #[u] 40)).cell? ⟨bp, 0, none⟩ = some (.func (.func 55) #[] #[]) := (hbel.cell (p := ⟨bp, 0, none⟩) (block_lt_of_cell hc)).trans hc
  have hc2 : (w.alloc (.cells #[u] 40)).cell? ⟨w.heap.size, 0, none⟩ = some u := by simp [go_sem]
  replace hbel := Lib.hid hbel
  obtain ⟨a, c, e⟩ := hu.rd.shape
  replace hu := Lib.hid hu
  subst e
  go_enter Tryd.func116, Tryd.ntmps116
  go_wp2_with fail
  refine (impl_IsValidRow_law ⟨_, rfl, hu2.out⟩).mono ?_
  rintro e w1 ⟨rfl, hb⟩
  have hB := Lib.hid (Below.next hbel.out hb)
  clear hb hc1 hc2
  go_wp2
  go_ret
  exact ⟨rfl, hB.out⟩

set_option maxHeartbeats 1000000 in
theorem indexRow_any (v : Value) (x : List (List ByteArray)) (F : List Nat) (bp : Nat) (w : World) (hv : RRowS w v x F) (hc : w.cell? ⟨bp, 0, none⟩ = some (.func (.func 55) #[] #[])) :
    Calls Tryd.prog 138 #[v, .func (.func 116) #[] #[.pointer (some ⟨bp, 0, none⟩)]] w fun e w' => e = .returned (.int .i64 (ixf (fun r => !rowB r) x)) ∧ Below w.heap.size w w' := by
  obtain ⟨us, h1, h2, rfl⟩ := hv
  obtain ⟨ao, c, rfl, _, h3, HA⟩ := h1.opened
  unfold maxLen at h3
  have hul := h2.len
  have hsl := h2.sl
  replace hsl := Lib.hid hsl
  replace HA := Lib.hid HA
  clear h1 h2
  generalize hn : us.length = n at *
  replace hn := Lib.hid hn
  replace hul := Lib.hid hul.symm
  replace hc := Lib.hid hc
  go_enter Tryd.func138, Tryd.ntmps138
  go_wp2
  go_loopw [8] (fun i wr => ∃ k : Nat, k ≤ n ∧ i = .int .i64 k ∧ Below w.heap.size w wr ∧ ∀ j, j < k → rowB (gf x j) = true) (fun i _ => n - (intOf i).toNat)
  case atStart => exact ⟨0, Nat.zero_le _, rfl, Below.refl _ _, fun j hj => absurd hj (by omega)⟩
  case round =>
    obtain ⟨k, hk, rfl, hb, hq⟩ := hrel
    replace hq := Lib.hid hq
    by_cases hlt : k < n
    · obtain ⟨b, off, rfl, hR⟩ := HA.out (by omega)
      have hR2 := hR.below hb hR.lt
      have hc1 : wr.cell? ⟨b, off + k, none⟩ = some (gv us k) := by rw [hR2.cell (by rw [hn.out]; omega), gv_eq (by rw [hn.out]; omega)]
      have hfn : wr.cell? ⟨bp, 0, none⟩ = some (.func (.func 55) #[] #[]) := (hb.cell (p := ⟨bp, 0, none⟩) (block_lt_of_cell hc.out)).trans hc.out
      have hsk := hsl.out k (by rw [hul.out]; exact hlt)
      clear hR hR2
      generalize hx : gf x k = X at *
      have hsk2 := Lib.hid (hsk.next hb)
      obtain ⟨ua, uc, e⟩ := hsk.rd.shape
      rw [e] at hc1 hsk2
      generalize X.length = xl at *
      clear hsk e
      replace hx := Lib.hid hx
      have hcl := Lib.hid (allRowFn_any _ _ _ _ _ hsk2.out hfn)
      replace hb := Lib.hid hb
      cases hbb : rowB X
      · rw [hbb] at hcl
        go_wp2_with fail
        refine hcl.out.mono ?_
        rintro e w1 ⟨rfl, hb1⟩
        have hB := Lib.hid (Below.next hb.out hb1)
        clear hb1 hc1 hfn
        go_wp2
        go_ret
        refine ⟨ret_int (ixf_some (by rw [hul.out]; omega) ?_ fun j hj => ?_).symm, hB.out⟩
        · rw [← gf_eq, hx.out, hbb]; rfl
        · have := hq.out j hj
          rw [← gf_eq, this]; rfl
      · rw [hbb] at hcl
        go_wp2_with fail
        refine hcl.out.mono ?_
        rintro e w1 ⟨rfl, hb1⟩
        have hB := Lib.hid (Below.next hb.out hb1)
        clear hb1 hc1 hfn
        go_wp2
        go_roundw
        case rel =>
          refine ⟨k + 1, by omega, by go_num, hB.out, fun j hj => ?_⟩
          by_cases hjk : j = k
          · subst hjk; rw [hx.out]; exact hbb
          · exact hq.out j (by omega)
        case measure => simp [intOf]; omega
    · obtain rfl : n = k := by omega
      replace hb := Lib.hid hb
      go_wp2
      go_ret
      refine ⟨ret_int (ixf_none fun j hj => ?_).symm, hb.out⟩
      have := hq.out j (by rw [hul.out] at hj; exact hj)
      rw [← gf_eq, this]; rfl

set_option maxHeartbeats 400000 in
theorem containsRow_any (v : Value) (x : List (List ByteArray)) (F : List Nat) (bp : Nat) (w : World) (hv : RRowS w v x F) (hc : w.cell? ⟨bp, 0, none⟩ = some (.func (.func 55) #[] #[])) :
    Calls Tryd.prog 115 #[v, .func (.func 116) #[] #[.pointer (some ⟨bp, 0, none⟩)]] w fun e w' => e = .returned (.bool (x.any fun r => !rowB r)) ∧ Below w.heap.size w w' := by
  rw [← ixf_nonneg]
  have hcl := Lib.hid (indexRow_any v x F bp w hv hc)
  clear hv hc
  go_enter Tryd.func115, Tryd.ntmps115
  go_wp2_with fail
  refine hcl.out.mono ?_
  rintro e w1 ⟨rfl, hb⟩
  replace hb := Lib.hid hb
  go_wp2
  go_ret
  exact ⟨rfl, hb.out⟩

set_option maxHeartbeats 400000 in
theorem allRow_any (v : Value) (x : List (List ByteArray)) (F : List Nat) (w : World) (hv : RRowS w v x F) :
    Calls Tryd.prog 76 #[v, .func (.func 55) #[] #[]] w fun e w' => e = .returned (.bool (x.all rowB)) ∧ Below w.heap.size w w' := by
  have hbel := (Below.refl w.heap.size w).alloc (Nat.le_refl _) (.cells #[.func (.func 55) #[] #[]] 74)
  have hcl := Lib.hid (containsRow_any v x F w.heap.size _ (hv.next hbel) (by simp [go_sem]))
  replace hbel := Lib.hid hbel
  clear hv
  go_enter Tryd.func76, Tryd.ntmps76
  go_wp2_with fail
  refine hcl.out.mono ?_
  rintro e w1 ⟨rfl, hb⟩
  have hB := Lib.hid (Below.next hbel.out hb)
  clear hb
  go_wp2
  go_ret
  exact ⟨ret_bool (any_not rowB x), hB.out⟩

set_option maxHeartbeats 2000000 in
theorem cmpFn_any (vs u v : Value) (xs : List KS) (a b : List ByteArray) (sp : Nat) (w : World) (hc : w.cell? ⟨sp, 0, none⟩ = some vs) (hs : RdK w vs xs) (hu : RdS w u a) (hv : RdS w v b) (hk : okK xs = true)
    (ha : ∀ i, i < a.length → (gs a i).size ≤ 40) (hb : ∀ i, i < b.length → (gs b i).size ≤ 40) (hT : TabS w) :
    Calls Tryd.prog 79 #[.agg #[u], .agg #[v], .pointer (some ⟨sp, 0, none⟩)] w fun e w' => e = .returned (.int .i64 (cmpRs a b xs)) ∧ Below w.heap.size w w' := by
  obtain ⟨W0, hWd⟩ : ∃ W0, W0 = (w.alloc (.cells #[u] 40)).alloc (.cells #[v] 40) := ⟨_, rfl⟩
  have hBW : Below w.heap.size w W0 := by rw [hWd]; exact ((Below.refl _ _).alloc (Nat.le_refl _) _).alloc (by simp) _
  have c4 : W0.cell? ⟨sp, 0, none⟩ = some vs := (hBW.cell (p := ⟨sp, 0, none⟩) (block_lt_of_cell hc)).trans hc
  have c5 : W0.cell? ⟨w.heap.size, 0, none⟩ = some u := by rw [hWd]; simp [go_sem]
  have c6 : W0.cell? ⟨w.heap.size + 1, 0, none⟩ = some v := by rw [hWd]; simp [go_sem]
  have hcl := Lib.hid (compareRows_any vs xs u v a b W0 (hs.below hBW) (hu.below hBW) (hv.below hBW) (fun i hi => okK_fld hk hi) ha hb (hT.next hBW))
  obtain ⟨x1, x2, x3⟩ : ∃ a m c, u = .slice a m c := by
    obtain ⟨q, r, e⟩ := hu.shape
    exact ⟨_, _, _, e⟩
  obtain ⟨x4, rfl⟩ := x3
  obtain ⟨y1, y2, y3⟩ : ∃ a m c, v = .slice a m c := by
    obtain ⟨q, r, e⟩ := hv.shape
    exact ⟨_, _, _, e⟩
  obtain ⟨y4, rfl⟩ := y3
  obtain ⟨ao, c, rfl, _⟩ := hs
  generalize xs.length = n at *
  clear hu hv hT hk ha hb hc
  rw [hWd] at c4 c5 c6
  replace hWd := Lib.hid hWd
  replace hBW := Lib.hid hBW
  go_enter Tryd.func79, Tryd.ntmps79
  go_wp2_with fail
  rw [← hWd.out]
  refine hcl.out.mono ?_
  rintro e w1 ⟨rfl, hb1⟩
  have hB := Lib.hid (Below.next hBW.out hb1)
  clear hb1 c4 c5 c6
  go_wp2
  go_ret
  exact ⟨rfl, hB.out⟩
end Go.Proofs.YtoeonplbgbgjmaaDoor
namespace Go.Proofs.YtoeonplbgbgjmaaDoor
open Go.RowKit
set_option linter.unusedVariables false
set_option linter.unusedSimpArgs false

theorem cell_kept {F : List Nat} {w w' : World} {q : Nat} {v : Value} (hx : Ex F w w') (hc : w.cell? ⟨q, 0, none⟩ = some v) (hq : ¬ q ∈ F) : w'.cell? ⟨q, 0, none⟩ = some v := by
  rw [World.cell?_of_block (w := w) (hx.block q (block_lt_of_cell hc) hq)]
  exact hc
set_option maxRecDepth 10000 in
set_option maxHeartbeats 8000000 in
theorem impl_SortRows_law {vs vr : Value} {xs : List KS} {Fs : List (List ByteArray)} {F1 F2 : List Nat} {w : World} (r1 : RKeySpecS w vs xs F1) (r2 : RRowS w vr Fs F2) (hT : TabS w) :
    Calls Tryd.prog 28 #[vs, vr] w fun e w' => ∃ r F, e = .returned (.tuple #[r, .bool (svR xs Fs).2]) ∧ RRowS w' r (svR xs Fs).1 F ∧ Fr w.heap.size F ∧ Below w.heap.size w w' ∧ szRowS (svR xs Fs).1 ≤ 100000000000 := by
  have hs := r1.rd
  obtain ⟨W0, hWd⟩ : ∃ W0, W0 = w.alloc (.cells #[vs] 26) := ⟨_, rfl⟩
  have hBW : Below w.heap.size w W0 := by rw [hWd]; exact (Below.refl _ _).alloc (Nat.le_refl _) _
  have hsz0 : W0.heap.size = w.heap.size + 1 := by rw [hWd]; simp
  have c0 : W0.cell? ⟨w.heap.size, 0, none⟩ = some vs := by rw [hWd]; simp [go_sem]
  have hS : Hid (∀ w', Below W0.heap.size W0 w' → w'.cell? ⟨w.heap.size, 0, none⟩ = some vs) := Lib.hid (fun w' hw => (hw.cell (p := ⟨w.heap.size, 0, none⟩) (by simp; omega)).trans c0)
  have hfin : Hid (∀ wr, Below W0.heap.size W0 wr → Below w.heap.size w wr) := Lib.hid (fun wr hw => Below.next hBW hw)
  have hsp : Hid (∀ wr, Below W0.heap.size W0 wr → Calls Tryd.prog 63 #[vs] wr fun e w' => e = .returned (.bool (okK xs)) ∧ Below W0.heap.size W0 w') := Lib.hid (fun wr hw =>
    (areSpecs_any vs xs wr (hs.below (Below.next hBW hw))).mono fun _ _ ⟨he, hb⟩ => ⟨he, Below.next hw hb⟩)
  have hal : Hid (∀ wr, Below W0.heap.size W0 wr → Calls Tryd.prog 76 #[vr, .func (.func 55) #[] #[]] wr fun e w' => e = .returned (.bool (Fs.all rowB)) ∧ Below W0.heap.size W0 w') := Lib.hid (fun wr hw =>
    (allRow_any vr Fs F2 wr (r2.next (Below.next hBW hw))).mono fun _ _ ⟨he, hb⟩ => ⟨he, Below.next hw hb⟩)
  have hcm : Hid (∀ (wr w' : World) (b n c : Nat) (us : List Value), Below W0.heap.size W0 wr → SWR W0.heap.size Fs us (.slice (some ⟨b, 0, none⟩) n c) wr → okK xs = true → Fs.all rowB = true → CmpV wr b w.heap.size us (cvV xs Fs)) := Lib.hid (fun wr w' b n c us hw hr h1 h2 w9 x y hx => by
    have hb : W0.heap.size ≤ b := (hr.own.lt b rfl).1
    have hw2 : Below w.heap.size w w9 := Below.ex (Below.next hBW hw) hx (fun k hk => by simp at hk; omega)
    exact cmpFn_any vs (gv us x.toNat) (gv us y.toNat) xs (gf Fs x.toNat) (gf Fs y.toNat) w.heap.size w9 (cell_kept hx ((hw.cell (p := ⟨w.heap.size, 0, none⟩) (by simp; omega)).trans c0) (by simp; omega)) (hs.below hw2) (hr.rd hx _) (hr.rd hx _) h1 (fun i hi => fld_le h2 _ i hi) (fun i hi => fld_le h2 _ i hi) (hT.next hw2))
  obtain ⟨us0, g1, g2, g3⟩ := r2
  obtain ⟨bo, d, rfl, _, q3, HA⟩ := g1.opened
  have hul := g2.len
  have hel : Hid (∀ wr, Below W0.heap.size W0 wr → ∀ k, k < Fs.length → RStringS wr (gv us0 k) (gf Fs k) (gv us0 k).ownBlock.toList) := Lib.hid (fun wr hw k hk => (g2.sl k hk).next (Below.next hBW hw))
  have hcl0 : Hid (∀ wr, Below W0.heap.size W0 wr → ∀ k, k < Fs.length → ∃ b off, bo = some ⟨b, off, none⟩ ∧ wr.cell? ⟨b, off + k, none⟩ = some (gv us0 k)) := Lib.hid (fun wr hw k hk => by
    obtain ⟨b, off, rfl, hR⟩ := HA (by omega)
    exact ⟨b, off, rfl, by rw [(hR.below (Below.next hBW hw) hR.lt).cell (by omega), gv_eq (by omega)]⟩)
  unfold maxLen at q3
  clear HA g1 g2 g3
  rw [hul] at hal ⊢
  have hres : svR xs Fs = if (okK xs && decide (Fs.length ≤ 64) && Fs.all rowB) then (stV xs Fs, true) else ([], false) := rfl
  have hz := Lib.hid (svR_sz xs Fs)
  generalize hRR : svR xs Fs = RR at *
  obtain ⟨ao, c, rfl, q1, q4, _⟩ := hs
  unfold maxLen at q4
  have hst : Hid (∀ D : List Int, D.Perm (pv Fs.length) → Srt (cvV xs Fs) D 0 Fs.length → (D.map fun i => gf Fs i.toNat) = stV xs Fs) := Lib.hid (fun D h1 h2 => by rw [stP_unique (cvV_pre xs Fs) h1 h2]; rfl)
  have htk : Fs.take Fs.length = Fs := List.take_of_length_le (Nat.le_refl _)
  have hnx : Hid (∀ k, k < Fs.length → Fs.take k ++ [gf Fs k] = Fs.take (k + 1)) := Lib.hid (fun k hk => by rw [gf_eq hk]; simp)
  have hzz : Hid (Fs.length = 0 → stV xs Fs = []) := Lib.hid (fun h => List.eq_nil_of_length_eq_zero (by rw [stV_length]; exact h))
  have hpre := Lib.hid (cvV_pre xs Fs)
  have hx6 : Hid (Fs.all rowB = true → ∀ k, k < Fs.length → (gf Fs k).length ≤ 6) := Lib.hid (fun h k hk => (row_facts (x := gf Fs k) (by rw [gf_eq hk]; exact List.all_eq_true.1 h _ (List.getElem_mem hk))).1)
  generalize hm : xs.length = m at *
  generalize hn : Fs.length = n at *
  generalize hk1 : okK xs = b1 at *
  generalize hk3 : Fs.all rowB = b3 at *
  replace htk := Lib.hid htk
  replace hres := Lib.hid hres
  replace hRR := Lib.hid hRR
  replace hn := Lib.hid hn
  replace hm := Lib.hid hm
  replace hul := Lib.hid hul
  replace hk1 := Lib.hid hk1
  replace hk3 := Lib.hid hk3
  replace hWd := Lib.hid hWd
  replace hsz0 := Lib.hid hsz0
  clear c0 hBW hT r1
  have hB0 : Hid (Below W0.heap.size W0 W0) := Lib.hid (Below.refl _ _)
  go_enter Tryd.func28, Tryd.ntmps28
  go_wp2_with fail
  rw [← hWd.out]
  have d0 := hS.out _ hB0.out
  go_wp2_with fail
  refine (hsp.out _ hB0.out).mono ?_
  rintro e w1 ⟨rfl, hB1⟩
  clear d0
  have d1 := hS.out _ hB1
  replace hB1 := Lib.hid hB1
  cases b1
  · have hv := Lib.hid (show RR = ([], false) by rw [hres.out]; simp)
    go_wp2
    go_ret2
    exact ⟨.slice none 0 0, [], by rw [hv.out]; rfl, by rw [hv.out]; exact ⟨[], Sl.nil _ _, InR.nil _ _ _, rfl⟩, fun b hb => by simp at hb, hfin.out _ hB1.out, hz.out⟩
  · by_cases hn64 : n ≤ 64
    · have hni : ¬ (n : Int) > 64 := by omega
      go_wp2_with fail
      refine (hal.out _ hB1.out).mono ?_
      rintro e w2 ⟨rfl, hB2⟩
      clear d1
      have d2 := hS.out _ hB2
      replace hB2 := Lib.hid hB2
      cases b3
      · have hv := Lib.hid (show RR = ([], false) by rw [hres.out]; simp)
        go_wp2
        go_ret2
        exact ⟨.slice none 0 0, [], by rw [hv.out]; rfl, by rw [hv.out]; exact ⟨[], Sl.nil _ _, InR.nil _ _ _, rfl⟩, fun b hb => by simp at hb, hfin.out _ hB2.out, hz.out⟩
      · have hv := Lib.hid (show RR = (stV xs Fs, true) by rw [hres.out]; simp [hn64])
        have hs2 : W0.heap.size ≤ w2.heap.size := hB2.out.size
        have hst0 := Lib.hid (SWR.start (B := W0.heap.size) (W := w2) hs2)
        have hB3 := Lib.hid (Below.alloc hB2.out hs2 (.cells #[] 40))
        clear d2
        go_wp2
        go_loopw [6, 25] (fun o iv wr => ∃ (j : Nat) (us : List Value), j ≤ n ∧ iv = .int .i64 (j : Nat) ∧ SWR W0.heap.size (Fs.take j) us o wr ∧ Below W0.heap.size W0 wr) (fun _ iv _ => n - (intOf iv).toNat)
        case atStart => exact ⟨0, [], Nat.zero_le _, rfl, hst0.out, hB3.out⟩
        case round =>
          clear hst0 hB3 hs2
          obtain ⟨j, us, hj, rfl, hR, hb⟩ := hrel
          have hus : us.length = j := by rw [hR.len, List.length_take, hn.out]; omega
          have hsW : W0.heap.size ≤ wr.heap.size := hb.size
          by_cases hlt : j < n
          · obtain ⟨rb, ro, rfl, hc1⟩ := hcl0.out _ hb j hlt
            have hrs := hel.out _ hb j hlt
            have hnxt := hnx.out j hlt
            have hfl : Hid (∀ i, i < (gf Fs j).length → (gs (gf Fs j) i).size ≤ maxLen) := Lib.hid (fun i hi => hrs.1.2 i hi)
            have hX6 := hx6.out (by trivial) j hlt
            generalize gf Fs j = X at *
            generalize gv us0 j = u at *
            have hb5 : Below wr.heap.size wr (wr.alloc (.cells #[u] 40)) := (Below.refl _ _).alloc (Nat.le_refl _) _
            have hcp := Lib.hid (copyStr_any u X _ (hrs.next hb5).1.1 (by omega))
            obtain ⟨ua, uc, rfl⟩ := hrs.rd.shape
            generalize hXl : X.length = xl at *
            have c6 : (wr.alloc (.cells #[.slice none 0 0] 40)).cell? ⟨wr.heap.size, 0, none⟩ = some (.slice none 0 0) := by simp [go_sem]
            have f6 : (wr.alloc (.cells #[.slice none 0 0] 40)).frozen? ⟨wr.heap.size, 0, none⟩ = false := by simp [go_sem]
            have c7 : (wr.alloc (.cells #[.slice ua xl uc] 40)).cell? ⟨wr.heap.size, 0, none⟩ = some (.slice ua xl uc) := by simp [go_sem]
            replace hb5 := Lib.hid hb5
            replace hR := Lib.hid hR
            replace hb := Lib.hid hb
            replace hrs := Lib.hid hrs
            replace hXl := Lib.hid hXl
            go_wp2_with fail
            refine hcp.out.mono ?_
            rintro e w3 ⟨r, rfl, ho, hb6⟩
            obtain ⟨ra, rc, rfl, _⟩ := ho.sl
            have hb7 := Lib.hid (Below.next hb5.out hb6)
            have hB8 := Lib.hid (Below.next hb.out hb7.out)
            have hw3 : W0.heap.size ≤ w3.heap.size := hB8.out.size
            have ho2 := Lib.hid (ho.base (B' := wr.heap.size) hb5.out.size)
            have hRq := Lib.hid (hR.out.below hb7.out)
            have hul2 : us.length ≤ 1000000000 := by omega
            rw [strs_length, hXl.out] at ho2 ⊢
            clear ho hb6 c6 f6 c7 hc1
            go_wp2_with (at_builtin; refine append_one_at eltRow rfl _ _ rfl W0.heap.size _ _ rfl hRq.out.own rfl rfl hul2 hw3 ?_)
            intro v' w4 ho4 hg4 hat
            have hfR := SWR.snoc hR.out hb7.out hsW ho2.out (by rw [hXl.out]; exact hfl.out) ho4 hg4
            rw [hnxt] at hfR
            have hfB := Lib.hid (Below.thenGrown hB8.out hg4 hw3 (fun q hq => (hRq.out.own.lt q hq).1))
            replace hfR := Lib.hid hfR
            clear ho4 hg4 hat
            go_wp2
            go_roundw
            case rel => exact ⟨j + 1, _, by omega, by go_num, hfR.out, hfB.out⟩
            case measure => simp [intOf]; omega
          · obtain rfl : n = j := by omega
            rw [htk.out] at hR
            obtain ⟨b, c9, rfl⟩ := hR.nn
            rw [hus] at hR ⊢
            by_cases hp : 0 < n
            · obtain ⟨v1, v2, v3⟩ := hR.rv
              have hcmp := hcm.out wr wr b n c9 us hb hR (by trivial) (by trivial)
              have hso := Lib.hid (sortStableV_any wr b 0 c9 n w.heap.size us (cvV xs Fs) hpre.out hcmp hR.hd (by omega) hn64 (pv n) wr v1 (pv_length n) (Ex.refl _ _) (fun i hi => gi_pv hi))
              have hbB := (hR.own.lt b rfl).1
              replace hR := Lib.hid hR
              replace hb := Lib.hid hb
              clear v1 v2 v3 hcmp
              go_wp2_with fail
              refine hso.out.mono ?_
              rintro e w5 ⟨rfl, D, hR5, hx5, hm5, hs5⟩
              obtain ⟨F, f1, f2⟩ := hR.out.sorted hx5 hR5 hm5.perm
              rw [hst.out D hm5.perm hs5] at f1
              have hB9 := Lib.hid (Below.ex (hfin.out _ hb.out) hx5 (fun k hk => by simp at hk; have := hsz0.out; omega))
              replace f1 := Lib.hid f1
              have f3 := Lib.hid (Fr.le (A := w.heap.size) (by have := hsz0.out; omega) f2)
              clear hR5 hx5 hm5 hs5 f2 hso
              go_wp2
              go_ret2
              exact ⟨.slice (some ⟨b, 0, none⟩) n c9, F, by rw [hv.out]; rfl, by rw [hv.out]; exact f1.out, f3.out, hB9.out, hz.out⟩
            · obtain rfl : n = 0 := by omega
              obtain ⟨F, f1, f2⟩ := hR.made
              have hz0 := hzz.out rfl
              have hF0 : Fs = [] := List.eq_nil_of_length_eq_zero hn.out
              rw [hF0] at f1
              replace f1 := Lib.hid f1
              have f3 := Lib.hid (Fr.le (A := w.heap.size) (by have := hsz0.out; omega) f2)
              have hB9 := Lib.hid (hfin.out _ hb)
              replace hz0 := Lib.hid hz0
              clear hR hb f2 hF0
              go_wp2_with fail
              refine (sortStableV_zero _ c9 w.heap.size _).mono ?_
              rintro e w5 ⟨rfl, rfl⟩
              go_wp2
              go_ret2
              exact ⟨.slice (some ⟨b, 0, none⟩) 0 c9, F, by rw [hv.out]; rfl, by rw [hv.out]; dsimp only; rw [hz0.out]; exact f1.out, f3.out, hB9.out, hz.out⟩
    · have hni : (n : Int) > 64 := by omega
      have hv := Lib.hid (show RR = ([], false) by rw [hres.out]; simp [hn64])
      go_wp2
      go_ret2
      exact ⟨.slice none 0 0, [], by rw [hv.out]; rfl, by rw [hv.out]; exact ⟨[], Sl.nil _ _, InR.nil _ _ _, rfl⟩, fun b hb => by simp at hb, hfin.out _ hB1.out, hz.out⟩
end Go.Proofs.YtoeonplbgbgjmaaDoor
