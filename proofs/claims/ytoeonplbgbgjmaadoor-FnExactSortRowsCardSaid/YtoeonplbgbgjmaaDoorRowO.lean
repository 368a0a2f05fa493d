/- Rows of strings under way: each row's fields in an owned slice; rows sorted in place. -/
import Derived.Test.YtoeonplbgbgjmaaDoorSsw
import Derived.Test.YtoeonplbgbgjmaaDoorRowS
import Derived.Test.YtoeonplbgbgjmaaDoorSvI
namespace Go.Proofs.YtoeonplbgbgjmaaDoor
open Go.RowKit
set_option linter.unusedVariables false
set_option linter.unusedSimpArgs false

structure SWR (B : Nat) (out : List (List ByteArray)) (us : List Value) (o : Value) (wr : World) : Prop where
  own : Own wr 40 B o us
  nn : ∃ b c, o = .slice (some ⟨b, 0, none⟩) us.length c
  len : us.length = out.length
  el : ∀ q, q < out.length → Own wr 9 B (gv us q) (strs (gf out q))
  sz : ∀ q, q < out.length → ∀ i, i < (gf out q).length → (gs (gf out q) i).size ≤ maxLen
  dj : ∀ i j, i < out.length → j < out.length → i ≠ j → ∀ b, (gv us i).ownBlock = some b → (gv us j).ownBlock ≠ some b
theorem eltRow : EltOk 46 40 := by
  obtain ⟨i, h1, h2, h3, h4⟩ := info_parts infoRow
  exact ⟨i, _, 24, Tryd.underlying46, h1, h2, h3, h4, by omega, rfl⟩
theorem eltStrO : EltOk 34 9 := by
  obtain ⟨i, h1, h2, h3, h4⟩ := info_parts infoStr
  exact ⟨i, _, 16, Tryd.underlying34, h1, h2, h3, h4, by omega, rfl⟩
theorem SWR.start {B : Nat} {W : World} (hB : B ≤ W.heap.size) : SWR B [] [] (.slice (some ⟨W.heap.size, 0, none⟩) 0 0) (W.alloc (.cells #[] 40)) :=
  ⟨(Own.empty W 40).base hB, ⟨_, _, rfl⟩, rfl, fun _ h => absurd h (by simp), fun _ h => absurd h (by simp), fun _ _ h => absurd h (by simp)⟩
theorem SWR.below {B : Nat} {W wr : World} {out : List (List ByteArray)} {us : List Value} {o : Value} (h : SWR B out us o W) (hb : Below W.heap.size W wr) : SWR B out us o wr :=
  ⟨h.own.below hb, h.nn, h.len, fun q hq => (h.el q hq).below hb, h.sz, h.dj⟩
theorem SWR.snoc {B : Nat} {W wr w2 : World} {out : List (List ByteArray)} {us : List Value} {o v' cv : Value} {c : List ByteArray} (h0 : SWR B out us o W) (hb0 : Below W.heap.size W wr) (hBW : B ≤ W.heap.size)
    (hc : Own wr 9 W.heap.size cv (strs c)) (hcs : ∀ i, i < c.length → (gs c i).size ≤ maxLen) (ho : Own w2 40 B v' (us ++ [cv])) (hg : wr.grownBy w2 o.ownBlock) : SWR B (out ++ [c]) (us ++ [cv]) v' w2 := by
  have h := h0.below hb0
  have hlen := h.len
  have key : ∀ i, i < (out ++ [c]).length → (i < out.length ∧ gv (us ++ [cv]) i = gv us i ∧ gf (out ++ [c]) i = gf out i) ∨ (i = out.length ∧ gv (us ++ [cv]) i = cv ∧ gf (out ++ [c]) i = c) := by
    intro i hi
    simp at hi
    by_cases e : i < out.length
    · exact .inl ⟨e, gv_snoc_lt (by omega), gf_snoc_lt e⟩
    · have : i = out.length := by omega
      subst this
      exact .inr ⟨rfl, by rw [← hlen]; exact gv_snoc_eq, gf_snoc_eq⟩
  refine ⟨ho, ?_, by simp [hlen], ?_, ?_, ?_⟩
  · obtain ⟨hl, hh⟩ := ho
    rcases hh with ⟨_, h2⟩ | ⟨g, cap, cur, hv, _⟩
    · simp at h2
    · exact ⟨g, cap, hv⟩
  · intro q hq
    rcases key q hq with ⟨a, e1, e2⟩ | ⟨a, e1, e2⟩
    · rw [e1, e2]; exact (h.el q a).keptOf h.own (by decide) hg
    · rw [e1, e2]; exact (hc.keptOf h.own (by decide) hg).base hBW
  · intro q hq
    rcases key q hq with ⟨a, _, e2⟩ | ⟨a, _, e2⟩
    · rw [e2]; exact h.sz q a
    · rw [e2]; exact hcs
  · intro i j hi hj hij b hb
    rcases key i hi with ⟨a, e1, _⟩ | ⟨a, e1, _⟩ <;> rcases key j hj with ⟨a', e1', _⟩ | ⟨a', e1', _⟩
    · rw [e1] at hb; rw [e1']; exact h.dj i j a a' hij b hb
    · rw [e1] at hb; rw [e1']; intro e
      have := ((h0.el i a).lt b hb).2
      have := (hc.lt b e).1
      omega
    · rw [e1] at hb; rw [e1']; intro e
      have := ((h0.el j a').lt b e).2
      have := (hc.lt b hb).1
      omega
    · omega
theorem SWR.inr {B : Nat} {W : World} {out : List (List ByteArray)} {us : List Value} {o : Value} (h : SWR B out us o W) : InR W B o us out :=
  ⟨h.len, fun q hq => ⟨⟨(h.el q hq).sl, h.sz q hq⟩, rfl⟩, fun q hq b hb => ((h.el q hq).lt b hb).1, fun q hq => (h.el q hq).ne h.own (by decide), h.dj⟩
theorem SWR.made {B : Nat} {W : World} {out : List (List ByteArray)} {us : List Value} {o : Value} (h : SWR B out us o W) : ∃ F, RRowS W o out F ∧ Fr B F := by
  have hi := h.inr
  refine ⟨_, ⟨us, h.own.sl, ⟨hi.len, hi.sl, fun _ _ _ _ => Nat.zero_le _, hi.hd, hi.dj⟩, rfl⟩, ?_⟩
  intro b hb
  rcases List.mem_append.1 hb with hb | hb
  · exact (h.own.lt b (by simpa using hb)).1
  · obtain ⟨i, hi', hb⟩ := mem_fbl.1 hb
    exact hi.low i (by rw [← h.len]; exact hi') b hb
/-- Each header reads as a row, also the ones that are not there. -/
theorem SWR.rd {B b n c : Nat} {W w' : World} {out : List (List ByteArray)} {us : List Value} (h : SWR B out us (.slice (some ⟨b, 0, none⟩) n c) W) (hx : Ex [b] W w') (q : Nat) : RdS w' (gv us q) (gf out q) := by
  by_cases hq : q < out.length
  · have hs : RStringS W (gv us q) (gf out q) (gv us q).ownBlock.toList := ⟨⟨(h.el q hq).sl, h.sz q hq⟩, rfl⟩
    refine (hs.of_block (w' := w') fun k hk => ?_).rd
    have hk' : (gv us q).ownBlock = some k := by simpa using hk
    have hne : ¬ k = b := fun e => by
      subst e
      exact (h.el q hq).ne h.own (by decide) k hk' rfl
    exact hx.block k ((h.el q hq).lt k hk').2 (by simpa using hne)
  · have e1 : gf out q = [] := by simp [gf, List.getElem?_eq_none (Nat.le_of_not_lt hq)]
    have e2 : gv us q = .slice none 0 0 := by
      have : us.length ≤ q := by rw [h.len]; omega
      simp [gv, List.getElem?_eq_none this]
    rw [e1, e2]
    exact ⟨none, 0, rfl, Nat.le_refl _, Nat.zero_le _, fun i hi => absurd hi (by simp), fun h => absurd h (by simp)⟩
theorem SWR.hd {B b n c : Nat} {W : World} {out : List (List ByteArray)} {us : List Value} (h : SWR B out us (.slice (some ⟨b, 0, none⟩) n c) W) : HdV us := fun i => by
  obtain ⟨a, c, e⟩ := (h.rd (Ex.refl _ _) i).shape
  exact ⟨a, _, c, e⟩
theorem SWR.rv {B b n c : Nat} {W : World} {out : List (List ByteArray)} {us : List Value} (h : SWR B out us (.slice (some ⟨b, 0, none⟩) n c) W) : RV W b 0 c n us (pv n) ∧ out.length = n ∧ n ≤ c := by
  obtain ⟨h1, hR, _, _⟩ := h.own.opened'
  have e : ((pv n).map fun i => gv us i.toNat) = us := by
    apply List.ext_getElem (by simp [pv, h1])
    intro i a b
    rw [List.getElem_map, ← gi_eq (by simpa using a), gi_pv (by omega), Int.toNat_natCast, gv_eq b]
  have hl := hR.le
  refine ⟨⟨by rw [e]; exact hR, by omega, (pv_length n).symm⟩, by rw [← h.len, h1], by omega⟩
/-- The rows, sorted in place. -/
theorem SWR.sorted {B b n c : Nat} {W w : World} {out : List (List ByteArray)} {us : List Value} {D : List Int} (h : SWR B out us (.slice (some ⟨b, 0, none⟩) n c) W) (hx : Ex [b] W w) (hR : RV w b 0 c n us D) (hp : D.Perm (pv n)) :
    ∃ F, RRowS w (.slice (some ⟨b, 0, none⟩) n c) (D.map fun i => gf out i.toNat) F ∧ Fr B F := by
  obtain ⟨_, hl, _⟩ := h.rv
  have hn : n = D.length := hR.2.2
  have hsl : Sl w 40 (.slice (some ⟨b, 0, none⟩) n c) (D.map fun i => gv us i.toNat) := by
    have := Sl.of_row hR.1
    rwa [List.length_map, ← hn] at this
  have hnd : D.Nodup := hp.nodup_iff.2 (pv_nodup n)
  have key : ∀ i, i < D.length → (gi D i).toNat < n ∧ (((gi D i).toNat : Nat) : Int) = gi D i ∧ gv (D.map fun i => gv us i.toNat) i = gv us (gi D i).toNat ∧ gf (D.map fun i => gf out i.toNat) i = gf out (gi D i).toNat := by
    intro i hi
    have hm : gi D i ∈ pv n := hp.mem_iff.1 (by rw [gi_eq hi]; exact List.getElem_mem hi)
    simp only [pv, List.mem_map, List.mem_range] at hm
    obtain ⟨j, hj, he⟩ := hm
    have e2 : (gi D i).toNat = j := by rw [← he]; rfl
    refine ⟨by rw [e2]; exact hj, by rw [e2, ← he]; rfl, ?_, ?_⟩
    · rw [gv_eq (by simpa using hi), List.getElem_map, gi_eq hi]
    · rw [gf_eq (by simpa using hi), List.getElem_map, gi_eq hi]
  have hin : InR w B (.slice (some ⟨b, 0, none⟩) n c) (D.map fun i => gv us i.toNat) (D.map fun i => gf out i.toNat) := by
    refine ⟨by simp, ?_, ?_, ?_, ?_⟩
    · intro i hi
      rw [List.length_map] at hi
      obtain ⟨k1, _, k3, k4⟩ := key i hi
      rw [k3, k4]
      have hq : (gi D i).toNat < out.length := by omega
      have hs : RStringS W (gv us (gi D i).toNat) (gf out (gi D i).toNat) (gv us (gi D i).toNat).ownBlock.toList := ⟨⟨(h.el _ hq).sl, h.sz _ hq⟩, rfl⟩
      refine hs.of_block fun k hk => ?_
      have hk' : (gv us (gi D i).toNat).ownBlock = some k := by simpa using hk
      have hne : ¬ k = b := fun e => by
        subst e
        exact (h.el _ hq).ne h.own (by decide) k hk' rfl
      exact hx.block k ((h.el _ hq).lt k hk').2 (by simpa using hne)
    · intro i hi k hk
      rw [List.length_map] at hi
      obtain ⟨k1, _, k3, k4⟩ := key i hi
      rw [k3] at hk
      exact ((h.el _ (by omega)).lt k hk).1
    · intro i hi k hk
      rw [List.length_map] at hi
      obtain ⟨k1, _, k3, k4⟩ := key i hi
      rw [k3] at hk
      exact (h.el _ (by omega)).ne h.own (by decide) k hk
    · intro i j hi hj hij k hk
      rw [List.length_map] at hi hj
      obtain ⟨k1, k2, k3, _⟩ := key i hi
      obtain ⟨l1, l2, l3, _⟩ := key j hj
      rw [k3] at hk
      rw [l3]
      refine h.dj _ _ (by omega) (by omega) (fun e => ?_) k hk
      have : gi D i = gi D j := by rw [← k2, ← l2, e]
      rw [gi_eq hi, gi_eq hj] at this
      rcases Nat.lt_or_gt_of_ne hij with g | g
      · exact (List.pairwise_iff_getElem.1 hnd) i j hi hj g this
      · exact (List.pairwise_iff_getElem.1 hnd) j i hj hi g this.symm
  refine ⟨_, ⟨_, hsl, ⟨hin.len, hin.sl, fun _ _ _ _ => Nat.zero_le _, hin.hd, hin.dj⟩, rfl⟩, ?_⟩
  intro k hk
  rcases List.mem_append.1 hk with hk | hk
  · have : k = b := by simpa [Value.ownBlock] using hk
    subst this
    exact (h.own.lt k rfl).1
  · obtain ⟨i, hi, hk⟩ := mem_fbl.1 hk
    exact hin.low i (by simpa using hi) k hk
end Go.Proofs.YtoeonplbgbgjmaaDoor
