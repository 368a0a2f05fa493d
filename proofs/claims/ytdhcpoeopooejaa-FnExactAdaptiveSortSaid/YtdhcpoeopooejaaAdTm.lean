/- AdaptiveSort, spec: what a round keeps. -/
import Derived.Test.YtdhcpoeopooejaaAdI
import Derived.Test.YtdhcpoeopooejaaRunN
import Derived.Test.YtdhcpoeopooejaaBin
namespace Go.Proofs.Ytdhcpoeopooejaa
open Go.RowKit
set_option linter.unusedVariables false
set_option linter.unusedSimpArgs false

/-- Stack and comparisons ahead of round i of spec.AdaptiveSort. -/
def AP (ps : List (List (Int × Int))) (i : Nat) : List (List (Int × Int)) × Nat := if i ≤ ps.length then pushP ps i else endP ps
theorem AP_zero (ps : List (List (Int × Int))) : AP ps 0 = ([], 0) := by simp [AP, pushP]
theorem AP_le {ps : List (List (Int × Int))} {i : Nat} (h : i ≤ ps.length) : AP ps i = pushP ps i := by simp [AP, h]
theorem AP_push {ps : List (List (Int × Int))} {i : Nat} (h : i < ps.length) : AP ps (i + 1) = stl false (i + 1) ((AP ps i).1 ++ [gp ps i], (AP ps i).2) := by
  rw [AP_le (i := i + 1) (by omega), AP_le (i := i) (by omega)]; rfl
theorem AP_end (ps : List (List (Int × Int))) : AP ps (ps.length + 1) = stl true ps.length (AP ps ps.length) := by
  rw [AP_le (i := ps.length) (Nat.le_refl _)]
  unfold AP
  rw [if_neg (by omega)]; rfl
theorem AP_fin (ps : List (List (Int × Int))) : AP ps (ps.length + 1) = endP ps := by unfold AP; rw [if_neg (by omega)]
theorem ap_facts {x : List (Int × Int)} (hl : x.length ≤ 64) {i : Nat} (hi : i ≤ (partsF x).length) : (AP (partsF x) i).1.length ≤ i ∧ Gd 1000 (lens (AP (partsF x) i).1) ∧ (i < (partsF x).length → Gd 1000 (lens ((AP (partsF x) i).1 ++ [gp (partsF x) i]))) := by
  obtain ⟨h40, hpos, hsum⟩ := cnt_ok hl
  have hlp := lens_parts x
  have hcl : (cntF x).length = (partsF x).length := by rw [← hlp, lens_length]
  rw [AP_le hi]
  have e := push_lens (partsF x) i
  rw [hlp] at e
  have hk := planK_facts hpos i (by omega)
  have hg := plan_gd hpos i (by omega)
  have hs := sum_take_le hpos i
  refine ⟨?_, ?_, fun hlt => ?_⟩
  · have h1 := congrArg List.length e
    rw [lens_length] at h1
    omega
  · rw [e]; exact hg.le (by omega)
  · rw [lens_snoc, e]
    have h1 : ((gp (partsF x) i).length : Int) = gi (cntF x) i := by rw [← gi_lens, hlp]
    rw [h1]
    have hx : 1 ≤ gi (cntF x) i ∧ gi (cntF x) i ≤ 100000 := by rw [gi_eq (by omega)]; exact hpos _ (List.getElem_mem _)
    refine (hg.push (x := gi (cntF x) i) (y := gi (cntF x) i) (by omega) (Int.le_refl _)).le ?_
    have h2 := sum_take hpos (i := i) (by omega)
    have h3 := sum_take_le hpos (i + 1)
    omega
/-- A part that is being turned. -/
def rvk (C : List (Int × Int)) (k : Nat) : List (Int × Int) := C.reverse.take k ++ C.drop k
theorem rvk_length {C : List (Int × Int)} {k : Nat} : (rvk C k).length = C.length := by
  simp [rvk]; omega
theorem rvk_zero (C : List (Int × Int)) : rvk C 0 = C := by simp [rvk]
theorem rvk_full (C : List (Int × Int)) : rvk C C.length = C.reverse := by
  unfold rvk
  rw [List.drop_length, List.append_nil, List.take_of_length_le (by simp)]
theorem rvk_set {C : List (Int × Int)} {k n : Nat} (hn : C.length = n) (hk : k < n) : (rvk C k).set k (gr C (n - 1 - k)) = rvk C (k + 1) := by
  subst hn
  have hr : (C.reverse)[k]'(by simpa using hk) = gr C (C.length - 1 - k) := by rw [List.getElem_reverse, gr_eq (by omega)]
  unfold rvk
  rw [List.set_append_right _ _ (by simp; omega), List.drop_eq_getElem_cons hk, ← List.take_append_getElem (l := C.reverse) (i := k) (by simpa using hk), hr]
  simp only [List.length_take, List.length_reverse, Nat.min_eq_left (Nat.le_of_lt hk), Nat.sub_self, List.set_cons_zero, List.append_assoc, List.singleton_append]
structure TS (w : World) (rv : Value) (R : List (Int × Int)) (S : List (List (Int × Int))) (L : List Int) (us : List Value) (o sz : Value) (wq : World) : Prop where
  sk : PS w.heap.size S us o wq
  so : Own wq 3 w.heap.size sz (ints L)
  rs : SlQ 80 wq rv R
  bel : Below w.heap.size w wq
theorem TS.below {w : World} {rv : Value} {R : List (Int × Int)} {S : List (List (Int × Int))} {L : List Int} {us : List Value} {o sz : Value} {wq w' : World} (h : TS w rv R S L us o sz wq) (hb : Below wq.heap.size wq w') : TS w rv R S L us o sz w' :=
  ⟨h.sk.below hb, h.so.below hb, h.rs.of_block (fun k hk => hb.block k (h.rs.lt k hk)), Below.next h.bel hb⟩
theorem TS.push {w : World} {rv : Value} {R : List (Int × Int)} {S : List (List (Int × Int))} {L : List Int} {us : List Value} {o o' sz v : Value} {p : List (Int × Int)} {wq w' : World} (h : TS w rv R S L us o sz wq) (hv : El w.heap.size wq v p) (ho : Own w' 43 w.heap.size o' (us ++ [v])) (hg : wq.grownBy w' o.ownBlock) :
    TS w rv R (S ++ [p]) L (us ++ [v]) o' sz w' :=
  ⟨h.sk.push hv ho hg, h.so.keptOf h.sk.own (by decide) hg, h.rs.gr hg (fun b hb => by obtain ⟨cs, h1⟩ := h.sk.own.typed hb; exact ⟨cs, _, h1, by decide⟩), Below.appended h.bel h.sk.own hg h.bel.size⟩
theorem TS.grow {w : World} {rv : Value} {R : List (Int × Int)} {S : List (List (Int × Int))} {L L' : List Int} {us : List Value} {o sz sz' : Value} {wq w' : World} (h : TS w rv R S L us o sz wq) (ho : Own w' 3 w.heap.size sz' (ints L')) (hg : wq.grownBy w' sz.ownBlock) :
    TS w rv R S L' us o sz' w' :=
  ⟨h.sk.gr hg (h.sk.own.neq h.so (by decide) (by obtain ⟨b, hb, _⟩ := h.sk.block; exact ⟨b, hb⟩)) (fun b hb => h.so.nr (by decide) hb), ho, h.rs.gr hg (fun b hb => by obtain ⟨cs, h1⟩ := h.so.typed hb; exact ⟨cs, _, h1, by decide⟩), Below.appended h.bel h.so hg h.bel.size⟩
theorem take_one {α : Type} (us : List α) (k : Nat) (v : α) : (([] ++ us.take k) ++ [v]) ++ us.drop (k + 2) = us.take k ++ (v :: us.drop (k + 2)) := by simp
theorem PS.rebuilt {B B' k : Nat} {S : List (List (Int × Int))} {us : List Value} {o o' v : Value} {M : List (Int × Int)} {wr w' : World} (h : PS B S us o wr) (hk : k + 2 ≤ S.length) (hv : El B wr v M)
    (ho : Own w' 43 B' o' (us.take k ++ (v :: us.drop (k + 2)))) (hB : B ≤ B') (hb : Below wr.heap.size wr w') : PS B (S.take k ++ (M :: S.drop (k + 2))) (us.take k ++ (v :: us.drop (k + 2))) o' w' := by
  have hlen := h.len
  refine ⟨ho.base hB, ?_, by simp [hlen], fun q hq => ?_⟩
  · obtain ⟨hl, hh⟩ := ho
    rcases hh with ⟨_, h2⟩ | ⟨g, cap, cur, hv, _⟩
    · simp at h2
    · exact ⟨g, cap, hv⟩
  rw [List.length_append, List.length_take, List.length_cons, List.length_drop] at hq
  have e1 : gv (us.take k ++ (v :: us.drop (k + 2))) q = if q < k then gv us q else if q = k then v else gv us (q + 1) := by
    unfold gv
    rw [List.getD_eq_getElem?_getD, List.getElem?_append, List.length_take, show min k us.length = k by omega]
    by_cases b : q < k
    · rw [if_pos b, if_pos b, List.getElem?_take_of_lt b, List.getD_eq_getElem?_getD]
    · rw [if_neg b, if_neg b]
      by_cases a : q = k
      · subst a; simp
      · rw [if_neg a, show q - k = (q - k - 1) + 1 by omega, List.getElem?_cons_succ, List.getElem?_drop, List.getD_eq_getElem?_getD, show k + 2 + (q - k - 1) = q + 1 by omega]
  have e2 : gp (S.take k ++ (M :: S.drop (k + 2))) q = if q < k then gp S q else if q = k then M else gp S (q + 1) := by
    unfold gp
    rw [List.getD_eq_getElem?_getD, List.getElem?_append, List.length_take, show min k S.length = k by omega]
    by_cases b : q < k
    · rw [if_pos b, if_pos b, List.getElem?_take_of_lt b, List.getD_eq_getElem?_getD]
    · rw [if_neg b, if_neg b]
      by_cases a : q = k
      · subst a; simp
      · rw [if_neg a, show q - k = (q - k - 1) + 1 by omega, List.getElem?_cons_succ, List.getElem?_drop, List.getD_eq_getElem?_getD, show k + 2 + (q - k - 1) = q + 1 by omega]
  rw [e1, e2]
  split
  · exact (h.el q (by omega)).below hb
  · split
    · exact hv.below hb
    · exact (h.el (q + 1) (by omega)).below hb
theorem TS.stack {w : World} {rv : Value} {R : List (Int × Int)} {S : List (List (Int × Int))} {L : List Int} {us : List Value} {o o' sz v : Value} {M : List (Int × Int)} {wq w' : World} {k B' : Nat} (h : TS w rv R S L us o sz wq) (hk : k + 2 ≤ S.length) (hv : El w.heap.size wq v M)
    (ho : Own w' 43 B' o' ((([] ++ us.take k) ++ [v]) ++ us.drop (k + 2))) (hB : wq.heap.size ≤ B') (hb : Below wq.heap.size wq w') :
    TS w rv R (S.take k ++ (M :: S.drop (k + 2))) L (us.take k ++ (v :: us.drop (k + 2))) o' sz w' := by
  rw [take_one] at ho
  exact ⟨h.sk.rebuilt hk hv ho (Nat.le_trans h.bel.size hB) hb, h.so.below hb, h.rs.of_block (fun k hk => hb.block k (h.rs.lt k hk)), Below.next h.bel hb⟩
theorem TS.sizes {w : World} {rv : Value} {R : List (Int × Int)} {S : List (List (Int × Int))} {L : List Int} {us : List Value} {o sz sz' : Value} {wq w' : World} {k B' : Nat} {z : Int} (h : TS w rv R S L us o sz wq)
    (ho : Own w' 3 B' sz' ((([] ++ ints (L.take k)) ++ [.int .i64 z]) ++ ints (L.drop (k + 2)))) (hB : wq.heap.size ≤ B') (hb : Below wq.heap.size wq w') :
    TS w rv R S (L.take k ++ (z :: L.drop (k + 2))) us o sz' w' := by
  have he : (([] ++ ints (L.take k)) ++ [.int .i64 z]) ++ ints (L.drop (k + 2)) = ints (L.take k ++ (z :: L.drop (k + 2))) := by simp [ints]
  rw [he] at ho
  exact ⟨h.sk.below hb, ho.base (Nat.le_trans h.bel.size hB), h.rs.of_block (fun k hk => hb.block k (h.rs.lt k hk)), Below.next h.bel hb⟩
theorem lens_mg (S : List (List (Int × Int))) (k : Nat) (M : List (Int × Int)) : lens (S.take k ++ (M :: S.drop (k + 2))) = (lens S).take k ++ ((M.length : Int) :: (lens S).drop (k + 2)) := by
  simp [lens, List.map_append, List.map_take, List.map_drop]
/-- The forms of a stack and of its sizes. -/
theorem Own.form1 {w : World} {e B n c : Nat} {ao : Option Addr} {xs : List Value} (h : Own w e B (.slice ao n c) xs) (hn : 0 < n) : ∃ b, ao = some ⟨b, 0, none⟩ ∧ B ≤ b ∧ Row w e b 0 c xs ∧ xs.length = n := by
  have h' := h
  obtain ⟨hl, hh⟩ := h
  rcases hh with ⟨hv, _⟩ | ⟨g, cap, cur, hv, hg, _⟩
  · simp at hv; omega
  · simp at hv
    obtain ⟨rfl, rfl, rfl⟩ := hv
    exact ⟨g, rfl, hg, Row.of_owns h', rfl⟩
theorem Below.set1 {B : Nat} {a w : World} {p : Addr} {v : Value} (h : Below B a w) (hp : B ≤ p.block) : Below B a (w.setCell p v) :=
  ⟨h.os, h.tape, h.output, by simpa [World.setCell] using h.size, fun k hk => (heap_setCell_other w p k v (by omega)).trans (h.block k hk)⟩
theorem Below.set2 {B : Nat} {a w : World} {b i j : Nat} {x y : Value} (h : Below B a w) (hb : B ≤ b) : Below B a ((w.setCell ⟨b, i, none⟩ x).setCell ⟨b, j, none⟩ y) :=
  Below.set1 (p := ⟨b, j, none⟩) (Below.set1 (p := ⟨b, i, none⟩) h hb) hb
end Go.Proofs.Ytdhcpoeopooejaa
