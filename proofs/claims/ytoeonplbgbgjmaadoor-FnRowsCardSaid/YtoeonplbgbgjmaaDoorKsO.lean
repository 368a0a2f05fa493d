/- Slices of key specs that a call appends to; marks of key specs. -/
import Derived.Test.YtoeonplbgbgjmaaDoorMg6
import Derived.Test.YtoeonplbgbgjmaaDoorMg3
import Derived.Test.YtoeonplbgbgjmaaDoorMg5
namespace Go.Proofs.YtoeonplbgbgjmaaDoor
open Go.RowKit Go.Deep

/-- A slice of key specs that the call itself appends to. -/
def OwnK (w : World) (B : Nat) (v : Value) (xs : List KS) : Prop := w.ownsRow B 71 4 v xs.length (kss xs)
theorem OwnK.lt {w : World} {B : Nat} {v : Value} {xs : List KS} (h : OwnK w B v xs) : ∀ k, v.ownBlock = some k → B ≤ k ∧ k < w.heap.size := World.ownsRow.lt h
theorem OwnK.drewN {w : World} {B : Nat} {v : Value} {xs : List KS} (h : OwnK w B v xs) (n : Nat) : OwnK (w.drewN n) B v xs := h
theorem OwnK.alloc {w : World} {B : Nat} {v : Value} {xs : List KS} (h : OwnK w B v xs) (o : Obj) : OwnK (w.alloc o) B v xs := World.ownsRow.alloc h o
theorem OwnK.below {w w' : World} {B : Nat} {v : Value} {xs : List KS} (h : OwnK w B v xs) (hb : Below w.heap.size w w') : OwnK w' B v xs :=
  World.ownsRow.kept (row := none) h ⟨hb.os, hb.tape, hb.output, hb.size, fun k hk _ => hb.block k hk⟩ (by cases v.ownBlock <;> simp)
theorem OwnK.empty (w : World) : OwnK (w.alloc (.cells #[] 71)) w.heap.size (.slice (some ⟨w.heap.size, 0, none⟩) 0 0) [] :=
  World.ownsRow_made w #[] 0 (Nat.le_refl _) (Nat.zero_le _) (by simp)
theorem OwnK.nil (w : World) (B : Nat) : OwnK w B (.slice none 0 0) [] := World.ownsRow_nil _ _ _ _
theorem OwnK.base {w : World} {B B' : Nat} {v : Value} {xs : List KS} (h : OwnK w B v xs) (hB : B' ≤ B) : OwnK w B' v xs := by
  obtain ⟨h1, h2⟩ := h
  refine ⟨h1, ?_⟩
  rcases h2 with h2 | ⟨g, cap, cur, a, b, c⟩
  · exact .inl h2
  · exact .inr ⟨g, cap, cur, a, Nat.le_trans hB b, c⟩
theorem OwnK.sl {w : World} {B : Nat} {v : Value} {xs : List KS} (h : OwnK w B v xs) (hx : xs.length ≤ 1000000000) : SlK w v xs := by
  obtain ⟨hl, hh⟩ := h
  rcases hh with ⟨rfl, hn⟩ | ⟨g, cap, cur, rfl, _, hg, hn, hm, hs, ht⟩
  · have : xs = [] := List.eq_nil_of_length_eq_zero hn
    subst this
    exact ⟨none, 0, rfl, .inl ⟨rfl, rfl, rfl⟩⟩
  · refine ⟨_, cap, rfl, .inr ⟨g, 0, rfl, ⟨by omega, hm⟩, cur, hg, by rw [kss_length]; omega, by omega, ?_, fun i hi => ?_⟩⟩
    · unfold maxLen
      omega
    · have h2 : (kss xs)[i]? = some (kss xs)[i] := List.getElem?_eq_getElem hi
      have h3 : i < xs.length * 4 := by rw [kss_length] at hi; omega
      rw [← h2, ← ht, List.getElem?_take, if_pos h3, Nat.zero_add]
      simp
theorem OwnK.law {w w' : World} {v : Value} {xs : List KS} (h : OwnK w' w.heap.size v xs) (hx : xs.length ≤ 1000000000) : RKeySpecS w' v xs v.ownBlock.toList ∧ Fr w.heap.size v.ownBlock.toList :=
  ⟨⟨h.sl hx, rfl⟩, fun b hb => (h.lt b (by simpa using hb)).1⟩
theorem OwnK.shape {w : World} {B : Nat} {v : Value} {xs : List KS} (h : OwnK w B v xs) : ∃ ao c, v = .slice ao xs.length c := by
  obtain ⟨hl, hh⟩ := h
  rcases hh with ⟨rfl, hn⟩ | ⟨g, cap, cur, rfl, _, hg, hn, hm, hs, ht⟩
  · exact ⟨_, _, by rw [hn]⟩
  · exact ⟨_, _, rfl⟩
theorem one_cells {w : World} {b : Nat} {x : KS} (h : K4 w b 0 x) (j : Nat) (u : Value) (hj : (kss [x])[j]? = some u) : w.cell? ((⟨b, 0, none⟩ : Addr).add j) = some u := by
  obtain ⟨h1, h2, h3, h4⟩ := h
  have hl : j < 4 := by have := (List.getElem?_eq_some_iff.1 hj).1; simpa using this
  rw [Addr.add_lit]
  have : j = 0 ∨ j = 1 ∨ j = 2 ∨ j = 3 := by omega
  rcases this with rfl | rfl | rfl | rfl <;> simp [kss] at hj <;> subst hj <;> assumption
/-- 'append(s, k)' of one key spec. -/
theorem append_kss1 {ops : Array Oper} {rest : List Oper} {o : Oper} {a : Act} {Q : Exit → Act → World → Prop} {w : World} (hgd : o.guard = none) (s x : Operand)
    (ho : o.op = .call { callee := .builtin .append, args := #[s, x], argTypes := #[26, 26] }) (B : Nat) (v : Value) (xs : List KS) (hs : a.eval s = v) (hown : OwnK w B v xs)
    (b : Nat) (y : KS) (hx : a.eval x = .slice (some ⟨b, 0, none⟩) 1 1) (hu : K4 w b 0 y) (hl : xs.length ≤ 100000000) (hB : B ≤ w.heap.size)
    (h : ∀ v' w', OwnK w' B v' (xs ++ [y]) → w.grownBy w' v.ownBlock → wpList Tryd.prog ops Q rest (a.put o.dst v') w') : wpList Tryd.prog ops Q (o :: rest) a w := by
  obtain ⟨i, hi, hz, hsz, hby⟩ := info_parts infoKs
  refine wpList_append_own _ hgd s x 26 ho B 71 i (.agg #[.int .i64 0, .bool false, .bool false, .bool false]) 4 16 Tryd.underlying26 hi hz hsz hby rfl (by decide) v xs.length (kss xs) hs hown ⟨b, 0, none⟩ 1 1 (kss [y]) hx (by simp) ?_ (kss_one [y]) ?_ ?_ hB ?_
  · exact one_cells hu
  · unfold maxLen; omega
  · omega
  · intro v' w' ho' hg _
    refine h v' w' ?_ hg
    unfold OwnK
    rw [List.length_append, kss_append]
    exact ho'
/-- .. as a step of a region that draws. -/
theorem step_append_kss1 {ops : Array Oper} {o : Oper} {a : Act} {K : Act → World → Prop} {Q : Exit → Act → World → Prop} {E0 : Prop} {w : World} (hgd : o.guard = none) (s x : Operand)
    (ho : o.op = .call { callee := .builtin .append, args := #[s, x], argTypes := #[26, 26] }) (B : Nat) (v : Value) (xs : List KS) (hs : a.eval s = v) (hown : OwnK w B v xs)
    (b : Nat) (y : KS) (hx : a.eval x = .slice (some ⟨b, 0, none⟩) 1 1) (hu : K4 w b 0 y) (hl : xs.length ≤ 100000000) (hB : B ≤ w.heap.size)
    (h : ∀ v' w', OwnK w' B v' (xs ++ [y]) → w.grownBy w' v.ownBlock → K (a.put o.dst v') w') :
    if Region.wanted o (yielded ops a.tmps) = true then Oper.wp Tryd.prog o a w K Q else E0 := by
  have hw : Region.wanted o (yielded ops a.tmps) = true := by simp [Region.wanted, hgd]
  rw [if_pos hw]
  obtain ⟨i, hi, hz, hsz, hby⟩ := info_parts infoKs
  obtain ⟨v', w', hrun, r1, r2, _⟩ := run_append_own (P := Tryd.prog) w B 26 o.type 71 i (.agg #[.int .i64 0, .bool false, .bool false, .bool false]) 4 16 Tryd.underlying26 hi hz hsz hby rfl (by decide) v xs.length (kss xs) hown ⟨b, 0, none⟩ 1 1 (kss [y]) (by simp)
    (one_cells hu) (kss_one [y]) (by unfold maxLen; omega) (by omega) hB
  have hk := h v' w' (by unfold OwnK; rw [List.length_append, kss_append]; exact r1) r2
  unfold Oper.wp
  simp [execOp, ho, resolve, invoke, builtin, hs, hx, hrun, Result.andThen]
  exact hk
theorem Below.appendedK {B : Nat} {a w w' : World} {v : Value} {xs : List KS} (h : Below B a w) (ho : OwnK w B v xs) (hg : w.grownBy w' v.ownBlock) (hB : B ≤ w.heap.size) : Below B a w' :=
  h.grown hg hB fun k hk => (ho.lt k hk).1
theorem K4.ofNew (w : World) (x : KS) (e : TypeId) : K4 (w.alloc (.cells #[.int .i64 x.1, .bool x.2.1, .bool x.2.2.1, .bool x.2.2.2] e)) w.heap.size 0 x := by
  refine ⟨?_, ?_, ?_, ?_⟩ <;> simp [go_sem]
theorem OwnK.app {B q : Nat} {a wr w' : World} {v : Value} {xs : List KS} {o : Obj} (hb : Below B a wr) (ho : OwnK wr B v xs) (hB : B ≤ wr.heap.size) (hg : ((wr.drewN q).alloc o).grownBy w' v.ownBlock) : Below B a w' :=
  Below.appendedK (Below.alloc (Below.drewN hb q) hB o) (OwnK.alloc (OwnK.drewN ho q) o) hg (by simp; omega)
theorem OwnK.apart {w : World} {B : Nat} {v u : Value} {xs : List KS} {P : List ByteArray} {F : List Nat} (h : OwnK w B v xs) (hr : RStringS w u P F) : ∀ b ∈ F, some b ≠ v.ownBlock := by
  obtain ⟨⟨hs, _⟩, rfl⟩ := hr
  intro b hb e
  obtain ⟨ao, c, rfl, hs⟩ := hs
  rcases hs with ⟨rfl, _⟩ | ⟨b1, off, rfl, cs, h1, _⟩
  · simp [Value.ownBlock] at hb
  · simp [Value.ownBlock] at hb
    subst hb
    obtain ⟨_, hh⟩ := h
    rcases hh with ⟨rfl, _⟩ | ⟨g, cap, cur, rfl, _, hg, _⟩
    · simp [Value.ownBlock] at e
    · simp [Value.ownBlock] at e
      subst e
      rw [h1] at hg
      simp at hg
theorem OwnK.keepS {w w' : World} {B : Nat} {v u : Value} {xs : List KS} {P : List ByteArray} {F : List Nat} (h : OwnK w B v xs) (hr : RStringS w u P F) (hg : w.grownBy w' v.ownBlock) : RStringS w' u P F :=
  hr.of_block fun b hb => hg.block b (hr.lt b hb) (h.apart hr b hb)
end Go.Proofs.YtoeonplbgbgjmaaDoor
