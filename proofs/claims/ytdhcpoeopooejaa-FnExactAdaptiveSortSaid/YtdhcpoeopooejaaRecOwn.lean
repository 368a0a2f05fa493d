/- Slices of records that a call appends to. -/
import Derived.Test.YtdhcpoeopooejaaPairs
import Derived.Test.YtdhcpoeopooejaaStep
namespace Go.Proofs.Ytdhcpoeopooejaa
open Go.RowKit Go.Deep

/-- Slice type T of two-int structs of type e. -/
def EltOk2 (T e : TypeId) : Prop := ∃ i z bytes, Try.prog.underlying T = some (.slice e) ∧ Try.prog.info? e = some i ∧ i.zero = some z ∧ i.size = 2 ∧ i.bytes = bytes ∧ bytes ≤ 64 ∧ z.cells.size = 2
/-- A slice of pairs that the call itself appends to. -/
def OwnQ (e : TypeId) (w : World) (B : Nat) (v : Value) (xs : List (Int × Int)) : Prop := w.ownsRow B e 2 v xs.length (recs xs)
theorem recs_append (xs ys : List (Int × Int)) : recs (xs ++ ys) = recs xs ++ recs ys := by simp [recs]
theorem recs_one (xs : List (Int × Int)) : ∀ u ∈ recs xs, u.oneCell' = true := by
  intro u hu
  simp [recs] at hu
  obtain ⟨a, b, _, h⟩ := hu
  rcases h with rfl | rfl <;> rfl
theorem OwnQ.lt {e : TypeId} {w : World} {B : Nat} {v : Value} {xs : List (Int × Int)} (h : OwnQ e w B v xs) : ∀ k, v.ownBlock = some k → B ≤ k ∧ k < w.heap.size := World.ownsRow.lt h
theorem OwnQ.kept {e : TypeId} {w w' : World} {B : Nat} {v : Value} {xs : List (Int × Int)} {r : Option Nat} (h : OwnQ e w B v xs) (hg : w.grownBy w' r) (hne : v.ownBlock = none ∨ v.ownBlock ≠ r) : OwnQ e w' B v xs := World.ownsRow.kept h hg hne
theorem OwnQ.alloc {e : TypeId} {w : World} {B : Nat} {v : Value} {xs : List (Int × Int)} (h : OwnQ e w B v xs) (o : Obj) : OwnQ e (w.alloc o) B v xs := World.ownsRow.alloc h o
theorem OwnQ.drewN {e : TypeId} {w : World} {B : Nat} {v : Value} {xs : List (Int × Int)} (h : OwnQ e w B v xs) (n : Nat) : OwnQ e (w.drewN n) B v xs := h
theorem OwnQ.below {e : TypeId} {w w' : World} {B : Nat} {v : Value} {xs : List (Int × Int)} (h : OwnQ e w B v xs) (hb : Below w.heap.size w w') : OwnQ e w' B v xs :=
  World.ownsRow.kept (row := none) h ⟨hb.os, hb.tape, hb.output, hb.size, fun k hk _ => hb.block k hk⟩ (by cases v.ownBlock <;> simp)
theorem OwnQ.empty (e : TypeId) (w : World) : OwnQ e (w.alloc (.cells #[] e)) w.heap.size (.slice (some ⟨w.heap.size, 0, none⟩) 0 0) [] :=
  World.ownsRow_made w #[] 0 (Nat.le_refl _) (Nat.zero_le _) (by simp)
theorem OwnQ.nil (e : TypeId) (w : World) (B : Nat) : OwnQ e w B (.slice none 0 0) [] := World.ownsRow_nil _ _ _ _
theorem OwnQ.base {e : TypeId} {w : World} {B B' : Nat} {v : Value} {xs : List (Int × Int)} (h : OwnQ e w B v xs) (hB : B' ≤ B) : OwnQ e w B' v xs := by
  obtain ⟨h1, h2⟩ := h
  refine ⟨h1, ?_⟩
  rcases h2 with h2 | ⟨g, cap, cur, a, b, c⟩
  · exact .inl h2
  · exact .inr ⟨g, cap, cur, a, Nat.le_trans hB b, c⟩
theorem OwnQ.sl {e : TypeId} {w : World} {B : Nat} {v : Value} {xs : List (Int × Int)} (h : OwnQ e w B v xs) (hx : xs.length ≤ 1000000000) : SlQ e w v xs := by
  obtain ⟨hl, hh⟩ := h
  rcases hh with ⟨rfl, hn⟩ | ⟨g, cap, cur, rfl, _, hg, hn, hm, hs, ht⟩
  · have : xs = [] := List.eq_nil_of_length_eq_zero hn
    subst this
    exact SlQ.nil w e
  · refine ⟨_, cap, rfl, .inr ⟨g, 0, rfl, ⟨by omega, hm⟩, cur, hg, by rw [recs_length]; omega, by omega, ?_, fun i hi => ?_⟩⟩
    · unfold maxLen
      omega
    · have h2 : (recs xs)[i]? = some (recs xs)[i] := List.getElem?_eq_getElem hi
      have h3 : i < xs.length * 2 := by rw [recs_length] at hi; omega
      rw [← h2, ← ht, List.getElem?_take, if_pos h3, Nat.zero_add]
      simp

/-- A slice of pairs that can be read, and appended whole. -/
def RdP (w : World) (v : Value) (ys : List (Int × Int)) : Prop :=
  ∃ ao c, v = .slice ao ys.length c ∧ ys.length ≤ c ∧ c ≤ maxLen ∧ (ao = none → ys.length = 0 ∧ c = 0) ∧
    (0 < ys.length → ∃ b off, ao = some ⟨b, off, none⟩ ∧ ∀ i, i < ys.length → w.cell? ⟨b, off + i * 2, none⟩ = some (.int .i64 (gr ys i).1) ∧ w.cell? ⟨b, off + i * 2 + 1, none⟩ = some (.int .i64 (gr ys i).2))
theorem SlQ.rdP {e : Nat} {w : World} {v : Value} {xs : List (Int × Int)} (h : SlQ e w v xs) : RdP w v xs := by
  have hr := h.rd
  obtain ⟨ao, c, rfl, h⟩ := h
  obtain ⟨ao', c', hv, h1, h2, h3⟩ := hr
  simp at hv
  obtain ⟨rfl, rfl⟩ := hv
  refine ⟨ao, c, rfl, h1, h2, ?_, h3⟩
  rintro rfl
  rcases h with ⟨_, rfl, rfl⟩ | ⟨b, off, hb, _⟩
  · exact ⟨rfl, rfl⟩
  · cases hb
theorem RdP.rd {w : World} {v : Value} {ys : List (Int × Int)} (h : RdP w v ys) : RdR w v ys := by
  obtain ⟨ao, c, rfl, h1, h2, _, h3⟩ := h
  exact ⟨ao, c, rfl, h1, h2, h3⟩
theorem RdP.below {w w' : World} {v : Value} {xs : List (Int × Int)} (h : RdP w v xs) (hb : Below w.heap.size w w') : RdP w' v xs := by
  obtain ⟨ao, c, rfl, h1, h2, hn, h3⟩ := h
  refine ⟨ao, c, rfl, h1, h2, hn, fun hp => ?_⟩
  obtain ⟨b, off, rfl, hr⟩ := h3 hp
  refine ⟨b, off, rfl, fun i hi => ?_⟩
  have := hr i hi
  have hlt : b < w.heap.size := block_lt_of_cell this.1
  rw [hb.cell (p := ⟨b, off + i * 2, none⟩) hlt, hb.cell (p := ⟨b, off + i * 2 + 1, none⟩) hlt]
  exact this
theorem gr_zero (x : Int × Int) (xs : List (Int × Int)) : gr (x :: xs) 0 = x := by simp [gr]
theorem gr_succ (x : Int × Int) (xs : List (Int × Int)) (i : Nat) : gr (x :: xs) (i + 1) = gr xs i := by simp [gr]
/-- The first element, and what is left behind 's = s[1:]'. -/
theorem RdP.cons {w : World} {ao : Option Addr} {n c : Nat} {x : Int × Int} {xs : List (Int × Int)} (h : RdP w (.slice ao n c) (x :: xs)) :
    ∃ b off, ao = some ⟨b, off, none⟩ ∧ n = xs.length + 1 ∧ n ≤ c ∧ c ≤ maxLen ∧ w.cell? ⟨b, off, none⟩ = some (.int .i64 x.1) ∧ w.cell? ⟨b, off + 1, none⟩ = some (.int .i64 x.2) ∧
      (c = 1 → RdP w (.slice (some ⟨b, off, none⟩) 0 0) xs ∧ xs = []) ∧ (c ≠ 1 → RdP w (.slice (some ⟨b, off + 2, none⟩) xs.length (c - 1)) xs) := by
  obtain ⟨ao', c', hv, h1, h2, _, h3⟩ := h
  simp only [Value.slice.injEq] at hv
  obtain ⟨rfl, rfl, rfl⟩ := hv
  obtain ⟨b, off, rfl, hc⟩ := h3 (by simp)
  have h0 := hc 0 (by simp)
  rw [gr_zero] at h0
  simp only [Nat.zero_mul, Nat.add_zero] at h0
  simp only [List.length_cons] at h1
  refine ⟨b, off, rfl, by simp, by simpa using h1, h2, h0.1, h0.2, fun e => ?_, fun e => ⟨_, _, rfl, by omega, by omega, by simp, fun hp => ⟨b, off + 2, rfl, fun i hi => ?_⟩⟩⟩
  · have : xs = [] := List.eq_nil_of_length_eq_zero (by omega)
    subst this
    exact ⟨⟨_, _, rfl, Nat.le_refl _, Nat.zero_le _, by simp, by simp⟩, rfl⟩
  · have := hc (i + 1) (by simpa using hi)
    rw [gr_succ] at this
    rw [show off + 2 + i * 2 = off + (i + 1) * 2 by omega]
    exact this
theorem RdP.empty {w : World} {ao : Option Addr} {n c : Nat} {xs : List (Int × Int)} (h : RdP w (.slice ao n c) xs) : n = xs.length ∧ n ≤ c ∧ c ≤ maxLen := by
  obtain ⟨ao', c', hv, h1, h2, _, h3⟩ := h
  simp only [Value.slice.injEq] at hv
  obtain ⟨rfl, rfl, rfl⟩ := hv
  exact ⟨rfl, h1, h2⟩
theorem RdP.shape {w : World} {v : Value} {xs : List (Int × Int)} (h : RdP w v xs) : ∃ ao c, v = .slice ao xs.length c ∧ xs.length ≤ c ∧ c ≤ maxLen := by
  obtain ⟨ao', c', hv, h1, h2, _, h3⟩ := h
  exact ⟨_, _, hv, h1, h2⟩
/-- A new cell pair as a slice. -/
theorem RdP.one (e : TypeId) (w : World) (a b : Int) : RdP (w.alloc (.cells #[.int .i64 a, .int .i64 b] e)) (.slice (some ⟨w.heap.size, 0, none⟩) 1 1) [(a, b)] := by
  refine ⟨_, _, rfl, Nat.le_refl _, by unfold maxLen; omega, by simp, fun _ => ⟨_, _, rfl, fun i hi => ?_⟩⟩
  simp at hi
  subst hi
  simp [gr, go_sem]
theorem recs_cells {w : World} {b off : Nat} {ys : List (Int × Int)} (hc : ∀ i, i < ys.length → w.cell? ⟨b, off + i * 2, none⟩ = some (.int .i64 (gr ys i).1) ∧ w.cell? ⟨b, off + i * 2 + 1, none⟩ = some (.int .i64 (gr ys i).2))
    (j : Nat) (u : Value) (hj : (recs ys)[j]? = some u) : w.cell? ((⟨b, off, none⟩ : Addr).add j) = some u := by
  have hl : j < (recs ys).length := (List.getElem?_eq_some_iff.1 hj).1
  rw [recs_length] at hl
  rw [Addr.add_lit]
  have hk := recs_key ys (j / 2) (by omega)
  have hh := hc (j / 2) (by omega)
  have : j = 2 * (j / 2) ∨ j = 2 * (j / 2) + 1 := by omega
  rcases this with e | e
  · have h2 := hk.1
    rw [← e, hj] at h2
    rw [show off + j = off + j / 2 * 2 by omega, hh.1, ← h2]
  · have h2 := hk.2
    rw [← e, hj] at h2
    rw [show off + j = off + j / 2 * 2 + 1 by omega, hh.2, ← h2]

/-- 'append(s, u...)' at pairs. -/
theorem append_recs {ops : Array Oper} {rest : List Oper} {o : Oper} {a : Act} {Q : Exit → Act → World → Prop} {w : World} {e T : TypeId} (E : EltOk2 T e) (hgd : o.guard = none) (s x : Operand)
    (ho : o.op = .call { callee := .builtin .append, args := #[s, x], argTypes := #[T, T] }) (B : Nat) (v : Value) (xs : List (Int × Int)) (hs : a.eval s = v) (hown : OwnQ e w B v xs)
    (u : Value) (ys : List (Int × Int)) (hx : a.eval x = u) (hu : RdP w u ys) (hl : xs.length + ys.length ≤ 1000000000) (hB : B ≤ w.heap.size)
    (h : ∀ v' w', OwnQ e w' B v' (xs ++ ys) → w.grownBy w' v.ownBlock → wpList Try.prog ops Q rest (a.put o.dst v') w') : wpList Try.prog ops Q (o :: rest) a w := by
  obtain ⟨i, z, bytes, ht, hi, hz, hsz, hby, hb64, hzs⟩ := E
  obtain ⟨ao, c, rfl, _, _, hn, hc⟩ := hu
  cases ao with
  | none =>
    obtain ⟨h0, rfl⟩ := hn rfl
    have : ys = [] := List.eq_nil_of_length_eq_zero h0
    subst this
    refine wpList_append_own_none hgd s x T ho B e i 2 ht hi v xs.length (recs xs) hs hown hx ?_
    exact h v w (by simpa using hown) (World.grownBy.refl _ _)
  | some ad =>
    refine wpList_append_own _ hgd s x T ho B e i z 2 bytes ht hi hz hsz hby hzs (by decide) v xs.length (recs xs) hs hown ad ys.length c (recs ys) hx (by rw [recs_length]; omega) ?_ (recs_one ys) ?_ ?_ hB ?_
    · intro j u hj
      have hjl : 0 < ys.length := by
        have := (List.getElem?_eq_some_iff.1 hj).1
        rw [recs_length] at this
        omega
      obtain ⟨b, off, hb, hcc⟩ := hc hjl
      simp at hb
      subst hb
      exact recs_cells hcc j u hj
    · unfold maxLen; omega
    · have : (xs.length + ys.length) * bytes ≤ 1000000000 * 64 := Nat.mul_le_mul hl hb64
      omega
    · intro v' w' ho' hg _
      refine h v' w' ?_ hg
      unfold OwnQ
      rw [List.length_append, recs_append]
      exact ho'
/-- .. as a step of a region that draws. -/
theorem step_append_recs {ops : Array Oper} {o : Oper} {a : Act} {K : Act → World → Prop} {Q : Exit → Act → World → Prop} {E0 : Prop} {w : World} {e T : TypeId} (E : EltOk2 T e) (hgd : o.guard = none) (s x : Operand)
    (ho : o.op = .call { callee := .builtin .append, args := #[s, x], argTypes := #[T, T] }) (B : Nat) (v : Value) (xs : List (Int × Int)) (hs : a.eval s = v) (hown : OwnQ e w B v xs)
    (u : Value) (ys : List (Int × Int)) (hx : a.eval x = u) (hu : RdP w u ys) (hl : xs.length + ys.length ≤ 1000000000) (hB : B ≤ w.heap.size)
    (h : ∀ v' w', OwnQ e w' B v' (xs ++ ys) → w.grownBy w' v.ownBlock → K (a.put o.dst v') w') :
    if Region.wanted o (yielded ops a.tmps) = true then Oper.wp Try.prog o a w K Q else E0 := by
  have hw : Region.wanted o (yielded ops a.tmps) = true := by simp [Region.wanted, hgd]
  rw [if_pos hw]
  obtain ⟨i, z, bytes, ht, hi, hz, hsz, hby, hb64, hzs⟩ := E
  obtain ⟨ao, c, rfl, _, _, hn, hc⟩ := hu
  cases ao with
  | none =>
    obtain ⟨h0, rfl⟩ := hn rfl
    have : ys = [] := List.eq_nil_of_length_eq_zero h0
    subst this
    have hrun := run_append_owned_none (P := Try.prog) (w := w) B T o.type e i 2 ht hi v xs.length (recs xs) hown
    have hk := h v w (by simpa using hown) (World.grownBy.refl _ _)
    unfold Oper.wp
    simp [execOp, ho, resolve, invoke, builtin, hs, hx, hrun, Result.andThen]
    exact hk
  | some ad =>
    obtain ⟨v', w', hrun, r1, r2, _⟩ := run_append_own (P := Try.prog) w B T o.type e i z 2 bytes ht hi hz hsz hby hzs (by decide) v xs.length (recs xs) hown ad ys.length c (recs ys) (by rw [recs_length]; omega)
      (by
        intro j u hj
        have hjl : 0 < ys.length := by
          have := (List.getElem?_eq_some_iff.1 hj).1
          rw [recs_length] at this
          omega
        obtain ⟨b, off, hb, hcc⟩ := hc hjl
        simp at hb
        subst hb
        exact recs_cells hcc j u hj) (recs_one ys) (by unfold maxLen; omega)
      (by
        have : (xs.length + ys.length) * bytes ≤ 1000000000 * 64 := Nat.mul_le_mul hl hb64
        omega) hB
    have hk := h v' w' (by unfold OwnQ; rw [List.length_append, recs_append]; exact r1) r2
    unfold Oper.wp
    simp [execOp, ho, resolve, invoke, builtin, hs, hx, hrun, Result.andThen]
    exact hk
theorem Below.appendedQ {e : TypeId} {B : Nat} {a w w' : World} {v : Value} {xs : List (Int × Int)} (h : Below B a w) (ho : OwnQ e w B v xs) (hg : w.grownBy w' v.ownBlock) (hB : B ≤ w.heap.size) : Below B a w' :=
  h.grown hg hB fun k hk => (ho.lt k hk).1
theorem eltRec : EltOk2 43 72 := by
  obtain ⟨i, h1, h2, h3, h4⟩ := info_parts infoRec
  exact ⟨i, _, 16, Try.underlying43, h1, h2, h3, h4, by omega, rfl⟩
/-- A call's result of records, in the words of the laws. -/
theorem OwnQ.law {w w' : World} {v : Value} {xs : List (Int × Int)} (h : OwnQ 72 w' w.heap.size v xs) (hx : xs.length ≤ 1000000000) : RRecordS w' v xs v.ownBlock.toList ∧ Fr w.heap.size v.ownBlock.toList :=
  ⟨⟨h.sl hx, rfl⟩, fun b hb => (h.lt b (by simpa using hb)).1⟩
theorem RRecordS.rdP {w : World} {v : Value} {x : List (Int × Int)} {F : List Nat} (h : RRecordS w v x F) : RdP w v x := SlQ.rdP h.1
end Go.Proofs.Ytdhcpoeopooejaa
