/- Slices of slices of ints: how they lie in memory. -/
import Derived.Test.YtdhcpoeopooejaaApply
import Derived.Maps.AppendAt
namespace Go.Proofs.Ytdhcpoeopooejaa
open Go.RowKit
set_option linter.unusedVariables false
set_option linter.unusedSimpArgs false

/-- 'append(s, x)', x one value in a new cell; where the new row lies. -/
theorem append_one_at {ops : Array Oper} {rest : List Oper} {o : Oper} {a : Act} {Q : Exit → Act → World → Prop} {w : World} {y : Value} {e T : TypeId} (E : EltOk T e) (hgd : o.guard = none) (s x : Operand)
    (ho : o.op = .call { callee := .builtin .append, args := #[s, x], argTypes := #[T, T] }) (B : Nat) (v : Value) (xs : List Value) (hs : a.eval s = v) (hown : Own w e B v xs)
    (hx : a.eval x = .slice (some ⟨w.heap.size, 0, none⟩) 1 1) (hy : y.oneCell' = true) (hl : xs.length ≤ 1000000000) (hB : B ≤ w.heap.size)
    (h : ∀ v' w', Own w' e B v' (xs ++ [y]) → w.grownBy w' v.ownBlock → (v'.ownBlock = v.ownBlock ∨ v'.ownBlock = some (w.heap.size + 1)) → wpList Try.prog ops Q rest (a.put o.dst v') w') : wpList Try.prog ops Q (o :: rest) a (w.alloc (.cells #[y] e)) := by
  obtain ⟨i, z, bytes, ht, hi, hz, hsz, hby, hb64, hzs⟩ := E
  refine wpList_append_own_at _ hgd s x T ho B e i z 1 bytes ht hi hz hsz hby hzs (by decide) v xs.length xs hs (hown.alloc _) ⟨w.heap.size, 0, none⟩ 1 1 [y] hx rfl ?_ ?_ ?_ ?_ ?_ ?_
  · intro j u hj
    match j, hj with
    | 0, hj =>
      simp at hj
      subst hj
      rw [Addr.add_lit]
      simp [go_sem]
    | n + 1, hj => simp at hj
  · intro u hu
    simp at hu
    subst hu
    exact hy
  · unfold maxLen; omega
  · have : (xs.length + 1) * bytes ≤ 1000000001 * 64 := Nat.mul_le_mul (by omega) hb64
    omega
  · have : (w.alloc (.cells #[y] e)).heap.size = w.heap.size + 1 := by simp
    omega
  · intro v' w' ho' hg _ hat
    refine h v' w' ?_ ?_ (by simpa using hat)
    · unfold Own
      rw [List.length_append]
      exact ho'
    · have h1 := World.grownBy_alloc w (.cells #[y] e) v.ownBlock
      exact ⟨hg.os.trans h1.os, hg.tape.trans h1.tape, hg.output.trans h1.output, Nat.le_trans h1.size hg.size, fun k hk hr => (hg.block k (Nat.lt_of_lt_of_le hk h1.size) hr).trans (h1.block k hk hr)⟩
/-- The same, the size of the memory under its own name. -/
theorem append_one_z {ops : Array Oper} {rest : List Oper} {o : Oper} {a : Act} {Q : Exit → Act → World → Prop} {w : World} {y : Value} {e T : TypeId} (E : EltOk T e) (hgd : o.guard = none) (s x : Operand)
    (ho : o.op = .call { callee := .builtin .append, args := #[s, x], argTypes := #[T, T] }) (B : Nat) (v : Value) (xs : List Value) (hs : a.eval s = v) (hown : Own w e B v xs) (z : Nat) (hz : z = w.heap.size)
    (hx : a.eval x = .slice (some ⟨z, 0, none⟩) 1 1) (hy : y.oneCell' = true) (hl : xs.length ≤ 1000000000) (hB : B ≤ w.heap.size)
    (h : ∀ v' w', Own w' e B v' (xs ++ [y]) → w.grownBy w' v.ownBlock → (v'.ownBlock = v.ownBlock ∨ v'.ownBlock = some (w.heap.size + 1)) → wpList Try.prog ops Q rest (a.put o.dst v') w') : wpList Try.prog ops Q (o :: rest) a (w.alloc (.cells #[y] e)) :=
  append_one_at E hgd s x ho B v xs hs hown (by rw [hx, hz]) hy hl hB h
/-- A slice of one-cell elements, opened. -/
theorem Sl.opened {w : World} {e : Nat} {v : Value} {xs : List Value} (h : Sl w e v xs) :
    ∃ ao c, v = .slice ao xs.length c ∧ xs.length ≤ c ∧ c ≤ maxLen ∧ (0 < xs.length → ∃ b off, ao = some ⟨b, off, none⟩ ∧ Row w e b off c xs) := by
  obtain ⟨ao, c, rfl, h⟩ := h
  rcases h with ⟨rfl, rfl, rfl⟩ | ⟨b, off, rfl, hr⟩
  · exact ⟨_, _, rfl, Nat.zero_le _, Nat.zero_le _, fun h => absurd h (by simp)⟩
  · exact ⟨_, _, rfl, hr.le, hr.capLe, fun _ => ⟨b, off, rfl, hr⟩⟩

/-- The length of a slice value. -/
def slN : Value → Nat
  | .slice _ n _ => n
  | _ => 0
def gv (us : List Value) (i : Nat) : Value := us.getD i (.slice none 0 0)
def gl (x : List (List Int)) (i : Nat) : List Int := x.getD i []
theorem gv_eq {us : List Value} {i : Nat} (h : i < us.length) : gv us i = us[i] := by simp [gv, h]
theorem gl_eq {x : List (List Int)} {i : Nat} (h : i < x.length) : gl x i = x[i] := by simp [gl, h]
theorem gv_snoc_lt {us : List Value} {u : Value} {i : Nat} (h : i < us.length) : gv (us ++ [u]) i = gv us i := by simp [gv, List.getD_eq_getElem?_getD, List.getElem?_append_left h]
theorem gv_snoc_eq {us : List Value} {u : Value} : gv (us ++ [u]) us.length = u := by simp [gv]
theorem gl_snoc_lt {x : List (List Int)} {c : List Int} {i : Nat} (h : i < x.length) : gl (x ++ [c]) i = gl x i := by simp [gl, List.getD_eq_getElem?_getD, List.getElem?_append_left h]
theorem gl_snoc_eq {x : List (List Int)} {c : List Int} : gl (x ++ [c]) x.length = c := by simp [gl]
theorem gl_ext {x y : List (List Int)} (hl : x.length = y.length) (h : ∀ j, j < x.length → gl x j = gl y j) : x = y := by
  apply List.ext_getElem hl
  intro i h1 h2
  have := h i h1
  rwa [gl_eq h1, gl_eq h2] at this

/-- The elements us of a header v read as x, each in blocks of its own, none below B. -/
structure Inn (w : World) (B : Nat) (v : Value) (us : List Value) (x : List (List Int)) : Prop where
  len : us.length = x.length
  sl : ∀ i, i < x.length → Sl w 3 (gv us i) (ints (gl x i))
  low : ∀ i, i < x.length → ∀ b, (gv us i).ownBlock = some b → B ≤ b
  hd : ∀ i, i < x.length → ∀ b, (gv us i).ownBlock = some b → v.ownBlock ≠ some b
  dj : ∀ i j, i < x.length → j < x.length → i ≠ j → ∀ b, (gv us i).ownBlock = some b → (gv us j).ownBlock ≠ some b
theorem Inn.nil (w : World) (B : Nat) (v : Value) : Inn w B v [] [] := ⟨rfl, fun _ h => absurd h (by simp), fun _ h => absurd h (by simp), fun _ h => absurd h (by simp), fun _ _ h => absurd h (by simp)⟩
theorem Inn.lt {w : World} {B : Nat} {v : Value} {us : List Value} {x : List (List Int)} (h : Inn w B v us x) {i : Nat} (hi : i < x.length) {b : Nat} (hb : (gv us i).ownBlock = some b) : b < w.heap.size := (h.sl i hi).lt b hb
theorem Inn.of_block {w w' : World} {B : Nat} {v : Value} {us : List Value} {x : List (List Int)} (h : Inn w B v us x) (hb : ∀ i, i < x.length → ∀ b, (gv us i).ownBlock = some b → w'.heap[b]? = w.heap[b]?) : Inn w' B v us x :=
  ⟨h.len, fun i hi => (h.sl i hi).of_block (hb i hi), h.low, h.hd, h.dj⟩
theorem Inn.snoc {w : World} {B : Nat} {v v' u : Value} {us : List Value} {x : List (List Int)} {c : List Int} (h : Inn w B v us x) (hu : Sl w 3 u (ints c))
    (h1 : ∀ b, u.ownBlock = some b → B ≤ b ∧ v'.ownBlock ≠ some b ∧ ∀ i, i < x.length → (gv us i).ownBlock ≠ some b)
    (h2 : ∀ i, i < x.length → ∀ b, (gv us i).ownBlock = some b → v'.ownBlock ≠ some b) : Inn w B v' (us ++ [u]) (x ++ [c]) := by
  have key : ∀ i, i < (x ++ [c]).length → (i < x.length ∧ gv (us ++ [u]) i = gv us i ∧ gl (x ++ [c]) i = gl x i) ∨ (i = x.length ∧ gv (us ++ [u]) i = u ∧ gl (x ++ [c]) i = c) := by
    intro i hi
    simp at hi
    by_cases e : i < x.length
    · exact .inl ⟨e, gv_snoc_lt (by rw [h.len]; exact e), gl_snoc_lt e⟩
    · have : i = x.length := by omega
      subst this
      exact .inr ⟨rfl, by rw [← h.len]; exact gv_snoc_eq, gl_snoc_eq⟩
  refine ⟨by simp [h.len], ?_, ?_, ?_, ?_⟩
  · intro i hi
    rcases key i hi with ⟨a, e1, e2⟩ | ⟨a, e1, e2⟩
    · rw [e1, e2]; exact h.sl i a
    · rw [e1, e2]; exact hu
  · intro i hi b hb
    rcases key i hi with ⟨a, e1, e2⟩ | ⟨a, e1, e2⟩
    · rw [e1] at hb; exact h.low i a b hb
    · rw [e1] at hb; exact (h1 b hb).1
  · intro i hi b hb
    rcases key i hi with ⟨a, e1, e2⟩ | ⟨a, e1, e2⟩
    · rw [e1] at hb; exact h2 i a b hb
    · rw [e1] at hb; exact (h1 b hb).2.1
  · intro i j hi hj hij b hb
    rcases key i hi with ⟨a, e1, e2⟩ | ⟨a, e1, e2⟩ <;> rcases key j hj with ⟨a', e1', e2'⟩ | ⟨a', e1', e2'⟩
    · rw [e1] at hb; rw [e1']; exact h.dj i j a a' hij b hb
    · rw [e1] at hb; rw [e1']; intro hc; exact (h1 b hc).2.2 i a hb
    · rw [e1] at hb; rw [e1']; exact (h1 b hb).2.2 j a'
    · omega

def fbl (us : List Value) : List Nat := us.flatMap fun u => u.ownBlock.toList
theorem mem_fbl {us : List Value} {b : Nat} : b ∈ fbl us ↔ ∃ i, i < us.length ∧ (gv us i).ownBlock = some b := by
  unfold fbl
  rw [List.mem_flatMap]
  constructor
  · rintro ⟨u, hu, hb⟩
    obtain ⟨i, hi, rfl⟩ := List.getElem_of_mem hu
    exact ⟨i, hi, by rw [gv_eq hi]; simpa using hb⟩
  · rintro ⟨i, hi, hb⟩
    exact ⟨us[i], List.getElem_mem hi, by rw [gv_eq hi] at hb; simp [hb]⟩
def szIntSS : List (List Int) → Nat
  | [] => 0
  | c :: x => c.length + szIntSS x
def szTo (x : List (List Int)) : Nat → Nat
  | 0 => 0
  | i + 1 => szTo x i + (gl x i).length
theorem szTo_cons (c : List Int) (x : List (List Int)) : ∀ i, szTo (c :: x) (i + 1) = c.length + szTo x i := by
  intro i
  induction i with
  | zero => simp [szTo, gl]
  | succ i ih => rw [szTo, ih, szTo]; simp [gl]; omega
theorem szTo_all (x : List (List Int)) : szTo x x.length = szIntSS x := by
  induction x with
  | nil => rfl
  | cons c x ih => rw [List.length_cons, szTo_cons, ih, szIntSS]
theorem szTo_le (x : List (List Int)) (i j : Nat) (h : i ≤ j) : szTo x i ≤ szTo x j := by
  induction j with
  | zero => have : i = 0 := by omega
            subst this; exact Nat.le_refl _
  | succ j ih =>
    by_cases e : i = j + 1
    · subst e; exact Nat.le_refl _
    · have := ih (by omega)
      rw [szTo]; omega
abbrev TIntSS := List (List Int)
def RIntSS (w : World) (v : Value) (x : List (List Int)) (F : List Nat) : Prop := ∃ us, Sl w 22 v us ∧ Inn w 0 v us x ∧ F = v.ownBlock.toList ++ fbl us
theorem RIntSS.of_block {w w' : World} {v : Value} {x : List (List Int)} {F : List Nat} (h : RIntSS w v x F) (hb : ∀ b ∈ F, w'.heap[b]? = w.heap[b]?) : RIntSS w' v x F := by
  obtain ⟨us, h1, h2, rfl⟩ := h
  exact ⟨us, h1.of_block fun k hk => hb k (by simp [hk]), h2.of_block fun i hi b h => hb b (List.mem_append_right _ (mem_fbl.2 ⟨i, by rw [h2.len]; exact hi, h⟩)), rfl⟩
theorem RIntSS.lt {w : World} {v : Value} {x : List (List Int)} {F : List Nat} (h : RIntSS w v x F) : Lt w F := by
  obtain ⟨us, h1, h2, rfl⟩ := h
  intro b hb
  rcases List.mem_append.1 hb with hb | hb
  · exact h1.lt b (by simpa using hb)
  · obtain ⟨i, hi, hb⟩ := mem_fbl.1 hb
    exact h2.lt (by rw [← h2.len]; exact hi) hb
theorem RIntSS.next {w w' : World} {v : Value} {x : List (List Int)} {F : List Nat} (h : RIntSS w v x F) (hb : Below w.heap.size w w') : RIntSS w' v x F :=
  h.of_block fun b hf => hb.block b (h.lt b hf)
theorem RIntSS.ex {w w' : World} {v : Value} {x : List (List Int)} {F G : List Nat} (h : RIntSS w v x F) (k : Ex G w w') (d : Dj F G) : RIntSS w' v x F :=
  h.of_block fun b hf => k.block b (h.lt b hf) (d b hf)
/-- What a call has made, in the words of the laws. -/
theorem RIntSS.made {w w' : World} {v : Value} {us : List Value} {x : List (List Int)} (h1 : Own w' 22 w.heap.size v us) (h2 : Inn w' w.heap.size v us x) (hb : Below w.heap.size w w') :
    ∃ F, RIntSS w' v x F ∧ Fr w.heap.size F ∧ Below w.heap.size w w' := by
  refine ⟨_, ⟨us, h1.sl, ⟨h2.len, h2.sl, fun _ _ _ _ => Nat.zero_le _, h2.hd, h2.dj⟩, rfl⟩, ?_, hb⟩
  intro b hb
  rcases List.mem_append.1 hb with hb | hb
  · exact (h1.lt b (by simpa using hb)).1
  · obtain ⟨i, hi, hb⟩ := mem_fbl.1 hb
    exact h2.low i (by rw [← h2.len]; exact hi) b hb
theorem infoIntS : (Try.prog.info? 22).map (fun i => (i.zero, i.size, i.bytes)) = some (some (.slice none 0 0), 1, 24) := by kernel_rfl
theorem eltIntS : EltOk 30 22 := by
  obtain ⟨i, h1, h2, h3, h4⟩ := info_parts infoIntS
  exact ⟨i, _, 24, Try.underlying30, h1, h2, h3, h4, by omega, rfl⟩
end Go.Proofs.Ytdhcpoeopooejaa
