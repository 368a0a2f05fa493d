/- UnrankPermutation. -/
import Derived.Test.YtdhcpoeopooejaaDel
import Derived.Test.YtdhcpoeopooejaaRank
import Derived.Maps.AppendAt
namespace Go.Proofs.Ytdhcpoeopooejaa
open Go.RowKit
set_option linter.unusedVariables false
set_option linter.unusedSimpArgs false

def iotaI : Nat → List Int
  | 0 => []
  | n + 1 => iotaI n ++ [(n : Int)]
theorem iotaI_length (n : Nat) : (iotaI n).length = n := by
  induction n with
  | zero => rfl
  | succ n ih => simp [iotaI, ih]
/-- List l without its element at place k. -/
def dropAt (l : List Int) (k : Nat) : List Int := l.take k ++ l.drop (k + 1)
/-- Out, the rest and the rank behind j rounds. -/
def unK (n r : Nat) : Nat → List Int × List Int × Nat
  | 0 => ([], iotaI n, r)
  | j + 1 => ((unK n r j).1 ++ [gi (unK n r j).2.1 ((unK n r j).2.2 / fct (n - j - 1))], dropAt (unK n r j).2.1 ((unK n r j).2.2 / fct (n - j - 1)), (unK n r j).2.2 % fct (n - j - 1))
theorem unK_facts {n r : Nat} (hr : r < fct n) : ∀ j, j ≤ n → (unK n r j).1.length = j ∧ (unK n r j).2.1.length = n - j ∧ (unK n r j).2.2 < fct (n - j) := by
  intro j
  induction j with
  | zero => intro _; exact ⟨rfl, iotaI_length n, hr⟩
  | succ j ih =>
    intro hj
    obtain ⟨h1, h2, h3⟩ := ih (by omega)
    have hp := fct_pos (n - j - 1)
    have hk : (unK n r j).2.2 / fct (n - j - 1) < n - j := by
      rw [Nat.div_lt_iff_lt_mul hp]
      have := fct_next (n - j) (by omega)
      rw [Nat.mul_comm] at this
      omega
    refine ⟨by simp [unK, h1], by simp [unK, dropAt, h2]; omega, ?_⟩
    rw [unK]
    have := Nat.mod_lt (unK n r j).2.2 hp
    rw [show n - (j + 1) = n - j - 1 by omega]
    exact this
theorem unK_place {n r j : Nat} (hr : r < fct n) (hj : j < n) : (unK n r j).2.2 / fct (n - j - 1) < n - j := by
  obtain ⟨h1, h2, h3⟩ := unK_facts hr j (by omega)
  rw [Nat.div_lt_iff_lt_mul (fct_pos _)]
  have := fct_next (n - j) (by omega)
  rw [Nat.mul_comm] at this
  omega
/-- The result of UnrankPermutation. -/
def unR (n r : Int) : List Int × Bool := if inB n 0 10 then (if inB r 0 ((fct n.toNat : Nat) - 1) then ((unK n.toNat r.toNat n.toNat).1, true) else ([], false)) else ([], false)
theorem unR_len (n r : Int) : (unR n r).1.length ≤ 100000000000 := by
  unfold unR
  split
  · rename_i h
    split
    · rename_i h2
      have h' := inB_iff.1 h
      have h2' := inB_iff.1 h2
      have := (unK_facts (n := n.toNat) (r := r.toNat) (by omega) n.toNat (Nat.le_refl _)).1
      dsimp only
      omega
    · simp
  · simp

def slLen : Value → Nat
  | .slice _ n _ => n
  | _ => 0
theorem Sl.apart {w w' : World} {e : Nat} {v : Value} {xs : List Value} {k : Option Nat} (h : Sl w e v xs) (hg : w.grownBy w' k) (hne : ∀ b, v.ownBlock = some b → k ≠ some b) : Sl w' e v xs :=
  h.of_block fun b hb => hg.block b (h.lt b hb) (hne b hb).symm

theorem Own_dropAt {w : World} {B m k : Nat} {v : Value} {L : List Int} (h : Own w 3 B v (([] ++ ints (L.take k)) ++ ints (L.drop (k + 1)))) (hL : L.length = m + 1) (hk : k < m + 1) :
    ∃ ao c, v = .slice ao m c ∧ Hid (Own w 3 B (.slice ao m c) (ints (dropAt L k))) := by
  have he : (([] ++ ints (L.take k)) ++ ints (L.drop (k + 1))) = ints (dropAt L k) := by simp [ints, dropAt]
  rw [he] at h
  obtain ⟨ao, c, rfl, _⟩ := h.sl
  have hn : (ints (dropAt L k)).length = m := by simp [dropAt]; omega
  rw [hn] at h ⊢
  exact ⟨ao, c, rfl, Lib.hid h⟩


/-- 'append(s, x)', x one value in a new cell; where the new row lies. -/
theorem wpList_append_one_at {ops : Array Oper} {rest : List Oper} {o : Oper} {a : Act} {Q : Exit → Act → World → Prop} {w : World} {y : Value} {e T : TypeId} (E : EltOk T e) (hgd : o.guard = none) (s x : Operand)
    (ho : o.op = .call { callee := .builtin .append, args := #[s, x], argTypes := #[T, T] }) (B : Nat) (v : Value) (xs : List Value) (hs : a.eval s = v) (hown : Own w e B v xs)
    (hx : a.eval x = .slice (some ⟨w.heap.size, 0, none⟩) 1 1) (hy : y.oneCell' = true) (hl : xs.length ≤ 1000000000) (hB : B ≤ w.heap.size)
    (h : ∀ v' w', Own w' e B v' (xs ++ [y]) → w.grownBy w' v.ownBlock → (v'.ownBlock = v.ownBlock ∨ v'.ownBlock = some (w.heap.size + 1)) → wpList Try.prog ops Q rest (a.put o.dst v') w') : wpList Try.prog ops Q (o :: rest) a (w.alloc (.cells #[y] e)) := by
  obtain ⟨i, z, bytes, ht, hi, hz, hsz, hby, hb64, hzs⟩ := E
  refine wpList_append_own_at _ hgd s x T ho B e i z 1 bytes ht hi hz hsz hby hzs (by decide) v xs.length xs hs (hown.alloc _) ⟨w.heap.size, 0, none⟩ 1 1 [y] hx rfl ?_ ?_ ?_ ?_ ?_ ?_
  · intro j u hj
    match j, hj with
    | 0, hj =>
      simp at hj
      subst hj
      rw [Addr.add_lit]
      simp [go_sem]
    | n + 1, hj => simp at hj
  · intro u hu
    simp at hu
    subst hu
    exact hy
  · unfold maxLen; omega
  · have : (xs.length + 1) * bytes ≤ 1000000001 * 64 := Nat.mul_le_mul (by omega) hb64
    omega
  · have : (w.alloc (.cells #[y] e)).heap.size = w.heap.size + 1 := by simp
    omega
  · intro v' w' ho' hg _ hat
    refine h v' w' ?_ ?_ (by simpa using hat)
    · unfold Own
      rw [List.length_append]
      exact ho'
    · have h1 := World.grownBy_alloc w (.cells #[y] e) v.ownBlock
      exact ⟨hg.os.trans h1.os, hg.tape.trans h1.tape, hg.output.trans h1.output, Nat.le_trans h1.size hg.size, fun k hk hr => (hg.block k (Nat.lt_of_lt_of_le hk h1.size) hr).trans (h1.block k hk hr)⟩

theorem Own_ex {w w' : World} {e B b : Nat} {v : Value} {xs : List Value} (h : Own w e B v xs) (hx : Ex [b] w w') (hne : v.ownBlock ≠ some b) : Own w' e B v xs :=
  h.kept (r := some b) ⟨hx.os, hx.tape, hx.output, hx.size, fun k hk hr => hx.block k hk (by simp; rintro rfl; exact hr rfl)⟩ (.inr hne)
theorem Sl_of_rowN {w : World} {e b off c n : Nat} {L : List Int} (h : Row w e b off c (ints L)) (hn : L.length = n) : Sl w e (.slice (some ⟨b, off, none⟩) n c) (ints L) := by
  have := Sl.of_row h
  rwa [ints_length, hn] at this

end Go.Proofs.Ytdhcpoeopooejaa
