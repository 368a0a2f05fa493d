/- append and copy as a step of a region that draws. -/
import Derived.Test.YtdhcpoeopooejaaFrame
import Derived.Laws.CopyOwn
import Derived.Deep.RegionHeldLaw
import Derived.Laws.OwnMore
import Derived.Deep.AppendLies
namespace Go.Proofs.Ytdhcpoeopooejaa
open Go.RowKit
set_option linter.unusedVariables false
set_option linter.unusedSimpArgs false

theorem step_append_all {ops : Array Oper} {o : Oper} {a : Act} {K : Act → World → Prop} {Q : Exit → Act → World → Prop} {E0 : Prop} {w : World} {e T : TypeId} (E : EltOk T e) (hgd : o.guard = none) (s x : Operand)
    (ho : o.op = .call { callee := .builtin .append, args := #[s, x], argTypes := #[T, T] }) (B : Nat) (v : Value) (xs : List Value) (hs : a.eval s = v) (hown : Own w e B v xs)
    (u : Value) (ys : List Value) (hx : a.eval x = u) (hu : RdV w u ys) (hy : ∀ y ∈ ys, y.oneCell' = true) (hl : xs.length + ys.length ≤ 1000000000) (hB : B ≤ w.heap.size)
    (h : ∀ v' w', Own w' e B v' (xs ++ ys) → w.grownBy w' v.ownBlock → K (a.put o.dst v') w') :
    if Region.wanted o (yielded ops a.tmps) = true then Oper.wp Try.prog o a w K Q else E0 := by
  have hw : Region.wanted o (yielded ops a.tmps) = true := by simp [Region.wanted, hgd]
  rw [if_pos hw]
  obtain ⟨i, z, bytes, ht, hi, hz, hsz, hby, hb64, hzs⟩ := E
  obtain ⟨ao, c, rfl, hn, hc⟩ := hu
  cases ao with
  | none =>
    obtain ⟨h0, rfl⟩ := hn rfl
    have : ys = [] := List.eq_nil_of_length_eq_zero h0
    subst this
    have hrun := run_append_owned_none (P := Try.prog) (w := w) B T o.type e i 1 ht hi v xs.length xs hown
    have hk := h v w (by simpa using hown) (World.grownBy.refl _ _)
    unfold Oper.wp
    simp [execOp, ho, resolve, invoke, builtin, hs, hx, hrun, Result.andThen]
    exact hk
  | some ad =>
    obtain ⟨v', w', hrun, r1, r2, _⟩ := run_append_own (P := Try.prog) w B T o.type e i z 1 bytes ht hi hz hsz hby hzs (by decide) v xs.length xs hown ad ys.length c ys (by simp)
      (by
        intro j u hj
        obtain ⟨hj', rfl⟩ := List.getElem?_eq_some_iff.1 hj
        exact hc ad rfl j hj') hy (by unfold maxLen; omega)
      (by
        have : (xs.length + ys.length) * bytes ≤ 1000000000 * 64 := Nat.mul_le_mul hl hb64
        omega) hB
    have hk := h v' w' (by unfold Own; rw [List.length_append]; exact r1) r2
    unfold Oper.wp
    simp [execOp, ho, resolve, invoke, builtin, hs, hx, hrun, Result.andThen]
    exact hk

theorem ints_splice (L : List Int) (p q m : Nat) : ints (splice L p ((L.drop q).take m)) = splice (ints L) p (((ints L).drop q).take m) := by
  simp [ints, splice, List.map_take, List.map_drop]

theorem Row.splice {w w' : World} {e b off c : Nat} {L : List Value} {cs : Array Value} (hg : w.heap[b]? = some (.cells cs e (0, 0))) (h1 : L.length ≤ c) (h2 : off + c ≤ cs.size) (h3 : c ≤ maxLen)
    (h4 : ∀ i (h : i < L.length), cs[off + i]? = some L[i]) (p : Nat) (S : List Value) (hp : p + S.length ≤ L.length) (hw : w'.heap[b]? = some (.cells (Go.splice cs.toList (off + p) S).toArray e (0, 0))) :
    Row w' e b off c (Go.splice L p S) := by
  have hl := length_splice L p S hp
  have hl2 := length_splice cs.toList (off + p) S (by simp; omega)
  refine ⟨_, hw, by omega, by simp only [List.size_toArray, hl2, Array.length_toList]; exact h2, h3, fun i hi => ?_⟩
  rw [hl] at hi
  rw [List.getElem?_toArray, ← List.getElem?_eq_getElem]
  unfold Go.splice
  simp only [List.getElem?_append, List.getElem?_take, List.getElem?_drop, List.length_take, Array.length_toList]
  have m1 : min (off + p) cs.size = off + p := by omega
  have m2 : min p L.length = p := by omega
  simp only [m1, m2]
  by_cases a1 : i < p
  · rw [if_pos (by omega), if_pos (by omega), if_pos a1, if_pos a1]
    have := h4 i (by omega)
    simpa [List.getElem?_eq_getElem (show i < L.length by omega)] using this
  · rw [if_neg (by omega), if_neg a1]
    have e1 : off + i - (off + p) = i - p := by omega
    rw [e1]
    by_cases a2 : i - p < S.length
    · rw [if_pos a2, if_pos a2]
    · rw [if_neg a2, if_neg a2]
      have e2 : off + p + S.length + (i - p - S.length) = off + i := by omega
      have e3 : p + S.length + (i - p - S.length) = i := by omega
      rw [e2, e3]
      have := h4 i (by omega)
      simpa [List.getElem?_eq_getElem (show i < L.length by omega)] using this

theorem step_copy_ints {ops : Array Oper} {o : Oper} {a : Act} {w : World} {K : Act → World → Prop} {Q : Exit → Act → World → Prop} {E : Prop} (hgd : o.guard = none) (d s : Operand) (dT sT : TypeId)
    (ho : o.op = .call { callee := .builtin .copy, args := #[d, s], argTypes := #[dT, sT] }) (elem : TypeId) (hu : Try.prog.underlying dT = some (.slice elem)) (hsz : (Try.prog.info? elem).map (·.size) = some 1)
    (dp sp : Option Addr) (dLen dCap sLen sCap : Nat) (hd : a.eval d = .slice dp dLen dCap) (hs : a.eval s = .slice sp sLen sCap)
    (e b off c : Nat) (L : List Int) (hR : Row w e b off c (ints L)) (p q m : Nat) (hm : Nat.min sLen dLen = m) (hpos : 0 < m → dp = some ⟨b, off + p, none⟩ ∧ sp = some ⟨b, off + q, none⟩)
    (hp : p + m ≤ L.length) (hq : q + m ≤ L.length) (B : Nat) (w0 : World) (hb : Below B w0 w) (hBg : B ≤ b)
    (h : ∀ w', Row w' e b off c (ints (splice L p ((L.drop q).take m))) → Below B w0 w' → K (a.put o.dst (goInt m)) w') :
    if Region.wanted o (yielded ops a.tmps) = true then Oper.wp Try.prog o a w K Q else E := by
  obtain ⟨cs, hg, h1, h2, h3, h4⟩ := hR
  have hlen : (((ints L).drop q).take m).length = m := by simp; omega
  have key := hlen
  refine step_copy_splice hgd d s dT sT ho elem hu hsz dp sp dLen dCap sLen sCap hd hs b (off + p) cs.toList e (by simpa using hg) (((ints L).drop q).take m) (by rw [hlen, hm]) ?_ ?_ ?_ B w0 hb hBg ?_
  · intro h0
    obtain ⟨rfl, rfl⟩ := hpos (by omega)
    refine ⟨rfl, _, rfl, fun j v hj => ?_⟩
    obtain ⟨hj', rfl⟩ := List.getElem?_eq_some_iff.1 hj
    have hj2 : j < m := by omega
    have hadd : (⟨b, off + q, none⟩ : Addr).add j = ⟨b, off + q + j, none⟩ := by unfold Addr.add; split <;> simp_all
    rw [hadd]
    have := h4 (q + j) (by simp; omega)
    simp only [List.getElem_take, List.getElem_drop]
    rw [World.cell?]
    simp only [hg]
    rw [show off + q + j = off + (q + j) by omega, this]
    simp
  · rw [hlen]; simp only [ints_length] at h1; simp; omega
  · intro v hv
    exact ints_one L v (List.mem_of_mem_drop (List.mem_of_mem_take hv))
  · intro w' hw' hb'
    rw [hlen]
    refine h w' ?_ hb'
    rw [ints_splice]
    refine Row.splice hg h1 h2 h3 h4 p _ ?_ hw'.out
    rw [hlen]; simp only [ints_length]; omega
end Go.Proofs.Ytdhcpoeopooejaa
