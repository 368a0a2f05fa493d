/- AdaptiveSort: what it computes, in plain lists. -/
import Derived.Test.YtdhcpoeopooejaaRunG
import Derived.Test.YtdhcpoeopooejaaMerge
import Derived.Test.YtdhcpoeopooejaaRuns
namespace Go.Proofs.Ytdhcpoeopooejaa
open Go.RowKit
set_option linter.unusedVariables false
set_option linter.unusedSimpArgs false

def gp (S : List (List (Int × Int))) (i : Nat) : List (Int × Int) := S.getD i []
theorem gp_eq {S : List (List (Int × Int))} {i : Nat} (h : i < S.length) : gp S i = S[i] := by simp [gp, h]
def lens (S : List (List (Int × Int))) : List Int := S.map fun p => (p.length : Int)
@[simp] theorem lens_length (S : List (List (Int × Int))) : (lens S).length = S.length := by simp [lens]
theorem gi_lens (S : List (List (Int × Int))) (i : Nat) : gi (lens S) i = ((gp S i).length : Int) := by
  unfold gi gp lens
  rw [List.getD_eq_getElem?_getD, List.getD_eq_getElem?_getD, List.getElem?_map]
  cases S[i]? <;> rfl
def mgP (S : List (List (Int × Int))) (k : Nat) : List (List (Int × Int)) := S.take k ++ ((mergeF (gp S k) (gp S (k + 1))).1 :: S.drop (k + 2))
theorem lens_mgP (S : List (List (Int × Int))) (k : Nat) : lens (mgP S k) = mgAt (lens S) k := by
  unfold mgAt
  rw [gi_lens, gi_lens]
  have h := (mergeF_len _ (gp S k) (gp S (k + 1)) rfl).1
  simp only [lens, mgP, List.map_append, List.map_take, List.map_cons, List.map_drop, h]
  congr 2
def mgS (s : List (List (Int × Int)) × Nat) (k : Nat) : List (List (Int × Int)) × Nat := (mgP s.1 k, s.2 + (mergeF (gp s.1 k) (gp s.1 (k + 1))).2)
def repl : List Int → List (List (Int × Int)) × Nat → List (List (Int × Int)) × Nat
  | [], s => s
  | m :: r, s => repl r (mgS s m.toNat)
def stl (e : Bool) : Nat → List (List (Int × Int)) × Nat → List (List (Int × Int)) × Nat
  | 0, s => s
  | f + 1, s => if 0 ≤ nextF (lens s.1) e then stl e f (mgS s (nextF (lens s.1) e).toNat) else s
theorem settle_out (e : Bool) : ∀ m st out, settle e m st out = ((settle e m st []).1, out ++ (settle e m st []).2) := by
  intro m
  induction m with
  | zero => intro st out; simp [settle]
  | succ m ih =>
    intro st out
    rw [settle, settle]
    split
    · rw [ih _ (out ++ [nextF st e]), ih _ ([] ++ [nextF st e])]
      simp
    · simp
theorem repl_settle (e : Bool) : ∀ m s, repl (settle e m (lens s.1) []).2 s = stl e m s ∧ lens (stl e m s).1 = (settle e m (lens s.1) []).1 := by
  intro m
  induction m with
  | zero => intro s; exact ⟨rfl, rfl⟩
  | succ m ih =>
    intro s
    rw [settle, stl]
    split
    · rw [settle_out]
      have h := ih (mgS s (nextF (lens s.1) e).toNat)
      rw [show lens (mgS s (nextF (lens s.1) e).toNat).1 = mgAt (lens s.1) (nextF (lens s.1) e).toNat from lens_mgP _ _] at h
      exact h
    · exact ⟨rfl, rfl⟩
theorem stl_stop {e : Bool} {m : Nat} {s : List (List (Int × Int)) × Nat} (h : ¬ 0 ≤ nextF (lens s.1) e) : stl e m s = s := by
  cases m with
  | zero => rfl
  | succ m => rw [stl, if_neg h]
theorem stl_next {e : Bool} {m : Nat} {s : List (List (Int × Int)) × Nat} (h : 0 ≤ nextF (lens s.1) e) : stl e (m + 1) s = stl e m (mgS s (nextF (lens s.1) e).toNat) := by rw [stl, if_pos h]
def VR : List Int → Nat → Prop
  | [], _ => True
  | m :: r, n => 0 ≤ m ∧ m.toNat + 2 ≤ n ∧ VR r (n - 1)
theorem settle_vr (e : Bool) : ∀ m st, VR (settle e m st []).2 st.length := by
  intro m
  induction m with
  | zero => intro st; trivial
  | succ m ih =>
    intro st
    rw [settle]
    split
    · rename_i h
      rw [settle_out]
      have hb := nextF_bd h
      have h1 := ih (mgAt st (nextF st e).toNat)
      have h2 := mgAt_length (st := st) (k := (nextF st e).toNat) (by omega)
      rw [show (mgAt st (nextF st e).toNat).length = st.length - 1 by omega] at h1
      exact ⟨h, by omega, h1⟩
    · trivial
/-- Stack of parts and comparisons behind i pushes. -/
def pushP (ps : List (List (Int × Int))) : Nat → List (List (Int × Int)) × Nat
  | 0 => ([], 0)
  | i + 1 => stl false (i + 1) ((pushP ps i).1 ++ [gp ps i], (pushP ps i).2)
theorem lens_snoc (S : List (List (Int × Int))) (p : List (Int × Int)) : lens (S ++ [p]) = lens S ++ [(p.length : Int)] := by simp [lens]
def newM (cs : List Int) (i : Nat) : List Int := (settle false (i + 1) ((planK cs i).1 ++ [gi cs i]) []).2
theorem plan_next (cs : List Int) (i : Nat) : (planK cs (i + 1)).2.1 = (planK cs i).2.1 ++ newM cs i := by
  show (settle false (i + 1) ((planK cs i).1 ++ [gi cs i]) (planK cs i).2.1).2 = _
  rw [settle_out]; rfl
theorem push_lens (ps : List (List (Int × Int))) : ∀ i, lens (pushP ps i).1 = (planK (lens ps) i).1 := by
  intro i
  induction i with
  | zero => rfl
  | succ i ih =>
    show lens (stl false (i + 1) ((pushP ps i).1 ++ [gp ps i], (pushP ps i).2)).1 = (settle false (i + 1) ((planK (lens ps) i).1 ++ [gi (lens ps) i]) (planK (lens ps) i).2.1).1
    rw [(repl_settle false (i + 1) ((pushP ps i).1 ++ [gp ps i], (pushP ps i).2)).2, settle_out false _ _ (planK (lens ps) i).2.1]
    dsimp only
    rw [lens_snoc, ih, gi_lens]
theorem push_repl (ps : List (List (Int × Int))) (i : Nat) : repl (newM (lens ps) i) ((pushP ps i).1 ++ [gp ps i], (pushP ps i).2) = pushP ps (i + 1) ∧ VR (newM (lens ps) i) ((pushP ps i).1.length + 1) := by
  have e : (planK (lens ps) i).1 ++ [gi (lens ps) i] = lens ((pushP ps i).1 ++ [gp ps i]) := by rw [lens_snoc, push_lens, gi_lens]
  unfold newM
  rw [e]
  refine ⟨(repl_settle false (i + 1) ((pushP ps i).1 ++ [gp ps i], (pushP ps i).2)).1, ?_⟩
  have := settle_vr false (i + 1) (lens ((pushP ps i).1 ++ [gp ps i]))
  simpa using this
/-- The merges that come behind the last push. -/
def lastM (ps : List (List (Int × Int))) : List Int := (settle true ps.length (lens (pushP ps ps.length).1) []).2
def endP (ps : List (List (Int × Int))) : List (List (Int × Int)) × Nat := stl true ps.length (pushP ps ps.length)
theorem all_merges (ps : List (List (Int × Int))) : (rmF (lens ps)).1 = (planK (lens ps) ps.length).2.1 ++ lastM ps := by
  unfold rmF lastM
  dsimp only
  rw [lens_length, settle_out, push_lens]
theorem last_repl (ps : List (List (Int × Int))) : repl (lastM ps) (pushP ps ps.length) = endP ps ∧ VR (lastM ps) (pushP ps ps.length).1.length := by
  refine ⟨(repl_settle true ps.length _).1, ?_⟩
  have := settle_vr true ps.length (lens (pushP ps ps.length).1)
  simpa [lastM] using this
/-- The part of a run. -/
def cutF (xs : List (Int × Int)) (r : Int × Int) : List (Int × Int) := (xs.drop r.1.toNat).take r.2.toNat
def partF (xs : List (Int × Int)) (r : Int × Int) : List (Int × Int) := if 1 < r.2 ∧ (gr (cutF xs r) 1).1 < (gr (cutF xs r) 0).1 then (cutF xs r).reverse else cutF xs r
def partsF (xs : List (Int × Int)) : List (List (Int × Int)) := (runsF xs).map (partF xs)
def cntF (xs : List (Int × Int)) : List Int := (runsF xs).map Prod.snd
def adF (xs : List (Int × Int)) : List (Int × Int) × Nat := (gp (endP (partsF xs)).1 0, (endP (partsF xs)).2)
def adR (xs : List (Int × Int)) : List (Int × Int) × Nat × Bool := if vrecs xs then ((adF xs).1, (adF xs).2, true) else ([], 0, false)
structure RunsOk (xs : List (Int × Int)) (out : List (Int × Int)) (i : Nat) : Prop where
  at_ : ∀ r ∈ out, 0 ≤ r.1 ∧ 1 ≤ r.2 ∧ r.1 + r.2 ≤ xs.length
  sum : sumI (out.map Prod.snd) = (i : Int)
  len : 2 * out.length ≤ i + 1
  len2 : i < xs.length → 2 * out.length ≤ i
theorem runEnd_two {xs : List (Int × Int)} {i : Nat} (h : i < xs.length) : i + 2 ≤ runEnd xs i ∨ runEnd xs i = xs.length := by
  by_cases h1 : i + 1 < xs.length
  · refine .inl ?_
    obtain ⟨m, hm⟩ : ∃ m, xs.length = m + 1 := ⟨xs.length - 1, by omega⟩
    have hg : goOn (runD xs i) xs (i + 1) = true := by
      unfold goOn runD
      by_cases hd : (gr xs (i + 1)).1 < (gr xs i).1
      · simp [h1, hd]
      · simp [h1, hd]; omega
    unfold runEnd
    rw [hm, ext_next ⟨h1, hg⟩]
    exact (ext_ge _ _ _ _).1
  · refine .inr ?_
    have := runEnd_gt xs i h
    omega
theorem runsG_ok (xs : List (Int × Int)) : ∀ m i out, i ≤ xs.length → xs.length ≤ i + m → RunsOk xs out i → RunsOk xs (runsG xs m i out) xs.length := by
  intro m
  induction m with
  | zero => intro i out h1 h2 h; rw [runsG, show xs.length = i by omega]; exact h
  | succ m ih =>
    intro i out h1 h2 h
    rw [runsG]
    split
    · rename_i hi
      obtain ⟨g1, g2⟩ := runEnd_gt xs i hi
      refine ih _ _ g2 (by omega) ⟨?_, ?_, ?_, ?_⟩
      · intro r hr
        rw [List.mem_append, List.mem_singleton] at hr
        rcases hr with hr | rfl
        · exact h.at_ r hr
        · dsimp only; omega
      · rw [List.map_append, sumI_append, h.sum]
        simp only [List.map_cons, List.map_nil, sumI]
        omega
      · have := h.len2 hi
        rw [List.length_append, List.length_singleton]
        omega
      · intro hlt
        have := h.len2 hi
        have := runEnd_two hi
        rw [List.length_append, List.length_singleton]
        omega
    · rename_i hi
      rw [show xs.length = i by omega]; exact h
theorem runsF_ok (xs : List (Int × Int)) : RunsOk xs (runsF xs) xs.length := runsG_ok xs _ _ _ (Nat.zero_le _) (by omega) ⟨fun r hr => absurd hr (by simp), rfl, by simp, fun _ => by simp⟩
theorem cut_len {xs : List (Int × Int)} {r : Int × Int} (h : 0 ≤ r.1 ∧ 1 ≤ r.2 ∧ r.1 + r.2 ≤ xs.length) : (cutF xs r).length = r.2.toNat := by
  unfold cutF
  rw [List.length_take, List.length_drop]; omega
theorem part_len {xs : List (Int × Int)} {r : Int × Int} (h : 0 ≤ r.1 ∧ 1 ≤ r.2 ∧ r.1 + r.2 ≤ xs.length) : (partF xs r).length = r.2.toNat := by
  unfold partF
  split
  · rw [List.length_reverse, cut_len h]
  · exact cut_len h
theorem lens_parts (xs : List (Int × Int)) : lens (partsF xs) = cntF xs := by
  unfold lens partsF cntF
  rw [List.map_map]
  apply List.map_congr_left
  intro r hr
  have h := (runsF_ok xs).at_ r hr
  rw [Function.comp, part_len h]
  omega
theorem cnt_ok {xs : List (Int × Int)} (h : xs.length ≤ 64) : (cntF xs).length ≤ 40 ∧ (∀ c ∈ cntF xs, 1 ≤ c ∧ c ≤ 100000) ∧ sumI (cntF xs) = (xs.length : Int) := by
  have hr := runsF_ok xs
  refine ⟨?_, ?_, hr.sum⟩
  · have := hr.len
    unfold cntF
    rw [List.length_map]; omega
  · intro c hc
    unfold cntF at hc
    rw [List.mem_map] at hc
    obtain ⟨r, h1, rfl⟩ := hc
    have := hr.at_ r h1
    omega
/-- Sums stay small. -/
theorem sum_take {cs : List Int} (h : ∀ c ∈ cs, 1 ≤ c ∧ c ≤ 100000) {i : Nat} (hi : i < cs.length) : sumI (cs.take (i + 1)) = sumI (cs.take i) + gi cs i := by
  rw [List.take_succ_eq_append_getElem hi, sumI_append, gi_eq hi]
  simp [sumI]
theorem plan_gd {cs : List Int} (h : ∀ c ∈ cs, 1 ≤ c ∧ c ≤ 100000) : ∀ i, i ≤ cs.length → Gd (sumI (cs.take i)) (planK cs i).1 := by
  intro i
  induction i with
  | zero => intro _; exact ⟨fun x hx => absurd hx (by simp [planK]), by simp [planK, sumI]⟩
  | succ i ih =>
    intro hi
    have h1 := ih (by omega)
    have hc : 1 ≤ gi cs i ∧ gi cs i ≤ 100000 := by rw [gi_eq (by omega)]; exact h _ (List.getElem_mem _)
    have h2 := h1.push (x := gi cs i) (y := gi cs i) (by omega) (Int.le_refl _)
    rw [sum_take h (by omega)]
    exact (settle_facts false _ (i + 1) _ (planK cs i).2.1 h2).1
theorem sum_take_le {cs : List Int} (h : ∀ c ∈ cs, 1 ≤ c ∧ c ≤ 100000) (i : Nat) : sumI (cs.take i) ≤ sumI cs := by
  have h1 : sumI cs = sumI (cs.take i) + sumI (cs.drop i) := by rw [← sumI_append, List.take_append_drop]
  have h2 := sumI_pos (st := cs.drop i) (fun x hx => by have := h x (List.mem_of_mem_drop hx); omega)
  omega
theorem Gd.le {B C : Int} {st : List Int} (h : Gd B st) (hb : B ≤ C) : Gd C st := ⟨h.pos, Int.le_trans h.sum hb⟩
end Go.Proofs.Ytdhcpoeopooejaa
