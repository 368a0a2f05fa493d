/- AdaptiveSort: a slice of parts in memory. -/
import Derived.Test.YtdhcpoeopooejaaAdPush
import Derived.Test.YtdhcpoeopooejaaAdM
import Derived.Test.YtdhcpoeopooejaaAdDel
namespace Go.Proofs.Ytdhcpoeopooejaa
open Go.RowKit
set_option linter.unusedVariables false
set_option linter.unusedSimpArgs false

theorem eltRecS : EltOk 78 43 := by
  obtain ⟨i, h1, h2, h3, h4⟩ := info_parts infoRecS
  exact ⟨i, _, 24, Try.underlying78, h1, h2, h3, h4, by omega, rfl⟩
theorem Row.one1 (w : World) (e : Nat) (v : Value) : Row (w.alloc (.cells #[v] e)) e w.heap.size 0 1 [v] := by
  refine ⟨#[v], by show (w.heap.push _)[w.heap.size]? = _; simp, by simp, by simp, by unfold maxLen; omega, fun i hi => ?_⟩
  simp at hi
  subst hi
  simp
theorem Row.cell1 {w : World} {e b : Nat} {v : Value} (h : Row w e b 0 1 [v]) : w.cell? ⟨b, 0, none⟩ = some v := by
  have := h.cell (i := 0) (by simp)
  simpa using this
/-- A part: readable records in blocks not below B. -/
def El (B : Nat) (w : World) (v : Value) (xs : List (Int × Int)) : Prop := SlQ 72 w v xs ∧ ∀ b, v.ownBlock = some b → B ≤ b
theorem El.typed {B b : Nat} {w : World} {v : Value} {xs : List (Int × Int)} (h : El B w v xs) (hb : v.ownBlock = some b) : ∃ cs, w.heap[b]? = some (.cells cs 72 (0, 0)) := by
  obtain ⟨⟨ao, c, rfl, h1⟩, _⟩ := h
  rcases h1 with ⟨rfl, _⟩ | ⟨b', off, rfl, _, cs, h2, _⟩
  · simp [Value.ownBlock] at hb
  · simp [Value.ownBlock] at hb
    subst hb
    exact ⟨cs, h2⟩
theorem El.of_block {B : Nat} {w w' : World} {v : Value} {xs : List (Int × Int)} (h : El B w v xs) (hb : ∀ k, v.ownBlock = some k → w'.heap[k]? = w.heap[k]?) : El B w' v xs := ⟨h.1.of_block hb, h.2⟩
theorem El.below {B : Nat} {w w' : World} {v : Value} {xs : List (Int × Int)} (h : El B w v xs) (hb : Below w.heap.size w w') : El B w' v xs := h.of_block fun k hk => hb.block k (h.1.lt k hk)
/-- A block of other elements than records. -/
def NR (w : World) (b : Nat) : Prop := ∃ cs e, w.heap[b]? = some (.cells cs e (0, 0)) ∧ e ≠ 72
theorem El.ex {B : Nat} {w w' : World} {v : Value} {xs : List (Int × Int)} {F : List Nat} (h : El B w v xs) (hx : Ex F w w') (hF : ∀ b ∈ F, NR w b) : El B w' v xs := h.of_block fun k hk => by
  refine hx.block k (h.1.lt k hk) fun hm => ?_
  obtain ⟨cs, e, h1, h2⟩ := hF k hm
  obtain ⟨cs', h3⟩ := h.typed hk
  rw [h1] at h3
  simp only [Option.some.injEq, Obj.cells.injEq] at h3
  exact h2 h3.2.1
theorem Row.nr {w : World} {e b off c : Nat} {xs : List Value} (h : Row w e b off c xs) (he : e ≠ 72) : NR w b := by
  obtain ⟨cs, h1, _⟩ := h
  exact ⟨cs, e, h1, he⟩
theorem Own.nr {w : World} {e B b : Nat} {v : Value} {xs : List Value} (h : Own w e B v xs) (he : e ≠ 72) (hb : v.ownBlock = some b) : NR w b := by
  obtain ⟨cs, h1⟩ := h.typed hb
  exact ⟨cs, e, h1, he⟩
/-- The stack of parts, owned, its elements readable. -/
structure PS (B : Nat) (S : List (List (Int × Int))) (us : List Value) (o : Value) (wr : World) : Prop where
  own : Own wr 43 B o us
  nn : ∃ b c, o = .slice (some ⟨b, 0, none⟩) us.length c
  len : us.length = S.length
  el : ∀ q, q < S.length → El B wr (gv us q) (gp S q)
theorem PS.start {B : Nat} {W : World} (hB : B ≤ W.heap.size) : PS B [] [] (.slice (some ⟨W.heap.size, 0, none⟩) 0 0) (W.alloc (.cells #[] 43)) :=
  ⟨(Own.empty W 43).base hB, ⟨_, _, rfl⟩, rfl, fun _ h => absurd h (by simp)⟩
theorem PS.below {B : Nat} {W wr : World} {S : List (List (Int × Int))} {us : List Value} {o : Value} (h : PS B S us o W) (hb : Below W.heap.size W wr) : PS B S us o wr :=
  ⟨h.own.below hb, h.nn, h.len, fun q hq => (h.el q hq).below hb⟩
theorem PS.block {B : Nat} {S : List (List (Int × Int))} {us : List Value} {o : Value} {wr : World} (h : PS B S us o wr) : ∃ b, o.ownBlock = some b ∧ B ≤ b ∧ b < wr.heap.size := by
  obtain ⟨b, c, rfl⟩ := h.nn
  exact ⟨b, rfl, (h.own.lt b rfl).1, (h.own.lt b rfl).2⟩
theorem Own.of_block {w w' : World} {e B : Nat} {v : Value} {xs : List Value} (h : Own w e B v xs) (hb : ∀ k, v.ownBlock = some k → w'.heap[k]? = w.heap[k]?) : Own w' e B v xs := by
  obtain ⟨hl, hh⟩ := h
  refine ⟨hl, ?_⟩
  rcases hh with h | ⟨g, cap, cur, hv, hB, hg, r⟩
  · exact .inl h
  · exact .inr ⟨g, cap, cur, hv, hB, (hb g (by rw [hv]; rfl)).trans hg, r⟩
theorem PS.of_block {B : Nat} {S : List (List (Int × Int))} {us : List Value} {o : Value} {wr w' : World} (h : PS B S us o wr) (ho : ∀ k, o.ownBlock = some k → w'.heap[k]? = wr.heap[k]?) (he : ∀ (k : Nat) (cs : Array Value), wr.heap[k]? = some (Obj.cells cs 72 (0, 0)) → w'.heap[k]? = wr.heap[k]?) : PS B S us o w' :=
  ⟨h.own.of_block ho, h.nn, h.len, fun q hq => (h.el q hq).of_block fun k hk => by
    obtain ⟨cs, h1⟩ := (h.el q hq).typed hk
    exact he k cs h1⟩
/-- Written were only blocks F, none of them the stack's, none of records. -/
theorem PS.ex {B : Nat} {S : List (List (Int × Int))} {us : List Value} {o : Value} {wr w' : World} {F : List Nat} (h : PS B S us o wr) (hx : Ex F wr w') (hF : ∀ b ∈ F, NR wr b) (ho : ∀ b ∈ F, o.ownBlock ≠ some b) : PS B S us o w' :=
  ⟨h.own.of_block fun k hk => hx.block k (h.own.lt k hk).2 (fun hm => ho k hm hk), h.nn, h.len, fun q hq => (h.el q hq).ex hx hF⟩
theorem gp_snoc_lt {S : List (List (Int × Int))} {p : List (Int × Int)} {i : Nat} (h : i < S.length) : gp (S ++ [p]) i = gp S i := by simp [gp, List.getD_eq_getElem?_getD, List.getElem?_append_left h]
theorem gp_snoc_eq {S : List (List (Int × Int))} {p : List (Int × Int)} : gp (S ++ [p]) S.length = p := by simp [gp]
theorem PS.push {B : Nat} {S : List (List (Int × Int))} {us : List Value} {o o' v : Value} {p : List (Int × Int)} {wr w' : World} (h : PS B S us o wr) (hv : El B wr v p) (ho : Own w' 43 B o' (us ++ [v])) (hg : wr.grownBy w' o.ownBlock) : PS B (S ++ [p]) (us ++ [v]) o' w' := by
  have hkeep : ∀ {v : Value} {p : List (Int × Int)}, El B wr v p → El B w' v p := fun {v p} hv => hv.of_block fun k hk => hg.block k (hv.1.lt k hk) fun e => by
    obtain ⟨cs, h1⟩ := hv.typed hk
    obtain ⟨cs', h2⟩ := h.own.typed e.symm
    rw [h1] at h2
    simp only [Option.some.injEq, Obj.cells.injEq] at h2
    exact absurd h2.2.1 (by decide)
  refine ⟨ho, ?_, by simp [h.len], fun q hq => ?_⟩
  · obtain ⟨hl, hh⟩ := ho
    rcases hh with ⟨_, h2⟩ | ⟨g, cap, cur, hv, _⟩
    · simp at h2
    · exact ⟨g, cap, hv⟩
  · have hlen := h.len
    by_cases e : q < S.length
    · rw [gv_snoc_lt (by omega), gp_snoc_lt e]; exact hkeep (h.el q e)
    · have hqe : q = S.length := by simp at hq; omega
      rw [hqe, ← hlen, gv_snoc_eq, hlen, gp_snoc_eq]; exact hkeep hv
/-- Two neighbours replaced by one. -/
theorem PS.merged {B g n c m : Nat} {S : List (List (Int × Int))} {us : List Value} {v : Value} {M : List (Int × Int)} {wr w' : World} (h : PS B S us (.slice (some ⟨g, 0, none⟩) (n + 1) c) wr) (hm : m + 2 ≤ n + 1) (hv : El B wr v M)
    (hR : Row w' 43 g 0 c ((us.set m v).take (m + 1) ++ (us.set m v).drop (m + 2))) (hx : Ex [g] wr w') (hs : ∃ cs, w'.heap[g]? = some (.cells cs 43 (0, 0)) ∧ cs.size = c) :
    PS B (S.take m ++ (M :: S.drop (m + 2))) ((us.set m v).take (m + 1) ++ (us.set m v).drop (m + 2)) (.slice (some ⟨g, 0, none⟩) n c) w' := by
  obtain ⟨hn, _, hB, _⟩ := h.own.opened'
  have hlen := h.len
  have hl : ((us.set m v).take (m + 1) ++ (us.set m v).drop (m + 2)).length = n := by
    rw [List.length_append, List.length_take, List.length_drop, List.length_set]; omega
  have hw := Own.shut' (B := B) hR hs hB
  rw [hl] at hw
  have hkeep : ∀ {v : Value} {p : List (Int × Int)}, El B wr v p → El B w' v p := fun hv => hv.ex hx (fun b hb => by
    rw [List.mem_singleton] at hb; subst hb
    exact h.own.nr (by decide) rfl)
  refine ⟨hw, ⟨g, c, by rw [hl]⟩, by rw [hl, List.length_append, List.length_take, List.length_cons, List.length_drop]; omega, fun q hq => ?_⟩
  rw [List.length_append, List.length_take, List.length_cons, List.length_drop] at hq
  have e1 : gv ((us.set m v).take (m + 1) ++ (us.set m v).drop (m + 2)) q = if q < m then gv us q else if q = m then v else gv us (q + 1) := by
    unfold gv
    rw [List.getD_eq_getElem?_getD, List.getElem?_append, List.length_take, List.length_set, show min (m + 1) us.length = m + 1 by omega]
    by_cases a : q < m + 1
    · rw [if_pos a, List.getElem?_take_of_lt a, List.getElem?_set]
      by_cases b : q < m
      · rw [if_pos b, if_neg (by omega), List.getD_eq_getElem?_getD]
      · have : q = m := by omega
        subst this
        simp [show q < us.length by omega]
    · rw [if_neg a, if_neg (by omega), if_neg (by omega), List.getElem?_drop, List.getElem?_set, if_neg (by omega), List.getD_eq_getElem?_getD, show m + 2 + (q - (m + 1)) = q + 1 by omega]
  have e2 : gp (S.take m ++ (M :: S.drop (m + 2))) q = if q < m then gp S q else if q = m then M else gp S (q + 1) := by
    unfold gp
    rw [List.getD_eq_getElem?_getD, List.getElem?_append, List.length_take, show min m S.length = m by omega]
    by_cases b : q < m
    · rw [if_pos b, if_pos b, List.getElem?_take_of_lt b, List.getD_eq_getElem?_getD]
    · rw [if_neg b, if_neg b]
      by_cases a : q = m
      · subst a; simp
      · rw [if_neg a, show q - m = (q - m - 1) + 1 by omega, List.getElem?_cons_succ, List.getElem?_drop, List.getD_eq_getElem?_getD, show m + 2 + (q - m - 1) = q + 1 by omega]
  rw [e1, e2]
  split
  · exact hkeep (h.el q (by omega))
  · split
    · exact hkeep hv
    · exact hkeep (h.el (q + 1) (by omega))
end Go.Proofs.Ytdhcpoeopooejaa
