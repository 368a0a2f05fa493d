/- A slice of slices of ints under way. -/
import Derived.Test.YtdhcpoeopooejaaIntSS
import Derived.Test.YtdhcpoeopooejaaBin
namespace Go.Proofs.Ytdhcpoeopooejaa
open Go.RowKit
set_option linter.unusedVariables false
set_option linter.unusedSimpArgs false

structure SSO (w : World) (out : List (List Int)) (us : List Value) (o : Value) (wr : World) : Prop where
  own : Own wr 22 w.heap.size o us
  inn : Inn wr w.heap.size o us out
  bel : Below w.heap.size w wr
theorem SSO.start (w : World) {W : World} (hb : Below w.heap.size w W) : SSO w [] [] (.slice (some ⟨W.heap.size, 0, none⟩) 0 0) (W.alloc (.cells #[] 22)) :=
  ⟨(Own.empty W 22).base hb.size, Inn.nil _ _ _, hb.alloc hb.size _⟩
theorem SSO.below {w W wr : World} {out : List (List Int)} {us : List Value} {o : Value} (h : SSO w out us o W) (hb : Below W.heap.size W wr) : SSO w out us o wr :=
  ⟨h.own.below hb, h.inn.of_block fun _ hi b hb' => hb.block b (h.inn.lt hi hb'), Below.next h.bel hb⟩
theorem SSO.made {w W : World} {out : List (List Int)} {us : List Value} {o : Value} (h : SSO w out us o W) : ∃ F, RIntSS W o out F ∧ Fr w.heap.size F ∧ Below w.heap.size w W := RIntSS.made h.own h.inn h.bel
theorem SSO.append {w W wr w2 : World} {out : List (List Int)} {us : List Value} {o v' cv : Value} {c : List Int} (h0 : SSO w out us o W) (hb0 : Below W.heap.size W wr)
    (hc : Own wr 3 W.heap.size cv (ints c)) (ho : Own w2 22 w.heap.size v' (us ++ [cv])) (hg : wr.grownBy w2 o.ownBlock) (hat : v'.ownBlock = o.ownBlock ∨ v'.ownBlock = some (wr.heap.size + 1)) : SSO w (out ++ [c]) (us ++ [cv]) v' w2 := by
  have h := h0.below hb0
  have hsz := h0.bel.size
  have hob : ∀ b, o.ownBlock = some b → b < W.heap.size := fun b hb => (h0.own.lt b hb).2
  have hcb : ∀ b, cv.ownBlock = some b → W.heap.size ≤ b ∧ b < wr.heap.size := hc.lt
  have hv : ∀ b, v'.ownBlock = some b → o.ownBlock = some b ∨ b = wr.heap.size + 1 := by
    intro b hb
    rcases hat with e | e
    · exact .inl (by rw [← e]; exact hb)
    · rw [e] at hb; simp at hb; exact .inr hb.symm
  refine ⟨ho, ?_, Below.appended h.bel h.own hg h.bel.size⟩
  refine Inn.snoc (h.inn.of_block fun i hi b hb => hg.block b (h.inn.lt hi hb) (fun e => h.inn.hd i hi b hb e.symm)) (v := o) ?_ ?_ ?_
  · refine hc.sl.grown hg ?_
    cases e : cv.ownBlock with
    | none => exact .inl rfl
    | some q => exact .inr (fun e2 => by have := hcb q e; have := hob q e2.symm; omega)
  · intro b hb
    have hb2 := hcb b hb
    refine ⟨by omega, fun e => ?_, fun i hi e => ?_⟩
    · rcases hv b e with e | e
      · have := hob b e; omega
      · omega
    · have := h0.inn.lt hi e; omega
  · intro i hi b hb e
    have hb2 := h0.inn.lt hi hb
    rcases hv b e with e | e
    · exact h.inn.hd i hi b hb e
    · have := hb0.size; omega
theorem szIntSS_le {m : Nat} {L : List (List Int)} (h : ∀ l ∈ L, l.length ≤ m) : szIntSS L ≤ L.length * m := by
  induction L with
  | nil => simp [szIntSS]
  | cons c L ih =>
    have := ih (fun l hl => h l (List.mem_cons_of_mem _ hl))
    have := h c (List.mem_cons_self)
    rw [szIntSS, List.length_cons, Nat.add_mul]; omega
end Go.Proofs.Ytdhcpoeopooejaa
