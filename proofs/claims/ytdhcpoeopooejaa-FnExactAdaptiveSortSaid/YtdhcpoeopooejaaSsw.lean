/- A slice of slices of ints whose elements are grown in place. -/
import Derived.Test.YtdhcpoeopooejaaSso
import Derived.Test.YtdhcpoeopooejaaBin
namespace Go.Proofs.Ytdhcpoeopooejaa
open Go.RowKit
set_option linter.unusedVariables false
set_option linter.unusedSimpArgs false

theorem Row.rdTakeV {w : World} {e b off c lo : Nat} {xs : List Value} (h : Row w e b off c xs) (hl : lo ≤ xs.length) : RdV w (.slice (some ⟨b, off, none⟩) lo c) (xs.take lo) := by
  have := RdV.of_sl (Sl.of_row (h.take lo))
  simpa only [List.length_take, Nat.min_eq_left hl] using this
theorem Row.rdDropV {w : World} {e b off c lo n : Nat} {xs : List Value} (h : Row w e b off c xs) (hl : lo ≤ xs.length) (hn : xs.length - lo = n) : RdV w (.slice (some ⟨b, off + lo, none⟩) n (c - lo)) (xs.drop lo) := by
  have hc := h.le
  have := RdV.of_sl (Sl.of_row (h.drop (k := lo) (by omega)))
  simpa only [List.length_drop, hn] using this
theorem RdV.noneV {w : World} {ad : Addr} {c : Nat} : RdV w (.slice (some ad) 0 c) [] := ⟨some ad, c, rfl, fun h => by simp at h, fun _ _ j hj => absurd hj (by simp)⟩
theorem Own.opened' {w : World} {e B g n c : Nat} {xs : List Value} (h : Own w e B (.slice (some ⟨g, 0, none⟩) n c) xs) : n = xs.length ∧ Row w e g 0 c xs ∧ B ≤ g ∧ ∃ cs, w.heap[g]? = some (.cells cs e (0, 0)) ∧ cs.size = c := by
  have h' := h
  obtain ⟨hl, hh⟩ := h
  rcases hh with ⟨h, _⟩ | ⟨g', cap, cur, hv, hb, hg, hn, hm, hs, ht⟩
  · simp at h
  · simp only [Value.slice.injEq, Option.some.injEq, Addr.mk.injEq, and_true] at hv
    obtain ⟨rfl, rfl, rfl⟩ := hv
    exact ⟨rfl, Row.of_owns h', hb, cur, hg, by omega⟩
theorem Own.shut' {w : World} {e B g c : Nat} {xs : List Value} (h : Row w e g 0 c xs) (hs : ∃ cs, w.heap[g]? = some (.cells cs e (0, 0)) ∧ cs.size = c) (hB : B ≤ g) : Own w e B (.slice (some ⟨g, 0, none⟩) xs.length c) xs := by
  obtain ⟨cs, h1, h2⟩ := hs
  obtain ⟨cs', k1, k2, k3, k4, k5⟩ := h
  rw [h1] at k1
  simp only [Option.some.injEq, Obj.cells.injEq] at k1
  obtain ⟨rfl, _⟩ := k1
  refine ⟨by simp, .inr ⟨g, c, cs, rfl, hB, h1, k2, k4, by omega, ?_⟩⟩
  apply List.ext_getElem?
  intro i
  rw [Nat.mul_one, List.getElem?_take]
  by_cases hi : i < xs.length
  · rw [if_pos hi]
    have := k5 i hi
    rw [Nat.zero_add] at this
    rw [List.getElem?_eq_getElem hi, ← this]
    simp
  · rw [if_neg hi, List.getElem?_eq_none (by omega)]
theorem Own.setAt {w : World} {e B g n c i : Nat} {xs : List Value} {y : Value} (h : Own w e B (.slice (some ⟨g, 0, none⟩) n c) xs) (hi : i < n) : Own (w.setCell ⟨g, i, none⟩ y) e B (.slice (some ⟨g, 0, none⟩) n c) (xs.set i y) := by
  obtain ⟨rfl, hR, hB, cs, h1, h2⟩ := h.opened'
  have hr := hR.set hi y
  rw [Nat.zero_add] at hr
  have := Own.shut' (B := B) hr ⟨_, heap_setCell_same w g i cs e y h1, by simpa using h2⟩ hB
  rwa [List.length_set] at this
/-- What the block of an owned slice holds. -/
theorem Own.typed {w : World} {e B b : Nat} {v : Value} {xs : List Value} (h : Own w e B v xs) (hb : v.ownBlock = some b) : ∃ cs, w.heap[b]? = some (.cells cs e (0, 0)) := by
  obtain ⟨hl, hh⟩ := h
  rcases hh with ⟨rfl, _⟩ | ⟨g', cap, cur, rfl, _, hg, _⟩
  · simp [Value.ownBlock] at hb
  · simp [Value.ownBlock] at hb
    subst hb
    exact ⟨cur, hg⟩
theorem Own.ne {w : World} {e e' B B' : Nat} {v v' : Value} {xs xs' : List Value} (h : Own w e B v xs) (k : Own w e' B' v' xs') (hne : e ≠ e') : ∀ b, v.ownBlock = some b → v'.ownBlock ≠ some b := by
  intro b hb hb'
  obtain ⟨cs, h1⟩ := h.typed hb
  obtain ⟨cs', h2⟩ := k.typed hb'
  rw [h1] at h2
  simp only [Option.some.injEq, Obj.cells.injEq] at h2
  exact hne h2.2.1
theorem Own.one (w : World) (e B : Nat) (y : Value) (hB : B ≤ w.heap.size) : Own (w.alloc (.cells #[y] e)) e B (.slice (some ⟨w.heap.size, 0, none⟩) 1 1) [y] :=
  Own.shut' (xs := [y]) ⟨#[y], by show (w.heap.push _)[w.heap.size]? = _; simp, by simp, by simp, by unfold maxLen; omega, fun i hi => by
    have : i = 0 := by simp at hi; omega
    subst this; rfl⟩ ⟨#[y], by show (w.heap.push _)[w.heap.size]? = _; simp, rfl⟩ hB
/-- An owned slice behind an append to another one, of other elements. -/
theorem Own.keptOf {w w' : World} {e e' B B' : Nat} {v v' : Value} {xs xs' : List Value} (h : Own w e B v xs) (k : Own w e' B' v' xs') (hne : e ≠ e') (hg : w.grownBy w' v'.ownBlock) : Own w' e B v xs :=
  h.kept hg (by
    cases hv : v.ownBlock with
    | none => exact .inl rfl
    | some b => exact .inr (fun e => h.ne k hne b hv e.symm))

structure SSW (w : World) (out : List (List Int)) (us : List Value) (o : Value) (wr : World) : Prop where
  own : Own wr 22 w.heap.size o us
  nn : ∃ b c, o = .slice (some ⟨b, 0, none⟩) us.length c
  len : us.length = out.length
  el : ∀ q, q < out.length → Own wr 3 w.heap.size (gv us q) (ints (gl out q))
  dj : ∀ i j, i < out.length → j < out.length → i ≠ j → ∀ b, (gv us i).ownBlock = some b → (gv us j).ownBlock ≠ some b
  bel : Below w.heap.size w wr
theorem SSW.start (w : World) {W : World} (hb : Below w.heap.size w W) : SSW w [] [] (.slice (some ⟨W.heap.size, 0, none⟩) 0 0) (W.alloc (.cells #[] 22)) :=
  ⟨(Own.empty W 22).base hb.size, ⟨_, _, rfl⟩, rfl, fun _ h => absurd h (by simp), fun _ _ h => absurd h (by simp), hb.alloc hb.size _⟩
theorem SSW.below {w W wr : World} {out : List (List Int)} {us : List Value} {o : Value} (h : SSW w out us o W) (hb : Below W.heap.size W wr) : SSW w out us o wr :=
  ⟨h.own.below hb, h.nn, h.len, fun q hq => (h.el q hq).below hb, h.dj, Below.next h.bel hb⟩
theorem SSW.made {w W : World} {out : List (List Int)} {us : List Value} {o : Value} (h : SSW w out us o W) : ∃ F, RIntSS W o out F ∧ Fr w.heap.size F ∧ Below w.heap.size w W :=
  RIntSS.made h.own ⟨h.len, fun q hq => (h.el q hq).sl, fun q hq b hb => ((h.el q hq).lt b hb).1, fun q hq => (h.el q hq).ne h.own (by decide), h.dj⟩ h.bel
theorem gv_set {us : List Value} {k q : Nat} {v : Value} (hk : k < us.length) : gv (us.set k v) q = if k = q then v else gv us q := by
  unfold gv
  rw [List.getD_eq_getElem?_getD, List.getElem?_set, List.getD_eq_getElem?_getD]
  by_cases h : k = q
  · subst h; simp [hk]
  · simp [h]
theorem gl_set {x : List (List Int)} {k q : Nat} {c : List Int} (hk : k < x.length) : gl (x.set k c) q = if k = q then c else gl x q := by
  unfold gl
  rw [List.getD_eq_getElem?_getD, List.getElem?_set, List.getD_eq_getElem?_getD]
  by_cases h : k = q
  · subst h; simp [hk]
  · simp [h]
/-- Class k grown by an append, and stored back. -/
theorem SSW.grow {w W w3 : World} {out : List (List Int)} {us : List Value} {b c k : Nat} {v' : Value} {L : List Int} (h : SSW w out us (.slice (some ⟨b, 0, none⟩) us.length c) W) (hk : k < out.length)
    (ho : Own w3 3 w.heap.size v' (ints L)) (hg : W.grownBy w3 (gv us k).ownBlock) (hat : v'.ownBlock = (gv us k).ownBlock ∨ v'.ownBlock = some (W.heap.size + 1)) :
    SSW w (out.set k L) (us.set k v') (.slice (some ⟨b, 0, none⟩) us.length c) (w3.setCell ⟨b, k, none⟩ v') := by
  have hlen := h.len
  have ho2 : Own w3 22 w.heap.size (.slice (some ⟨b, 0, none⟩) us.length c) us := h.own.keptOf (h.el k hk) (by decide) hg
  have hbB := (h.own.lt b rfl)
  have hkept : ∀ q, q < out.length → q ≠ k → Own w3 3 w.heap.size (gv us q) (ints (gl out q)) := fun q hq hqk =>
    (h.el q hq).kept hg (by
      cases hv : (gv us q).ownBlock with
      | none => exact .inl rfl
      | some z => exact .inr (fun e => h.dj q k hq hk hqk z hv e.symm))
  have hset : ∀ {v : Value} {xs : List Value}, Own w3 3 w.heap.size v xs → Own (w3.setCell ⟨b, k, none⟩ v') 3 w.heap.size v xs := by
    intro v xs hv
    refine hv.kept (r := some b) (grownBy.setIn (World.grownBy.refl w3 (some b)) (p := ⟨b, k, none⟩) rfl) ?_
    cases e : v.ownBlock with
    | none => exact .inl rfl
    | some z => exact .inr (fun e2 => by
        simp at e2; subst e2
        exact hv.ne ho2 (by decide) _ e rfl)
  have hvv : ∀ z, v'.ownBlock = some z → ∀ q, q < out.length → q ≠ k → (gv us q).ownBlock ≠ some z := by
    intro z hz q hq hqk e
    rcases hat with h1 | h1
    · rw [h1] at hz; exact h.dj q k hq hk hqk z e hz
    · rw [h1] at hz; simp at hz; have := ((h.el q hq).lt z e).2; omega
  refine ⟨?_, ⟨b, c, by simp⟩, by simp [hlen], ?_, ?_, ?_⟩
  · exact ho2.setAt (by omega)
  · intro q hq
    rw [List.length_set] at hq
    rw [gv_set (by omega), gl_set hk]
    by_cases e : k = q
    · subst e; rw [if_pos rfl, if_pos rfl]; exact hset ho
    · rw [if_neg e, if_neg e]; exact hset (hkept q hq (fun h => e h.symm))
  · intro i j hi hj hij z hz
    rw [List.length_set] at hi hj
    rw [gv_set (by omega)] at hz ⊢
    by_cases e1 : k = i
    · subst e1
      rw [if_pos rfl] at hz
      rw [if_neg hij]
      exact hvv z hz j hj (fun h => hij h.symm)
    · rw [if_neg e1] at hz
      by_cases e2 : k = j
      · rw [if_pos e2]
        intro e3
        exact hvv z e3 i hi (fun h => e1 h.symm) hz
      · rw [if_neg e2]; exact h.dj i j hi hj hij z hz
  · have h1 := Below.appended h.bel (h.el k hk) hg h.bel.size
    exact ⟨h1.os, h1.tape, h1.output, by simpa [World.setCell] using h1.size, fun q hq => (heap_setCell_other w3 ⟨b, k, none⟩ q v' (by intro e; simp at e; omega)).trans (h1.block q hq)⟩
theorem gv_ins {us : List Value} {k q : Nat} {u : Value} (hk : k ≤ us.length) : gv ((us.take k ++ [u]) ++ us.drop k) q = if q < k then gv us q else if q = k then u else gv us (q - 1) := by
  unfold gv
  simp only [List.getD_eq_getElem?_getD, List.getElem?_append, List.getElem?_take, List.length_append, List.length_take, List.length_singleton, List.getElem?_drop]
  have e : min k us.length = k := by omega
  rw [e]
  by_cases h1 : q < k
  · rw [if_pos (by omega), if_pos h1, if_pos h1, if_pos h1]
  · by_cases h2 : q = k
    · subst h2; simp
    · rw [if_neg (by omega), if_neg h1, if_neg h2]
      congr 2; omega
theorem gl_ins {x : List (List Int)} {k q : Nat} {u : List Int} (hk : k ≤ x.length) : gl ((x.take k ++ [u]) ++ x.drop k) q = if q < k then gl x q else if q = k then u else gl x (q - 1) := by
  unfold gl
  simp only [List.getD_eq_getElem?_getD, List.getElem?_append, List.getElem?_take, List.length_append, List.length_take, List.length_singleton, List.getElem?_drop]
  have e : min k x.length = k := by omega
  rw [e]
  by_cases h1 : q < k
  · rw [if_pos (by omega), if_pos h1, if_pos h1, if_pos h1]
  · by_cases h2 : q = k
    · subst h2; simp
    · rw [if_neg (by omega), if_neg h1, if_neg h2]
      congr 2; omega
/-- A new class laid in at place k: a new header, a new row. -/
theorem SSW.ins {w W w6 : World} {out : List (List Int)} {us : List Value} {o v' u : Value} {k : Nat} {L : List Int} (h : SSW w out us o W) (hk : k ≤ out.length) (hb : Below W.heap.size W w6)
    (hu : Own w6 3 W.heap.size u (ints L)) (ho : Own w6 22 W.heap.size v' ((us.take k ++ [u]) ++ us.drop k)) :
    SSW w ((out.take k ++ [L]) ++ out.drop k) ((us.take k ++ [u]) ++ us.drop k) v' w6 := by
  have hlen := h.len
  have hsz := h.bel.size
  have hub : ∀ z, u.ownBlock = some z → ∀ q, q < out.length → (gv us q).ownBlock ≠ some z := fun z hz q hq e => by
    have := (hu.lt z hz).1; have := ((h.el q hq).lt z e).2; omega
  refine ⟨ho.base hsz, ?_, by simp; omega, ?_, ?_, Below.next h.bel hb⟩
  · obtain ⟨hl, hh⟩ := ho
    rcases hh with ⟨_, h2⟩ | ⟨g, cap, cur, hv, _⟩
    · simp at h2
    · exact ⟨g, cap, hv⟩
  · intro q hq
    have hq' : q < out.length + 1 := by simp at hq; omega
    rw [gv_ins (by omega), gl_ins hk]
    by_cases h1 : q < k
    · rw [if_pos h1, if_pos h1]; exact (h.el q (by omega)).below hb
    · rw [if_neg h1, if_neg h1]
      by_cases h2 : q = k
      · rw [if_pos h2, if_pos h2]; exact hu.base hsz
      · rw [if_neg h2, if_neg h2]; exact (h.el (q - 1) (by omega)).below hb
  · intro i j hi hj hij z
    have hi' : i < out.length + 1 := by simp at hi; omega
    have hj' : j < out.length + 1 := by simp at hj; omega
    have key : ∀ q, q < out.length + 1 → q ≠ k → ∃ q', q' < out.length ∧ gv ((us.take k ++ [u]) ++ us.drop k) q = gv us q' ∧ q' = if q < k then q else q - 1 := by
      intro q hq hqk
      rw [gv_ins (by omega)]
      by_cases a1 : q < k
      · rw [if_pos a1]; exact ⟨q, by omega, rfl, by rw [if_pos a1]⟩
      · rw [if_neg a1, if_neg hqk]; exact ⟨q - 1, by omega, rfl, by rw [if_neg a1]⟩
    have kk : gv ((us.take k ++ [u]) ++ us.drop k) k = u := by rw [gv_ins (by omega), if_neg (by omega), if_pos rfl]
    intro hz
    by_cases a1 : i = k
    · subst a1
      rw [kk] at hz
      obtain ⟨j', h1, h2, _⟩ := key j hj' (fun e => hij e.symm)
      rw [h2]
      exact hub z hz j' h1
    · obtain ⟨i', h1, h2, h3⟩ := key i hi' a1
      rw [h2] at hz
      by_cases a2 : j = k
      · subst a2
        rw [kk]
        exact fun e => hub z e i' h1 hz
      · obtain ⟨j', h4, h5, h6⟩ := key j hj' a2
        rw [h5]
        exact h.dj i' j' h1 h4 (by split at h3 <;> split at h6 <;> omega) z hz
theorem SSW.one {w W : World} {out : List (List Int)} {us : List Value} {o : Value} (h : SSW w out us o W) : ∀ y ∈ us, y.oneCell' = true := by
  intro y hy
  obtain ⟨i, hi, rfl⟩ := List.getElem_of_mem hy
  obtain ⟨ao, c, e, _⟩ := (h.el i (by rw [← h.len]; exact hi)).sl
  rw [← gv_eq hi, e]; rfl
end Go.Proofs.Ytdhcpoeopooejaa
