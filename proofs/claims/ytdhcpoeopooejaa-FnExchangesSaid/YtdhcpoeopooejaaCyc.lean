/- The cycles of a permutation, and its sign by their number. No program. -/
import Derived.Test.YtdhcpoeopooejaaSign
import Derived.Test.YtdhcpoeopooejaaRank
namespace Go.Proofs.Ytdhcpoeopooejaa
open Go.RowKit
set_option linter.unusedVariables false
set_option linter.unusedSimpArgs false

/-- One cycle walked from k on: the marks, and what has been gathered. -/
def cycIn (p : List Int) : Nat → List Bool → Int → List Int → List Bool × List Int
  | 0, s, _, c => (s, c)
  | m + 1, s, k, c => if gb s k.toNat then (s, c) else cycIn p m (s.set k.toNat true) (gi p k.toNat) (c ++ [k])
/-- How many places bear no mark. -/
def unseen : List Bool → Nat
  | [] => 0
  | b :: l => (if b then 0 else 1) + unseen l
/-- Marks and cycles behind i rounds. -/
def cycK (p : List Int) : Nat → List Bool × List (List Int)
  | 0 => (List.replicate p.length false, [])
  | i + 1 => ((cycIn p p.length (cycK p i).1 i []).1, if (cycIn p p.length (cycK p i).1 i []).2.length = 0 then (cycK p i).2 else (cycK p i).2 ++ [(cycIn p p.length (cycK p i).1 i []).2])
theorem unseen_le (s : List Bool) : unseen s ≤ s.length := by
  induction s with
  | nil => simp [unseen]
  | cons b l ih => simp only [unseen, List.length_cons]; split <;> omega
theorem unseen_set {s : List Bool} {i : Nat} (hi : i < s.length) (h : gb s i = false) : unseen (s.set i true) + 1 = unseen s := by
  induction s generalizing i with
  | nil => simp at hi
  | cons b l ih =>
    cases i with
    | zero =>
      simp [gb] at h
      subst h
      simp [unseen]; omega
    | succ i =>
      have := ih (i := i) (by simpa using hi) (by simpa [gb] using h)
      simp only [List.set_cons_succ, unseen]
      omega
theorem unseen_zero {s : List Bool} (h : unseen s = 0) {i : Nat} (hi : i < s.length) : gb s i = true := by
  cases hb : gb s i
  · have := unseen_set hi hb; omega
  · rfl
theorem unseen_all {s : List Bool} (h : ∀ i, i < s.length → gb s i = true) : unseen s = 0 := by
  induction s with
  | nil => rfl
  | cons b l ih =>
    have h0 := h 0 (by simp)
    simp [gb] at h0
    subst h0
    simp only [unseen, if_true]
    have := ih fun i hi => by have := h (i + 1) (by simpa using hi); simpa [gb] using this
    omega
theorem unseen_new (n : Nat) : unseen (List.replicate n false) = n := by
  induction n with
  | zero => rfl
  | succ n ih => simp [List.replicate_succ, unseen, ih]; omega
theorem gb_set {s : List Bool} {i k : Nat} {x : Bool} (hi : i < s.length) : gb (s.set i x) k = if i = k then x else gb s k := by
  unfold gb
  rw [List.getD_eq_getElem?_getD, List.getD_eq_getElem?_getD, List.getElem?_set]
  by_cases h : i = k
  · subst h; simp [hi]
  · simp [h]
/-- The entries of a permutation are places. -/
def InP (p : List Int) : Prop := ∀ j, j < p.length → 0 ≤ gi p j ∧ gi p j < (p.length : Int)
theorem goodP_inP {p : List Int} (h : goodP p = true) : InP p := by
  intro j hj
  have := (permAt_iff.1 ((goodP_iff.1 h).2 j hj)).1
  omega
/-- Marks are never taken away, and the first place is marked. -/
theorem cycIn_len (p : List Int) : ∀ m s k c, (cycIn p m s k c).1.length = s.length := by
  intro m
  induction m with
  | zero => intro s k c; rfl
  | succ m ih =>
    intro s k c
    rw [cycIn]
    split
    · rfl
    · rw [ih]; simp
theorem cycIn_keep (p : List Int) : ∀ m s k c x, gb s x = true → gb (cycIn p m s k c).1 x = true := by
  intro m
  induction m with
  | zero => intro s k c x h; exact h
  | succ m ih =>
    intro s k c x h
    rw [cycIn]
    split
    · exact h
    · apply ih
      by_cases hk : k.toNat < s.length
      · rw [gb_set hk]; split
        · rfl
        · exact h
      · rw [List.set_eq_of_length_le (by omega)]; exact h
theorem cycIn_first (p : List Int) (m : Nat) (s : List Bool) (i : Nat) (hi : i < s.length) (hm : 0 < m) (c : List Int) : gb (cycIn p m s i c).1 i = true := by
  obtain ⟨m, rfl⟩ : ∃ q, m = q + 1 := ⟨m - 1, by omega⟩
  rw [cycIn]
  split
  · rename_i h; exact h
  · apply cycIn_keep
    rw [gb_set (by simpa using hi)]
    simp
theorem cycIn_stop (p : List Int) (m : Nat) (s : List Bool) (k : Int) (c : List Int) (h : gb s k.toNat = true) : cycIn p m s k c = (s, c) := by
  cases m with
  | zero => rfl
  | succ m => rw [cycIn, if_pos h]
theorem cycIn_next (p : List Int) (m : Nat) (s : List Bool) (k : Int) (c : List Int) (h : gb s k.toNat = false) : cycIn p (m + 1) s k c = cycIn p m (s.set k.toNat true) (gi p k.toNat) (c ++ [k]) := by
  rw [cycIn, if_neg (by simp [h])]
/-- The ghost: what is marked stands at its place; what is not stands as in p. -/
structure Gh (p : List Int) (s : List Bool) (g : List Int) (i : Nat) (k : Int) : Prop where
  len : g.length = p.length
  sl : s.length = p.length
  dist : Dist g
  at_ : gi g i = k
  one : ∀ x, x < p.length → x ≠ i → gb s x = true → gi g x = x
  two : ∀ x, x < p.length → x ≠ i → gb s x = false → gi g x = gi p x
theorem Gh.stop {p : List Int} {s : List Bool} {g : List Int} {i : Nat} {K : Nat} (h : Gh p s g i K) (hi : i < p.length) (hK : K < p.length) (hs : gb s K = true) : gi g i = i := by
  by_cases e : K = i
  · rw [h.at_, e]
  · have := h.one K hK e hs
    rcases Nat.lt_or_gt_of_ne e with l | l
    · exact absurd (this.trans h.at_.symm) (h.dist K i l (by rw [h.len]; exact hi))
    · exact absurd (h.at_.trans this.symm) (h.dist i K l (by rw [h.len]; exact hK))
theorem cycIn_ghost {p : List Int} (hp : InP p) {i : Nat} (hi : i < p.length) : ∀ m s (K : Nat) c g, K < p.length → gb s i = true → unseen s ≤ m → Gh p s g i K →
    ∃ g', Gh p (cycIn p m s K c).1 g' i i ∧ (par g' + unseen (cycIn p m s K c).1) % 2 = (par g + unseen s) % 2 := by
  intro m
  induction m with
  | zero =>
    intro s K c g hK hsi hu h
    have hs := unseen_zero (s := s) (by omega) (i := K) (by rw [h.sl]; exact hK)
    refine ⟨g, ?_, rfl⟩
    have := h.stop hi hK hs
    exact ⟨h.len, h.sl, h.dist, this, h.one, h.two⟩
  | succ m ih =>
    intro s K c g hK hsi hu h
    cases hs : gb s K
    · have hki : K ≠ i := fun e => by rw [e, hsi] at hs; cases hs
      rw [cycIn_next p m s K c (by simpa using hs)]
      simp only [Int.toNat_natCast]
      have hset := unseen_set (s := s) (i := K) (by rw [h.sl]; exact hK) hs
      have hx := hp K hK
      obtain ⟨Y, hY⟩ := Int.eq_ofNat_of_zero_le hx.1
      have hYl : Y < p.length := by omega
      rw [hY]
      have hil : i < g.length := by rw [h.len]; exact hi
      have hKl : K < g.length := by rw [h.len]; exact hK
      have hsl : K < s.length := by rw [h.sl]; exact hK
      obtain ⟨g', h1, h2⟩ := ih (s.set K true) Y (c ++ [(K : Int)]) (swp g i K) hYl (by rw [gb_set hsl, if_neg hki]; exact hsi) (by omega) ⟨by simp [h.len], by simp [h.sl], h.dist.swp hil hKl, by
          rw [gi_swp hil hKl, if_neg (Ne.symm hki), if_pos rfl, h.two K hK hki hs, hY], by
          intro x hxl hxi hxs
          rw [gi_swp hil hKl]
          by_cases e : x = K
          · rw [if_pos e, h.at_, e]
          · rw [if_neg e, if_neg hxi]
            refine h.one x hxl hxi ?_
            rw [gb_set hsl, if_neg (fun q => e q.symm)] at hxs
            exact hxs, by
          intro x hxl hxi hxs
          rw [gi_swp hil hKl]
          by_cases e : x = K
          · subst e; rw [gb_set hsl, if_pos rfl] at hxs; cases hxs
          · rw [if_neg e, if_neg hxi]
            refine h.two x hxl hxi ?_
            rw [gb_set hsl, if_neg (fun q => e q.symm)] at hxs
            exact hxs⟩
      refine ⟨g', h1, ?_⟩
      rw [par_swp' h.dist (Ne.symm hki) hil hKl] at h2
      omega
    · rw [cycIn_stop p (m + 1) s K c (by simpa using hs)]
      have := h.stop hi hK hs
      exact ⟨g, ⟨h.len, h.sl, h.dist, this, h.one, h.two⟩, rfl⟩
theorem cycIn_grow (p : List Int) : ∀ m s k c, c.length ≤ (cycIn p m s k c).2.length := by
  intro m
  induction m with
  | zero => intro s k c; exact Nat.le_refl _
  | succ m ih =>
    intro s k c
    rw [cycIn]
    split
    · exact Nat.le_refl _
    · refine Nat.le_trans ?_ (ih _ _ _)
      simp
structure GhO (p : List Int) (s : List Bool) (g : List Int) : Prop where
  len : g.length = p.length
  sl : s.length = p.length
  dist : Dist g
  one : ∀ x, x < p.length → gb s x = true → gi g x = x
  two : ∀ x, x < p.length → gb s x = false → gi g x = gi p x
theorem cycK_ghost {p : List Int} (hp : InP p) (hd : Dist p) : ∀ i, i ≤ p.length → ∃ g, GhO p (cycK p i).1 g ∧ (par g + unseen (cycK p i).1 + (cycK p i).2.length) % 2 = (par p + p.length) % 2 ∧
    (cycK p i).2.length ≤ i ∧ ∀ x, x < i → gb (cycK p i).1 x = true := by
  intro i
  induction i with
  | zero =>
    intro _
    refine ⟨p, ⟨rfl, by simp [cycK], hd, ?_, fun _ _ _ => rfl⟩, by simp [cycK, unseen_new], Nat.zero_le _, fun x hx => absurd hx (by omega)⟩
    intro x hx hs
    simp [cycK, gb, List.getD_eq_getElem?_getD, hx] at hs
  | succ i ih =>
    intro hi
    obtain ⟨g, h, hpar, hle, hall⟩ := ih (by omega)
    generalize hS : cycK p i = S at *
    obtain ⟨s, out⟩ := S
    dsimp only at h hpar hle hall
    have hil : i < p.length := by omega
    have hfirst := cycIn_first p p.length s i (by rw [h.sl]; exact hil) (by omega) []
    have hall' : ∀ x, x < i + 1 → gb (cycK p (i + 1)).1 x = true := by
      intro x hx
      rw [cycK, hS]
      by_cases e : x = i
      · subst e; exact hfirst
      · exact cycIn_keep p _ _ _ _ _ (hall x (by omega))
    cases hs : gb s i
    · obtain ⟨n, hn⟩ : ∃ n, p.length = n + 1 := ⟨p.length - 1, by omega⟩
      have hx := hp i hil
      obtain ⟨Y, hY⟩ := Int.eq_ofNat_of_zero_le hx.1
      have hYl : Y < p.length := by omega
      have hsl : i < s.length := by rw [h.sl]; exact hil
      have hset := unseen_set (s := s) (i := i) hsl hs
      have hul := unseen_le s
      have hnext := cycIn_next p n s i [] (by simpa using hs)
      simp only [Int.toNat_natCast, List.nil_append] at hnext
      rw [← hn, hY] at hnext
      obtain ⟨g', h1, h2⟩ := cycIn_ghost hp hil n (s.set i true) Y [(i : Int)] g hYl (by rw [gb_set hsl, if_pos rfl]) (by rw [h.sl] at hul; omega)
        ⟨h.len, by simp [h.sl], h.dist, by rw [h.two i hil hs, hY], by
          intro x hxl hxi hxs
          rw [gb_set hsl, if_neg (Ne.symm hxi)] at hxs
          exact h.one x hxl hxs, by
          intro x hxl hxi hxs
          rw [gb_set hsl, if_neg (Ne.symm hxi)] at hxs
          exact h.two x hxl hxs⟩
      have hgrow := cycIn_grow p n (s.set i true) Y [(i : Int)]
      have hk := cycIn_keep p n (s.set i true) Y [(i : Int)] i (by rw [gb_set hsl, if_pos rfl])
      rw [← hnext] at h1 h2 hgrow hk
      have hne : ¬ (cycIn p p.length s i []).2.length = 0 := by simp at hgrow; omega
      refine ⟨g', ⟨h1.len, by simp only [cycK, hS]; exact h1.sl, h1.dist, ?_, ?_⟩, ?_, ?_, hall'⟩
      · intro x hxl hxs
        simp only [cycK, hS] at hxs
        by_cases e : x = i
        · rw [e]; exact h1.at_
        · exact h1.one x hxl e hxs
      · intro x hxl hxs
        simp only [cycK, hS] at hxs
        by_cases e : x = i
        · rw [e, hk] at hxs; cases hxs
        · exact h1.two x hxl e hxs
      · simp only [cycK, hS, if_neg hne, List.length_append, List.length_cons, List.length_nil]
        omega
      · simp only [cycK, hS, if_neg hne, List.length_append, List.length_cons, List.length_nil]
        omega
    · have hst := cycIn_stop p p.length s i [] (by simpa using hs)
      refine ⟨g, ?_, ?_, ?_, hall'⟩
      · simp only [cycK, hS, hst]; exact h
      · simp only [cycK, hS, hst]; exact hpar
      · simp only [cycK, hS, hst]; simp; omega
theorem invs_sorted : ∀ (l : List Int) (a : Int), (∀ x, x < l.length → gi l x = a + x) → invs l = 0 := by
  intro l
  induction l with
  | nil => intro a h; rfl
  | cons b l ih =>
    intro a h
    have h0 := h 0 (by simp)
    have h1 : ∀ x, x < l.length → gi l x = (a + 1) + x := by
      intro x hx
      have := h (x + 1) (by simpa using hx)
      have e : gi (b :: l) (x + 1) = gi l x := by simp [gi]
      rw [e] at this
      omega
    have e0 : gi (b :: l) 0 = b := by simp [gi]
    rw [invs, ih _ h1]
    have : lessC b l = 0 := by
      unfold lessC
      rw [List.countP_eq_zero]
      intro y hy
      obtain ⟨k, hk, rfl⟩ := List.getElem_of_mem hy
      have := h1 k hk
      rw [gi_eq hk] at this
      simp; omega
    omega
/-- The sign by the number of cycles is the sign by inversions. -/
theorem cycles_par {p : List Int} (h : goodP p = true) : (cycK p p.length).2.length ≤ p.length ∧ (p.length - (cycK p p.length).2.length) % 2 = par p := by
  obtain ⟨g, h1, h2, h3, h4⟩ := cycK_ghost (goodP_inP h) (goodP_dist h) p.length (Nat.le_refl _)
  have hz : unseen (cycK p p.length).1 = 0 := unseen_all fun i hi => h4 i (by rw [← h1.sl]; exact hi)
  have hg : par g = 0 := by
    unfold par
    rw [invs_sorted g 0 fun x hx => by rw [h1.one x (by rw [← h1.len]; exact hx) (h4 x (by rw [← h1.len]; exact hx))]; omega]
  have := par_lt p
  rw [hz, hg] at h2
  exact ⟨h3, by omega⟩
/-! The sign by inversions, counted as the spec counts. -/
def invC (p : List Int) : Nat → Nat
  | 0 => 0
  | i + 1 => invC p i + lessK p i (p.length - 1 - i)
theorem lessK_lessC (p : List Int) (i m : Nat) (h : i + 1 + m ≤ p.length) : lessK p i m = lessC (gi p i) ((p.drop (i + 1)).take m) := by
  induction m with
  | zero => simp [lessK, lessC]
  | succ m ih =>
    rw [lessK, ih (by omega), List.take_succ_eq_append_getElem (by simp; omega)]
    have : (p.drop (i + 1))[m]'(by simp; omega) = gi p (i + 1 + m) := by rw [gi_eq (by omega)]; simp
    rw [this]
    unfold lessC
    rw [List.countP_append, List.countP_singleton]
    simp
theorem invC_invs (p : List Int) : ∀ i, i ≤ p.length → invC p i + invs (p.drop i) = invs p := by
  intro i
  induction i with
  | zero => simp [invC]
  | succ i ih =>
    intro hi
    have := ih (by omega)
    rw [List.drop_eq_getElem_cons (by omega), invs] at this
    rw [invC, lessK_lessC p i _ (by omega), List.take_of_length_le (by simp; omega), gi_eq (by omega)]
    omega
theorem invC_all (p : List Int) : invC p p.length % 2 = par p := by
  have := invC_invs p p.length (Nat.le_refl _)
  rw [List.drop_of_length_le (Nat.le_refl _)] at this
  simp [invs] at this
  unfold par
  rw [this]
/-- A sign out of a number of exchanges. -/
def sgn (n : Nat) : Int := 1 - 2 * ((n % 2 : Nat) : Int)
theorem sgn_succ (n : Nat) : sgn (n + 1) = - sgn n := by unfold sgn; omega
theorem sgn_range (n : Nat) : sgn n = 1 ∨ sgn n = -1 := by unfold sgn; omega
/-- The result of PermutationSign. -/
def signR (p : List Int) : Int × Bool := if goodP p then (sgn (invs p), true) else (0, false)
/-- The result of PermutationCycles. -/
def cycR (p : List Int) : List (List Int) × Bool := if goodP p then ((cycK p p.length).2, true) else ([], false)
end Go.Proofs.Ytdhcpoeopooejaa
