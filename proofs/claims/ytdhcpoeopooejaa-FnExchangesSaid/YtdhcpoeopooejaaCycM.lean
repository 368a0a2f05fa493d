/- The cycles of a permutation are closed, and cover every place once. -/
import Derived.Test.YtdhcpoeopooejaaCyc
import Derived.Test.YtdhcpoeopooejaaBin
namespace Go.Proofs.Ytdhcpoeopooejaa
open Go.RowKit
set_option linter.unusedVariables false
set_option linter.unusedSimpArgs false

/-- A path from i by p, which goes on at K. -/
structure Pth (p : List Int) (i : Nat) (c : List Int) (K : Nat) : Prop where
  pos : 0 < c.length
  first : gi c 0 = i
  in_ : ∀ k, k < c.length → 0 ≤ gi c k ∧ gi c k < (p.length : Int)
  step : ∀ k, k + 1 < c.length → gi p (gi c k).toNat = gi c (k + 1)
  last : gi p (gi c (c.length - 1)).toNat = K
theorem gi_app_at {S : List Int} {x : Int} : gi (S ++ [x]) S.length = x := by simp [gi]
theorem Pth.next {p : List Int} {i : Nat} {c : List Int} {K Y : Nat} (h : Pth p i c K) (hK : K < p.length) (hY : gi p K = Y) : Pth p i (c ++ [(K : Int)]) Y := by
  have hp := h.pos
  refine ⟨by simp, by rw [gi_app hp]; exact h.first, ?_, ?_, ?_⟩
  · intro k hk
    simp at hk
    by_cases e : k < c.length
    · rw [gi_app e]; exact h.in_ k e
    · obtain rfl : k = c.length := by omega
      rw [gi_app_at]; omega
  · intro k hk
    simp at hk
    rw [gi_app hk]
    by_cases e : k + 1 < c.length
    · rw [gi_app e]; exact h.step k e
    · have e2 : k + 1 = c.length := by omega
      rw [e2, gi_app_at]
      have := h.last
      rwa [show c.length - 1 = k by omega] at this
  · rw [show (c ++ [(K : Int)]).length - 1 = c.length by simp, gi_app_at]
    simpa using hY
/-- A closed path. -/
def Cls (p c : List Int) : Prop := 0 < c.length ∧ ∀ k, k < c.length → 0 ≤ gi c k ∧ gi c k < (p.length : Int) ∧ gi p (gi c k).toNat = gi c ((k + 1) % c.length)
theorem Pth.cls {p : List Int} {i : Nat} {c : List Int} (h : Pth p i c i) : Cls p c := by
  refine ⟨h.pos, fun k hk => ⟨(h.in_ k hk).1, (h.in_ k hk).2, ?_⟩⟩
  by_cases e : k + 1 < c.length
  · rw [Nat.mod_eq_of_lt e]; exact h.step k e
  · have e2 : k + 1 = c.length := by omega
    rw [e2, Nat.mod_self, h.first]
    have := h.last
    rwa [show c.length - 1 = k by omega] at this
theorem cycIn_path {p : List Int} (hp : InP p) {i : Nat} (hi : i < p.length) : ∀ m s (K : Nat) c g, K < p.length → gb s i = true → unseen s ≤ m → Gh p s g i K → Pth p i c K →
    ∃ g', Gh p (cycIn p m s K c).1 g' i i ∧ Pth p i (cycIn p m s K c).2 i ∧ (cycIn p m s K c).2.length + unseen (cycIn p m s K c).1 = c.length + unseen s := by
  intro m
  induction m with
  | zero =>
    intro s K c g hK hsi hu h hc
    have hs := unseen_zero (s := s) (by omega) (i := K) (by rw [h.sl]; exact hK)
    have := h.stop hi hK hs
    have hKi : K = i := by have := h.at_; omega
    refine ⟨g, ⟨h.len, h.sl, h.dist, this, h.one, h.two⟩, by rw [hKi] at hc; exact hc, rfl⟩
  | succ m ih =>
    intro s K c g hK hsi hu h hc
    cases hs : gb s K
    · have hki : K ≠ i := fun e => by rw [e, hsi] at hs; cases hs
      rw [cycIn_next p m s K c (by simpa using hs)]
      simp only [Int.toNat_natCast]
      have hset := unseen_set (s := s) (i := K) (by rw [h.sl]; exact hK) hs
      have hx := hp K hK
      obtain ⟨Y, hY⟩ := Int.eq_ofNat_of_zero_le hx.1
      have hYl : Y < p.length := by omega
      have hc2 := hc.next hK hY
      rw [hY]
      have hil : i < g.length := by rw [h.len]; exact hi
      have hKl : K < g.length := by rw [h.len]; exact hK
      have hsl : K < s.length := by rw [h.sl]; exact hK
      obtain ⟨g', h1, h2, h3⟩ := ih (s.set K true) Y (c ++ [(K : Int)]) (swp g i K) hYl (by rw [gb_set hsl, if_neg hki]; exact hsi) (by omega) ⟨by simp [h.len], by simp [h.sl], h.dist.swp hil hKl, by
          rw [gi_swp hil hKl, if_neg (Ne.symm hki), if_pos rfl, h.two K hK hki hs, hY], by
          intro x hxl hxi hxs
          rw [gi_swp hil hKl]
          by_cases e : x = K
          · rw [if_pos e, h.at_, e]
          · rw [if_neg e, if_neg hxi]
            refine h.one x hxl hxi ?_
            rw [gb_set hsl, if_neg (fun q => e q.symm)] at hxs
            exact hxs, by
          intro x hxl hxi hxs
          rw [gi_swp hil hKl]
          by_cases e : x = K
          · subst e; rw [gb_set hsl, if_pos rfl] at hxs; cases hxs
          · rw [if_neg e, if_neg hxi]
            refine h.two x hxl hxi ?_
            rw [gb_set hsl, if_neg (fun q => e q.symm)] at hxs
            exact hxs⟩ hc2
      refine ⟨g', h1, h2, ?_⟩
      simp only [List.length_append, List.length_cons, List.length_nil] at h3
      omega
    · rw [cycIn_stop p (m + 1) s K c (by simpa using hs)]
      have := h.stop hi hK hs
      have hKi : K = i := by have := h.at_; omega
      exact ⟨g, ⟨h.len, h.sl, h.dist, this, h.one, h.two⟩, by rw [hKi] at hc; exact hc, rfl⟩
/-- The lengths of the lists, added. -/
def lenS : List (List Int) → Nat
  | [] => 0
  | c :: l => c.length + lenS l
theorem lenS_app (a b : List (List Int)) : lenS (a ++ b) = lenS a + lenS b := by
  induction a with
  | nil => simp [lenS]
  | cons c a ih => simp only [List.cons_append, lenS, ih]; omega
theorem cycK_closed {p : List Int} (hp : InP p) (hd : Dist p) : ∀ i, i ≤ p.length → ∃ g, GhO p (cycK p i).1 g ∧ lenS (cycK p i).2 + unseen (cycK p i).1 = p.length ∧ ∀ c ∈ (cycK p i).2, Cls p c := by
  intro i
  induction i with
  | zero =>
    intro _
    refine ⟨p, ⟨rfl, by simp [cycK], hd, ?_, fun _ _ _ => rfl⟩, by simp [cycK, unseen_new, lenS], fun c hc => by simp [cycK] at hc⟩
    intro x hx hs
    simp [cycK, gb, List.getD_eq_getElem?_getD, hx] at hs
  | succ i ih =>
    intro hi
    obtain ⟨g, h, hsum, hall⟩ := ih (by omega)
    generalize hS : cycK p i = S at *
    obtain ⟨s, out⟩ := S
    dsimp only at h hsum hall
    have hil : i < p.length := by omega
    cases hs : gb s i
    · obtain ⟨n, hn⟩ : ∃ n, p.length = n + 1 := ⟨p.length - 1, by omega⟩
      have hx := hp i hil
      obtain ⟨Y, hY⟩ := Int.eq_ofNat_of_zero_le hx.1
      have hYl : Y < p.length := by omega
      have hsl : i < s.length := by rw [h.sl]; exact hil
      have hset := unseen_set (s := s) (i := i) hsl hs
      have hul := unseen_le s
      have hnext := cycIn_next p n s i [] (by simpa using hs)
      simp only [Int.toNat_natCast, List.nil_append] at hnext
      rw [← hn, hY] at hnext
      obtain ⟨g', h1, h2, h3⟩ := cycIn_path hp hil n (s.set i true) Y [(i : Int)] g hYl (by rw [gb_set hsl, if_pos rfl]) (by rw [h.sl] at hul; omega)
        ⟨h.len, by simp [h.sl], h.dist, by rw [h.two i hil hs, hY], by
          intro x hxl hxi hxs
          rw [gb_set hsl, if_neg (Ne.symm hxi)] at hxs
          exact h.one x hxl hxs, by
          intro x hxl hxi hxs
          rw [gb_set hsl, if_neg (Ne.symm hxi)] at hxs
          exact h.two x hxl hxs⟩
        ⟨by simp, by simp [gi], by
          intro k hk
          obtain rfl : k = 0 := by simp at hk; omega
          simp [gi]; omega, by
          intro k hk
          simp at hk, by simpa [gi] using hY⟩
      have hk := cycIn_keep p n (s.set i true) Y [(i : Int)] i (by rw [gb_set hsl, if_pos rfl])
      rw [← hnext] at h1 h2 h3 hk
      have hpos := h2.pos
      have hne : ¬ (cycIn p p.length s i []).2.length = 0 := by omega
      refine ⟨g', ⟨h1.len, by simp only [cycK, hS]; exact h1.sl, h1.dist, ?_, ?_⟩, ?_, ?_⟩
      · intro x hxl hxs
        simp only [cycK, hS] at hxs
        by_cases e : x = i
        · rw [e]; exact h1.at_
        · exact h1.one x hxl e hxs
      · intro x hxl hxs
        simp only [cycK, hS] at hxs
        by_cases e : x = i
        · rw [e, hk] at hxs; cases hxs
        · exact h1.two x hxl e hxs
      · simp only [cycK, hS, if_neg hne, lenS_app, lenS]
        simp only [List.length_cons, List.length_nil] at h3
        omega
      · intro c hc
        simp only [cycK, hS, if_neg hne, List.mem_append, List.mem_singleton] at hc
        rcases hc with hc | rfl
        · exact hall c hc
        · exact h2.cls
    · have hst := cycIn_stop p p.length s i [] (by simpa using hs)
      refine ⟨g, ?_, ?_, ?_⟩
      · simp only [cycK, hS, hst]; exact h
      · simp only [cycK, hS, hst]; exact hsum
      · simp only [cycK, hS, hst]; exact hall
/-- The cycles that PermutationCycles gives. -/
theorem cycR_closed (p : List Int) : (∀ c ∈ (cycR p).1, Cls p c) ∧ ((cycR p).2 = true → lenS (cycR p).1 = p.length ∧ (cycR p).1.length ≤ p.length ∧ (signR p).1 = sgn (p.length - (cycR p).1.length)) ∧ (signR p).2 = (cycR p).2 := by
  cases h : goodP p
  · simp [cycR, signR, h]
  · have hc := cycK_closed (goodP_inP h) (goodP_dist h) p.length (Nat.le_refl _)
    obtain ⟨g, h1, h2, h3⟩ := hc
    obtain ⟨g4, q1, q2, q3, q4⟩ := cycK_ghost (goodP_inP h) (goodP_dist h) p.length (Nat.le_refl _)
    have hz : unseen (cycK p p.length).1 = 0 := unseen_all fun i hi => q4 i (by rw [← h1.sl]; exact hi)
    have hp := cycles_par h
    simp only [cycR, signR, h, if_true]
    refine ⟨h3, fun _ => ⟨by omega, hp.1, ?_⟩, trivial⟩
    have h5 : (p.length - (cycK p p.length).2.length) % 2 = invs p % 2 := hp.2
    unfold sgn
    rw [h5]
end Go.Proofs.Ytdhcpoeopooejaa
