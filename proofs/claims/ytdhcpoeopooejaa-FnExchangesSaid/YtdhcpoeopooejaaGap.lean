/- Insertion with a gap: gapped, l4Insert; InsertionSort, ShellSort. -/
import Derived.Test.YtdhcpoeopooejaaCopy
namespace Go.Proofs.Ytdhcpoeopooejaa
open Go.RowKit
set_option linter.unusedVariables false
set_option linter.unusedSimpArgs false

/-- The inner loop: element x sinks from place k in steps of g. -/
def insW (x : Int) (g : Nat) : Nat → List Int → Nat → Nat → Nat → List Int × Nat × Nat × Nat
  | 0, l, k, c, m => (l, k, c, m)
  | f + 1, l, k, c, m => if g ≤ k then (if gi l (k - g) ≤ x then (l, k, c + 1, m) else insW x g f (l.set k (gi l (k - g))) (k - g) (c + 1) (m + 1)) else (l, k, c, m)
/-- What the outer loop makes of the inner one's end. -/
def insEnd (x : Int) (i : Nat) (r : List Int × Nat × Nat × Nat) : List Int × Nat × Nat :=
  if r.2.1 < i then (r.1.set r.2.1 x, r.2.2.1, r.2.2.2 + 1) else (r.1, r.2.2.1, r.2.2.2)
def gapStep (g : Nat) (s : List Int × Nat × Nat) (i : Nat) : List Int × Nat × Nat := insEnd (gi s.1 i) i (insW (gi s.1 i) g (i + 1) s.1 i s.2.1 s.2.2)
def gapK (g : Nat) (l : List Int) : Nat → List Int × Nat × Nat
  | 0 => (l, 0, 0)
  | j + 1 => gapStep g (gapK g l j) (g + j)
/-- The list, the comparisons and the moves behind insertion with gap g. -/
def gapF (g : Nat) (l : List Int) : List Int × Nat × Nat := gapK g l (l.length - g)
theorem insW_stop {x : Int} {g f k : Nat} {l : List Int} {c m : Nat} (h : ¬ g ≤ k) : insW x g f l k c m = (l, k, c, m) := by
  cases f with
  | zero => rfl
  | succ f => rw [insW, if_neg h]
theorem insW_hit {x : Int} {g f k : Nat} {l : List Int} {c m : Nat} (h : g ≤ k) (h2 : gi l (k - g) ≤ x) : insW x g (f + 1) l k c m = (l, k, c + 1, m) := by
  rw [insW, if_pos h, if_pos h2]
theorem insW_go {x : Int} {g f k : Nat} {l : List Int} {c m : Nat} (h : g ≤ k) (h2 : ¬ gi l (k - g) ≤ x) : insW x g (f + 1) l k c m = insW x g f (l.set k (gi l (k - g))) (k - g) (c + 1) (m + 1) := by
  rw [insW, if_pos h, if_neg h2]
theorem insW_length (x : Int) (g f : Nat) : ∀ (l : List Int) (k c m : Nat), (insW x g f l k c m).1.length = l.length := by
  induction f with
  | zero => intros; rfl
  | succ f ih =>
    intro l k c m
    rw [insW]
    split
    · split
      · rfl
      · rw [ih]; simp
    · rfl
theorem gapK_length (g : Nat) (l : List Int) (j : Nat) : (gapK g l j).1.length = l.length := by
  induction j with
  | zero => rfl
  | succ j ih =>
    rw [gapK, gapStep, insEnd]
    split <;> simp [insW_length, ih]
theorem gapF_length (g : Nat) (l : List Int) : (gapF g l).1.length = l.length := gapK_length g l _

set_option maxHeartbeats 4000000 in
theorem gapped_any (ao : Option Addr) (c0 : Nat) (l0 : List Int) (g : Nat) (w : World) (hs : Sl w 3 (.slice ao l0.length c0) (ints l0)) (hl : l0.length ≤ 64) (hg1 : 1 ≤ g) (hg2 : g ≤ 64) :
    Calls Try.prog 93 #[.slice ao l0.length c0, .int .i64 g] w fun e w' => e = .returned (.tuple #[.int .i64 (gapF g l0).2.1, .int .i64 (gapF g l0).2.2]) ∧
      Sl w' 3 (.slice ao l0.length c0) (ints (gapF g l0).1) ∧ Ex (Value.slice ao l0.length c0).ownBlock.toList w w' ∧ (gapF g l0).2.1 ≤ 64000 ∧ (gapF g l0).2.2 ≤ 64000 := by
  have hlen := Lib.hid (gapK_length g l0)
  have hfin : gapF g l0 = gapK g l0 (l0.length - g) := rfl
  generalize hF : gapF g l0 = F at *
  replace hF := Lib.hid hF
  generalize hn : l0.length = n at *
  replace hn := Lib.hid hn
  replace hs := Lib.hid hs
  replace hfin := Lib.hid hfin
  have hstep : ∀ j, gapK g l0 (j + 1) = gapStep g (gapK g l0 j) (g + j) := fun j => rfl
  replace hstep := Lib.hid hstep
  go_enter Try.func93, Try.ntmps93
  go_wp2
  go_loopw [6, 7, 8] (fun c m i wr => ∃ j : Nat, (g + j ≤ n ∨ j = 0) ∧ i = .int .i64 (g + j : Nat) ∧ c = .int .i64 (gapK g l0 j).2.1 ∧ m = .int .i64 (gapK g l0 j).2.2 ∧ (gapK g l0 j).2.1 ≤ 1000 * j ∧ (gapK g l0 j).2.2 ≤ 1000 * j ∧
      Sl wr 3 (.slice ao n c0) (ints (gapK g l0 j).1) ∧ Ex (Value.slice ao n c0).ownBlock.toList w wr) (fun _ _ i _ => 200 - (intOf i).toNat)
  case atStart => exact ⟨0, .inr rfl, by go_num, rfl, rfl, Nat.le_refl _, Nat.le_refl _, hs.out, Ex.refl _ _⟩
  case round =>
    obtain ⟨wo, rfl⟩ : ∃ wo : World, wo = wr := ⟨_, rfl⟩
    obtain ⟨j, hj, rfl, rfl, rfl, hc, hm, hsl, hex⟩ := hrel
    have hst := hstep.out j
    have hlj := hlen.out j
    unfold gapStep at hst
    obtain ⟨i, hi⟩ : ∃ i, i = g + j := ⟨_, rfl⟩
    rw [← hi] at hst ⊢
    have hi1 : g ≤ i := by omega
    have hi2 : i ≤ g + j := by omega
    have hi3 : g + j ≤ i := by omega
    generalize hK1 : gapK g l0 (j + 1) = K1 at *
    generalize hKj : gapK g l0 j = Kj at *
    obtain ⟨l, c, m⟩ := Kj
    dsimp only at hc hm hsl hst hlj ⊢
    replace hK1 := Lib.hid hK1
    replace hKj := Lib.hid hKj
    replace hi := Lib.hid hi
    replace hlj := Lib.hid hlj
    by_cases hlt : i < n
    · obtain ⟨b, off, rfl, hl1, hR⟩ := hsl.rowInts (by omega)
      have hc1 : wo.cell? ⟨b, off + i, none⟩ = some (.int .i64 (gi l i)) := hR.cellInt (by omega)
      clear hR hl1
      generalize hx : gi l i = x at *
      replace hx := Lib.hid hx
      replace hst := Lib.hid hst
      replace hsl := Lib.hid hsl
      replace hex := Lib.hid hex
      go_wp2
      go_loopw [6, 7, 10] (fun cc mm kk wq => ∃ (f k c' m' : Nat) (l' : List Int), kk = .int .i64 k ∧ cc = .int .i64 c' ∧ mm = .int .i64 m' ∧ k ≤ i ∧ k < f ∧ c' + k ≤ c + i ∧ m' + k ≤ m + i ∧ insW x g f l' k c' m' = insW x g (i + 1) l i c m ∧ l'.length = n ∧
          Sl wq 3 (.slice (some ⟨b, off, none⟩) n c0) (ints l') ∧ Ex (Value.slice (some ⟨b, off, none⟩) n c0).ownBlock.toList w wq) (fun _ _ kk _ => (intOf kk).toNat)
      case atStart => exact ⟨i + 1, i, c, m, l, rfl, rfl, rfl, Nat.le_refl _, by omega, Nat.le_refl _, Nat.le_refl _, rfl, hlj.out, hsl.out, hex.out⟩
      case round =>
        obtain ⟨f, k, c', m', l', rfl, rfl, rfl, hk, hkf, hcb, hmb, hw, hl', hsl', hex'⟩ := hrel
        clear hc1
        cases f with
        | zero => omega
        | succ f =>
        obtain ⟨b', off', hb', _, hR⟩ := hsl'.rowInts (by omega)
        simp only [Option.some.injEq, Addr.mk.injEq, and_true] at hb'
        obtain ⟨rfl, rfl⟩ := hb'
        have hck : wr.cell? ⟨b, off + k, none⟩ = some (.int .i64 (gi l' k)) := hR.cellInt (by omega)
        have hfk := hR.frozen (off + k)
        have hcg : g ≤ k → wr.cell? ⟨b, off + (k - g), none⟩ = some (.int .i64 (gi l' (k - g))) := fun _ => hR.cellInt (by omega)
        clear hR
        replace hsl' := Lib.hid hsl'
        replace hex' := Lib.hid hex'
        replace hl' := Lib.hid hl'
        by_cases hgk : g ≤ k
        · have hcg' := hcg hgk
          clear hcg
          by_cases hle : gi l' (k - g) ≤ x
          · have hE := Lib.hid (show K1 = insEnd x i (l', k, c' + 1, m') by rw [hst.out, ← hw, insW_hit hgk hle])
            clear hw
            generalize hy : gi l' (k - g) = y at *
            replace hy := Lib.hid hy
            by_cases hki : k < i
            · have hE2 : K1 = (l'.set k x, c' + 1, m' + 1) := by rw [hE.out, insEnd, if_pos hki]
              have hset := Lib.hid (hsl'.out.setInt (i := k) (by omega) x)
              replace hE2 := Lib.hid hE2
              have _t := hki
              go_wp2
              go_roundw
              case rel => exact ⟨j + 1, by omega, by have := hi.out; go_num, by rw [hK1.out, hE2.out]; first | done | go_num, by rw [hK1.out, hE2.out]; first | done | go_num, by rw [hK1.out, hE2.out]; dsimp only; omega, by rw [hK1.out, hE2.out]; dsimp only; omega, by rw [hK1.out, hE2.out]; exact hset.out, Ex.setIn hex'.out (by simp [Value.ownBlock])⟩
              case measure => simp [intOf]; omega
            · have hE2 : K1 = (l', c' + 1, m') := by rw [hE.out, insEnd, if_neg hki]
              replace hE2 := Lib.hid hE2
              have _t := hki
              go_wp2
              go_roundw
              case rel => exact ⟨j + 1, by omega, by have := hi.out; go_num, by rw [hK1.out, hE2.out]; first | done | go_num, by rw [hK1.out, hE2.out]; first | done | rfl, by rw [hK1.out, hE2.out]; dsimp only; omega, by rw [hK1.out, hE2.out]; dsimp only; omega, by rw [hK1.out, hE2.out]; exact hsl'.out, hex'.out⟩
              case measure => simp [intOf]; omega
          · have hw2 := Lib.hid (show insW x g f (l'.set k (gi l' (k - g))) (k - g) (c' + 1) (m' + 1) = insW x g (i + 1) l i c m by rw [← hw, insW_go hgk hle])
            clear hw
            have hset := Lib.hid (hsl'.out.setInt (i := k) (by omega) (gi l' (k - g)))
            generalize hy : gi l' (k - g) = y at *
            replace hy := Lib.hid hy
            go_wp2
            go_roundw
            case rel => exact ⟨f, k - g, c' + 1, m' + 1, _, by go_num, by go_num, by go_num, by omega, by omega, by omega, by omega, hw2.out, by simpa using hl'.out, hset.out, Ex.setIn hex'.out (by simp [Value.ownBlock])⟩
            case measure => simp [intOf]; omega
        · have hE := Lib.hid (show K1 = insEnd x i (l', k, c', m') by rw [hst.out, ← hw, insW_stop hgk])
          clear hw hcg
          by_cases hki : k < i
          · have hE2 : K1 = (l'.set k x, c', m' + 1) := by rw [hE.out, insEnd, if_pos hki]
            have hset := Lib.hid (hsl'.out.setInt (i := k) (by omega) x)
            replace hE2 := Lib.hid hE2
            have _t := hki
            go_wp2
            go_roundw
            case rel => exact ⟨j + 1, by omega, by have := hi.out; go_num, by rw [hK1.out, hE2.out]; first | done | go_num, by rw [hK1.out, hE2.out]; first | done | go_num, by rw [hK1.out, hE2.out]; dsimp only; omega, by rw [hK1.out, hE2.out]; dsimp only; omega, by rw [hK1.out, hE2.out]; exact hset.out, Ex.setIn hex'.out (by simp [Value.ownBlock])⟩
            case measure => simp [intOf]; omega
          · have hE2 : K1 = (l', c', m') := by rw [hE.out, insEnd, if_neg hki]
            replace hE2 := Lib.hid hE2
            have _t := hki
            go_wp2
            go_roundw
            case rel => exact ⟨j + 1, by omega, by have := hi.out; go_num, by rw [hK1.out, hE2.out]; first | done | go_num, by rw [hK1.out, hE2.out]; first | done | rfl, by rw [hK1.out, hE2.out]; dsimp only; omega, by rw [hK1.out, hE2.out]; dsimp only; omega, by rw [hK1.out, hE2.out]; exact hsl'.out, hex'.out⟩
            case measure => simp [intOf]; omega
    · go_wp2
      go_ret2
      have hjn : n - g = j := by omega
      refine ⟨?_, ?_, hex, ?_, ?_⟩
      · rw [hfin.out, hjn, hKj.out]; rfl
      · rw [hfin.out, hjn, hKj.out]; exact hsl
      · rw [hfin.out, hjn, hKj.out]; dsimp only; omega
      · rw [hfin.out, hjn, hKj.out]; dsimp only; omega


theorem gapped_n (ao : Option Addr) (c0 : Nat) (l0 : List Int) (n g : Nat) (w : World) (hn : l0.length = n) (hs : Sl w 3 (.slice ao n c0) (ints l0)) (hl : n ≤ 64) (hg1 : 1 ≤ g) (hg2 : g ≤ 64) :
    Calls Try.prog 93 #[.slice ao n c0, .int .i64 g] w fun e w' => e = .returned (.tuple #[.int .i64 (gapF g l0).2.1, .int .i64 (gapF g l0).2.2]) ∧
      Sl w' 3 (.slice ao n c0) (ints (gapF g l0).1) ∧ Ex (Value.slice ao n c0).ownBlock.toList w w' ∧ (gapF g l0).2.1 ≤ 64000 ∧ (gapF g l0).2.2 ≤ 64000 := by
  subst hn
  exact gapped_any ao c0 l0 g w hs hl hg1 hg2

end Go.Proofs.Ytdhcpoeopooejaa
