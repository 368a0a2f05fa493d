/- The property laws' helper vOrdered: a sorted copy. -/
import Derived.Test.YtbfffpdcpoejnaaVLaw
import Derived.Test.YtbfffpdcpoejnaaInsM
namespace Go.Proofs.Ytbfffpdcpoejnaa
open Go.RowKit
set_option linter.unusedVariables false
set_option linter.unusedSimpArgs false

set_option maxRecDepth 10000 in
set_option maxHeartbeats 4000000 in
theorem vOrdered_any (v : Value) (x : List Int) (w : World) (hv : Sl w 3 v (ints x)) (hl : x.length ≤ 1000000) :
    Calls Try.prog 39 #[v] w fun e w' => ∃ (ao : Option Addr) (c : Nat) (L : List Int), e = .returned (.slice ao x.length c) ∧ Fresh w w' (.slice ao x.length c) L ∧ L.Perm x ∧ Asc L := by
  have hr := Lib.hid (RdV.of_sl (hv.below (w' := w.alloc (.cells #[] 3)) ((Below.refl _ _).alloc (Nat.le_refl _) _) hv.lt))
  have ho := Lib.hid (Own.empty w 3)
  clear hv
  go_enter Try.func39, Try.ntmps39
  go_wp2_with (at_builtin; refine wpList_append_all eltInt rfl _ _ rfl w.heap.size _ _ rfl ho.out _ _ rfl hr.out (ints_one _) (by simp; omega) (by simp) ?_)
  intro v' w2 ho1 hg
  have hb := Below.appended ((Below.refl w.heap.size w).alloc (Nat.le_refl _) (.cells #[] 3)) ho.out hg (by simp)
  have hf : FreshOwn w w2 v' x := ⟨ho1, hb⟩
  obtain ⟨ao, cap, rfl, _⟩ := hf.shape
  have hsl0 := Lib.hid hf.sl
  have fin := Lib.hid (fun (w3 : World) (L : List Int) hs hex => FreshOwn.wrote (w3 := w3) (L := L) (Below.refl w.heap.size w) hf hs hex)
  clear hf hg ho1 hb ho hr
  generalize hn : x.length = n at *
  replace hn := Lib.hid hn
  go_wp2
  go_loopw [4] (fun iv wr => ∃ (i : Nat) (l : List Int), 1 ≤ i ∧ (i ≤ n ∨ i = 1) ∧ iv = .int .i64 (i : Nat) ∧ l.Perm x ∧ l.length = n ∧ (∀ a b, a < b → b < i → gi l a ≤ gi l b) ∧ Sl wr 3 (.slice ao n cap) (ints l) ∧ Ex (Value.slice ao n cap).ownBlock.toList w2 wr) (fun iv _ => n + 1 - (intOf iv).toNat)
  case atStart => exact ⟨1, x, Nat.le_refl _, .inr rfl, rfl, List.Perm.refl _, hn.out, fun a b h1 h2 => by omega, hsl0.out, Ex.refl _ _⟩
  case round =>
    clear hsl0
    obtain ⟨wo, rfl⟩ : ∃ wo : World, wo = wr := ⟨_, rfl⟩
    obtain ⟨i, l, hi1, hi, rfl, hpm, hll, hasc, hsl, hex⟩ := hrel
    replace hpm := Lib.hid hpm
    replace hll := Lib.hid hll
    replace hasc := Lib.hid hasc
    replace hex := Lib.hid hex
    by_cases hlt : i < n
    · have hlti : (i : Int) < (n : Int) := by omega
      obtain ⟨b, off, rfl, _, hR⟩ := hsl.rowInts (by omega)
      have hc1 : wo.cell? ⟨b, off + i, none⟩ = some (.int .i64 (gi l i)) := hR.cellInt (by rw [hll.out]; omega)
      clear hR
      replace hsl := Lib.hid hsl
      have hpm2 := Lib.hid (show (l.set i (gi l i)).Perm x by rw [set_gi]; exact hpm.out)
      have hax := Lib.hid (show AscX (l.set i (gi l i)) i i by rw [set_gi]; exact AscX.start hasc.out)
      generalize hX : gi l i = X at *
      replace hX := Lib.hid hX
      go_wp2
      go_loopw [6] (fun kv wr => ∃ (k : Nat) (l : List Int), k ≤ i ∧ kv = .int .i64 (k : Nat) ∧ (l.set k X).Perm x ∧ l.length = n ∧ AscX (l.set k X) i k ∧ Sl wr 3 (.slice (some ⟨b, off, none⟩) n cap) (ints l) ∧ Ex (Value.slice (some ⟨b, off, none⟩) n cap).ownBlock.toList w2 wr) (fun kv _ => (intOf kv).toNat)
      case atStart => exact ⟨i, l, Nat.le_refl _, rfl, hpm2.out, hll.out, hax.out, hsl.out, hex.out⟩
      case round =>
        clear hsl hex hpm hll hasc hpm2 hax hX hc1
        obtain ⟨wi, rfl⟩ : ∃ wi : World, wi = wr := ⟨_, rfl⟩
        obtain ⟨k, l, hk, rfl, hpm, hll, hasc, hsl, hex⟩ := hrel
        replace hpm := Lib.hid hpm
        replace hll := Lib.hid hll
        replace hasc := Lib.hid hasc
        replace hex := Lib.hid hex
        have hstop := Lib.hid (fun (hd : k = 0 ∨ gi (l.set k X) (k - 1) ≤ gi (l.set k X) k) => hasc.out.done hd)
        have hset0 := Lib.hid (hsl.setInt (i := k) (by omega) X)
        obtain ⟨_, _, hbe, _, hR⟩ := hsl.rowInts (by omega)
        simp at hbe
        obtain ⟨rfl, rfl⟩ := hbe
        have hf1 := hR.frozen (off + k)
        have hck : wi.cell? ⟨b, off + k, none⟩ = some (.int .i64 (gi l k)) := hR.cellInt (by rw [hll.out]; omega)
        generalize gi l k = Z at hck
        cases k with
        | zero =>
          clear hR
          simp only [Nat.add_zero] at hck hf1
          replace hsl := Lib.hid hsl
          have h0 : ¬ (0 : Int) < ((0 : Nat) : Int) := by omega
          have hE := Lib.hid (hstop.out (.inl rfl))
          have hll2 := Lib.hid (show (l.set 0 X).length = n by rw [List.length_set]; exact hll.out)
          clear hstop
          go_wp2
          first | go_region | go_quiet (fail) | skip
          try go_wp2
          go_roundw
          case rel => exact ⟨i + 1, _, by omega, by omega, by go_num, hpm.out, hll2.out, hE.out, hset0.out, by first | exact Ex.setIn (p := ⟨b, off + 0, none⟩) hex.out (by simp [Value.ownBlock]) | exact Ex.setIn (p := ⟨b, off + 0, none⟩) (hex.out.drewN _) (by simp [Value.ownBlock])⟩
          case measure => simp [intOf]; omega
        | succ m =>
          have hc2 : wi.cell? ⟨b, off + m, none⟩ = some (.int .i64 (gi l m)) := hR.cellInt (by rw [hll.out]; omega)
          clear hR
          have hi2 : ((m + 1 : Nat) : Int) - 1 = (m : Int) := by omega
          have hi4 : (0 : Int) < ((m + 1 : Nat) : Int) := by omega
          have e1 : gi (l.set (m + 1) X) m = gi l m := by rw [gi_set (by rw [hll.out]; omega), if_neg (by omega)]
          have e2 : gi (l.set (m + 1) X) (m + 1) = X := by rw [gi_set (by rw [hll.out]; omega), if_pos rfl]
          have hsk := sink_swp l m (m + 1) X (by omega) (by rw [hll.out]; omega)
          have hE1 : gi l m > X → AscX ((l.set (m + 1) (gi l m)).set m X) i m := fun hh => by rw [hsk]; exact hasc.out.step hk (by rw [List.length_set, hll.out]; exact hlt) (by rw [e1, e2]; exact hh)
          have hE0 : ¬ gi l m > X → ∀ a b, a < b → b < i + 1 → gi (l.set (m + 1) X) a ≤ gi (l.set (m + 1) X) b := fun hh => hstop.out (.inr (by rw [Nat.add_sub_cancel, e1, e2]; omega))
          have hpm2 := Lib.hid (show ((l.set (m + 1) (gi l m)).set m X).Perm x by rw [hsk]; exact (swp_adj_perm _ m (by rw [List.length_set, hll.out]; omega)).trans hpm.out)
          have hll2 := Lib.hid (show (l.set (m + 1) (gi l m)).length = n by rw [List.length_set]; exact hll.out)
          have hll3 := Lib.hid (show (l.set (m + 1) X).length = n by rw [List.length_set]; exact hll.out)
          have hset := Lib.hid (hsl.setInt (i := m + 1) (by omega) (gi l m))
          replace hsl := Lib.hid hsl
          clear e1 e2 hsk hstop
          generalize hY : gi l m = Y at *
          replace hY := Lib.hid hY
          by_cases hxy : Y > X
          · have hE := Lib.hid (hE1 hxy)
            clear hE1 hE0
            go_wp2
            first | go_region | go_quiet (fail) | skip
            try go_wp2
            clear hi2
            go_roundw
            case rel => exact ⟨m, _, by omega, by go_num, hpm2.out, hll2.out, hE.out, hset.out, by first | exact Ex.setIn (p := ⟨b, off + (m + 1), none⟩) hex.out (by simp [Value.ownBlock]) | exact Ex.setIn (p := ⟨b, off + (m + 1), none⟩) (hex.out.drewN _) (by simp [Value.ownBlock])⟩
            case measure => first | (simp [intOf]; done) | (simp [intOf]; omega)
          · have hE := Lib.hid (hE0 hxy)
            clear hE1 hE0
            go_wp2
            first | go_region | go_quiet (fail) | skip
            try go_wp2
            clear hi2
            try go_wp2
            go_roundw
            case rel => exact ⟨i + 1, _, by omega, by omega, by go_num, hpm.out, hll3.out, hE.out, hset0.out, by first | exact Ex.setIn (p := ⟨b, off + (m + 1), none⟩) hex.out (by simp [Value.ownBlock]) | exact Ex.setIn (p := ⟨b, off + (m + 1), none⟩) (hex.out.drewN _) (by simp [Value.ownBlock])⟩
            case measure => simp [intOf]; omega
    · have hlti : ¬ (i : Int) < (n : Int) := by omega
      replace hsl := Lib.hid hsl
      go_wp2
      go_ret
      rw [hn.out]
      exact ⟨ao, cap, rfl, l, fin.out _ _ hsl.out hex.out, hpm.out, fun a b h1 h2 => hasc.out a b h1 (by rw [hll.out] at h2; omega)⟩
/-- What the laws compare a sorted list with. -/
theorem vOrdered_law {v : Value} {x s : List Int} {F : List Nat} {w : World} (r : RIntS w v x F) (hl : x.length ≤ 1000000) (hs : Asc s) (hp : s.Perm x) :
    Calls Try.prog 39 #[v] w fun e w' => ∃ u G, e = .returned u ∧ RIntS w' u s G ∧ Fr w.heap.size G ∧ Below w.heap.size w w' := by
  refine (vOrdered_any v x w r.1 hl).mono ?_
  rintro e w' ⟨ao, c, L, rfl, hf, hp2, ha⟩
  obtain rfl := asc_unique ha hs (hp2.trans hp.symm)
  exact ⟨_, _, rfl, hf.law.1, hf.law.2.1, hf.law.2.2⟩
end Go.Proofs.Ytbfffpdcpoejnaa
