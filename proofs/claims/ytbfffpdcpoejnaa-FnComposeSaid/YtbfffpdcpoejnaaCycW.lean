/- The walk of a permutation's cycles, impl's and the spec's. -/
import Derived.Test.YtbfffpdcpoejnaaCyc
import Derived.Test.YtbfffpdcpoejnaaIntSS
import Derived.Deep.OwnRows
import Derived.Deep.WholeRow
import Derived.BigRegion
import Derived.RegionTactic
namespace Go.Proofs.Ytbfffpdcpoejnaa
open Go.RowKit Go.Deep

theorem cycIn_bd (p : List Int) : ∀ m s k c, (cycIn p m s k c).2.length ≤ c.length + m := by
  intro m
  induction m with
  | zero => intro s k c; exact Nat.le_refl _
  | succ m ih =>
    intro s k c
    rw [cycIn]
    split
    · exact Nat.le_add_right _ _
    · have := ih (s.set k.toNat true) (gi p k.toNat) (c ++ [k])
      simp at this
      omega
theorem szIntSS_snoc (x : List (List Int)) (c : List Int) : szIntSS (x ++ [c]) = szIntSS x + c.length := by
  induction x with
  | nil => simp [szIntSS]
  | cons d x ih => simp only [List.cons_append, szIntSS, ih]; omega
theorem cycK_sz (p : List Int) : ∀ i, szIntSS (cycK p i).2 ≤ i * p.length ∧ (cycK p i).1.length = p.length ∧ (cycK p i).2.length ≤ i := by
  intro i
  induction i with
  | zero => simp [cycK, szIntSS]
  | succ i ih =>
    have hb := cycIn_bd p p.length (cycK p i).1 i []
    have h2 : (i + 1) * p.length = i * p.length + p.length := by rw [Nat.add_mul, Nat.one_mul]
    rw [h2]
    refine ⟨?_, by simp only [cycK]; rw [cycIn_len]; exact ih.2.1, ?_⟩
    · simp only [cycK]
      split
      · omega
      · rw [szIntSS_snoc]; simp at hb; omega
    · simp only [cycK]
      split
      · omega
      · simp; omega
theorem cycR_sz (p : List Int) : szIntSS (cycR p).1 ≤ 100000000000 := by
  unfold cycR
  split
  · rename_i h
    have h1 := (cycK_sz p p.length).1
    have h2 := (goodP_iff.1 h).1
    have : p.length * p.length ≤ 64 * 64 := Nat.mul_le_mul h2 h2
    dsimp only
    omega
  · simp [szIntSS]

/-- Between two rounds: marks s, cycles out. -/
structure CycO (w : World) (sb n : Nat) (s : List Bool) (out : List (List Int)) (us : List Value) (o : Value) (wr : World) : Prop where
  row : Row wr 4 sb 0 n (bools s)
  own : Own wr 24 w.heap.size o us
  inn : Inn wr w.heap.size o us out
  nsb : ∀ i, i < out.length → (gv us i).ownBlock ≠ some sb
  osb : o.ownBlock ≠ some sb
  sbl : w.heap.size ≤ sb
  bel : Below w.heap.size w wr
/-- Within a cycle. -/
structure CycI (p : List Int) (sb n : Nat) (W : World) (r : List Bool × List Int) (K : Nat) (s : List Bool) (c : List Int) (m : Nat) (cv : Value) (wr : World) : Prop where
  row : Row wr 4 sb 0 n (bools s)
  sl : s.length = n
  own : Own wr 3 W.heap.size cv (ints c)
  ex : Ex [sb] W wr
  eq : cycIn p m s K c = r
  un : unseen s ≤ m
  bd : m + c.length ≤ n
theorem CycI.start {p : List Int} {sb n : Nat} {W : World} {s : List Bool} {i : Nat} (h : Row W 4 sb 0 n (bools s)) (hs : s.length = n) :
    CycI p sb n W (cycIn p n s i []) i s [] n (.slice (some ⟨W.heap.size, 0, none⟩) 0 0) (W.alloc (.cells #[] 3)) :=
  ⟨h.alloc _, hs, Own.empty W _, Ex.of_below ((Below.refl _ _).alloc (Nat.le_refl _) _), rfl, by have := unseen_le s; omega, by simp⟩
theorem CycO.ex {w W wr : World} {sb n : Nat} {s s' : List Bool} {out : List (List Int)} {us : List Value} {o : Value} (h : CycO w sb n s out us o W) (hx : Ex [sb] W wr) (hr : Row wr 4 sb 0 n (bools s')) : CycO w sb n s' out us o wr := by
  have hg : W.grownBy wr (some sb) := ⟨hx.os, hx.tape, hx.output, hx.size, fun k hk hn => hx.block k hk (by simp; rintro rfl; exact hn rfl)⟩
  refine ⟨hr, h.own.kept hg (.inr h.osb), h.inn.of_block ?_, h.nsb, h.osb, h.sbl, Below.ex h.bel hx (by intro b hb; simp at hb; subst hb; exact h.sbl)⟩
  intro i hi b hb
  exact hx.block b (h.inn.lt hi hb) (by simp; rintro rfl; exact h.nsb i hi hb)
theorem CycO.append {w W wr w2 : World} {sb n : Nat} {s s0 : List Bool} {out : List (List Int)} {us : List Value} {o v' cv : Value} {c : List Int} (h0 : CycO w sb n s0 out us o W) (h : CycO w sb n s out us o wr) (hW : W.heap.size ≤ wr.heap.size)
    (hc : Own wr 3 W.heap.size cv (ints c)) (ho : Own w2 24 w.heap.size v' (us ++ [cv])) (hg : wr.grownBy w2 o.ownBlock) (hat : v'.ownBlock = o.ownBlock ∨ v'.ownBlock = some (wr.heap.size + 1)) : CycO w sb n s (out ++ [c]) (us ++ [cv]) v' w2 := by
  have hsz := h0.bel.size
  have hsb := h0.row.lt
  have hob : ∀ b, o.ownBlock = some b → b < W.heap.size := fun b hb => (h0.own.lt b hb).2
  have hcb : ∀ b, cv.ownBlock = some b → W.heap.size ≤ b ∧ b < wr.heap.size := hc.lt
  have hv : ∀ b, v'.ownBlock = some b → o.ownBlock = some b ∨ b = wr.heap.size + 1 := by
    intro b hb
    rcases hat with e | e
    · exact .inl (by rw [← e]; exact hb)
    · rw [e] at hb; simp at hb; exact .inr hb.symm
  refine ⟨h.row.grown hg (fun e => h.osb e.symm), ho, ?_, ?_, ?_, h.sbl, Below.appended h.bel h.own hg h.bel.size⟩
  · refine Inn.snoc (h.inn.of_block fun i hi b hb => hg.block b (h.inn.lt hi hb) (fun e => h.inn.hd i hi b hb e.symm)) (v := o) ?_ ?_ ?_
    · refine hc.sl.grown hg ?_
      cases e : cv.ownBlock with
      | none => exact .inl rfl
      | some q => exact .inr (fun e2 => by have := hcb q e; have := hob q e2.symm; omega)
    · intro b hb
      have hb2 := hcb b hb
      refine ⟨by omega, fun e => ?_, fun i hi e => ?_⟩
      · rcases hv b e with e | e
        · have := hob b e; omega
        · omega
      · have := h0.inn.lt hi e; omega
    · intro i hi b hb e
      have hb2 := h0.inn.lt hi hb
      rcases hv b e with e | e
      · exact h.inn.hd i hi b hb e
      · omega
  · intro i hi
    simp at hi
    by_cases e : i < out.length
    · rw [gv_snoc_lt (by rw [h.inn.len]; exact e)]; exact h.nsb i e
    · have : i = us.length := by have := h.inn.len; omega
      subst this
      rw [gv_snoc_eq]
      intro e2
      have := hcb sb e2; omega
  · intro e
    rcases hv sb e with e | e
    · exact h.osb e
    · have := hsb; omega

/-- A row that make has just made. -/
theorem Row.ofMake (w : World) (n : Nat) (hn : n ≤ 1000000000) : Row (w.alloc (.cells (madeCells #[.bool false] n) 4)) 4 w.heap.size 0 n (bools (List.replicate n false)) := by
  refine ⟨madeCells #[.bool false] n, heap_alloc_last _ _, by simp, by simp [madeCells], by unfold maxLen; omega, fun i hi => ?_⟩
  have h := made_bools n
  rw [← Array.getElem?_toList, h, Nat.zero_add]
  exact List.getElem?_eq_getElem hi
theorem Own.emptyAt (w : World) (e B : Nat) (hB : B ≤ w.heap.size) : Own (w.alloc (.cells #[] e)) e B (.slice (some ⟨w.heap.size, 0, none⟩) 0 0) [] := by
  obtain ⟨h1, h2⟩ := Own.empty w e
  refine ⟨h1, ?_⟩
  rcases h2 with h2 | ⟨g, cap, cur, h3, h4, h5⟩
  · exact .inl h2
  · exact .inr ⟨g, cap, cur, h3, Nat.le_trans hB h4, h5⟩

set_option maxHeartbeats 4000000 in
theorem impl_cycles_any (v : Value) (p : List Int) (w : World) (hv : Rd w v p) (hp : InP p) (hl : p.length ≤ 64) :
    Calls Try.prog 70 #[v] w fun e w' => ∃ o us, e = .returned o ∧ Own w' 24 w.heap.size o us ∧ Inn w' w.heap.size o us (cycK p p.length).2 ∧ Below w.heap.size w w' := by
  obtain ⟨ao, c, rfl, h1, h2, HA⟩ := hv
  unfold maxLen at h2
  have hz := Lib.hid (show bools (cycK p 0).1 = bools (List.replicate p.length false) from rfl)
  generalize hn : p.length = n at *
  replace HA := Lib.hid HA
  replace hn := Lib.hid hn
  replace hp := Lib.hid hp
  have hmk := run_make_row' (P := Try.prog) 55 4 (.bool false) 1 Try.underlying55 info4 rfl .i64 .i64 n (by omega) (by omega)
  go_enter Try.func70, Try.ntmps70
  go_wp2
  go_region
  · have HC : Hid (CycO w (w.heap.size + 1) n (cycK p 0).1 (cycK p 0).2 [] (.slice (some ⟨w.heap.size, 0, none⟩) 0 0) ((w.drew.alloc (.cells #[] 24)).alloc (.cells (madeCells #[.bool false] n) 4))) := Lib.hid (by
      refine ⟨?_, ?_, Inn.nil _ _ _, fun _ h => absurd h (by simp [cycK]), by simp [Value.ownBlock], by omega, ?_⟩
      · rw [hz.out]
        simpa using Row.ofMake (w.drew.alloc (.cells #[] 24)) n (by omega)
      · exact (Own.empty w.drew 24).alloc _
      · exact Below.alloc (Below.alloc (Below.drewN (Below.refl _ _) 1) (Nat.le_refl _) _) (by simp) _)
    clear hmk
    go_wp2
    go_loopw [3, 14] (fun o i wr => ∃ (j : Nat) (us : List Value), j ≤ n ∧ i = .int .i64 j ∧ CycO w (w.heap.size + 1) n (cycK p j).1 (cycK p j).2 us o wr) (fun _ i _ => n - (intOf i).toNat)
    case atStart => exact ⟨0, [], Nat.zero_le _, rfl, HC.out⟩
    case round =>
      clear HC
      obtain ⟨j, us, hj, rfl, hC⟩ := hrel
      by_cases hlt : j < n
      · have hst := CycI.start (p := p) (i := j) hC.row (by rw [(cycK_sz p j).2.1, hn.out])
        have hus : us.length ≤ 1000 := by have := hC.inn.len; have := (cycK_sz p j).2.2; omega
        have hWs : w.heap.size ≤ wr.heap.size := hC.bel.size
        have hnext : cycK p (j + 1) = ((cycIn p n (cycK p j).1 j []).1, if (cycIn p n (cycK p j).1 j []).2.length = 0 then (cycK p j).2 else (cycK p j).2 ++ [(cycIn p n (cycK p j).1 j []).2]) := by rw [← hn.out]; rfl
        obtain ⟨W, rfl⟩ : ∃ W, W = wr := ⟨_, rfl⟩
        generalize hr : cycIn p n (cycK p j).1 j [] = r at *
        generalize hS : cycK p j = S at *
        replace hnext := Lib.hid hnext
        replace hr := Lib.hid hr
        replace hS := Lib.hid hS
        replace hC := Lib.hid hC
        replace hst := Lib.hid hst
        go_wp2
        go_loopw [6, 7] (fun cv k wq => ∃ (K : Nat) (s : List Bool) (c : List Int) (m : Nat), K < n ∧ k = .int .i64 K ∧ CycI p (w.heap.size + 1) n W r K s c m cv wq) (fun cv _ _ => n - slN cv)
        case atStart => exact ⟨j, _, _, _, hlt, rfl, hst.out⟩
        case round =>
          clear hst
          obtain ⟨K, s, c, m, hK, rfl, hI⟩ := hrel
          obtain ⟨ac, cc, rfl, _⟩ := hI.own.sl
          rw [ints_length] at *
          have hbd := hI.bd
          have hCq := Lib.hid (hC.out.ex hI.ex hI.row)
          have hws := hI.ex.size
          have hcell : wr.cell? ⟨(w.heap.size + 1), K, none⟩ = some (.bool (gb s K)) := by
            have := hI.row.cellBool (i := K) (by rw [hI.sl]; exact hK)
            rwa [Nat.zero_add] at this
          have hf := hI.row.frozen K
          cases hb : gb s K
          · obtain ⟨m, rfl⟩ : ∃ q, m = q + 1 := ⟨m - 1, by
              have := unseen_set (s := s) (i := K) (by rw [hI.sl]; exact hK) hb
              have := hI.un
              omega⟩
            rw [hb] at hcell
            have hset := unseen_set (s := s) (i := K) (by rw [hI.sl]; exact hK) hb
            have hx := hp.out K (by rw [hn.out]; exact hK)
            rw [hn.out] at hx
            obtain ⟨Y, hY⟩ := Int.eq_ofNat_of_zero_le hx.1
            have hYn : Y < n := by omega
            obtain ⟨b, off, rfl, hR⟩ := HA.out (by omega)
            have hpc := hR K hK
            rw [hY] at hpc
            have hblt : b < w.heap.size := block_lt_of_cell hpc
            have hnx := cycIn_next p m s K c (by simpa using hb)
            simp only [Int.toNat_natCast] at hnx
            rw [hI.eq, hY] at hnx
            have hown' : Hid (Own (wr.setCell ⟨(w.heap.size + 1), K, none⟩ (.bool true)) 3 W.heap.size (.slice ac c.length cc) (ints c)) :=
              Lib.hid (hI.own.kept (grownBy.setIn (World.grownBy.refl wr (some ((w.heap.size + 1)))) (p := ⟨(w.heap.size + 1), K, none⟩) rfl) (.inr (fun e => by have h1 := (hI.own.lt _ e).1; have h2 := hC.out.row.lt; omega)))
            have hrow' := hI.row.setBool (i := K) (by rw [hI.sl]; exact hK) true
            rw [Nat.zero_add] at hrow'
            replace hrow' := Lib.hid hrow'
            have hex' := Lib.hid (hI.ex.setIn (p := ⟨(w.heap.size + 1), K, none⟩) (by simp) (v := .bool true))
            have hsz' : W.heap.size ≤ (wr.setCell ⟨(w.heap.size + 1), K, none⟩ (.bool true)).heap.size := by simpa [World.setCell] using hws
            have hzq : Hid (wr.heap.size = (wr.setCell ⟨(w.heap.size + 1), K, none⟩ (.bool true)).heap.size) := Lib.hid (by simp [World.setCell])
            have hcl : (ints c).length ≤ 1000000000 := by rw [ints_length]; omega
            have hun := hI.un
            have hsl := hI.sl
            replace hI := Lib.hid hI
            replace hnx := Lib.hid hnx
            replace hb := Lib.hid hb
            replace hY := Lib.hid hY
            replace hsl := Lib.hid hsl
            replace hpc := Lib.hid hpc
            clear hR hCq
            go_wp2_with (at_builtin; refine append_one_z eltInt rfl _ _ rfl W.heap.size _ _ rfl hown'.out _ hzq.out rfl rfl hcl hsz' ?_)
            intro v' w3 ho hg hat
            clear hat
            have hgb : (wr.setCell ⟨(w.heap.size + 1), K, none⟩ (.bool true)).grownBy w3 (Value.slice ac c.length cc).ownBlock := hg
            have hex3 : Ex [(w.heap.size + 1)] W w3 := by
              refine ⟨hg.os.trans hex'.out.os, hg.tape.trans hex'.out.tape, hg.output.trans hex'.out.output, Nat.le_trans hex'.out.size hg.size, fun q hq hqn => ?_⟩
              rw [hg.block q (Nat.lt_of_lt_of_le hq hex'.out.size) (fun e => by have h1 := (hown'.out.lt _ e.symm).1; omega)]
              exact hex'.out.block q hq hqn
            have hrow3 := Lib.hid (hrow'.out.grown hg (fun e => by have h1 := (hown'.out.lt _ e.symm).1; have h2 := hC.out.row.lt; omega))
            have hc3 : w3.cell? ⟨b, off + K, none⟩ = some (.int .i64 (Y : Int)) := by
              have hb3 := Below.ex hC.out.bel hex3 (by intro q hq; simp at hq; subst hq; exact hC.out.sbl)
              rw [hb3.cell (p := ⟨b, off + K, none⟩) hblt]
              exact hpc.out
            replace hex3 := Lib.hid hex3
            replace ho := Lib.hid ho
            clear hg hgb hown' hrow' hex' hI
            go_wp2
            go_roundw
            case rel =>
              refine ⟨Y, s.set K true, c ++ [(K : Int)], m, hYn, by first | rfl | go_num, hrow3.out, by rw [List.length_set]; exact hsl.out, ?_, hex3.out, hnx.out.symm, by omega, by simp; omega⟩
              have := ho.out
              simpa [ints] using this
            case measure =>
              have := ho.out.sl
              obtain ⟨_, _, rfl, _⟩ := this
              simp [slN]; omega
          · have hst := cycIn_stop p m s K c (by simpa using hb)
            rw [hI.eq] at hst
            rw [hb] at hcell
            replace hb := Lib.hid hb
            have hown := Lib.hid hI.own
            replace hI := Lib.hid hI
            have hnx := hnext.out
            rw [hst] at hnx
            dsimp only at hnx
            by_cases hc0 : c.length = 0
            · rw [if_pos hc0] at hnx
              have hc1 : ¬ (0 : Int) < (c.length : Int) := by omega
              replace hnx := Lib.hid hnx
              replace hst := Lib.hid hst
              replace hc0 := Lib.hid hc0
              go_wp2
              go_roundw
              case rel => exact ⟨j + 1, us, by omega, by go_num, by rw [hnx.out]; exact hCq.out⟩
              case measure => simp [intOf]; omega
            · rw [if_neg hc0] at hnx
              have hc1 : (0 : Int) < (c.length : Int) := by omega
              have hul : us.length ≤ 1000000000 := by omega
              have hqs : w.heap.size ≤ wr.heap.size := by omega
              replace hnx := Lib.hid hnx
              replace hst := Lib.hid hst
              replace hc0 := Lib.hid hc0
              go_wp2_with (at_builtin; refine append_one_at eltIntS rfl _ _ rfl w.heap.size _ _ rfl hCq.out.own rfl rfl hul hqs ?_)
              intro v' w3 ho hg hat
              have hfin := Lib.hid (CycO.append hC.out hCq.out hws hown.out ho hg hat)
              clear ho hg hat
              go_wp2
              go_roundw
              case rel => exact ⟨j + 1, _, by omega, by go_num, by rw [hnx.out]; exact hfin.out⟩
              case measure => simp [intOf]; omega
      · obtain rfl : j = n := by omega
        replace hC := Lib.hid hC
        go_wp2
        go_ret
        exact ⟨_, us, rfl, hC.out.own, hC.out.inn, hC.out.bel⟩
  · have HC : Hid (CycO w (w.heap.size) n (cycK p 0).1 (cycK p 0).2 [] (.slice (some ⟨w.heap.size + 1, 0, none⟩) 0 0) ((w.drew.alloc (.cells (madeCells #[.bool false] n) 4)).alloc (.cells #[] 24))) := Lib.hid (by
      refine ⟨?_, ?_, Inn.nil _ _ _, fun _ h => absurd h (by simp [cycK]), by simp [Value.ownBlock], by omega, ?_⟩
      · rw [hz.out]
        exact (Row.ofMake w.drew n (by omega)).alloc _
      · simpa using Own.emptyAt (w.drew.alloc (.cells (madeCells #[.bool false] n) 4)) 24 w.heap.size (by simp)
      · exact Below.alloc (Below.alloc (Below.drewN (Below.refl _ _) 1) (Nat.le_refl _) _) (by simp) _)
    clear hmk
    go_wp2
    go_loopw [3, 14] (fun o i wr => ∃ (j : Nat) (us : List Value), j ≤ n ∧ i = .int .i64 j ∧ CycO w (w.heap.size) n (cycK p j).1 (cycK p j).2 us o wr) (fun _ i _ => n - (intOf i).toNat)
    case atStart => exact ⟨0, [], Nat.zero_le _, rfl, HC.out⟩
    case round =>
      clear HC
      obtain ⟨j, us, hj, rfl, hC⟩ := hrel
      by_cases hlt : j < n
      · have hst := CycI.start (p := p) (i := j) hC.row (by rw [(cycK_sz p j).2.1, hn.out])
        have hus : us.length ≤ 1000 := by have := hC.inn.len; have := (cycK_sz p j).2.2; omega
        have hWs : w.heap.size ≤ wr.heap.size := hC.bel.size
        have hnext : cycK p (j + 1) = ((cycIn p n (cycK p j).1 j []).1, if (cycIn p n (cycK p j).1 j []).2.length = 0 then (cycK p j).2 else (cycK p j).2 ++ [(cycIn p n (cycK p j).1 j []).2]) := by rw [← hn.out]; rfl
        obtain ⟨W, rfl⟩ : ∃ W, W = wr := ⟨_, rfl⟩
        generalize hr : cycIn p n (cycK p j).1 j [] = r at *
        generalize hS : cycK p j = S at *
        replace hnext := Lib.hid hnext
        replace hr := Lib.hid hr
        replace hS := Lib.hid hS
        replace hC := Lib.hid hC
        replace hst := Lib.hid hst
        go_wp2
        go_loopw [6, 7] (fun cv k wq => ∃ (K : Nat) (s : List Bool) (c : List Int) (m : Nat), K < n ∧ k = .int .i64 K ∧ CycI p (w.heap.size) n W r K s c m cv wq) (fun cv _ _ => n - slN cv)
        case atStart => exact ⟨j, _, _, _, hlt, rfl, hst.out⟩
        case round =>
          clear hst
          obtain ⟨K, s, c, m, hK, rfl, hI⟩ := hrel
          obtain ⟨ac, cc, rfl, _⟩ := hI.own.sl
          rw [ints_length] at *
          have hbd := hI.bd
          have hCq := Lib.hid (hC.out.ex hI.ex hI.row)
          have hws := hI.ex.size
          have hcell : wr.cell? ⟨(w.heap.size), K, none⟩ = some (.bool (gb s K)) := by
            have := hI.row.cellBool (i := K) (by rw [hI.sl]; exact hK)
            rwa [Nat.zero_add] at this
          have hf := hI.row.frozen K
          cases hb : gb s K
          · obtain ⟨m, rfl⟩ : ∃ q, m = q + 1 := ⟨m - 1, by
              have := unseen_set (s := s) (i := K) (by rw [hI.sl]; exact hK) hb
              have := hI.un
              omega⟩
            rw [hb] at hcell
            have hset := unseen_set (s := s) (i := K) (by rw [hI.sl]; exact hK) hb
            have hx := hp.out K (by rw [hn.out]; exact hK)
            rw [hn.out] at hx
            obtain ⟨Y, hY⟩ := Int.eq_ofNat_of_zero_le hx.1
            have hYn : Y < n := by omega
            obtain ⟨b, off, rfl, hR⟩ := HA.out (by omega)
            have hpc := hR K hK
            rw [hY] at hpc
            have hblt : b < w.heap.size := block_lt_of_cell hpc
            have hnx := cycIn_next p m s K c (by simpa using hb)
            simp only [Int.toNat_natCast] at hnx
            rw [hI.eq, hY] at hnx
            have hown' : Hid (Own (wr.setCell ⟨(w.heap.size), K, none⟩ (.bool true)) 3 W.heap.size (.slice ac c.length cc) (ints c)) :=
              Lib.hid (hI.own.kept (grownBy.setIn (World.grownBy.refl wr (some ((w.heap.size)))) (p := ⟨(w.heap.size), K, none⟩) rfl) (.inr (fun e => by have h1 := (hI.own.lt _ e).1; have h2 := hC.out.row.lt; omega)))
            have hrow' := hI.row.setBool (i := K) (by rw [hI.sl]; exact hK) true
            rw [Nat.zero_add] at hrow'
            replace hrow' := Lib.hid hrow'
            have hex' := Lib.hid (hI.ex.setIn (p := ⟨(w.heap.size), K, none⟩) (by simp) (v := .bool true))
            have hsz' : W.heap.size ≤ (wr.setCell ⟨(w.heap.size), K, none⟩ (.bool true)).heap.size := by simpa [World.setCell] using hws
            have hzq : Hid (wr.heap.size = (wr.setCell ⟨(w.heap.size), K, none⟩ (.bool true)).heap.size) := Lib.hid (by simp [World.setCell])
            have hcl : (ints c).length ≤ 1000000000 := by rw [ints_length]; omega
            have hun := hI.un
            have hsl := hI.sl
            replace hI := Lib.hid hI
            replace hnx := Lib.hid hnx
            replace hb := Lib.hid hb
            replace hY := Lib.hid hY
            replace hsl := Lib.hid hsl
            replace hpc := Lib.hid hpc
            clear hR hCq
            go_wp2_with (at_builtin; refine append_one_z eltInt rfl _ _ rfl W.heap.size _ _ rfl hown'.out _ hzq.out rfl rfl hcl hsz' ?_)
            intro v' w3 ho hg hat
            clear hat
            have hgb : (wr.setCell ⟨(w.heap.size), K, none⟩ (.bool true)).grownBy w3 (Value.slice ac c.length cc).ownBlock := hg
            have hex3 : Ex [(w.heap.size)] W w3 := by
              refine ⟨hg.os.trans hex'.out.os, hg.tape.trans hex'.out.tape, hg.output.trans hex'.out.output, Nat.le_trans hex'.out.size hg.size, fun q hq hqn => ?_⟩
              rw [hg.block q (Nat.lt_of_lt_of_le hq hex'.out.size) (fun e => by have h1 := (hown'.out.lt _ e.symm).1; omega)]
              exact hex'.out.block q hq hqn
            have hrow3 := Lib.hid (hrow'.out.grown hg (fun e => by have h1 := (hown'.out.lt _ e.symm).1; have h2 := hC.out.row.lt; omega))
            have hc3 : w3.cell? ⟨b, off + K, none⟩ = some (.int .i64 (Y : Int)) := by
              have hb3 := Below.ex hC.out.bel hex3 (by intro q hq; simp at hq; subst hq; exact hC.out.sbl)
              rw [hb3.cell (p := ⟨b, off + K, none⟩) hblt]
              exact hpc.out
            replace hex3 := Lib.hid hex3
            replace ho := Lib.hid ho
            clear hg hgb hown' hrow' hex' hI
            go_wp2
            go_roundw
            case rel =>
              refine ⟨Y, s.set K true, c ++ [(K : Int)], m, hYn, by first | rfl | go_num, hrow3.out, by rw [List.length_set]; exact hsl.out, ?_, hex3.out, hnx.out.symm, by omega, by simp; omega⟩
              have := ho.out
              simpa [ints] using this
            case measure =>
              have := ho.out.sl
              obtain ⟨_, _, rfl, _⟩ := this
              simp [slN]; omega
          · have hst := cycIn_stop p m s K c (by simpa using hb)
            rw [hI.eq] at hst
            rw [hb] at hcell
            replace hb := Lib.hid hb
            have hown := Lib.hid hI.own
            replace hI := Lib.hid hI
            have hnx := hnext.out
            rw [hst] at hnx
            dsimp only at hnx
            by_cases hc0 : c.length = 0
            · rw [if_pos hc0] at hnx
              have hc1 : ¬ (0 : Int) < (c.length : Int) := by omega
              replace hnx := Lib.hid hnx
              replace hst := Lib.hid hst
              replace hc0 := Lib.hid hc0
              go_wp2
              go_roundw
              case rel => exact ⟨j + 1, us, by omega, by go_num, by rw [hnx.out]; exact hCq.out⟩
              case measure => simp [intOf]; omega
            · rw [if_neg hc0] at hnx
              have hc1 : (0 : Int) < (c.length : Int) := by omega
              have hul : us.length ≤ 1000000000 := by omega
              have hqs : w.heap.size ≤ wr.heap.size := by omega
              replace hnx := Lib.hid hnx
              replace hst := Lib.hid hst
              replace hc0 := Lib.hid hc0
              go_wp2_with (at_builtin; refine append_one_at eltIntS rfl _ _ rfl w.heap.size _ _ rfl hCq.out.own rfl rfl hul hqs ?_)
              intro v' w3 ho hg hat
              have hfin := Lib.hid (CycO.append hC.out hCq.out hws hown.out ho hg hat)
              clear ho hg hat
              go_wp2
              go_roundw
              case rel => exact ⟨j + 1, _, by omega, by go_num, by rw [hnx.out]; exact hfin.out⟩
              case measure => simp [intOf]; omega
      · obtain rfl : j = n := by omega
        replace hC := Lib.hid hC
        go_wp2
        go_ret
        exact ⟨_, us, rfl, hC.out.own, hC.out.inn, hC.out.bel⟩
end Go.Proofs.Ytbfffpdcpoejnaa
