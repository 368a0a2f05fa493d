/- JoinStrings. -/
import Derived.Test.YtoeonplbgbgjmaaDoorRow
import Derived.Test.YtoeonplbgbgjmaaDoorLay
import Derived.Lib.Join
import Derived.Lib.IndexLaws
import Derived.Deep.QuietTactic
namespace Go.Proofs.YtoeonplbgbgjmaaDoor
open Go.RowKit Go.Shelf
set_option linter.unusedVariables false

/-- Whether byte c stands in s. -/
def hasC (s : ByteArray) (c : UInt8) : Bool := decide (0 ≤ Lib.indexByte s.data.toList c)
theorem hasC_true {s : ByteArray} {c : UInt8} {k : Nat} (hk : k < s.size) (h : s[k] = c) : hasC s c = true := by
  unfold hasC
  refine decide_eq_true ?_
  have h1 := Lib.indexByte_ge s.data.toList c
  rcases Int.lt_or_le (Lib.indexByte s.data.toList c) 0 with h2 | h2
  · have h3 : Lib.indexByte s.data.toList c = -1 := by omega
    have h4 := Lib.indexByte_none h3 k
    exact absurd (by rw [← h]; show s.data.toList[k]? = some s.data[k]; simp) h4
  · exact h2
theorem hasC_false {s : ByteArray} {c : UInt8} (h : ∀ k, (hk : k < s.size) → s[k] ≠ c) : hasC s c = false := by
  unfold hasC
  refine decide_eq_false fun h0 => ?_
  obtain ⟨o, ho⟩ := Int.eq_ofNat_of_zero_le h0
  have h1 := (Lib.indexByte_some ho).1
  obtain ⟨h2, h3⟩ := List.getElem?_eq_some_iff.1 h1
  exact h o (by simpa using h2) (by rw [← h3]; rfl)
/-- The first k parts, joined. -/
def jK (x : List ByteArray) (sep : ByteArray) : Nat → ByteArray
  | 0 => ByteArray.empty
  | k + 1 => (if 0 < k then jK x sep k ++ sep else jK x sep k) ++ gs x k
theorem jK_size (x : List ByteArray) (sep : ByteArray) (hs : sep.size = 1) : ∀ k, (jK x sep (k + 1)).size = szSTo x (k + 1) + k := by
  intro k
  induction k with
  | zero => simp [jK, szSTo]
  | succ k ih =>
    rw [jK, if_pos (by omega), szSTo]
    simp only [ByteArray.size_append, ih, hs]
    omega
theorem jK_list (a : ByteArray) (r : List ByteArray) (sep : ByteArray) : ∀ k, k ≤ r.length → (jK (a :: r) sep (k + 1)).data.toList = a.data.toList ++ Lib.joinTail sep.data.toList ((r.map (·.data.toList)).take k) := by
  intro k
  induction k with
  | zero => intro _; simp [jK, gs, Lib.joinTail]
  | succ k ih =>
    intro hk
    have h1 : (r.map (·.data.toList))[k]? = some (gs r k).data.toList := by
      rw [gs_eq (by omega)]; simp [show k < r.length by omega]
    have h2 : gs (a :: r) (k + 1) = gs r k := by simp [gs]
    rw [jK, if_pos (by omega), Lib.joinTail_take_succ _ _ k _ h1, h2]
    have h3 := ih (by omega)
    simp only [ByteArray.data_append, Array.toList_append, h3, List.append_assoc]
theorem jK_all (x : List ByteArray) (sep : ByteArray) (hx : 0 < x.length) : (⟨(Lib.join (x.map (·.data.toList)) sep.data.toList).toArray⟩ : ByteArray) = jK x sep x.length := by
  match x, hx with
  | a :: r, _ =>
    have h := jK_list a r sep r.length (Nat.le_refl _)
    rw [List.take_of_length_le (by simp)] at h
    apply ByteArray.ext
    rw [List.map_cons, Lib.join_cons, ← h]
    simp
def okJ (x : List ByteArray) (c : UInt8) : Bool := decide (x.length - 1 + szSTo x x.length ≤ 4000) && (List.range x.length).all fun i => !hasC (gs x i) c
theorem okJ_true {x : List ByteArray} {c : UInt8} (h1 : x.length - 1 + szSTo x x.length ≤ 4000) (h2 : ∀ i, i < x.length → hasC (gs x i) c = false) : okJ x c = true := by
  unfold okJ
  rw [decide_eq_true h1, Bool.true_and, List.all_eq_true]
  intro i hi
  rw [h2 i (by simpa using hi)]; rfl
theorem okJ_big {x : List ByteArray} {c : UInt8} (h1 : ¬ x.length - 1 + szSTo x x.length ≤ 4000) : okJ x c = false := by
  unfold okJ
  rw [decide_eq_false h1]; rfl
theorem okJ_has {x : List ByteArray} {c : UInt8} {i : Nat} (hi : i < x.length) (h : hasC (gs x i) c = true) : okJ x c = false := by
  unfold okJ
  have : ((List.range x.length).all fun i => !hasC (gs x i) c) = false := by
    rw [List.all_eq_false]
    exact ⟨i, by simpa using hi, by simp [h]⟩
  rw [this, Bool.and_false]
/-- The result of JoinStrings. -/
def jnR (x : List ByteArray) (sep : ByteArray) : ByteArray × Bool := if h : sep.size = 1 then (if 0 < x.length ∧ okJ x (sep[0]'(by omega)) = true then (jK x sep x.length, true) else (ByteArray.empty, false)) else (ByteArray.empty, false)
theorem sepOneJ {sep : ByteArray} (h : sep.size = 1) : sep = ⟨#[sep[0]'(by omega)]⟩ := by
  apply ByteArray.ext
  apply Array.ext
  · exact h
  · intro i h1 h2
    have : i = 0 := by simp at h2; omega
    subst this
    rfl
theorem contains_any (s sep : ByteArray) (h : sep.size = 1) (w : World) :
    Calls Tryd.prog 69 #[.string s, .string sep] w fun e w' => e = .returned (.bool (hasC s (sep[0]'(by omega)))) ∧ w = w' := by
  have := Any.strings_Contains_one lays144 s (sep[0]'(by omega)) w
  rw [← sepOneJ h] at this
  exact this.mono fun _ _ ⟨he, hw⟩ => ⟨he, hw.symm⟩
theorem join_any (b off n c : Nat) (x : List ByteArray) (sep : ByteArray) (w : World) (hn : x.length = n) (h0 : 0 < n) (hc : n ≤ c) (hl : n ≤ 1048576) (hz : szSTo x n ≤ 1048576) (hs : sep.size = 1)
    (hcell : ∀ i, i < n → w.cell? ⟨b, off + i, none⟩ = some (.string (gs x i))) :
    Calls Tryd.prog 65 #[.slice (some ⟨b, off, none⟩) n c, .string sep] w fun e w' => e = .returned (.string (jK x sep n)) ∧ Below w.heap.size w w' := by
  subst hn
  have hj := jK_all x sep h0
  have hlen : (Lib.join (x.map (·.data.toList)) sep.data.toList).length ≤ 140737488355328 := by
    have h1 : (Lib.join (x.map (·.data.toList)) sep.data.toList).length = (jK x sep x.length).size := by
      rw [← hj]; simp [ByteArray.size]
    rw [h1]
    obtain ⟨m, hm⟩ : ∃ m, x.length = m + 1 := ⟨x.length - 1, by omega⟩
    rw [hm, jK_size x sep hs m, ← hm]
    omega
  have := Any.strings_Join lays156 extra156 b off c x sep w (fun j y hy => by
    obtain ⟨h1, h2⟩ := List.getElem?_eq_some_iff.1 hy
    rw [hcell j h1, gs_eq h1, h2]) (block_lt_of_cell (hcell 0 h0)) (by omega) hc hlen
  rw [hj] at this
  exact this
set_option maxHeartbeats 400000 in
theorem l1Stands_any (s : ByteArray) (c : UInt8) (w : World) (hs : s.size ≤ maxLen) :
    Calls Tryd.prog 86 #[.string s, .int .u8 (c.toNat : Int)] w fun e w' => e = .returned (.bool (hasC s c)) ∧ w = w' := by
  unfold maxLen at hs
  go_enter Tryd.func86, Tryd.ntmps86
  go_wp2
  go_loop [5] (fun i => ∃ k : Nat, k ≤ s.size ∧ i = .int .i64 k ∧ Hid (∀ j, (hj : j < s.size) → j < k → s[j] ≠ c)) (fun i => s.size - (intOf i).toNat)
  case atStart => exact ⟨0, Nat.zero_le _, rfl, Lib.hid fun j _ hj => absurd hj (by omega)⟩
  case round =>
    obtain ⟨k, hk, rfl, hq⟩ := hrel
    by_cases hlt : k < s.size
    · by_cases hx : s[k] = c
      · have hf := Lib.hid (hasC_true hlt hx)
        have hcc : ((s[k].toNat : Int) == (c.toNat : Int)) = true := by rw [hx]; simp
        replace hx := Lib.hid hx
        go_wp2
        go_ret
        exact ⟨ret_bool hf.out.symm, rfl⟩
      · have hcc : ((s[k].toNat : Int) == (c.toNat : Int)) = false := by
          simp only [beq_eq_false_iff_ne, ne_eq]
          intro e
          exact hx (UInt8.toNat_inj.1 (by omega))
        replace hx := Lib.hid hx
        go_wp2
        go_round
        case rel =>
          refine ⟨k + 1, by omega, by go_num, Lib.hid fun j hj hjk => ?_⟩
          by_cases e : j = k
          · subst e; exact hx.out
          · exact hq.out j hj (by omega)
        case measure => simp [intOf]; omega
    · have hf := Lib.hid (hasC_false (s := s) (c := c) fun j hj => hq.out j hj (by omega))
      go_wp2
      go_ret
      exact ⟨ret_bool hf.out.symm, rfl⟩

set_option maxHeartbeats 4000000 in
theorem impl_JoinStrings_law {v : Value} {x : List ByteArray} {F : List Nat} {sep : ByteArray} {w : World} (r : RStringS w v x F) (hs : sep.size ≤ maxLen) (hz : szStringS x ≤ 1048576) :
    Calls Tryd.prog 36 #[v, .string sep] w fun e w' => e = .returned (.tuple #[.string (jnR x sep).1, .bool (jnR x sep).2]) ∧ Below w.heap.size w w' := by
  have hv := r.rd
  clear r
  obtain ⟨ao, c, rfl, h1, h2, hsz, HA⟩ := hv
  unfold maxLen at h2 hs
  have hle := Lib.hid (fun i (h : i ≤ x.length) => szSTo_le x i x.length h)
  have hnx := Lib.hid (fun i => show szSTo x (i + 1) = szSTo x i + (gs x i).size from rfl)
  have hzz := show szStringS x = x.length + szSTo x x.length from rfl
  by_cases hs1 : sep.size = 1
  · by_cases h0 : 0 < x.length
    · have e0 : jnR x sep = if okJ x (sep[0]'(by omega)) = true then (jK x sep x.length, true) else (ByteArray.empty, false) := by
        unfold jnR
        rw [dif_pos hs1]
        simp [h0]
      rw [e0]
      clear e0
      have hbad := Lib.hid (fun i (hi : i < x.length) (h : hasC (gs x i) (sep[0]'(by omega)) = true) => okJ_has hi h)
      have hbig := Lib.hid (fun (h : ¬ x.length - 1 + szSTo x x.length ≤ 4000) => okJ_big (c := sep[0]'(by omega)) h)
      have hok := Lib.hid (fun (h1 : x.length - 1 + szSTo x x.length ≤ 4000) (h2 : ∀ i, i < x.length → hasC (gs x i) (sep[0]'(by omega)) = false) => okJ_true h1 h2)
      obtain ⟨b, off, rfl, hR⟩ := HA h0
      clear HA
      generalize hO : okJ x (sep[0]'(by omega)) = O at *
      have hRt := Lib.hid (fun (h : O = true) => show (if O = true then (jK x sep x.length, true) else (ByteArray.empty, false)) = (jK x sep x.length, true) by rw [if_pos h])
      have hRf := Lib.hid (fun (h : O = false) => show (if O = true then (jK x sep x.length, true) else (ByteArray.empty, false)) = (ByteArray.empty, false) by rw [h]; rfl)
      generalize (if O = true then (jK x sep x.length, true) else (ByteArray.empty, false)) = RR at *
      generalize hn : x.length = n at *
      replace hn := Lib.hid hn
      replace hO := Lib.hid hO
      have hz0 := hle.out 0 (by omega)
      generalize hT : szSTo x n = Tt at *
      replace hT := Lib.hid hT
      have hTb : Tt ≤ 1048576 := by omega
      have hnb : n ≤ 1048576 := by omega
      replace hzz := Lib.hid hzz
      replace hz := Lib.hid hz
      clear hz0
      replace hR := Lib.hid hR
      replace hsz := Lib.hid hsz
      have hne : ((n : Int) == 0) = false := by simp; omega
      have hsn : ((sep.size : Int) == 1) = true := by simp; omega
      have hsn2 : (sep.size : Int) = 1 := by omega
      replace hsn := True.intro
      go_enter Tryd.func36, Tryd.ntmps36
      go_wp2
      go_loop [6, 22] (fun t i => ∃ k : Nat, k ≤ n ∧ i = .int .i64 k ∧ t = .int .i64 ((n : Int) - 1 + (szSTo x k : Nat)) ∧ Hid ((0 < k → n - 1 + szSTo x k ≤ 4000) ∧ ∀ j, j < k → hasC (gs x j) (sep[0]'(by omega)) = false)) (fun _ i => n - (intOf i).toNat)
      case atStart => exact ⟨0, Nat.zero_le _, rfl, by simp [szSTo], Lib.hid ⟨fun h => absurd h (by omega), fun j hj => absurd hj (by omega)⟩⟩
      case round =>
        obtain ⟨k, hk, rfl, rfl, hq⟩ := hrel
        by_cases hlt : k < n
        · have hc1 := hR.out k hlt
          have hsk := hsz.out k hlt
          have hl1 := hle.out (k + 1) (by omega)
          have hst := hnx.out k
          have hb1 := hbad.out k hlt
          have hhk := hq.out.2
          generalize hA : szSTo x k = A at *
          generalize hA1 : szSTo x (k + 1) = A1 at *
          have hx1 : Hid (∀ (h : hasC (gs x k) (sep[0]'(by omega)) = false), ∀ j, j < k + 1 → hasC (gs x j) (sep[0]'(by omega)) = false) := Lib.hid fun h j hj => by
            by_cases e : j = k
            · subst e; exact h
            · exact hhk j (by omega)
          generalize hx : gs x k = s at *
          replace hx := Lib.hid hx
          replace hA := Lib.hid hA
          replace hA1 := Lib.hid hA1
          replace hhk := True.intro
          replace hq := True.intro
          have hA2 : (n : Int) - 1 + (A : Int) + (s.size : Int) = (n : Int) - 1 + (A1 : Int) := by omega
          have hsb : s.size ≤ 1048576 := by omega
          have hst' := Lib.hid hst
          clear hst
          by_cases hgt : 4000 < n - 1 + A1
          · have hf : Hid (O = false) := Lib.hid (hbig.out (by omega))
            have hg : (4000 : Int) < (n : Int) - 1 + (A1 : Int) := by omega
            go_wp2
            go_ret2
            exact ⟨by rw [hRf.out hf.out]; rfl, Below.refl _ _⟩
          · have hg : ¬ (4000 : Int) < (n : Int) - 1 + (A1 : Int) := by omega
            cases hh : hasC s (sep[0]'(by omega))
            · have hx2 := hx1.out hh
              replace hh := Lib.hid hh
              replace hx2 := Lib.hid hx2
              go_wp2_with fail
              refine (contains_any _ _ hs1 _).mono ?_
              rintro e w' ⟨rfl, rfl⟩
              rw [hh.out]
              go_wp2
              go_round
              case rel => exact ⟨k + 1, by omega, by go_num, by rw [hA1.out]; first | done | rfl | (rw [← hA2]), Lib.hid ⟨fun _ => by rw [hA1.out]; omega, hx2.out⟩⟩
              case measure => simp [intOf]; omega
            · have hf : Hid (O = false) := Lib.hid (hO.out.symm.trans (hb1 hh))
              replace hh := Lib.hid hh
              go_wp2_with fail
              refine (contains_any _ _ hs1 _).mono ?_
              rintro e w' ⟨rfl, rfl⟩
              rw [hh.out]
              go_wp2
              go_ret2
              exact ⟨by rw [hRf.out hf.out]; rfl, Below.refl _ _⟩
        · obtain rfl : k = n := by omega
          have hf : Hid (O = true) := Lib.hid (hok.out (by have := hq.out.1 h0; rw [hT.out] at this; exact this) hq.out.2)
          go_wp2_with fail
          refine (join_any _ _ _ _ _ _ _ hn.out h0 h1 hnb (by rw [hT.out]; exact hTb) hs1 hR.out).mono ?_
          rintro e w' ⟨rfl, hb⟩
          replace hb := Lib.hid hb
          go_wp2
          go_ret2
          exact ⟨by rw [hRt.out hf.out]; rfl, hb.out⟩
    · have e0 : jnR x sep = (ByteArray.empty, false) := by
        unfold jnR
        rw [dif_pos hs1, if_neg (fun h => h0 h.1)]
      rw [e0]
      clear e0
      have hx0 : x.length = 0 := by omega
      have hsn2 : (sep.size : Int) = 1 := by omega
      clear HA hsz hle hnx hzz
      rw [hx0] at *
      go_enter Tryd.func36, Tryd.ntmps36
      go_wp2
      go_ret2
      exact ⟨rfl, Below.refl _ _⟩
  · have e0 : jnR x sep = (ByteArray.empty, false) := by
      unfold jnR
      rw [dif_neg hs1]
    rw [e0]
    clear e0
    have hsn : ((sep.size : Int) == 1) = false := by simp; omega
    have hsn3 : ¬ (sep.size : Int) = 1 := by omega
    clear HA hsz hle hnx hzz
    by_cases h0 : x.length = 0
    · rw [h0] at *
      go_enter Tryd.func36, Tryd.ntmps36
      go_wp2
      all_goals go_ret2
      all_goals exact ⟨rfl, Below.refl _ _⟩
    · have hne : ((x.length : Int) == 0) = false := by rw [beq_eq_false_iff_ne]; omega
      have hne2 : ¬ (x.length : Int) = 0 := by omega
      go_enter Tryd.func36, Tryd.ntmps36
      go_wp2
      all_goals go_ret2
      all_goals exact ⟨rfl, Below.refl _ _⟩

set_option maxHeartbeats 4000000 in
theorem spec_JoinStrings_law {v : Value} {x : List ByteArray} {F : List Nat} {sep : ByteArray} {w : World} (r : RStringS w v x F) (hs : sep.size ≤ maxLen) (hz : szStringS x ≤ 1048576) :
    Calls Tryd.prog 37 #[v, .string sep] w fun e w' => e = .returned (.tuple #[.string (jnR x sep).1, .bool (jnR x sep).2]) ∧ Below w.heap.size w w' := by
  have hv := r.rd
  clear r
  obtain ⟨ao, c, rfl, h1, h2, hsz, HA⟩ := hv
  unfold maxLen at h2 hs
  have hle := Lib.hid (fun i (h : i ≤ x.length) => szSTo_le x i x.length h)
  have hnx := Lib.hid (fun i => show szSTo x (i + 1) = szSTo x i + (gs x i).size from rfl)
  have hzz := show szStringS x = x.length + szSTo x x.length from rfl
  by_cases hs1 : sep.size = 1
  · by_cases h0 : 0 < x.length
    · have e0 : jnR x sep = if okJ x (sep[0]'(by omega)) = true then (jK x sep x.length, true) else (ByteArray.empty, false) := by
        unfold jnR
        rw [dif_pos hs1]
        simp [h0]
      rw [e0]
      clear e0
      have hbad := Lib.hid (fun i (hi : i < x.length) (h : hasC (gs x i) (sep[0]'(by omega)) = true) => okJ_has hi h)
      have hbig := Lib.hid (fun (h : ¬ x.length - 1 + szSTo x x.length ≤ 4000) => okJ_big (c := sep[0]'(by omega)) h)
      have hok := Lib.hid (fun (h1 : x.length - 1 + szSTo x x.length ≤ 4000) (h2 : ∀ i, i < x.length → hasC (gs x i) (sep[0]'(by omega)) = false) => okJ_true h1 h2)
      obtain ⟨b, off, rfl, hR⟩ := HA h0
      clear HA
      generalize hO : okJ x (sep[0]'(by omega)) = O at *
      have hRt := Lib.hid (fun (h : O = true) => show (if O = true then (jK x sep x.length, true) else (ByteArray.empty, false)) = (jK x sep x.length, true) by rw [if_pos h])
      have hRf := Lib.hid (fun (h : O = false) => show (if O = true then (jK x sep x.length, true) else (ByteArray.empty, false)) = (ByteArray.empty, false) by rw [h]; rfl)
      generalize (if O = true then (jK x sep x.length, true) else (ByteArray.empty, false)) = RR at *
      generalize hn : x.length = n at *
      replace hn := Lib.hid hn
      replace hO := Lib.hid hO
      have hz0 := hle.out 0 (by omega)
      generalize hT : szSTo x n = Tt at *
      replace hT := Lib.hid hT
      have hTb : Tt ≤ 1048576 := by omega
      have hnb : n ≤ 1048576 := by omega
      replace hzz := Lib.hid hzz
      replace hz := Lib.hid hz
      clear hz0
      replace hR := Lib.hid hR
      replace hsz := Lib.hid hsz
      have hne : ((n : Int) == 0) = false := by simp; omega
      have hsn : ((sep.size : Int) == 1) = true := by simp; omega
      have hsn2 : (sep.size : Int) = 1 := by omega
      replace hsn := True.intro
      have hjs := Lib.hid (fun k => jK_size x sep hs1 k)
      have hj1 := Lib.hid (fun k => show jK x sep (k + 1) = (if 0 < k then jK x sep k ++ sep else jK x sep k) ++ gs x k from rfl)
      go_enter Tryd.func37, Tryd.ntmps37
      go_wp2
      go_loopw [6, 7] (fun t i wr => ∃ k q : Nat, k ≤ n ∧ i = .int .i64 k ∧ t = .string (jK x sep k) ∧ Hid ((0 < k → szSTo x k + (k - 1) ≤ 4000) ∧ ∀ j, j < k → hasC (gs x j) (sep[0]'(by omega)) = false) ∧ wr = w.drewN q) (fun _ i _ => n - (intOf i).toNat)
      case atStart => exact ⟨0, 0, Nat.zero_le _, rfl, rfl, Lib.hid ⟨fun h => absurd h (by omega), fun j hj => absurd hj (by omega)⟩, rfl⟩
      case round =>
        obtain ⟨k, q, hk, rfl, rfl, hq, rfl⟩ := hrel
        by_cases hlt : k < n
        · have hc1 := hR.out k hlt
          have hsk := hsz.out k hlt
          have hl1 := hle.out (k + 1) (by omega)
          have hst := hnx.out k
          have hb1 := hbad.out k hlt
          have hhk := hq.out
          have hjk := hjs.out k
          have hjj := hj1.out k
          have hjk0 := fun (h : 0 < k) => hjs.out (k - 1)
          generalize hA : szSTo x k = A at *
          generalize hA1 : szSTo x (k + 1) = A1 at *
          have hx1 : Hid (∀ (h : hasC (gs x k) (sep[0]'(by omega)) = false), ∀ j, j < k + 1 → hasC (gs x j) (sep[0]'(by omega)) = false) := Lib.hid fun h j hj => by
            by_cases e : j = k
            · subst e; exact h
            · exact hhk.2 j (by omega)
          generalize hx : gs x k = s at *
          have hsb : s.size ≤ 1048576 := by omega
          have hJs : (jK x sep k).size ≤ 4000 := by
            by_cases hk0 : 0 < k
            · have e1 := hjs.out (k - 1)
              rw [show k - 1 + 1 = k by omega, hA] at e1
              have := hhk.1 hk0
              omega
            · have : k = 0 := by omega
              subst this
              simp [jK]
          generalize hJ : jK x sep k = J at *
          generalize hJ1 : jK x sep (k + 1) = J1 at *
          replace hx := Lib.hid hx
          replace hA := Lib.hid hA
          replace hA1 := Lib.hid hA1
          replace hJ := Lib.hid hJ
          replace hJ1 := Lib.hid hJ1
          replace hhk := True.intro
          replace hq := True.intro
          replace hst := Lib.hid hst
          replace hjk0 := True.intro
          cases hh : hasC s (sep[0]'(by omega))
          · have hx2 := hx1.out hh
            have hcal : Hid (∀ w', Calls Tryd.prog 86 #[.string s, .int .u8 ((sep[0]'(by omega)).toNat : Int)] w' fun e w'' => e = .returned (.bool false) ∧ w' = w'') := Lib.hid fun w' => by
              have := l1Stands_any s (sep[0]'(by omega)) w' hsk
              rwa [hh] at this
            replace hh := Lib.hid hh
            replace hx2 := Lib.hid hx2
            by_cases hk0 : 0 < k
            · rw [if_pos hk0] at hjj
              have hk1 : (0 : Int) < (k : Int) := by omega
              have hsize : J1.size = J.size + sep.size + s.size := by rw [hjj]; simp
              replace hjj := Lib.hid hjj
              by_cases hgt : 4000 < J1.size
              · have hf : Hid (O = false) := Lib.hid (hbig.out (by omega))
                have hg : (4000 : Int) < (J1.size : Int) := by omega
                go_wp2
                go_quiet ((go_at_call 86; exact quietA (hcal.out _)))
                go_wp2
                rw [← hjj.out]
                go_wp2
                go_ret2
                exact ⟨by rw [hRf.out hf.out]; rfl, by first | exact Below.drewN (Below.drewN (Below.refl _ _) _) _ | exact Below.drewN (Below.refl _ _) _⟩
              · have hg : ¬ (4000 : Int) < (J1.size : Int) := by omega
                go_wp2
                go_quiet ((go_at_call 86; exact quietA (hcal.out _)))
                go_wp2
                go_roundw
                case rel => exact ⟨k + 1, _, by omega, by go_num, by rw [hJ1.out, hjj.out], Lib.hid ⟨fun _ => by rw [hA1.out]; omega, hx2.out⟩, by first | rfl | exact World.drewN_drewN ..⟩
                case measure => simp [intOf]; omega
            · rw [if_neg hk0] at hjj
              have hk1 : ¬ (0 : Int) < (k : Int) := by omega
              have hsize : J1.size = J.size + s.size := by rw [hjj]; simp
              replace hjj := Lib.hid hjj
              by_cases hgt : 4000 < J1.size
              · have hf : Hid (O = false) := Lib.hid (hbig.out (by omega))
                have hg : (4000 : Int) < (J1.size : Int) := by omega
                go_wp2
                go_quiet ((go_at_call 86; exact quietA (hcal.out _)))
                go_wp2
                rw [← hjj.out]
                go_wp2
                go_ret2
                exact ⟨by rw [hRf.out hf.out]; rfl, by first | exact Below.drewN (Below.drewN (Below.refl _ _) _) _ | exact Below.drewN (Below.refl _ _) _⟩
              · have hg : ¬ (4000 : Int) < (J1.size : Int) := by omega
                go_wp2
                go_quiet ((go_at_call 86; exact quietA (hcal.out _)))
                go_wp2
                go_roundw
                case rel => exact ⟨k + 1, _, by omega, by go_num, by rw [hJ1.out, hjj.out], Lib.hid ⟨fun _ => by rw [hA1.out]; omega, hx2.out⟩, by first | rfl | exact World.drewN_drewN ..⟩
                case measure => simp [intOf]; omega
          · have hf : Hid (O = false) := Lib.hid (hO.out.symm.trans (hb1 hh))
            have hcal : Hid (∀ w', Calls Tryd.prog 86 #[.string s, .int .u8 ((sep[0]'(by omega)).toNat : Int)] w' fun e w'' => e = .returned (.bool true) ∧ w' = w'') := Lib.hid fun w' => by
              have := l1Stands_any s (sep[0]'(by omega)) w' hsk
              rwa [hh] at this
            replace hh := Lib.hid hh
            replace hjj := Lib.hid hjj
            go_wp2
            go_quiet ((go_at_call 86; exact quietA (hcal.out _)))
            go_wp2
            go_ret2
            exact ⟨by rw [hRf.out hf.out]; rfl, by first | exact Below.drewN (Below.drewN (Below.refl _ _) _) _ | exact Below.drewN (Below.refl _ _) _⟩
        · obtain rfl : k = n := by omega
          have hf : Hid (O = true) := Lib.hid (hok.out (by have := hq.out.1 h0; rw [hT.out] at this; omega) hq.out.2)
          go_wp2
          go_ret2
          exact ⟨by rw [hRt.out hf.out]; rfl, Below.drewN (Below.refl _ _) _⟩
    · have e0 : jnR x sep = (ByteArray.empty, false) := by
        unfold jnR
        rw [dif_pos hs1, if_neg (fun h => h0 h.1)]
      rw [e0]
      clear e0
      have hx0 : x.length = 0 := by omega
      have hsn2 : (sep.size : Int) = 1 := by omega
      clear HA hsz hle hnx hzz
      rw [hx0] at *
      go_enter Tryd.func37, Tryd.ntmps37
      go_wp2
      go_ret2
      exact ⟨rfl, Below.refl _ _⟩
  · have e0 : jnR x sep = (ByteArray.empty, false) := by
      unfold jnR
      rw [dif_neg hs1]
    rw [e0]
    clear e0
    have hsn : ((sep.size : Int) == 1) = false := by simp; omega
    have hsn3 : ¬ (sep.size : Int) = 1 := by omega
    clear HA hsz hle hnx hzz
    by_cases h0 : x.length = 0
    · rw [h0] at *
      go_enter Tryd.func37, Tryd.ntmps37
      go_wp2
      all_goals go_ret2
      all_goals exact ⟨rfl, Below.refl _ _⟩
    · have hne : ((x.length : Int) == 0) = false := by rw [beq_eq_false_iff_ne]; omega
      have hne2 : ¬ (x.length : Int) = 0 := by omega
      go_enter Tryd.func37, Tryd.ntmps37
      go_wp2
      all_goals go_ret2
      all_goals exact ⟨rfl, Below.refl _ _⟩
end Go.Proofs.YtoeonplbgbgjmaaDoor
