/- The draw of a relation. -/
import Derived.Test.YtdhcpoeopooejaaSsw
import Derived.Test.YtdhcpoeopooejaaBoolSS
import Derived.Test.YtdhcpoeopooejaaDrawK
import Derived.Test.YtdhcpoeopooejaaDrawR
namespace Go.Proofs.Ytdhcpoeopooejaa
open Go.RowKit
set_option linter.unusedVariables false
set_option linter.unusedSimpArgs false

/-- A slice of slices of bools under way, each element in an owned row. -/
structure SWB (B : Nat) (out : List (List Bool)) (us : List Value) (o : Value) (wr : World) : Prop where
  own : Own wr 56 B o us
  nn : ∃ b c, o = .slice (some ⟨b, 0, none⟩) us.length c
  len : us.length = out.length
  el : ∀ q, q < out.length → Own wr 4 B (gv us q) (bools (gbl out q))
  dj : ∀ i j, i < out.length → j < out.length → i ≠ j → ∀ b, (gv us i).ownBlock = some b → (gv us j).ownBlock ≠ some b
theorem infoBoolO : (Try.prog.info? 4).map (fun i => (i.zero, i.size, i.bytes)) = some (some (.bool false), 1, 1) := by kernel_rfl
theorem eltBoolO : EltOk 56 4 := by
  obtain ⟨i, h1, h2, h3, h4⟩ := info_parts infoBoolO
  exact ⟨i, _, 1, Try.underlying56, h1, h2, h3, h4, by omega, rfl⟩
theorem wrap_oneO (m : Nat) (h : m < 300) : IntKind.i64.wrap (1 + (m : Int)) = ((m + 1 : Nat) : Int) := by
  rw [IntWalk.i64_in _ (by omega)]; omega
theorem newCurO {w : World} {o : Obj} {w' : World} (hx : Ex [w.heap.size] (w.alloc o) w') : Below w.heap.size w w' :=
  Below.ex ((Below.refl w.heap.size w).alloc (Nat.le_refl _) o) hx (fun x hx => by simp at hx; omega)
theorem Ex.setNewO {F : List Nat} {a b : World} (h : Ex F a b) {p : Addr} (hp : a.heap.size ≤ p.block) {v : Value} : Ex F a (b.setCell p v) :=
  ⟨h.os, h.tape, h.output, by simpa [World.setCell] using h.size, fun k hk hr => (heap_setCell_other b p k v (by omega)).trans (h.block k hk hr)⟩
theorem SWB.start {B : Nat} {W : World} (hB : B ≤ W.heap.size) : SWB B [] [] (.slice (some ⟨W.heap.size, 0, none⟩) 0 0) (W.alloc (.cells #[] 56)) :=
  ⟨(Own.empty W 56).base hB, ⟨_, _, rfl⟩, rfl, fun _ h => absurd h (by simp), fun _ _ h => absurd h (by simp)⟩
theorem SWB.exc {B cb : Nat} {W wr : World} {out : List (List Bool)} {us : List Value} {o : Value} (h : SWB B out us o W) (hx : Ex [cb] W wr) (hcb : cb < B) : SWB B out us o wr :=
  ⟨h.own.exc hx hcb, h.nn, h.len, fun q hq => (h.el q hq).exc hx hcb, h.dj⟩
theorem SWB.below {B : Nat} {W wr : World} {out : List (List Bool)} {us : List Value} {o : Value} (h : SWB B out us o W) (hb : Below W.heap.size W wr) : SWB B out us o wr :=
  ⟨h.own.below hb, h.nn, h.len, fun q hq => (h.el q hq).below hb, h.dj⟩
theorem gbl_set {x : List (List Bool)} {k q : Nat} {c : List Bool} (hk : k < x.length) : gbl (x.set k c) q = if k = q then c else gbl x q := by
  unfold gbl
  rw [List.getD_eq_getElem?_getD, List.getElem?_set, List.getD_eq_getElem?_getD]
  by_cases h : k = q
  · subst h; simp [hk]
  · simp [h]
theorem SWB.snoc {B : Nat} {W wr w2 : World} {out : List (List Bool)} {us : List Value} {o v' cv : Value} {c : List Bool} (h0 : SWB B out us o W) (hb0 : Below W.heap.size W wr) (hBW : B ≤ W.heap.size)
    (hc : Own wr 4 W.heap.size cv (bools c)) (ho : Own w2 56 B v' (us ++ [cv])) (hg : wr.grownBy w2 o.ownBlock) : SWB B (out ++ [c]) (us ++ [cv]) v' w2 := by
  have h := h0.below hb0
  have hlen := h.len
  have key : ∀ i, i < (out ++ [c]).length → (i < out.length ∧ gv (us ++ [cv]) i = gv us i ∧ gbl (out ++ [c]) i = gbl out i) ∨ (i = out.length ∧ gv (us ++ [cv]) i = cv ∧ gbl (out ++ [c]) i = c) := by
    intro i hi
    simp at hi
    by_cases e : i < out.length
    · exact .inl ⟨e, gv_snoc_lt (by omega), gbl_snoc_lt e⟩
    · have : i = out.length := by omega
      subst this
      exact .inr ⟨rfl, by rw [← hlen]; exact gv_snoc_eq, gbl_snoc_eq⟩
  refine ⟨ho, ?_, by simp [hlen], ?_, ?_⟩
  · obtain ⟨hl, hh⟩ := ho
    rcases hh with ⟨_, h2⟩ | ⟨g, cap, cur, hv, _⟩
    · simp at h2
    · exact ⟨g, cap, hv⟩
  · intro q hq
    rcases key q hq with ⟨a, e1, e2⟩ | ⟨a, e1, e2⟩
    · rw [e1, e2]; exact (h.el q a).keptOf h.own (by decide) hg
    · rw [e1, e2]; exact (hc.keptOf h.own (by decide) hg).base hBW
  · intro i j hi hj hij b hb
    rcases key i hi with ⟨a, e1, _⟩ | ⟨a, e1, _⟩ <;> rcases key j hj with ⟨a', e1', _⟩ | ⟨a', e1', _⟩
    · rw [e1] at hb; rw [e1']; exact h.dj i j a a' hij b hb
    · rw [e1] at hb; rw [e1']; intro e
      have := ((h0.el i a).lt b hb).2
      have := (hc.lt b e).1
      omega
    · rw [e1] at hb; rw [e1']; intro e
      have := ((h0.el j a').lt b e).2
      have := (hc.lt b hb).1
      omega
    · omega
/-- One bool stored. -/
theorem SWB.setc {B bp n c p q : Nat} {W : World} {out : List (List Bool)} {us : List Value} {o : Value} {x : Bool} (h : SWB B out us o W) (hp : p < out.length) (hv : gv us p = .slice (some ⟨bp, 0, none⟩) n c) (hq : q < n) :
    SWB B (out.set p ((gbl out p).set q x)) us o (W.setCell ⟨bp, q, none⟩ (.bool x)) := by
  have hpo := h.el p hp
  have hk : ∀ {e B' : Nat} {v : Value} {xs : List Value}, Own W e B' v xs → v.ownBlock ≠ some bp → Own (W.setCell ⟨bp, q, none⟩ (.bool x)) e B' v xs := by
    intro e B' v xs hv2 hne
    exact hv2.kept (r := some bp) (grownBy.setIn (World.grownBy.refl W (some bp)) (p := ⟨bp, q, none⟩) rfl) (.inr hne)
  have hbp : (gv us p).ownBlock = some bp := by rw [hv]; rfl
  refine ⟨hk h.own (fun e => hpo.ne h.own (by decide) bp hbp e), h.nn, by simpa using h.len, ?_, ?_⟩
  · intro i hi
    rw [List.length_set] at hi
    rw [gbl_set hp]
    by_cases e : p = i
    · subst e
      rw [if_pos rfl, bools_set, hv]
      rw [hv] at hpo
      exact hpo.setAt hq
    · rw [if_neg e]
      exact hk (h.el i hi) (fun e2 => h.dj p i hp hi e bp hbp e2)
  · intro i j hi hj
    rw [List.length_set] at hi hj
    exact h.dj i j hi hj
/-- Row k grown by an append, and stored back. -/
theorem SWB.grow {B : Nat} {W w3 : World} {out : List (List Bool)} {us : List Value} {b c k : Nat} {v' : Value} {L : List Bool} (h : SWB B out us (.slice (some ⟨b, 0, none⟩) us.length c) W) (hk : k < out.length)
    (ho : Own w3 4 B v' (bools L)) (hg : W.grownBy w3 (gv us k).ownBlock) (hat : v'.ownBlock = (gv us k).ownBlock ∨ v'.ownBlock = some (W.heap.size + 1)) :
    SWB B (out.set k L) (us.set k v') (.slice (some ⟨b, 0, none⟩) us.length c) (w3.setCell ⟨b, k, none⟩ v') := by
  have hlen := h.len
  have ho2 : Own w3 56 B (.slice (some ⟨b, 0, none⟩) us.length c) us := h.own.keptOf (h.el k hk) (by decide) hg
  have hkept : ∀ q, q < out.length → q ≠ k → Own w3 4 B (gv us q) (bools (gbl out q)) := fun q hq hqk =>
    (h.el q hq).kept hg (by
      cases hv : (gv us q).ownBlock with
      | none => exact .inl rfl
      | some z => exact .inr (fun e => h.dj q k hq hk hqk z hv e.symm))
  have hset : ∀ {v : Value} {xs : List Value}, Own w3 4 B v xs → Own (w3.setCell ⟨b, k, none⟩ v') 4 B v xs := by
    intro v xs hv
    refine hv.kept (r := some b) (grownBy.setIn (World.grownBy.refl w3 (some b)) (p := ⟨b, k, none⟩) rfl) ?_
    cases e : v.ownBlock with
    | none => exact .inl rfl
    | some z => exact .inr (fun e2 => by
        simp at e2; subst e2
        exact hv.ne ho2 (by decide) _ e rfl)
  have hvv : ∀ z, v'.ownBlock = some z → ∀ q, q < out.length → q ≠ k → (gv us q).ownBlock ≠ some z := by
    intro z hz q hq hqk e
    rcases hat with h1 | h1
    · rw [h1] at hz; exact h.dj q k hq hk hqk z e hz
    · rw [h1] at hz; simp at hz; have := ((h.el q hq).lt z e).2; omega
  refine ⟨?_, ⟨b, c, by simp⟩, by simp [hlen], ?_, ?_⟩
  · exact ho2.setAt (by omega)
  · intro q hq
    rw [List.length_set] at hq
    rw [gv_set (by omega), gbl_set hk]
    by_cases e : k = q
    · subst e; rw [if_pos rfl, if_pos rfl]; exact hset ho
    · rw [if_neg e, if_neg e]; exact hset (hkept q hq (fun h => e h.symm))
  · intro i j hi hj hij z hz
    rw [List.length_set] at hi hj
    rw [gv_set (by omega)] at hz ⊢
    by_cases e1 : k = i
    · subst e1
      rw [if_pos rfl] at hz
      rw [if_neg hij]
      exact hvv z hz j hj (fun h => hij h.symm)
    · rw [if_neg e1] at hz
      by_cases e2 : k = j
      · rw [if_pos e2]
        intro e3
        exact hvv z e3 i hi (fun h => e1 h.symm) hz
      · rw [if_neg e2]; exact h.dj i j hi hj hij z hz
theorem SWB.made {B : Nat} {W : World} {out : List (List Bool)} {us : List Value} {o : Value} (h : SWB B out us o W) : ∃ F, RBoolSS W o out F ∧ Fr B F := by
  refine ⟨_, ⟨us, h.own.sl, ⟨h.len, fun q hq => (h.el q hq).sl, fun q hq b hb => Nat.zero_le _, fun q hq => (h.el q hq).ne h.own (by decide), h.dj⟩, rfl⟩, ?_⟩
  intro b hb
  rcases List.mem_append.1 hb with hb | hb
  · exact (h.own.lt b (by simpa using hb)).1
  · obtain ⟨i, hi, hb⟩ := mem_fbl.1 hb
    exact ((h.el i (by rw [← h.len]; exact hi)).lt b hb).1
/-- The row of element p, opened. -/
theorem SWB.row {B p : Nat} {W : World} {out : List (List Bool)} {us : List Value} {o : Value} (h : SWB B out us o W) (hp : p < out.length) (hn : 0 < (gbl out p).length) :
    ∃ bp c, gv us p = .slice (some ⟨bp, 0, none⟩) (gbl out p).length c ∧ B ≤ bp := by
  obtain ⟨hl, hh⟩ := h.el p hp
  rcases hh with ⟨_, h2⟩ | ⟨g, cap, cur, hv, hb, _⟩
  · have := bools_length (gbl out p); omega
  · exact ⟨g, cap, by simpa using hv, hb⟩
theorem SWB.cell {B p b n c : Nat} {W : World} {out : List (List Bool)} {us : List Value} (h : SWB B out us (.slice (some ⟨b, 0, none⟩) n c) W) (hp : p < out.length) : W.cell? ⟨b, p, none⟩ = some (gv us p) ∧ b < W.heap.size := by
  obtain ⟨_, hr, _⟩ := h.own.opened'
  have hp2 : p < us.length := by rw [h.len]; exact hp
  have := hr.cell hp2
  rw [Nat.zero_add, ← gv_eq hp2] at this
  exact ⟨this, hr.lt⟩

set_option maxRecDepth 10000 in
set_option maxHeartbeats 4000000 in
theorem relation_any (cb : Nat) (v : Value) (K : Nat) (w : World) (h : Cur w cb v K) (hcb : cb < w.heap.size) (hvb : ∀ b, v.ownBlock = some b → b < w.heap.size) (hK : K ≤ 100000) :
    Calls Try.prog 84 #[.pointer (some ⟨cb, 0, none⟩)] w fun e w' => ∃ (r : Value) (L : List (List Bool)) (F : List Nat), e = .returned r ∧ RBoolSS w' r L F ∧ Fr w.heap.size F ∧ L.length ≤ 5 ∧ Ex [cb] w w' := by
  have hc := Lib.hid h
  clear h
  replace hvb := Lib.hid hvb
  go_enter Try.func84, Try.ntmps84
  go_wp2_with fail
  refine (pick_any cb v K 5 w hc.out (by omega) (by omega)).mono ?_
  rintro e w1 ⟨⟨x, rfl, hx5, _⟩, hc1, hx1⟩
  have hx := hx5 (by omega)
  obtain ⟨n, hn⟩ : ∃ n, n = x + 1 := ⟨_, rfl⟩
  have hn1 : 1 ≤ n := by omega
  have hn5 : n ≤ 5 := by omega
  have hw1 : IntKind.i64.wrap (1 + (x : Int)) = (n : Int) := by rw [hn]; exact wrap_oneO x (by omega)
  have hs1 := hx1.size
  have hO1 := Lib.hid ((Own.empty w1 3).base hs1)
  have hB1 : Below w1.heap.size w1 (w1.alloc (.cells #[] 3)) := (Below.refl _ _).alloc (Nat.le_refl _) _
  have hc2 := Lib.hid (hc1.ex (Ex.of_below (F := []) hB1) (by simp) (fun _ _ => by simp))
  have hx2 := Lib.hid (hx1.trans (Ex.of_below (F := [cb]) hB1))
  clear hc1 hx1 hB1 hc hn hx5
  go_wp2
  go_loopw [4, 5] (fun o iv wr => ∃ (i : Nat) (ao : Option Addr) (c : Nat) (L : List Int), i ≤ n ∧ iv = .int .i64 (i : Nat) ∧ o = .slice ao i c ∧ L.length = i ∧ Own wr 3 w.heap.size o (ints L) ∧ Cur wr cb v (K + 2 + 2 * i) ∧ Ex [cb] w wr) (fun _ i _ => n - (intOf i).toNat)
  case atStart => exact ⟨0, _, _, [], Nat.zero_le _, rfl, rfl, rfl, hO1.out, hc2.out, hx2.out⟩
  case round =>
    clear hO1 hc2 hx2
    obtain ⟨i, ao, c, L, hi, rfl, rfl, hL, hO, hC, hX⟩ := hrel
    replace hO := Lib.hid hO
    replace hC := Lib.hid hC
    replace hX := Lib.hid hX
    by_cases hlt : i < n
    · go_wp2_with fail
      refine (pick_any cb v _ 3 _ hC.out (by omega) (by omega)).mono ?_
      rintro e w4 ⟨⟨y, rfl, hy2, _⟩, hc4, hx4⟩
      have hy := hy2 (by omega)
      have hO4 := Lib.hid (hO.out.exc hx4 hcb)
      have hx5 := Lib.hid (hX.out.trans hx4)
      have hs5 := hx5.out.size
      have hl5 : (ints L).length ≤ 1000000000 := by simp; omega
      replace hc4 := Lib.hid hc4
      clear hx4 hO hC hX hy2
      go_wp2_with (at_builtin; refine append_one_at eltInt rfl _ _ rfl w.heap.size _ _ rfl hO4.out rfl rfl hl5 hs5 ?_; intro v6 w6 ho6 hg6 _)
      have hc6 := Lib.hid (hc4.out.appended hO4.out hg6 hcb hvb.out)
      have hx8 := Lib.hid (hx5.out.appended hO4.out hg6)
      have ho7 : Own w6 3 w.heap.size v6 (ints (L ++ [(y : Int)])) := by simpa [ints] using ho6
      obtain ⟨ao7, c7, e7, _, _, _, _⟩ := ho7.sl.openInts
      simp only [List.length_append, List.length_singleton, hL] at e7
      subst e7
      replace ho7 := Lib.hid ho7
      clear ho6 hg6 hO4 hx5 hc4
      go_wp2
      go_roundw
      case rel => exact ⟨i + 1, ao7, c7, L ++ [(y : Int)], by omega, by go_num, rfl, by simp; omega, ho7.out, hc6.out.le (by omega), hx8.out⟩
      case measure => simp [intOf]; omega
    · obtain rfl : n = i := by omega
      clear hlt hi
      have hB9 : Below wr.heap.size wr (wr.alloc (.cells #[] 56)) := (Below.refl _ _).alloc (Nat.le_refl _) _
      have hsw := hX.out.size
      have hSB := Lib.hid (SWB.start (B := w.heap.size) (W := wr) hsw)
      have hO9 := Lib.hid (hO.out.below hB9)
      have hC9 := Lib.hid (hC.out.ex (Ex.of_below (F := []) hB9) (by simp) (fun _ _ => by simp))
      have hX9 := Lib.hid (hX.out.trans (Ex.of_below (F := [cb]) hB9))
      clear hB9 hO hC hX
      obtain ⟨rb, rfl⟩ : ∃ rb, ao = some ⟨rb, 0, none⟩ := by
        obtain ⟨hl, hh⟩ := hO9.out
        rcases hh with ⟨h1, _⟩ | ⟨g, cap, cur, hv, hb, _⟩
        · simp at h1; have := h1.2.1; simp [this] at hL; omega
        · simp at hv; exact ⟨g, hv.1⟩
      go_wp2
      go_loopw [6, 7] (fun o iv wq => ∃ (j : Nat) (us : List Value) (out : List (List Bool)), j ≤ n ∧ iv = .int .i64 (j : Nat) ∧ out.length = j ∧ SWB w.heap.size out us o wq ∧ (∀ q, q < out.length → (gbl out q).length = n) ∧ Own wq 3 w.heap.size (.slice (some ⟨rb, 0, none⟩) n c) (ints L) ∧ Cur wq cb v (K + 20) ∧ Ex [cb] w wq) (fun _ iv _ => n - (intOf iv).toNat)
      case atStart => exact ⟨0, [], [], Nat.zero_le _, rfl, rfl, hSB.out, fun _ h => absurd h (by simp), hO9.out, hC9.out.le (by omega), hX9.out⟩
      case round =>
        clear hSB hO9 hC9 hX9
        obtain ⟨wq, rfl⟩ : ∃ W, W = wr := ⟨_, rfl⟩
        obtain ⟨j, us, out, hj, rfl, hol, hS, hlens, hO, hC, hX⟩ := hrel
        replace hlens := Lib.hid hlens
        replace hol := Lib.hid hol
        have hsq := hX.size
        by_cases hlt2 : j < n
        · have hB5 := Lib.hid ((Below.refl wq.heap.size wq).alloc (Nat.le_refl _) (.cells #[] 4))
          have hR0 := Lib.hid (Own.empty wq 4)
          have hrow := hO.opened'.2.1
          have hrb := hrow.lt
          replace hrow := Lib.hid hrow
          replace hS := Lib.hid hS
          replace hO := Lib.hid hO
          replace hC := Lib.hid hC
          replace hX := Lib.hid hX
          go_wp2
          go_loopw [8, 9] (fun o kv wp => ∃ (k : Nat) (ao5 : Option Addr) (c5 : Nat) (R : List Bool), k ≤ n ∧ kv = .int .i64 (k : Nat) ∧ o = .slice ao5 k c5 ∧ R.length = k ∧ Own wp 4 wq.heap.size o (bools R) ∧ Below wq.heap.size wq wp) (fun _ kv _ => n - (intOf kv).toNat)
          case atStart => exact ⟨0, _, _, [], Nat.zero_le _, rfl, rfl, rfl, hR0.out, hB5.out⟩
          case round =>
            clear hR0 hB5
            obtain ⟨wp, rfl⟩ : ∃ W, W = wr := ⟨_, rfl⟩
            obtain ⟨k, ao5, c5, R, hk, rfl, rfl, hRk, hOR, hBl⟩ := hrel
            by_cases hlt3 : k < n
            · have hr := hrow.out.below hBl hrb
              have hcj := hr.cell (i := j) (by simp; omega)
              have hck := hr.cell (i := k) (by simp; omega)
              rw [Nat.zero_add, ints_get (by omega)] at hcj hck
              clear hr
              have hbl := hBl.size
              have hRl : (bools R).length ≤ 1000 := by simp; omega
              have hapn : Hid (∀ (w' : World) (v' : Value) (t : Bool), Own w' 4 wq.heap.size v' (bools R ++ [.bool t]) → ∃ ao7 c7, v' = .slice ao7 (k + 1) c7 ∧ Own w' 4 wq.heap.size (.slice ao7 (k + 1) c7) (bools (R ++ [t]))) := Lib.hid (by
                intro w' v' t h
                have h2 : Own w' 4 wq.heap.size v' (bools (R ++ [t])) := by simpa [bools] using h
                obtain ⟨ao7, c7, e7, _⟩ := h2.sl.opened
                simp [hRk] at e7
                subst e7
                exact ⟨ao7, c7, rfl, h2⟩)
              replace hOR := Lib.hid hOR
              replace hBl := Lib.hid hBl
              generalize gi L j = a at *
              generalize gi L k = b at *
              have hjp : (0 : Int) ≤ (j : Int) := by omega
              have hkp : (0 : Int) ≤ (k : Int) := by omega
              by_cases hab : a < b
              · go_wp2
                go_region_law (first | (refine step_append_all eltBoolO rfl (.tmp 37) (.tmp 47) rfl wq.heap.size (.slice ao5 k c5) (bools R) (by simp [Act.eval, Act.put]) (hOR.out.alloc _) (.slice (some ⟨wp.heap.size, 0, none⟩) 1 1) [.bool true] (by simp [Act.eval, Act.put]) RdV.new (by simp [Value.oneCell']) (by simp at hRl ⊢; omega) (by simp; omega) ?_; intro v1 w1 ho1 hg1))
                all_goals
                  obtain ⟨ao7, c7, rfl, ho7⟩ := hapn.out _ _ _ ho1
                  have hBn := Below.appended (Below.alloc (Below.drewN hBl.out 1) (by simpa using hbl) (.cells #[.bool true] 4)) (hOR.out.alloc (.cells #[.bool true] 4)) hg1 (by simp; omega)
                  clear ho1 hg1
                  go_wp2
                  go_roundw
                  case rel => exact ⟨k + 1, ao7, c7, _, by omega, by go_num, rfl, by simp; omega, ho7, hBn⟩
                  case measure => simp [intOf]; omega
              · go_wp2
                go_region_law (first | (refine step_append_all eltBoolO rfl (.tmp 37) (.tmp 47) rfl wq.heap.size (.slice ao5 k c5) (bools R) (by simp [Act.eval, Act.put]) (hOR.out.alloc (.cells #[.bool (decide (a < b))] 4)) (.slice (some ⟨wp.heap.size, 0, none⟩) 1 1) [.bool (decide (a < b))] (by simp [Act.eval, Act.put]) (RdV.new (w := wp) (e := 4) (y := .bool (decide (a < b)))) (by simp [Value.oneCell']) (by simp at hRl ⊢; omega) (by simp; omega) ?_; intro v1 w1 ho1 hg1))
                all_goals
                  obtain ⟨ao7, c7, rfl, ho7⟩ := hapn.out _ _ _ ho1
                  have hBn := Below.appended (Below.drewN (Below.alloc hBl.out hbl (.cells #[.bool (decide (a < b))] 4)) 1) ((hOR.out.alloc (.cells #[.bool (decide (a < b))] 4)).drewN 1) hg1 (by simp; omega)
                  clear ho1 hg1
                  go_wp2
                  go_roundw
                  case rel => exact ⟨k + 1, ao7, c7, _, by omega, by go_num, rfl, by simp; omega, ho7, hBn⟩
                  case measure => simp [intOf]; omega
            · obtain rfl : n = k := by omega
              have hSp := hS.out.below hBl
              have hlp : us.length ≤ 1000000000 := by have := hSp.len; have := hol.out; omega
              have hCp := Lib.hid (hC.out.ex (Ex.of_below (F := []) hBl) (by simp) (fun _ _ => by simp))
              have hXp := Lib.hid (hX.out.trans (Ex.of_below (F := [cb]) hBl))
              have hOp := Lib.hid (hO.out.below hBl)
              have hsp := hXp.out.size
              have hRk2 : R.length = n := hRk
              replace hOR := Lib.hid hOR
              replace hBl := Lib.hid hBl
              replace hSp := Lib.hid hSp
              clear hO hC hX
              go_wp2_with (at_builtin; refine append_one_at eltBoolS rfl _ _ rfl w.heap.size _ _ rfl hSp.out.own rfl rfl hlp hsp ?_)
              intro v6 w6 ho6 hg6 _
              have hS6 := Lib.hid (hS.out.snoc hBl.out hsq hOR.out ho6 hg6)
              have hC6 := Lib.hid (hCp.out.appended hSp.out.own hg6 hcb hvb.out)
              have hX6 := Lib.hid (hXp.out.appended hSp.out.own hg6)
              have hO6 := Lib.hid (hOp.out.keptOf hSp.out.own (by decide) hg6)
              clear ho6 hg6 hCp hXp hOp hSp hS
              go_wp2
              go_roundw
              case rel =>
                refine ⟨j + 1, _, _, by omega, by go_num, ?_, hS6.out, ?_, hO6.out, hC6.out, hX6.out⟩
                · have := hol.out; simp; omega
                · intro q hq
                  simp at hq
                  by_cases e : q < out.length
                  · rw [gbl_snoc_lt e]; exact hlens.out q e
                  · obtain rfl : q = out.length := by omega
                    rw [gbl_snoc_eq]; exact hRk
              case measure => simp [intOf]; omega
        · have hjn : j = n := by omega
          have hul : us.length = n := by rw [hS.len]; have := hol.out; omega
          obtain ⟨bo, co, rfl⟩ := hS.nn
          rw [hul] at hS ⊢
          have hol2 := hol.out
          clear hol
          have hol := hol2
          clear hol2
          rw [hjn] at hol
          clear hjn hO
          replace hS := Lib.hid hS
          replace hC := Lib.hid hC
          replace hX := Lib.hid hX
          replace hul := Lib.hid hul
          replace hol := Lib.hid hol
          go_wp2_with fail
          refine (pick_any cb v _ 4 _ hC.out (by omega) (by omega)).mono ?_
          rintro e w4 ⟨⟨m0, rfl, hm4, _⟩, hc4, hx4⟩
          have hm := hm4 (by omega)
          have hS4 := Lib.hid (hS.out.exc hx4 hcb)
          have hX4 := Lib.hid (hX.out.trans hx4)
          replace hc4 := Lib.hid hc4
          clear hx4 hm4 hS hC hX
          go_wp2
          go_loopw [10] (fun mv wr => ∃ (m : Nat) (out : List (List Bool)), m ≤ 4 ∧ mv = .int .i64 (m : Nat) ∧ out.length = n ∧ (∀ q, q < out.length → (gbl out q).length = n) ∧ SWB w.heap.size out us (.slice (some ⟨bo, 0, none⟩) n co) wr ∧ Cur wr cb v (K + 100 - 6 * m) ∧ Ex [cb] w wr) (fun mv _ => (intOf mv).toNat)
          case atStart => exact ⟨m0, out, by omega, rfl, hol.out, hlens.out, hS4.out, hc4.out.le (by omega), hX4.out⟩
          case round =>
            clear hS4 hc4 hX4 hlens hol
            clear out
            obtain ⟨m, out, hm, rfl, hol, hlens, hS, hC, hX⟩ := hrel
            by_cases hm1 : 1 < m
            · have hm1i : (1 : Int) < (m : Int) := by omega
              have hCd := Lib.hid (show Cur wr.drew cb v _ from hC.drewN 1)
              have hSd := Lib.hid (show SWB w.heap.size out us _ wr.drew from ⟨hS.own.drewN 1, hS.nn, hS.len, fun q hq => (hS.el q hq).drewN 1, hS.dj⟩)
              have hXd := Lib.hid (show Ex [cb] w wr.drew from hX.drewN 1)
              have hrowp : Hid (∀ (W : World) (p : Nat), SWB w.heap.size out us (.slice (some ⟨bo, 0, none⟩) n co) W → p < n → ∃ bp cp, gv us p = .slice (some ⟨bp, 0, none⟩) n cp ∧ w.heap.size ≤ bp) := Lib.hid (by
                intro W p hw hp
                have h9 := hw.row (p := p) (by omega) (by rw [hlens p (by omega)]; omega)
                rwa [hlens p (by omega)] at h9)
              have hcelp : Hid (∀ (W : World) (p bp cp : Nat), SWB w.heap.size out us (.slice (some ⟨bo, 0, none⟩) n co) W → p < n → gv us p = .slice (some ⟨bp, 0, none⟩) n cp → W.cell? ⟨bo, p, none⟩ = some (.slice (some ⟨bp, 0, none⟩) n cp)) := Lib.hid (by
                intro W p bp cp hw hp e
                rw [← e]; exact (hw.cell (by omega)).1)
              have help : Hid (∀ (W : World) (p bp cp q : Nat), SWB w.heap.size out us (.slice (some ⟨bo, 0, none⟩) n co) W → p < n → gv us p = .slice (some ⟨bp, 0, none⟩) n cp → q < n → (∃ y, W.cell? ⟨bp, q, none⟩ = some y) ∧ W.frozen? ⟨bp, q, none⟩ = false) := Lib.hid (by
                intro W p bp cp q hw hp e hq
                have h9 := hw.el p (by omega)
                rw [e] at h9
                obtain ⟨_, hr, _⟩ := h9.opened'
                have h8 := hr.cell (i := q) (by rw [bools_length, hlens p (by omega)]; exact hq)
                rw [Nat.zero_add] at h8
                exact ⟨⟨_, h8⟩, hr.frozen q⟩)
              replace hlens := Lib.hid hlens
              replace hol := Lib.hid hol
              clear hS hC hX
              have mk := Lib.hid trivial
              go_wp2
              go_region_with (first
                | (go_at_call 112; clear mk; refine (pick_any cb v _ (n : Int) _ hCd.out (by omega) (by omega)).mono ?_; rintro e w5 ⟨⟨p, rfl, hp5, _⟩, hc5, hx5⟩; have hp := hp5 (by omega); have hpn : p < n := (by omega); have hS5 := Lib.hid (hSd.out.exc hx5 hcb); have hX5 := Lib.hid (hXd.out.trans hx5); obtain ⟨bp, cp, hgv, hbp⟩ := hrowp.out _ p hS5.out hpn; have hk5 := hcelp.out _ p bp cp hS5.out hpn hgv; replace hc5 := Lib.hid hc5; replace hgv := Lib.hid hgv; replace hbp := Lib.hid hbp; clear hx5 hp5)
                | (go_at_call 112; refine (pick_any cb v _ (n : Int) _ hc5.out (by omega) (by omega)).mono ?_; rintro e w6 ⟨⟨q, rfl, hq6, _⟩, hc6, hx6⟩; have hq := hq6 (by omega); have hqn : q < n := (by omega); have hS6 := Lib.hid (hS5.out.exc hx6 hcb); have hX6 := Lib.hid (hX5.out.trans hx6); have hk6 := hcelp.out _ p bp cp hS6.out hpn hgv.out; replace hc6 := Lib.hid hc6; clear hx6 hq6)
                | (go_at_call 113; refine (one_any cb v _ 2 _ hc6.out (by omega) (by omega)).mono ?_; rintro e w7 ⟨⟨t, rfl⟩, hc7, hx7⟩; have hS7 := Lib.hid (hS6.out.exc hx7 hcb); have hX7 := Lib.hid (hX6.out.trans hx7); have hk7 := hcelp.out _ p bp cp hS7.out hpn hgv.out; obtain ⟨⟨y7, hy7⟩, hf7⟩ := help.out _ p bp cp q hS7.out hpn hgv.out hqn; replace hc7 := Lib.hid hc7; clear hx7))
              all_goals
                have hS8 := Lib.hid (hS7.out.setc (x := t) (p := p) (q := q) (by have := hol.out; omega) hgv.out hqn)
                have hX8 := Lib.hid (hX7.out.setNewO (p := ⟨bp, q, none⟩) hbp.out (v := .bool t))
                have hc8 := Lib.hid (hc7.out.ex (F := [bp]) ((Ex.refl [bp] _).setIn (p := ⟨bp, q, none⟩) (by simp) (v := .bool t)) (by have := hbp.out; simp; omega) (fun b9 h9 => by have := hvb.out b9 h9; have := hbp.out; simp; omega))
                go_wp2
                go_roundw
                case rel =>
                  refine ⟨m - 1, _, by omega, by go_num, ?_, ?_, hS8.out, hc8.out.le (by omega), hX8.out⟩
                  · simp [hol.out]
                  · intro i hi
                    rw [List.length_set] at hi
                    rw [gbl_set (by have := hol.out; omega)]
                    split
                    · rw [List.length_set]; exact hlens.out p (by have := hol.out; omega)
                    · exact hlens.out i hi
                case measure => simp [intOf]; omega
            · have hm1i : ¬ (1 : Int) < (m : Int) := by omega
              replace hS := Lib.hid hS
              replace hC := Lib.hid hC
              replace hX := Lib.hid hX
              replace hlens := Lib.hid hlens
              replace hol := Lib.hid hol
              go_wp2_with fail
              refine (pick_any cb v _ 30 _ hC.out (by omega) (by omega)).mono ?_
              rintro e w5 ⟨⟨z, rfl, _, _⟩, hc5, hx5⟩
              have hS5 := hS.out.exc hx5 hcb
              have hX5 := Lib.hid (hX.out.trans hx5)
              have hsz := hX5.out.size
              clear hx5 hc5 hS hC hX
              by_cases z0 : z = 0
              · subst z0
                have hE0 := hS5.el 0 (by have := hol.out; omega)
                obtain ⟨b0, c0, hg0, hb0⟩ := hS5.row (p := 0) (by have := hol.out; omega) (by rw [hlens.out 0 (by have := hol.out; omega)]; omega)
                rw [hlens.out 0 (by have := hol.out; omega)] at hg0
                have hk0 := (hS5.cell (p := 0) (by have := hol.out; omega)).1
                rw [hg0] at hk0 hE0
                have hl0 : (bools (gbl out 0)).length ≤ 1000000000 := by rw [bools_length, hlens.out 0 (by have := hol.out; omega)]; omega
                replace hE0 := Lib.hid hE0
                replace hS5 := Lib.hid hS5
                replace hg0 := Lib.hid hg0
                go_wp2_with (at_builtin; refine append_one_at eltBoolO rfl _ _ rfl w.heap.size _ _ rfl hE0.out rfl rfl hl0 hsz ?_)
                intro v' w3 ho hg hat
                obtain ⟨av9, cv9, e9, _⟩ := ho.sl
                simp only [List.length_append, bools_length, hlens.out 0 (by have := hol.out; omega), List.length_singleton] at e9
                subst e9
                have ho2 := (hS5.out.own.keptOf hE0.out (by decide) hg).opened'
                obtain ⟨y9, hc9⟩ : ∃ y9, w3.cell? ⟨bo, 0, none⟩ = some y9 := ⟨_, by have := ho2.2.1.cell (i := 0) (by rw [hul.out]; omega); simpa using this⟩
                have hf9 := ho2.2.1.frozen 0
                have hfin := (SWB.grow (by rw [hul.out]; exact hS5.out) (k := 0) (L := gbl out 0 ++ [false]) (by have := hol.out; omega) (by simpa [bools] using ho) (by rw [hg0.out]; exact hg) (by rw [hg0.out]; simpa [bools] using hat))
                rw [hul.out] at hfin
                replace hfin := Lib.hid hfin
                have hX9 := Lib.hid (Ex.setNewO (hX5.out.appended hE0.out hg) (p := ⟨bo, 0, none⟩) ho2.2.2.1 (v := .slice av9 (n + 1) cv9))
                have hbo9 := ho2.2.2.1
                clear ho hg hat ho2 hk0
                obtain ⟨F, f1, f2⟩ := hfin.out.made
                replace f1 := Lib.hid f1
                replace f2 := Lib.hid f2
                go_wp2
                go_ret
                exact ⟨_, _, F, rfl, f1.out, f2.out, by rw [List.length_set, hol.out]; omega, hX9.out⟩
              · have e0 : ((z : Int) == 0) = false := by simp; omega
                by_cases z1 : z = 1
                · subst z1
                  clear hS5
                  go_wp2
                  go_ret
                  exact ⟨_, [], [], rfl, ⟨[], Sl.nil _ _, InB.nil _ _ _, by simp [fbl, Value.ownBlock]⟩, fun _ h => absurd h (by simp), by simp, hX5.out⟩
                · have e1 : ((z : Int) == 1) = false := by simp; omega
                  obtain ⟨F, f1, f2⟩ := hS5.made
                  replace f1 := Lib.hid f1
                  replace f2 := Lib.hid f2
                  clear hS5
                  go_wp2
                  go_ret
                  exact ⟨_, _, F, rfl, f1.out, f2.out, by rw [hol.out]; omega, hX5.out⟩
set_option maxRecDepth 10000 in
set_option maxHeartbeats 1000000 in
theorem DrawOrderDefect_law {d : Value} {w : World} (h : RdBy w d) (hd : ∀ b, d.ownBlock = some b → b < w.heap.size) :
    Calls Try.prog 38 #[d] w fun e w' => ∃ (r : Value) (L : List (List Bool)) (F : List Nat), e = .returned r ∧ RBoolSS w' r L F ∧ Fr w.heap.size F ∧ L.length ≤ 5 ∧ Below w.heap.size w w' := by
  have hc := Lib.hid (Cur.start h hd)
  obtain ⟨ao, n, c, rfl, h1, h2, _⟩ := h
  have hal := Lib.hid (relation_any w.heap.size _ 0 _ hc.out (by simp) (fun b hb => by have := hd b hb; simp; omega) (by omega))
  go_enter Try.func38, Try.ntmps38
  go_wp2_with fail
  refine hal.out.mono ?_
  rintro e w1 ⟨r, L, F, rfl, hR, hF, hL, hx⟩
  have hB := Lib.hid (newCurO hx)
  replace hR := Lib.hid hR
  have hF2 : Hid (Fr w.heap.size F) := Lib.hid (fun b hb => by have := hF b hb; simp at this; omega)
  clear hx hal hF
  go_wp2
  go_ret
  exact ⟨_, L, F, rfl, hR.out, hF2.out, hL, hB.out⟩
end Go.Proofs.Ytdhcpoeopooejaa
