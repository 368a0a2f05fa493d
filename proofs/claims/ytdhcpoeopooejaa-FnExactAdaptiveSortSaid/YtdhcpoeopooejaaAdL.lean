/- AdaptiveSort, impl: what the main loop keeps. -/
import Derived.Test.YtdhcpoeopooejaaAdF
import Derived.Deep.AppendLies
import Derived.Deep.RegionLaw
namespace Go.Proofs.Ytdhcpoeopooejaa
open Go.RowKit
set_option linter.unusedVariables false
set_option linter.unusedSimpArgs false

structure ST (B qb sb : Nat) (cs : List Int) (ps : List (List (Int × Int))) (vc op : Value) (usp : List Value) (wr : World) : Prop where
  ct : Own wr 3 B vc (ints cs)
  pt : PS B ps usp op wr
  qr : Row wr 85 qb 0 1 [.pointer (some ⟨sb, 0, none⟩)]
theorem ST.of {B qb sb : Nat} {cs : List Int} {ps : List (List (Int × Int))} {vc op : Value} {usp : List Value} {wr w' : World} (h : ST B qb sb cs ps vc op usp wr) (h1 : ∀ k, vc.ownBlock = some k → w'.heap[k]? = wr.heap[k]?) (h2 : ∀ k, op.ownBlock = some k → w'.heap[k]? = wr.heap[k]?) (h3 : w'.heap[qb]? = wr.heap[qb]?)
    (h4 : ∀ (k : Nat) (cs : Array Value), wr.heap[k]? = some (Obj.cells cs 72 (0, 0)) → w'.heap[k]? = wr.heap[k]?) : ST B qb sb cs ps vc op usp w' := ⟨h.ct.of_block h1, h.pt.of_block h2 h4, h.qr.of_block h3⟩
theorem RS.kept {w0 : World} {sb : Nat} {sv mv : Value} {st mg : List Int} {most : Int} {wr w' : World} (h : RS w0 sb sv mv st mg most wr) (h1 : w'.heap[sb]? = wr.heap[sb]?) (h2 : ∀ k, sv.ownBlock = some k → w'.heap[k]? = wr.heap[k]?) (h3 : ∀ k, mv.ownBlock = some k → w'.heap[k]? = wr.heap[k]?) (hb : Below w0.heap.size w0 w') : RS w0 sb sv mv st mg most w' :=
  ⟨h.row.of_block h1, h.so.of_block h2, h.mo.of_block h3, h.sn, h.mn, h.sm, h.sbl, hb⟩
/-- The type of a row's block. -/
def Ty (w : World) (b e : Nat) : Prop := ∃ cs, w.heap[b]? = some (Obj.cells cs e (0, 0))
theorem Ty.ne {w : World} {b b' e e' : Nat} (h : Ty w b e) (k : Ty w b' e') (he : e ≠ e') : b ≠ b' := fun e9 => by
  subst e9
  obtain ⟨cs, h1⟩ := h
  obtain ⟨cs', h2⟩ := k
  rw [h1] at h2
  simp only [Option.some.injEq, Obj.cells.injEq] at h2
  exact he h2.2.1
theorem Ty.lt {w : World} {b e : Nat} (h : Ty w b e) : b < w.heap.size := by
  obtain ⟨cs, h1⟩ := h
  exact (Array.getElem?_eq_some_iff.1 h1).1
theorem Row.ty {w : World} {e b off c : Nat} {xs : List Value} (h : Row w e b off c xs) : Ty w b e := by
  obtain ⟨cs, h1, _⟩ := h
  exact ⟨cs, h1⟩
theorem Own.ty {w : World} {e B b : Nat} {v : Value} {xs : List Value} (h : Own w e B v xs) (hb : v.ownBlock = some b) : Ty w b e := h.typed hb
/-- The main loop behind j pushes: S the parts, n comparisons, d merges followed. -/
structure LS (w : World) (pb sb qb cb db : Nat) (cs : List Int) (ps : List (List (Int × Int))) (vc op : Value) (usp : List Value) (st mg : List Int) (most : Nat) (S : List (List (Int × Int))) (n d : Nat) (us : List Value) (o sv mv : Value) (wr : World) : Prop where
  rs : RS w sb sv mv st mg (most : Nat) wr
  sk : PS w.heap.size S us o wr
  pr : Row wr 78 pb 0 1 [o]
  cr : Row wr 3 cb 0 1 [.int .i64 (n : Nat)]
  dr : Row wr 3 db 0 1 [.int .i64 (d : Nat)]
  st : ST w.heap.size qb sb cs ps vc op usp wr
  kv : ∀ b, (b = cb ∨ b = db ∨ vc.ownBlock = some b) → sv.ownBlock ≠ some b ∧ mv.ownBlock ≠ some b
  oo : op.ownBlock ≠ o.ownBlock
  vn : cb ≠ db ∧ vc.ownBlock ≠ some cb ∧ vc.ownBlock ≠ some db
  bs : w.heap.size ≤ pb ∧ w.heap.size ≤ cb ∧ w.heap.size ≤ db
/-- Written were blocks F: neither the run stack's, nor what is only read. -/
theorem LS.frame {w : World} {pb sb qb cb db : Nat} {cs : List Int} {ps : List (List (Int × Int))} {vc op : Value} {usp : List Value} {st mg : List Int} {most : Nat} {S : List (List (Int × Int))} {n d : Nat} {us : List Value} {o sv mv : Value} {wr w' : World} (h : LS w pb sb qb cb db cs ps vc op usp st mg most S n d us o sv mv wr)
    (hx : ∀ k, k < wr.heap.size → k ≠ pb → k ≠ cb → k ≠ db → o.ownBlock ≠ some k → w'.heap[k]? = wr.heap[k]?) (hB : Below w.heap.size w w') : RS w sb sv mv st mg (most : Nat) w' ∧ ST w.heap.size qb sb cs ps vc op usp w' := by
  obtain ⟨g, hg, _, _⟩ := h.sk.block
  have tg := h.sk.own.ty hg
  have tp := h.pr.ty
  have tc := h.cr.ty
  have td := h.dr.ty
  have keep : ∀ {k e : Nat}, Ty wr k e → e ≠ 78 → e ≠ 43 → e ≠ 3 → w'.heap[k]? = wr.heap[k]? := fun hk h1 h2 h3 =>
    hx _ hk.lt (hk.ne tp h1) (hk.ne tc h3) (hk.ne td h3) (fun e9 => by rw [hg] at e9; simp only [Option.some.injEq] at e9; exact hk.ne tg h2 e9.symm)
  have keepI : ∀ {k : Nat}, Ty wr k 3 → k ≠ cb → k ≠ db → w'.heap[k]? = wr.heap[k]? := fun hk h1 h2 =>
    hx _ hk.lt (hk.ne tp (by decide)) h1 h2 (fun e9 => by rw [hg] at e9; simp only [Option.some.injEq] at e9; exact hk.ne tg (by decide) e9.symm)
  refine ⟨h.rs.kept (keep h.rs.row.ty (by decide) (by decide) (by decide)) (fun k hk => keepI (h.rs.so.ty hk) (fun e => (h.kv k (.inl e)).1 hk) (fun e => (h.kv k (.inr (.inl e))).1 hk)) (fun k hk => keepI (h.rs.mo.ty hk) (fun e => (h.kv k (.inl e)).2 hk) (fun e => (h.kv k (.inr (.inl e))).2 hk)) hB,
    h.st.of (fun k hk => keepI (h.st.ct.ty hk) (fun e => h.vn.2.1 (by rw [← e]; exact hk)) (fun e => h.vn.2.2 (by rw [← e]; exact hk))) (fun k hk => ?_) (keep h.st.qr.ty (by decide) (by decide) (by decide)) (fun k cs hk => keep ⟨cs, hk⟩ (by decide) (by decide) (by decide))⟩
  have tk := h.st.pt.own.ty hk
  exact hx _ tk.lt (tk.ne tp (by decide)) (tk.ne tc (by decide)) (tk.ne td (by decide)) (fun e9 => h.oo (hk.trans e9.symm))
/-- A part pushed. -/
theorem LS.append {w : World} {pb sb qb cb db : Nat} {cs : List Int} {ps : List (List (Int × Int))} {vc op : Value} {usp : List Value} {st mg : List Int} {most : Nat} {S : List (List (Int × Int))} {n d j : Nat} {us : List Value} {o o' sv mv : Value} {wr w5 : World} (h : LS w pb sb qb cb db cs ps vc op usp st mg most S n d us o sv mv wr) (hj : j < ps.length)
    (ho : Own w5 43 w.heap.size o' (us ++ [gv usp j])) (hg : wr.grownBy w5 o.ownBlock) (hat : o'.ownBlock = o.ownBlock ∨ ∃ b, o'.ownBlock = some b ∧ wr.heap.size ≤ b) :
    LS w pb sb qb cb db cs ps vc op usp st mg most (S ++ [gp ps j]) n d (us ++ [gv usp j]) o' sv mv (w5.setCell ⟨pb, 0, none⟩ o') ∧ w5.cell? ⟨pb, 0, none⟩ = some o ∧ w5.frozen? ⟨pb, 0, none⟩ = false := by
  obtain ⟨g, hgo, _, hgl⟩ := h.sk.block
  have tg := h.sk.own.ty hgo
  have tp := h.pr.ty
  have hp5 : w5.heap[pb]? = wr.heap[pb]? := hg.block pb tp.lt (fun e9 => by rw [hgo] at e9; simp only [Option.some.injEq] at e9; exact tp.ne tg (by decide) e9)
  have hpr5 := h.pr.of_block hp5
  have hB5 := Below.appended h.rs.bel h.sk.own hg h.rs.bel.size
  have hB6 := Below.setCellNew (b := pb) (j := 0) (v := o') hB5 h.bs.1
  obtain ⟨f1, f2⟩ := h.frame (w' := w5.setCell ⟨pb, 0, none⟩ o') (fun k hk k1 _ _ k4 => (heap_setCell_other w5 ⟨pb, 0, none⟩ k o' (by simpa using k1)).trans (hg.block k hk (fun e => k4 e.symm))) hB6
  have hps5 := h.sk.push (h.st.pt.el j hj) ho hg
  have hset : Ex [pb] w5 (w5.setCell ⟨pb, 0, none⟩ o') := Ex.setIn (p := ⟨pb, 0, none⟩) (Ex.refl _ _) (by simp)
  have hpr6 := hpr5.set (i := 0) (by simp) o'
  simp only [Nat.zero_add, List.set_cons_zero] at hpr6
  have ti : ∀ {k : Nat}, Ty wr k 3 → (w5.setCell ⟨pb, 0, none⟩ o').heap[k]? = wr.heap[k]? := fun {k} hk =>
    (heap_setCell_other w5 ⟨pb, 0, none⟩ k o' (by simpa using hk.ne tp (by decide))).trans (hg.block k hk.lt (fun e9 => by rw [hgo] at e9; simp only [Option.some.injEq] at e9; exact hk.ne tg (by decide) e9))
  refine ⟨⟨f1, hps5.ex hset (fun b hb => by rw [List.mem_singleton] at hb; subst hb; exact hpr5.nr (by decide)) (fun b hb e9 => by
      rw [List.mem_singleton] at hb; subst hb
      exact (ho.ty e9).ne hpr5.ty (by decide) rfl), hpr6, h.cr.of_block (ti h.cr.ty), h.dr.of_block (ti h.dr.ty), f2, h.kv, ?_, h.vn, h.bs⟩, hpr5.cell1, hpr5.frozen 0⟩
  rcases hat with e | ⟨b, e, hb⟩
  · rw [e]; exact h.oo
  · rw [e]
    intro e9
    have := (h.st.pt.own.lt b e9).2
    omega
/-- The run stack pushed. -/
theorem LS.pushed {w : World} {pb sb qb cb db : Nat} {cs : List Int} {ps : List (List (Int × Int))} {vc op : Value} {usp : List Value} {st mg st' mg' : List Int} {most most' : Nat} {S : List (List (Int × Int))} {n d : Nat} {us : List Value} {o sv mv sv' mv' : Value} {wr w' : World} (h : LS w pb sb qb cb db cs ps vc op usp st mg most S n d us o sv mv wr)
    (hr : RT wr ([cb, db] ++ vc.ownBlock.toList) w sb sv' mv' st' mg' (most' : Nat) w') : LS w pb sb qb cb db cs ps vc op usp st' mg' most' S n d us o sv' mv' w' := by
  have ts := h.rs.row.ty
  have keep : ∀ {k e : Nat}, Ty wr k e → e ≠ 3 → e ≠ 87 → w'.heap[k]? = wr.heap[k]? := fun {k e} hk h1 h2 => by
    obtain ⟨cs, h3⟩ := id hk
    exact hr.kp k hk.lt (.inr ⟨cs, e, h3, h1⟩) (hk.ne ts h2)
  have keepK : ∀ {k : Nat}, Ty wr k 3 → k ∈ [cb, db] ++ vc.ownBlock.toList → w'.heap[k]? = wr.heap[k]? := fun {k} hk h1 => hr.kp k hk.lt (.inl h1) (hk.ne ts (by decide))
  obtain ⟨g, hgo, _, hgl⟩ := h.sk.block
  refine ⟨hr.toRS, h.sk.of_block (fun k hk => keep (h.sk.own.ty hk) (by decide) (by decide)) (fun k cs hk => keep ⟨cs, hk⟩ (by decide) (by decide)), h.pr.of_block (keep h.pr.ty (by decide) (by decide)), h.cr.of_block (keepK h.cr.ty (by simp)), h.dr.of_block (keepK h.dr.ty (by simp)),
    h.st.of (fun k hk => keepK (h.st.ct.ty hk) (by simp [hk])) (fun k hk => keep (h.st.pt.own.ty hk) (by decide) (by decide)) (keep h.st.qr.ty (by decide) (by decide)) (fun k cs hk => keep ⟨cs, hk⟩ (by decide) (by decide)), ?_, h.oo, h.vn, h.bs⟩
  intro b hb
  have hm : b ∈ [cb, db] ++ vc.ownBlock.toList := by
    rcases hb with rfl | rfl | hb
    · simp
    · simp
    · simp [hb]
  exact ⟨hr.ks b hm, hr.km b hm⟩
/-- The merges followed. -/
theorem LS.followed {w : World} {pb sb qb cb db : Nat} {cs : List Int} {ps : List (List (Int × Int))} {vc op : Value} {usp : List Value} {st mg : List Int} {most : Nat} {S S' : List (List (Int × Int))} {n n' d d' : Nat} {us us' : List Value} {o o' sv mv : Value} {wr w' : World} (h : LS w pb sb qb cb db cs ps vc op usp st mg most S n d us o sv mv wr)
    (hp : PS w.heap.size S' us' o' w') (hpr : Row w' 78 pb 0 1 [o']) (hcr : Row w' 3 cb 0 1 [.int .i64 (n' : Nat)]) (hdr : Row w' 3 db 0 1 [.int .i64 (d' : Nat)]) (hx : Ex ([pb, cb, db] ++ o.ownBlock.toList) wr w') (ho : o'.ownBlock = o.ownBlock) : LS w pb sb qb cb db cs ps vc op usp st mg most S' n' d' us' o' sv mv w' := by
  have hB : Below w.heap.size w w' := Below.ex h.rs.bel hx (fun b hb => by
    rcases List.mem_append.1 hb with hb | hb
    · simp only [List.mem_cons, List.not_mem_nil, or_false] at hb
      rcases hb with rfl | rfl | rfl
      · exact h.bs.1
      · exact h.bs.2.1
      · exact h.bs.2.2
    · exact (h.sk.own.lt b (by simpa using hb)).1)
  obtain ⟨f1, f2⟩ := h.frame (w' := w') (fun k hk k1 k2 k3 k4 => hx.block k hk (by
    intro hm
    rcases List.mem_append.1 hm with hm | hm
    · simp only [List.mem_cons, List.not_mem_nil, or_false] at hm
      rcases hm with rfl | rfl | rfl
      · exact k1 rfl
      · exact k2 rfl
      · exact k3 rfl
    · exact k4 (by simpa using hm))) hB
  exact ⟨f1, hp, hpr, hcr, hdr, f2, h.kv, by rw [ho]; exact h.oo, h.vn, h.bs⟩
theorem LS.below {w : World} {pb sb qb cb db : Nat} {cs : List Int} {ps : List (List (Int × Int))} {vc op : Value} {usp : List Value} {st mg : List Int} {most : Nat} {S : List (List (Int × Int))} {n d : Nat} {us : List Value} {o sv mv : Value} {wr w' : World} (h : LS w pb sb qb cb db cs ps vc op usp st mg most S n d us o sv mv wr) (hb : Below wr.heap.size wr w') : LS w pb sb qb cb db cs ps vc op usp st mg most S n d us o sv mv w' := by
  obtain ⟨f1, f2⟩ := h.frame (w' := w') (fun k hk _ _ _ _ => hb.block k hk) (Below.next h.rs.bel hb)
  exact ⟨f1, h.sk.below hb, h.pr.below hb h.pr.lt, h.cr.below hb h.cr.lt, h.dr.below hb h.dr.lt, f2, h.kv, h.oo, h.vn, h.bs⟩
/-- Other merges stored. -/
theorem LS.remerge {w : World} {A pb sb qb cb db : Nat} {cs : List Int} {ps : List (List (Int × Int))} {vc op : Value} {usp : List Value} {st mg mg' : List Int} {most : Nat} {S : List (List (Int × Int))} {n d : Nat} {us : List Value} {o sv mv mv' : Value} {wr : World} (h : LS w pb sb qb cb db cs ps vc op usp st mg most S n d us o sv mv wr)
    (hA : sb < A ∧ cb < A ∧ db < A ∧ (∀ b, sv.ownBlock = some b → b < A) ∧ ∀ b, vc.ownBlock = some b → b < A) (hB : w.heap.size ≤ A) (ho : Own wr 3 A mv' (ints mg')) :
    LS w pb sb qb cb db cs ps vc op usp st mg' most S n d us o sv mv' (wr.setCell ⟨sb, 1, none⟩ mv') := by
  have ts := h.rs.row.ty
  have oth : ∀ {k : Nat}, k ≠ sb → (wr.setCell ⟨sb, 1, none⟩ mv').heap[k]? = wr.heap[k]? := fun {k} hk => heap_setCell_other wr ⟨sb, 1, none⟩ k mv' (by simpa using hk)
  have othT : ∀ {k e : Nat}, Ty wr k e → e ≠ 87 → (wr.setCell ⟨sb, 1, none⟩ mv').heap[k]? = wr.heap[k]? := fun hk he => oth (hk.ne ts he)
  have hr := h.rs.row.set (i := 1) (by simp) mv'
  have hnew : ∀ b, b < A → mv'.ownBlock ≠ some b := fun b hb e => by have := (ho.lt b e).1; omega
  refine ⟨⟨by simpa using hr, h.rs.so.of_block fun k hk => othT (h.rs.so.ty hk) (by decide), (ho.base hB).of_block fun k hk => othT (ho.ty hk) (by decide), h.rs.sn, hnew sb hA.1, fun b hb => hnew b (hA.2.2.2.1 b hb), h.rs.sbl, Below.setCellNew h.rs.bel h.rs.sbl⟩,
    h.sk.of_block (fun k hk => othT (h.sk.own.ty hk) (by decide)) (fun k cs hk => othT ⟨cs, hk⟩ (by decide)), h.pr.of_block (othT h.pr.ty (by decide)), h.cr.of_block (othT h.cr.ty (by decide)), h.dr.of_block (othT h.dr.ty (by decide)),
    h.st.of (fun k hk => othT (h.st.ct.ty hk) (by decide)) (fun k hk => othT (h.st.pt.own.ty hk) (by decide)) (othT h.st.qr.ty (by decide)) (fun k cs hk => othT ⟨cs, hk⟩ (by decide)), ?_, h.oo, h.vn, h.bs⟩
  intro b hb
  refine ⟨(h.kv b hb).1, hnew b ?_⟩
  rcases hb with rfl | rfl | hb
  · exact hA.2.1
  · exact hA.2.2.1
  · exact hA.2.2.2.2 b hb
/-- 'append(s, y)' as a step of a region that draws: where the new row lies. -/
theorem step_append_1at {ops : Array Oper} {o : Oper} {a : Act} {K : Act → World → Prop} {Q : Exit → Act → World → Prop} {E0 : Prop} {w : World} {e T : TypeId} (E : EltOk T e) (hgd : o.guard = none) (s x : Operand)
    (ho : o.op = .call { callee := .builtin .append, args := #[s, x], argTypes := #[T, T] }) (B : Nat) (v : Value) (xs : List Value) (hs : a.eval s = v) (hown : Own w e B v xs)
    (y : Value) (z : Nat) (hx : a.eval x = .slice (some ⟨z, 0, none⟩) 1 1) (hy : w.cell? ⟨z, 0, none⟩ = some y) (h1 : y.oneCell' = true) (hl : xs.length ≤ 1000000000) (hB : B ≤ w.heap.size) (H : Nat) (hH : w.heap.size = H)
    (h : ∀ g cap w', Own w' e B (.slice (some ⟨g, 0, none⟩) (xs.length + 1) cap) (xs ++ [y]) → w.grownBy w' v.ownBlock → (v.ownBlock = some g ∨ g = H) → K (a.put o.dst (.slice (some ⟨g, 0, none⟩) (xs.length + 1) cap)) w') :
    if Region.wanted o (yielded ops a.tmps) = true then Oper.wp Try.prog o a w K Q else E0 := by
  obtain ⟨i, zv, bytes, ht, hi, hz, hsz, hby, hb64, hzs⟩ := E
  refine step_append_lies w hgd s x T ho B e i zv 1 bytes ht hi hz hsz hby hzs (by decide) v xs.length xs hs hown ⟨z, 0, none⟩ 1 1 [y] hx rfl ?_ ?_ (by omega) (by unfold maxLen; omega) ?_ hB H hH ?_
  · intro j u hj
    match j, hj with
    | 0, hj =>
      simp at hj
      subst hj
      rw [Addr.add_lit]
      exact hy
    | n + 1, hj => simp at hj
  · intro u hu
    simp at hu
    subst hu
    exact h1
  · have : (xs.length + 1) * bytes ≤ 1000000001 * 64 := Nat.mul_le_mul (by omega) hb64
    omega
  · intro g cap w' ho' hg hat _
    refine h g cap w' ?_ hg hat
    unfold Own
    rw [List.length_append]
    exact ho'
theorem repl_bound : ∀ (ms : List Int) (S : List (List (Int × Int))) (c : Nat), VR ms S.length → Gd 1000 (lens S) → (repl ms (S, c)).2 ≤ c + 2000 * ms.length := by
  intro ms
  induction ms with
  | nil => intro S c _ _; exact Nat.le_refl _
  | cons m r ih =>
    intro S c h hg
    obtain ⟨h0, h1, h2⟩ := h
    have hk : m.toNat + 2 ≤ (lens S).length := by rw [lens_length]; exact h1
    have hl := mgAt_length hk
    rw [← lens_mgP, lens_length, lens_length] at hl
    have g2 : Gd 1000 (lens (mgP S m.toNat)) := by rw [lens_mgP]; exact hg.mg hk
    have a1 := hg.at_ (i := m.toNat) (by omega)
    have a2 := hg.at_ (i := m.toNat + 1) (by omega)
    rw [gi_lens] at a1 a2
    have a3 := (mergeF_len _ (gp S m.toNat) (gp S (m.toNat + 1)) rfl).2
    have h3 := ih (mgP S m.toNat) (c + (mergeF (gp S m.toNat) (gp S (m.toNat + 1))).2) (by rw [show (mgP S m.toNat).length = S.length - 1 by omega]; exact h2) g2
    show (repl r (mgS (S, c) m.toNat)).2 ≤ _
    unfold mgS
    rw [List.length_cons]
    dsimp only
    omega
theorem LS.rt {w : World} {pb sb qb cb db : Nat} {cs : List Int} {ps : List (List (Int × Int))} {vc op : Value} {usp : List Value} {st mg : List Int} {most : Nat} {S : List (List (Int × Int))} {n d : Nat} {us : List Value} {o sv mv : Value} {wr : World} (h : LS w pb sb qb cb db cs ps vc op usp st mg most S n d us o sv mv wr) : RT wr ([cb, db] ++ vc.ownBlock.toList) w sb sv mv st mg (most : Nat) wr := by
  have hm : ∀ b ∈ [cb, db] ++ vc.ownBlock.toList, b = cb ∨ b = db ∨ vc.ownBlock = some b := fun b hb => by
    rcases List.mem_append.1 hb with hb | hb
    · simp only [List.mem_cons, List.not_mem_nil, or_false] at hb
      rcases hb with rfl | rfl
      · exact .inl rfl
      · exact .inr (.inl rfl)
    · exact .inr (.inr (by simpa using hb))
  refine ⟨h.rs, Kp.refl _ _ _, fun b hb => (h.kv b (hm b hb)).1, fun b hb => (h.kv b (hm b hb)).2, fun b hb => ?_, Nat.le_refl _⟩
  rcases hm b hb with rfl | rfl | h1
  · exact h.cr.lt
  · exact h.dr.lt
  · exact (h.st.ct.lt b h1).2
theorem stl_pos (e : Bool) : ∀ f s, 1 ≤ s.1.length → 1 ≤ (stl e f s).1.length := by
  intro f
  induction f with
  | zero => intro s h; exact h
  | succ f ih =>
    intro s h
    rw [stl]
    split
    · refine ih _ ?_
      show 1 ≤ (mgP _ _).length
      unfold mgP
      rw [List.length_append, List.length_cons]; omega
    · exact h
theorem end_pos {ps : List (List (Int × Int))} (h : 1 ≤ ps.length) : 1 ≤ (endP ps).1.length := by
  refine stl_pos _ _ _ ?_
  obtain ⟨m, hm⟩ : ∃ m, ps.length = m + 1 := ⟨ps.length - 1, by omega⟩
  rw [hm]
  refine stl_pos _ _ _ ?_
  dsimp only
  rw [List.length_append]; simp
theorem end_nil {ps : List (List (Int × Int))} (h : ps.length = 0) : endP ps = ([], 0) := by
  unfold endP
  rw [h]
  rfl
end Go.Proofs.Ytdhcpoeopooejaa
