/- A row that lists variables, its world's shape kept: the wrap that the frames of such laws want. -/
import Derived.Test.YtoeonplbgbgjmaaDoorDoor
import Derived.HandedShaped
namespace Go.Proofs.YtoeonplbgbgjmaaDoor
open Go.RowKit
set_option linter.unusedVariables false
set_option linter.unusedSimpArgs false

/-- From a contract over every fitting world, whose shape it may use, to the row's claim: where the row lists variables. -/
theorem handed_listed {H : Type} {enc : TypeId × Value → H} {C : Checked} {os : Os} {f : FuncId} {fn : Func} {s : ChangeSpec} {L : List (String × DataW Unit)}
    (hown : ownKnob C.prog.godebug = none) (started : os.Started) (h1 : C.prog.inits.idxOf? f = none) (h2 : C.prog.funcs[f]? = some fn)
    (wit : ∃ (w : World) (tape : Tape) (i : Input), w.os = os ∧ (w.forCall tape i).Shaped C.prog ∧ i.vars = [] ∧ Input.okWide C.prog (w.forCall tape i) .any w.heap.size f i ∧
      ((s.pre enc C.prog fn [] false (w.forCall tape i).memory i.args ∧ laidMetH C.prog L (w.forCall tape i).memory) ∧ sizedMet enc C.prog fn (OpenSpec.ofChange s) false (w.forCall tape i).memory i.args) ∧ ({} : Assume).holds C.prog (lone (Frame.enter C.prog f i.args .normal) [] (w.forCall tape i)))
    (k : ∀ (W : World) (base : Nat) (args : Array Value) (ds gs : List (DataW H)) (before : List MemPlace), (∀ (j : Nat) t v, fn.params[j]? = some t → args[j]? = some v → Value.okWide C.prog W .any base t v) →
      DataW.Whole enc C.prog fn.params.toList s.vars false W args.toList ds gs before → laidMetH C.prog L W → W.ShapedOpen C.prog →
      Calls C.prog f args W fun e W' => ∃ v, e = .returned v ∧ s.post enc C.prog fn false true false false W args v W') :
    ReturnsInHanded {} C os f .any (fun w args => (s.pre enc C.prog fn [] false w args ∧ laidMetH C.prog L w) ∧ sizedMet enc C.prog fn (OpenSpec.ofChange s) false w args) (s.post enc C.prog fn false true false false) := by
  refine returnsInHanded_of_calls hown started h1 wit fun w tape i _ shape _ ok pre _ => ?_
  obtain ⟨_, _, _, g, hg, _, _, _, _, vals⟩ := ok
  cases Option.some.inj (hg.symm.trans h2)
  obtain ⟨⟨⟨ds, gs, before, whole, _⟩, laid⟩, _⟩ := pre
  have whole2 := DataW.Whole.of_heap (w' := w.forCall tape i) (by rfl) whole
  refine (k (w.forCall tape i) w.heap.size i.args ds gs before vals whole2 (laid.of_heap (by rfl)) shape).mono fun e W' out => ?_
  obtain ⟨v, rfl, hp⟩ := out
  exact ChangeSpec.post_blind hp
end Go.Proofs.YtoeonplbgbgjmaaDoor
