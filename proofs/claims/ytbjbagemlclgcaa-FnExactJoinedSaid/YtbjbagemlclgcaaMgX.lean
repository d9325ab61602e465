/- From a contract to the row of a statement. -/
import Derived.Test.YtbjbagemlclgcaaMgW
namespace Go.MG
set_option linter.unusedSimpArgs false
set_option linter.unusedVariables false
set_option linter.unnecessarySimpa false
open Go.RowKit

theorem Gives.walk {P : Program} {f : FuncId} {args : List V} (h : Gives P f args [] [V.one (cL true)] []) {w : World} {S : Bool → Nat → Prop} {us : List Value} (hi : InOk w S args [] us [] [] []) :
    Calls P f us.toArray w fun e w' => e = .returned (.bool true) ∧ Below w.heap.size w w' := by
  refine (h w S us [] [] [] hi).mono fun e w' => ?_
  rintro ⟨res, outs', bk, S', us', bs', obs', ⟨rfl, rfl, rfl⟩, hret, hlen, hok, _, _, _, hfr⟩
  refine ⟨?_, ?_⟩
  · obtain ⟨u, us1, b, bs1, e1, rfl, h1, h2⟩ := hok.args
    obtain ⟨rfl, _⟩ := h2
    have e1 : us' ++ [] = [u] := e1
    rw [List.append_nil] at e1
    subst e1
    simp only [RXV, RXC, RC] at h1
    rw [hret, h1.1.1]
    rfl
  · exact ⟨hfr.os, hfr.tape, hfr.output, hfr.size, fun k hk => hfr.block k hk (by simp)⟩

/-- Arguments without memory. -/
theorem InOk.plain {w : World} {args : List V} {us : List Value} (h : RXVs (envI w (fun _ _ => False) []) args us []) : InOk w (fun _ _ => False) args [] us [] [] [] :=
  ⟨h, ⟨rfl, rfl⟩, by simp, by simp, fun _ _ h => h.elim, fun _ h => h.elim⟩
end Go.MG
