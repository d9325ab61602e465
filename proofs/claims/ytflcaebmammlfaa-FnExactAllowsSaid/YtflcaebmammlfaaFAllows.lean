import Derived.Test.YtflcaebmammlfaaFAllowsx0
import Derived.Test.YtflcaebmammlfaaProg
namespace Go.Proofs.Ytflcaebmammlfaa.M
open Go Go.MG
set_option linter.unusedVariables false
set_option linter.unusedSimpArgs false
theorem open89 : Go.MG.Opens Try.prog 89 eTlaws_Ask wfTlaws_Ask := by
  intro H enc W fuel cs x h
  obtain ⟨n, hp⟩ := Go.MG.struct_parts Try.underlying89 (by kernel_rfl : Try.prog.cellsOf 89 = 5) (by kernel_rfl) h
  obtain ⟨c0, k0, y0, rfl, h0, hp⟩ := hp
  obtain ⟨c1, k1, y1, rfl, h1, hp⟩ := hp
  obtain ⟨c2, k2, y2, rfl, h2, hp⟩ := hp
  obtain ⟨c3, k3, y3, rfl, h3, hp⟩ := hp
  obtain ⟨c4, k4, y4, rfl, h4, hp⟩ := hp
  obtain rfl := hp
  obtain ⟨a0, r0, w0⟩ := (Go.MG.Opens.int Try.underlying3) _ _ _ _ _ _ h0
  obtain ⟨a1, r1, w1⟩ := (Go.MG.Opens.int Try.underlying3) _ _ _ _ _ _ h1
  obtain ⟨a2, r2, w2⟩ := open77 _ _ _ _ _ _ h2
  obtain ⟨a3, r3, w3⟩ := (Go.MG.Opens.int Try.underlying3) _ _ _ _ _ _ h3
  obtain ⟨a4, r4, w4⟩ := (Go.MG.Opens.int Try.underlying3) _ _ _ _ _ _ h4
  exact ⟨⟨a0, a1, a2, a3, a4⟩, (r0.append (r1.append (r2.append (r3.append (r4.append (rfl : Go.MG.RCs _ [] [])))))), w0, w1, w2, w3, w4⟩
end Go.Proofs.Ytflcaebmammlfaa.M
