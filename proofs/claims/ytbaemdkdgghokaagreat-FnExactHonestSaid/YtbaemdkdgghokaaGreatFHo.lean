import Derived.Test.YtbaemdkdgghokaaGreatFHox1
import Derived.Test.YtbaemdkdgghokaaGreatProg
namespace Go.Proofs.YtbaemdkdgghokaaGreat.M
open Go Go.MG Tryz
set_option linter.unusedVariables false
set_option linter.unusedSimpArgs false
set_option maxHeartbeats 8000000
set_option maxRecDepth 100000
theorem open64 : Go.MG.Opens Tryz.prog 64 eL_World wfL_World := by
  intro H enc W fuel cs x h
  obtain ⟨n, hp⟩ := Go.MG.struct_parts Tryz.underlying64 (by kernel_rfl : Tryz.prog.cellsOf 64 = 16) (by kernel_rfl) h
  obtain ⟨c0, k0, y0, rfl, h0, hp⟩ := hp
  obtain ⟨c1, k1, y1, rfl, h1, hp⟩ := hp
  obtain ⟨c2, k2, y2, rfl, h2, hp⟩ := hp
  obtain ⟨c3, k3, y3, rfl, h3, hp⟩ := hp
  obtain ⟨c4, k4, y4, rfl, h4, hp⟩ := hp
  obtain ⟨c5, k5, y5, rfl, h5, hp⟩ := hp
  obtain ⟨c6, k6, y6, rfl, h6, hp⟩ := hp
  obtain ⟨c7, k7, y7, rfl, h7, hp⟩ := hp
  obtain ⟨c8, k8, y8, rfl, h8, hp⟩ := hp
  obtain ⟨c9, k9, y9, rfl, h9, hp⟩ := hp
  obtain ⟨c10, k10, y10, rfl, h10, hp⟩ := hp
  obtain rfl := hp
  obtain ⟨a0, r0, w0⟩ := open56 _ _ _ _ _ _ h0
  obtain ⟨a1, r1, w1⟩ := (Go.MG.Opens.int Tryz.underlying3) _ _ _ _ _ _ h1
  obtain ⟨a2, r2, w2⟩ := (Go.MG.Opens.int Tryz.underlying3) _ _ _ _ _ _ h2
  obtain ⟨a3, r3, w3⟩ := open34 _ _ _ _ _ _ h3
  obtain ⟨a4, r4, w4⟩ := open57 _ _ _ _ _ _ h4
  obtain ⟨a5, r5, w5⟩ := open58 _ _ _ _ _ _ h5
  obtain ⟨a6, r6, w6⟩ := open59 _ _ _ _ _ _ h6
  obtain ⟨a7, r7, w7⟩ := open60 _ _ _ _ _ _ h7
  obtain ⟨a8, r8, w8⟩ := open61 _ _ _ _ _ _ h8
  obtain ⟨a9, r9, w9⟩ := open62 _ _ _ _ _ _ h9
  obtain ⟨a10, r10, w10⟩ := open24 _ _ _ _ _ _ h10
  exact ⟨⟨a0, a1, a2, a3, a4, a5, a6, a7, a8, a9, a10⟩, (r0.append (r1.append (r2.append (r3.append (r4.append (r5.append (r6.append (r7.append (r8.append (r9.append (r10.append (rfl : Go.MG.RCs _ [] [])))))))))))), w0, w1, w2, w3, w4, w5, w6, w7, w8, w9, w10⟩
end Go.Proofs.YtbaemdkdgghokaaGreat.M
