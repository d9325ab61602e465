/- The contract of the library's slices.DeleteFunc at []int told over cells. -/
import Derived.Test.YtcolcmjcjpikcaaMgZd
import Derived.Shelf.SlicesE.DeleteFunc
namespace Go.MG
open Go.Sort (putRow grow putCells)

theorem in2 {w : World} {S : Bool → Nat → Prop} {g : Nat} {xs : List Int} {us : List Value} {ob bs obs : List Nat} (h : InOk w S [V.one (.ow 1 (xs.map eI)), V.one (.clo g [])] [] us ob bs obs) (hne : xs ≠ []) : ob = [] ∧ obs = [] ∧ ∃ b cap, us = [.slice (some ⟨b, 0, none⟩) xs.length cap, .func (.func g) #[] #[]] ∧ bs = [b] ∧ b < w.heap.size ∧ xs.length ≤ cap ∧ w.there b 0 cap ∧ (∀ (j : Nat) (x : Int), xs[j]? = some x → w.cell? ⟨b, 0 + j, none⟩ = some (.int .i64 x)) ∧ (∀ g, ¬ S g b) := by
  obtain ⟨rfl, rfl⟩ : ob = [] ∧ obs = [] := h.outs
  refine ⟨rfl, rfl, ?_⟩
  obtain ⟨u, us', b0, bs', rfl, rfl, h1, u2, us2, b2, bs2, rfl, rfl, h6, rfl, rfl⟩ := h.args
  obtain ⟨_, _, h2⟩ := h1
  obtain ⟨h7, rfl⟩ := h6
  simp only [RC] at h7
  obtain ⟨us3, rfl, h8⟩ := h7
  simp only [RCs] at h8
  subst h8
  rcases h2 with ⟨_, he, _⟩ | ⟨b, cap, rfl, h3, h4, h5, rfl⟩
  · exact absurd (by simpa using he) hne
  · have ho := h.own b (by simp)
    refine ⟨b, cap, by simp, by simp, ho.1, by simpa using h3, by rw [Nat.mul_one] at h4; exact h4, ?_, ho.2⟩
    exact rowI_to (E := envI w S []) h5
theorem del_gives {P : Program} {f : FuncId} {g : Nat} (p : Int → Bool)
    (hg : ∀ (W : World) (x : Int), Go.Proofs.FnGives P g #[] #[.int .i64 x] (.bool (p x)) W)
    (hD : ∀ (blk off cap : Nat) (d : Array Int) (w : World), Go.Proofs.PredAt P g #[] (Value.int .i64) p w → Go.Proofs.PredOver P g #[] (Value.int .i64) p blk off d.size w → Go.Sort.Holds (Value.int .i64) w blk off d → d.size ≤ 9223372036854775807 → d.size ≤ cap →
      Calls P f #[.slice (some ⟨blk, off, none⟩) d.size cap, .func (.func g) #[] #[]] w fun e w' => e = .returned (.slice (some ⟨blk, off, none⟩) (d.toList.filter fun x => !p x).length cap) ∧ ∃ q, w' = putRow (Value.int .i64) (Go.Sort.ahead w q) blk off ((d.toList.filter fun x => !p x) ++ List.replicate (d.size - (d.toList.filter fun x => !p x).length) 0).toArray)
    (xs : List Int) (hne : xs ≠ []) (hx : xs.length ≤ 9223372036854775807) : Gives P f [V.one (.ow 1 (xs.map eI)), V.one (.clo g [])] [] [V.one (.ow 1 ((xs.filter fun x => !p x).map eI))] [] := by
  intro w S us ob bs obs h
  obtain ⟨rfl, rfl, b, cap, rfl, rfl, h2, h3, h4, h5, h6⟩ := in2 h hne
  have hc := hD b 0 cap xs.toArray w (fun W x _ => hg W x) (fun n os dk x _ => hg _ x) (holdsI h5 h4 h3) (by simpa using hx) (by simpa using h3)
  simp only [List.size_toArray] at hc
  refine hc.mono ?_
  rintro e w' ⟨rfl, q, rfl⟩
  have hle : (xs.filter fun x => !p x).length ≤ xs.length := List.length_filter_le _ _
  have hl : (xs.filter (fun x => !p x) ++ List.replicate (xs.length - (xs.filter fun x => !p x).length) 0).length = xs.length := by simp only [List.length_append, List.length_replicate]; omega
  obtain ⟨p1, p2⟩ := putI (os := #[]) (q := q) h2 hl (holdsI h5 h4 h3) h4
  have fr := frPut (w := w) (T := (· ∈ [b] ++ [] ++ [])) (b := b) (q := q) (os := #[]) (ys := xs.filter (fun x => !p x) ++ List.replicate (xs.length - (xs.filter fun x => !p x).length) 0) (by simp)
  rw [Go.Sort.grow_empty] at p1 p2 fr
  refine ⟨_, [], [], S, [.slice (some ⟨b, 0, none⟩) (xs.filter fun x => !p x).length cap], [b], [], ⟨rfl, rfl, rfl⟩, ⟨rfl, rfl, ⟨?_, ⟨rfl, rfl⟩, by simp, fun c hc => ?_, fun g c hc => ?_, h.cls⟩, fun c hc => .inl (by simpa using hc), fun _ _ h => h, fun _ _ h => .inl h, fr⟩⟩
  · refine ⟨_, _, [b], [], rfl, rfl, ⟨eI_len, eI_flat, .inr ⟨b, cap, by simp, by rw [List.length_map]; omega, by rw [Nat.mul_one]; exact p2, envI_row fun j x hx => p1 j x ?_, rfl⟩⟩, rfl, rfl⟩
    rw [List.getElem?_append_left (List.getElem?_eq_some_iff.1 hx).1]; exact hx
  · have hc : c = b := by simpa using hc
    subst hc
    exact ⟨by simp; omega, h6⟩
  · have := h.bnd g c hc
    simp; omega

end Go.MG
