/- Contracts of the library's shelf told as contracts over cells: slices.Sort and slices.Compact at []int. -/
import Derived.Test.YtbjbagemlclgcaaMgZj
import Derived.Shelf.Sort.Plain
import Derived.Shelf.Slices.CompactI
namespace Go.MG
open Go.Sort (putRow grow putCells)

theorem eI_len {xs : List Int} : ∀ e ∈ xs.map eI, e.length = 1 := fun e he => by
  obtain ⟨x, _, rfl⟩ := List.mem_map.1 he; rfl
theorem eI_flat {xs : List Int} : Flat (xs.map eI) := by
  induction xs with
  | nil => exact ⟨rfl, rfl⟩
  | cons x xs ih => exact ⟨by simp [rclean, cclean, eI, Cell.clean]; exact ih.1, by simp [rnames, cnames, eI, Cell.names]; exact ih.2⟩
theorem rowI_of {E : Env} {b : Nat} : ∀ {xs : List Int} {o : Nat}, (∀ (j : Nat) (x : Int), xs[j]? = some x → E.w.cell? ⟨b, o + j, none⟩ = some (.int .i64 x)) → RRow E b o 1 (xs.map eI)
  | [], _, _ => by simp [RRow]
  | x :: xs, o, h => by
    simp only [List.map_cons, RRow]
    refine ⟨rfl, ⟨[.int .i64 x], ?_, fun j v hv => ?_⟩, rowI_of fun j y hy => ?_⟩
    · exact ⟨_, _, rfl, by simp [RC, isImm], rfl⟩
    · cases j with
      | zero => cases hv; exact h 0 x rfl
      | succ j => simp at hv
    · have := h (j + 1) y (by simpa using hy)
      rwa [show o + 1 + j = o + (j + 1) by omega]
theorem rowI_to {E : Env} {b : Nat} : ∀ {xs : List Int} {o : Nat}, RRow E b o 1 (xs.map eI) → ∀ (j : Nat) (x : Int), xs[j]? = some x → E.w.cell? ⟨b, o + j, none⟩ = some (.int .i64 x)
  | x :: xs, o, h, j, y, hy => by
    simp only [List.map_cons, RRow] at h
    obtain ⟨_, ⟨us, h1, h2⟩, h3⟩ := h
    cases j with
    | zero =>
      simp only [List.getElem?_cons_zero, Option.some.injEq] at hy
      subst hy
      obtain ⟨u, us', rfl, h4, h5⟩ := h1
      simp only [RC] at h4
      obtain ⟨rfl, _⟩ := h4
      exact h2 0 _ rfl
    | succ j =>
      have := rowI_to h3 j y (by simpa using hy)
      rwa [show o + 1 + j = o + (j + 1) by omega] at this
theorem RXRow.ofPlain {E : Env} {b o sz : Nat} {es : List (List Cell)} (hl : ∀ e ∈ es, e.length = sz) (hp : pl es = true) (h : RRow E b o sz es) : RXRow E b o sz es [] := by
  obtain ⟨us, f1, f2, f3⟩ := h.flat
  exact RXRow.of_flat hl (RXCs.of (pl_flat hp) f1) f3
theorem eI_pl (xs : List Int) : pl (xs.map eI) = true := pl_map fun _ => rfl
theorem rxI_to {E : Env} {b o : Nat} {xs : List Int} {bs : List Nat} (h : RXRow E b o 1 (xs.map eI) bs) : bs = [] ∧ RRow E b o 1 (xs.map eI) := by
  refine ⟨?_, RXRow.plain eI_len (eI_pl xs) h⟩
  obtain ⟨us, f1, _, _⟩ := h.flat
  exact (f1.plain (pl_flat (eI_pl xs))).2
theorem rxI {w : World} {S : Bool → Nat → Prop} {ob : List Nat} {b cap : Nat} {xs : List Int} (hc : xs.length ≤ cap) (ht : w.there b 0 (cap * 1)) (h : RRow (envI w S ob) b 0 1 (xs.map eI)) : RXC (envI w S ob) (.ow 1 (xs.map eI)) (.slice (some ⟨b, 0, none⟩) xs.length cap) [b] := by
  simp only [RXC]
  exact ⟨eI_len, eI_flat, .inr ⟨b, cap, [], by simp, by simpa using hc, ht, RXRow.ofPlain eI_len (eI_pl xs) h, rfl⟩⟩
theorem rxI0 {w : World} {S : Bool → Nat → Prop} {ob : List Nat} : RXC (envI w S ob) (.ow 1 (([] : List Int).map eI)) (.slice none 0 0) [] := by
  simp only [RXC]
  exact ⟨by simp, Flat.nil, .inl ⟨trivial, by simp, trivial⟩⟩
theorem holdsI {w : World} {b n : Nat} {xs : List Int} (h : ∀ (j : Nat) (x : Int), xs[j]? = some x → w.cell? ⟨b, 0 + j, none⟩ = some (.int .i64 x)) (ht : w.there b 0 n) (hn : xs.length ≤ n) : Go.Sort.Holds (Value.int .i64) w b 0 xs.toArray := by
  intro j hj
  have hj' : j < xs.length := by simpa using hj
  refine ⟨?_, (ht j (by omega)).2⟩
  rw [h j xs[j] (by simp [hj'])]
  simp [hj']
/-- The cells behind a row that was laid. -/
theorem putI {w : World} {b q n : Nat} {os : Array Obj} {xs ys : List Int} (hb : b < w.heap.size) (hl : ys.length = xs.length) (hH : Go.Sort.Holds (Value.int .i64) w b 0 xs.toArray) (ht : w.there b 0 n) :
    (∀ (j : Nat) (x : Int), ys[j]? = some x → (grow (putRow (Value.int .i64) (Go.Sort.ahead w q) b 0 ys.toArray) os).cell? ⟨b, 0 + j, none⟩ = some (.int .i64 x)) ∧ (grow (putRow (Value.int .i64) (Go.Sort.ahead w q) b 0 ys.toArray) os).there b 0 n := by
  have hsz : b < (putRow (Value.int .i64) (Go.Sort.ahead w q) b 0 ys.toArray).heap.size := by simpa using hb
  have hcell : ∀ j, j < ys.length → (grow (putRow (Value.int .i64) (Go.Sort.ahead w q) b 0 ys.toArray) os).cell? ⟨b, 0 + j, none⟩ = some (.int .i64 (ys.toArray[j]!)) := fun j hj => by
    rw [Go.Sort.cell?_grow _ _ _ hsz]
    exact Go.Sort.cell?_putRow (Value.int .i64) (Go.Sort.ahead w q) b 0 xs.toArray ys.toArray (Go.Sort.holds_ahead _ _ _ _ _ _ hH) (by simpa using hl) j (by simpa using hj)
  refine ⟨fun j x hx => ?_, fun j hj => ?_⟩
  · obtain ⟨h1, h2⟩ := List.getElem?_eq_some_iff.1 hx
    rw [hcell j h1, ← h2]; simp [h1]
  · rw [Go.Sort.frozen?_grow _ _ _ hsz, Go.Sort.frozen?_putRow, Go.Sort.frozen?_ahead]
    refine ⟨?_, (ht j hj).2⟩
    by_cases hjy : j < ys.length
    · rw [hcell j hjy]; rfl
    · rw [Go.Sort.cell?_grow _ _ _ hsz, Go.Sort.cell?_putRow_other _ _ _ _ _ _ (.inr (.inr (by simp; omega))), Go.Sort.cell?_ahead]
      exact (ht j hj).1
theorem frPut {w : World} {T : Nat → Prop} {b q : Nat} {os : Array Obj} {ys : List Int} (hT : T b) : Fr w T (grow (putRow (Value.int .i64) (Go.Sort.ahead w q) b 0 ys.toArray) os) := by
  refine ⟨rfl, rfl, rfl, by simp, fun k hk hn => ?_⟩
  rw [Go.Sort.heap_grow_old _ _ (by simpa using hk)]
  have hne : b ≠ k := fun e => hn (e ▸ hT)
  simp [putRow, Go.Sort.mapBlock, Array.getElem?_modify, hne]
theorem envI_row {w : World} {S : Bool → Nat → Prop} {ob : List Nat} {b : Nat} {xs : List Int} (h : ∀ (j : Nat) (x : Int), xs[j]? = some x → w.cell? ⟨b, 0 + j, none⟩ = some (.int .i64 x)) : RRow (envI w S ob) b 0 1 (xs.map eI) := rowI_of (E := envI w S ob) h
/-- One own row of integers goes in. -/
theorem in1 {w : World} {S : Bool → Nat → Prop} {xs : List Int} {us : List Value} {ob bs obs : List Nat} (h : InOk w S [V.one (.ow 1 (xs.map eI))] [] us ob bs obs) : ob = [] ∧ obs = [] ∧ ((us = [.slice none 0 0] ∧ xs = [] ∧ bs = []) ∨ ∃ b cap, us = [.slice (some ⟨b, 0, none⟩) xs.length cap] ∧ bs = [b] ∧ b < w.heap.size ∧ xs.length ≤ cap ∧ w.there b 0 cap ∧ (∀ (j : Nat) (x : Int), xs[j]? = some x → w.cell? ⟨b, 0 + j, none⟩ = some (.int .i64 x)) ∧ (∀ g, ¬ S g b)) := by
  obtain ⟨rfl, rfl⟩ : ob = [] ∧ obs = [] := h.outs
  refine ⟨rfl, rfl, ?_⟩
  obtain ⟨u, us', b0, bs', rfl, rfl, h1, rfl, rfl⟩ := h.args
  have h1 : RXC (envI w S []) (.ow 1 (xs.map eI)) u b0 := h1
  simp only [RXC] at h1
  obtain ⟨_, _, h2⟩ := h1
  rcases h2 with ⟨rfl, he, rfl⟩ | ⟨g, cap, bs1, rfl, h3, h4, h5, rfl⟩
  · exact .inl ⟨rfl, by simpa using he, rfl⟩
  · obtain ⟨hb1, h5r⟩ := rxI_to h5
    subst hb1
    have ho := h.own g (by simp)
    refine .inr ⟨g, cap, by simp, by simp, ho.1, by simpa using h3, by rw [Nat.mul_one] at h4; exact h4, ?_, ho.2⟩
    exact rowI_to (E := envI w S []) h5r
theorem ret0 : retVal [] = .tuple #[] := rfl
/-- slices.Sort at []int: the argument's memory comes back, sorted. -/
theorem sort_gives {P : Program} {f : FuncId}
    (hS : ∀ (blk off cap : Nat) (zs : List Int) (w : World), Go.Sort.Holds (Value.int .i64) w blk off zs.toArray → blk < w.heap.size → zs.length < 4611686018427387904 → Calls P f #[.slice (some ⟨blk, off, none⟩) zs.length cap] w fun e w' => e = .returned (.tuple #[]) ∧ ∃ n os, w' = grow (putRow (Value.int .i64) (Go.Sort.ahead w n) blk off (zs.mergeSort fun x y => decide (x ≤ y)).toArray) os)
    (hN : ∀ w, Calls P f #[.slice none 0 0] w fun e w' => e = .returned (.tuple #[]) ∧ w' = w)
    (xs : List Int) (hx : xs.length < 4611686018427387904) : GivesB P f [V.one (.ow 1 (xs.map eI))] [] [0] [] [] [V.one (.ow 1 ((xs.mergeSort fun x y => decide (x ≤ y)).map eI))] := by
  intro w S us ob bs obs h
  obtain ⟨rfl, rfl, h1 | ⟨b, cap, rfl, rfl, h2, h3, h4, h5, h6⟩⟩ := in1 h
  · obtain ⟨rfl, rfl, rfl⟩ := h1
    refine (hN w).mono ?_
    rintro e w' ⟨rfl, rfl⟩
    refine ⟨[], [], _, S, [], [], [], ⟨rfl, rfl, rfl⟩, ⟨ret0 ▸ rfl, rfl, ⟨?_, ⟨rfl, rfl⟩, by simp, by simp, h.bnd, h.cls⟩, by simp, fun _ _ h => h, fun _ _ h => .inl h, ⟨rfl, rfl, rfl, Nat.le_refl _, fun _ _ _ => rfl⟩⟩⟩
    exact ⟨_, _, [], [], rfl, rfl, (show RXC _ (.ow 1 _) _ _ by simpa using rxI0 (w := w') (S := S) (ob := [])), rfl, rfl⟩
  · refine (hS b 0 cap xs w (holdsI h5 h4 h3) h2 hx).mono ?_
    rintro e w' ⟨rfl, q, os, rfl⟩
    have hl : (xs.mergeSort fun x y => decide (x ≤ y)).length = xs.length := List.length_mergeSort _
    obtain ⟨p1, p2⟩ := putI (os := os) (q := q) h2 hl (holdsI h5 h4 h3) h4
    refine ⟨[], [], _, S, [], [b], [], ⟨rfl, rfl, rfl⟩, ⟨ret0 ▸ rfl, rfl, ⟨?_, ⟨rfl, rfl⟩, by simp, fun c hc => ?_, fun g c hc => ?_, h.cls⟩, fun c hc => .inl (by simpa using hc), fun _ _ h => h, fun _ _ h => .inl h, frPut (by simp)⟩⟩
    · refine ⟨_, _, [b], [], rfl, rfl, ?_, rfl, rfl⟩
      have := rxI (cap := cap) (by rw [hl]; exact h3) (by rw [Nat.mul_one]; exact p2) (envI_row (S := S) (ob := []) p1)
      rw [hl] at this
      exact this
    · have hc : c = b := by simpa using hc
      subst hc
      exact ⟨by simp; omega, h6⟩
    · have := h.bnd g c hc
      simp; omega
/-- slices.Compact at []int: what is handed over comes back, shorter. -/
theorem compact_gives {P : Program} {f : FuncId}
    (hC : ∀ (blk off cap : Nat) (zs : List Int) (w : World), Go.Sort.Holds (Value.int .i64) w blk off zs.toArray → zs.length ≤ 9223372036854775807 → zs.length ≤ cap → Calls P f #[.slice (some ⟨blk, off, none⟩) zs.length cap] w fun e w' => e = .returned (.slice (some ⟨blk, off, none⟩) (Go.Lib.compact zs).length cap) ∧ ∃ q, w' = putRow (Value.int .i64) (Go.Sort.ahead w q) blk off (Go.Lib.compact zs ++ List.replicate (zs.length - (Go.Lib.compact zs).length) 0).toArray)
    (hN : ∀ (a : Option Addr) (cap : Nat) (w : World), Calls P f #[.slice a 0 cap] w fun e w' => e = .returned (.slice a 0 cap) ∧ w' = w)
    (xs : List Int) (hx : xs.length ≤ 9223372036854775807) : Gives P f [V.one (.ow 1 (xs.map eI))] [] [V.one (.ow 1 ((Go.Lib.compact xs).map eI))] [] := by
  intro w S us ob bs obs h
  obtain ⟨rfl, rfl, h1 | ⟨b, cap, rfl, rfl, h2, h3, h4, h5, h6⟩⟩ := in1 h
  · obtain ⟨rfl, rfl, rfl⟩ := h1
    refine (hN none 0 w).mono ?_
    rintro e w' ⟨rfl, rfl⟩
    refine ⟨_, [], [], S, [.slice none 0 0], [], [], ⟨rfl, rfl, rfl⟩, ⟨rfl, rfl, ⟨?_, ⟨rfl, rfl⟩, by simp, by simp, h.bnd, h.cls⟩, by simp, fun _ _ h => h, fun _ _ h => .inl h, ⟨rfl, rfl, rfl, Nat.le_refl _, fun _ _ _ => rfl⟩⟩⟩
    exact ⟨_, _, [], [], rfl, rfl, rxI0, rfl, rfl⟩
  · refine (hC b 0 cap xs w (holdsI h5 h4 h3) hx h3).mono ?_
    rintro e w' ⟨rfl, q, rfl⟩
    have hle : (Go.Lib.compact xs).length ≤ xs.length := by
      unfold Go.Lib.compact Go.Lib.compactUpTo
      rw [List.length_map]
      exact Nat.le_trans (List.length_filter_le _ _) (by simp)
    have hl : (Go.Lib.compact xs ++ List.replicate (xs.length - (Go.Lib.compact xs).length) 0).length = xs.length := by simp; omega
    obtain ⟨p1, p2⟩ := putI (os := #[]) (q := q) h2 hl (holdsI h5 h4 h3) h4
    have fr := frPut (w := w) (T := (· ∈ [b] ++ [] ++ [])) (b := b) (q := q) (os := #[]) (ys := Go.Lib.compact xs ++ List.replicate (xs.length - (Go.Lib.compact xs).length) 0) (by simp)
    rw [Go.Sort.grow_empty] at p1 p2 fr
    refine ⟨_, [], [], S, [.slice (some ⟨b, 0, none⟩) (Go.Lib.compact xs).length cap], [b], [], ⟨rfl, rfl, rfl⟩, ⟨rfl, rfl, ⟨?_, ⟨rfl, rfl⟩, by simp, fun c hc => ?_, fun g c hc => ?_, h.cls⟩, fun c hc => .inl (by simpa using hc), fun _ _ h => h, fun _ _ h => .inl h, fr⟩⟩
    · refine ⟨_, _, [b], [], rfl, rfl, rxI (by omega) (by rw [Nat.mul_one]; exact p2) (envI_row fun j x hx => p1 j x ?_), rfl, rfl⟩
      rw [List.getElem?_append_left (List.getElem?_eq_some_iff.1 hx).1]; exact hx
    · have hc : c = b := by simpa using hc
      subst hc
      exact ⟨by simp; omega, h6⟩
    · have := h.bnd g c hc
      simp; omega

end Go.MG
