/- Append, bytes to text, calls, and what may be forgotten or named anew. -/
import Derived.Test.YtbjbagemlclgcaaMgS
namespace Go.MG
set_option linter.unusedSimpArgs false
set_option linter.unusedVariables false
set_option linter.unnecessarySimpa false

section
variable {P : Program} {F : Fix} {ops : Array Oper} {Q : St → Prop} {N : Nat}
variable {dst : Option Nat} {ty : TypeId} {pos : String} {aft : Array Edge} {grd : Option (Nat × Bool)} {rest : List Oper} {sl : Nat → Option Slot} {H : Heap}

theorem L.append {α : Type} {xs ys : List α} {e : α → List Cell} {y x : Operand} {t tx el : TypeId} {ti : TypeInfo} {z : Value} {c cx : Cell} {H1 : Heap} {es1 es2 : List (List Cell)} (q : Nat) (ht : P.underlying t = some (.slice el)) (hti : P.info? el = some ti) (hz : ti.zero = some z) (hzs : z.cells.size = ti.size)
    (hn : F.n = N) (hg : guardOf ops sl ⟨dst, .call { callee := .builtin .append, args := #[y, x], argTypes := #[t, tx] }, ty, pos, aft, grd⟩ = some true) (hd : dstB N dst = true) (hy : opnd sl y = some (.v (.one c))) (hx : opnd sl x = some (.v (.one cx)))
    (h1 : H.toGrow c = some (H1, es1)) (h2 : H.content cx = some es2) (he1 : es1 = xs.map e) (he2 : es2 = ys.map e) (hsz : ∀ a, (e a).length = ti.size) (hl1 : ∀ k r, c = .own k → H.rows k = some r → r.sz = ti.size) (hk2 : srcKind P tx ti.size cx)
    (hbig : (2 * (xs.length + ys.length) + 192) * ti.bytes ≤ 281474976710656) (hb0 : Nat.blt 0 ti.bytes = true) (hq : H.used q = false)
    (k : WpL P F ops Q rest ⟨setD sl dst (some (.v (.one (.own q)))), (Heap.newRow H1 q ⟨ti.size, (xs ++ ys).map e⟩)⟩) (hpl : ∀ a, noOw (e a) = true := by exact fun _ => rfl) :
    WpL P F ops Q (⟨dst, .call { callee := .builtin .append, args := #[y, x], argTypes := #[t, tx] }, ty, pos, aft, grd⟩ :: rest) ⟨sl, H⟩ := by
  subst he1; subst he2
  rw [List.map_append] at k
  have hb : 0 < ti.bytes := by simpa using hb0
  · refine L.op hn hg hd fun _ _ hH hρ => done_append hH hρ rfl ht hti hz hzs hy hx h1 h2 hl1 (fun e' he' => by
      obtain ⟨a, _, rfl⟩ := List.mem_map.1 he'; exact hsz a) hk2 (by simpa using hbig) ?_ hq (pl_map hpl) k
    have : (2 * (xs.length + ys.length) + 192) * 1 ≤ (2 * (xs.length + ys.length) + 192) * ti.bytes := Nat.mul_le_mul_left _ (by omega)
    simp
    omega

/-- Bytes become a text. -/
theorem bytesFold (l : List UInt8) : ∀ (s : ByteArray), (l.map fun b => ((b.toNat : Nat) : Int)).foldl (fun r n => r.push (UInt8.ofNat n.toNat)) s = s ++ ⟨⟨l⟩⟩ := by
  induction l with
  | nil => intro s; apply ByteArray.ext; simp
  | cons b l ih =>
    intro s
    simp only [List.map_cons, List.foldl_cons, Int.toNat_natCast, UInt8.ofNat_toNat]
    rw [ih]
    apply ByteArray.ext
    apply Array.ext'
    simp

theorem L.b2s {xs : List UInt8} {a b el : TypeId} {x : Operand} {c : Cell} (hta : P.underlying a = some (.slice el)) (hte : P.underlying el = some (.int .u8)) (htb : P.underlying b = some .string) (hn : F.n = N)
    (hg : guardOf ops sl ⟨dst, .convert a b x, ty, pos, aft, grd⟩ = some true) (hd : dstB N dst = true) (hx : opnd sl x = some (.v (.one c))) (hc : H.shows c = some (xs.map eB))
    (k : WpL P F ops Q rest ⟨setD sl dst (some (im (str xs))), H⟩) : WpL P F ops Q (⟨dst, .convert a b x, ty, pos, aft, grd⟩ :: rest) ⟨sl, H⟩ := by
  refine L.op hn hg hd fun E ev hH hρ => ?_
  have key : ∃ a' cap, ev x = .slice a' xs.length cap ∧ (xs = [] ∨ ∃ g o, a' = some ⟨g, o, none⟩ ∧ E.w.rangeAt g o (xs.map u8)) := by
    have hv := (hρ x _ hx).1
    simp only [RSlot, RV] at hv
    have flat : ∀ (E' : Env) (g o sz : Nat), E'.w = E.w → RRow E' g o sz (xs.map eB) → E.w.rangeAt g o (xs.map u8) := by
      intro E' g o sz hw hr
      rw [← hw]
      obtain ⟨us, h1, h2, h3⟩ := hr.flat
      have : us = xs.map u8 := by
        refine RCs.vals h1 ?_
        clear h1 h2 h3 hr hc k
        induction xs with
        | nil => rfl
        | cons b l ih => simp [eB, cellVals, Cell.val?, ih]
      rw [← this]; exact h3
    cases c with
    | sl g es =>
      simp only [Heap.shows, Option.some.injEq] at hc; subst hc
      simp only [RC] at hv
      obtain ⟨hf, a', cap, hu, hcap, h⟩ := hv
      refine ⟨a', cap, by rw [hu]; simp, ?_⟩
      rcases h with h | ⟨b', o, sz, ha, hS, hr⟩
      · exact .inl (by simpa using h)
      · exact .inr ⟨b', o, ha, flat (E.cap g) _ _ _ rfl hr⟩
    | own q =>
      simp only [Heap.shows, Option.map_eq_some_iff] at hc
      obtain ⟨r, hr, hc⟩ := hc
      obtain ⟨h1, h2, hd', h3, h4, h5⟩ := hH.rows q r hr
      simp only [RC] at hv
      have hu := hv.2 hd' h3
      rcases h5 with ⟨h6, h7, _⟩ | ⟨g, cap, bs0, h6, h7, h8, h9, _⟩
      · have : xs = [] := by rw [h7] at hc; simpa using hc.symm
        subst this
        exact ⟨none, 0, by rw [hu, h6]; rfl, .inl rfl⟩
      · refine ⟨some ⟨g, 0, none⟩, cap, by rw [hu, h6, hc]; simp, .inr ⟨g, 0, rfl, ?_⟩⟩
        have h9 := RXRow.plain h1 (by rw [hc]; exact pl_map fun _ => rfl) h9
        rw [hc] at h9
        exact flat E _ _ _ rfl h9
    | _ => simp [Heap.shows] at hc
  obtain ⟨a', cap, hu, h⟩ := key
  have hrun : (convert a b (ev x)).run P E.w = .ok (str xs) E.w := by
    rw [hu, run_convert_bytes_string E.w a b el a' xs.length cap hta hte htb]
    have fin : ∀ (g o : Nat), E.w.rangeAt g o (xs.map u8) → (Conv.bytesToString (.slice (some ⟨g, o, none⟩) xs.length cap)).run P E.w = .ok (str xs) E.w := by
      intro g o hr
      have hl := run_loadCells_list (P := P) E.w ⟨g, o, none⟩ (xs.map u8) (fun j v hv => by rw [Addr.add_mid]; exact hr j v hv)
      have e1 : xs.map u8 = (xs.map fun b => ((b.toNat : Nat) : Int)).map (Value.int .u8) := by simp [List.map_map, Function.comp_def]
      rw [e1] at hl
      simp only [List.length_map] at hl
      rw [run_bytesToString E.w _ _ cap _ hl, bytesFold]
      congr 2
    rcases h with h | ⟨g, o, rfl, hr⟩
    · subst h
      cases a' with
      | none => simp [Conv.bytesToString]; rfl
      | some ad =>
        have hl := run_loadCells (P := P) E.w ad 0 (fun _ => undef) (fun j hj => by omega)
        have := run_bytesToString E.w ad 0 cap [] (by simpa using hl)
        exact this
    · exact fin g o hr
  exact Done.same hH (u := str xs) (by simp [execOp, hrun]) k (by simp only [RSlot, RV, RC]; exact ⟨trivial, rfl⟩) (fun k hk => by simp [Slot.names, V.names, V.cells, cnames, Cell.names] at hk)
end
end Go.MG
