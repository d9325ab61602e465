/- New slices: written out, made, appended to; bytes as a string. -/
import Derived.Test.YtbjbagemlclgcaaMgG
import Derived.Deep.Upon
import Derived.Laws.MakeOwn
import Derived.Laws.BytesString
namespace Go.MG
set_option linter.unusedVariables false
set_option linter.unusedSimpArgs false
set_option linter.unnecessarySimpa false

def Heap.shareAll (H : Heap) : List (List Cell) → Option (Heap × List (List Cell))
  | [] => some (H, [])
  | e :: es => match H.share e with
    | some (H1, e') => match H1.shareAll es with
      | some (H2, es') => some (H2, e' :: es')
      | none => none
    | none => none

/-- What a slice (or a text) holds, as elements. -/
def Heap.content (H : Heap) : Cell → Option (List (List Cell))
  | .nil => some []
  | .sl _ es => some es
  | .own k => (H.rows k).map fun r => r.es
  | .sub k lo n => (H.rows k).map fun r => (r.es.drop lo).take n
  | .imm (.string s) => some (s.data.toList.map fun b => [.imm (.int .u8 b.toNat)])
  | _ => none

/-- A row that may be appended to. -/
def Heap.toGrow (H : Heap) : Cell → Option (Heap × List (List Cell))
  | .nil => some (H, [])
  | .own k => (H.rows k).map fun r => ({ H with rows := upd H.rows k none, lens := upd H.lens k (some r.es.length) }, r.es)
  | _ => none

section
variable {P : Program} {F : Fix} {H : Heap} {E : Env} {ρ : Rho} {ev : Operand → Value} {Q : Option Slot → Heap → Prop}

theorem Done.from {H1 : Heap} {E1 : Env} {m : Sem Next} (s : Sub E E1 (fun k => H.used k = true)) (hu : ∀ k, H.used k = H1.used k) (hw : E1.w = E.w) (h : Done P F H1 E1 m Q) : Done P F H E m Q := by
  obtain ⟨r, E', x, H', h1, h2, h3, h4, h5, h6⟩ := h
  exact ⟨r, E', x, H', by rw [← hw]; exact h1, h2, h3, s.trans (sub_used hu h4), fun k hk => h5 k (by rw [← hu]; exact hk), h6⟩

theorem shareAll_ok : ∀ {es es' : List (List Cell)} {H H' : Heap} {E : Env} {us : List Value} (_ : RelH F H E) (_ : H.shareAll es = some (H', es')) (_ : RCs E es.flatten us) (_ : ∀ k ∈ cnames es.flatten, H.used k = true),
    ∃ E', E'.w = E.w ∧ RelH F H' E' ∧ Sub E E' (fun k => H.used k = true) ∧ RCs E' es'.flatten us ∧ (Flat es' ∧ pl es' = true) ∧ (∀ k, H.used k = H'.used k) ∧ es'.map List.length = es.map List.length
  | [], es', H, H', E, us, hH, h, hr, hn => by
    simp [Heap.shareAll] at h
    obtain ⟨rfl, rfl⟩ := h
    exact ⟨E, rfl, hH, Sub.refl _ _, hr, ⟨Flat.nil, rfl⟩, fun _ => rfl, rfl⟩
  | e :: es, es', H, H', E, us, hH, h, hr, hn => by
    rw [List.flatten_cons] at hr hn
    rw [cnames_append] at hn
    have h1 : RCs E e (us.take e.length) := by have := hr.take e.length; simpa using this
    have h2 : RCs E es.flatten (us.drop e.length) := by have := hr.drop e.length; simpa using this
    unfold Heap.shareAll at h
    split at h
    · rename_i H1 e1 hc
      split at h
      · rename_i H2 es2 hcs
        cases h
        obtain ⟨E1, a1, a2, a3, a4, a5, a6⟩ := share_ok hH hc h1 (fun k hk => hn k (List.mem_append.2 (.inl hk)))
        obtain ⟨E2, b1, b2, b3, b4, b5, b6, b7⟩ := shareAll_ok a2 hcs (h2.sub a3 (fun k hk => hn k (List.mem_append.2 (.inr hk)))) (fun k hk => by rw [← a6]; exact hn k (List.mem_append.2 (.inr hk)))
        have hlen : e1.length = e.length := by have x1 := a4.length; have x2 := h1.length; omega
        refine ⟨E2, b1.trans a1, b2, a3.trans (sub_used a6 b3), ?_, ⟨⟨by simp [rclean, a5.2.1, b5.1.1], by simp [rnames, a5.1, b5.1.2]⟩, by simp [pl, a5.2.2, b5.2]⟩, fun k => (a6 k).trans (b6 k), by simp [hlen, b7]⟩
        rw [List.flatten_cons]
        have := (a4.sub b3 (fun k hk => by rw [a5.1] at hk; cases hk)).append b4
        rwa [List.take_append_drop] at this
      · cases h
    · cases h

/-- A new slice, in a new block. -/
theorem done_newRow (hH : RelH F H E) {k : Nat} {r : Row} {cap : Nat} {cur : Array Value} {us : List Value} {e : TypeId} {m : Sem Next} {w1 : World} (hw : w1.heap = E.w.heap ∧ w1.os = E.w.os ∧ w1.tape = E.w.tape ∧ w1.output = E.w.output)
    (hm : m.run P E.w = .ok (.value (.slice (some ⟨E.w.heap.size, 0, none⟩) r.es.length cap)) (w1.alloc (.cells cur e)))
    (hk : H.used k = false) (hl : ∀ e ∈ r.es, e.length = r.sz) (hf : Flat r.es) {bn : List Nat} (hr : RXCs E r.es.flatten us bn) (hbn : bn.Nodup) (hfree : ∀ b ∈ bn, (∀ c, ¬ E.S c b) ∧ (∀ j, ¬ Own E j b) ∧ b < E.w.heap.size ∧ (F.w0.heap.size ≤ b ∨ F.T b))
    (hcur : cur.toList.take us.length = us) (hcap : r.es.length ≤ cap) (hsz : cur.size = cap * r.sz)
    (hq : Q (some (.v (.one (.own k)))) { H with rows := upd H.rows k (some r), made := upd H.made k true }) : Done P F H E m Q := by
  have c : Chg F E (w1.alloc (.cells cur e)) := by
    refine ⟨hw.2.1, hw.2.2.1, hw.2.2.2, by simp [hw.1], fun b hb hne => absurd ?_ hne⟩
    rw [heap_alloc_old w1 _ b (by rw [hw.1]; exact hb), hw.1]
  have s := Sub.chg hH c (fun k => H.used k = true)
  have hsize : w1.heap.size = E.w.heap.size := by rw [hw.1]
  have hat : (w1.alloc (.cells cur e)).rangeAt E.w.heap.size 0 us := fun j v hv => by
    have := range_new w1 cur e
    rw [hsize] at this
    refine this j v ?_
    rw [← hcur, List.getElem?_take] at hv
    split at hv
    · exact hv
    · cases hv
  have hth : (w1.alloc (.cells cur e)).there E.w.heap.size 0 (cap * r.sz) := by
    have := there_new w1 cur e
    rwa [hsize, hsz] at this
  have hold : ∀ b, b < E.w.heap.size → (w1.alloc (.cells cur e)).heap[b]? = E.w.heap[b]? := fun b hb => by
    rw [heap_alloc_old w1 _ b (by rw [hw.1]; exact hb), hw.1]
  obtain ⟨h1, h2⟩ := (hH.chg c).addRow (r := r) (hd := .slice (some ⟨E.w.heap.size, 0, none⟩) r.es.length cap) (bs := E.w.heap.size :: bn) hk hl hf
    (.inr ⟨_, cap, bn, rfl, hcap, hth, RXRow.of_flat hl (RXCs.sub (Sub.chg hH c (fun _ => True)) (fun b hb => hold b (hfree b hb).2.2.1) (fun _ _ => trivial) hr) hat, rfl⟩)
    (List.nodup_cons.2 ⟨fun h => by have := (hfree _ h).2.2.1; omega, hbn⟩)
    (fun g hg => by
      rcases List.mem_cons.1 hg with rfl | hg
      · exact ⟨fun c h => by have := hH.S c _ h; omega, fun k h => by have := (hH.own k _ h).2.1; omega, by simp [hw.1], .inl hH.fr.size⟩
      · obtain ⟨f1, f2, f3, f4⟩ := hfree g hg
        exact ⟨f1, f2, by simp [hw.1]; omega, f4⟩)
  refine ⟨_, _, _, _, hm, hq, h1, s.trans h2, fun j hj => ?_, _, rfl, ?_, fun j hj => ?_⟩
  · by_cases e : j = k
    · subst e; simp [Heap.used, upd_same]
    · simpa [Heap.used, upd_other _ _ e] using hj
  · simp only [RSlot, RV, RC, Env.rowAt, upd_same]
    exact ⟨rfl, fun b hb => by cases hb; rfl⟩
  · simp [Slot.names, V.names, V.cells, cnames, Cell.names] at hj
    subst hj; simp [Heap.used, upd_same]

theorem partsV_fst : ∀ {xs : List (Nat × Operand)} {vs : List (Nat × V)}, partsV ρ xs = some vs → vs.map (·.1) = xs.map (·.1)
  | [], vs, h => by simp [partsV] at h; subst h; rfl
  | (i, x) :: xs, vs, h => by
    unfold partsV at h
    split at h
    · rename_i v vs' hv hvs; cases h; simp [partsV_fst hvs]
    · cases h

theorem done_buildSlice' (hH : RelH F H E) (hρ : RhoOk H E ρ ev) {o : Oper} {t : TypeId} {len : Nat} {parts : Array (Nat × Operand)} (ho : o.op = .buildSlice t len parts) {el : TypeId} (ht : P.underlying t = some (.slice el)) {ti : TypeInfo} (hti : P.info? el = some ti)
    {z : Value} (hz : ti.zero = some z) (h0 : 0 < ti.size) (hbig : len * ti.size ≤ 16777216) {vs : List (Nat × V)} (hp : partsV ρ parts.toList = some vs) (hd : parts.toList.map (·.1) = List.range len) (hl : ∀ p ∈ vs, p.2.cells.length = ti.size)
    {H' : Heap} {es : List (List Cell)} (hsh : ∀ us, RCs E (vs.map fun p => p.2.cells).flatten us → (∀ k ∈ cnames (vs.map fun p => p.2.cells).flatten, H.used k = true) → ∃ E' bn, E'.w = E.w ∧ RelH F H' E' ∧ Sub E E' (fun k => H.used k = true) ∧ RXCs E' es.flatten us bn ∧ Flat es ∧ (∀ k, H.used k = H'.used k) ∧ es.map List.length = (vs.map fun p => p.2.cells).map List.length ∧
      bn.Nodup ∧ ∀ b ∈ bn, (∀ c, ¬ E'.S c b) ∧ (∀ j, ¬ Own E' j b) ∧ b < E'.w.heap.size ∧ (F.w0.heap.size ≤ b ∨ F.T b)) {k : Nat} (hk : H.used k = false)
    (hq : Q (some (.v (.one (.own k)))) { H' with rows := upd H'.rows k (some ⟨ti.size, es⟩), made := upd H'.made k true }) : Done P F H E (execOp ev o) Q := by
  obtain ⟨us, g1, g2, g3, g4⟩ := partsV_ok hρ hp
  have hfst : vs.map (·.1) = List.range len := by rw [partsV_fst hp, hd]
  have hvl : vs.length = len := by have := congrArg List.length hfst; simpa using this
  -- the values, element by element
  have hcells : ∀ (vs : List (Nat × V)) (us : List (Nat × Value)), us.length = vs.length → (∀ i (h : i < vs.length) (h' : i < us.length), us[i].1 = vs[i].1 ∧ RV E vs[i].2 us[i].2) →
      RCs E (vs.map fun p => p.2.cells).flatten (us.map fun p => p.2.cells.toList).flatten ∧ (us.map fun p => p.2.cells.size) = vs.map fun p => p.2.cells.length := by
    intro vs
    induction vs with
    | nil =>
      intro us hl _
      obtain rfl : us = [] := by simpa using hl
      exact ⟨by simp [RCs], rfl⟩
    | cons v vs ih =>
      intro us hl hp
      cases us with
      | nil => simp at hl
      | cons u us =>
        obtain ⟨i1, i2⟩ := ih us (by simpa using hl) (fun j hj hj' => hp (j + 1) (by simpa using hj) (by simpa using hj'))
        obtain ⟨ws, w1, w2⟩ := RV.cells (hp 0 (by simp) (by simp)).2
        simp only [List.getElem_cons_zero] at w1 w2
        refine ⟨by simp only [List.map_cons, List.flatten_cons, w2]; exact w1.append i1, by simp [w2, i2, w1.length]⟩
  obtain ⟨hR, hS⟩ := hcells vs us g2 g3
  have hNames : ∀ k ∈ cnames (vs.map fun p => p.2.cells).flatten, H.used k = true := by
    intro k hk
    obtain ⟨c, hc, hk⟩ := mem_cnames.1 hk
    obtain ⟨l, hl', hc⟩ := List.mem_flatten.1 hc
    obtain ⟨p, hp', rfl⟩ := List.mem_map.1 hl'
    exact g4 p hp' k (mem_cnames.2 ⟨c, hc, hk⟩)
  obtain ⟨E1, bn, b1, b2, b3, b4, b5, b6, b7, b8, b9⟩ := hsh _ hR hNames
  have hesl : es.length = len := by have := congrArg List.length b7; simpa [hvl] using this
  have hel : ∀ e ∈ es, e.length = ti.size := by
    intro e he
    have : e.length ∈ es.map List.length := List.mem_map_of_mem he
    rw [b7, List.map_map] at this
    obtain ⟨p, hp', h⟩ := List.mem_map.1 this
    simp only [Function.comp] at h
    rw [← h]; exact hl p hp'
  have husz : ∀ p ∈ us, p.2.cells.size = ti.size := by
    intro p hp'
    have : p.2.cells.size ∈ us.map fun p => p.2.cells.size := List.mem_map_of_mem (f := fun p : Nat × Value => p.2.cells.size) hp'
    rw [hS] at this
    obtain ⟨q, hq', h⟩ := List.mem_map.1 this
    rw [← h]; exact hl q hq'
  -- the machine's own fill
  have husfst : us = (us.map (·.2)).zipIdx.map fun x => (x.2, x.1) := by
    have h1 : us.map (·.1) = List.range len := by
      rw [← g1, List.map_map]; exact hd
    apply List.ext_getElem
    · simp
    · intro i h h'
      have : (us.map (·.1))[i]'(by simpa using h) = i := by simp [h1]
      simp only [List.getElem_map] at this
      simp only [List.getElem_map, List.getElem_zipIdx, Nat.zero_add]
      exact Prod.ext this rfl
  by_cases hlen : len = 0
  · subst hlen
    obtain rfl : vs = [] := by simpa using hvl
    obtain rfl : us = [] := by simpa using g2
    obtain rfl : es = [] := by simpa using hesl
    refine Done.from b3 b6 b1 (done_newRow b2 (r := ⟨ti.size, []⟩) (cap := 0) (cur := #[]) (us := []) (e := el) (w1 := E1.w) ⟨rfl, rfl, rfl, rfl⟩ ?_ (by rw [← b6]; exact hk) (by simp) Flat.nil (bn := []) (by simp [RXCs]) List.nodup_nil (fun b hb => by cases hb) (by simp) (by simp) (by simp) hq)
    have hpe : parts = #[] := by apply Array.ext'; simpa using hd
    simp [execOp, ho, hpe, Instr.buildSlice, run_underlying ht, sizeOf, typeInfo, hti, Instr.fill, newRow, Array.range_zero']
  · have hpos : ¬ len * ti.size = 0 := by
      intro h; rcases Nat.mul_eq_zero.1 h with h | h <;> omega
    obtain ⟨r, r1, r2, r3⟩ := Great.fill_dense h0 (us.map (·.2)) 0 ((Array.range (len * ti.size)).map (z.cells[· % z.cells.size]!)) (by
      intro v hv; obtain ⟨p, hp', rfl⟩ := List.mem_map.1 hv; exact husz p hp') (by simp [g2, hvl])
    have hrun := run_buildSlice (P := P) E1.w t el len (parts.map fun p => (p.1, ev p.2)) r ti z ht hti hz (by omega) hpos (by rw [Array.toList_map, g1, husfst]; simpa using r1)
    have hflat : r.toList = (us.map fun p => p.2.cells.toList).flatten := by
      have hlenr : r.toList.length = len * ti.size := by simp [r2]
      have hlenf : (us.map fun p => p.2.cells.toList).flatten.length = len * ti.size := by
        have := hR.length
        rw [this, List.length_flatten, List.map_map]
        have : ((vs.map fun p => p.2.cells.length)) = List.replicate len ti.size := by
          apply List.ext_getElem
          · simp [hvl]
          · intro i h h'; simp; exact hl _ (List.getElem_mem _)
        rw [show (List.length ∘ fun p : Nat × V => p.2.cells) = fun p => p.2.cells.length from rfl, this]
        simp
      apply List.ext_getElem?
      intro q
      by_cases hq' : q < len * ti.size
      · have hdiv : q / ti.size < us.length := by rw [g2, hvl]; exact Nat.div_lt_of_lt_mul (by rw [Nat.mul_comm]; exact hq')
        rw [Array.getElem?_toList, r3 q, if_pos ⟨by omega, by simpa [g2, hvl] using hq'⟩]
        simp only [Nat.sub_zero, List.getElem?_map, List.getElem?_eq_getElem hdiv, Option.map_some, Option.bind_some]
        have seg : ∀ (ls : List (List Value)) (i : Nat) (l : List Value), (∀ l ∈ ls, l.length = ti.size) → ls[i]? = some l → ∀ m, m < ti.size → ls.flatten[i * ti.size + m]? = l[m]? := by
          intro ls
          induction ls with
          | nil => intro i l _ h; simp at h
          | cons a ls ih =>
            intro i l hls h m hm
            have ha : a.length = ti.size := hls a (by simp)
            cases i with
            | zero => simp at h; subst h; simp [List.getElem?_append, ha, hm]
            | succ i =>
              rw [List.flatten_cons, List.getElem?_append, if_neg (by rw [Nat.add_mul]; omega), show (i + 1) * ti.size + m - a.length = i * ti.size + m by rw [Nat.add_mul]; omega]
              exact ih i l (fun l hl => hls l (by simp [hl])) (by simpa using h) m hm
        have := seg (us.map fun p => p.2.cells.toList) (q / ti.size) us[q / ti.size].2.cells.toList (by
          intro l hl'; obtain ⟨p, hp', rfl⟩ := List.mem_map.1 hl'; simpa using husz p hp') (by simp [List.getElem?_eq_getElem hdiv]) (q % ti.size) (Nat.mod_lt _ h0)
        rw [Nat.div_add_mod' q ti.size] at this
        rw [this, Array.getElem?_toList]
      · rw [List.getElem?_eq_none (by omega), List.getElem?_eq_none (by omega)]
    refine Done.from b3 b6 b1 (done_newRow b2 (r := ⟨ti.size, es⟩) (cap := len) (cur := r) (us := (us.map fun p => p.2.cells.toList).flatten) (e := el) (w1 := E1.w) ⟨rfl, rfl, rfl, rfl⟩ ?_ (by rw [← b6]; exact hk) hel b5 b4 b8 b9 (by rw [← hflat]; exact List.take_of_length_le (Nat.le_refl _)) (by simp [hesl]) (by simp [r2]) hq)
    simp only [execOp, ho, Sem.run_bind]
    rw [show (Array.map (fun x => match x with | (i, x) => (i, ev x)) parts) = parts.map fun p => (p.1, ev p.2) from rfl, hrun]
    simp [hesl]

theorem done_buildSlice (hH : RelH F H E) (hρ : RhoOk H E ρ ev) {o : Oper} {t : TypeId} {len : Nat} {parts : Array (Nat × Operand)} (ho : o.op = .buildSlice t len parts) {el : TypeId} (ht : P.underlying t = some (.slice el)) {ti : TypeInfo} (hti : P.info? el = some ti)
    {z : Value} (hz : ti.zero = some z) (h0 : 0 < ti.size) (hbig : len * ti.size ≤ 16777216) {vs : List (Nat × V)} (hp : partsV ρ parts.toList = some vs) (hd : parts.toList.map (·.1) = List.range len) (hl : ∀ p ∈ vs, p.2.cells.length = ti.size)
    {H' : Heap} {es : List (List Cell)} (hsh : H.shareAll (vs.map fun p => p.2.cells) = some (H', es)) {k : Nat} (hk : H.used k = false)
    (hq : Q (some (.v (.one (.own k)))) { H' with rows := upd H'.rows k (some ⟨ti.size, es⟩), made := upd H'.made k true }) : Done P F H E (execOp ev o) Q :=
  done_buildSlice' hH hρ ho ht hti hz h0 hbig hp hd hl (fun us hr hn => by
    obtain ⟨E1, b1, b2, b3, b4, b5, b6, b7⟩ := shareAll_ok hH hsh hr hn
    exact ⟨E1, [], b1, b2, b3, RXCs.of (pl_flat b5.2) b4, b5.1, b6, b7, List.nodup_nil, fun b hb => by cases hb⟩) hk hq

theorem madeCells_flat {zc : List Cell} {z : Value} (hz : RCs E zc z.cells.toList) (n : Nat) : RCs E (List.replicate n zc).flatten (madeCells z.cells (n * zc.length)).toList := by
  have hl : z.cells.size = zc.length := by simpa using hz.length
  have : (madeCells z.cells (n * zc.length)).toList = (List.replicate n z.cells.toList).flatten := by
    by_cases h0 : zc.length = 0
    · have hz0 : z.cells = #[] := by apply Array.eq_empty_of_size_eq_zero; omega
      simp [madeCells, h0, hz0]
    · induction n with
      | zero => simp [madeCells]
      | succ n ih =>
        rw [List.replicate_succ', List.flatten_append, ← ih]
        apply List.ext_getElem?
        intro q
        simp only [madeCells, Array.toList_map, Array.toList_range, List.getElem?_map, List.flatten_cons, List.flatten_nil, List.append_nil, List.getElem?_append, List.length_map, List.length_range]
        by_cases h1 : q < n * zc.length
        · rw [if_pos h1, List.getElem?_range (by rw [Nat.add_mul]; omega), List.getElem?_range h1]
        · rw [if_neg h1]
          by_cases h2 : q < (n + 1) * zc.length
          · rw [List.getElem?_range h2]
            rw [Nat.add_mul] at h2
            have hq : q % z.cells.size = q - n * zc.length := by
              rw [hl, Nat.mod_eq_sub_mul_div]
              have : q / zc.length = n := by
                apply Nat.div_eq_of_lt_le
                · rw [Nat.mul_comm]; rw [Nat.mul_comm] at h1; omega
                · rw [Nat.mul_comm, Nat.mul_add]; rw [Nat.mul_comm] at h2; omega
              rw [this, Nat.mul_comm]
            simp only [Option.map_some, hq]
            have hlt : q - n * zc.length < z.cells.size := by omega
            rw [Array.getElem?_toList, Array.getElem?_eq_getElem hlt, getElem!_pos z.cells _ hlt]
          · rw [List.getElem?_eq_none (by simpa using h2), List.getElem?_eq_none (by simp; rw [Nat.add_mul] at h2; omega)]
            rfl
  rw [this]
  clear this
  induction n with
  | zero => simp [RCs]
  | succ n ih =>
    rw [List.replicate_succ, List.replicate_succ, List.flatten_cons, List.flatten_cons]
    exact hz.append ih

theorem cellsOfVals_noOw : ∀ {vs : List Value} {cs : List Cell}, cellsOfVals vs = some cs → noOw cs = true
  | [], cs, h => by simp [cellsOfVals] at h; subst h; rfl
  | v :: vs, cs, h => by
    unfold cellsOfVals at h
    split at h
    · rename_i c cs' hc hcs
      cases h
      have h2 := cellsOfVals_noOw hcs
      have h1 : c.isOw = false := by
        unfold Cell.ofVal at hc
        split at hc
        · cases hc; rfl
        · split at hc <;> cases hc; rfl
      simp [noOw, h1, h2]
    · cases h

theorem done_makeSlice (hH : RelH F H E) (hρ : RhoOk H E ρ ev) {o : Oper} {t : TypeId} {y x : Operand} (ho : o.op = .makeSlice t y x) {el : TypeId} (ht : P.underlying t = some (.slice el)) {ti : TypeInfo} (hti : P.info? el = some ti)
    {z : Value} (hz : ti.zero = some z) {zc : List Cell} (hzc : cellsOfVals z.cells.toList = some zc) (hsz : zc.length = ti.size) {n c : Nat} {kl kc : IntKind} {sy sx : Slot} (hy : ρ y = some sy) (hyv : sy.val? = some (.int kl n)) (hx : ρ x = some sx) (hxv : sx.val? = some (.int kc c)) (hnc : n ≤ c)
    (hb : ti.bytes * c ≤ 281474976710656) (h63 : c ≤ 9223372036854775807) {k : Nat} (hk : H.used k = false)
    (hq : Q (some (.v (.one (.own k)))) { H with rows := upd H.rows k (some ⟨ti.size, List.replicate n zc⟩), made := upd H.made k true }) : Done P F H E (execOp ev o) Q := by
  have h1 := im_ok hρ hy hyv
  have h2 := im_ok hρ hx hxv
  have hz' := RCs.ofVals (E := E) hzc
  have hrun := run_make (P := P) E.w t el ti z ht hti hz kl kc n c (by omega) (by omega) (by
    have h : ((ti.bytes * c : Nat) : Int) ≤ 281474976710656 := by omega
    rwa [Int.natCast_mul] at h) (by omega)
  simp only [Int.toNat_natCast] at hrun
  have hflat := madeCells_flat hz'.1 n
  refine done_newRow hH (r := ⟨ti.size, List.replicate n zc⟩) (cap := c) (cur := madeCells z.cells (c * ti.size)) (us := (madeCells z.cells (n * zc.length)).toList) (e := el) (w1 := E.w) ⟨rfl, rfl, rfl, rfl⟩ ?_ hk (by
      intro e he; rw [(List.mem_replicate.1 he).2, hsz]) ?_ (RXCs.of (pl_flat (pl_iff.2 fun e he => by rw [(List.mem_replicate.1 he).2]; exact cellsOfVals_noOw hzc)) hflat) List.nodup_nil (fun b hb => by cases hb) ?_ (by simpa using hnc) (by simp [size_madeCells]) hq
  · simp [execOp, ho, h1, h2, hrun]
  · refine Flat.iff.2 fun e he => ?_
    rw [(List.mem_replicate.1 he).2]
    exact ⟨cellsOfVals_clean hzc, hz'.2⟩
  · rw [hsz]
    have hle : n * ti.size ≤ c * ti.size := Nat.mul_le_mul_right _ hnc
    apply List.ext_getElem?
    intro q
    rw [List.getElem?_take]
    simp only [madeCells, Array.toList_map, Array.toList_range, List.getElem?_map, List.length_map, List.length_range]
    by_cases hq : q < n * ti.size
    · rw [if_pos hq, List.getElem?_range hq, List.getElem?_range (by omega)]
    · rw [if_neg hq, List.getElem?_eq_none (by simpa using hq)]; rfl
end
end Go.MG
