/- append; clear; bytes as a string. -/
import Derived.Test.YtbjbagemlclgcaaMgH
namespace Go.MG
set_option linter.unusedVariables false
set_option linter.unusedSimpArgs false
set_option linter.unnecessarySimpa false

theorem growBy_le (need : Nat) : ∀ n c, c < need → Builtin.growBy need n c ≤ 2 * need + 192
  | 0, c, h => by simp [Builtin.growBy]; omega
  | n + 1, c, h => by
    unfold Builtin.growBy
    rw [if_neg (by omega)]
    by_cases h2 : c + (c + 768) / 4 < need
    · exact growBy_le need n _ h2
    · have : Builtin.growBy need n (c + (c + 768) / 4) = c + (c + 768) / 4 := by
        cases n with
        | zero => rfl
        | succ n => unfold Builtin.growBy; rw [if_pos (by omega)]
      rw [this]; omega

theorem nextcap_le {need cap : Nat} (h : cap < need) : Builtin.nextslicecap need cap ≤ 2 * need + 192 := by
  unfold Builtin.nextslicecap
  split
  · omega
  · split
    · omega
    · exact growBy_le need 4 cap h

section
variable {P : Program} {F : Fix} {H : Heap} {E : Env} {ρ : Rho} {ev : Operand → Value} {Q : Option Slot → Heap → Prop}

def srcKind (P : Program) (tx : TypeId) (n : Nat) : Cell → Prop
  | .imm _ => P.underlying tx = some .string ∧ n = 1
  | _ => ∃ e', P.underlying tx = some (.slice e')

theorem rnames_sub {es : List (List Cell)} (h : rnames es = []) (lo n : Nat) : rnames ((es.drop lo).take n) = [] := by
  cases hq : rnames ((es.drop lo).take n) with
  | nil => rfl
  | cons j js =>
    obtain ⟨e, he, hj⟩ := mem_rnames.1 (show j ∈ rnames ((es.drop lo).take n) by rw [hq]; simp)
    have : j ∈ rnames es := mem_rnames.2 ⟨e, List.mem_of_mem_drop (List.mem_of_mem_take he), hj⟩
    rw [h] at this; cases this

theorem flat_src {E : Env} {tx e' : TypeId} (hk : P.underlying tx = some (.slice e')) {b o n cap sz : Nat} {es : List (List Cell)} (hr : RRow E b o sz es) (hn : es = [] ∨ sz = n) :
    ∃ news, Src P n tx (.slice (some ⟨b, o, none⟩) es.length cap) es.length news E.w ∧ RCs E es.flatten news := by
  obtain ⟨us, h1, h2, h3⟩ := hr.flat
  refine ⟨us, Src.ofSlice E.w hk _ _ cap us ?_ (fun j u hu => by rw [Addr.add_mid]; exact h3 j u hu) h1.one, h1⟩
  rcases hn with h | h
  · subst h; simp at h2 ⊢; exact h2
  · rw [← h]; exact h2

theorem RXRow.plain {E : Env} {b o sz : Nat} {es : List (List Cell)} {bs : List Nat} (hl : ∀ e ∈ es, e.length = sz) (hp : pl es = true) (h : RXRow E b o sz es bs) : RRow E b o sz es := by
  obtain ⟨us, h1, _, h3⟩ := h.flat
  exact RRow.of_flat hl (h1.plain (pl_flat hp)).1 h3

theorem content_ok (hH : RelH F H E) {c : Cell} {u : Value} (hc : RC E c u) {es : List (List Cell)} (he : H.content c = some es) {n : Nat} (hl : ∀ e ∈ es, e.length = n) {tx : TypeId} (hk : srcKind P tx n c) (hpl : pl es = true) :
    ∃ news, Src P n tx u es.length news E.w ∧ RCs E es.flatten news ∧ Flat es := by
  have nonempty : ∀ {es : List (List Cell)} {sz : Nat}, (∀ e ∈ es, e.length = n) → (∀ e ∈ es, e.length = sz) → es = [] ∨ sz = n := by
    intro es sz h1 h2
    cases es with
    | nil => exact .inl rfl
    | cons e es => exact .inr ((h2 e (by simp)).symm.trans (h1 e (by simp)))
  cases c with
  | nil =>
    simp [Heap.content] at he; subst he
    obtain ⟨e', hk⟩ := hk
    simp only [RC] at hc; subst hc
    exact ⟨[], Src.ofNil E.w hk 0, by simp [RCs], Flat.nil⟩
  | sl g ds =>
    simp only [Heap.content] at he
    cases he
    obtain ⟨e', hk⟩ := hk
    simp only [RC] at hc
    obtain ⟨hf, a, cap, rfl, hcap, h⟩ := hc
    rcases h with h | ⟨b, o, sz, rfl, hS, hr⟩
    · subst h
      cases a with
      | none => exact ⟨[], Src.ofNil E.w hk cap, by simp [RCs], Flat.nil⟩
      | some a => exact ⟨[], Src.ofSlice E.w hk a 0 cap [] (by simp) (fun j u hu => by simp at hu) (fun u hu => by cases hu), by simp [RCs], Flat.nil⟩
    · obtain ⟨news, s1, s2⟩ := flat_src (P := P) (n := n) (cap := cap) hk hr (nonempty hl (fun e he => by
        obtain ⟨i, hi⟩ := List.mem_iff_getElem?.1 he
        exact (hr.get i e hi).1))
      exact ⟨news, s1, s2.sub (Sub.uncap hH.SS g (fun _ => True)) (fun _ _ => trivial), hf⟩
  | own k =>
    simp only [Heap.content, Option.map_eq_some_iff] at he
    obtain ⟨r, hr, rfl⟩ := he
    obtain ⟨e', hk⟩ := hk
    obtain ⟨h1, h2, hd, h3, h4, h5⟩ := hH.rows k r hr
    simp only [RC] at hc
    have hu := hc.2 hd h3
    rcases h5 with ⟨h6, h7, h10⟩ | ⟨g, cap, bs0, h6, h7, h8, h9, h10⟩
    · rw [hu, h6, h7]
      exact ⟨[], Src.ofNil E.w hk 0, by simp [RCs], Flat.nil⟩
    · rw [hu, h6]
      obtain ⟨news, s1, s2⟩ := flat_src (P := P) (n := n) (cap := cap) hk (RXRow.plain h1 hpl h9) (nonempty hl h1)
      exact ⟨news, s1, s2, h2⟩
  | sub k lo m =>
    simp only [Heap.content, Option.map_eq_some_iff] at he
    obtain ⟨r, hr, rfl⟩ := he
    obtain ⟨e', hk⟩ := hk
    obtain ⟨h1, h2, hd, h3, h4, h5⟩ := hH.rows k r hr
    simp only [RC] at hc
    rcases hc.2 hd h3 with ⟨h6, rfl, rfl, hu⟩ | ⟨g, len, cap, a, h6, h7, h8, h9, _⟩
    · rw [hu, h6]
      exact ⟨[], by simpa using Src.ofNil E.w hk 0, by simp [RCs], by simpa using Flat.nil⟩
    · rcases h5 with ⟨h10, _⟩ | ⟨g', cap', bs0, h10, h11, h12, h13, h14⟩
      · rw [h10] at h6; cases h6
      · rw [h10] at h6; cases h6
        have hlen : ((r.es.drop lo).take m).length = m := by simp; omega
        rw [h8]
        rcases h9 with h9 | h9
        · subst h9
          exact ⟨[], by simpa using Src.ofSlice E.w hk a 0 (cap - lo) [] (by simp) (fun j u hu => by simp at hu) (fun u hu => by cases hu), by simp [RCs], by simpa using Flat.nil⟩
        · have hr' : RRow E g (0 + lo * r.sz) r.sz ((r.es.drop lo).take m) := by
            obtain ⟨us, f1, f2, f3⟩ := h13.flat
            obtain ⟨b1, p1, _⟩ := f1.part (lo * r.sz) (m * r.sz)
            have hfl : ((r.es.drop lo).take m).flatten = (r.es.flatten.drop (lo * r.sz)).take (m * r.sz) := by
              clear f1 f2 f3 p1 hl hpl h13 hlen h9 h7 h11 h2
              have hd : ∀ (es : List (List Cell)) (lo : Nat), (∀ e ∈ es, e.length = r.sz) → (es.drop lo).flatten = es.flatten.drop (lo * r.sz) := by
                intro es
                induction es with
                | nil => intro lo _; simp
                | cons a es ih =>
                  intro lo hs
                  cases lo with
                  | zero => simp
                  | succ lo =>
                    have ha : a.length = r.sz := hs a (by simp)
                    rw [List.drop_succ_cons, ih lo (fun e h => hs e (by simp [h])), List.flatten_cons, show (lo + 1) * r.sz = a.length + lo * r.sz by rw [Nat.add_mul, ha]; omega, drop_add]
              have ht : ∀ (es : List (List Cell)) (m : Nat), (∀ e ∈ es, e.length = r.sz) → (es.take m).flatten = es.flatten.take (m * r.sz) := by
                intro es
                induction es with
                | nil => intro m _; simp
                | cons a es ih =>
                  intro m hs
                  cases m with
                  | zero => simp
                  | succ m =>
                    have ha : a.length = r.sz := hs a (by simp)
                    rw [List.take_succ_cons, List.flatten_cons, ih m (fun e h => hs e (by simp [h])), List.flatten_cons, show (m + 1) * r.sz = a.length + m * r.sz by rw [Nat.add_mul, ha]; omega, take_add]
              rw [ht _ m (fun e he => h1 e (List.mem_of_mem_drop he)), hd _ lo h1]
            refine RRow.of_flat (us := (us.drop (lo * r.sz)).take (m * r.sz)) (fun e he => h1 e (List.mem_of_mem_drop (List.mem_of_mem_take he))) ?_ (by have := range_part f3 (lo * r.sz) (m * r.sz); simpa using this)
            rw [hfl]
            exact (p1.plain (by rw [← hfl]; exact pl_flat hpl)).1
          obtain ⟨news, s1, s2⟩ := flat_src (P := P) (n := n) (cap := cap - lo) hk hr' (nonempty hl (fun e he => h1 e (List.mem_of_mem_drop (List.mem_of_mem_take he))))
          refine ⟨news, ?_, s2, h2.part lo m⟩
          rw [h9, h4]
          rw [hlen] at s1 ⊢
          simpa using s1
  | imm v =>
    cases v <;> simp [Heap.content] at he
    rename_i s
    subst he
    obtain ⟨hk, rfl⟩ := hk
    simp only [RC] at hc
    rw [hc.1]
    refine ⟨byteCells s, by simpa [byteCells] using Src.ofString E.w hk s, ?_, ?_⟩
    · unfold byteCells
      generalize s.data.toList = l
      induction l with
      | nil => simp [RCs]
      | cons b l ih => simp only [List.map_cons, List.flatten_cons, List.cons_append, List.nil_append, RCs]; exact ⟨_, _, rfl, by simp [RC, isImm], ih⟩
    · refine Flat.iff.2 fun e he => ?_
      obtain ⟨b, _, rfl⟩ := List.mem_map.1 he
      exact ⟨rfl, rfl⟩
  | _ => simp [Heap.content] at he

/-- What is appended is told: its values, its cells, what they own. -/
theorem done_append' (hH : RelH F H E) {ev : Operand → Value} {o : Oper} {y x : Operand} {t tx : TypeId} (ho : o.op = .call { callee := .builtin .append, args := #[y, x], argTypes := #[t, tx] }) {el : TypeId} (ht : P.underlying t = some (.slice el)) {ti : TypeInfo} (hti : P.info? el = some ti)
    {z : Value} (hz : ti.zero = some z) (hzs : z.cells.size = ti.size) {c : Cell} (hvy : RSlot E (.v (.one c)) (ev y)) {H1 : Heap} {es1 es2 : List (List Cell)} (h1 : H.toGrow c = some (H1, es1)) {news : List Value} {bs2 : List Nat} (s1 : Src P ti.size tx (ev x) es2.length news E.w) (s2 : RXCs E es2.flatten news bs2) (s3 : Flat es2)
    (hb2 : bs2.Nodup) (hf2 : ∀ b ∈ bs2, (∀ c, ¬ E.S c b) ∧ (∀ j, ¬ Own E j b) ∧ b < E.w.heap.size ∧ (F.w0.heap.size ≤ b ∨ F.T b))
    (hl1 : ∀ k r, c = .own k → H.rows k = some r → r.sz = ti.size) (hl2 : ∀ e ∈ es2, e.length = ti.size) (hbig : (2 * (es1.length + es2.length) + 192) * ti.bytes ≤ 281474976710656) (h63 : es1.length + es2.length ≤ 4611686018427387904)
    {k : Nat} (hk : H.used k = false) (hq : Q (some (.v (.one (.own k)))) { H1 with rows := upd H1.rows k (some ⟨ti.size, es1 ++ es2⟩), made := upd H1.made k true }) : Done P F H E (execOp ev o) Q := by
  have hnl : news.length = es2.length * ti.size := s1.newsLen
  have hexec : ∀ w r w', (Builtin.append_ #[t, tx] o.type #[ev y, ev x]).run P w = .ok r w' → (execOp ev o).run P w = .ok (.value r) w' := by
    intro w r w' h
    simp [execOp, ho, resolve, invoke, builtin, h]
  -- where the row lies
  have key : ∃ base cap E1 olds bs1, ev y = .slice base es1.length cap ∧ E1.w = E.w ∧ RelH F H1 E1 ∧ Sub E E1 (fun k => H.used k = true) ∧ (∀ k, H.used k = H1.used k) ∧ RXCs E es1.flatten olds bs1 ∧ bs1.Nodup ∧ (∀ b ∈ bs1, (∀ c, ¬ E1.S c b) ∧ (∀ j, ¬ Own E1 j b) ∧ b < E.w.heap.size ∧ (F.w0.heap.size ≤ b ∨ F.T b)) ∧ (∀ b ∈ bs2, b ∉ bs1 ∧ (∀ c, ¬ E1.S c b) ∧ (∀ j, ¬ Own E1 j b)) ∧ olds.length = es1.length * ti.size ∧ Flat es1 ∧ (∀ e ∈ es1, e.length = ti.size) ∧ es1.length ≤ cap ∧
      ((base = none ∧ es1 = [] ∧ cap = 0) ∨ ∃ g, base = some ⟨g, 0, none⟩ ∧ E.w.rangeAt g 0 olds ∧ E.w.there g 0 (cap * ti.size) ∧ (∀ c, ¬ E1.S c g) ∧ (∀ j, ¬ Own E1 j g) ∧ g < E.w.heap.size ∧ (F.w0.heap.size ≤ g ∨ F.T g) ∧ g ∉ bs1 ∧ g ∉ bs2) := by
    cases c with
    | nil =>
      simp [Heap.toGrow] at h1
      obtain ⟨rfl, rfl⟩ := h1
      simp only [RSlot, RV, RC] at hvy
      exact ⟨none, 0, E, [], [], hvy, rfl, hH, Sub.refl _ _, fun _ => rfl, by simp [RXCs], List.nodup_nil, (fun b hb => by cases hb), (fun b hb => ⟨by simp, (hf2 b hb).1, (hf2 b hb).2.1⟩), by simp, Flat.nil, by simp, by simp, .inl ⟨rfl, rfl, rfl⟩⟩
    | own j =>
      simp only [Heap.toGrow, Option.map_eq_some_iff] at h1
      obtain ⟨r, hr, h⟩ := h1
      cases h
      obtain ⟨a1, a2, hd, a3, a4, a5⟩ := hH.rows j r hr
      obtain ⟨d1, d2⟩ := hH.dropRow j
      have d1 : RelH F { H with rows := upd H.rows j none, lens := upd H.lens j (some r.es.length) } (E.gone j) := d1.setLen (hH.usedR j (by rw [hr]; simp)) (by
        show ∃ a cap, E.hdr j = _
        rw [a3]
        rcases a5 with ⟨h6, h7, _⟩ | ⟨g, cap, _, h6, _⟩
        · exact ⟨none, 0, by rw [h6, h7]; rfl⟩
        · exact ⟨_, cap, by rw [h6]⟩)
      have hsz := hl1 j r rfl hr
      simp only [RSlot, RV, RC] at hvy
      have hu := hvy.2 hd a3
      rcases a5 with ⟨h6, h7, h10⟩ | ⟨g, cap, bs0, h6, h7, h8, h9, h10⟩
      · exact ⟨none, 0, E.gone j, [], [], by rw [hu, h6, h7]; rfl, rfl, d1, d2, fun _ => rfl, by simp [h7, RXCs], List.nodup_nil, (fun b hb => by cases hb), (fun b hb => ⟨by simp, (hf2 b hb).1, fun q hq => (hf2 b hb).2.1 q hq.drop⟩), by simp [h7], a2, by rw [← hsz]; exact a1, by simp [h7], .inl ⟨rfl, h7, rfl⟩⟩
      · have hf := hH.dropped (k := j) (g := g) hr (by rw [h10]; simp)
        have hnd := hH.nodup j
        rw [h10, List.nodup_cons] at hnd
        obtain ⟨us, f1, f2, f3⟩ := h9.flat
        exact ⟨_, cap, E.gone j, us, bs0, by rw [hu, h6], rfl, d1, d2, fun _ => rfl, f1, hnd.2, (fun b hb => hH.dropped (k := j) (g := b) hr (by rw [h10]; simp [hb])), (fun b hb => ⟨fun h => (hf2 b hb).2.1 j (.inl (by rw [h10]; simp [h])), (hf2 b hb).1, fun q hq => (hf2 b hb).2.1 q hq.drop⟩), by rw [← hsz]; exact f2, a2, by rw [← hsz]; exact a1, h7,
          .inr ⟨g, rfl, f3, by rw [← hsz]; exact h8, hf.1, hf.2.1, hf.2.2.1, hf.2.2.2, hnd.1, fun h => (hf2 g h).2.1 j (.inl (by rw [h10]; simp))⟩⟩
    | _ => simp [Heap.toGrow] at h1
  obtain ⟨base, cap, E1, olds, bs1, hey, hw1, hH1, hs1, hu1, hro, hnb1, hfb1, hfb2, holen, hro0, hel1, hcap, hbase⟩ := key
  have hk1 : H1.used k = false := by rw [← hu1]; exact hk
  have hflat : RXCs E1 (es1 ++ es2).flatten (olds ++ news) (bs1 ++ bs2) := by
    rw [List.flatten_append]
    have n1 : ∀ k ∈ cnames es1.flatten, H.used k = true := by
      intro j hj
      obtain ⟨c, hc, hj⟩ := mem_cnames.1 hj
      obtain ⟨e, he, hc⟩ := List.mem_flatten.1 hc
      have : j ∈ rnames es1 := mem_rnames.2 ⟨e, he, mem_cnames.2 ⟨c, hc, hj⟩⟩
      rw [hro0.2] at this; cases this
    have n2 : ∀ k ∈ cnames es2.flatten, H.used k = true := by
      intro j hj
      obtain ⟨c, hc, hj⟩ := mem_cnames.1 hj
      obtain ⟨e, he, hc⟩ := List.mem_flatten.1 hc
      have : j ∈ rnames es2 := mem_rnames.2 ⟨e, he, mem_cnames.2 ⟨c, hc, hj⟩⟩
      rw [s3.2] at this; cases this
    exact (RXCs.sub hs1 (fun _ _ => by rw [hw1]) n1 hro).append (RXCs.sub hs1 (fun _ _ => by rw [hw1]) n2 s2)
  have hndb : (bs1 ++ bs2).Nodup := List.nodup_append.2 ⟨hnb1, hb2, fun a ha b hb e => (hfb2 b hb).1 (e ▸ ha)⟩
  have hfrb : ∀ b ∈ bs1 ++ bs2, (∀ c, ¬ E1.S c b) ∧ (∀ j, ¬ Own E1 j b) ∧ b < E1.w.heap.size ∧ (F.w0.heap.size ≤ b ∨ F.T b) := fun b hb => by
    rw [hw1]
    rcases List.mem_append.1 hb with hb | hb
    · exact hfb1 b hb
    · exact ⟨(hfb2 b hb).2.1, (hfb2 b hb).2.2, (hf2 b hb).2.2⟩
  have hel : ∀ e ∈ es1 ++ es2, e.length = ti.size := fun e he => (List.mem_append.1 he).elim (hel1 e) (hl2 e)
  have hrn : Flat (es1 ++ es2) := hro0.append s3
  have usedNew : ∀ j, H.used j = true → Heap.used { H1 with rows := upd H1.rows k (some ⟨ti.size, es1 ++ es2⟩), made := upd H1.made k true } j = true := by
    intro j hj
    rw [hu1] at hj
    by_cases e : j = k
    · subst e; simp [Heap.used, upd_same]
    · simpa [Heap.used, upd_other _ _ e] using hj
  have namesNew : ∀ j ∈ Slot.names (.v (.one (.own k))), Heap.used { H1 with rows := upd H1.rows k (some ⟨ti.size, es1 ++ es2⟩), made := upd H1.made k true } j = true := by
    intro j hj
    simp [Slot.names, V.names, V.cells, cnames, Cell.names] at hj
    subst hj; simp [Heap.used, upd_same]
  by_cases hroom : es1.length + es2.length ≤ cap
  · -- in place
    rcases hbase with ⟨hb, he1, hc0⟩ | ⟨g, hb, hat, hth, hgS, hgO, hgs, hgT, hg1, hg2⟩
    · -- nothing there, nothing appended
      have hbs2 : True := trivial
      have he2 : es2 = [] := by cases es2 with | nil => rfl | cons e es => simp [hc0] at hroom
      subst he1; subst he2; subst hb; subst hc0
      have hnews : news = [] := by simpa using hnl
      subst hnews
      have hrun := run_append_nothing (P := P) E.w t tx o.type el ti ht hti none 0 0 (Nat.le_refl _) (ev x) s1
      obtain ⟨b1, b2⟩ := hH1.addRow (r := ⟨ti.size, []⟩) (hd := .slice none 0 0) hk1 (by simp) Flat.nil (bs := []) (.inl ⟨rfl, rfl, rfl⟩) List.nodup_nil (fun g hg => by cases hg)
      refine ⟨_, _, _, _, hexec _ _ _ (by rw [hey]; show _ = Result.ok (.slice none 0 0) E1.w; rw [hw1]; exact hrun), hq, b1, hs1.trans (sub_used hu1 b2), usedNew, _, rfl, ?_, namesNew⟩
      simp only [RSlot, RV, RC, Env.rowAt, upd_same]
      exact ⟨rfl, fun b hb => by cases hb; rfl⟩
    · subst hb
      have hin : es1.length * ti.size + news.length ≤ cap * ti.size := by
        rw [hnl, ← Nat.add_mul]; exact Nat.mul_le_mul_right _ hroom
      have hrun := run_append_room_src (P := P) E.w t tx o.type el ti ht hti g 0 es1.length cap (ev x) es2.length news s1 hroom (fun j hj => by have := (hth (0 + es1.length * ti.size + j) (by omega)).1; simpa using this) (fun j hj => by have := (hth (0 + es1.length * ti.size + j) (by omega)).2; simpa using this)
      have honly := setCells_only g news (0 + es1.length * ti.size) E.w
      have hchg : Chg F E1 (E.w.setCells g (0 + es1.length * ti.size) news) := by
        refine ⟨by rw [hw1]; exact honly.os, by rw [hw1]; exact honly.tape, by rw [hw1]; exact honly.output, by rw [hw1, honly.size]; exact Nat.le_refl _, fun b hb hne => ?_⟩
        have : b = g := Classical.byContradiction fun h => hne (by rw [hw1]; exact honly.block b h)
        subst this
        exact ⟨hgS, hgO, hgT⟩
      have hH2 := hH1.chg hchg
      have hs2 := Sub.chg hH1 hchg (fun k => H1.used k = true)
      have hat' : (E.w.setCells g (0 + es1.length * ti.size) news).rangeAt g 0 (olds ++ news) := by
        intro j v hv
        rw [List.getElem?_append] at hv
        split at hv
        · rename_i hlt
          rw [World.cell?_setCells_out g news _ E.w ⟨g, 0 + j, none⟩ (fun _ _ => .inl (by show 0 + j < _; omega))]
          exact hat j v hv
        · have hj : j - olds.length < news.length := (List.getElem?_eq_some_iff.1 hv).1
          have := World.cell?_setCells_in g news (0 + es1.length * ti.size) E.w (fun i hi => by have := hth (0 + es1.length * ti.size + i) (by omega); simpa using this.1) (j - olds.length) hj
          rw [show 0 + es1.length * ti.size + (j - olds.length) = 0 + j by omega] at this
          rw [this, ← hv, List.getElem?_eq_getElem hj]
      obtain ⟨b1, b2⟩ := hH2.addRow (r := ⟨ti.size, es1 ++ es2⟩) (hd := .slice (some ⟨g, 0, none⟩) (es1 ++ es2).length cap) hk1 hel hrn
        (bs := g :: (bs1 ++ bs2)) (.inr ⟨g, cap, bs1 ++ bs2, rfl, by simpa using hroom, World.there_setCells hth g _ _, RXRow.of_flat hel (RXCs.sub (Sub.chg hH1 hchg (fun _ => True)) (fun b hb => by rw [hw1]; exact honly.block b (fun e => by subst e; rcases List.mem_append.1 hb with h | h; exact hg1 h; exact hg2 h)) (fun _ _ => trivial) hflat) hat', rfl⟩)
        (List.nodup_cons.2 ⟨fun h => (List.mem_append.1 h).elim hg1 hg2, hndb⟩)
        (fun b hb => by
          rcases List.mem_cons.1 hb with rfl | hb
          · exact ⟨hgS, fun j hj => hgO j hj, by show b < (E.w.setCells _ _ _).heap.size; rw [honly.size]; exact hgs, hgT⟩
          · obtain ⟨f1, f2, f3, f4⟩ := hfrb b hb
            exact ⟨f1, fun j hj => f2 j hj, by show b < (E.w.setCells _ _ _).heap.size; rw [honly.size, ← hw1]; exact f3, f4⟩)
      refine ⟨_, _, _, _, hexec _ _ _ (by rw [hey]; exact hrun), hq, b1, hs1.trans ((sub_used hu1 hs2).trans (sub_used hu1 b2)), usedNew, _, rfl, ?_, namesNew⟩
      simp only [RSlot, RV, RC, Env.rowAt, upd_same]
      exact ⟨rfl, fun b hb => by cases hb; simp⟩
  · -- a new block
    have hold : (Builtin.firstCells ti.size es1.length (.slice base es1.length cap)).run P E.w.drew = .ok olds.toArray E.w.drew := by
      rcases hbase with ⟨hb, he1, hc0⟩ | ⟨g, hb, hat, _⟩
      · subst hb; subst he1
        have : olds = [] := by simpa using holen
        subst this
        exact run_firstCells_none E.w.drew _ _ _ _
      · subst hb
        exact run_firstCells_some E.w.drew ti.size es1.length ⟨g, 0, none⟩ es1.length cap olds holen (fun j v hv => by rw [Addr.add_mid]; simpa using hat j v hv)
    have hrun := run_append_grow_src (P := P) E.w t tx o.type el ti z ht hti hz base es1.length cap olds hold (ev x) es2.length news s1 (by omega) (by omega)
      (Nat.le_trans (Nat.mul_le_mul_right _ (nextcap_le (by omega))) hbig)
    have hge := grownCap_ge E.w (es1.length + es2.length) cap el
    refine Done.from hs1 hu1 hw1 (done_newRow hH1 (r := ⟨ti.size, es1 ++ es2⟩) (cap := grownCap E.w (es1.length + es2.length) cap el) (cur := (olds ++ news).toArray ++ Builtin.zeroCells z.cells (grownCap E.w (es1.length + es2.length) cap el - (es1.length + es2.length)))
      (us := olds ++ news) (e := el) (w1 := E.w.drew) ⟨by rw [hw1]; rfl, by rw [hw1]; rfl, by rw [hw1]; rfl, by rw [hw1]; rfl⟩ ?_ hk1 hel hrn hflat hndb hfrb ?_ (by simpa using hge) ?_ hq)
    · rw [hw1]
      exact hexec _ _ _ (by rw [hey]; simpa using hrun)
    · simp only [Array.toList_append, List.take_append, List.length_append]
      rw [List.take_of_length_le (by omega)]
      simp
    · simp only [Array.size_append, List.size_toArray, List.length_append, size_zeroCells, hzs, holen, hnl, ← Nat.add_mul]
      congr 1; omega

theorem done_append (hH : RelH F H E) (hρ : RhoOk H E ρ ev) {o : Oper} {y x : Operand} {t tx : TypeId} (ho : o.op = .call { callee := .builtin .append, args := #[y, x], argTypes := #[t, tx] }) {el : TypeId} (ht : P.underlying t = some (.slice el)) {ti : TypeInfo} (hti : P.info? el = some ti)
    {z : Value} (hz : ti.zero = some z) (hzs : z.cells.size = ti.size) {c cx : Cell} (hy : ρ y = some (.v (.one c))) (hx : ρ x = some (.v (.one cx))) {H1 : Heap} {es1 es2 : List (List Cell)} (h1 : H.toGrow c = some (H1, es1)) (h2 : H.content cx = some es2)
    (hl1 : ∀ k r, c = .own k → H.rows k = some r → r.sz = ti.size) (hl2 : ∀ e ∈ es2, e.length = ti.size) (hk2 : srcKind P tx ti.size cx) (hbig : (2 * (es1.length + es2.length) + 192) * ti.bytes ≤ 281474976710656) (h63 : es1.length + es2.length ≤ 4611686018427387904)
    {k : Nat} (hk : H.used k = false) (hpl : pl es2 = true) (hq : Q (some (.v (.one (.own k)))) { H1 with rows := upd H1.rows k (some ⟨ti.size, es1 ++ es2⟩), made := upd H1.made k true }) : Done P F H E (execOp ev o) Q := by
  obtain ⟨hvy, hny⟩ := hρ y _ hy
  obtain ⟨hvx, hnx⟩ := hρ x _ hx
  obtain ⟨news, s1, s2, s3⟩ := content_ok (P := P) hH (c := cx) hvx h2 hl2 hk2 hpl
  exact done_append' hH ho ht hti hz hzs hvy h1 s1 (RXCs.of (pl_flat hpl) s2) s3 List.nodup_nil (fun b hb => by cases hb) hl1 hl2 hbig h63 hk hq

/-- A row that is appended with all that it owns. -/
theorem done_appendN (hH : RelH F H E) (hρ : RhoOk H E ρ ev) {o : Oper} {y x : Operand} {t tx : TypeId} (ho : o.op = .call { callee := .builtin .append, args := #[y, x], argTypes := #[t, tx] }) {el e' : TypeId} (ht : P.underlying t = some (.slice el)) {ti : TypeInfo} (hti : P.info? el = some ti)
    {z : Value} (hz : ti.zero = some z) (hzs : z.cells.size = ti.size) {c : Cell} {kx : Nat} (hy : ρ y = some (.v (.one c))) (hx : ρ x = some (.v (.one (.own kx)))) {r : Row} (h2 : H.rows kx = some r) {H1 : Heap} {es1 : List (List Cell)} (h1 : Heap.toGrow { H with rows := upd H.rows kx none } c = some (H1, es1))
    (hl1 : ∀ k r, c = .own k → H.rows k = some r → r.sz = ti.size) (hl2 : r.sz = ti.size) (hk2 : P.underlying tx = some (.slice e')) (hbig : (2 * (es1.length + r.es.length) + 192) * ti.bytes ≤ 281474976710656) (h63 : es1.length + r.es.length ≤ 4611686018427387904)
    {k : Nat} (hk : H.used k = false) (hq : Q (some (.v (.one (.own k)))) { H1 with rows := upd H1.rows k (some ⟨ti.size, es1 ++ r.es⟩), made := upd H1.made k true }) : Done P F H E (execOp ev o) Q := by
  obtain ⟨hvy, hny⟩ := hρ y _ hy
  obtain ⟨hvx, hnx⟩ := hρ x _ hx
  obtain ⟨a1, a2, hd, a3, a4, a5⟩ := hH.rows kx r h2
  obtain ⟨d1, d2⟩ := hH.dropRow kx
  have hfr := fun b hb => hH.dropped (k := kx) (g := b) h2 hb
  simp only [RSlot, RV, RC] at hvx
  have hu := hvx.2 hd a3
  have key : ∃ news bs2, Src P ti.size tx (ev x) r.es.length news E.w ∧ RXCs E r.es.flatten news bs2 ∧ bs2.Nodup ∧ ∀ b ∈ bs2, b ∈ E.ob kx := by
    rcases a5 with ⟨h6, h7, h10⟩ | ⟨g, cap, bs0, h6, h7, h8, h9, h10⟩
    · rw [hu, h6, h7]
      exact ⟨[], [], Src.ofNil E.w hk2 0, by simp [RXCs], List.nodup_nil, fun b hb => by cases hb⟩
    · obtain ⟨us, f1, f2, f3⟩ := h9.flat
      have hnd := hH.nodup kx
      rw [h10, List.nodup_cons] at hnd
      rw [hu, h6]
      exact ⟨us, bs0, Src.ofSlice E.w hk2 _ _ cap us (by rw [← hl2]; exact f2) (fun j u hu => by rw [Addr.add_mid]; exact f3 j u hu) f1.one, f1, hnd.2, fun b hb => by rw [h10]; simp [hb]⟩
  obtain ⟨news, bs2, s1, s2, s3, s4⟩ := key
  have hnn : ∀ k ∈ cnames r.es.flatten, H.used k = true := by
    intro j hj
    obtain ⟨c, hc, hj⟩ := mem_cnames.1 hj
    obtain ⟨e, he, hc⟩ := List.mem_flatten.1 hc
    have : j ∈ rnames r.es := mem_rnames.2 ⟨e, he, mem_cnames.2 ⟨c, hc, hj⟩⟩
    rw [a2.2] at this; cases this
  refine Done.from d2 (fun _ => rfl) rfl (done_append' (E := E.gone kx) d1 ho ht hti hz hzs (c := c) (RSlot.sub d2 hny hvy) h1 s1 (RXCs.sub d2 (fun _ _ => rfl) hnn s2) a2 s3 (fun b hb => hfr b (s4 b hb)) (fun k r' hc hr' => ?_) (fun e he => by rw [← hl2]; exact a1 e he) hbig h63 hk hq)
  by_cases e : k = kx
  · subst e; simp [upd_same] at hr'
  · exact hl1 k r' hc (by simpa only [upd_other _ _ e] using hr')
end
end Go.MG
