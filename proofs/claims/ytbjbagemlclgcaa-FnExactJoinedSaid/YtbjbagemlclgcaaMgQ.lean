/- How a function's contract is shown of its body. -/
import Derived.Test.YtbjbagemlclgcaaMgP
namespace Go.MG

def heap0 (m : Nat) : Heap := ⟨fun _ => none, fun _ => none, m, fun _ => false, fun _ => none, fun _ => none⟩
def initH (args : List V) (outs : List (List Cell)) : Heap :=
  ((heap0 outs.length).internVs outs.length args).1.takeOuts (outs.length + (args.flatMap V.cells).length) (List.range outs.length) outs
def initS (args : List V) (m : Nat) : Nat → Option Slot := fun t => (((heap0 m).internVs m args).2[t]?).map .v

/-- What the end of a body has to show. -/
def Leaves (P : Program) (fn : Func) (m : Nat) (bks : List V) (Post : List V → List (List Cell) → List V → Prop) : Exit → St → Prop := fun e σ =>
  (e = .normal ∨ e = .ret) ∧ ∃ xs H1 H2 H3 res outs' bk, resAs P σ fn.results.toList = some xs ∧
    σ.H.passVs (fun k => if k < m then some k else none) [] (xs.map fun x => (true, x)) = some (H1, res) ∧ H1.innerVs bks = some (H2, bk) ∧ H2.giveOuts (List.range m) = some (H3, outs') ∧ Post res outs' bk
/-- The arguments whose memory is given back, as they are named at the begin. -/
def backArgs (m : Nat) (args : List V) (bp : List Nat) : List V := pickV bp ((heap0 m).internVs m args).2
/-- What keeps its name. -/
structure Pinned (F : Fix) (m : Nat) (hs : List V) : Prop where
  ob : F.ob.length = m
  oh : F.oh.map (·.1) = hs
theorem zip_fst : ∀ {xs : List V} {us : List Value}, us.length = xs.length → (xs.zip us).map (·.1) = xs
  | [], _, _ => by simp
  | x :: xs, [], h => by simp at h
  | x :: xs, u :: us, h => by simp [zip_fst (xs := xs) (us := us) (by simpa using h)]
theorem RVs.zip {E : Env} : ∀ {xs : List V} {us : List Value}, RVs E xs us → ∀ p ∈ xs.zip us, RV E p.1 p.2
  | [], us, h, p, hp => by simp at hp
  | x :: xs, us, h, p, hp => by
    obtain ⟨u, us', rfl, h1, h2⟩ := h
    rcases List.mem_cons.1 hp with rfl | hp
    · exact h1
    · exact RVs.zip h2 p hp
theorem RVs.unzip {E : Env} : ∀ {xs : List V} {us : List Value}, us.length = xs.length → (∀ p ∈ xs.zip us, RV E p.1 p.2) → RVs E xs us
  | [], us, hl, _ => by
    obtain rfl : us = [] := by simpa using hl
    rfl
  | x :: xs, [], hl, _ => by simp at hl
  | x :: xs, u :: us, hl, h => ⟨u, us, rfl, h (x, u) (by simp), RVs.unzip (by simpa using hl) fun p hp => h p (by simp [hp])⟩
theorem zip_names {N : Nat → Prop} : ∀ {xs : List V} {us : List Value}, us.length = xs.length → (∀ p ∈ xs.zip us, ∀ k ∈ p.1.names, N k) → ∀ x ∈ xs, ∀ k ∈ x.names, N k
  | [], us, hl, _, x, hx => by cases hx
  | y :: xs, [], hl, _, x, hx => by simp at hl
  | y :: xs, u :: us, hl, h, x, hx => by
    rcases List.mem_cons.1 hx with rfl | hx
    · exact h (x, u) (by simp)
    · exact zip_names (by simpa using hl) (fun p hp => h p (by simp [hp])) x hx
theorem pickU_length (bp : List Nat) (us : List Value) (xs : List V) : (pickU bp us).length = (pickV bp xs).length := by simp [pickU, pickV]

theorem RVs.length {E : Env} : ∀ {xs : List V} {us : List Value}, RVs E xs us → us.length = xs.length
  | [], us, h => by obtain rfl : us = [] := h; rfl
  | x :: xs, us, h => by obtain ⟨u, us', rfl, _, h2⟩ := h; simp [RVs.length h2]
theorem RVs.at {E : Env} : ∀ {xs : List V} {us : List Value} {t : Nat} {x : V}, RVs E xs us → xs[t]? = some x → ∃ u, us[t]? = some u ∧ RV E x u
  | [], us, t, x, h, hx => by simp at hx
  | y :: xs, us, t, x, h, hx => by
    obtain ⟨u, us', rfl, h1, h2⟩ := h
    cases t with
    | zero => simp at hx; subst hx; exact ⟨u, rfl, h1⟩
    | succ t => simpa using RVs.at h2 (by simpa using hx)
theorem RXOuts.length {E : Env} : ∀ {css : List (List Cell)} {ob bs : List Nat}, RXOuts E css ob bs → ob.length = css.length
  | [], ob, bs, h => by obtain ⟨rfl, _⟩ := h; rfl
  | c :: css, ob, bs, h => by obtain ⟨g, ob', us, b, bs', rfl, _, _, _, _, h4⟩ := h; simp [RXOuts.length h4]
theorem internVs_length : ∀ (xs : List V) (H : Heap) (k : Nat), (H.internVs k xs).2.length = xs.length
  | [], _, _ => rfl
  | x :: xs, H, k => by simp [Heap.internVs, internVs_length xs]

theorem used0 (m j : Nat) : (heap0 m).used j = decide (j < m) := Bool.or_false _

theorem Holds.intro {P : Program} {f : FuncId} {fn : Func} {c : Code} {args : List V} {outs : List (List Cell)} {bp : List Nat} {Post : List V → List (List Cell) → List V → Prop} (hbp : ∀ i ∈ bp, i < args.length) (hf : P.funcs[f]? = some fn) (hb : fn.body = some c) (hn : args.length ≤ fn.ntmps)
    (hc : ∀ cs ∈ outs, cclean cs = true ∧ cnames cs = []) (hnm : ∀ j ∈ args.flatMap V.names, j < outs.length)
    (h : ∀ F : Fix, F.n = fn.ntmps → Pinned F outs.length (backArgs outs.length args bp) → WpC P F c (Leaves P fn outs.length (backArgs outs.length args bp) Post) ⟨initS args outs.length, initH args outs⟩) : Holds P f args outs bp Post := by
  intro w S us ob bs obs hi
  let E0 : Env := envI w S ob
  let F : Fix := ⟨w, (· ∈ bs ++ obs ++ ob), S, fn.ntmps, ob, (backArgs outs.length args bp).zip (pickU bp us)⟩
  have hob : ob.length = outs.length := hi.outs.length
  have h0 : RelH F (heap0 outs.length) E0 := by
    refine ⟨fun k r hr => (by cases hr), fun k cs hr => (by cases hr), fun _ _ => rfl, fun _ _ => rfl, fun _ => .inl rfl, fun k k' b hk => ?_, fun k b hk => ?_, hi.bnd, hi.cls, fun g b hb => .inl hb, fun g b hb => hb, fun k g hk => (by cases hk), ⟨rfl, rfl, rfl, Nat.le_refl _, fun _ _ _ => rfl⟩, fun k hk => absurd rfl hk, fun k cs hk => (by cases hk), fun k => List.nodup_nil, fun k n hk => (by cases hk), fun k n hk => (by cases hk)⟩
    · rcases hk with hk | hk <;> cases hk
    · rcases hk with hk | hk <;> cases hk
  have hfree : ∀ b, b ∈ bs ++ obs ++ ob → (∀ c, ¬ E0.S c b) ∧ (∀ k, ¬ Own E0 k b) ∧ b < E0.w.heap.size ∧ (F.w0.heap.size ≤ b ∨ F.T b) := by
    intro b hb
    have := hi.own b hb
    exact ⟨this.2, fun k hk => (by rcases hk with hk | hk <;> cases hk), this.1, .inr hb⟩
  have hnd := hi.nodup
  rw [List.append_assoc] at hnd
  obtain ⟨hnd1, hnd2, hnd3⟩ := List.nodup_append.1 hnd
  cases hiv : (heap0 outs.length).internVs outs.length args with
  | mk H1 args' =>
    obtain ⟨E1, T1, q1, q2⟩ := intern_Vs (k := outs.length) h0 (fun j hj _ => by rw [used0]; exact decide_eq_false (by omega)) hi.args (fun j hj => by rw [used0]; exact decide_eq_true (hnm j hj))
      (fun b hb => hfree b (by simp [hb])) hnd1 hiv
    have hfr : Free F E1 (obs ++ ob) := T1.free (fun b hb hb' => hnd3 b hb' b hb rfl) (fun b hb => hfree b (by rw [List.append_assoc]; exact List.mem_append_right _ hb))
    have hsame := fun j hj => internVs_same args (heap0 outs.length) outs.length j hj
    rw [hiv] at hsame
    obtain ⟨E2, t1, t2, t3, t4, t5, _⟩ := take_outs (k0 := outs.length + (args.flatMap V.cells).length) (ks := List.range outs.length) (Eo := E0) T1.rel (by simp) (by simp [hob]) hi.outs T1.w.symm
      ⟨fun b hb => by rw [T1.S]; exact hb, fun b hb => by rw [T1.w], fun _ h => h.elim, fun _ h => h.elim, fun _ h => h.elim⟩ hc
      (fun j hj hj' => by
        cases hu : H1.used j with
        | false => rfl
        | true =>
          rcases T1.down j hu with h | h
          · rw [used0] at h; have := of_decide_eq_true h; omega
          · omega)
      (fun k hk => by
        rw [List.mem_range] at hk
        exact ⟨T1.up k (by rw [used0]; exact decide_eq_true hk), by rw [hsame k (.inl hk)]; rfl⟩)
      (fun i k hik => by
        obtain ⟨hlt, e⟩ := List.getElem?_eq_some_iff.1 hik
        simp at e hlt; subst e
        rw [T1.pt i (by rw [used0]; exact decide_eq_true hlt)]; rfl)
      hfr hnd2
    have hlen : us.length = args.length := by
      rw [q1.length]
      have := internVs_length args (heap0 outs.length) outs.length
      rw [hiv] at this; exact this
    have hS : RelS F (initS args outs.length) (initH args outs) { tmps := us.toArray ++ Array.replicate (fn.ntmps - us.toArray.size) undef, defers := [] } E2 := by
      have hH1 : initH args outs = H1.takeOuts (outs.length + (args.flatMap V.cells).length) (List.range outs.length) outs := by simp [initH, hiv]
      have hslot : ∀ t s, initS args outs.length t = some s → ∃ x, args'[t]? = some x ∧ s = .v x := by
        intro t s hs
        simp only [initS, hiv, Option.map_eq_some_iff] at hs
        obtain ⟨x, hx, rfl⟩ := hs
        exact ⟨x, hx, rfl⟩
      have hnam : ∀ {t : Nat} {x : V}, args'[t]? = some x → ∀ k ∈ x.names, H1.used k = true := fun hx k hk => q2 k (List.mem_flatMap.2 ⟨_, List.mem_of_getElem? hx, hk⟩)
      refine ⟨?_, rfl, fun t s hs => ?_, fun t s hs k hk => ?_⟩
      · simp [F]; omega
      · obtain ⟨x, hx, rfl⟩ := hslot t s hs
        obtain ⟨u, hu, hr⟩ := q1.at hx
        have : (us.toArray ++ Array.replicate (fn.ntmps - us.toArray.size) undef).getD t undef = u := by
          rw [Array.getD_eq_getD_getElem?, Array.getElem?_append, if_pos (by simpa using (List.getElem?_eq_some_iff.1 hu).1)]
          simp [hu]
        simp only [this]
        exact RSlot.sub (x := .v x) t4 (fun k hk => hnam hx k hk) hr
      · obtain ⟨x, hx, rfl⟩ := hslot t s hs
        rw [hH1]
        exact t5 k (hnam hx k hk)
    have hargs' : args'.length = args.length := by
      have := internVs_length args (heap0 outs.length) outs.length
      rw [hiv] at this; exact this
    have hbk : backArgs outs.length args bp = pickV bp args' := by unfold backArgs; rw [hiv]
    have hpl : (pickU bp us).length = (backArgs outs.length args bp).length := pickU_length _ _ _
    have hq : RVs E1 (backArgs outs.length args bp) (pickU bp us) := by rw [hbk]; exact q1.pick fun i hi => by rw [hargs']; exact hbp i hi
    have hqn : ∀ p ∈ (backArgs outs.length args bp).zip (pickU bp us), ∀ k ∈ p.1.names, H1.used k = true := by
      intro p hp k hk
      have h1 : p.1 ∈ backArgs outs.length args bp := by
        have := List.mem_map_of_mem (f := Prod.fst) hp
        rwa [zip_fst hpl] at this
      rw [hbk] at h1
      obtain ⟨i, hi, e⟩ := List.mem_map.1 h1
      have hlt : i < args'.length := by rw [hargs']; exact hbp i hi
      refine q2 k (List.mem_flatMap.2 ⟨p.1, ?_, hk⟩)
      rw [← e, List.getD_eq_getElem?_getD, List.getElem?_eq_getElem hlt]
      exact List.getElem_mem hlt
    have hP : Pin F (initH args outs) E2 := by
      refine ⟨fun k hk => ?_, fun p hp => ⟨RV.sub t4 (hqn p hp) (hq.zip p hp), fun k hk => by
        have := t5 k (hqn p hp k hk)
        simpa [initH, hiv] using this⟩⟩
      have hk' : k < outs.length := by rw [← hob]; exact hk
      have hu0 : (heap0 outs.length).used k = true := by rw [used0]; exact decide_eq_true hk'
      have hu := T1.up k hu0
      refine ⟨by simpa [initH, hiv] using t5 k hu, fun g hg => ?_⟩
      have := t4.pt k hu g hg
      rw [T1.pt k hu0] at this
      exact this
    have hwp := h F rfl ⟨hob, zip_fst hpl⟩ { tmps := us.toArray ++ Array.replicate (fn.ntmps - us.toArray.size) undef, defers := [] } w
      ⟨E2, t1.trans T1.w, by simpa [initH, hiv] using t3, hS, hP⟩
    refine calls_of_wp hf hb (wp_mono hwp ?_)
    rintro e a' w' ⟨σ, ⟨he, xs, G1, G2, G3, res, outs', bk, hres, hpass, hback, hgive, hpost⟩, E, rfl, hH, hS, hP⟩
    obtain ⟨rs, r1, r2, r3⟩ := results_ok hH hS hres
    have fin : a'.defers = [] ∧ ∃ v, (results fn a'.tmps).run P E.w = .ok v E.w ∧
        ∃ res outs' bk S' us' bs' obs', Post res outs' bk ∧ OutOk w S (bs ++ obs ++ ob) ob res bk outs' (.returned v) E.w S' us' (pickU bp us) bs' obs' := by
      refine ⟨hS.defers, _, r1, ?_⟩
      have hids : (xs.map fun x => (true, x)).map (·.2) = xs := by simp [List.map_map, Function.comp_def]
      obtain ⟨E3, b3, V3, hX⟩ := pass_Vs hH hpass (by rw [hids]; exact r2) (fun p hp j hj => by
        obtain ⟨x, hx, rfl⟩ := List.mem_map.1 hp
        exact r3 j (List.mem_flatMap.2 ⟨x, hx, hj⟩))
      have hP2 : RVs E (backArgs outs.length args bp) (pickU bp us) := RVs.unzip hpl fun p hp => (hP.2 p hp).1
      have hP3 := zip_names (N := fun k => σ.H.used k = true) hpl fun p hp => (hP.2 p hp).2
      obtain ⟨E5, b5, V5, hX5⟩ := inner_Vs V3.rel hback (hP2.sub V3.sub (fun j hj => by
        obtain ⟨x, hx, hj⟩ := List.mem_flatMap.1 hj
        exact hP3 x hx j hj)) (fun x hx j hj => by rw [← V3.used]; exact hP3 x hx j hj)
      have V35 := V3.trans V5
      obtain ⟨E4, ob4, obs4, V4, k1, k2, k3, k4, k5, k6⟩ := give_outs V5.rel hgive
      have V := V35.trans V4
      have hpin : ∀ k, k < outs.length → ∃ g, E5.blk k = some g ∧ E.pt k = some g ∧ ob[k]? = some g := by
        intro k hk
        have hb := k1 k (by simp [hk])
        cases hbx : G2.boxes k with
        | none => exact absurd hbx hb
        | some cs =>
          obtain ⟨g, us, h1, _⟩ := V5.rel.boxes k cs hbx
          have h2 := V5.rel.pt k g h1
          rw [V35.pt] at h2
          exact ⟨g, h1, h2, (hP.1 k (by show k < ob.length; omega)).2 g h2⟩
      have hobe : ob4 = ob := by
        apply List.ext_getElem?
        intro k
        by_cases hk : k < outs.length
        · obtain ⟨g, h1, h2, h3⟩ := hpin k hk
          have := k5 k k (by simp [hk])
          rw [← this, h1, h3]
        · rw [List.getElem?_eq_none (by rw [k3]; simp; omega), List.getElem?_eq_none (by omega)]
      subst hobe
      have hXr := hX (envI E.w E.S ob4) ⟨rfl, fun _ _ h => h, fun k hk => (by cases hk), fun k i hki b hb => by
        split at hki
        · rename_i hlt
          cases hki
          obtain ⟨g, h1, h2, h3⟩ := hpin k hlt
          have hb' : ob4[k]? = some b := hb
          rw [h3] at hb'; cases hb'
          exact h2
        · cases hki⟩
      refine ⟨res, outs', bk, E.S, rs, b3 ++ b5, obs4, hpost, rfl, hXr.len, ⟨hXr.join (hX5 _ V3.w.symm (fun g b h => by rw [V3.S] at h; exact h)), k6 _ V35.w.symm (fun g b h => by rw [V35.S] at h; exact h), by rw [List.append_assoc]; exact V.nodup, fun b hb => ?_, hH.S, hH.SS⟩, fun b hb => ?_, hH.Ssup, fun g b hb => ?_, hH.fr⟩
      · rw [List.append_assoc] at hb
        obtain ⟨k, hk⟩ := V.was b hb
        have := hH.own k b hk
        exact ⟨this.2.1, this.1⟩
      · obtain ⟨k, hk⟩ := V.was b (by simp only [List.mem_append] at hb ⊢; rcases hb with hb | hb; exact .inl hb; exact .inr (.inl hb))
        exact (hH.own k b hk).2.2.symm
      · exact hH.Ssub g b hb
    rcases he with rfl | rfl
    · exact fin
    · exact fin
end Go.MG
