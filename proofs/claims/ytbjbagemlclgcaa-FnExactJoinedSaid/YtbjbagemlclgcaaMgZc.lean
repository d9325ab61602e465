/- Structs that are compared; rows whose elements bear slices. -/
import Derived.Test.YtbjbagemlclgcaaMgZb
namespace Go.MG
set_option linter.unusedSimpArgs false
set_option linter.unusedVariables false
set_option linter.unnecessarySimpa false

/-! ### rows that are told in another way -/
/-- An empty slice that is nowhere, told as the other cell would have it. -/
def nlTo : Cell → Cell → Cell
  | .nil, .ow sz [] => .ow sz []
  | .nil, _ => .sl true []
  | c, _ => c
theorem RXCs.nl {E : Env} : ∀ {cs ds : List Cell} {us : List Value} {bs : List Nat}, ds.length = cs.length → RXCs E cs us bs → RXCs E (List.zipWith nlTo cs ds) us bs
  | [], [], _, _, _, h => h
  | [], _ :: _, _, _, hl, _ => by simp at hl
  | _ :: _, [], _, _, hl, _ => by simp at hl
  | c :: cs, d :: ds, _, _, hl, h => by
    simp only [RXCs, List.zipWith_cons_cons] at h ⊢
    obtain ⟨u, us', b, bs', h0, h0', h1, h2⟩ := h
    refine ⟨u, us', b, bs', h0, h0', ?_, RXCs.nl (by simpa using hl) h2⟩
    have nl : RXC E .nil u b → RXC E (.sl true []) u b := fun h => (RXC.iff rfl).2 (((RXC.iff rfl).1 h).imp RC.nil_sl id)
    cases c with
    | nil =>
      cases d with
      | ow sz es =>
        cases es with
        | nil =>
          simp only [nlTo, RXC]
          have := (RXC.iff rfl).1 h1
          simp only [RC] at this
          exact ⟨by simp, Flat.nil, .inl ⟨this.1, trivial, this.2⟩⟩
        | cons _ _ => exact nl h1
      | _ => exact nl h1
    | _ => exact h1
section
variable {F : Fix}
theorem Heap.newRow_setRow {H : Heap} {q : Nat} {r r' : Row} : (H.newRow q r).setRow q r' = H.newRow q r' := by
  unfold Heap.setRow Heap.newRow
  congr 1
  funext k
  by_cases e : k = q
  · subst e; simp [upd_same]
  · simp [upd_other _ _ e]
theorem RXRow.conv {E : Env} {b sz : Nat} : ∀ {es es' : List (List Cell)} {o : Nat} {bs : List Nat}, es'.length = es.length → (∀ e ∈ es', e.length = sz) → (∀ (i : Nat) (e e' : List Cell), es[i]? = some e → es'[i]? = some e' → ∀ us b1, RXCs E e us b1 → RXCs E e' us b1) → RXRow E b o sz es bs → RXRow E b o sz es' bs
  | [], [], _, _, _, _, _, h => h
  | [], _ :: _, _, _, hl, _, _, _ => by simp at hl
  | _ :: _, [], _, _, hl, _, _, _ => by simp at hl
  | e :: es, e' :: es', o, bs, hl, hs, hr, h => by
    simp only [RXRow] at h ⊢
    obtain ⟨us, b1, b2, h0, h1, h2, h3, h4⟩ := h
    exact ⟨us, b1, b2, h0, hs e' (by simp), hr 0 e e' rfl rfl us b1 h2, h3, RXRow.conv (by simpa using hl) (fun x hx => hs x (by simp [hx])) (fun i x y hx hy => hr (i + 1) x y (by simpa using hx) (by simpa using hy)) h4⟩
theorem Le.reRow {sl : Nat → Option Slot} {H : Heap} {sz : Nat} {es es' : List (List Cell)} (q : Nat) (hb : H.rows q = some ⟨sz, es⟩) (hl : es'.length = es.length) (hs : ∀ e ∈ es', e.length = sz) (hf : Flat es')
    (hr : ∀ (E : Env) (i : Nat) (e e' : List Cell), es[i]? = some e → es'[i]? = some e' → ∀ us b1, RXCs E e us b1 → RXCs E e' us b1) : Le F ⟨sl, H⟩ ⟨sl, H.setRow q ⟨sz, es'⟩⟩ := by
  rintro a w ⟨E, rfl, hH, hS, hP⟩
  have hH : RelH F H E := hH
  refine ⟨E, rfl, ⟨fun j r hj => ?_, hH.boxes, fun j hj => ?_, hH.blk0, fun j => ?_, hH.uniq, hH.own, hH.S, hH.SS, hH.Ssub, hH.Ssup, hH.pt, hH.fr, fun j hj => ?_, hH.usedB, hH.nodup, hH.lens, hH.hv⟩, ⟨hS.size, hS.defers, hS.slots, hS.used⟩, hP⟩
  · by_cases e : j = q
    · subst e
      have hj : upd H.rows j (some ⟨sz, es'⟩) j = some r := hj
      rw [upd_same] at hj; cases hj
      obtain ⟨h1, h2, hd, h3, h4, h5⟩ := hH.rows j _ hb
      refine ⟨hs, hf, hd, h3, h4, ?_⟩
      rcases h5 with ⟨h6, h7, h10⟩ | ⟨g, cap, bs0, h6, h7, h8, h9, h10⟩
      · refine .inl ⟨h6, ?_, h10⟩
        have h7 : es = [] := h7
        rw [h7] at hl
        exact List.eq_nil_of_length_eq_zero hl
      · exact .inr ⟨g, cap, bs0, by rw [h6]; simp [hl], by simpa [hl] using h7, h8, RXRow.conv hl hs (fun i e e' => hr E i e e') h9, h10⟩
    · have hj : upd H.rows q (some ⟨sz, es'⟩) j = some r := hj
      rw [upd_other _ _ e] at hj
      exact hH.rows j r hj
  · by_cases e : j = q
    · subst e
      have hj : upd H.rows j (some ⟨sz, es'⟩) j = none := hj
      rw [upd_same] at hj; cases hj
    · have hj : upd H.rows q (some ⟨sz, es'⟩) j = none := hj
      rw [upd_other _ _ e] at hj
      exact hH.hdr0 j hj
  · by_cases e : j = q
    · subst e
      rcases hH.both j with h | h
      · rw [hb] at h; cases h
      · exact .inr h
    · rcases hH.both j with h | h
      · left
        show upd H.rows q (some ⟨sz, es'⟩) j = none
        rw [upd_other _ _ e]; exact h
      · exact .inr h
  · by_cases e : j = q
    · subst e
      exact hH.usedR j (by rw [hb]; simp)
    · have hj : upd H.rows q (some ⟨sz, es'⟩) j ≠ none := hj
      rw [upd_other _ _ e] at hj
      exact hH.usedR j hj
end

section
variable {P : Program} {F : Fix} {ops : Array Oper} {Q : St → Prop} {N : Nat}
variable {dst : Option Nat} {ty : TypeId} {pos : String} {aft : Array Edge} {grd : Option (Nat × Bool)} {rest : List Oper} {sl : Nat → Option Slot} {H : Heap}

theorem L.makeSliceN {α : Type} {e : α → List Cell} {t el : TypeId} {y x : Operand} {ti : TypeInfo} {z : Value} {zc : List Cell} {kl kc : IntKind} {n c : Int} (q : Nat) (za : α) (ht : P.underlying t = some (.slice el)) (hti : P.info? el = some ti) (hz : ti.zero = some z) (hzc : cellsOfVals z.cells.toList = some zc)
    (hsz : zc.length = ti.size) (hn : F.n = N) (hg : guardOf ops sl ⟨dst, .makeSlice t y x, ty, pos, aft, grd⟩ = some true) (hd : dstB N dst = true) (hy : opnd sl y = some (im (.int kl n))) (hx : opnd sl x = some (im (.int kc c)))
    (hb : 0 ≤ n ∧ n ≤ c ∧ ti.bytes * c ≤ 281474976710656 ∧ c ≤ 9223372036854775807) (hq : H.used q = false) (hza : List.zipWith nlTo zc (e za) = e za) (hfl : cclean (e za) = true ∧ cnames (e za) = [])
    (k : WpL P F ops Q rest ⟨setD sl dst (some (.v (.one (.own q)))), (Heap.newRow H q ⟨ti.size, (List.replicate n.toNat za).map e⟩)⟩) (hlz : (e za).length = zc.length := by exact rfl) : WpL P F ops Q (⟨dst, .makeSlice t y x, ty, pos, aft, grd⟩ :: rest) ⟨sl, H⟩ := by
  refine L.makeSlice (e := fun _ : Unit => zc) q () ht hti hz hzc hsz hn hg hd hy hx hb hq rfl (L.le ?_ k)
  rw [show H.newRow q ⟨ti.size, (List.replicate n.toNat za).map e⟩ = (H.newRow q ⟨ti.size, (List.replicate n.toNat ()).map fun _ => zc⟩).setRow q ⟨ti.size, (List.replicate n.toNat za).map e⟩ from Heap.newRow_setRow.symm]
  refine Le.reRow (sl := setD sl dst (some (.v (.one (.own q))))) (H := H.newRow q ⟨ti.size, (List.replicate n.toNat ()).map fun _ => zc⟩) (sz := ti.size) (es := (List.replicate n.toNat ()).map fun _ => zc) (es' := (List.replicate n.toNat za).map e) q (by show upd _ q _ q = _; rw [upd_same]) (by rw [List.length_map, List.length_map, List.length_replicate, List.length_replicate]) (fun e' he' => ?_) (Flat.iff.2 fun e' he' => ?_) (fun E i e1 e2 h1 h2 us b1 hr => ?_)
  · obtain ⟨a, ha, rfl⟩ := List.mem_map.1 he'
    rw [(List.mem_replicate.1 ha).2, hlz, hsz]
  · obtain ⟨a, ha, rfl⟩ := List.mem_map.1 he'
    rw [(List.mem_replicate.1 ha).2]
    exact hfl
  · rw [List.getElem?_map] at h1 h2
    obtain ⟨_, _, rfl⟩ := Option.map_eq_some_iff.1 h1
    obtain ⟨a, ha, rfl⟩ := Option.map_eq_some_iff.1 h2
    have := List.mem_of_getElem? ha
    rw [(List.mem_replicate.1 this).2, ← hza]
    exact RXCs.nl hlz hr

/-! ### structs that are compared -/
def partV (P : Program) (fd : Field) (xs : List Value) : Option Value :=
  match shape P fd.type with
  | some (ag, n) => let us := (xs.drop fd.offset).take n
    if ag then (if us.length = n then some (.agg us.toArray) else none) else match us with | [v] => some v | _ => none
  | none => none
def eqFs (f : TypeId → Value → Value → Option Bool) (P : Program) : List Field → List Value → List Value → Option Bool
  | [], _, _ => some true
  | fd :: fs, xs, ys => if fd.name = "_" then none else
    match partV P fd xs, partV P fd ys with
    | some a, some b => match f fd.type a b, eqFs f P fs xs ys with
      | some r, some r' => some (r && r')
      | _, _ => none
    | _, _ => none
def eqIn (P : Program) : Nat → TypeId → Value → Value → Option Bool
  | 0, _, _, _ => none
  | d + 1, t, a, b => match P.underlying t, a, b with
    | some (.int _), .int k x, .int k' y => if k = k' then some (x == y) else none
    | some .bool, .bool x, .bool y => some (x == y)
    | some .string, .string x, .string y => some (x.toList == y.toList)
    | some (.struct fs), .agg xs, .agg ys => if P.stoodInHeld t then none else eqFs (eqIn P d) P fs.toList xs.toList ys.toList
    | _, _, _ => none

theorem partV_ok {fd : Field} {xs : Array Value} {v : Value} (h : partV P fd xs.toList = some v) (w : World) : (part fd.type xs fd.offset).run P w = .ok v w := by
  unfold partV at h
  split at h
  · rename_i ag n hs
    obtain ⟨d, i, h1, h2, h3, h4⟩ := shape_some hs
    have hag : (isAgg fd.type).run P w = .ok ag w := by rw [run_isAgg h1, h2]
    have hsz : (sizeOf fd.type).run P w = .ok n w := by simp [sizeOf, typeInfo, h3, h4]
    dsimp only at h
    cases ag with
    | true =>
      simp only [if_true] at h
      split at h
      · rename_i hl
        cases h
        have e : xs.extract fd.offset (fd.offset + n) = ((xs.toList.drop fd.offset).take n).toArray := by
          apply Array.ext'
          simp
        simp [part, hag, hsz, e]
      · cases h
    | false =>
      simp only [Bool.false_eq_true, if_false] at h
      split at h
      · rename_i v' hv
        cases h
        have : xs[fd.offset]? = some v := by
          have h0 : ((xs.toList.drop fd.offset).take n)[0]? = some v := by rw [hv]; rfl
          rw [List.getElem?_take] at h0
          split at h0
          · rw [List.getElem?_drop] at h0
            simpa using h0
          · cases h0
        simp [part, hag, this]
      · cases h
  · cases h

theorem eqFs_ok {d : Nat} (f : TypeId → Value → Value → Option Bool) (hf : ∀ t a b r, f t a b = some r → ∀ w, (Op.equalIn d t a b).run P w = .ok r w) : ∀ {fs : List Field} {xs ys : Array Value} {r : Bool}, eqFs f P fs xs.toList ys.toList = some r → ∀ w, (Op.eqFields d xs ys fs).run P w = .ok r w
  | [], xs, ys, r, h, w => by
    simp only [eqFs, Option.some.injEq] at h
    subst h
    simp [Op.eqFields]
  | fd :: fs, xs, ys, r, h, w => by
    unfold eqFs at h
    split at h
    · cases h
    · rename_i hn
      split at h
      · rename_i a b ha hb
        split at h
        · rename_i r1 r2 h1 h2
          cases h
          have e1 := partV_ok ha w
          have e2 := partV_ok hb w
          have e3 := hf _ _ _ _ h1 w
          have e4 := eqFs_ok f hf h2 w
          unfold Op.eqFields
          rw [if_pos hn]
          simp only [Sem.run_bind, e1, e2, e3, Result.andThen_ok]
          cases r1 with
          | false => simp
          | true => simp [e4]
        · cases h
      · cases h

theorem eqIn_ok : ∀ (d : Nat) (t : TypeId) (a b : Value) (r : Bool), eqIn P d t a b = some r → ∀ w, (Op.equalIn d t a b).run P w = .ok r w
  | 0, _, _, _, _, h, _ => by cases h
  | d + 1, t, a, b, r, h, w => by
    unfold eqIn at h
    split at h
    · rename_i hu
      split at h
      · rename_i hk
        subst hk
        cases h
        exact run_equalIn_int w d t _ _ _ _ hu
      · cases h
    · rename_i hu
      cases h
      exact run_equalIn_bool' w d t _ _ hu
    · rename_i hu
      cases h
      exact run_equalIn_string w d t _ _ hu
    · rename_i fs xs ys hu
      split at h
      · cases h
      · rename_i hst
        have hst : P.stoodInHeld t = false := by simpa using hst
        have hfo : P.fieldsOf t = fs := by unfold Program.fieldsOf; rw [hu]
        rw [run_equalIn_agg w d t xs ys (by rw [hfo]; exact hu) hst, hfo]
        exact eqFs_ok (eqIn P d) (fun t a b r h w => eqIn_ok d t a b r h w) h w
    · cases h

theorem agg_vals {E : Env} {ev : Operand → Value} (hρ : RhoOk H E (opnd sl) ev) {x : Operand} {cs : List Cell} {us : List Value} (hx : opnd sl x = some (.v (.agg cs))) (hu : cellVals cs = some us) : ev x = .agg us.toArray := by
  obtain ⟨⟨vs, h1, h2⟩, _⟩ := hρ x _ hx
  rw [h1, RCs.vals h2 hu]
theorem L.eqA {xt yt : TypeId} {x y : Operand} {cs ds : List Cell} {us vs : List Value} {r : Bool} (hn : F.n = N) (hg : guardOf ops sl ⟨dst, .binOp .eql xt x y yt, ty, pos, aft, grd⟩ = some true) (hd : dstB N dst = true)
    (hx : opnd sl x = some (.v (.agg cs))) (hy : opnd sl y = some (.v (.agg ds))) (hu : cellVals cs = some us) (hv : cellVals ds = some vs) (hm : P.eqGuardType P.depth xt = false) (hr : eqIn P 10000 xt (.agg us.toArray) (.agg vs.toArray) = some r)
    (k : WpL P F ops Q rest ⟨setD sl dst (some (im (.bool r))), H⟩) : WpL P F ops Q (⟨dst, .binOp .eql xt x y yt, ty, pos, aft, grd⟩ :: rest) ⟨sl, H⟩ := by
  refine L.val hn hg hd rfl (fun E ev hρ => ?_) k
  have e := eqIn_ok _ _ _ _ _ hr E.w
  have e0 := run_eqGuard_agg (P := P) E.w .eql xt x y us.toArray vs.toArray hm
  have e1 := run_eql_struct (P := P) E.w xt us.toArray vs.toArray
  rw [e] at e1
  simp [execOp, agg_vals hρ hx hu, agg_vals hρ hy hv, e0, e1]
theorem L.neA {xt yt : TypeId} {x y : Operand} {cs ds : List Cell} {us vs : List Value} {r : Bool} (hn : F.n = N) (hg : guardOf ops sl ⟨dst, .binOp .neq xt x y yt, ty, pos, aft, grd⟩ = some true) (hd : dstB N dst = true)
    (hx : opnd sl x = some (.v (.agg cs))) (hy : opnd sl y = some (.v (.agg ds))) (hu : cellVals cs = some us) (hv : cellVals ds = some vs) (hm : P.eqGuardType P.depth xt = false) (hr : eqIn P 10000 xt (.agg us.toArray) (.agg vs.toArray) = some r)
    (k : WpL P F ops Q rest ⟨setD sl dst (some (im (.bool (!r)))), H⟩) : WpL P F ops Q (⟨dst, .binOp .neq xt x y yt, ty, pos, aft, grd⟩ :: rest) ⟨sl, H⟩ := by
  refine L.val hn hg hd rfl (fun E ev hρ => ?_) k
  have e := eqIn_ok _ _ _ _ _ hr E.w
  have e0 := run_eqGuard_agg (P := P) E.w .neq xt x y us.toArray vs.toArray hm
  have e1 := run_neq_struct (P := P) E.w xt us.toArray vs.toArray
  rw [e] at e1
  simp [execOp, agg_vals hρ hx hu, agg_vals hρ hy hv, e0, e1]
theorem Ca.eqA {xt yt : TypeId} {x y : Operand} {cs ds : List Cell} {us vs : List Value} {r : Bool} (hx : opnd sl x = some (.v (.agg cs))) (hy : opnd sl y = some (.v (.agg ds))) (hu : cellVals cs = some us) (hv : cellVals ds = some vs) (hm : P.eqGuardType P.depth xt = false) (hr : eqIn P 10000 xt (.agg us.toArray) (.agg vs.toArray) = some r) :
    CalmAt P F sl H ⟨dst, .binOp .eql xt x y yt, ty, pos, aft, grd⟩ := fun E ev _ hρ => by
  refine Calm.ofRun (r := .value (.bool r)) fun w => ?_
  have e := eqIn_ok _ _ _ _ _ hr w
  have e0 := run_eqGuard_agg (P := P) w .eql xt x y us.toArray vs.toArray hm
  have e1 := run_eql_struct (P := P) w xt us.toArray vs.toArray
  rw [e] at e1
  simp [execOp, agg_vals hρ hx hu, agg_vals hρ hy hv, e0, e1]
theorem Ca.neA {xt yt : TypeId} {x y : Operand} {cs ds : List Cell} {us vs : List Value} {r : Bool} (hx : opnd sl x = some (.v (.agg cs))) (hy : opnd sl y = some (.v (.agg ds))) (hu : cellVals cs = some us) (hv : cellVals ds = some vs) (hm : P.eqGuardType P.depth xt = false) (hr : eqIn P 10000 xt (.agg us.toArray) (.agg vs.toArray) = some r) :
    CalmAt P F sl H ⟨dst, .binOp .neq xt x y yt, ty, pos, aft, grd⟩ := fun E ev _ hρ => by
  refine Calm.ofRun (r := .value (.bool (!r))) fun w => ?_
  have e := eqIn_ok _ _ _ _ _ hr w
  have e0 := run_eqGuard_agg (P := P) w .neq xt x y us.toArray vs.toArray hm
  have e1 := run_neq_struct (P := P) w xt us.toArray vs.toArray
  rw [e] at e1
  simp [execOp, agg_vals hρ hx hu, agg_vals hρ hy hv, e0, e1]
end
end Go.MG
