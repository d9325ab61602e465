/- The program's NameLess and the reference's tell the same. Conditions: none. -/
import Derived.Test.YtflcaebmammlfaaFNameLess
namespace Go.Proofs.Ytflcaebmammlfaa.M
open Go Go.MG
set_option linter.unusedVariables false
set_option linter.unusedSimpArgs false
theorem wid {n : Int} (h1 : -9223372036854775808 ≤ n) (h2 : n ≤ 9223372036854775807) : IntKind.i64.wrap n = n := by
  rw [IntKind.wrap_i64]; omega
theorem atN {α : Type} {xs : List α} {i : Nat} {b : α} (h : xs[i]? = some b) : at? xs (i : Int) = some b := by
  simp [at?, h]
theorem atLt {α : Type} {xs : List α} {i : Nat} (h : i < xs.length) : ∃ b, xs[i]? = some b := ⟨xs[i], List.getElem?_eq_getElem h⟩
/-- A loop over a list, by an invariant. -/
theorem loopInv {α S R : Type} {xs : List α} {L : Nat → S → Int → Option R} {I : Nat → S → Prop} {Q : R → Prop} {n0 : Nat}
    (h : ∀ k s (i : Nat) b, n0 ≤ k → xs[i]? = some b → i < xs.length → I i s → (∃ s', L (k + 1) s (i : Int) = L k s' ((i + 1 : Nat) : Int) ∧ I (i + 1) s') ∨ ∃ r, L (k + 1) s (i : Int) = some r ∧ Q r)
    (he : ∀ k s, n0 ≤ k → I xs.length s → ∃ r, L (k + 1) s (xs.length : Int) = some r ∧ Q r) :
    ∀ (m i k : Nat) (s : S), i + m = xs.length → n0 + m + 1 ≤ k → I i s → ∃ r, L k s (i : Int) = some r ∧ Q r := by
  intro m
  induction m with
  | zero =>
    intro i k s hi hk hI
    obtain ⟨k, rfl⟩ : ∃ j, k = j + 1 := ⟨k - 1, by omega⟩
    have : i = xs.length := by omega
    subst this
    exact he k s (by omega) hI
  | succ m ih =>
    intro i k s hi hk hI
    obtain ⟨k, rfl⟩ : ∃ j, k = j + 1 := ⟨k - 1, by omega⟩
    obtain ⟨b, hb⟩ := atLt (xs := xs) (i := i) (by omega)
    rcases h k s i b (by omega) hb (by omega) hI with ⟨s', h1, h2⟩ | h1
    · rw [h1]
      exact ih (i + 1) k s' (by omega) (by omega) h2
    · exact h1
theorem loop0 {α S R : Type} {xs : List α} {L : Nat → S → Int → Option R} {I : Nat → S → Prop} {Q : R → Prop} (n0 : Nat) {k : Nat} {s : S}
    (hk : n0 + xs.length + 1 ≤ k) (h0 : I 0 s)
    (h : ∀ k s (i : Nat) b, n0 ≤ k → xs[i]? = some b → i < xs.length → I i s → (∃ s', L (k + 1) s (i : Int) = L k s' ((i + 1 : Nat) : Int) ∧ I (i + 1) s') ∨ ∃ r, L (k + 1) s (i : Int) = some r ∧ Q r)
    (he : ∀ k s, n0 ≤ k → I xs.length s → ∃ r, L (k + 1) s (xs.length : Int) = some r ∧ Q r) : ∃ r, L k s 0 = some r ∧ Q r :=
  loopInv h he xs.length 0 k s (by omega) (by omega) h0
theorem wid1 {i : Nat} (h : i ≤ 4611686018427387904) : IntKind.i64.wrap ((i : Int) + 1) = ((i + 1 : Nat) : Int) := by
  rw [wid (by omega) (by omega)]; omega
theorem ltD {i n : Nat} (h : i < n) : decide ((i : Int) < (n : Int)) = true := by simp; omega
theorem ltD0 {n : Nat} : decide ((n : Int) < (n : Int)) = false := by simp
theorem take_succ_get {α : Type} {xs : List α} {i : Nat} {b : α} (h : xs[i]? = some b) : xs.take (i + 1) = xs.take i ++ [b] := by
  rw [List.take_add_one, h]; rfl
/-- What a copy has become after some rounds. -/
theorem set_copy {α : Type} {xs : List α} {z b : α} {i : Nat} (h : xs[i]? = some b) : (xs.take i ++ List.replicate (xs.length - i) z).set i b = xs.take (i + 1) ++ List.replicate (xs.length - (i + 1)) z := by
  have hi := (List.getElem?_eq_some_iff.1 h).1
  rw [take_succ_get h, List.set_append_right _ _ (by simp; omega)]
  have e : xs.length - i = (xs.length - (i + 1)) + 1 := by omega
  rw [e, List.replicate_succ]
  have e2 : i - (xs.take i).length = 0 := by simp; omega
  rw [e2]
  simp
theorem get_copy {α : Type} {xs : List α} {z : α} {i : Nat} (h : i < xs.length) : (xs.take i ++ List.replicate (xs.length - i) z)[i]? = some z := by
  rw [List.getElem?_append_right (by simp; omega)]
  have : i - (xs.take i).length = 0 := by simp; omega
  rw [this, List.getElem?_replicate]
  simp; omega
theorem szStr (k : Nat) (xs : List (List UInt8)) (n : Int) (hk : xs.length + 1 ≤ k) (h0 : 0 ≤ n) (h1 : n ≤ 1048576) (hl : wfR wfS xs) :
    ∃ r, Flaws_szStringS k xs n = some r ∧ (r < 0 ∨ (0 ≤ r ∧ r ≤ n ∧ xs.length ≤ n ∧ ∀ x ∈ xs, (x.length : Int) ≤ n)) := by
  have hx := hl.1
  unfold Flaws_szStringS
  rw [wid (by unfold big at hx; omega) (by omega)]
  by_cases h : n - (xs.length : Int) < 0
  · rw [decide_eq_true h]
    exact ⟨-1, rfl, .inl (by omega)⟩
  · rw [decide_eq_false h]
    simp only [cond_false]
    refine loop0 (L := fun k s i => Flaws_szStringS.l2 k xs s i) (xs := xs) (I := fun i s => 0 ≤ s ∧ s ≤ n ∧ ∀ x ∈ xs.take i, (x.length : Int) ≤ n) 0 (by omega) ⟨by omega, by omega, by simp⟩ ?_ ?_
    · intro k s i b _ hb hi ⟨i1, i2, i3⟩
      have hbl := hl.2 b (List.mem_of_getElem? hb)
      unfold wfS big at hbl
      simp only [Flaws_szStringS.l2]
      rw [ltD hi, atN hb, wid1 (by omega)]
      simp only [cond_true, Option.bind_some]
      rw [wid (n := s - (b.length : Int)) (by omega) (by omega)]
      by_cases h2 : s - (b.length : Int) < 0
      · rw [decide_eq_true h2]
        exact .inr ⟨-1, rfl, .inl (by omega)⟩
      · rw [decide_eq_false h2]
        refine .inl ⟨_, rfl, by omega, by omega, fun x hx => ?_⟩
        rw [take_succ_get hb] at hx
        rcases List.mem_append.1 hx with hx | hx
        · exact i3 x hx
        · rw [List.mem_singleton.1 hx]; omega
    · intro k s _ ⟨i1, i2, i3⟩
      simp only [Flaws_szStringS.l2]
      rw [ltD0]
      refine ⟨s, rfl, .inr ⟨i1, i2, by omega, fun x hx => i3 x ?_⟩⟩
      rw [List.take_length]; exact hx
theorem toStr (k : Nat) (xs : List (List UInt8)) (hk : xs.length + 1 ≤ k) (hl : xs.length ≤ 1048576) : Flaws_toStringS k xs = some xs := by
  unfold Flaws_toStringS
  rw [decide_eq_true (by omega)]
  simp only [cond_true]
  have := loop0 (L := fun k s i => Flaws_toStringS.l2 k xs s i) (xs := xs) (k := k) (s := List.replicate (xs.length : Int).toNat ([] : List UInt8)) (I := fun i s => s = xs.take i ++ List.replicate (xs.length - i) []) (Q := fun r => r = xs) 0 (by omega) (by simp) ?_ ?_
  · obtain ⟨r, h1, rfl⟩ := this
    exact h1
  · intro k s i b _ hb hi hs
    subst hs
    simp only [Flaws_toStringS.l2]
    rw [ltD hi, atN hb, atN (get_copy hi), wid1 (by omega)]
    refine .inl ⟨_, rfl, ?_⟩
    simp only [Int.toNat_natCast]
    exact set_copy hb
  · intro k s _ hs
    subst hs
    simp only [Flaws_toStringS.l2]
    rw [ltD0]
    exact ⟨_, rfl, by simp⟩
theorem eqStr (k : Nat) (xs : List (List UInt8)) (hk : xs.length + 1 ≤ k) (hl : xs.length ≤ 1048576) : Flaws_eqStringS k xs xs = some true := by
  unfold Flaws_eqStringS
  simp only [bne_self_eq_false, cond_false]
  have := loop0 (L := fun k (s : Unit) i => Flaws_eqStringS.l2 k xs xs i) (xs := xs) (k := k) (s := ()) (I := fun i s => True) (Q := fun r => r = true) 0 (by omega) trivial ?_ ?_
  · obtain ⟨r, h1, rfl⟩ := this
    exact h1
  · intro k s i b _ hb hi _
    simp only [Flaws_eqStringS.l2]
    rw [ltD hi, atN hb, wid1 (by omega)]
    simp only [cond_true, Option.bind_some, bne_self_eq_false, cond_false]
    exact .inl ⟨(), trivial, trivial⟩
  · intro k s _ _
    simp only [Flaws_eqStringS.l2]
    rw [ltD0]
    exact ⟨_, rfl, rfl⟩
theorem szName (k : Nat) (a : Tlaws_Name) (n : Int) (hk : a.Parts.length + 1 ≤ k) (h0 : 0 ≤ n) (h1 : n ≤ 1048576) (w : wfTlaws_Name a) :
    ∃ r, Flaws_szName k a n = some r ∧ (r < 0 ∨ (0 ≤ r ∧ r ≤ n ∧ a.Parts.length ≤ n ∧ (∀ x ∈ a.Parts, (x.length : Int) ≤ n) ∧ a.Realm.length ≤ n)) := by
  obtain ⟨r, hr, h⟩ := szStr k a.Parts n hk h0 h1 w.1
  have hw : a.Realm.length ≤ big := w.2
  unfold big at hw
  unfold Flaws_szName
  rw [hr, Option.bind_some]
  rcases h with h | ⟨h2, h3, h4, h5⟩
  · rw [decide_eq_true h]
    exact ⟨_, rfl, .inl (by omega)⟩
  · rw [decide_eq_false (by omega), wid (by omega) (by omega)]
    simp only [cond_false]
    by_cases h6 : r - (a.Realm.length : Int) < 0
    · rw [decide_eq_true h6]; exact ⟨_, rfl, .inl (by omega)⟩
    · rw [decide_eq_false h6]; exact ⟨_, rfl, .inr ⟨by omega, by omega, h4, h5, by omega⟩⟩
theorem toNm (k : Nat) (a : Tlaws_Name) (hk : a.Parts.length + 1 ≤ k) (hl : a.Parts.length ≤ 1048576) : Flaws_toName k a = some ⟨a.Parts, a.Realm⟩ := by
  unfold Flaws_toName
  rw [toStr k _ hk hl]
  rfl
theorem eqNm (k : Nat) (a : Timpl_Name) (hk : a.Parts.length + 1 ≤ k) (hl : a.Parts.length ≤ 1048576) : Flaws_eqName k a a = some true := by
  unfold Flaws_eqName
  rw [eqStr k _ hk hl]
  simp
theorem bytesLess_irrefl : ∀ a : List UInt8, Op.bytesLess a a = false
  | [] => rfl
  | x :: xs => by simp [Op.bytesLess, bytesLess_irrefl xs]
/-- Which row of texts is first. -/
def ltL : List (List UInt8) → List (List UInt8) → Bool
  | [], ys => decide (0 < ys.length)
  | _ :: _, [] => false
  | x :: xs, y :: ys => cond (x != y) (Op.bytesLess x y) (ltL xs ys)
def less (a b : Timpl_Name) : Bool := cond (a.Realm != b.Realm) (Op.bytesLess a.Realm b.Realm) (ltL a.Parts b.Parts)
theorem drop_get {α : Type} {xs : List α} {i : Nat} {b : α} (h : xs[i]? = some b) : xs.drop i = b :: xs.drop (i + 1) := by
  obtain ⟨h1, h2⟩ := List.getElem?_eq_some_iff.1 h
  rw [List.drop_eq_getElem_cons h1, h2]
theorem ltL_step {xs ys : List (List UInt8)} {i : Nat} {x y : List UInt8} (hx : xs[i]? = some x) (hy : ys[i]? = some y) : ltL (xs.drop i) (ys.drop i) = cond (x != y) (Op.bytesLess x y) (ltL (xs.drop (i + 1)) (ys.drop (i + 1))) := by
  rw [drop_get hx, drop_get hy]; rfl
theorem ltL_short {xs ys : List (List UInt8)} {i : Nat} {x : List UInt8} (hx : xs[i]? = some x) (hy : ys.length ≤ i) : ltL (xs.drop i) (ys.drop i) = false := by
  rw [drop_get hx, List.drop_of_length_le hy]; rfl
theorem ltL_end {xs ys : List (List UInt8)} : ltL (xs.drop xs.length) (ys.drop xs.length) = decide (xs.length < ys.length) := by
  rw [List.drop_length]
  simp only [ltL, List.length_drop]
  exact Bool.eq_iff_iff.mpr (by simp only [decide_eq_true_eq]; omega)
theorem sLess (k : Nat) (a b : Timpl_Name) (hk : a.Parts.length + 1 ≤ k) (h1 : a.Parts.length ≤ 1048576) : Fspec_NameLess k a b = some (less a b) := by
  unfold Fspec_NameLess less
  cases a.Realm != b.Realm
  · simp only [cond_false]
    have := loop0 (L := fun k (_ : Unit) i => Fspec_NameLess.l3 k i a.Parts a.Realm b.Parts b.Realm) (xs := a.Parts) (k := k) (s := ()) (I := fun i _ => ltL a.Parts b.Parts = ltL (a.Parts.drop i) (b.Parts.drop i)) (Q := fun r => r = ltL a.Parts b.Parts) 0 (by omega) (by simp) ?_ ?_
    · obtain ⟨r, h1, rfl⟩ := this
      exact h1
    · intro k _ i x _ hb hi hI
      simp only [Fspec_NameLess.l3, Fspec_NameLess.j2]
      rw [ltD hi, atN hb, wid1 (by omega)]
      simp only [cond_true, Option.bind_some]
      by_cases hy : i < b.Parts.length
      · obtain ⟨y, hy'⟩ := atLt hy
        rw [ltD hy, atN hy']
        simp only [cond_true, Option.bind_some]
        rw [ltL_step hb hy'] at hI
        cases hxy : x != y
        · rw [hxy] at hI
          exact .inl ⟨(), rfl, hI⟩
        · rw [hxy] at hI
          exact .inr ⟨_, rfl, hI.symm⟩
      · rw [decide_eq_false (by omega)]
        refine .inr ⟨_, rfl, ?_⟩
        rw [hI, ltL_short hb (by omega)]
        exact decide_eq_false (by omega)
    · intro k _ _ hI
      simp only [Fspec_NameLess.l3, Fspec_NameLess.j2]
      rw [ltD0]
      refine ⟨_, rfl, ?_⟩
      rw [hI, ltL_end]
      exact Bool.eq_iff_iff.mpr (by simp only [decide_eq_true_eq]; omega)
  · rfl
theorem iLess (k : Nat) (a b : Timpl_Name) (hk : a.Parts.length + 1 ≤ k) (h1 : a.Parts.length ≤ 1048576) : Fimpl_NameLess k a b = some (less a b) := by
  unfold Fimpl_NameLess less Fslices_Compare_string
  cases a.Realm != b.Realm
  · simp only [cond_false]
    have := loop0 (L := fun k (_ : Unit) i => Fslices_Compare_string.l2 k a.Parts b.Parts (a.Parts.length : Int) i) (xs := a.Parts) (k := k) (s := ()) (I := fun i _ => ltL a.Parts b.Parts = ltL (a.Parts.drop i) (b.Parts.drop i)) (Q := fun r => decide (r < 0) = ltL a.Parts b.Parts) 0 (by omega) (by simp) ?_ ?_
    · obtain ⟨r, h1, h2⟩ := this
      rw [h1, Option.bind_some, h2]
    · intro k _ i x _ hb hi hI
      simp only [Fslices_Compare_string.l2, Fcmp_Compare_string, Fcmp_isNaN_string]
      rw [ltD hi, atN hb, wid1 (by omega)]
      simp only [cond_true, Option.bind_some, bne_self_eq_false, cond_false]
      by_cases hy : i < b.Parts.length
      · obtain ⟨y, hy'⟩ := atLt hy
        rw [decide_eq_false (by omega), atN hy']
        simp only [cond_false, Option.bind_some]
        rw [ltL_step hb hy'] at hI
        by_cases hxy : x = y
        · subst hxy
          rw [bytesLess_irrefl]
          simp only [bne_self_eq_false, cond_false] at hI
          exact .inl ⟨(), by simp, hI⟩
        · have e1 : (x != y) = true := by simpa using hxy
          have e2 : (x == y) = false := by simpa using hxy
          rw [e1] at hI
          simp only [cond_true] at hI
          rw [e2]
          cases hl : Op.bytesLess x y
          · rw [hl] at hI
            exact .inr ⟨1, rfl, by rw [hI]; rfl⟩
          · rw [hl] at hI
            exact .inr ⟨-1, rfl, by rw [hI]; rfl⟩
      · rw [decide_eq_true (by omega)]
        refine .inr ⟨1, rfl, ?_⟩
        rw [hI, ltL_short hb (by omega)]
        rfl
    · intro k _ _ hI
      simp only [Fslices_Compare_string.l2]
      rw [ltD0]
      simp only [cond_false]
      by_cases h : a.Parts.length < b.Parts.length
      · rw [decide_eq_true (by omega)]
        refine ⟨-1, rfl, ?_⟩
        rw [hI, ltL_end, decide_eq_true h]; rfl
      · rw [decide_eq_false (by omega)]
        refine ⟨0, rfl, ?_⟩
        rw [hI, ltL_end, decide_eq_false h]; rfl
  · rfl
theorem lawExactNameLess (a b : Tlaws_Name) (w : wfTlaws_Name a) (w' : wfTlaws_Name b) : ∃ k, Flaws_FnExactNameLess k a b = some true := by
  refine ⟨2097152 + a.Parts.length + b.Parts.length, ?_⟩
  generalize hK : 2097152 + a.Parts.length + b.Parts.length = K
  obtain ⟨r, hr, h⟩ := szName K a 1048576 (by omega) (by omega) (by omega) w
  unfold Flaws_FnExactNameLess
  rw [hr, Option.bind_some]
  rcases h with h | ⟨h1, h2, h3, h4, h5⟩
  · rw [decide_eq_true h]; rfl
  rw [decide_eq_false (by omega)]
  simp only [cond_false]
  obtain ⟨r', hr', h'⟩ := szName K b r (by omega) (by omega) (by omega) w'
  rw [hr', Option.bind_some]
  rcases h' with h' | ⟨g1, g2, g3, g4, g5⟩
  · rw [decide_eq_true h']; rfl
  rw [decide_eq_false (by omega)]
  simp only [cond_false]
  rw [toNm _ a (by omega) (by omega), toNm _ b (by omega) (by omega)]
  simp only [Option.bind_some]
  rw [sLess _ _ _ (by simp; omega) (by simp; omega), iLess _ _ _ (by simp; omega) (by simp; omega)]
  simp only [Option.bind_some, bne_self_eq_false, cond_false]
  rw [eqNm _ _ (by simp; omega) (by simp; omega), eqNm _ _ (by simp; omega) (by simp; omega)]
  rfl
end Go.Proofs.Ytflcaebmammlfaa.M
