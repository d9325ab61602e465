/- The program's ShowName and the reference's tell the same. Conditions: none. -/
import Derived.Test.YtflcaebmammlfaaFShowName
namespace Go.Proofs.Ytflcaebmammlfaa.M
open Go Go.MG
set_option linter.unusedVariables false
set_option linter.unusedSimpArgs false
theorem wid {n : Int} (h1 : -9223372036854775808 ≤ n) (h2 : n ≤ 9223372036854775807) : IntKind.i64.wrap n = n := by
  rw [IntKind.wrap_i64]; omega
theorem atN {α : Type} {xs : List α} {i : Nat} {b : α} (h : xs[i]? = some b) : at? xs (i : Int) = some b := by
  simp [at?, h]
theorem atLt {α : Type} {xs : List α} {i : Nat} (h : i < xs.length) : ∃ b, xs[i]? = some b := ⟨xs[i], List.getElem?_eq_getElem h⟩
/-- A loop over a list, by an invariant. -/
theorem loopInv {α S R : Type} {xs : List α} {L : Nat → S → Int → Option R} {I : Nat → S → Prop} {Q : R → Prop} {n0 : Nat}
    (h : ∀ k s (i : Nat) b, n0 ≤ k → xs[i]? = some b → i < xs.length → I i s → (∃ s', L (k + 1) s (i : Int) = L k s' ((i + 1 : Nat) : Int) ∧ I (i + 1) s') ∨ ∃ r, L (k + 1) s (i : Int) = some r ∧ Q r)
    (he : ∀ k s, n0 ≤ k → I xs.length s → ∃ r, L (k + 1) s (xs.length : Int) = some r ∧ Q r) :
    ∀ (m i k : Nat) (s : S), i + m = xs.length → n0 + m + 1 ≤ k → I i s → ∃ r, L k s (i : Int) = some r ∧ Q r := by
  intro m
  induction m with
  | zero =>
    intro i k s hi hk hI
    obtain ⟨k, rfl⟩ : ∃ j, k = j + 1 := ⟨k - 1, by omega⟩
    have : i = xs.length := by omega
    subst this
    exact he k s (by omega) hI
  | succ m ih =>
    intro i k s hi hk hI
    obtain ⟨k, rfl⟩ : ∃ j, k = j + 1 := ⟨k - 1, by omega⟩
    obtain ⟨b, hb⟩ := atLt (xs := xs) (i := i) (by omega)
    rcases h k s i b (by omega) hb (by omega) hI with ⟨s', h1, h2⟩ | h1
    · rw [h1]
      exact ih (i + 1) k s' (by omega) (by omega) h2
    · exact h1
theorem loop0 {α S R : Type} {xs : List α} {L : Nat → S → Int → Option R} {I : Nat → S → Prop} {Q : R → Prop} (n0 : Nat) {k : Nat} {s : S}
    (hk : n0 + xs.length + 1 ≤ k) (h0 : I 0 s)
    (h : ∀ k s (i : Nat) b, n0 ≤ k → xs[i]? = some b → i < xs.length → I i s → (∃ s', L (k + 1) s (i : Int) = L k s' ((i + 1 : Nat) : Int) ∧ I (i + 1) s') ∨ ∃ r, L (k + 1) s (i : Int) = some r ∧ Q r)
    (he : ∀ k s, n0 ≤ k → I xs.length s → ∃ r, L (k + 1) s (xs.length : Int) = some r ∧ Q r) : ∃ r, L k s 0 = some r ∧ Q r :=
  loopInv h he xs.length 0 k s (by omega) (by omega) h0
theorem wid1 {i : Nat} (h : i ≤ 4611686018427387904) : IntKind.i64.wrap ((i : Int) + 1) = ((i + 1 : Nat) : Int) := by
  rw [wid (by omega) (by omega)]; omega
theorem ltD {i n : Nat} (h : i < n) : decide ((i : Int) < (n : Int)) = true := by simp; omega
theorem ltD0 {n : Nat} : decide ((n : Int) < (n : Int)) = false := by simp
theorem take_succ_get {α : Type} {xs : List α} {i : Nat} {b : α} (h : xs[i]? = some b) : xs.take (i + 1) = xs.take i ++ [b] := by
  rw [List.take_add_one, h]; rfl
/-- What a copy has become after some rounds. -/
theorem set_copy {α : Type} {xs : List α} {z b : α} {i : Nat} (h : xs[i]? = some b) : (xs.take i ++ List.replicate (xs.length - i) z).set i b = xs.take (i + 1) ++ List.replicate (xs.length - (i + 1)) z := by
  have hi := (List.getElem?_eq_some_iff.1 h).1
  rw [take_succ_get h, List.set_append_right _ _ (by simp; omega)]
  have e : xs.length - i = (xs.length - (i + 1)) + 1 := by omega
  rw [e, List.replicate_succ]
  have e2 : i - (xs.take i).length = 0 := by simp; omega
  rw [e2]
  simp
theorem get_copy {α : Type} {xs : List α} {z : α} {i : Nat} (h : i < xs.length) : (xs.take i ++ List.replicate (xs.length - i) z)[i]? = some z := by
  rw [List.getElem?_append_right (by simp; omega)]
  have : i - (xs.take i).length = 0 := by simp; omega
  rw [this, List.getElem?_replicate]
  simp; omega
def isIn (x a b : Int) : Bool := decide (a ≤ x ∧ x ≤ b)
theorem sIn (k : Nat) (x a b : Int) : Fspec_l1In k x a b = some (isIn x a b) := by
  unfold Fspec_l1In isIn
  simp only [Bool.cond_decide]
  split
  all_goals
    refine congrArg some (Bool.eq_iff_iff.mpr ?_)
    simp only [decide_eq_true_eq, Bool.false_eq_true, false_iff]
    omega
theorem iIn (k : Nat) (x a b : Int) : Fimpl_within k x a b = some (isIn x a b) := sIn k x a b
theorem szStr (k : Nat) (xs : List (List UInt8)) (n : Int) (hk : xs.length + 1 ≤ k) (h0 : 0 ≤ n) (h1 : n ≤ 1048576) (hl : wfR wfS xs) :
    ∃ r, Flaws_szStringS k xs n = some r ∧ (r < 0 ∨ (0 ≤ r ∧ r ≤ n ∧ xs.length ≤ n ∧ ∀ x ∈ xs, (x.length : Int) ≤ n)) := by
  have hx := hl.1
  unfold Flaws_szStringS
  rw [wid (by unfold big at hx; omega) (by omega)]
  by_cases h : n - (xs.length : Int) < 0
  · rw [decide_eq_true h]
    exact ⟨-1, rfl, .inl (by omega)⟩
  · rw [decide_eq_false h]
    simp only [cond_false]
    refine loop0 (L := fun k s i => Flaws_szStringS.l2 k xs s i) (xs := xs) (I := fun i s => 0 ≤ s ∧ s ≤ n ∧ ∀ x ∈ xs.take i, (x.length : Int) ≤ n) 0 (by omega) ⟨by omega, by omega, by simp⟩ ?_ ?_
    · intro k s i b _ hb hi ⟨i1, i2, i3⟩
      have hbl := hl.2 b (List.mem_of_getElem? hb)
      unfold wfS big at hbl
      simp only [Flaws_szStringS.l2]
      rw [ltD hi, atN hb, wid1 (by omega)]
      simp only [cond_true, Option.bind_some]
      rw [wid (n := s - (b.length : Int)) (by omega) (by omega)]
      by_cases h2 : s - (b.length : Int) < 0
      · rw [decide_eq_true h2]
        exact .inr ⟨-1, rfl, .inl (by omega)⟩
      · rw [decide_eq_false h2]
        refine .inl ⟨_, rfl, by omega, by omega, fun x hx => ?_⟩
        rw [take_succ_get hb] at hx
        rcases List.mem_append.1 hx with hx | hx
        · exact i3 x hx
        · rw [List.mem_singleton.1 hx]; omega
    · intro k s _ ⟨i1, i2, i3⟩
      simp only [Flaws_szStringS.l2]
      rw [ltD0]
      refine ⟨s, rfl, .inr ⟨i1, i2, by omega, fun x hx => i3 x ?_⟩⟩
      rw [List.take_length]; exact hx
theorem toStr (k : Nat) (xs : List (List UInt8)) (hk : xs.length + 1 ≤ k) (hl : xs.length ≤ 1048576) : Flaws_toStringS k xs = some xs := by
  unfold Flaws_toStringS
  rw [decide_eq_true (by omega)]
  simp only [cond_true]
  have := loop0 (L := fun k s i => Flaws_toStringS.l2 k xs s i) (xs := xs) (k := k) (s := List.replicate (xs.length : Int).toNat ([] : List UInt8)) (I := fun i s => s = xs.take i ++ List.replicate (xs.length - i) []) (Q := fun r => r = xs) 0 (by omega) (by simp) ?_ ?_
  · obtain ⟨r, h1, rfl⟩ := this
    exact h1
  · intro k s i b _ hb hi hs
    subst hs
    simp only [Flaws_toStringS.l2]
    rw [ltD hi, atN hb, atN (get_copy hi), wid1 (by omega)]
    refine .inl ⟨_, rfl, ?_⟩
    simp only [Int.toNat_natCast]
    exact set_copy hb
  · intro k s _ hs
    subst hs
    simp only [Flaws_toStringS.l2]
    rw [ltD0]
    exact ⟨_, rfl, by simp⟩
theorem eqStr (k : Nat) (xs : List (List UInt8)) (hk : xs.length + 1 ≤ k) (hl : xs.length ≤ 1048576) : Flaws_eqStringS k xs xs = some true := by
  unfold Flaws_eqStringS
  simp only [bne_self_eq_false, cond_false]
  have := loop0 (L := fun k (s : Unit) i => Flaws_eqStringS.l2 k xs xs i) (xs := xs) (k := k) (s := ()) (I := fun i s => True) (Q := fun r => r = true) 0 (by omega) trivial ?_ ?_
  · obtain ⟨r, h1, rfl⟩ := this
    exact h1
  · intro k s i b _ hb hi _
    simp only [Flaws_eqStringS.l2]
    rw [ltD hi, atN hb, wid1 (by omega)]
    simp only [cond_true, Option.bind_some, bne_self_eq_false, cond_false]
    exact .inl ⟨(), trivial, trivial⟩
  · intro k s _ _
    simp only [Flaws_eqStringS.l2]
    rw [ltD0]
    exact ⟨_, rfl, rfl⟩
theorem szName (k : Nat) (a : Tlaws_Name) (n : Int) (hk : a.Parts.length + 1 ≤ k) (h0 : 0 ≤ n) (h1 : n ≤ 1048576) (w : wfTlaws_Name a) :
    ∃ r, Flaws_szName k a n = some r ∧ (r < 0 ∨ (0 ≤ r ∧ r ≤ n ∧ a.Parts.length ≤ n ∧ (∀ x ∈ a.Parts, (x.length : Int) ≤ n) ∧ a.Realm.length ≤ n)) := by
  obtain ⟨r, hr, h⟩ := szStr k a.Parts n hk h0 h1 w.1
  have hw : a.Realm.length ≤ big := w.2
  unfold big at hw
  unfold Flaws_szName
  rw [hr, Option.bind_some]
  rcases h with h | ⟨h2, h3, h4, h5⟩
  · rw [decide_eq_true h]
    exact ⟨_, rfl, .inl (by omega)⟩
  · rw [decide_eq_false (by omega), wid (by omega) (by omega)]
    simp only [cond_false]
    by_cases h6 : r - (a.Realm.length : Int) < 0
    · rw [decide_eq_true h6]; exact ⟨_, rfl, .inl (by omega)⟩
    · rw [decide_eq_false h6]; exact ⟨_, rfl, .inr ⟨by omega, by omega, h4, h5, by omega⟩⟩
theorem toNm (k : Nat) (a : Tlaws_Name) (hk : a.Parts.length + 1 ≤ k) (hl : a.Parts.length ≤ 1048576) : Flaws_toName k a = some ⟨a.Parts, a.Realm⟩ := by
  unfold Flaws_toName
  rw [toStr k _ hk hl]
  rfl
theorem eqNm (k : Nat) (a : Timpl_Name) (hk : a.Parts.length + 1 ≤ k) (hl : a.Parts.length ≤ 1048576) : Flaws_eqName k a a = some true := by
  unfold Flaws_eqName
  rw [eqStr k _ hk hl]
  simp
def byteOk (b : UInt8) : Bool := decide (33 ≤ b.toNat ∧ b.toNat ≤ 126)
/-- A text of at most 20 bytes, all of them signs. -/
def partOk (s : List UInt8) : Bool := decide (s.length ≤ 20) && s.all byteOk
def nameOk (a : Timpl_Name) : Bool := decide (1 ≤ a.Parts.length ∧ a.Parts.length ≤ 4) && (partOk a.Realm && a.Parts.all fun p => (p != []) && partOk p)
theorem all_take {α : Type} {p : α → Bool} {xs : List α} {i : Nat} {b : α} (hb : xs[i]? = some b) (h : (xs.take i).all p = true) (hp : p b = true) : (xs.take (i + 1)).all p = true := by
  rw [take_succ_get hb, List.all_append, h]; simp [hp]
theorem all_false {α : Type} {p : α → Bool} {xs : List α} {i : Nat} {b : α} (hb : xs[i]? = some b) (hp : p b = false) : xs.all p = false := by
  rw [Bool.eq_false_iff]
  intro h
  have := List.all_eq_true.1 h b (List.mem_of_getElem? hb)
  rw [hp] at this; cases this
theorem sPart (k : Nat) (s : List UInt8) (hk : s.length + 1 ≤ k) (hl : s.length ≤ 1048576) : Fspec_l18Part k s = some (partOk s) := by
  unfold Fspec_l18Part partOk
  by_cases h : (s.length : Int) > 20
  · rw [decide_eq_true h, decide_eq_false (by omega)]; rfl
  · rw [decide_eq_false h, decide_eq_true (by omega)]
    simp only [cond_false, Bool.true_and]
    have := loop0 (L := fun k (_ : Unit) i => Fspec_l18Part.l2 k s i) (xs := s) (k := k) (s := ()) (I := fun i _ => (s.take i).all byteOk = true) (Q := fun r => r = s.all byteOk) 0 (by omega) (by simp) ?_ ?_
    · obtain ⟨r, h1, rfl⟩ := this
      exact h1
    · intro k _ i b _ hb hi hI
      simp only [Fspec_l18Part.l2]
      rw [ltD hi, atN hb, wid1 (by omega)]
      simp only [cond_true, Option.bind_some]
      by_cases h1 : b < 33
      · rw [decide_eq_true h1]
        refine .inr ⟨false, rfl, ?_⟩
        rw [all_false hb]
        have := UInt8.lt_iff_toNat_lt.1 h1
        simp [byteOk]
        intro; simp at this; omega
      · rw [decide_eq_false h1]
        simp only [cond_false]
        by_cases h2 : (126 : UInt8) < b
        · rw [decide_eq_true h2]
          refine .inr ⟨false, rfl, ?_⟩
          rw [all_false hb]
          have := UInt8.lt_iff_toNat_lt.1 h2
          simp [byteOk]
          intro; simp at this; omega
        · rw [decide_eq_false h2]
          refine .inl ⟨(), rfl, all_take hb hI ?_⟩
          have e1 : ¬ b.toNat < 33 := fun h => h1 (UInt8.lt_iff_toNat_lt.2 (by simpa using h))
          have e2 : ¬ 126 < b.toNat := fun h => h2 (UInt8.lt_iff_toNat_lt.2 (by simpa using h))
          simp [byteOk]
          omega
    · intro k _ _ hI
      simp only [Fspec_l18Part.l2]
      rw [ltD0]
      rw [List.take_length] at hI
      exact ⟨_, rfl, hI.symm⟩
theorem iPart (k : Nat) (s : List UInt8) (n : Nat) (hk : s.length + 1 ≤ k) (hl : s.length ≤ 1048576) : Fimpl_isPart k s (n : Int) = some (decide (n ≤ s.length) && partOk s) := by
  unfold Fimpl_isPart
  have := loop0 (L := fun k (_ : Unit) i => Fimpl_isPart.l2 k s (n : Int) i) (xs := s) (k := k) (s := ()) (I := fun i _ => (s.take i).all byteOk = true) (Q := fun r => r = (decide (n ≤ s.length) && partOk s)) 0 (by omega) (by simp) ?_ ?_
  · obtain ⟨r, h1, rfl⟩ := this
    exact h1
  · intro k _ i b _ hb hi hI
    simp only [Fimpl_isPart.l2]
    rw [ltD hi, atN hb, wid1 (by omega)]
    simp only [cond_true, Option.bind_some, iIn]
    have e : isIn (b.toNat : Int) 33 126 = byteOk b := by
      unfold isIn byteOk
      exact Bool.eq_iff_iff.mpr (by simp only [decide_eq_true_eq]; omega)
    rw [e]
    cases hb' : byteOk b
    · refine .inr ⟨false, rfl, ?_⟩
      rw [partOk, all_false hb hb']; simp
    · exact .inl ⟨(), rfl, all_take hb hI hb'⟩
  · intro k _ _ hI
    simp only [Fimpl_isPart.l2]
    rw [ltD0]
    rw [List.take_length] at hI
    simp only [cond_false, iIn, Option.bind_some]
    refine ⟨_, rfl, ?_⟩
    rw [partOk, hI]
    unfold isIn
    exact Bool.eq_iff_iff.mpr (by simp only [decide_eq_true_eq, Bool.and_eq_true, Bool.and_true]; omega)
theorem sNameOk (k : Nat) (a : Timpl_Name) (hk : 2097152 + a.Parts.length ≤ k) (h1 : a.Parts.length ≤ 1048576) (h2 : ∀ x ∈ a.Parts, x.length ≤ 1048576) (h3 : a.Realm.length ≤ 1048576) : Fspec_NameOk k a = some (nameOk a) := by
  unfold Fspec_NameOk nameOk
  rw [sIn, Option.bind_some]
  have e : isIn (a.Parts.length : Int) 1 4 = decide (1 ≤ a.Parts.length ∧ a.Parts.length ≤ 4) := by
    unfold isIn
    exact Bool.eq_iff_iff.mpr (by simp only [decide_eq_true_eq]; omega)
  rw [e]
  generalize decide (1 ≤ a.Parts.length ∧ a.Parts.length ≤ 4) = c1
  cases c1
  · rfl
  simp only [Bool.not_true, cond_false, Bool.true_and]
  rw [sPart k _ (by omega) h3, Option.bind_some]
  cases partOk a.Realm
  · rfl
  simp only [Bool.not_true, cond_false, Bool.true_and]
  have := loop0 (L := fun k (_ : Unit) i => Fspec_NameOk.l2 k i a.Parts a.Realm) (xs := a.Parts) (k := k) (s := ()) (I := fun i _ => (a.Parts.take i).all (fun p => (p != []) && partOk p) = true) (Q := fun r => r = a.Parts.all fun p => (p != []) && partOk p) 1048577 (by omega) (by simp) ?_ ?_
  · obtain ⟨r, h1, rfl⟩ := this
    exact h1
  · intro k _ i b hk hb hi hI
    simp only [Fspec_NameOk.l2]
    rw [ltD hi, atN hb, wid1 (by omega)]
    simp only [cond_true, Option.bind_some]
    have hbl := h2 b (List.mem_of_getElem? hb)
    rw [sPart k b (by omega) hbl, Option.bind_some]
    by_cases he : b = []
    · refine .inr ⟨false, by subst he; rfl, ?_⟩
      rw [all_false hb]; subst he; rfl
    · have he' : (b == []) = false := beq_false_of_ne he
      rw [he']
      simp only [cond_false]
      cases hp : partOk b
      · refine .inr ⟨false, rfl, ?_⟩
        rw [all_false hb]; simp [hp]
      · refine .inl ⟨(), rfl, all_take hb hI ?_⟩
        simp [hp, he]
  · intro k _ _ hI
    simp only [Fspec_NameOk.l2]
    rw [ltD0]
    rw [List.take_length] at hI
    exact ⟨_, rfl, hI.symm⟩
theorem iPartsHave (k : Nat) (ps : List (List UInt8)) (hk : 1048578 + ps.length ≤ k) (h1 : ps.length ≤ 1048576) (h2 : ∀ x ∈ ps, x.length ≤ 1048576) : Fslices_ContainsFunc_string__impl_NameOk_1 k ps = some (!(ps.all fun p => (p != []) && partOk p)) := by
  unfold Fslices_ContainsFunc_string__impl_NameOk_1 Fslices_IndexFunc_string__impl_NameOk_1
  have := loop0 (L := fun k (_ : Unit) i => Fslices_IndexFunc_string__impl_NameOk_1.l2 k ps (ps.length : Int) i) (xs := ps) (k := k) (s := ()) (I := fun i _ => (ps.take i).all (fun p => (p != []) && partOk p) = true) (Q := fun r => decide (r ≥ 0) = !(ps.all fun p => (p != []) && partOk p)) 1048577 (by omega) (by simp) ?_ ?_
  · obtain ⟨r, h1, h2⟩ := this
    rw [h1, Option.bind_some, h2]
  · intro k _ i b hk hb hi hI
    simp only [Fslices_IndexFunc_string__impl_NameOk_1.l2, Fimpl_NameOk_1]
    rw [ltD hi, atN hb, wid1 (by omega)]
    simp only [cond_true, Option.bind_some]
    have hbl := h2 b (List.mem_of_getElem? hb)
    have := iPart k b 1 (by omega) hbl
    rw [show ((1 : Nat) : Int) = 1 from rfl] at this
    rw [this]
    simp only [Option.bind_some]
    have e : decide (1 ≤ b.length) = (b != []) := by
      cases b <;> simp
    rw [e]
    cases hp : ((b != []) && partOk b)
    · refine .inr ⟨(i : Int), rfl, ?_⟩
      rw [all_false hb hp]; simp
    · exact .inl ⟨(), rfl, all_take hb hI hp⟩
  · intro k _ _ hI
    simp only [Fslices_IndexFunc_string__impl_NameOk_1.l2]
    rw [ltD0]
    rw [List.take_length] at hI
    exact ⟨_, rfl, by rw [hI]; rfl⟩
theorem iNameOk (k : Nat) (a : Timpl_Name) (hk : 2097152 + a.Parts.length ≤ k) (h1 : a.Parts.length ≤ 1048576) (h2 : ∀ x ∈ a.Parts, x.length ≤ 1048576) (h3 : a.Realm.length ≤ 1048576) : Fimpl_NameOk k a = some (nameOk a) := by
  unfold Fimpl_NameOk nameOk
  rw [iIn, Option.bind_some]
  have e : isIn (a.Parts.length : Int) 1 4 = decide (1 ≤ a.Parts.length ∧ a.Parts.length ≤ 4) := by
    unfold isIn
    exact Bool.eq_iff_iff.mpr (by simp only [decide_eq_true_eq]; omega)
  rw [e]
  generalize decide (1 ≤ a.Parts.length ∧ a.Parts.length ≤ 4) = c1
  cases c1
  · rfl
  simp only [cond_true, Bool.true_and]
  have := iPart k a.Realm 0 (by omega) h3
  rw [show ((0 : Nat) : Int) = 0 from rfl] at this
  rw [this, Option.bind_some]
  simp only [Nat.zero_le, decide_true, Bool.true_and]
  cases partOk a.Realm
  · rfl
  simp only [cond_true, Bool.true_and]
  rw [iPartsHave k _ (by omega) h1 h2, Option.bind_some, Bool.not_not]
def isMk (b : UInt8) : Bool := cond (b == 47) true (cond (b == 64) true (b == 92))
def esc : List UInt8 → List UInt8
  | [] => []
  | b :: bs => cond (isMk b) (92 :: b :: esc bs) (b :: esc bs)
theorem esc_append : ∀ a b : List UInt8, esc (a ++ b) = esc a ++ esc b
  | [], _ => rfl
  | x :: xs, b => by
    simp only [List.cons_append, esc, esc_append xs b]
    cases isMk x <;> rfl
theorem esc_len : ∀ a : List UInt8, (esc a).length ≤ 2 * a.length
  | [] => by simp [esc]
  | x :: xs => by
    have := esc_len xs
    simp only [esc]
    cases isMk x <;> simp <;> omega
theorem esc_take {s : List UInt8} {i : Nat} {b : UInt8} (h : s[i]? = some b) : esc (s.take (i + 1)) = cond (isMk b) (esc (s.take i) ++ [92] ++ [b]) (esc (s.take i) ++ [b]) := by
  rw [take_succ_get h, esc_append]
  simp only [esc]
  cases isMk b <;> simp
theorem take_len {α : Type} (s : List α) (i : Nat) : (s.take i).length ≤ s.length := by simp; omega
theorem sEsc (k : Nat) (s : List UInt8) (hk : s.length + 1 ≤ k) (hl : s.length ≤ 1048576) : Fspec_l18Esc k s = some (esc s) := by
  unfold Fspec_l18Esc
  have := loop0 (L := fun k o i => Fspec_l18Esc.l32 k s o i) (xs := s) (k := k) (s := []) (I := fun i o => o = esc (s.take i)) (Q := fun r => r = esc s) 0 (by omega) (by simp [esc]) ?_ ?_
  · obtain ⟨r, h1, rfl⟩ := this
    exact h1
  · intro k o i b _ hb hi ho
    have hlen := esc_len (s.take i)
    have htl := take_len s i
    subst ho
    have key : ∀ m : Bool, m = isMk b → Fspec_l18Esc.j38 (Fspec_l18Esc.l32 k) k s (esc (s.take i)) (i : Int) m = Fspec_l18Esc.l32 k s (esc (s.take (i + 1))) ((i + 1 : Nat) : Int) := by
      intro m hm
      rw [esc_take hb, ← hm]
      simp only [Fspec_l18Esc.j38, Fspec_l18Esc.j37]
      rw [atN hb, wid1 (by omega)]
      cases m
      · simp only [cond_false, Option.bind_some]
        rw [decide_eq_true (by simp; omega)]; rfl
      · simp only [cond_true, Option.bind_some]
        rw [decide_eq_true (by simp; omega), decide_eq_true (by simp; omega)]; rfl
    refine .inl ⟨esc (s.take (i + 1)), ?_, rfl⟩
    simp only [Fspec_l18Esc.l32]
    rw [ltD hi, atN hb]
    simp only [cond_true, Option.bind_some]
    cases h1 : b == 47
    · simp only [cond_false]
      cases h2 : b == 64
      · exact key (b == 92) (by simp [isMk, h1, h2])
      · exact key true (by simp [isMk, h1, h2])
    · exact key true (by simp [isMk, h1])
  · intro k o _ ho
    simp only [Fspec_l18Esc.l32]
    rw [ltD0]
    rw [List.take_length] at ho
    exact ⟨_, rfl, ho⟩
theorem iEsc (k : Nat) (s : List UInt8) (hk : s.length + 1 ≤ k) (hl : s.length ≤ 1048576) : Fimpl_marked k s = some (esc s) := by
  unfold Fimpl_marked
  have := loop0 (L := fun k o i => Fimpl_marked.l12 k s o i) (xs := s) (k := k) (s := []) (I := fun i o => o = esc (s.take i)) (Q := fun r => r = esc s) 0 (by omega) (by simp [esc]) ?_ ?_
  · obtain ⟨r, h1, rfl⟩ := this
    exact h1
  · intro k o i b _ hb hi ho
    have hlen := esc_len (s.take i)
    have htl := take_len s i
    subst ho
    have e : Fimpl_isMark k b = some (isMk b) := by
      unfold Fimpl_isMark isMk
      cases b == 47 <;> cases b == 64 <;> rfl
    refine .inl ⟨esc (s.take (i + 1)), ?_, rfl⟩
    simp only [Fimpl_marked.l12, Fimpl_marked.j14]
    rw [ltD hi, atN hb, wid1 (by omega)]
    simp only [cond_true, Option.bind_some, e]
    rw [esc_take hb]
    cases isMk b
    · simp only [cond_false]
      rw [decide_eq_true (by simp; omega)]; rfl
    · simp only [cond_true]
      rw [decide_eq_true (by simp; omega), decide_eq_true (by simp; omega)]; rfl
  · intro k o _ ho
    simp only [Fimpl_marked.l12]
    rw [ltD0]
    rw [List.take_length] at ho
    exact ⟨_, rfl, ho⟩
/-- The text of the first parts. -/
def shw : List (List UInt8) → Nat → List UInt8
  | _, 0 => []
  | ps, i + 1 => cond (decide (i > 0)) (shw ps i ++ [47]) (shw ps i) ++ esc (ps.getD i [])
theorem shw_len (ps : List (List UInt8)) (h : ∀ x ∈ ps, x.length ≤ 20) : ∀ i, (shw ps i).length ≤ 41 * i
  | 0 => by simp [shw]
  | i + 1 => by
    have := shw_len ps h i
    have he : (esc (ps.getD i [])).length ≤ 40 := by
      have h1 := esc_len (ps.getD i [])
      have h2 : (ps.getD i []).length ≤ 20 := by
        rw [List.getD_eq_getElem?_getD]
        cases hp : ps[i]? with
        | none => simp
        | some x => exact h x (List.mem_of_getElem? hp)
      omega
    simp only [shw]
    generalize esc (ps.getD i []) = e at he ⊢
    cases decide (i > 0) <;> simp <;> omega
def showN (a : Timpl_Name) : List UInt8 := cond (nameOk a) (cond (a.Realm != []) (shw a.Parts a.Parts.length ++ [64] ++ esc a.Realm) (shw a.Parts a.Parts.length)) []
theorem nameOk_facts {a : Timpl_Name} (h : nameOk a = true) : a.Parts.length ≤ 4 ∧ a.Realm.length ≤ 20 ∧ ∀ x ∈ a.Parts, x.length ≤ 20 := by
  unfold nameOk at h
  simp only [Bool.and_eq_true, decide_eq_true_eq, partOk, List.all_eq_true] at h
  exact ⟨h.1.2, h.2.1.1, fun x hx => (h.2.2 x hx).2.1⟩
theorem shw_step {ps : List (List UInt8)} {i : Nat} {p : List UInt8} (h : ps[i]? = some p) : shw ps (i + 1) = cond (decide (i > 0)) (shw ps i ++ [47]) (shw ps i) ++ esc p := by
  simp only [shw]
  rw [List.getD_eq_getElem?_getD, h]; rfl
theorem sShow (k : Nat) (a : Timpl_Name) (hk : 2097152 + a.Parts.length ≤ k) (h1 : a.Parts.length ≤ 1048576) (h2 : ∀ x ∈ a.Parts, x.length ≤ 1048576) (h3 : a.Realm.length ≤ 1048576) : Fspec_ShowName k a = some (showN a) := by
  unfold Fspec_ShowName showN
  rw [sNameOk k a hk h1 h2 h3, Option.bind_some]
  cases hok : nameOk a
  · rfl
  obtain ⟨f1, f2, f3⟩ := nameOk_facts hok
  simp only [Bool.not_true, cond_false, cond_true]
  have := loop0 (L := fun k o i => Fspec_ShowName.l12 k o i a.Parts a.Realm) (xs := a.Parts) (k := k) (s := []) (I := fun i o => o = shw a.Parts i) (Q := fun r => r = cond (a.Realm != []) (shw a.Parts a.Parts.length ++ [64] ++ esc a.Realm) (shw a.Parts a.Parts.length)) 1048577 (by omega) (by simp [shw]) ?_ ?_
  · obtain ⟨r, h1, rfl⟩ := this
    exact h1
  · intro k o i p hk hp hi ho
    subst ho
    have hl := shw_len a.Parts f3 i
    have hpl := f3 p (List.mem_of_getElem? hp)
    have hel := esc_len p
    refine .inl ⟨shw a.Parts (i + 1), ?_, rfl⟩
    simp only [Fspec_ShowName.l12, Fspec_ShowName.j14]
    rw [ltD hi, atN hp, wid1 (by omega), shw_step hp]
    simp only [cond_true, Option.bind_some]
    rw [sEsc k p (by omega) (by omega)]
    simp only [Option.bind_some]
    by_cases h0 : i > 0
    · rw [decide_eq_true (by omega), decide_eq_true h0]
      simp only [cond_true]
      rw [decide_eq_true (by simp; omega), decide_eq_true (by simp; omega)]; rfl
    · rw [decide_eq_false (by omega), decide_eq_false h0]
      simp only [cond_false]
      rw [decide_eq_true (by omega)]; rfl
  · intro k o hk ho
    subst ho
    have hl := shw_len a.Parts f3 a.Parts.length
    have hel := esc_len a.Realm
    simp only [Fspec_ShowName.l12]
    rw [ltD0]
    simp only [cond_false]
    rw [sEsc k a.Realm (by omega) (by omega)]
    cases a.Realm != []
    · exact ⟨_, rfl, rfl⟩
    · simp only [cond_true, Option.bind_some]
      rw [decide_eq_true (by simp; omega), decide_eq_true (by simp; omega)]
      exact ⟨_, rfl, rfl⟩
theorem iShow (k : Nat) (a : Timpl_Name) (hk : 2097152 + a.Parts.length ≤ k) (h1 : a.Parts.length ≤ 1048576) (h2 : ∀ x ∈ a.Parts, x.length ≤ 1048576) (h3 : a.Realm.length ≤ 1048576) : Fimpl_ShowName k a = some (showN a) := by
  unfold Fimpl_ShowName showN
  rw [iNameOk k a hk h1 h2 h3, Option.bind_some]
  cases hok : nameOk a
  · rfl
  obtain ⟨f1, f2, f3⟩ := nameOk_facts hok
  simp only [Bool.not_true, cond_false, cond_true]
  have := loop0 (L := fun k o i => Fimpl_ShowName.l12 k o a.Parts (a.Parts.length : Int) i a.Realm) (xs := a.Parts) (k := k) (s := []) (I := fun i o => o = shw a.Parts i) (Q := fun r => r = cond (a.Realm != []) (shw a.Parts a.Parts.length ++ [64] ++ esc a.Realm) (shw a.Parts a.Parts.length)) 1048577 (by omega) (by simp [shw]) ?_ ?_
  · obtain ⟨r, h1, rfl⟩ := this
    exact h1
  · intro k o i p hk hp hi ho
    subst ho
    have hl := shw_len a.Parts f3 i
    have hpl := f3 p (List.mem_of_getElem? hp)
    have hel := esc_len p
    refine .inl ⟨shw a.Parts (i + 1), ?_, rfl⟩
    simp only [Fimpl_ShowName.l12, Fimpl_ShowName.j14]
    rw [ltD hi, atN hp, wid1 (by omega), shw_step hp]
    simp only [cond_true, Option.bind_some]
    rw [iEsc k p (by omega) (by omega)]
    simp only [Option.bind_some]
    by_cases h0 : i > 0
    · rw [decide_eq_true (by omega), decide_eq_true h0]
      simp only [cond_true]
      rw [decide_eq_true (by simp; omega), decide_eq_true (by simp; omega)]; rfl
    · rw [decide_eq_false (by omega), decide_eq_false h0]
      simp only [cond_false]
      rw [decide_eq_true (by omega)]; rfl
  · intro k o hk ho
    subst ho
    have hl := shw_len a.Parts f3 a.Parts.length
    have hel := esc_len a.Realm
    simp only [Fimpl_ShowName.l12]
    rw [ltD0]
    simp only [cond_false]
    rw [iEsc k a.Realm (by omega) (by omega)]
    cases a.Realm != []
    · exact ⟨_, rfl, rfl⟩
    · simp only [cond_true, Option.bind_some]
      rw [decide_eq_true (by simp; omega), decide_eq_true (by simp; omega)]
      exact ⟨_, rfl, rfl⟩
theorem lawExactShowName (a : Tlaws_Name) (w : wfTlaws_Name a) : ∃ k, Flaws_FnExactShowName k a = some true := by
  refine ⟨2097152 + a.Parts.length, ?_⟩
  generalize hK : 2097152 + a.Parts.length = K
  obtain ⟨r, hr, h⟩ := szName K a 1048576 (by omega) (by omega) (by omega) w
  unfold Flaws_FnExactShowName
  rw [hr, Option.bind_some]
  rcases h with h | ⟨h1, h2, h3, h4, h5⟩
  · rw [decide_eq_true h]; rfl
  · rw [decide_eq_false (by omega)]
    simp only [cond_false]
    rw [toNm _ a (by omega) (by omega)]
    simp only [Option.bind_some]
    rw [sShow _ _ (by simp; omega) (by simp; omega) (fun x hx => by have := h4 x hx; omega) (by simp; omega), iShow _ _ (by simp; omega) (by simp; omega) (fun x hx => by have := h4 x hx; omega) (by simp; omega)]
    simp only [Option.bind_some, bne_self_eq_false, cond_false]
    rw [eqNm _ _ (by simp; omega) (by simp; omega)]
    rfl
end Go.Proofs.Ytflcaebmammlfaa.M
