/- The program's Allows and the reference's tell the same. Conditions: none. -/
import Derived.Test.YtflcaebmammlfaaFAllows
namespace Go.Proofs.Ytflcaebmammlfaa.M
open Go Go.MG
set_option linter.unusedVariables false
set_option linter.unusedSimpArgs false
theorem wid {n : Int} (h1 : -9223372036854775808 ≤ n) (h2 : n ≤ 9223372036854775807) : IntKind.i64.wrap n = n := by
  rw [IntKind.wrap_i64]; omega
theorem atN {α : Type} {xs : List α} {i : Nat} {b : α} (h : xs[i]? = some b) : at? xs (i : Int) = some b := by
  simp [at?, h]
theorem atLt {α : Type} {xs : List α} {i : Nat} (h : i < xs.length) : ∃ b, xs[i]? = some b := ⟨xs[i], List.getElem?_eq_getElem h⟩
/-- A loop over a list, by an invariant. -/
theorem loopInv {α S R : Type} {xs : List α} {L : Nat → S → Int → Option R} {I : Nat → S → Prop} {Q : R → Prop} {n0 : Nat}
    (h : ∀ k s (i : Nat) b, n0 ≤ k → xs[i]? = some b → i < xs.length → I i s → (∃ s', L (k + 1) s (i : Int) = L k s' ((i + 1 : Nat) : Int) ∧ I (i + 1) s') ∨ ∃ r, L (k + 1) s (i : Int) = some r ∧ Q r)
    (he : ∀ k s, n0 ≤ k → I xs.length s → ∃ r, L (k + 1) s (xs.length : Int) = some r ∧ Q r) :
    ∀ (m i k : Nat) (s : S), i + m = xs.length → n0 + m + 1 ≤ k → I i s → ∃ r, L k s (i : Int) = some r ∧ Q r := by
  intro m
  induction m with
  | zero =>
    intro i k s hi hk hI
    obtain ⟨k, rfl⟩ : ∃ j, k = j + 1 := ⟨k - 1, by omega⟩
    have : i = xs.length := by omega
    subst this
    exact he k s (by omega) hI
  | succ m ih =>
    intro i k s hi hk hI
    obtain ⟨k, rfl⟩ : ∃ j, k = j + 1 := ⟨k - 1, by omega⟩
    obtain ⟨b, hb⟩ := atLt (xs := xs) (i := i) (by omega)
    rcases h k s i b (by omega) hb (by omega) hI with ⟨s', h1, h2⟩ | h1
    · rw [h1]
      exact ih (i + 1) k s' (by omega) (by omega) h2
    · exact h1
theorem loop0 {α S R : Type} {xs : List α} {L : Nat → S → Int → Option R} {I : Nat → S → Prop} {Q : R → Prop} (n0 : Nat) {k : Nat} {s : S}
    (hk : n0 + xs.length + 1 ≤ k) (h0 : I 0 s)
    (h : ∀ k s (i : Nat) b, n0 ≤ k → xs[i]? = some b → i < xs.length → I i s → (∃ s', L (k + 1) s (i : Int) = L k s' ((i + 1 : Nat) : Int) ∧ I (i + 1) s') ∨ ∃ r, L (k + 1) s (i : Int) = some r ∧ Q r)
    (he : ∀ k s, n0 ≤ k → I xs.length s → ∃ r, L (k + 1) s (xs.length : Int) = some r ∧ Q r) : ∃ r, L k s 0 = some r ∧ Q r :=
  loopInv h he xs.length 0 k s (by omega) (by omega) h0
theorem wid1 {i : Nat} (h : i ≤ 4611686018427387904) : IntKind.i64.wrap ((i : Int) + 1) = ((i + 1 : Nat) : Int) := by
  rw [wid (by omega) (by omega)]; omega
theorem ltD {i n : Nat} (h : i < n) : decide ((i : Int) < (n : Int)) = true := by simp; omega
theorem ltD0 {n : Nat} : decide ((n : Int) < (n : Int)) = false := by simp
theorem take_succ_get {α : Type} {xs : List α} {i : Nat} {b : α} (h : xs[i]? = some b) : xs.take (i + 1) = xs.take i ++ [b] := by
  rw [List.take_add_one, h]; rfl
/-- What a copy has become after some rounds. -/
theorem set_copy {α : Type} {xs : List α} {z b : α} {i : Nat} (h : xs[i]? = some b) : (xs.take i ++ List.replicate (xs.length - i) z).set i b = xs.take (i + 1) ++ List.replicate (xs.length - (i + 1)) z := by
  have hi := (List.getElem?_eq_some_iff.1 h).1
  rw [take_succ_get h, List.set_append_right _ _ (by simp; omega)]
  have e : xs.length - i = (xs.length - (i + 1)) + 1 := by omega
  rw [e, List.replicate_succ]
  have e2 : i - (xs.take i).length = 0 := by simp; omega
  rw [e2]
  simp
theorem get_copy {α : Type} {xs : List α} {z : α} {i : Nat} (h : i < xs.length) : (xs.take i ++ List.replicate (xs.length - i) z)[i]? = some z := by
  rw [List.getElem?_append_right (by simp; omega)]
  have : i - (xs.take i).length = 0 := by simp; omega
  rw [this, List.getElem?_replicate]
  simp; omega
def isIn (x a b : Int) : Bool := decide (a ≤ x ∧ x ≤ b)
theorem sIn (k : Nat) (x a b : Int) : Fspec_l1In k x a b = some (isIn x a b) := by
  unfold Fspec_l1In isIn
  simp only [Bool.cond_decide]
  split
  all_goals
    refine congrArg some (Bool.eq_iff_iff.mpr ?_)
    simp only [decide_eq_true_eq, Bool.false_eq_true, false_iff]
    omega
theorem iIn (k : Nat) (x a b : Int) : Fimpl_within k x a b = some (isIn x a b) := sIn k x a b
theorem wfRuleS {a : Tlaws_Rule} (w : wfTlaws_Rule a) : a.Set.length ≤ big := w.2.1.1
theorem szRl (k : Nat) (a : Tlaws_Rule) (n : Int) (h0 : 0 ≤ n) (h1 : n ≤ 1048576) (w : wfTlaws_Rule a) :
    ∃ r, Flaws_szRule k a n = some r ∧ (r < 0 ∨ (0 ≤ r ∧ r ≤ n ∧ a.Set.length ≤ n)) := by
  have hw := wfRuleS w
  unfold big at hw
  unfold Flaws_szRule Flaws_szIntS
  rw [wid (by omega) (by omega)]
  by_cases h : n - (a.Set.length : Int) < 0
  · rw [decide_eq_true h]
    exact ⟨-1, rfl, .inl (by omega)⟩
  · rw [decide_eq_false h]
    simp only [cond_false, Option.bind_some]
    rw [decide_eq_false h]
    exact ⟨_, rfl, .inr ⟨by omega, by omega, by omega⟩⟩
theorem szRls (k : Nat) (xs : List Tlaws_Rule) (n : Int) (hk : xs.length + 1 ≤ k) (h0 : 0 ≤ n) (h1 : n ≤ 1048576) (hl : wfR wfTlaws_Rule xs) :
    ∃ r, Flaws_szRuleS k xs n = some r ∧ (r < 0 ∨ (0 ≤ r ∧ r ≤ n ∧ xs.length ≤ n ∧ ∀ x ∈ xs, (x.Set.length : Int) ≤ n)) := by
  have hx := hl.1
  unfold Flaws_szRuleS
  rw [wid (by unfold big at hx; omega) (by omega)]
  by_cases h : n - (xs.length : Int) < 0
  · rw [decide_eq_true h]
    exact ⟨-1, rfl, .inl (by omega)⟩
  · rw [decide_eq_false h]
    simp only [cond_false]
    refine loop0 (L := fun k s i => Flaws_szRuleS.l2 k xs s i) (xs := xs) (I := fun i s => 0 ≤ s ∧ s ≤ n ∧ ∀ x ∈ xs.take i, (x.Set.length : Int) ≤ n) 0 (by omega) ⟨by omega, by omega, by simp⟩ ?_ ?_
    · intro k s i b _ hb hi ⟨i1, i2, i3⟩
      obtain ⟨r, hr, hr2⟩ := szRl k b s i1 (by omega) (hl.2 b (List.mem_of_getElem? hb))
      simp only [Flaws_szRuleS.l2]
      rw [ltD hi, atN hb, wid1 (by omega)]
      simp only [cond_true, Option.bind_some, hr]
      rcases hr2 with hr2 | ⟨j1, j2, j3⟩
      · rw [decide_eq_true hr2]
        exact .inr ⟨-1, rfl, .inl (by omega)⟩
      · rw [decide_eq_false (by omega)]
        refine .inl ⟨_, rfl, by omega, by omega, fun x hx => ?_⟩
        rw [take_succ_get hb] at hx
        rcases List.mem_append.1 hx with hx | hx
        · exact i3 x hx
        · rw [List.mem_singleton.1 hx]; omega
    · intro k s _ ⟨i1, i2, i3⟩
      simp only [Flaws_szRuleS.l2]
      rw [ltD0]
      refine ⟨s, rfl, .inr ⟨i1, i2, by omega, fun x hx => i3 x ?_⟩⟩
      rw [List.take_length]; exact hx
theorem toInts (k : Nat) (xs : List Int) (hk : xs.length + 1 ≤ k) (hl : xs.length ≤ 1048576) : Flaws_toIntS k xs = some xs := by
  unfold Flaws_toIntS
  rw [decide_eq_true (by omega)]
  simp only [cond_true]
  have := loop0 (L := fun k s i => Flaws_toIntS.l2 k xs s i) (xs := xs) (k := k) (s := List.replicate (xs.length : Int).toNat (0 : Int)) (I := fun i s => s = xs.take i ++ List.replicate (xs.length - i) 0) (Q := fun r => r = xs) 0 (by omega) (by simp) ?_ ?_
  · obtain ⟨r, h1, rfl⟩ := this
    exact h1
  · intro k s i b _ hb hi hs
    subst hs
    simp only [Flaws_toIntS.l2]
    rw [ltD hi, atN hb, atN (get_copy hi), wid1 (by omega)]
    refine .inl ⟨_, rfl, ?_⟩
    simp only [Int.toNat_natCast]
    exact set_copy hb
  · intro k s _ hs
    subst hs
    simp only [Flaws_toIntS.l2]
    rw [ltD0]
    exact ⟨_, rfl, by simp⟩
def toR (a : Tlaws_Rule) : Timpl_Rule := ⟨a.Kind, a.Set, a.N⟩
theorem toRl (k : Nat) (a : Tlaws_Rule) (hk : a.Set.length + 1 ≤ k) (hl : a.Set.length ≤ 1048576) : Flaws_toRule k a = some (toR a) := by
  unfold Flaws_toRule
  rw [toInts k _ hk hl]; rfl
theorem toRls (k : Nat) (xs : List Tlaws_Rule) (hk : xs.length + 1048578 ≤ k) (hl : xs.length ≤ 1048576) (hs : ∀ x ∈ xs, x.Set.length ≤ 1048576) : Flaws_toRuleS k xs = some (xs.map toR) := by
  unfold Flaws_toRuleS
  rw [decide_eq_true (by omega)]
  simp only [cond_true]
  have := loop0 (L := fun k s i => Flaws_toRuleS.l2 k xs s i) (xs := xs) (k := k) (s := List.replicate (xs.length : Int).toNat (⟨(0 : Int), [], (0 : Int)⟩ : Timpl_Rule)) (I := fun i s => s = (xs.map toR).take i ++ List.replicate ((xs.map toR).length - i) ⟨(0 : Int), [], (0 : Int)⟩) (Q := fun r => r = xs.map toR) 1048577 (by omega) (by simp) ?_ ?_
  · obtain ⟨r, h1, rfl⟩ := this
    exact h1
  · intro k s i b hk hb hi hs'
    subst hs'
    have hb2 : (xs.map toR)[i]? = some (toR b) := by rw [List.getElem?_map, hb]; rfl
    have hbl := hs b (List.mem_of_getElem? hb)
    simp only [Flaws_toRuleS.l2]
    rw [ltD hi, atN hb, atN (get_copy (by simpa using hi)), wid1 (by omega)]
    simp only [cond_true, Option.bind_some]
    rw [toRl k b (by omega) hbl]
    refine .inl ⟨_, rfl, ?_⟩
    simp only [Int.toNat_natCast]
    exact set_copy hb2
  · intro k s _ hs'
    subst hs'
    simp only [Flaws_toRuleS.l2]
    rw [ltD0]
    refine ⟨_, rfl, ?_⟩
    rw [List.length_map, Nat.sub_self, List.replicate_zero, List.append_nil]
    exact List.take_of_length_le (by simp)
theorem eqInts (k : Nat) (xs : List Int) (hk : xs.length + 1 ≤ k) (hl : xs.length ≤ 1048576) : Flaws_eqIntS k xs xs = some true := by
  unfold Flaws_eqIntS
  simp only [bne_self_eq_false, cond_false]
  have := loop0 (L := fun k (s : Unit) i => Flaws_eqIntS.l2 k xs xs i) (xs := xs) (k := k) (s := ()) (I := fun i s => True) (Q := fun r => r = true) 0 (by omega) trivial ?_ ?_
  · obtain ⟨r, h1, rfl⟩ := this
    exact h1
  · intro k s i b _ hb hi _
    simp only [Flaws_eqIntS.l2]
    rw [ltD hi, atN hb, wid1 (by omega)]
    simp only [cond_true, Option.bind_some, bne_self_eq_false, cond_false]
    exact .inl ⟨(), trivial, trivial⟩
  · intro k s _ _
    simp only [Flaws_eqIntS.l2]
    rw [ltD0]
    exact ⟨_, rfl, rfl⟩
theorem eqRls (k : Nat) (xs : List Timpl_Rule) (hk : xs.length + 1048578 ≤ k) (hl : xs.length ≤ 1048576) (hs : ∀ x ∈ xs, x.Set.length ≤ 1048576) : Flaws_eqRuleS k xs xs = some true := by
  unfold Flaws_eqRuleS
  simp only [bne_self_eq_false, cond_false]
  have := loop0 (L := fun k (s : Unit) i => Flaws_eqRuleS.l2 k xs xs i) (xs := xs) (k := k) (s := ()) (I := fun i s => True) (Q := fun r => r = true) 1048577 (by omega) trivial ?_ ?_
  · obtain ⟨r, h1, rfl⟩ := this
    exact h1
  · intro k s i b hk hb hi _
    have hbl := hs b (List.mem_of_getElem? hb)
    simp only [Flaws_eqRuleS.l2, Flaws_eqRule]
    rw [ltD hi, atN hb, wid1 (by omega)]
    simp only [cond_true, Option.bind_some, bne_self_eq_false, cond_false, eqInts k b.Set (by omega) hbl, Bool.not_true]
    exact .inl ⟨(), trivial, trivial⟩
  · intro k s _ _
    simp only [Flaws_eqRuleS.l2]
    rw [ltD0]
    exact ⟨_, rfl, rfl⟩
def Ris (l : List Int) (n : Nat) : Prop := ∀ j c b, j + 1 < n → l[j]? = some c → l[j + 1]? = some b → c < b
def Inn (l : List Int) (n : Nat) : Prop := ∀ j b, j < n → l[j]? = some b → 0 ≤ b ∧ b ≤ 30
noncomputable def setOk (l : List Int) : Bool := @decide (Inn l l.length ∧ Ris l l.length) (Classical.propDecidable _)
theorem setOk_true {l : List Int} : setOk l = true ↔ Inn l l.length ∧ Ris l l.length := by
  unfold setOk
  exact @decide_eq_true_iff _ (Classical.propDecidable _)
theorem Inn.succ {l : List Int} {i : Nat} {b : Int} (h : Inn l i) (hb : l[i]? = some b) (h2 : 0 ≤ b ∧ b ≤ 30) : Inn l (i + 1) := by
  intro j c hj hc
  by_cases e : j = i
  · subst e; rw [hb] at hc; cases hc; exact h2
  · exact h j c (by omega) hc
theorem Ris.succ {l : List Int} {i : Nat} {c b : Int} (h : Ris l (i + 1)) (hc : l[i]? = some c) (hb : l[i + 1]? = some b) (h2 : c < b) : Ris l (i + 2) := by
  intro j c' b' hj hc' hb'
  by_cases e : j = i
  · subst e; rw [hb] at hb'; rw [hc] at hc'; cases hb'; cases hc'; exact h2
  · exact h j c' b' (by omega) hc' hb'
theorem sSet (k : Nat) (l : List Int) (hk : l.length + 1 ≤ k) (hl : l.length ≤ 1048576) : Fspec_l17Set k l = some (setOk l) := by
  unfold Fspec_l17Set
  have := loop0 (L := fun k (_ : Unit) i => Fspec_l17Set.l7 k l i) (xs := l) (k := k) (s := ()) (I := fun i _ => Inn l i ∧ Ris l i) (Q := fun r => r = setOk l) 0 (by omega) ⟨fun j b h => absurd h (by omega), fun j c b h => absurd h (by omega)⟩ ?_ ?_
  · obtain ⟨r, h1, rfl⟩ := this
    exact h1
  · intro k _ i b _ hb hi ⟨i1, i2⟩
    simp only [Fspec_l17Set.l7, Fspec_l17Set.j8]
    rw [ltD hi, atN hb, wid1 (by omega)]
    simp only [cond_true, Option.bind_some, sIn]
    by_cases hin : isIn b 0 30 = true
    · have h2 : 0 ≤ b ∧ b ≤ 30 := of_decide_eq_true hin
      rw [hin]
      simp only [Bool.not_true, cond_false]
      cases i with
      | zero =>
        rw [decide_eq_false (by omega)]
        exact .inl ⟨(), rfl, i1.succ hb h2, fun j c b h => absurd h (by omega)⟩
      | succ i =>
        rw [decide_eq_true (by omega), wid (by omega) (by omega), show ((i + 1 : Nat) : Int) - 1 = (i : Int) by omega]
        obtain ⟨c, hc⟩ := atLt (xs := l) (i := i) (by omega)
        rw [atN hc]
        simp only [cond_true, Option.bind_some]
        by_cases h3 : c ≥ b
        · rw [decide_eq_true h3]
          refine .inr ⟨false, rfl, ?_⟩
          refine (Bool.eq_false_iff.2 fun h => ?_).symm
          have := (setOk_true.1 h).2 i c b (by omega) hc hb
          omega
        · rw [decide_eq_false h3]
          exact .inl ⟨(), rfl, i1.succ hb h2, i2.succ hc hb (by omega)⟩
    · rw [Bool.eq_false_iff.2 hin]
      refine .inr ⟨false, rfl, ?_⟩
      refine (Bool.eq_false_iff.2 fun h => hin ?_).symm
      exact decide_eq_true ((setOk_true.1 h).1 i b hi hb)
  · intro k _ _ hI
    simp only [Fspec_l17Set.l7]
    rw [ltD0]
    exact ⟨true, rfl, (setOk_true.2 hI).symm⟩
theorem iRises (k : Nat) (l : List Int) (hk : l.length + 2 ≤ k) (hl : l.length ≤ 1048576) : ∃ r, Fimpl_rises k l = some r ∧ (r = true ↔ Ris l l.length) := by
  unfold Fimpl_rises
  by_cases h0 : l.length = 0
  · obtain ⟨k, rfl⟩ : ∃ j, k = j + 1 := ⟨k - 1, by omega⟩
    simp only [Fimpl_rises.l2]
    rw [decide_eq_false (by omega)]
    exact ⟨true, rfl, fun _ j c b h => absurd h (by omega), fun _ => rfl⟩
  · refine loopInv (L := fun k (_ : Unit) i => Fimpl_rises.l2 k l i) (xs := l) (I := fun i _ => 0 < i ∧ Ris l i) (Q := fun r => (r = true ↔ Ris l l.length)) (n0 := 0) ?_ ?_ (l.length - 1) 1 k () (by omega) (by omega) ⟨by omega, fun j c b h => absurd h (by omega)⟩
    · intro k _ i b _ hb hi ⟨i0, i2⟩
      obtain ⟨i, rfl⟩ : ∃ j, i = j + 1 := ⟨i - 1, by omega⟩
      obtain ⟨c, hc⟩ := atLt (xs := l) (i := i) (by omega)
      simp only [Fimpl_rises.l2]
      rw [ltD hi, atN hb, wid1 (by omega), wid (by omega) (by omega), show ((i + 1 : Nat) : Int) - 1 = (i : Int) by omega, atN hc]
      simp only [cond_true, Option.bind_some]
      by_cases h3 : c ≥ b
      · rw [decide_eq_true h3]
        refine .inr ⟨false, rfl, fun h => by (cases h), fun h => ?_⟩
        have := h i c b (by omega) hc hb
        omega
      · rw [decide_eq_false h3]
        exact .inl ⟨(), rfl, by omega, i2.succ hc hb (by omega)⟩
    · intro k _ _ ⟨_, hI⟩
      simp only [Fimpl_rises.l2]
      rw [ltD0]
      exact ⟨true, rfl, fun _ => hI, fun _ => rfl⟩
theorem iAll (k : Nat) (l : List Int) (hk : l.length + 1 ≤ k) (hl : l.length ≤ 1048576) : ∃ r, Fimpl_areAll__impl_areSet_1 k l 31 = some r ∧ (r = true ↔ Inn l l.length ∧ l.length ≤ 31) := by
  unfold Fimpl_areAll__impl_areSet_1
  refine loop0 (L := fun k (_ : Unit) i => Fimpl_areAll__impl_areSet_1.l2 k l 31 (l.length : Int) i) (xs := l) (s := ()) (I := fun i _ => Inn l i) (Q := fun r => (r = true ↔ Inn l l.length ∧ l.length ≤ 31)) 0 (by omega) (fun j b h => absurd h (by omega)) ?_ ?_
  · intro k _ i b _ hb hi i1
    simp only [Fimpl_areAll__impl_areSet_1.l2, Fimpl_areSet_1]
    rw [ltD hi, atN hb, wid1 (by omega)]
    simp only [cond_true, Option.bind_some, iIn]
    by_cases hin : isIn b 0 30 = true
    · rw [hin]
      exact .inl ⟨(), rfl, i1.succ hb (of_decide_eq_true hin)⟩
    · rw [Bool.eq_false_iff.2 hin]
      refine .inr ⟨false, rfl, fun h => by (cases h), fun h => absurd (decide_eq_true (h.1 i b hi hb)) hin⟩
  · intro k _ _ hI
    simp only [Fimpl_areAll__impl_areSet_1.l2]
    rw [ltD0]
    refine ⟨_, rfl, ?_⟩
    rw [decide_eq_true_iff]
    exact ⟨fun h => ⟨hI, by omega⟩, fun h => by omega⟩
theorem short {l : List Int} (h1 : Inn l l.length) (h2 : Ris l l.length) : l.length ≤ 31 := by
  have hv : ∀ (j : Nat) (b : Int), l[j]? = some b → (j : Int) ≤ b := by
    intro j
    induction j with
    | zero =>
      intro b hb
      have := (List.getElem?_eq_some_iff.1 hb).1
      have := h1 0 b (by omega) hb
      omega
    | succ j ih =>
      intro b hb
      have hj := (List.getElem?_eq_some_iff.1 hb).1
      obtain ⟨c, hc⟩ := atLt (xs := l) (i := j) (by omega)
      have := ih c hc
      have := h2 j c b hj hc hb
      omega
  by_cases h : l.length = 0
  · omega
  · obtain ⟨b, hb⟩ := atLt (xs := l) (i := l.length - 1) (by omega)
    have := hv _ b hb
    have := h1 _ b (by omega) hb
    omega
theorem iSet (k : Nat) (l : List Int) (hk : l.length + 2 ≤ k) (hl : l.length ≤ 1048576) : Fimpl_areSet k l = some (setOk l) := by
  unfold Fimpl_areSet
  obtain ⟨r, h1, h2⟩ := iRises k l hk hl
  obtain ⟨q, h3, h4⟩ := iAll k l (by omega) hl
  rw [h1, Option.bind_some]
  cases r
  · refine congrArg some (Eq.symm (Bool.eq_false_iff.2 fun h => ?_))
    exact absurd (h2.2 (setOk_true.1 h).2) (by decide)
  · simp only [cond_true, h3, Option.bind_some]
    refine congrArg some (Bool.eq_iff_iff.2 ⟨fun h => setOk_true.2 ⟨(h4.1 h).1, h2.1 rfl⟩, fun h => h4.2 ?_⟩)
    have h := setOk_true.1 h
    exact ⟨h.1, short h.1 h.2⟩
noncomputable def ruleOk (a : Timpl_Rule) : Bool := cond (isIn a.Kind 1 3) (cond (a.N == 0) (setOk a.Set) false) (cond (isIn a.Kind 4 5) (cond ((a.Set.length : Int) == 0) (isIn a.N 0 100000) false) false)
theorem sRule (k : Nat) (a : Timpl_Rule) (hk : a.Set.length + 1 ≤ k) (hl : a.Set.length ≤ 1048576) : Fspec_l17Ok k a = some (ruleOk a) := by
  unfold Fspec_l17Ok ruleOk
  simp only [sIn, Option.bind_some, sSet k a.Set hk hl]
  cases isIn a.Kind 1 3 <;> cases isIn a.Kind 4 5 <;> cases a.N == 0 <;> cases (a.Set.length : Int) == 0 <;> rfl
theorem iRule (k : Nat) (a : Timpl_Rule) (hk : a.Set.length + 2 ≤ k) (hl : a.Set.length ≤ 1048576) : Fimpl_ruleOk k a = some (ruleOk a) := by
  unfold Fimpl_ruleOk ruleOk
  simp only [Fimpl_ruleOk.j3, Fimpl_ruleOk.j4, Fimpl_isTime, iIn, Option.bind_some, iSet k a.Set hk hl]
  by_cases h1 : a.Kind = 1
  · rw [h1]; cases setOk a.Set <;> cases a.N == 0 <;> rfl
  by_cases h2 : a.Kind = 2
  · rw [h2]; cases setOk a.Set <;> cases a.N == 0 <;> rfl
  by_cases h3 : a.Kind = 3
  · rw [h3]; cases setOk a.Set <;> cases a.N == 0 <;> rfl
  by_cases h4 : a.Kind = 4
  · rw [h4]; cases isIn a.N 0 100000 <;> cases (a.Set.length : Int) == 0 <;> rfl
  by_cases h5 : a.Kind = 5
  · rw [h5]; cases isIn a.N 0 100000 <;> cases (a.Set.length : Int) == 0 <;> rfl
  have e1 : isIn a.Kind 1 3 = false := by unfold isIn; exact decide_eq_false (by omega)
  have e2 : isIn a.Kind 4 5 = false := by unfold isIn; exact decide_eq_false (by omega)
  rw [beq_eq_false_iff_ne.2 h1, beq_eq_false_iff_ne.2 h2, beq_eq_false_iff_ne.2 h3, beq_eq_false_iff_ne.2 h4, beq_eq_false_iff_ne.2 h5, e1, e2]
  rfl
noncomputable def rulesOk (l : List Timpl_Rule) : Bool := decide (l.length ≤ 20) && l.all ruleOk
theorem all_take {α : Type} {p : α → Bool} {xs : List α} {i : Nat} {b : α} (hb : xs[i]? = some b) (h : (xs.take i).all p = true) (hp : p b = true) : (xs.take (i + 1)).all p = true := by
  rw [take_succ_get hb, List.all_append, h]; simp [hp]
theorem all_false {α : Type} {p : α → Bool} {xs : List α} {i : Nat} {b : α} (hb : xs[i]? = some b) (hp : p b = false) : xs.all p = false := by
  rw [Bool.eq_false_iff]
  intro h
  have := List.all_eq_true.1 h b (List.mem_of_getElem? hb)
  rw [hp] at this; cases this
theorem sRules (k : Nat) (l : List Timpl_Rule) (hk : l.length + 1048580 ≤ k) (hl : l.length ≤ 1048576) (hs : ∀ x ∈ l, x.Set.length ≤ 1048576) : Fspec_RulesOk k l = some (rulesOk l) := by
  unfold Fspec_RulesOk rulesOk
  by_cases h : (l.length : Int) > 20
  · rw [decide_eq_true h, decide_eq_false (by omega)]; rfl
  rw [decide_eq_false h, decide_eq_true (by omega)]
  simp only [cond_false, Bool.true_and]
  have := loop0 (L := fun k (_ : Unit) i => Fspec_RulesOk.l2 k l i) (xs := l) (k := k) (s := ()) (I := fun i _ => (l.take i).all ruleOk = true) (Q := fun r => r = l.all ruleOk) 1048578 (by omega) (by simp) ?_ ?_
  · obtain ⟨r, h1, rfl⟩ := this
    exact h1
  · intro k _ i b hk hb hi hI
    simp only [Fspec_RulesOk.l2]
    rw [ltD hi, atN hb, wid1 (by omega)]
    have hbl := hs b (List.mem_of_getElem? hb)
    simp only [cond_true, Option.bind_some, sRule k b (by omega) hbl]
    cases hp : ruleOk b
    · exact .inr ⟨false, rfl, (all_false hb hp).symm⟩
    · exact .inl ⟨(), rfl, all_take hb hI hp⟩
  · intro k _ _ hI
    simp only [Fspec_RulesOk.l2]
    rw [ltD0]
    rw [List.take_length] at hI
    exact ⟨_, rfl, hI.symm⟩
theorem iRules (k : Nat) (l : List Timpl_Rule) (hk : l.length + 1048580 ≤ k) (hl : l.length ≤ 1048576) (hs : ∀ x ∈ l, x.Set.length ≤ 1048576) : Fimpl_RulesOk k l = some (rulesOk l) := by
  unfold Fimpl_RulesOk rulesOk
  by_cases h : 20 < l.length
  · rw [decide_eq_false (p := (l.length : Int) ≤ 20) (by omega), decide_eq_false (by omega)]; rfl
  rw [decide_eq_true (p := (l.length : Int) ≤ 20) (by omega), decide_eq_true (p := l.length ≤ 20) (by omega)]
  simp only [cond_true, Bool.true_and]
  have := loop0 (L := fun k (_ : Unit) i => Fslices_IndexFunc_Rule__impl_RulesOk_1.l2 k l (l.length : Int) i) (xs := l) (k := k) (s := ()) (I := fun i _ => (l.take i).all ruleOk = true) (Q := fun r => decide (r ≥ 0) = !(l.all ruleOk)) 1048578 (by omega) (by simp) ?_ ?_
  · obtain ⟨r, h1, h2⟩ := this
    unfold Fslices_ContainsFunc_Rule__impl_RulesOk_1 Fslices_IndexFunc_Rule__impl_RulesOk_1
    rw [h1, Option.bind_some, h2, Option.bind_some, Bool.not_not]
  · intro k _ i b hk hb hi hI
    simp only [Fslices_IndexFunc_Rule__impl_RulesOk_1.l2, Fimpl_RulesOk_1]
    rw [ltD hi, atN hb, wid1 (by omega)]
    have hbl := hs b (List.mem_of_getElem? hb)
    simp only [cond_true, Option.bind_some, iRule k b (by omega) hbl]
    cases hp : ruleOk b
    · refine .inr ⟨_, rfl, ?_⟩
      rw [all_false hb hp, decide_eq_true (by omega)]; rfl
    · exact .inl ⟨(), rfl, all_take hb hI hp⟩
  · intro k _ _ hI
    simp only [Fslices_IndexFunc_Rule__impl_RulesOk_1.l2]
    rw [ltD0]
    rw [List.take_length] at hI
    refine ⟨_, rfl, ?_⟩
    rw [hI]; rfl
theorem any_take {α : Type} {p : α → Bool} {xs : List α} {i : Nat} {b : α} (hb : xs[i]? = some b) (h : (xs.take i).any p = false) (hp : p b = false) : (xs.take (i + 1)).any p = false := by
  rw [take_succ_get hb, List.any_append, h]; simp [hp]
theorem any_true {α : Type} {p : α → Bool} {xs : List α} {i : Nat} {b : α} (hb : xs[i]? = some b) (hp : p b = true) : xs.any p = true :=
  List.any_eq_true.2 ⟨b, List.mem_of_getElem? hb, hp⟩
def has (l : List Int) (x : Int) : Bool := l.any fun y => y == x
theorem sHas (k : Nat) (l : List Int) (x : Int) (hk : l.length + 1 ≤ k) (hl : l.length ≤ 1048576) : Fspec_l3Has k l x = some (has l x) := by
  unfold Fspec_l3Has has
  have := loop0 (L := fun k (_ : Unit) i => Fspec_l3Has.l2 k l x i) (xs := l) (k := k) (s := ()) (I := fun i _ => (l.take i).any (fun y => y == x) = false) (Q := fun r => r = l.any fun y => y == x) 0 (by omega) (by simp) ?_ ?_
  · obtain ⟨r, h1, rfl⟩ := this
    exact h1
  · intro k _ i b _ hb hi hI
    simp only [Fspec_l3Has.l2]
    rw [ltD hi, atN hb, wid1 (by omega)]
    simp only [cond_true, Option.bind_some]
    cases hp : b == x
    · exact .inl ⟨(), rfl, any_take hb hI hp⟩
    · exact .inr ⟨true, rfl, (any_true (p := fun y => y == x) hb hp).symm⟩
  · intro k _ _ hI
    simp only [Fspec_l3Has.l2]
    rw [ltD0]
    rw [List.take_length] at hI
    exact ⟨_, rfl, hI.symm⟩
theorem iHas (k : Nat) (l : List Int) (x : Int) (hk : l.length + 1 ≤ k) (hl : l.length ≤ 1048576) : Fslices_Contains_int k l x = some (has l x) := by
  unfold Fslices_Contains_int Fslices_Index_int has
  have := loop0 (L := fun k (_ : Unit) i => Fslices_Index_int.l2 k l x (l.length : Int) i) (xs := l) (k := k) (s := ()) (I := fun i _ => (l.take i).any (fun y => y == x) = false) (Q := fun r => decide (r ≥ 0) = l.any fun y => y == x) 0 (by omega) (by simp) ?_ ?_
  · obtain ⟨r, h1, h2⟩ := this
    rw [h1, Option.bind_some, h2]
  · intro k _ i b _ hb hi hI
    simp only [Fslices_Index_int.l2]
    rw [ltD hi, atN hb, wid1 (by omega)]
    simp only [cond_true, Option.bind_some]
    rw [show (x == b) = (b == x) from BEq.comm]
    cases hp : b == x
    · exact .inl ⟨(), rfl, any_take hb hI hp⟩
    · refine .inr ⟨_, rfl, ?_⟩
      rw [any_true (p := fun y => y == x) hb hp, decide_eq_true (by omega)]
  · intro k _ _ hI
    simp only [Fslices_Index_int.l2]
    rw [ltD0]
    rw [List.take_length] at hI
    refine ⟨_, rfl, ?_⟩
    rw [hI]; rfl
def allIn (l gs : List Int) : Bool := l.all fun x => has gs x
theorem sAllIn (k : Nat) (l gs : List Int) (hk : l.length + 1048578 ≤ k) (hl : l.length ≤ 1048576) (hg : gs.length ≤ 1048576) : Fspec_l17All k l gs = some (allIn l gs) := by
  unfold Fspec_l17All allIn
  have := loop0 (L := fun k (_ : Unit) i => Fspec_l17All.l2 k l gs i) (xs := l) (k := k) (s := ()) (I := fun i _ => (l.take i).all (fun x => has gs x) = true) (Q := fun r => r = l.all fun x => has gs x) 1048577 (by omega) (by simp) ?_ ?_
  · obtain ⟨r, h1, rfl⟩ := this
    exact h1
  · intro k _ i b hk hb hi hI
    simp only [Fspec_l17All.l2]
    rw [ltD hi, atN hb, wid1 (by omega)]
    simp only [cond_true, Option.bind_some, sHas k gs b (by omega) hg]
    cases hp : has gs b
    · exact .inr ⟨false, rfl, (all_false (p := fun x => has gs x) hb hp).symm⟩
    · exact .inl ⟨(), rfl, all_take hb hI hp⟩
  · intro k _ _ hI
    simp only [Fspec_l17All.l2]
    rw [ltD0]
    rw [List.take_length] at hI
    exact ⟨_, rfl, hI.symm⟩
theorem iAllIn (k : Nat) (l : List Int) (q : Timpl_Ask) (hk : l.length + 1048578 ≤ k) (hl : l.length ≤ 1048576) (hg : q.Groups.length ≤ 1048576) : ∃ u, Fslices_ContainsFunc_int__impl_Rule_allows_1 k l q = some (!(allIn l q.Groups), u) := by
  obtain ⟨s, o, gs, n, u⟩ := q
  simp only at hg
  unfold Fslices_ContainsFunc_int__impl_Rule_allows_1 Fslices_IndexFunc_int__impl_Rule_allows_1 allIn
  have := loop0 (L := fun k (_ : Unit) i => Fslices_IndexFunc_int__impl_Rule_allows_1.l2 k l (l.length : Int) i s o gs n u) (xs := l) (k := k) (s := ()) (I := fun i _ => (l.take i).all (fun x => has gs x) = true) (Q := fun r => decide (r.1 ≥ 0) = !(l.all fun x => has gs x)) 1048577 (by omega) (by simp) ?_ ?_
  · obtain ⟨r, h1, h2⟩ := this
    simp only
    rw [h1, Option.bind_some, h2]
    exact ⟨_, rfl⟩
  · intro k _ i b hk hb hi hI
    simp only [Fslices_IndexFunc_int__impl_Rule_allows_1.l2, Fimpl_Rule_allows_1]
    rw [ltD hi, atN hb, wid1 (by omega)]
    simp only [cond_true, Option.bind_some, iHas k gs b (by omega) hg]
    cases hp : has gs b
    · refine .inr ⟨_, rfl, ?_⟩
      rw [all_false (p := fun x => has gs x) hb hp, decide_eq_true (by omega)]; rfl
    · exact .inl ⟨(), rfl, all_take hb hI hp⟩
  · intro k _ _ hI
    simp only [Fslices_IndexFunc_int__impl_Rule_allows_1.l2]
    rw [ltD0]
    rw [List.take_length] at hI
    refine ⟨_, rfl, ?_⟩
    rw [hI]; rfl
def oneOk (a : Timpl_Rule) (q : Timpl_Ask) : Bool := cond (a.Kind == 1) (has a.Set q.Server) (cond (a.Kind == 2) (has a.Set q.Op) (cond (a.Kind == 3) (allIn a.Set q.Groups) (cond (a.Kind == 4) (decide (q.Now ≤ a.N)) (decide (q.Used < a.N)))))
theorem sOne (k : Nat) (a : Timpl_Rule) (q : Timpl_Ask) (hk : a.Set.length + 1048578 ≤ k) (hl : a.Set.length ≤ 1048576) (hg : q.Groups.length ≤ 1048576) : Fspec_l17One k a q = some (oneOk a q) := by
  unfold Fspec_l17One oneOk
  simp only [sHas k a.Set _ (by omega) hl, sAllIn k a.Set _ hk hl hg, Option.bind_some]
  cases a.Kind == 1 <;> cases a.Kind == 2 <;> cases a.Kind == 3 <;> cases a.Kind == 4 <;> rfl
theorem iOne (k : Nat) (a : Timpl_Rule) (q : Timpl_Ask) (hk : a.Set.length + 1048578 ≤ k) (hl : a.Set.length ≤ 1048576) (hg : q.Groups.length ≤ 1048576) : Fimpl_Rule_allows k a q = some (oneOk a q) := by
  obtain ⟨u, hu⟩ := iAllIn k a.Set q hk hl hg
  unfold Fimpl_Rule_allows oneOk
  simp only [iHas k a.Set _ (by omega) hl, hu, Option.bind_some, Bool.not_not]
  cases a.Kind == 1 <;> cases a.Kind == 2 <;> cases a.Kind == 3 <;> cases a.Kind == 4 <;> rfl
theorem sAllows (k : Nat) (l : List Timpl_Rule) (q : Timpl_Ask) (hk : l.length + 2097160 ≤ k) (hl : l.length ≤ 1048576) (hs : ∀ x ∈ l, x.Set.length ≤ 1048576) (hg : q.Groups.length ≤ 1048576) : Fspec_Allows k l q = some (rulesOk l && l.all fun a => oneOk a q) := by
  unfold Fspec_Allows
  rw [sRules k l (by omega) hl hs, Option.bind_some]
  cases rulesOk l
  · rfl
  obtain ⟨s, o, gs, n, u⟩ := q
  simp only at hg
  simp only [Bool.not_true, cond_false, Bool.true_and]
  have := loop0 (L := fun k (_ : Unit) i => Fspec_Allows.l2 k l i s o gs n u) (xs := l) (k := k) (s := ()) (I := fun i _ => (l.take i).all (fun a => oneOk a ⟨s, o, gs, n, u⟩) = true) (Q := fun r => r = l.all fun a => oneOk a ⟨s, o, gs, n, u⟩) 2097155 (by omega) (by simp) ?_ ?_
  · obtain ⟨r, h1, rfl⟩ := this
    exact h1
  · intro k _ i b hk hb hi hI
    have hbl := hs b (List.mem_of_getElem? hb)
    simp only [Fspec_Allows.l2]
    rw [ltD hi, atN hb, wid1 (by omega)]
    simp only [cond_true, Option.bind_some, sOne k b ⟨s, o, gs, n, u⟩ (by omega) hbl hg]
    cases hp : oneOk b ⟨s, o, gs, n, u⟩
    · exact .inr ⟨false, rfl, (all_false (p := fun a => oneOk a ⟨s, o, gs, n, u⟩) hb hp).symm⟩
    · exact .inl ⟨(), rfl, all_take hb hI hp⟩
  · intro k _ _ hI
    simp only [Fspec_Allows.l2]
    rw [ltD0]
    rw [List.take_length] at hI
    exact ⟨_, rfl, hI.symm⟩
theorem iAllows (k : Nat) (l : List Timpl_Rule) (q : Timpl_Ask) (hk : l.length + 2097160 ≤ k) (hl : l.length ≤ 1048576) (hs : ∀ x ∈ l, x.Set.length ≤ 1048576) (hg : q.Groups.length ≤ 1048576) : Fimpl_Allows k l q = some (rulesOk l && l.all fun a => oneOk a q) := by
  unfold Fimpl_Allows
  rw [iRules k l (by omega) hl hs, Option.bind_some]
  cases rulesOk l
  · rfl
  obtain ⟨s, o, gs, n, u⟩ := q
  simp only at hg
  simp only [cond_true, Bool.true_and]
  unfold Fslices_ContainsFunc_Rule__impl_Allows_1 Fslices_IndexFunc_Rule__impl_Allows_1
  have := loop0 (L := fun k (_ : Unit) i => Fslices_IndexFunc_Rule__impl_Allows_1.l2 k l (l.length : Int) i s o gs n u) (xs := l) (k := k) (s := ()) (I := fun i _ => (l.take i).all (fun a => oneOk a ⟨s, o, gs, n, u⟩) = true) (Q := fun r => decide (r.1 ≥ 0) = !(l.all fun a => oneOk a ⟨s, o, gs, n, u⟩)) 2097155 (by omega) (by simp) ?_ ?_
  · obtain ⟨r, h1, h2⟩ := this
    simp only
    rw [h1, Option.bind_some, h2, Option.bind_some, Bool.not_not]
  · intro k _ i b hk hb hi hI
    have hbl := hs b (List.mem_of_getElem? hb)
    simp only [Fslices_IndexFunc_Rule__impl_Allows_1.l2, Fimpl_Allows_1]
    rw [ltD hi, atN hb, wid1 (by omega)]
    simp only [cond_true, Option.bind_some, iOne k b ⟨s, o, gs, n, u⟩ (by omega) hbl hg]
    cases hp : oneOk b ⟨s, o, gs, n, u⟩
    · refine .inr ⟨_, rfl, ?_⟩
      rw [all_false (p := fun a => oneOk a ⟨s, o, gs, n, u⟩) hb hp, decide_eq_true (by omega)]; rfl
    · exact .inl ⟨(), rfl, all_take hb hI hp⟩
  · intro k _ _ hI
    simp only [Fslices_IndexFunc_Rule__impl_Allows_1.l2]
    rw [ltD0]
    rw [List.take_length] at hI
    refine ⟨_, rfl, ?_⟩
    rw [hI]; rfl
theorem wfAskG {a : Tlaws_Ask} (w : wfTlaws_Ask a) : a.Groups.length ≤ big := w.2.2.1.1
theorem szAskT (k : Nat) (a : Tlaws_Ask) (n : Int) (h0 : 0 ≤ n) (h1 : n ≤ 1048576) (w : wfTlaws_Ask a) :
    ∃ r, Flaws_szAsk k a n = some r ∧ (r < 0 ∨ (0 ≤ r ∧ r ≤ n ∧ a.Groups.length ≤ n)) := by
  have hw := wfAskG w
  unfold big at hw
  unfold Flaws_szAsk Flaws_szIntS
  rw [wid (by omega) (by omega)]
  by_cases h : n - (a.Groups.length : Int) < 0
  · rw [decide_eq_true h]
    exact ⟨-1, rfl, .inl (by omega)⟩
  · rw [decide_eq_false h]
    simp only [cond_false, Option.bind_some]
    rw [decide_eq_false h]
    exact ⟨_, rfl, .inr ⟨by omega, by omega, by omega⟩⟩
theorem lawExactAllows (a : List Tlaws_Rule) (q : Tlaws_Ask) (w : wfR wfTlaws_Rule a) (wq : wfTlaws_Ask q) : ∃ k, Flaws_FnExactAllows k a q = some true := by
  refine ⟨4194320 + a.length, ?_⟩
  generalize hK : 4194320 + a.length = K
  obtain ⟨r, hr, h⟩ := szRls K a 1048576 (by omega) (by omega) (by omega) w
  unfold Flaws_FnExactAllows
  rw [hr, Option.bind_some]
  rcases h with h | ⟨h1, h2, h3, h4⟩
  · rw [decide_eq_true h]; rfl
  · rw [decide_eq_false (by omega)]
    obtain ⟨r2, hr2, h⟩ := szAskT K q r h1 h2 wq
    simp only [cond_false, hr2, Option.bind_some]
    rcases h with h | ⟨j1, j2, j3⟩
    · rw [decide_eq_true h]; rfl
    rw [decide_eq_false (by omega)]
    have hs : ∀ x ∈ a, x.Set.length ≤ 1048576 := fun x hx => by have := h4 x hx; omega
    have hs2 : ∀ x ∈ a.map toR, x.Set.length ≤ 1048576 := fun x hx => by
      obtain ⟨y, hy, rfl⟩ := List.mem_map.1 hx
      exact hs y hy
    have hm : (a.map toR).length = a.length := by simp
    have hq : Flaws_toAsk K q = some ⟨q.Server, q.Op, q.Groups, q.Now, q.Used⟩ := by
      unfold Flaws_toAsk
      rw [toInts K q.Groups (by omega) (by omega)]; rfl
    have hg : q.Groups.length ≤ 1048576 := by omega
    have he : Flaws_eqAsk K ⟨q.Server, q.Op, q.Groups, q.Now, q.Used⟩ ⟨q.Server, q.Op, q.Groups, q.Now, q.Used⟩ = some true := by
      unfold Flaws_eqAsk
      simp [eqInts K q.Groups (by omega) (by omega)]
    simp only [cond_false, toRls K a (by omega) (by omega) hs, hq, Option.bind_some, sAllows K (a.map toR) ⟨q.Server, q.Op, q.Groups, q.Now, q.Used⟩ (by omega) (by omega) hs2 hg, iAllows K (a.map toR) ⟨q.Server, q.Op, q.Groups, q.Now, q.Used⟩ (by omega) (by omega) hs2 hg, eqRls K _ (by omega) (by omega) hs2, he, bne_self_eq_false, Bool.not_true]
end Go.Proofs.Ytflcaebmammlfaa.M
