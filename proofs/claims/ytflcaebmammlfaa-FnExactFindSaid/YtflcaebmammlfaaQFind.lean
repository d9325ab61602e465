/- The program's Find and the reference's tell the same. Conditions: none. -/
import Derived.Test.YtflcaebmammlfaaFFind
namespace Go.Proofs.Ytflcaebmammlfaa.M
open Go Go.MG
set_option linter.unusedVariables false
set_option linter.unusedSimpArgs false
theorem wid {n : Int} (h1 : -9223372036854775808 ≤ n) (h2 : n ≤ 9223372036854775807) : IntKind.i64.wrap n = n := by
  rw [IntKind.wrap_i64]; omega
theorem atN {α : Type} {xs : List α} {i : Nat} {b : α} (h : xs[i]? = some b) : at? xs (i : Int) = some b := by
  simp [at?, h]
theorem atLt {α : Type} {xs : List α} {i : Nat} (h : i < xs.length) : ∃ b, xs[i]? = some b := ⟨xs[i], List.getElem?_eq_getElem h⟩
/-- A loop over a list, by an invariant. -/
theorem loopInv {α S R : Type} {xs : List α} {L : Nat → S → Int → Option R} {I : Nat → S → Prop} {Q : R → Prop} {n0 : Nat}
    (h : ∀ k s (i : Nat) b, n0 ≤ k → xs[i]? = some b → i < xs.length → I i s → (∃ s', L (k + 1) s (i : Int) = L k s' ((i + 1 : Nat) : Int) ∧ I (i + 1) s') ∨ ∃ r, L (k + 1) s (i : Int) = some r ∧ Q r)
    (he : ∀ k s, n0 ≤ k → I xs.length s → ∃ r, L (k + 1) s (xs.length : Int) = some r ∧ Q r) :
    ∀ (m i k : Nat) (s : S), i + m = xs.length → n0 + m + 1 ≤ k → I i s → ∃ r, L k s (i : Int) = some r ∧ Q r := by
  intro m
  induction m with
  | zero =>
    intro i k s hi hk hI
    obtain ⟨k, rfl⟩ : ∃ j, k = j + 1 := ⟨k - 1, by omega⟩
    have : i = xs.length := by omega
    subst this
    exact he k s (by omega) hI
  | succ m ih =>
    intro i k s hi hk hI
    obtain ⟨k, rfl⟩ : ∃ j, k = j + 1 := ⟨k - 1, by omega⟩
    obtain ⟨b, hb⟩ := atLt (xs := xs) (i := i) (by omega)
    rcases h k s i b (by omega) hb (by omega) hI with ⟨s', h1, h2⟩ | h1
    · rw [h1]
      exact ih (i + 1) k s' (by omega) (by omega) h2
    · exact h1
theorem loop0 {α S R : Type} {xs : List α} {L : Nat → S → Int → Option R} {I : Nat → S → Prop} {Q : R → Prop} (n0 : Nat) {k : Nat} {s : S}
    (hk : n0 + xs.length + 1 ≤ k) (h0 : I 0 s)
    (h : ∀ k s (i : Nat) b, n0 ≤ k → xs[i]? = some b → i < xs.length → I i s → (∃ s', L (k + 1) s (i : Int) = L k s' ((i + 1 : Nat) : Int) ∧ I (i + 1) s') ∨ ∃ r, L (k + 1) s (i : Int) = some r ∧ Q r)
    (he : ∀ k s, n0 ≤ k → I xs.length s → ∃ r, L (k + 1) s (xs.length : Int) = some r ∧ Q r) : ∃ r, L k s 0 = some r ∧ Q r :=
  loopInv h he xs.length 0 k s (by omega) (by omega) h0
theorem wid1 {i : Nat} (h : i ≤ 4611686018427387904) : IntKind.i64.wrap ((i : Int) + 1) = ((i + 1 : Nat) : Int) := by
  rw [wid (by omega) (by omega)]; omega
theorem ltD {i n : Nat} (h : i < n) : decide ((i : Int) < (n : Int)) = true := by simp; omega
theorem ltD0 {n : Nat} : decide ((n : Int) < (n : Int)) = false := by simp
theorem take_succ_get {α : Type} {xs : List α} {i : Nat} {b : α} (h : xs[i]? = some b) : xs.take (i + 1) = xs.take i ++ [b] := by
  rw [List.take_add_one, h]; rfl
/-- What a copy has become after some rounds. -/
theorem set_copy {α : Type} {xs : List α} {z b : α} {i : Nat} (h : xs[i]? = some b) : (xs.take i ++ List.replicate (xs.length - i) z).set i b = xs.take (i + 1) ++ List.replicate (xs.length - (i + 1)) z := by
  have hi := (List.getElem?_eq_some_iff.1 h).1
  rw [take_succ_get h, List.set_append_right _ _ (by simp; omega)]
  have e : xs.length - i = (xs.length - (i + 1)) + 1 := by omega
  rw [e, List.replicate_succ]
  have e2 : i - (xs.take i).length = 0 := by simp; omega
  rw [e2]
  simp
theorem get_copy {α : Type} {xs : List α} {z : α} {i : Nat} (h : i < xs.length) : (xs.take i ++ List.replicate (xs.length - i) z)[i]? = some z := by
  rw [List.getElem?_append_right (by simp; omega)]
  have : i - (xs.take i).length = 0 := by simp; omega
  rw [this, List.getElem?_replicate]
  simp; omega
def toE (a : Tlaws_Event) : Timpl_Event := ⟨a.Kind, a.Realm, a.By, a.Client, a.Service, a.Key, a.Parent, a.Evid, ⟨a.Rest.Servers, a.Rest.Ops, a.Rest.End⟩⟩
theorem toEs (k : Nat) (xs : List Tlaws_Event) (hk : xs.length + 1 ≤ k) (hl : xs.length ≤ 1048576) : Flaws_toEventS k xs = some (xs.map toE) := by
  unfold Flaws_toEventS
  rw [decide_eq_true (by omega)]
  simp only [cond_true]
  have := loop0 (L := fun k s i => Flaws_toEventS.l2 k xs s i) (xs := xs) (k := k) (s := List.replicate (xs.length : Int).toNat (⟨(0 : Int), (0 : Int), (0 : Int), (0 : Int), (0 : Int), (0 : Int), (0 : Int), (0 : Int), (⟨(0 : Int), (0 : Int), (0 : Int)⟩ : Timpl_Rest)⟩ : Timpl_Event)) (I := fun i s => s = (xs.map toE).take i ++ List.replicate ((xs.map toE).length - i) (⟨(0 : Int), (0 : Int), (0 : Int), (0 : Int), (0 : Int), (0 : Int), (0 : Int), (0 : Int), (⟨(0 : Int), (0 : Int), (0 : Int)⟩ : Timpl_Rest)⟩ : Timpl_Event)) (Q := fun r => r = xs.map toE) 0 (by omega) (by simp) ?_ ?_
  · obtain ⟨r, h1, rfl⟩ := this
    exact h1
  · intro k s i b hk hb hi hs'
    subst hs'
    have hb2 : (xs.map toE)[i]? = some (toE b) := by rw [List.getElem?_map, hb]; rfl
    simp only [Flaws_toEventS.l2, Flaws_toEvent, Flaws_toRest]
    rw [ltD hi, atN hb, atN (get_copy (by simpa using hi)), wid1 (by omega)]
    refine .inl ⟨_, rfl, ?_⟩
    simp only [Int.toNat_natCast]
    exact set_copy hb2
  · intro k s _ hs'
    subst hs'
    simp only [Flaws_toEventS.l2]
    rw [ltD0]
    refine ⟨_, rfl, ?_⟩
    rw [List.length_map, Nat.sub_self, List.replicate_zero, List.append_nil]
    exact List.take_of_length_le (by simp)
theorem eqEs (k : Nat) (xs : List Timpl_Event) (hk : xs.length + 1 ≤ k) (hl : xs.length ≤ 1048576) : Flaws_eqEventS k xs xs = some true := by
  unfold Flaws_eqEventS
  simp only [bne_self_eq_false, cond_false]
  have := loop0 (L := fun k (s : Unit) i => Flaws_eqEventS.l2 k xs xs i) (xs := xs) (k := k) (s := ()) (I := fun i s => True) (Q := fun r => r = true) 0 (by omega) trivial ?_ ?_
  · obtain ⟨r, h1, rfl⟩ := this
    exact h1
  · intro k s i b hk hb hi _
    simp only [Flaws_eqEventS.l2, Flaws_eqEvent, Flaws_eqRest]
    rw [ltD hi, atN hb, wid1 (by omega)]
    simp only [cond_true, Option.bind_some, bne_self_eq_false, cond_false, Bool.not_true]
    exact .inl ⟨(), trivial, trivial⟩
  · intro k s _ _
    simp only [Flaws_eqEventS.l2]
    rw [ltD0]
    exact ⟨_, rfl, rfl⟩
theorem findBoth (l : List Timpl_Event) (x : Int) (hl : l.length ≤ 1048576) : ∀ (m i k : Nat), i + m = l.length → m + 1 ≤ k → ∃ r, Fspec_Find.l2 k l x (i : Int) = some r ∧ Fslices_IndexFunc_Event__impl_Find_1.l2 k l (l.length : Int) (i : Int) x = some (r, x) := by
  intro m
  induction m with
  | zero =>
    intro i k hi hk
    obtain ⟨k, rfl⟩ : ∃ j, k = j + 1 := ⟨k - 1, by omega⟩
    simp only [Fspec_Find.l2, Fslices_IndexFunc_Event__impl_Find_1.l2]
    rw [decide_eq_false (by omega)]
    exact ⟨_, rfl, rfl⟩
  | succ m ih =>
    intro i k hi hk
    obtain ⟨k, rfl⟩ : ∃ j, k = j + 1 := ⟨k - 1, by omega⟩
    obtain ⟨b, hb⟩ := atLt (xs := l) (i := i) (by omega)
    simp only [Fspec_Find.l2, Fslices_IndexFunc_Event__impl_Find_1.l2, Fimpl_Find_1]
    rw [decide_eq_true (by omega), atN hb, wid1 (by omega)]
    simp only [cond_true, Option.bind_some]
    cases b.Key == x
    · exact ih (i + 1) k (by omega) (by omega)
    · exact ⟨_, rfl, rfl⟩
theorem lawExactFind (a : List Tlaws_Event) (x : Int) (w : wfR wfTlaws_Event a) (wx : wfI x) : ∃ k, Flaws_FnExactFind k a x = some true := by
  refine ⟨1 + a.length, ?_⟩
  generalize hK : 1 + a.length = K
  have hw := w.1
  unfold big at hw
  unfold Flaws_FnExactFind Flaws_szEventS
  rw [wid (by omega) (by omega)]
  by_cases h : (1048576 : Int) - (a.length : Int) < 0
  · rw [decide_eq_true h]; rfl
  rw [decide_eq_false h]
  simp only [cond_false, Option.bind_some]
  rw [decide_eq_false h]
  have hm : (a.map toE).length = a.length := by simp
  obtain ⟨r, r1, r2⟩ := findBoth (a.map toE) x (by omega) a.length 0 K (by omega) (by omega)
  have s1 : Fspec_Find K (a.map toE) x = some r := r1
  have s2 : Fimpl_Find K (a.map toE) x = some r := by
    unfold Fimpl_Find Fslices_IndexFunc_Event__impl_Find_1
    have r2' : Fslices_IndexFunc_Event__impl_Find_1.l2 K (a.map toE) ((a.map toE).length : Int) 0 x = some (r, x) := r2
    rw [r2']; rfl
  simp only [cond_false, toEs K a (by omega) (by omega), Option.bind_some, s1, s2, eqEs K (a.map toE) (by omega) (by omega), bne_self_eq_false, Bool.not_true]
end Go.Proofs.Ytflcaebmammlfaa.M
